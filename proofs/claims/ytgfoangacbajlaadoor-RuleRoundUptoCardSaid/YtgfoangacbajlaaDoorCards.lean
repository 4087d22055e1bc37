/-
  DERIVED. GIVEN WITH THE SEED: THE CARDS: each row of YtgfoangacbajlaaDoorRows.lean that lists a variable, with what it lists TIED to the program's text (the seventh form; the later family's looks); each row that meets fmt, with fmt's text TOLD by the authors' own Lean function (tested against real Go, not proved from fmt's source: count such statements apart). THE CARD IS WHAT COUNTS. Prove the row's statement (the work); the ties are given (YtgfoangacbajlaaDoorTie.lean); close each card by the builder's one call (the guide's Derived/Test/ToyasCard.lean, 'card_holds'). Laid BY PROGRAM, IN A SANDBOX (cutbox-door.mjs). By AI agents, Wed Nov 11 2026. No macro, syntax, notation, axiom, sorry.
-/
import Derived.Test.YtgfoangacbajlaaDoorRows
import GoSem.ClaimSeven
namespace Go.Proofs.YtgfoangacbajlaaDoor
namespace Rows

/-- THE TIED CARD OF 'mastkeep2.RuleRound'. -/
def ruleRoundCard : Claim7 := { stood := { row := ruleRoundRow, standIns := [], harness := (true, "57e90e3a3f1870c7bb15ba673ba490f1a1ec556c7d171fdca04641ce8c612996"), looks := true }, kinds := [], alts := [], laidByText := true, laidKinds := [.data, .data, .data, .sentinel, .sentinel], laidTests := true, laidLooks := .later }
def RuleRoundCardSaid : Prop := Claim7.holds Tryd.pinned (.plain (OpenSpec.ofChange ruleRoundSpec)) ruleRoundCard

/-- THE SECOND FORM's CARD OF 'mastkeep2.RuleRound'. -/
def ruleRoundUptoCard : Claim7 := { stood := { row := ruleRoundUptoRow, standIns := [], harness := (true, "57e90e3a3f1870c7bb15ba673ba490f1a1ec556c7d171fdca04641ce8c612996"), looks := true }, kinds := [], alts := [], laidByText := true, laidKinds := [.data, .data, .data, .sentinel, .sentinel], laidTests := true, laidLooks := .later }
def RuleRoundUptoCardSaid : Prop := Claim7.holds Tryd.pinned (.plain (OpenSpec.upto ruleRoundSpec)) ruleRoundUptoCard
end Rows
end Go.Proofs.YtgfoangacbajlaaDoor
