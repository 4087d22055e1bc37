/-
  DERIVED. GIVEN WITH THE SEED: THE CARDS: each row of YtdnajcohdhkidaaDoorRows.lean that lists a variable, with what it lists TIED to the program's text (the seventh form; the later family's looks); each row that meets fmt, with fmt's text TOLD by the authors' own Lean function (tested against real Go, not proved from fmt's source: count such statements apart). THE CARD IS WHAT COUNTS. Prove the row's statement (the work); the ties are given (YtdnajcohdhkidaaDoorTie.lean); close each card by the builder's one call (the guide's Derived/Test/ToyasCard.lean, 'card_holds'). Laid BY PROGRAM, IN A SANDBOX (cutbox-door.mjs). By AI agents, Wed Nov 11 2026. No macro, syntax, notation, axiom, sorry.
-/
import Derived.Test.YtdnajcohdhkidaaDoorRows
import GoSem.ClaimSeven
namespace Go.Proofs.YtdnajcohdhkidaaDoor
namespace Rows

/-- THE TIED CARD OF 'mastkeep1.TopServed'. -/
def topServedCard : Claim7 := { stood := { row := topServedRow, standIns := [], harness := (true, "c25cf56b3bb31cc1222ffdac1a7d1d6a708d09e47a3fb76380545c0149d48635"), looks := false }, kinds := [], alts := [], laidByText := true, laidKinds := [.data, .pinned], laidTests := true, laidLooks := .later }
def TopServedCardSaid : Prop := Claim7.holds Tryd.pinned (.plain (OpenSpec.ofChange topServedSpec)) topServedCard

/-- THE SECOND FORM's CARD OF 'mastkeep1.TopServed'. -/
def topServedUptoCard : Claim7 := { stood := { row := topServedUptoRow, standIns := [], harness := (true, "c25cf56b3bb31cc1222ffdac1a7d1d6a708d09e47a3fb76380545c0149d48635"), looks := false }, kinds := [], alts := [], laidByText := true, laidKinds := [.data, .pinned], laidTests := true, laidLooks := .later }
def TopServedUptoCardSaid : Prop := Claim7.holds Tryd.pinned (.plain (OpenSpec.upto topServedSpec)) topServedUptoCard
end Rows
end Go.Proofs.YtdnajcohdhkidaaDoor
