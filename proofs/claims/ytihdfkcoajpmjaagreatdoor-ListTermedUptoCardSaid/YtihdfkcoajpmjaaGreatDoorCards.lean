/-
  DERIVED. GIVEN WITH THE SEED: THE CARDS: each row of YtihdfkcoajpmjaaGreatDoorRows.lean that lists a variable, with what it lists TIED to the program's text (the seventh form; the later family's looks); each row that meets fmt, with fmt's text TOLD by the authors' own Lean function (tested against real Go, not proved from fmt's source: count such statements apart). THE CARD IS WHAT COUNTS. Prove the row's statement (the work); the ties are given (YtihdfkcoajpmjaaGreatDoorTie.lean); close each card by the builder's one call (the guide's Derived/Test/ToyasCard.lean, 'card_holds'). Laid BY PROGRAM, IN A SANDBOX (cutbox-door.mjs). By AI agents, Wed Nov 11 2026. No macro, syntax, notation, axiom, sorry.
-/
import Derived.Test.YtihdfkcoajpmjaaGreatDoorRows
import GoSem.ClaimSeven
namespace Go.Proofs.YtihdfkcoajpmjaaGreatDoor
namespace Rows

/-- THE TIED CARD OF 'mastkeep2.ListTermed'. -/
def listTermedCard : Claim7 := { stood := { row := listTermedRow, standIns := [], harness := (true, "b4bfb884eaa470e3557384e754d2f222ea1510c2e9ec96792d549268d74d4a31"), looks := true }, kinds := [], alts := [], laidByText := true, laidKinds := [.data, .data, .data, .sentinel, .sentinel], laidTests := true, laidLooks := .later }
def ListTermedCardSaid : Prop := Claim7.holds Tryz.pinned (.plain (OpenSpec.ofChange listTermedSpec)) listTermedCard

/-- THE SECOND FORM's CARD OF 'mastkeep2.ListTermed'. -/
def listTermedUptoCard : Claim7 := { stood := { row := listTermedUptoRow, standIns := [], harness := (true, "b4bfb884eaa470e3557384e754d2f222ea1510c2e9ec96792d549268d74d4a31"), looks := true }, kinds := [], alts := [], laidByText := true, laidKinds := [.data, .data, .data, .sentinel, .sentinel], laidTests := true, laidLooks := .later }
def ListTermedUptoCardSaid : Prop := Claim7.holds Tryz.pinned (.plain (OpenSpec.upto listTermedSpec)) listTermedUptoCard
end Rows
end Go.Proofs.YtihdfkcoajpmjaaGreatDoor
