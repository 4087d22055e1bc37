/-
  DERIVED. GIVEN WITH THE SEED: THE CARDS: each row of YtgalcdolhnckmaaGreatDoorRows.lean that lists a variable, with what it lists TIED to the program's text (the seventh form; the later family's looks); each row that meets fmt, with fmt's text TOLD by the authors' own Lean function (tested against real Go, not proved from fmt's source: count such statements apart). THE CARD IS WHAT COUNTS. Prove the row's statement (the work); the ties are given (YtgalcdolhnckmaaGreatDoorTie.lean); close each card by the builder's one call (the guide's Derived/Test/ToyasCard.lean, 'card_holds'). Laid BY PROGRAM, IN A SANDBOX (cutbox-door.mjs). By AI agents, Wed Nov 11 2026. No macro, syntax, notation, axiom, sorry.
-/
import Derived.Test.YtgalcdolhnckmaaGreatDoorRows
import GoSem.ClaimSeven
namespace Go.Proofs.YtgalcdolhnckmaaGreatDoor
namespace Rows

/-- THE TIED CARD OF 'mastkeep2.ListSorted'. -/
def listSortedCard : Claim7 := { stood := { row := listSortedRow, standIns := [], harness := (true, "82c3fdc9b925a472ac4b74210c711436a6231767bcb910cdcfdbe631ea6a81e9"), looks := true }, kinds := [], alts := [], laidByText := true, laidKinds := [.data, .data, .data, .sentinel, .sentinel], laidTests := true, laidLooks := .later }
def ListSortedCardSaid : Prop := Claim7.holds Tryz.pinned (.plain (OpenSpec.ofChange listSortedSpec)) listSortedCard

/-- THE SECOND FORM's CARD OF 'mastkeep2.ListSorted'. -/
def listSortedUptoCard : Claim7 := { stood := { row := listSortedUptoRow, standIns := [], harness := (true, "82c3fdc9b925a472ac4b74210c711436a6231767bcb910cdcfdbe631ea6a81e9"), looks := true }, kinds := [], alts := [], laidByText := true, laidKinds := [.data, .data, .data, .sentinel, .sentinel], laidTests := true, laidLooks := .later }
def ListSortedUptoCardSaid : Prop := Claim7.holds Tryz.pinned (.plain (OpenSpec.upto listSortedSpec)) listSortedUptoCard
end Rows
end Go.Proofs.YtgalcdolhnckmaaGreatDoor
