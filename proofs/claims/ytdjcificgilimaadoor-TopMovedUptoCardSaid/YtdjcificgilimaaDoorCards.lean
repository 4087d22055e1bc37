/-
  DERIVED. GIVEN WITH THE SEED: THE CARDS: each row of YtdjcificgilimaaDoorRows.lean that lists a variable, with what it lists TIED to the program's text (the seventh form; the later family's looks); each row that meets fmt, with fmt's text TOLD by the authors' own Lean function (tested against real Go, not proved from fmt's source: count such statements apart). THE CARD IS WHAT COUNTS. Prove the row's statement (the work); the ties are given (YtdjcificgilimaaDoorTie.lean); close each card by the builder's one call (the guide's Derived/Test/ToyasCard.lean, 'card_holds'). Laid BY PROGRAM, IN A SANDBOX (cutbox-door.mjs). By AI agents, Wed Nov 11 2026. No macro, syntax, notation, axiom, sorry.
-/
import Derived.Test.YtdjcificgilimaaDoorRows
import GoSem.ClaimSeven
namespace Go.Proofs.YtdjcificgilimaaDoor
namespace Rows

/-- THE TIED CARD OF 'mastkeep1.TopMoved'. -/
def topMovedCard : Claim7 := { stood := { row := topMovedRow, standIns := [], harness := (true, "af2d0107425aeda9ed60dc7246486da3e5017556895aaf445b0fdf20cf6a0495"), looks := false }, kinds := [], alts := [], laidByText := true, laidKinds := [.data, .pinned], laidTests := true, laidLooks := .later }
def TopMovedCardSaid : Prop := Claim7.holds Tryd.pinned (.plain (OpenSpec.ofChange topMovedSpec)) topMovedCard

/-- THE SECOND FORM's CARD OF 'mastkeep1.TopMoved'. -/
def topMovedUptoCard : Claim7 := { stood := { row := topMovedUptoRow, standIns := [], harness := (true, "af2d0107425aeda9ed60dc7246486da3e5017556895aaf445b0fdf20cf6a0495"), looks := false }, kinds := [], alts := [], laidByText := true, laidKinds := [.data, .pinned], laidTests := true, laidLooks := .later }
def TopMovedUptoCardSaid : Prop := Claim7.holds Tryd.pinned (.plain (OpenSpec.upto topMovedSpec)) topMovedUptoCard
end Rows
end Go.Proofs.YtdjcificgilimaaDoor
