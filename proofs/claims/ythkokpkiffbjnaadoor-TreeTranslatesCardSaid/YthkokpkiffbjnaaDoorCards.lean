/-
  DERIVED. GIVEN WITH THE SEED: THE CARDS: each row of YthkokpkiffbjnaaDoorRows.lean that lists a variable, with what it lists TIED to the program's text (the seventh form; the later family's looks); each row that meets fmt, with fmt's text TOLD by the authors' own Lean function (tested against real Go, not proved from fmt's source: count such statements apart). THE CARD IS WHAT COUNTS. Prove the row's statement (the work); the ties are given (YthkokpkiffbjnaaDoorTie.lean); close each card by the builder's one call (the guide's Derived/Test/ToyasCard.lean, 'card_holds'). Laid BY PROGRAM, IN A SANDBOX (cutbox-door.mjs). By AI agents, Wed Nov 11 2026. No macro, syntax, notation, axiom, sorry.
-/
import Derived.Test.YthkokpkiffbjnaaDoorRows
import GoSem.ClaimSeven
namespace Go.Proofs.YthkokpkiffbjnaaDoor
namespace Rows

/-- THE TIED CARD OF 'mastkeep2.TreeTranslates'. -/
def treeTranslatesCard : Claim7 := { stood := { row := treeTranslatesRow, standIns := [], harness := (true, "5038f3b313ad74e269ac813ecc23e9bebf6fb500dcc49e53a3220ba5509aad49"), looks := false }, kinds := [], alts := [], laidByText := true, laidKinds := [.data, .pinned], laidTests := true, laidLooks := .later }
def TreeTranslatesCardSaid : Prop := Claim7.holds Tryd.pinned (.plain (OpenSpec.ofChange treeTranslatesSpec)) treeTranslatesCard

/-- THE SECOND FORM's CARD OF 'mastkeep2.TreeTranslates'. -/
def treeTranslatesUptoCard : Claim7 := { stood := { row := treeTranslatesUptoRow, standIns := [], harness := (true, "5038f3b313ad74e269ac813ecc23e9bebf6fb500dcc49e53a3220ba5509aad49"), looks := false }, kinds := [], alts := [], laidByText := true, laidKinds := [.data, .pinned], laidTests := true, laidLooks := .later }
def TreeTranslatesUptoCardSaid : Prop := Claim7.holds Tryd.pinned (.plain (OpenSpec.upto treeTranslatesSpec)) treeTranslatesUptoCard
end Rows
end Go.Proofs.YthkokpkiffbjnaaDoor
