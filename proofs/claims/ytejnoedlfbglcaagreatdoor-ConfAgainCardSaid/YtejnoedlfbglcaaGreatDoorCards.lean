/-
  DERIVED. GIVEN WITH THE SEED: THE CARDS: each row of YtejnoedlfbglcaaGreatDoorRows.lean that lists a variable, with what it lists TIED to the program's text (the seventh form; the later family's looks); each row that meets fmt, with fmt's text TOLD by the authors' own Lean function (tested against real Go, not proved from fmt's source: count such statements apart). THE CARD IS WHAT COUNTS. Prove the row's statement (the work); the ties are given (YtejnoedlfbglcaaGreatDoorTie.lean); close each card by the builder's one call (the guide's Derived/Test/ToyasCard.lean, 'card_holds'). Laid BY PROGRAM, IN A SANDBOX (cutbox-door.mjs). By AI agents, Wed Nov 11 2026. No macro, syntax, notation, axiom, sorry.
-/
import Derived.Test.YtejnoedlfbglcaaGreatDoorRows
import GoSem.ClaimSeven
namespace Go.Proofs.YtejnoedlfbglcaaGreatDoor
namespace Rows

/-- THE TIED CARD OF 'mastkeep2.SchemaRound'. -/
def schemaRoundCard : Claim7 := { stood := { row := schemaRoundRow, standIns := [], harness := (true, "e9e708f4bce29c734eb9e7dc76301c410bbbe9f618a8894b7421eec8107aabfe"), looks := true }, kinds := [], alts := [], laidByText := true, laidKinds := [.data, .data, .data, .data, .sentinel, .sentinel, .data, .pinned], laidTests := true, laidLooks := .later }
def SchemaRoundCardSaid : Prop := Claim7.holds Tryz.pinned (.plain (OpenSpec.ofChange schemaRoundSpec)) schemaRoundCard

/-- THE TIED CARD OF 'mastkeep2.ConfRound'. -/
def confRoundCard : Claim7 := { stood := { row := confRoundRow, standIns := [], harness := (true, "e9e708f4bce29c734eb9e7dc76301c410bbbe9f618a8894b7421eec8107aabfe"), looks := true }, kinds := [], alts := [], laidByText := true, laidKinds := [.data, .data, .data, .sentinel, .sentinel], laidTests := true, laidLooks := .later }
def ConfRoundCardSaid : Prop := Claim7.holds Tryz.pinned (.plain (OpenSpec.ofChange confRoundSpec)) confRoundCard

/-- THE TIED CARD OF 'mastkeep2.ConfAgain'. -/
def confAgainCard : Claim7 := { stood := { row := confAgainRow, standIns := [], harness := (true, "e9e708f4bce29c734eb9e7dc76301c410bbbe9f618a8894b7421eec8107aabfe"), looks := true }, kinds := [], alts := [], laidByText := true, laidKinds := [.data, .data, .data, .sentinel, .sentinel], laidTests := true, laidLooks := .later }
def ConfAgainCardSaid : Prop := Claim7.holds Tryz.pinned (.plain (OpenSpec.ofChange confAgainSpec)) confAgainCard

/-- THE TIED CARD OF 'mastkeep2.FrontRound'. -/
def frontRoundCard : Claim7 := { stood := { row := frontRoundRow, standIns := [], harness := (true, "e9e708f4bce29c734eb9e7dc76301c410bbbe9f618a8894b7421eec8107aabfe"), looks := true }, kinds := [], alts := [], laidByText := true, laidKinds := [.data, .data, .data, .sentinel, .sentinel], laidTests := true, laidLooks := .later }
def FrontRoundCardSaid : Prop := Claim7.holds Tryz.pinned (.plain (OpenSpec.ofChange frontRoundSpec)) frontRoundCard

/-- THE SECOND FORM's CARD OF 'mastkeep2.SchemaRound'. -/
def schemaRoundUptoCard : Claim7 := { stood := { row := schemaRoundUptoRow, standIns := [], harness := (true, "e9e708f4bce29c734eb9e7dc76301c410bbbe9f618a8894b7421eec8107aabfe"), looks := true }, kinds := [], alts := [], laidByText := true, laidKinds := [.data, .data, .data, .data, .sentinel, .sentinel, .data, .pinned], laidTests := true, laidLooks := .later }
def SchemaRoundUptoCardSaid : Prop := Claim7.holds Tryz.pinned (.plain (OpenSpec.upto schemaRoundSpec)) schemaRoundUptoCard

/-- THE SECOND FORM's CARD OF 'mastkeep2.ConfRound'. -/
def confRoundUptoCard : Claim7 := { stood := { row := confRoundUptoRow, standIns := [], harness := (true, "e9e708f4bce29c734eb9e7dc76301c410bbbe9f618a8894b7421eec8107aabfe"), looks := true }, kinds := [], alts := [], laidByText := true, laidKinds := [.data, .data, .data, .sentinel, .sentinel], laidTests := true, laidLooks := .later }
def ConfRoundUptoCardSaid : Prop := Claim7.holds Tryz.pinned (.plain (OpenSpec.upto confRoundSpec)) confRoundUptoCard

/-- THE SECOND FORM's CARD OF 'mastkeep2.ConfAgain'. -/
def confAgainUptoCard : Claim7 := { stood := { row := confAgainUptoRow, standIns := [], harness := (true, "e9e708f4bce29c734eb9e7dc76301c410bbbe9f618a8894b7421eec8107aabfe"), looks := true }, kinds := [], alts := [], laidByText := true, laidKinds := [.data, .data, .data, .sentinel, .sentinel], laidTests := true, laidLooks := .later }
def ConfAgainUptoCardSaid : Prop := Claim7.holds Tryz.pinned (.plain (OpenSpec.upto confAgainSpec)) confAgainUptoCard

/-- THE SECOND FORM's CARD OF 'mastkeep2.FrontRound'. -/
def frontRoundUptoCard : Claim7 := { stood := { row := frontRoundUptoRow, standIns := [], harness := (true, "e9e708f4bce29c734eb9e7dc76301c410bbbe9f618a8894b7421eec8107aabfe"), looks := true }, kinds := [], alts := [], laidByText := true, laidKinds := [.data, .data, .data, .sentinel, .sentinel], laidTests := true, laidLooks := .later }
def FrontRoundUptoCardSaid : Prop := Claim7.holds Tryz.pinned (.plain (OpenSpec.upto frontRoundSpec)) frontRoundUptoCard
end Rows
end Go.Proofs.YtejnoedlfbglcaaGreatDoor
