/-
  DERIVED. GIVEN WITH THE SEED: THE CARDS: each row of YtekknckdeedjnaaGreatDoorRows.lean that lists a variable, with what it lists TIED to the program's text (the seventh form; the later family's looks); each row that meets fmt, with fmt's text TOLD by the authors' own Lean function (tested against real Go, not proved from fmt's source: count such statements apart). THE CARD IS WHAT COUNTS. Prove the row's statement (the work); the ties are given (YtekknckdeedjnaaGreatDoorTie.lean); close each card by the builder's one call (the guide's Derived/Test/ToyasCard.lean, 'card_holds'). Laid BY PROGRAM, IN A SANDBOX (cutbox-door.mjs). By AI agents, Wed Nov 11 2026. No macro, syntax, notation, axiom, sorry.
-/
import Derived.Test.YtekknckdeedjnaaGreatDoorRows
import GoSem.ClaimSeven
namespace Go.Proofs.YtekknckdeedjnaaGreatDoor
namespace Rows

/-- THE TIED CARD OF 'mastkeep2.ConfMends'. -/
def confMendsCard : Claim7 := { stood := { row := confMendsRow, standIns := [], harness := (true, "dcb6d59943ead9a538def2a4c859f4788184add02f4ed2c0d95dc3bd73d5abf6"), looks := true }, kinds := [], alts := [], laidByText := true, laidKinds := [.data, .data, .data, .data, .sentinel, .sentinel, .pinned], laidTests := true, laidLooks := .later }
def ConfMendsCardSaid : Prop := Claim7.holds Tryz.pinned (.plain (OpenSpec.ofChange confMendsSpec)) confMendsCard

/-- THE TIED CARD OF 'mastkeep2.ConfFills'. -/
def confFillsCard : Claim7 := { stood := { row := confFillsRow, standIns := [], harness := (true, "dcb6d59943ead9a538def2a4c859f4788184add02f4ed2c0d95dc3bd73d5abf6"), looks := true }, kinds := [], alts := [], laidByText := true, laidKinds := [.data, .data, .data, .data, .sentinel, .sentinel, .pinned], laidTests := true, laidLooks := .later }
def ConfFillsCardSaid : Prop := Claim7.holds Tryz.pinned (.plain (OpenSpec.ofChange confFillsSpec)) confFillsCard

/-- THE TIED CARD OF 'mastkeep2.SchemaRound'. -/
def schemaRoundCard : Claim7 := { stood := { row := schemaRoundRow, standIns := [], harness := (true, "dcb6d59943ead9a538def2a4c859f4788184add02f4ed2c0d95dc3bd73d5abf6"), looks := true }, kinds := [], alts := [], laidByText := true, laidKinds := [.data, .data, .data, .data, .sentinel, .sentinel, .data, .pinned], laidTests := true, laidLooks := .later }
def SchemaRoundCardSaid : Prop := Claim7.holds Tryz.pinned (.plain (OpenSpec.ofChange schemaRoundSpec)) schemaRoundCard

/-- THE SECOND FORM's CARD OF 'mastkeep2.ConfMends'. -/
def confMendsUptoCard : Claim7 := { stood := { row := confMendsUptoRow, standIns := [], harness := (true, "dcb6d59943ead9a538def2a4c859f4788184add02f4ed2c0d95dc3bd73d5abf6"), looks := true }, kinds := [], alts := [], laidByText := true, laidKinds := [.data, .data, .data, .data, .sentinel, .sentinel, .pinned], laidTests := true, laidLooks := .later }
def ConfMendsUptoCardSaid : Prop := Claim7.holds Tryz.pinned (.plain (OpenSpec.upto confMendsSpec)) confMendsUptoCard

/-- THE SECOND FORM's CARD OF 'mastkeep2.ConfFills'. -/
def confFillsUptoCard : Claim7 := { stood := { row := confFillsUptoRow, standIns := [], harness := (true, "dcb6d59943ead9a538def2a4c859f4788184add02f4ed2c0d95dc3bd73d5abf6"), looks := true }, kinds := [], alts := [], laidByText := true, laidKinds := [.data, .data, .data, .data, .sentinel, .sentinel, .pinned], laidTests := true, laidLooks := .later }
def ConfFillsUptoCardSaid : Prop := Claim7.holds Tryz.pinned (.plain (OpenSpec.upto confFillsSpec)) confFillsUptoCard

/-- THE SECOND FORM's CARD OF 'mastkeep2.SchemaRound'. -/
def schemaRoundUptoCard : Claim7 := { stood := { row := schemaRoundUptoRow, standIns := [], harness := (true, "dcb6d59943ead9a538def2a4c859f4788184add02f4ed2c0d95dc3bd73d5abf6"), looks := true }, kinds := [], alts := [], laidByText := true, laidKinds := [.data, .data, .data, .data, .sentinel, .sentinel, .data, .pinned], laidTests := true, laidLooks := .later }
def SchemaRoundUptoCardSaid : Prop := Claim7.holds Tryz.pinned (.plain (OpenSpec.upto schemaRoundSpec)) schemaRoundUptoCard
end Rows
end Go.Proofs.YtekknckdeedjnaaGreatDoor
