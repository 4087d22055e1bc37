/-
  DERIVED. GIVEN WITH THE SEED: THE CARDS: each row of YtoalbfffojpnmaaDoorRows.lean that lists a variable, with what it lists TIED to the program's text (the seventh form; the later family's looks); each row that meets fmt, with fmt's text TOLD by the authors' own Lean function (tested against real Go, not proved from fmt's source: count such statements apart). THE CARD IS WHAT COUNTS. Prove the row's statement (the work); the ties are given (YtoalbfffojpnmaaDoorTie.lean); close each card by the builder's one call (the guide's Derived/Test/ToyasCard.lean, 'card_holds'). Laid BY PROGRAM, IN A SANDBOX (cutbox-door.mjs). By AI agents, Wed Nov 11 2026. No macro, syntax, notation, axiom, sorry.
-/
import Derived.Test.YtoalbfffojpnmaaDoorRows
import GoSem.ClaimSeven
namespace Go.Proofs.YtoalbfffojpnmaaDoor
namespace Rows

/-- THE TIED CARD OF 'mastkeep1.ShipCovers'. -/
def shipCoversCard : Claim7 := { stood := { row := shipCoversRow, standIns := [], harness := (true, "89e9ef2790f0dcd1aea0fea051a73eeada1ab186d7f8e7781b7a53ccdd3b8e7b"), looks := true }, kinds := [], alts := [], laidByText := true, laidKinds := [.data, .pinned], laidTests := true, laidLooks := .later }
def ShipCoversCardSaid : Prop := Claim7.holds Tryd.pinned (.plain (OpenSpec.ofChange shipCoversSpec)) shipCoversCard

/-- THE SECOND FORM's CARD OF 'mastkeep1.ShipCovers'. -/
def shipCoversUptoCard : Claim7 := { stood := { row := shipCoversUptoRow, standIns := [], harness := (true, "89e9ef2790f0dcd1aea0fea051a73eeada1ab186d7f8e7781b7a53ccdd3b8e7b"), looks := true }, kinds := [], alts := [], laidByText := true, laidKinds := [.data, .pinned], laidTests := true, laidLooks := .later }
def ShipCoversUptoCardSaid : Prop := Claim7.holds Tryd.pinned (.plain (OpenSpec.upto shipCoversSpec)) shipCoversUptoCard
end Rows
end Go.Proofs.YtoalbfffojpnmaaDoor
