/-
  DERIVED. GIVEN WITH THE SEED: THE CARDS: each row of YtccmnhpkbbhomaaDoorRows.lean that lists a variable, with what it lists TIED to the program's text (the seventh form; the later family's looks); each row that meets fmt, with fmt's text TOLD by the authors' own Lean function (tested against real Go, not proved from fmt's source: count such statements apart). THE CARD IS WHAT COUNTS. Prove the row's statement (the work); the ties are given (YtccmnhpkbbhomaaDoorTie.lean); close each card by the builder's one call (the guide's Derived/Test/ToyasCard.lean, 'card_holds'). Laid BY PROGRAM, IN A SANDBOX (cutbox-door.mjs). By AI agents, Wed Nov 11 2026. No macro, syntax, notation, axiom, sorry.
-/
import Derived.Test.YtccmnhpkbbhomaaDoorRows
import GoSem.ClaimSeven
namespace Go.Proofs.YtccmnhpkbbhomaaDoor
namespace Rows

/-- THE TIED CARD OF 'mastkeep2.AssetJoined'. -/
def assetJoinedCard : Claim7 := { stood := { row := assetJoinedRow, standIns := [], harness := (true, "60bf3419ed123c161b70b75639e6c61c0e72c68568921afa4731e2422623602a"), looks := true }, kinds := [], alts := [], laidByText := true, laidKinds := [.data, .pinned], laidTests := true, laidLooks := .later }
def AssetJoinedCardSaid : Prop := Claim7.holds Tryd.pinned (.plain (OpenSpec.ofChange assetJoinedSpec)) assetJoinedCard

/-- THE TIED CARD OF 'mastkeep1.ShipCovers'. -/
def shipCoversCard : Claim7 := { stood := { row := shipCoversRow, standIns := [], harness := (true, "60bf3419ed123c161b70b75639e6c61c0e72c68568921afa4731e2422623602a"), looks := true }, kinds := [], alts := [], laidByText := true, laidKinds := [.data, .pinned], laidTests := true, laidLooks := .later }
def ShipCoversCardSaid : Prop := Claim7.holds Tryd.pinned (.plain (OpenSpec.ofChange shipCoversSpec)) shipCoversCard

/-- THE TIED CARD OF 'mastkeep2.TreeTranslates'. -/
def treeTranslatesCard : Claim7 := { stood := { row := treeTranslatesRow, standIns := [], harness := (true, "60bf3419ed123c161b70b75639e6c61c0e72c68568921afa4731e2422623602a"), looks := true }, kinds := [], alts := [], laidByText := true, laidKinds := [.data, .pinned], laidTests := true, laidLooks := .later }
def TreeTranslatesCardSaid : Prop := Claim7.holds Tryd.pinned (.plain (OpenSpec.ofChange treeTranslatesSpec)) treeTranslatesCard

/-- THE TIED CARD OF 'mastkeep2.RuleRound'. -/
def ruleRoundCard : Claim7 := { stood := { row := ruleRoundRow, standIns := [], harness := (true, "60bf3419ed123c161b70b75639e6c61c0e72c68568921afa4731e2422623602a"), looks := true }, kinds := [], alts := [], laidByText := true, laidKinds := [.data, .data, .data, .sentinel, .sentinel], laidTests := true, laidLooks := .later }
def RuleRoundCardSaid : Prop := Claim7.holds Tryd.pinned (.plain (OpenSpec.ofChange ruleRoundSpec)) ruleRoundCard

/-- THE SECOND FORM's CARD OF 'mastkeep2.AssetJoined'. -/
def assetJoinedUptoCard : Claim7 := { stood := { row := assetJoinedUptoRow, standIns := [], harness := (true, "60bf3419ed123c161b70b75639e6c61c0e72c68568921afa4731e2422623602a"), looks := true }, kinds := [], alts := [], laidByText := true, laidKinds := [.data, .pinned], laidTests := true, laidLooks := .later }
def AssetJoinedUptoCardSaid : Prop := Claim7.holds Tryd.pinned (.plain (OpenSpec.upto assetJoinedSpec)) assetJoinedUptoCard

/-- THE SECOND FORM's CARD OF 'mastkeep1.ShipCovers'. -/
def shipCoversUptoCard : Claim7 := { stood := { row := shipCoversUptoRow, standIns := [], harness := (true, "60bf3419ed123c161b70b75639e6c61c0e72c68568921afa4731e2422623602a"), looks := true }, kinds := [], alts := [], laidByText := true, laidKinds := [.data, .pinned], laidTests := true, laidLooks := .later }
def ShipCoversUptoCardSaid : Prop := Claim7.holds Tryd.pinned (.plain (OpenSpec.upto shipCoversSpec)) shipCoversUptoCard

/-- THE SECOND FORM's CARD OF 'mastkeep2.TreeTranslates'. -/
def treeTranslatesUptoCard : Claim7 := { stood := { row := treeTranslatesUptoRow, standIns := [], harness := (true, "60bf3419ed123c161b70b75639e6c61c0e72c68568921afa4731e2422623602a"), looks := true }, kinds := [], alts := [], laidByText := true, laidKinds := [.data, .pinned], laidTests := true, laidLooks := .later }
def TreeTranslatesUptoCardSaid : Prop := Claim7.holds Tryd.pinned (.plain (OpenSpec.upto treeTranslatesSpec)) treeTranslatesUptoCard

/-- THE SECOND FORM's CARD OF 'mastkeep2.RuleRound'. -/
def ruleRoundUptoCard : Claim7 := { stood := { row := ruleRoundUptoRow, standIns := [], harness := (true, "60bf3419ed123c161b70b75639e6c61c0e72c68568921afa4731e2422623602a"), looks := true }, kinds := [], alts := [], laidByText := true, laidKinds := [.data, .data, .data, .sentinel, .sentinel], laidTests := true, laidLooks := .later }
def RuleRoundUptoCardSaid : Prop := Claim7.holds Tryd.pinned (.plain (OpenSpec.upto ruleRoundSpec)) ruleRoundUptoCard
end Rows
end Go.Proofs.YtccmnhpkbbhomaaDoor
