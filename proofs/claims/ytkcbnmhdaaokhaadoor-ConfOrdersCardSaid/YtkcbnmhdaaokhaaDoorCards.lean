/-
  DERIVED. GIVEN WITH THE SEED: THE CARDS: each row of YtkcbnmhdaaokhaaDoorRows.lean that lists a variable, with what it lists TIED to the program's text (the seventh form; the later family's looks); each row that meets fmt, with fmt's text TOLD by the authors' own Lean function (tested against real Go, not proved from fmt's source: count such statements apart). THE CARD IS WHAT COUNTS. Prove the row's statement (the work); the ties are given (YtkcbnmhdaaokhaaDoorTie.lean); close each card by the builder's one call (the guide's Derived/Test/ToyasCard.lean, 'card_holds'). Laid BY PROGRAM, IN A SANDBOX (cutbox-door.mjs). By AI agents, Wed Nov 11 2026. No macro, syntax, notation, axiom, sorry.
-/
import Derived.Test.YtkcbnmhdaaokhaaDoorRows
import GoSem.ClaimSeven
namespace Go.Proofs.YtkcbnmhdaaokhaaDoor
namespace Rows

/-- THE TIED CARD OF 'mastkeep1.ShipCovers'. -/
def shipCoversCard : Claim7 := { stood := { row := shipCoversRow, standIns := [], harness := (true, "bd283c0f4298491aef13e8786aade1c28a4509af75f19007d1b1a3e82821f002"), looks := true }, kinds := [], alts := [], laidByText := true, laidKinds := [.data, .pinned], laidTests := true, laidLooks := .later }
def ShipCoversCardSaid : Prop := Claim7.holds Tryd.pinned (.plain (OpenSpec.ofChange shipCoversSpec)) shipCoversCard

/-- THE TIED CARD OF 'mastkeep2.TreeTranslates'. -/
def treeTranslatesCard : Claim7 := { stood := { row := treeTranslatesRow, standIns := [], harness := (true, "bd283c0f4298491aef13e8786aade1c28a4509af75f19007d1b1a3e82821f002"), looks := true }, kinds := [], alts := [], laidByText := true, laidKinds := [.data, .pinned], laidTests := true, laidLooks := .later }
def TreeTranslatesCardSaid : Prop := Claim7.holds Tryd.pinned (.plain (OpenSpec.ofChange treeTranslatesSpec)) treeTranslatesCard

/-- THE TIED CARD OF 'mastkeep2.ConfOrders'. -/
def confOrdersCard : Claim7 := { stood := { row := confOrdersRow, standIns := [], harness := (true, "bd283c0f4298491aef13e8786aade1c28a4509af75f19007d1b1a3e82821f002"), looks := true }, kinds := [], alts := [], laidByText := true, laidKinds := [.data, .data, .data, .sentinel, .sentinel], laidTests := true, laidLooks := .later }
def ConfOrdersCardSaid : Prop := Claim7.holds Tryd.pinned (.plain (OpenSpec.ofChange confOrdersSpec)) confOrdersCard

/-- THE TIED CARD OF 'mastkeep2.DayRound'. -/
def dayRoundCard : Claim7 := { stood := { row := dayRoundRow, standIns := [], harness := (true, "bd283c0f4298491aef13e8786aade1c28a4509af75f19007d1b1a3e82821f002"), looks := true }, kinds := [], alts := [], laidByText := true, laidKinds := [.data, .data, .data, .sentinel, .sentinel], laidTests := true, laidLooks := .later }
def DayRoundCardSaid : Prop := Claim7.holds Tryd.pinned (.plain (OpenSpec.ofChange dayRoundSpec)) dayRoundCard

/-- THE TIED CARD OF 'mastkeep2.ListParts'. -/
def listPartsCard : Claim7 := { stood := { row := listPartsRow, standIns := [], harness := (true, "bd283c0f4298491aef13e8786aade1c28a4509af75f19007d1b1a3e82821f002"), looks := true }, kinds := [], alts := [], laidByText := true, laidKinds := [.data, .data, .data, .sentinel, .sentinel], laidTests := true, laidLooks := .later }
def ListPartsCardSaid : Prop := Claim7.holds Tryd.pinned (.plain (OpenSpec.ofChange listPartsSpec)) listPartsCard

/-- THE TIED CARD OF 'mastkeep2.RuleRound'. -/
def ruleRoundCard : Claim7 := { stood := { row := ruleRoundRow, standIns := [], harness := (true, "bd283c0f4298491aef13e8786aade1c28a4509af75f19007d1b1a3e82821f002"), looks := true }, kinds := [], alts := [], laidByText := true, laidKinds := [.data, .data, .data, .sentinel, .sentinel], laidTests := true, laidLooks := .later }
def RuleRoundCardSaid : Prop := Claim7.holds Tryd.pinned (.plain (OpenSpec.ofChange ruleRoundSpec)) ruleRoundCard

/-- THE SECOND FORM's CARD OF 'mastkeep1.ShipCovers'. -/
def shipCoversUptoCard : Claim7 := { stood := { row := shipCoversUptoRow, standIns := [], harness := (true, "bd283c0f4298491aef13e8786aade1c28a4509af75f19007d1b1a3e82821f002"), looks := true }, kinds := [], alts := [], laidByText := true, laidKinds := [.data, .pinned], laidTests := true, laidLooks := .later }
def ShipCoversUptoCardSaid : Prop := Claim7.holds Tryd.pinned (.plain (OpenSpec.upto shipCoversSpec)) shipCoversUptoCard

/-- THE SECOND FORM's CARD OF 'mastkeep2.TreeTranslates'. -/
def treeTranslatesUptoCard : Claim7 := { stood := { row := treeTranslatesUptoRow, standIns := [], harness := (true, "bd283c0f4298491aef13e8786aade1c28a4509af75f19007d1b1a3e82821f002"), looks := true }, kinds := [], alts := [], laidByText := true, laidKinds := [.data, .pinned], laidTests := true, laidLooks := .later }
def TreeTranslatesUptoCardSaid : Prop := Claim7.holds Tryd.pinned (.plain (OpenSpec.upto treeTranslatesSpec)) treeTranslatesUptoCard

/-- THE SECOND FORM's CARD OF 'mastkeep2.ConfOrders'. -/
def confOrdersUptoCard : Claim7 := { stood := { row := confOrdersUptoRow, standIns := [], harness := (true, "bd283c0f4298491aef13e8786aade1c28a4509af75f19007d1b1a3e82821f002"), looks := true }, kinds := [], alts := [], laidByText := true, laidKinds := [.data, .data, .data, .sentinel, .sentinel], laidTests := true, laidLooks := .later }
def ConfOrdersUptoCardSaid : Prop := Claim7.holds Tryd.pinned (.plain (OpenSpec.upto confOrdersSpec)) confOrdersUptoCard

/-- THE SECOND FORM's CARD OF 'mastkeep2.DayRound'. -/
def dayRoundUptoCard : Claim7 := { stood := { row := dayRoundUptoRow, standIns := [], harness := (true, "bd283c0f4298491aef13e8786aade1c28a4509af75f19007d1b1a3e82821f002"), looks := true }, kinds := [], alts := [], laidByText := true, laidKinds := [.data, .data, .data, .sentinel, .sentinel], laidTests := true, laidLooks := .later }
def DayRoundUptoCardSaid : Prop := Claim7.holds Tryd.pinned (.plain (OpenSpec.upto dayRoundSpec)) dayRoundUptoCard

/-- THE SECOND FORM's CARD OF 'mastkeep2.ListParts'. -/
def listPartsUptoCard : Claim7 := { stood := { row := listPartsUptoRow, standIns := [], harness := (true, "bd283c0f4298491aef13e8786aade1c28a4509af75f19007d1b1a3e82821f002"), looks := true }, kinds := [], alts := [], laidByText := true, laidKinds := [.data, .data, .data, .sentinel, .sentinel], laidTests := true, laidLooks := .later }
def ListPartsUptoCardSaid : Prop := Claim7.holds Tryd.pinned (.plain (OpenSpec.upto listPartsSpec)) listPartsUptoCard

/-- THE SECOND FORM's CARD OF 'mastkeep2.RuleRound'. -/
def ruleRoundUptoCard : Claim7 := { stood := { row := ruleRoundUptoRow, standIns := [], harness := (true, "bd283c0f4298491aef13e8786aade1c28a4509af75f19007d1b1a3e82821f002"), looks := true }, kinds := [], alts := [], laidByText := true, laidKinds := [.data, .data, .data, .sentinel, .sentinel], laidTests := true, laidLooks := .later }
def RuleRoundUptoCardSaid : Prop := Claim7.holds Tryd.pinned (.plain (OpenSpec.upto ruleRoundSpec)) ruleRoundUptoCard
end Rows
end Go.Proofs.YtkcbnmhdaaokhaaDoor
