/-
  DERIVED. GIVEN WITH THE SEED: THE CARDS: each row of YtdolpehcfifecaaDoorRows.lean that lists a variable, with what it lists TIED to the program's text (the seventh form; the later family's looks); each row that meets fmt, with fmt's text TOLD by the authors' own Lean function (tested against real Go, not proved from fmt's source: count such statements apart). THE CARD IS WHAT COUNTS. Prove the row's statement (the work); the ties are given (YtdolpehcfifecaaDoorTie.lean); close each card by the builder's one call (the guide's Derived/Test/ToyasCard.lean, 'card_holds'). Laid BY PROGRAM, IN A SANDBOX (cutbox-door.mjs). By AI agents, Wed Nov 11 2026. No macro, syntax, notation, axiom, sorry.
-/
import Derived.Test.YtdolpehcfifecaaDoorRows
import GoSem.ClaimSeven
namespace Go.Proofs.YtdolpehcfifecaaDoor
namespace Rows

/-- THE TIED CARD OF 'mastkeep2.LangOrders'. -/
def langOrdersCard : Claim7 := { stood := { row := langOrdersRow, standIns := [], harness := (true, "31178c31d8d1ca7405f662961ab89e9b2da82394098bb20931960e139da99abd"), looks := true }, kinds := [], alts := [], laidByText := true, laidKinds := [.data, .data, .data, .data, .sentinel, .sentinel, .pinned], laidTests := true, laidLooks := .later }
def LangOrdersCardSaid : Prop := Claim7.holds Tryd.pinned (.plain (OpenSpec.ofChange langOrdersSpec)) langOrdersCard

/-- THE TIED CARD OF 'mastkeep2.MessageRound'. -/
def messageRoundCard : Claim7 := { stood := { row := messageRoundRow, standIns := [], harness := (true, "31178c31d8d1ca7405f662961ab89e9b2da82394098bb20931960e139da99abd"), looks := true }, kinds := [], alts := [], laidByText := true, laidKinds := [.data, .data, .data, .sentinel, .sentinel], laidTests := true, laidLooks := .later }
def MessageRoundCardSaid : Prop := Claim7.holds Tryd.pinned (.plain (OpenSpec.ofChange messageRoundSpec)) messageRoundCard

/-- THE SECOND FORM's CARD OF 'mastkeep2.LangOrders'. -/
def langOrdersUptoCard : Claim7 := { stood := { row := langOrdersUptoRow, standIns := [], harness := (true, "31178c31d8d1ca7405f662961ab89e9b2da82394098bb20931960e139da99abd"), looks := true }, kinds := [], alts := [], laidByText := true, laidKinds := [.data, .data, .data, .data, .sentinel, .sentinel, .pinned], laidTests := true, laidLooks := .later }
def LangOrdersUptoCardSaid : Prop := Claim7.holds Tryd.pinned (.plain (OpenSpec.upto langOrdersSpec)) langOrdersUptoCard

/-- THE SECOND FORM's CARD OF 'mastkeep2.MessageRound'. -/
def messageRoundUptoCard : Claim7 := { stood := { row := messageRoundUptoRow, standIns := [], harness := (true, "31178c31d8d1ca7405f662961ab89e9b2da82394098bb20931960e139da99abd"), looks := true }, kinds := [], alts := [], laidByText := true, laidKinds := [.data, .data, .data, .sentinel, .sentinel], laidTests := true, laidLooks := .later }
def MessageRoundUptoCardSaid : Prop := Claim7.holds Tryd.pinned (.plain (OpenSpec.upto messageRoundSpec)) messageRoundUptoCard
end Rows
end Go.Proofs.YtdolpehcfifecaaDoor
