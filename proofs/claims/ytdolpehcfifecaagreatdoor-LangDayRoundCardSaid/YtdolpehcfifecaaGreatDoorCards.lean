/-
  DERIVED. GIVEN WITH THE SEED: THE CARDS: each row of YtdolpehcfifecaaGreatDoorRows.lean that lists a variable, with what it lists TIED to the program's text (the seventh form; the later family's looks); each row that meets fmt, with fmt's text TOLD by the authors' own Lean function (tested against real Go, not proved from fmt's source: count such statements apart). THE CARD IS WHAT COUNTS. Prove the row's statement (the work); the ties are given (YtdolpehcfifecaaGreatDoorTie.lean); close each card by the builder's one call (the guide's Derived/Test/ToyasCard.lean, 'card_holds'). Laid BY PROGRAM, IN A SANDBOX (cutbox-door.mjs). By AI agents, Wed Nov 11 2026. No macro, syntax, notation, axiom, sorry.
-/
import Derived.Test.YtdolpehcfifecaaGreatDoorRows
import GoSem.ClaimSeven
namespace Go.Proofs.YtdolpehcfifecaaGreatDoor
namespace Rows

/-- THE TIED CARD OF 'mastkeep2.LangDayRound'. -/
def langDayRoundCard : Claim7 := { stood := { row := langDayRoundRow, standIns := [], harness := (true, "228d73b268c011cff9c7ce5b79d80402909ec6a52a11f7333a0bf20eb1ff4ed0"), looks := true }, kinds := [], alts := [], laidByText := true, laidKinds := [.data, .data, .data, .data, .sentinel, .sentinel, .pinned], laidTests := true, laidLooks := .later }
def LangDayRoundCardSaid : Prop := Claim7.holds Tryz.pinned (.plain (OpenSpec.ofChange langDayRoundSpec)) langDayRoundCard

/-- THE SECOND FORM's CARD OF 'mastkeep2.LangDayRound'. -/
def langDayRoundUptoCard : Claim7 := { stood := { row := langDayRoundUptoRow, standIns := [], harness := (true, "228d73b268c011cff9c7ce5b79d80402909ec6a52a11f7333a0bf20eb1ff4ed0"), looks := true }, kinds := [], alts := [], laidByText := true, laidKinds := [.data, .data, .data, .data, .sentinel, .sentinel, .pinned], laidTests := true, laidLooks := .later }
def LangDayRoundUptoCardSaid : Prop := Claim7.holds Tryz.pinned (.plain (OpenSpec.upto langDayRoundSpec)) langDayRoundUptoCard
end Rows
end Go.Proofs.YtdolpehcfifecaaGreatDoor
