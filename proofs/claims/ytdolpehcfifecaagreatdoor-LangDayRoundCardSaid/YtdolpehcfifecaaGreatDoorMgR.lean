/- The reader of messages in memory; fail. No conditions. -/
import Derived.Test.YtdolpehcfifecaaGreatDoorMgH
import Derived.Test.YtdolpehcfifecaaGreatDoorKept
namespace Mh
open Go Go.RowKit
set_option linter.unusedVariables false
def Ms.row (s : ByteArray) (m : Ms) : Array Value := #[.string s, .int .i64 m.i, .int .i64 m.a, .int .i64 m.e, .int .i64 m.n]
/-- The reader's block. -/
def MsAt (Q T : Nat) (s : ByteArray) (m : Ms) (w : World) : Prop := w.heap[Q]? = some (.cells (m.row s) T (0, 0))
theorem MsAt.cells {Q T : Nat} {s : ByteArray} {m : Ms} {w : World} (h : MsAt Q T s m w) : w.cell? ⟨Q, 0, none⟩ = some (.string s) ∧ w.cell? ⟨Q, 1, none⟩ = some (.int .i64 m.i) ∧ w.cell? ⟨Q, 2, none⟩ = some (.int .i64 m.a) ∧ w.cell? ⟨Q, 3, none⟩ = some (.int .i64 m.e) ∧ w.cell? ⟨Q, 4, none⟩ = some (.int .i64 m.n) ∧ ∀ j, w.frozen? ⟨Q, j, none⟩ = false :=
  ⟨cellT h rfl, cellT h rfl, cellT h rfl, cellT h rfl, cellT h rfl, fun _ => frozenT h⟩
theorem MsAt.set1 {Q T : Nat} {s : ByteArray} {m : Ms} {w : World} (h : MsAt Q T s m w) (i : Nat) : MsAt Q T s (m.at i) (w.setCell ⟨Q, 1, none⟩ (.int .i64 i)) := heap_setCell_same _ _ 1 _ _ _ h
theorem MsAt.setN {Q T : Nat} {s : ByteArray} {m : Ms} {w : World} (h : MsAt Q T s m w) (n : Nat) : MsAt Q T s { m with n := n } (w.setCell ⟨Q, 4, none⟩ (.int .i64 n)) := heap_setCell_same _ _ 4 _ _ _ h
theorem MsAt.setF {Q T : Nat} {s : ByteArray} {m : Ms} {w : World} (h : MsAt Q T s m w) (a e : Int) : MsAt Q T s { m with a := a, e := e } ((w.setCell ⟨Q, 2, none⟩ (.int .i64 a)).setCell ⟨Q, 3, none⟩ (.int .i64 e)) :=
  heap_setCell_same _ _ 3 _ _ _ (heap_setCell_same _ _ 2 _ _ _ h)
end Mh
namespace Go.Proofs.YtdolpehcfifecaaGreatDoor
open Go.RowKit Mh
set_option linter.unusedVariables false
theorem gfail_any (Q T : Nat) (s : ByteArray) (m : Ms) (a e : Int) (w : World) (h : MsAt Q T s m w) :
    Calls Tryz.prog 48 #[.pointer (some ⟨Q, 0, none⟩), .int .i64 a, .int .i64 e] w fun en w' => en = .returned (.tuple #[]) ∧ MsAt Q T s (m.fail a e) w' ∧ Kept [Q] w w' := by
  obtain ⟨c0, c1, c2, c3, c4, fz⟩ := h.cells
  have H := Lib.hid h
  clear h
  unfold Ms.fail
  by_cases h0 : m.e = 0
  · have b0 : (m.e == 0) = true := by rw [h0]; rfl
    rw [if_pos h0]
    clear h0
    go_enter Tryz.func48, Tryz.ntmps48
    go_wp2_with fail
    all_goals go_end0
    all_goals exact ⟨rfl, H.out.setF a e, ((Kept.refl [Q] w).set Q 2 (by simp) _).set Q 3 (by simp) _⟩
  · have b0 : (m.e == 0) = false := beq_false_of_ne h0
    rw [if_neg h0]
    clear h0
    go_enter Tryz.func48, Tryz.ntmps48
    go_wp2_with fail
    all_goals go_end0
    all_goals exact ⟨rfl, H.out, Kept.refl [Q] w⟩
end Go.Proofs.YtdolpehcfifecaaGreatDoor
