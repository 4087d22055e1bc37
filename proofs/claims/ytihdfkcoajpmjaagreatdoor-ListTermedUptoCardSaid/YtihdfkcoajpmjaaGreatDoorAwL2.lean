/- list.ReadCond of the empty string, and awakeList. No conditions. -/
import Derived.Test.YtihdfkcoajpmjaaGreatDoorAwL
import Derived.RegionTactic
import Derived.ChangeAlike
import Derived.Outline
namespace Go.Proofs.YtihdfkcoajpmjaaGreatDoor
open Go.RowKit Mh
set_option linter.unusedVariables false

set_option maxRecDepth 100000 in
set_option maxHeartbeats 1000000 in
theorem readCond_empty (w : World) :
    Calls Tryz.prog 8 #[.string ⟨#[]⟩] w fun e w' => e = .returned (.tuple #[.agg zCond, .int .i64 0, .int .i64 8]) ∧ Below w.heap.size w w' := by
  have HN := Lib.hid (fun b w' (hh : w'.heap[b]? = some (lRd 0)) => lnext_end b w' hh)
  have HO := Lib.hid (fun b w' (hh : w'.heap[b]? = some (lRd 0)) => lor_end b w' hh)
  go_enter Tryz.func8, Tryz.ntmps8
  go_wp2_with fail
  refine (HN.out (w.heap.size + 1) _ (heap_new_at (by simp))).mono ?_
  rintro e w1 ⟨rfl, h1, hb1⟩
  go_wp2_with fail
  refine (HO.out (w.heap.size + 1) _ h1).mono ?_
  rintro e w2 ⟨rfl, h2, hb2⟩
  have K2 : Hid (Kept [w.heap.size + 1] ((w.alloc (.cells zCond 39)).alloc (lRd 0)) w2) := hb1.trans hb2
  have hz2 : w.heap.size + 1 < w2.heap.size := by have := K2.out.size; simp at this; omega
  have hT2 : w2.heap[w.heap.size]? = some (.cells zCond 39 (0, 0)) := (K2.out.block _ (by simp; omega) (by simp)).trans ((heap_alloc_old _ _ (by simp)).trans (heap_alloc_new _ _))
  have c5 : w2.cell? ⟨w.heap.size + 1, 5, none⟩ = some (.int .i64 0) := cellT h2 rfl
  have c6 : w2.cell? ⟨w.heap.size + 1, 6, none⟩ = some (.int .i64 8) := cellT h2 rfl
  obtain ⟨r0, r1, r2, r3, r4, r5, r6, r7, r8, g0⟩ := zcells hT2
  have HT2 := Lib.hid hT2
  have HR2 := Lib.hid h2
  have HB : Hid (Below w.heap.size w w2) := (((Below.refl w.heap.size w).alloc (Nat.le_refl _) _).alloc (by simp) _).trans (K2.out.below (by simp; omega) (by simp))
  clear hb1 hb2 h1 h2 hT2
  go_wp2_with fail
  obtain ⟨w3, hw3⟩ : ∃ w3, w3 = w2.alloc (.cells zCond 39) := ⟨_, rfl⟩
  have hT3 : w3.heap[w.heap.size]? = some (.cells zCond 39 (0, 0)) := by rw [hw3]; exact (heap_alloc_old _ _ (by omega)).trans HT2.out
  have hR3 : w3.heap[w.heap.size + 1]? = some (lRd 8) := by rw [hw3]; exact (heap_alloc_old _ _ hz2).trans HR2.out
  have HB3 : Hid (Below w.heap.size w w3) := by rw [hw3]; exact HB.out.alloc (by omega) _
  rw [← hw3]
  clear hw3 r0 r1 r2 r3 r4 r5 r6 r7 r8 g0 c5 c6
  have c5 : w3.cell? ⟨w.heap.size + 1, 5, none⟩ = some (.int .i64 0) := cellT hR3 rfl
  have c6 : w3.cell? ⟨w.heap.size + 1, 6, none⟩ = some (.int .i64 8) := cellT hR3 rfl
  obtain ⟨r0, r1, r2, r3, r4, r5, r6, r7, r8, g0⟩ := zcells hT3
  clear hT3 hR3
  have f0 := g0 0
  have f1 := g0 1
  have f2 := g0 2
  have f3 := g0 3
  have f4 := g0 4
  have f5 := g0 5
  have f6 := g0 6
  have f7 := g0 7
  have f8 := g0 8
  clear g0
  go_region
  all_goals
    go_wp2
    refine bodyPost_ret (v := .tuple #[.agg zCond, .int .i64 0, .int .i64 8]) (by simp [results, Tryz.results8, go_sem, zCond, r0, r1, r2, r3, r4, r5, r6, r7, r8]) rfl ⟨rfl, ?_⟩
    refine Below.drew ?_
    repeat (refine Below.setCell ?_ (by simp) _)
    exact HB3.out

theorem awakeList_any (w : World) : Calls Tryz.prog 4 #[] w fun e w' => e = .returned (.bool true) ∧ Below w.heap.size w w' := by
  go_enter Tryz.func4, Tryz.ntmps4
  go_wp2_with fail
  refine (readCond_empty w).mono ?_
  rintro e w1 ⟨rfl, hb⟩
  have HB := Lib.hid hb
  have hz := hb.size
  clear hb
  go_wp2_with fail
  go_ret
  refine ⟨rfl, ?_⟩
  exact HB.out.alloc hz _
end Go.Proofs.YtihdfkcoajpmjaaGreatDoor
