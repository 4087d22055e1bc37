/- awakeList returns true: the empty string is no condition. No conditions. -/
import Derived.Test.YtihdfkcoajpmjaaGreatDoorProg
import Derived.Test.YtihdfkcoajpmjaaGreatDoorBase
import Derived.Test.YtihdfkcoajpmjaaGreatDoorKept
import Derived.Deep.QuietTactic
import Derived.BigQuiet
import Derived.Outline
namespace Go.Proofs.YtihdfkcoajpmjaaGreatDoor
open Go.RowKit Mh
set_option linter.unusedVariables false

/-- A reader at the end of the empty string, its error e. -/
def lRd (e : Int) : Obj := .cells #[.string ⟨#[]⟩, .int .i64 0, .string ⟨#[]⟩, .string ⟨#[]⟩, .int .i64 0, .int .i64 0, .int .i64 e] 51 (0, 0)
abbrev zCond : Array Value := #[.int .i64 0, .string ⟨#[]⟩, .int .i64 0, .bool false, .int .i64 0, .string ⟨#[]⟩, .slice none 0 0, .slice none 0 0, .slice none 0 0]

theorem lfail_8 (b : Nat) (w : World) (h : w.heap[b]? = some (lRd 0)) :
    Calls Tryz.prog 17 #[.pointer (some ⟨b, 0, none⟩), .int .i64 0, .int .i64 8] w fun e w' => e = .returned (.tuple #[]) ∧ w'.heap[b]? = some (lRd 8) ∧ Kept [b] w w' := by
  have c6 : w.cell? ⟨b, 6, none⟩ = some (.int .i64 0) := cellT h rfl
  have c5 : w.cell? ⟨b, 5, none⟩ = some (.int .i64 0) := cellT h rfl
  have f5 : w.frozen? ⟨b, 5, none⟩ = false := frozenT h
  have f6 : w.frozen? ⟨b, 6, none⟩ = false := frozenT h
  have H := Lib.hid h
  clear h
  go_enter Tryz.func17, Tryz.ntmps17
  go_wp2
  go_end0
  refine ⟨rfl, ?_, ?_⟩
  · exact heap_setCell_same _ _ 6 _ _ _ (heap_setCell_same _ _ 5 _ _ _ H.out)
  · exact ((Kept.refl [b] w).set b 5 (by simp) _).set b 6 (by simp) _

set_option maxRecDepth 100000 in
theorem lnext_end (b : Nat) (w : World) (h : w.heap[b]? = some (lRd 0)) :
    Calls Tryz.prog 15 #[.pointer (some ⟨b, 0, none⟩)] w fun e w' => e = .returned (.tuple #[]) ∧ w'.heap[b]? = some (lRd 0) ∧ Kept [b] w w' := by
  have c0 : w.cell? ⟨b, 0, none⟩ = some (.string ⟨#[]⟩) := cellT h rfl
  have c1 : w.cell? ⟨b, 1, none⟩ = some (.int .i64 0) := cellT h rfl
  have c2 : w.cell? ⟨b, 2, none⟩ = some (.string ⟨#[]⟩) := cellT h rfl
  have c3 : w.cell? ⟨b, 3, none⟩ = some (.string ⟨#[]⟩) := cellT h rfl
  have c4 : w.cell? ⟨b, 4, none⟩ = some (.int .i64 0) := cellT h rfl
  have f2 : w.frozen? ⟨b, 2, none⟩ = false := frozenT h
  have f3 : w.frozen? ⟨b, 3, none⟩ = false := frozenT h
  have f4 : w.frozen? ⟨b, 4, none⟩ = false := frozenT h
  have H := Lib.hid h
  clear h
  go_enter Tryz.func15, Tryz.ntmps15
  go_wp2
  refine wp_loop_rounds 1 ?_
  rw [rounds_succ]
  go_wp2
  go_quiet (fail)
  go_wp2
  refine bodyPost_ret (v := .tuple #[]) (by simp [results, Tryz.results15, go_sem]) rfl ?_
  refine ⟨rfl, ?_, ?_⟩
  · exact heap_setCell_same _ _ 4 _ _ _ (heap_setCell_same _ _ 3 _ _ _ (heap_setCell_same _ _ 2 _ _ _ H.out))
  · repeat (refine Kept.set ?_ _ _ (by simp) _)
    exact (Kept.refl _ _).drewN _

set_option maxRecDepth 100000 in
theorem lsingle_end (b : Nat) (w : World) (h : w.heap[b]? = some (lRd 0)) :
    Calls Tryz.prog 75 #[.pointer (some ⟨b, 0, none⟩)] w fun e w' => e = .returned (.agg zCond) ∧ w'.heap[b]? = some (lRd 8) ∧ Kept [b] w w' := by
  have hlt : b < w.heap.size := (Array.getElem?_eq_some_iff.1 h).1
  have c2 : w.cell? ⟨b, 2, none⟩ = some (.string ⟨#[]⟩) := cellT h rfl
  have c4 : w.cell? ⟨b, 4, none⟩ = some (.int .i64 0) := cellT h rfl
  have c6 : w.cell? ⟨b, 6, none⟩ = some (.int .i64 0) := cellT h rfl
  have H := Lib.hid h
  clear h
  go_enter Tryz.func75, Tryz.ntmps75
  go_wp2_with fail
  refine (lfail_8 b _ (by rw [heap_alloc_old _ _ hlt]; exact H.out)).mono ?_
  rintro e w1 ⟨rfl, h1, hb1⟩
  have HB : Hid (Kept [b] w w1) := ((Kept.refl [b] w).alloc _).trans hb1
  have hz : w.heap.size < w1.heap.size := by have := hb1.size; simp at this; omega
  have hT1 : w1.heap[w.heap.size]? = some (.cells zCond 39 (0, 0)) := (hb1.block _ (by simp) (by simp; omega)).trans (heap_alloc_new _ _)
  have H1 := Lib.hid h1
  have HT1 := Lib.hid hT1
  have r0 : w1.cell? ⟨w.heap.size, 0, none⟩ = some (.int .i64 0) := cellT hT1 rfl
  have r1 : w1.cell? ⟨w.heap.size, 1, none⟩ = some (.string ⟨#[]⟩) := cellT hT1 rfl
  have r2 : w1.cell? ⟨w.heap.size, 2, none⟩ = some (.int .i64 0) := cellT hT1 rfl
  have r3 : w1.cell? ⟨w.heap.size, 3, none⟩ = some (.bool false) := cellT hT1 rfl
  have r4 : w1.cell? ⟨w.heap.size, 4, none⟩ = some (.int .i64 0) := cellT hT1 rfl
  have r5 : w1.cell? ⟨w.heap.size, 5, none⟩ = some (.string ⟨#[]⟩) := cellT hT1 rfl
  have r6 : w1.cell? ⟨w.heap.size, 6, none⟩ = some (.slice none 0 0) := cellT hT1 rfl
  have r7 : w1.cell? ⟨w.heap.size, 7, none⟩ = some (.slice none 0 0) := cellT hT1 rfl
  have r8 : w1.cell? ⟨w.heap.size, 8, none⟩ = some (.slice none 0 0) := cellT hT1 rfl
  have g0 := fun i => frozenT (i := i) hT1
  clear h1 hb1 hT1
  go_wp2_with fail
  refine bodyPost_ret (v := .agg zCond) (by simp [results, Tryz.results75, go_sem, zCond, r0, r1, r2, r3, r4, r5, r6, r7, r8]) rfl ⟨rfl, ?_, ?_⟩
  · refine (Kept.block (S := [w.heap.size]) (w := w1) ?_ b (by omega) (by simp; omega)).trans H1.out
    repeat (refine Kept.set ?_ _ _ (by simp) _)
    exact Kept.refl _ _
  · repeat (refine Kept.setNew ?_ _ _ (Nat.le_refl _) _)
    exact HB.out

set_option maxRecDepth 100000 in
theorem lis_end (b : Nat) (s : ByteArray) (w : World) (h : w.heap[b]? = some (lRd 0)) :
    Calls Tryz.prog 32 #[.pointer (some ⟨b, 0, none⟩), .string s] w fun e w' => e = .returned (.bool false) ∧ w = w' := by
  have c2 : w.cell? ⟨b, 2, none⟩ = some (.string ⟨#[]⟩) := cellT h rfl
  have c3 : w.cell? ⟨b, 3, none⟩ = some (.string ⟨#[]⟩) := cellT h rfl
  clear h
  go_enter Tryz.func32, Tryz.ntmps32
  go_wp2
  go_ret
  exact ⟨rfl, rfl⟩

/-- The nine cells of a block that holds the zero condition. -/
theorem zcells {w : World} {g : Nat} (h : w.heap[g]? = some (.cells zCond 39 (0, 0))) :
    w.cell? ⟨g, 0, none⟩ = some (.int .i64 0) ∧ w.cell? ⟨g, 1, none⟩ = some (.string ⟨#[]⟩) ∧ w.cell? ⟨g, 2, none⟩ = some (.int .i64 0) ∧ w.cell? ⟨g, 3, none⟩ = some (.bool false) ∧ w.cell? ⟨g, 4, none⟩ = some (.int .i64 0) ∧
    w.cell? ⟨g, 5, none⟩ = some (.string ⟨#[]⟩) ∧ w.cell? ⟨g, 6, none⟩ = some (.slice none 0 0) ∧ w.cell? ⟨g, 7, none⟩ = some (.slice none 0 0) ∧ w.cell? ⟨g, 8, none⟩ = some (.slice none 0 0) ∧ ∀ i, w.frozen? ⟨g, i, none⟩ = false :=
  ⟨cellT h rfl, cellT h rfl, cellT h rfl, cellT h rfl, cellT h rfl, cellT h rfl, cellT h rfl, cellT h rfl, cellT h rfl, fun i => frozenT h⟩

set_option maxRecDepth 100000 in
theorem lnot_end (b : Nat) (w : World) (h : w.heap[b]? = some (lRd 0)) :
    Calls Tryz.prog 50 #[.pointer (some ⟨b, 0, none⟩)] w fun e w' => e = .returned (.agg zCond) ∧ w'.heap[b]? = some (lRd 8) ∧ Kept [b] w w' := by
  have hlt : b < w.heap.size := (Array.getElem?_eq_some_iff.1 h).1
  have c6 : w.cell? ⟨b, 6, none⟩ = some (.int .i64 0) := cellT h rfl
  have HI := Lib.hid (fun s w' (hh : w'.heap[b]? = some (lRd 0)) => lis_end b s w' hh)
  have HS := Lib.hid (fun w' (hh : w'.heap[b]? = some (lRd 0)) => lsingle_end b w' hh)
  have H := Lib.hid h
  clear h
  go_enter Tryz.func50, Tryz.ntmps50
  go_wp2_with fail
  refine (HI.out _ _ (by rw [heap_alloc_old _ _ hlt]; exact H.out)).mono ?_
  rintro e w1 ⟨rfl, rfl⟩
  go_wp2_with fail
  refine (HS.out _ ((heap_alloc_old _ _ hlt).trans H.out)).mono ?_
  rintro e w1 ⟨rfl, h1, hb1⟩
  have HB : Hid (Kept [b] w w1) := ((Kept.refl [b] w).alloc _).trans hb1
  have hz : w.heap.size < w1.heap.size := by have := hb1.size; simp at this; omega
  have hT1 : w1.heap[w.heap.size]? = some (.cells zCond 39 (0, 0)) := (hb1.block _ (by simp) (by simp; omega)).trans (heap_alloc_new _ _)
  have H1 := Lib.hid h1
  obtain ⟨r0, r1, r2, r3, r4, r5, r6, r7, r8, g0⟩ := zcells hT1
  clear h1 hb1 hT1
  go_wp2_with fail
  refine bodyPost_ret (v := .agg zCond) (by simp [results, Tryz.results50, go_sem, zCond, r0, r1, r2, r3, r4, r5, r6, r7, r8]) rfl ⟨rfl, ?_, ?_⟩
  · refine (Kept.block (S := [w.heap.size]) (w := w1) ?_ b (by omega) (by simp; omega)).trans H1.out
    repeat (refine Kept.set ?_ _ _ (by simp) _)
    exact Kept.refl _ _
  · repeat (refine Kept.setNew ?_ _ _ (Nat.le_refl _) _)
    exact HB.out

set_option maxRecDepth 100000 in
theorem ljoined_one (op : Int) (g c : Nat) (w : World) (h : w.heap[g]? = some (.cells zCond 39 (0, 0))) :
    Calls Tryz.prog 33 #[.int .i64 op, .slice (some ⟨g, 0, none⟩) 1 c] w fun e w' => e = .returned (.agg zCond) ∧ Kept [] w w' := by
  have hlt : g < w.heap.size := (Array.getElem?_eq_some_iff.1 h).1
  obtain ⟨r0, r1, r2, r3, r4, r5, r6, r7, r8, g0⟩ := zcells h
  clear h
  go_enter Tryz.func33, Tryz.ntmps33
  go_wp2_with fail
  refine bodyPost_ret (v := .agg zCond) (by simp [results, Tryz.results33, go_sem, zCond]) rfl ⟨rfl, ?_⟩
  repeat (refine Kept.setNew ?_ _ _ (Nat.le_refl _) _)
  exact (Kept.refl _ _).alloc _

/-- A reader whose error stands: no further token is looked at. -/
theorem cell8 {b : Nat} {w : World} (h : w.heap[b]? = some (lRd 8)) : w.cell? ⟨b, 6, none⟩ = some (.int .i64 8) := cellT h rfl
set_option maxRecDepth 100000 in
theorem land_end (b : Nat) (w : World) (h : w.heap[b]? = some (lRd 0)) :
    Calls Tryz.prog 31 #[.pointer (some ⟨b, 0, none⟩)] w fun e w' => e = .returned (.agg zCond) ∧ w'.heap[b]? = some (lRd 8) ∧ Kept [b] w w' := by
  have hlt : b < w.heap.size := (Array.getElem?_eq_some_iff.1 h).1
  have HS := Lib.hid (fun w' (hh : w'.heap[b]? = some (lRd 0)) => lnot_end b w' hh)
  have H := Lib.hid h
  clear h
  go_enter Tryz.func31, Tryz.ntmps31
  go_wp2_with fail
  refine (HS.out _ ((heap_alloc_old _ _ hlt).trans H.out)).mono ?_
  rintro e w1 ⟨rfl, h1, hb1⟩
  have HB : Hid (Kept [b] w w1) := ((Kept.refl [b] w).alloc _).trans hb1
  have hz : w.heap.size < w1.heap.size := by have := hb1.size; simp at this; omega
  have hb : b < w1.heap.size := by omega
  have hT1 : w1.heap[w.heap.size]? = some (.cells zCond 39 (0, 0)) := (hb1.block _ (by simp) (by simp; omega)).trans (heap_alloc_new _ _)
  have H1 := Lib.hid h1
  have HT1 := Lib.hid hT1
  have c8 := cell8 h1
  clear h1 hb1 hT1
  go_wp2_with fail
  refine wp_loop_rounds 1 ?_
  rw [rounds_succ]
  go_wp2_with fail
  refine (ljoined_one _ _ _ _ (heap_alloc_new _ _)).mono ?_
  rintro e w2 ⟨rfl, hb2⟩
  have H2 : Hid (w2.heap[b]? = some (lRd 8)) := (hb2.block b (by simp; omega) (by simp)).trans ((heap_alloc_old _ _ hb).trans H1.out)
  have hT2 : w2.heap[w.heap.size]? = some (.cells zCond 39 (0, 0)) := (hb2.block _ (by simp; omega) (by simp)).trans ((heap_alloc_old _ _ hz).trans HT1.out)
  have HB2 : Hid (Kept [b] w w2) := (HB.out.alloc _).call hb2 (by simp)
  have hz2 : w.heap.size < w2.heap.size := by have := hb2.size; simp at this; omega
  obtain ⟨r0, r1, r2, r3, r4, r5, r6, r7, r8, g0⟩ := zcells hT2
  clear hb2 hT2 c8
  go_wp2_with fail
  refine bodyPost_ret (v := .agg zCond) (by simp [results, Tryz.results31, go_sem, zCond, r0, r1, r2, r3, r4, r5, r6, r7, r8]) rfl ⟨rfl, ?_, ?_⟩
  · refine (Kept.block (S := [w.heap.size]) (w := w2) ?_ b (by omega) (by simp; omega)).trans H2.out
    repeat (refine Kept.set ?_ _ _ (by simp) _)
    exact Kept.refl _ _
  · repeat (refine Kept.setNew ?_ _ _ (Nat.le_refl _) _)
    exact HB2.out
set_option maxRecDepth 100000 in
theorem lor_end (b : Nat) (w : World) (h : w.heap[b]? = some (lRd 0)) :
    Calls Tryz.prog 16 #[.pointer (some ⟨b, 0, none⟩)] w fun e w' => e = .returned (.agg zCond) ∧ w'.heap[b]? = some (lRd 8) ∧ Kept [b] w w' := by
  have hlt : b < w.heap.size := (Array.getElem?_eq_some_iff.1 h).1
  have HS := Lib.hid (fun w' (hh : w'.heap[b]? = some (lRd 0)) => land_end b w' hh)
  have H := Lib.hid h
  clear h
  go_enter Tryz.func16, Tryz.ntmps16
  go_wp2_with fail
  refine (HS.out _ ((heap_alloc_old _ _ hlt).trans H.out)).mono ?_
  rintro e w1 ⟨rfl, h1, hb1⟩
  have HB : Hid (Kept [b] w w1) := ((Kept.refl [b] w).alloc _).trans hb1
  have hz : w.heap.size < w1.heap.size := by have := hb1.size; simp at this; omega
  have hb : b < w1.heap.size := by omega
  have hT1 : w1.heap[w.heap.size]? = some (.cells zCond 39 (0, 0)) := (hb1.block _ (by simp) (by simp; omega)).trans (heap_alloc_new _ _)
  have H1 := Lib.hid h1
  have HT1 := Lib.hid hT1
  have c8 := cell8 h1
  clear h1 hb1 hT1
  go_wp2_with fail
  refine wp_loop_rounds 1 ?_
  rw [rounds_succ]
  go_wp2_with fail
  refine (ljoined_one _ _ _ _ (heap_alloc_new _ _)).mono ?_
  rintro e w2 ⟨rfl, hb2⟩
  have H2 : Hid (w2.heap[b]? = some (lRd 8)) := (hb2.block b (by simp; omega) (by simp)).trans ((heap_alloc_old _ _ hb).trans H1.out)
  have hT2 : w2.heap[w.heap.size]? = some (.cells zCond 39 (0, 0)) := (hb2.block _ (by simp; omega) (by simp)).trans ((heap_alloc_old _ _ hz).trans HT1.out)
  have HB2 : Hid (Kept [b] w w2) := (HB.out.alloc _).call hb2 (by simp)
  have hz2 : w.heap.size < w2.heap.size := by have := hb2.size; simp at this; omega
  obtain ⟨r0, r1, r2, r3, r4, r5, r6, r7, r8, g0⟩ := zcells hT2
  clear hb2 hT2 c8
  go_wp2_with fail
  refine bodyPost_ret (v := .agg zCond) (by simp [results, Tryz.results16, go_sem, zCond, r0, r1, r2, r3, r4, r5, r6, r7, r8]) rfl ⟨rfl, ?_, ?_⟩
  · refine (Kept.block (S := [w.heap.size]) (w := w2) ?_ b (by omega) (by simp; omega)).trans H2.out
    repeat (refine Kept.set ?_ _ _ (by simp) _)
    exact Kept.refl _ _
  · repeat (refine Kept.setNew ?_ _ _ (Nat.le_refl _) _)
    exact HB2.out
end Go.Proofs.YtihdfkcoajpmjaaGreatDoor
