/- conf.follow: the step along a value. Conditions: the keys ascend; as many keys as items in a table. · conf.follow as one contract: it follows a step. -/
import Derived.Test.YtekknckdeedjnaaGreatDoorKeK
import Derived.Test.YtekknckdeedjnaaGreatDoorKept
import Derived.Test.YtekknckdeedjnaaGreatDoorVeil
namespace Go.Proofs.YtekknckdeedjnaaGreatDoor
open Go.RowKit Mh
set_option linter.unusedVariables false

/-- The zero value's cells. -/
def zv : List Value := [.int .i64 0, .bool false, .int .i64 0, .string ⟨#[]⟩, .slice none 0 0, .slice none 0 0]
theorem zv_at (w : World) : VAt w V.nil zv := by
  unfold V.nil VAt
  refine ⟨.slice none 0 0, .slice none 0 0, rfl, rfl, rfl, by decide, ⟨⟨rfl, .inl ⟨rfl, none, 0, rfl⟩⟩, by simp⟩, [], ⟨rfl, .inl ⟨rfl, none, 0, rfl⟩⟩, by simp [VsAt]⟩
/-- A six-cell block that is written over. -/
def put6 (w : World) (g : Nat) (a b c d e f : Value) : World := (((((w.setCell ⟨g, 0, none⟩ a).setCell ⟨g, 1, none⟩ b).setCell ⟨g, 2, none⟩ c).setCell ⟨g, 3, none⟩ d).setCell ⟨g, 4, none⟩ e).setCell ⟨g, 5, none⟩ f
theorem put6_at {w : World} {g : Nat} {T : TypeId} {a b c d e f : Value} {cs : Array Value} (hc : cs.size = 6) (h : w.heap[g]? = some (.cells cs T (0, 0))) : (put6 w g a b c d e f).heap[g]? = some (.cells #[a, b, c, d, e, f] T (0, 0)) := by
  obtain ⟨l⟩ := cs
  match l, hc with
  | [x0, x1, x2, x3, x4, x5], _ =>
    exact heap_setCell_same _ _ 5 _ _ _ (heap_setCell_same _ _ 4 _ _ _ (heap_setCell_same _ _ 3 _ _ _ (heap_setCell_same _ _ 2 _ _ _ (heap_setCell_same _ _ 1 _ _ _ (heap_setCell_same _ _ 0 _ _ _ h)))))
theorem put6_below {w w' : World} {B g : Nat} {a b c d e f : Value} (h : Below B w w') (hg : B ≤ g) : Below B w (put6 w' g a b c d e f) := by
  unfold put6
  exact ((((((h.setCell hg _).setCell hg _).setCell hg _).setCell hg _).setCell hg _).setCell hg _)
set_option maxHeartbeats 2000000 in
theorem follow_t (k : Int) (b : Bool) (n : Int) (t : ByteArray) (il kl : Nat) (ia ka : Option Addr) (ic kc : Nat) (key : ByteArray) (num : Int) (w : World) (hk : (k != 5) = true) (h0 : key.toList.isEmpty = true) :
    Calls Tryz.prog 49 #[.agg #[.int .i64 k, .bool b, .int .i64 n, .string t, .slice ia il ic, .slice ka kl kc], .agg #[.string key, .int .i64 num, .bool false]] w fun e w' => e = .returned (.tuple #[.agg zv.toArray, .bool false]) ∧ Below w.heap.size w w' := by
  go_enter Tryz.func49, Tryz.ntmps49
  go_wp2_with fail
  refine bodyPost_ret (v := .tuple #[.agg zv.toArray, .bool false]) (by simp [results, Tryz.results49, go_sem, zv] <;> rfl) rfl ⟨rfl, ?_⟩
  exact (((Below.refl w.heap.size w).alloc (Nat.le_refl _) _).alloc (by simp) _).alloc (by simp <;> omega) _

set_option maxHeartbeats 2000000 in
theorem follow_i (k : Int) (b : Bool) (n : Int) (t : ByteArray) (il kl : Nat) (ia ka : Option Addr) (ic kc : Nat) (key : ByteArray) (num : Nat) (w : World) (hk : (k != 5) = false) (h0 : key.toList.isEmpty = true) (hlen : il ≤ 1099511627776) (hn : num < il) (ib io : Nat) (hia : ia = some ⟨ib, io, none⟩) (hib : ib < w.heap.size)
    (k1 : Int) (b1 : Bool) (n1 : Int) (t1 : ByteArray) (il1 kl1 : Nat) (ia1 ka1 : Option Addr) (ic1 kc1 : Nat) (d0 : w.cell? ⟨ib, io + num * 6, none⟩ = some (.int .i64 k1)) (d1 : w.cell? ⟨ib, io + num * 6 + 1, none⟩ = some (.bool b1)) (d2 : w.cell? ⟨ib, io + num * 6 + 2, none⟩ = some (.int .i64 n1)) (d3 : w.cell? ⟨ib, io + num * 6 + 3, none⟩ = some (.string t1)) (d4 : w.cell? ⟨ib, io + num * 6 + 4, none⟩ = some (.slice ia1 il1 ic1)) (d5 : w.cell? ⟨ib, io + num * 6 + 5, none⟩ = some (.slice ka1 kl1 kc1)) :
    Calls Tryz.prog 49 #[.agg #[.int .i64 k, .bool b, .int .i64 n, .string t, .slice ia il ic, .slice ka kl kc], .agg #[.string key, .int .i64 num, .bool false]] w fun e w' => e = .returned (.tuple #[.agg #[.int .i64 k1, .bool b1, .int .i64 n1, .string t1, .slice ia1 il1 ic1, .slice ka1 kl1 kc1], .bool true]) ∧ Below w.heap.size w w' := by
  subst hia
  have q : decide ((il : Int) ≤ (num : Int)) = false := decide_eq_false (by omega)
  have q' : decide (il ≤ num) = false := decide_eq_false (by omega)
  have HB : Hid (Below w.heap.size w (((w.alloc (.cells #[.int .i64 k, .bool b, .int .i64 n, .string t, .slice (some ⟨ib, io, none⟩) il ic, .slice ka kl kc] 25)).alloc (.cells #[.string key, .int .i64 num, .bool false] 94)).alloc (.cells #[.int .i64 0, .bool false, .int .i64 0, .string ⟨#[]⟩, .slice none 0 0, .slice none 0 0] 25))) := (((Below.refl w.heap.size w).alloc (Nat.le_refl _) _).alloc (by simp) _).alloc (by simp <;> omega) _
  have z0 := (HB.out.cell (p := ⟨ib, io + num * 6, none⟩) hib).trans d0
  have z1 := (HB.out.cell (p := ⟨ib, io + num * 6 + 1, none⟩) hib).trans d1
  have z2 := (HB.out.cell (p := ⟨ib, io + num * 6 + 2, none⟩) hib).trans d2
  have z3 := (HB.out.cell (p := ⟨ib, io + num * 6 + 3, none⟩) hib).trans d3
  have z4 := (HB.out.cell (p := ⟨ib, io + num * 6 + 4, none⟩) hib).trans d4
  have z5 := (HB.out.cell (p := ⟨ib, io + num * 6 + 5, none⟩) hib).trans d5
  clear d0 d1 d2 d3 d4 d5
  go_enter Tryz.func49, Tryz.ntmps49
  go_wp2_with fail
  refine bodyPost_ret (v := .tuple #[.agg #[.int .i64 k1, .bool b1, .int .i64 n1, .string t1, .slice ia1 il1 ic1, .slice ka1 kl1 kc1], .bool true]) (by simp [results, Tryz.results49, go_sem] <;> rfl) rfl ⟨rfl, ?_⟩
  exact (((Below.refl w.heap.size w).alloc (Nat.le_refl _) _).alloc (by simp) _).alloc (by simp <;> omega) _

set_option maxHeartbeats 2000000 in
/-- A number beyond the list. -/
theorem follow_o (k : Int) (b : Bool) (n : Int) (t : ByteArray) (il kl : Nat) (ia ka : Option Addr) (ic kc : Nat) (key : ByteArray) (num : Nat) (w : World) (hk : (k != 5) = false) (h0 : key.toList.isEmpty = true) (hlen : il ≤ 1099511627776) (hn : il ≤ num) :
    Calls Tryz.prog 49 #[.agg #[.int .i64 k, .bool b, .int .i64 n, .string t, .slice ia il ic, .slice ka kl kc], .agg #[.string key, .int .i64 num, .bool false]] w fun e w' => e = .returned (.tuple #[.agg zv.toArray, .bool false]) ∧ Below w.heap.size w w' := by
  have q : decide ((il : Int) ≤ (num : Int)) = true := decide_eq_true (by omega)
  have q' : decide (il ≤ num) = true := decide_eq_true hn
  go_enter Tryz.func49, Tryz.ntmps49
  go_wp2_with fail
  refine bodyPost_ret (v := .tuple #[.agg zv.toArray, .bool false]) (by simp [results, Tryz.results49, go_sem, zv] <;> rfl) rfl ⟨rfl, ?_⟩
  exact (((Below.refl w.heap.size w).alloc (Nat.le_refl _) _).alloc (by simp) _).alloc (by simp <;> omega) _
set_option maxHeartbeats 2000000 in
/-- A key of no table. -/
theorem follow_n (k : Int) (b : Bool) (n : Int) (t : ByteArray) (il kl : Nat) (ia ka : Option Addr) (ic kc : Nat) (key : ByteArray) (num : Nat) (w : World) (hk : (k != 6) = true) (h0 : key.toList.isEmpty = false) :
    Calls Tryz.prog 49 #[.agg #[.int .i64 k, .bool b, .int .i64 n, .string t, .slice ia il ic, .slice ka kl kc], .agg #[.string key, .int .i64 num, .bool false]] w fun e w' => e = .returned (.tuple #[.agg zv.toArray, .bool false]) ∧ Below w.heap.size w w' := by
  go_enter Tryz.func49, Tryz.ntmps49
  go_wp2_with fail
  refine bodyPost_ret (v := .tuple #[.agg zv.toArray, .bool false]) (by simp [results, Tryz.results49, go_sem, zv] <;> rfl) rfl ⟨rfl, ?_⟩
  exact (((Below.refl w.heap.size w).alloc (Nat.le_refl _) _).alloc (by simp) _).alloc (by simp <;> omega) _

set_option maxHeartbeats 2000000 in
/-- A key that a table has not. -/
theorem follow_m (k : Int) (b : Bool) (n : Int) (t : ByteArray) (il kl : Nat) (ia ka : Option Addr) (ic kc : Nat) (key : ByteArray) (num L : Nat) (w : World) (hk : (k != 6) = false) (h0 : key.toList.isEmpty = false)
    (CF : Hid (∀ w', Below w.heap.size w w' → Calls Tryz.prog 42 #[.agg #[.int .i64 k, .bool b, .int .i64 n, .string t, .slice ia il ic, .slice ka kl kc], .string key] w' fun e w2 => e = .returned (.tuple #[.int .i64 L, .bool false]) ∧ Below w'.heap.size w' w2)) :
    Calls Tryz.prog 49 #[.agg #[.int .i64 k, .bool b, .int .i64 n, .string t, .slice ia il ic, .slice ka kl kc], .agg #[.string key, .int .i64 num, .bool false]] w fun e w' => e = .returned (.tuple #[.agg zv.toArray, .bool false]) ∧ Below w.heap.size w w' := by
  have HB : Hid (Below w.heap.size w (((w.alloc (.cells #[.int .i64 k, .bool b, .int .i64 n, .string t, .slice ia il ic, .slice ka kl kc] 25)).alloc (.cells #[.string key, .int .i64 num, .bool false] 94)).alloc (.cells #[.int .i64 0, .bool false, .int .i64 0, .string ⟨#[]⟩, .slice none 0 0, .slice none 0 0] 25))) := (((Below.refl w.heap.size w).alloc (Nat.le_refl _) _).alloc (by simp) _).alloc (by simp <;> omega) _
  go_enter Tryz.func49, Tryz.ntmps49
  go_wp2_with fail
  refine (CF.out _ HB.out).mono ?_
  rintro e w1 ⟨rfl, hb1⟩
  have hZ : w1.heap[w.heap.size + 1 + 1]? = some (.cells #[.int .i64 0, .bool false, .int .i64 0, .string ⟨#[]⟩, .slice none 0 0, .slice none 0 0] 25 (0, 0)) := (hb1.block _ (by simp)).trans (heap_new_at (by simp))
  have HB1 : Hid (Below w.heap.size w w1) := HB.out.trans (hb1.mono (by simp <;> omega))
  obtain ⟨r0, r1, r2, r3, r4, r5, g0⟩ : w1.cell? ⟨w.heap.size + 1 + 1, 0, none⟩ = some (.int .i64 0) ∧ w1.cell? ⟨w.heap.size + 1 + 1, 1, none⟩ = some (.bool false) ∧ w1.cell? ⟨w.heap.size + 1 + 1, 2, none⟩ = some (.int .i64 0) ∧ w1.cell? ⟨w.heap.size + 1 + 1, 3, none⟩ = some (.string ⟨#[]⟩) ∧ w1.cell? ⟨w.heap.size + 1 + 1, 4, none⟩ = some (.slice none 0 0) ∧
    w1.cell? ⟨w.heap.size + 1 + 1, 5, none⟩ = some (.slice none 0 0) ∧ ∀ i, w1.frozen? ⟨w.heap.size + 1 + 1, i, none⟩ = false := ⟨cellT hZ rfl, cellT hZ rfl, cellT hZ rfl, cellT hZ rfl, cellT hZ rfl, cellT hZ rfl, fun i => frozenT hZ⟩
  have HZ := Lib.hid hZ
  clear hb1 hZ CF HB
  have f0 := g0 0
  have f1 := g0 1
  have f2 := g0 2
  have f3 := g0 3
  have f4 := g0 4
  have f5 := g0 5
  clear g0
  go_wp2_with fail
  have hput := put6_at (a := .int .i64 0) (b := .bool false) (c := .int .i64 0) (d := .string ⟨#[]⟩) (e := .slice none 0 0) (f := .slice none 0 0) rfl HZ.out
  have hbel : Below w.heap.size w (put6 w1 (w.heap.size + 1 + 1) (.int .i64 0) (.bool false) (.int .i64 0) (.string ⟨#[]⟩) (.slice none 0 0) (.slice none 0 0)) := put6_below HB1.out (by omega)
  unfold put6 at hput hbel
  generalize hwf : World.setCell _ _ _ = wf at hput hbel ⊢
  clear hwf r0 r1 r2 r3 r4 r5 f0 f1 f2 f3 f4 f5
  have r0 : wf.cell? ⟨w.heap.size + 1 + 1, 0, none⟩ = some (.int .i64 0) := cellT hput rfl
  have r1 : wf.cell? ⟨w.heap.size + 1 + 1, 1, none⟩ = some (.bool false) := cellT hput rfl
  have r2 : wf.cell? ⟨w.heap.size + 1 + 1, 2, none⟩ = some (.int .i64 0) := cellT hput rfl
  have r3 : wf.cell? ⟨w.heap.size + 1 + 1, 3, none⟩ = some (.string ⟨#[]⟩) := cellT hput rfl
  have r4 : wf.cell? ⟨w.heap.size + 1 + 1, 4, none⟩ = some (.slice none 0 0) := cellT hput rfl
  have r5 : wf.cell? ⟨w.heap.size + 1 + 1, 5, none⟩ = some (.slice none 0 0) := cellT hput rfl
  refine bodyPost_ret (v := .tuple #[.agg zv.toArray, .bool false]) (by simp [results, Tryz.results49, go_sem, zv, r0, r1, r2, r3, r4, r5] <;> rfl) rfl ⟨rfl, hbel⟩
set_option maxHeartbeats 2000000 in
/-- A key that a table has. -/
theorem follow_h (k : Int) (b : Bool) (n : Int) (t : ByteArray) (il kl : Nat) (ka : Option Addr) (ic kc : Nat) (key : ByteArray) (num L : Nat) (w : World) (hk : (k != 6) = false) (h0 : key.toList.isEmpty = false) (hlen : il ≤ 1099511627776) (hL : L < il) (ib io : Nat) (hib : ib < w.heap.size) (k1 : Int) (b1 : Bool) (n1 : Int) (t1 : ByteArray) (il1 kl1 : Nat) (ia1 ka1 : Option Addr) (ic1 kc1 : Nat) (d0 : w.cell? ⟨ib, io + L * 6, none⟩ = some (.int .i64 k1)) (d1 : w.cell? ⟨ib, io + L * 6 + 1, none⟩ = some (.bool b1)) (d2 : w.cell? ⟨ib, io + L * 6 + 2, none⟩ = some (.int .i64 n1)) (d3 : w.cell? ⟨ib, io + L * 6 + 3, none⟩ = some (.string t1)) (d4 : w.cell? ⟨ib, io + L * 6 + 4, none⟩ = some (.slice ia1 il1 ic1)) (d5 : w.cell? ⟨ib, io + L * 6 + 5, none⟩ = some (.slice ka1 kl1 kc1))
    (CF : Hid (∀ w', Below w.heap.size w w' → Calls Tryz.prog 42 #[.agg #[.int .i64 k, .bool b, .int .i64 n, .string t, .slice (some ⟨ib, io, none⟩) il ic, .slice ka kl kc], .string key] w' fun e w2 => e = .returned (.tuple #[.int .i64 L, .bool true]) ∧ Below w'.heap.size w' w2)) :
    Calls Tryz.prog 49 #[.agg #[.int .i64 k, .bool b, .int .i64 n, .string t, .slice (some ⟨ib, io, none⟩) il ic, .slice ka kl kc], .agg #[.string key, .int .i64 num, .bool false]] w fun e w' => e = .returned (.tuple #[.agg #[.int .i64 k1, .bool b1, .int .i64 n1, .string t1, .slice ia1 il1 ic1, .slice ka1 kl1 kc1], .bool true]) ∧ Below w.heap.size w w' := by
  have HB : Hid (Below w.heap.size w (((w.alloc (.cells #[.int .i64 k, .bool b, .int .i64 n, .string t, .slice (some ⟨ib, io, none⟩) il ic, .slice ka kl kc] 25)).alloc (.cells #[.string key, .int .i64 num, .bool false] 94)).alloc (.cells #[.int .i64 0, .bool false, .int .i64 0, .string ⟨#[]⟩, .slice none 0 0, .slice none 0 0] 25))) := (((Below.refl w.heap.size w).alloc (Nat.le_refl _) _).alloc (by simp) _).alloc (by simp <;> omega) _
  go_enter Tryz.func49, Tryz.ntmps49
  go_wp2_with fail
  refine (CF.out _ HB.out).mono ?_
  rintro e w1 ⟨rfl, hb1⟩
  have hZ : w1.heap[w.heap.size + 1 + 1]? = some (.cells #[.int .i64 0, .bool false, .int .i64 0, .string ⟨#[]⟩, .slice none 0 0, .slice none 0 0] 25 (0, 0)) := (hb1.block _ (by simp)).trans (heap_new_at (by simp))
  have HB1 : Hid (Below w.heap.size w w1) := HB.out.trans (hb1.mono (by simp <;> omega))
  obtain ⟨r0, r1, r2, r3, r4, r5, g0⟩ : w1.cell? ⟨w.heap.size + 1 + 1, 0, none⟩ = some (.int .i64 0) ∧ w1.cell? ⟨w.heap.size + 1 + 1, 1, none⟩ = some (.bool false) ∧ w1.cell? ⟨w.heap.size + 1 + 1, 2, none⟩ = some (.int .i64 0) ∧ w1.cell? ⟨w.heap.size + 1 + 1, 3, none⟩ = some (.string ⟨#[]⟩) ∧ w1.cell? ⟨w.heap.size + 1 + 1, 4, none⟩ = some (.slice none 0 0) ∧
    w1.cell? ⟨w.heap.size + 1 + 1, 5, none⟩ = some (.slice none 0 0) ∧ ∀ i, w1.frozen? ⟨w.heap.size + 1 + 1, i, none⟩ = false := ⟨cellT hZ rfl, cellT hZ rfl, cellT hZ rfl, cellT hZ rfl, cellT hZ rfl, cellT hZ rfl, fun i => frozenT hZ⟩
  have HZ := Lib.hid hZ
  have hib1 := hib
  have z0 := (HB1.out.cell (p := ⟨ib, io + L * 6, none⟩) hib).trans d0
  have z1 := (HB1.out.cell (p := ⟨ib, io + L * 6 + 1, none⟩) hib).trans d1
  have z2 := (HB1.out.cell (p := ⟨ib, io + L * 6 + 2, none⟩) hib).trans d2
  have z3 := (HB1.out.cell (p := ⟨ib, io + L * 6 + 3, none⟩) hib).trans d3
  have z4 := (HB1.out.cell (p := ⟨ib, io + L * 6 + 4, none⟩) hib).trans d4
  have z5 := (HB1.out.cell (p := ⟨ib, io + L * 6 + 5, none⟩) hib).trans d5
  have hbk : w1.heap[w.heap.size]? = some (.cells #[.int .i64 k, .bool b, .int .i64 n, .string t, .slice (some ⟨ib, io, none⟩) il ic, .slice ka kl kc] 25 (0, 0)) := (hb1.block _ (by simp <;> omega)).trans ((heap_alloc_old _ _ (by simp <;> omega)).trans ((heap_alloc_old _ _ (by simp)).trans (heap_alloc_new _ _)))
  have x4 : w1.cell? ⟨w.heap.size, 4, none⟩ = some (.slice (some ⟨ib, io, none⟩) il ic) := cellT hbk rfl
  clear hb1 hZ CF HB hbk d0 d1 d2 d3 d4 d5 hib1
  have f0 := g0 0
  have f1 := g0 1
  have f2 := g0 2
  have f3 := g0 3
  have f4 := g0 4
  have f5 := g0 5
  clear g0
  go_wp2_with fail
  have hput := put6_at (a := .int .i64 k1) (b := .bool b1) (c := .int .i64 n1) (d := .string t1) (e := .slice ia1 il1 ic1) (f := .slice ka1 kl1 kc1) rfl HZ.out
  have hbel : Below w.heap.size w (put6 w1 (w.heap.size + 1 + 1) (.int .i64 k1) (.bool b1) (.int .i64 n1) (.string t1) (.slice ia1 il1 ic1) (.slice ka1 kl1 kc1)) := put6_below HB1.out (by omega)
  unfold put6 at hput hbel
  generalize hwf : World.setCell _ _ _ = wf at hput hbel ⊢
  clear hwf z0 z1 z2 z3 z4 z5 x4 r0 r1 r2 r3 r4 r5 f0 f1 f2 f3 f4 f5
  have r0 : wf.cell? ⟨w.heap.size + 1 + 1, 0, none⟩ = some (.int .i64 k1) := cellT hput rfl
  have r1 : wf.cell? ⟨w.heap.size + 1 + 1, 1, none⟩ = some (.bool b1) := cellT hput rfl
  have r2 : wf.cell? ⟨w.heap.size + 1 + 1, 2, none⟩ = some (.int .i64 n1) := cellT hput rfl
  have r3 : wf.cell? ⟨w.heap.size + 1 + 1, 3, none⟩ = some (.string t1) := cellT hput rfl
  have r4 : wf.cell? ⟨w.heap.size + 1 + 1, 4, none⟩ = some (.slice ia1 il1 ic1) := cellT hput rfl
  have r5 : wf.cell? ⟨w.heap.size + 1 + 1, 5, none⟩ = some (.slice ka1 kl1 kc1) := cellT hput rfl
  refine bodyPost_ret (v := .tuple #[.agg #[.int .i64 k1, .bool b1, .int .i64 n1, .string t1, .slice ia1 il1 ic1, .slice ka1 kl1 kc1], .bool true]) (by simp [results, Tryz.results49, go_sem, r0, r1, r2, r3, r4, r5] <;> rfl) rfl ⟨rfl, hbel⟩
end Go.Proofs.YtekknckdeedjnaaGreatDoor
namespace Go.Proofs.YtekknckdeedjnaaGreatDoor
open Go.RowKit Mh
set_option linter.unusedVariables false

theorem follow_veil (S : Nat → Bool) (X : V) (cs : List Value) (s : St) (w : World) (h : VAt (veil S w) X cs) (hA : Asc X.kys) (hl : X.kd = 6 → X.kys.length = X.its.length) (hlen : X.its.length ≤ 1099511627776) :
    Calls Tryz.prog 49 #[.agg cs.toArray, .agg #[.string s.key, .int .i64 s.num, .bool false]] w fun e w' => ∃ ds : List Value, e = .returned (.tuple #[.agg ds.toArray, .bool (followV X s).isSome]) ∧ VAt (veil S w') ((followV X s).getD V.nil) ds ∧ Below w.heap.size w w' := by
  have hf := fun w' (hb : Below w.heap.size w w') (h6 : X.kd = 6) => find_any X cs s.key w' ((h.keeps (Keeps.bare S w)).keep hb) hA (by rw [hl h6]; exact hlen)
  obtain ⟨ia, ic, ka, kc, rfl, hil, hkl, htl, hss, rows, hS, hT⟩ := h.opened
  obtain ⟨_, _, hsl, hk⟩ := VsAt.item hS hT
  simp only [Value.slice.injEq] at hsl
  obtain ⟨rfl, _, rfl⟩ := hsl
  rw [vcs_arr] at hf ⊢
  have none_case : followV X s = none → Calls Tryz.prog 49 #[.agg #[.int .i64 X.kd, .bool X.bo, .int .i64 X.nu, .string X.tx, .slice ia X.its.length ic, .slice ka X.kys.length kc], .agg #[.string s.key, .int .i64 s.num, .bool false]] w (fun e w' => e = .returned (.tuple #[.agg zv.toArray, .bool false]) ∧ Below w.heap.size w w') →
      Calls Tryz.prog 49 #[.agg #[.int .i64 X.kd, .bool X.bo, .int .i64 X.nu, .string X.tx, .slice ia X.its.length ic, .slice ka X.kys.length kc], .agg #[.string s.key, .int .i64 s.num, .bool false]] w fun e w' => ∃ ds : List Value, e = .returned (.tuple #[.agg ds.toArray, .bool (followV X s).isSome]) ∧ VAt (veil S w') ((followV X s).getD V.nil) ds ∧ Below w.heap.size w w' := by
    intro hn hc
    rw [hn]
    exact hc.mono fun e w' ⟨h1, h2⟩ => ⟨zv, h1, zv_at _, h2⟩
  by_cases h0 : s.key.size = 0
  · have he := empty_of h0
    have hk0 : s.k0 = true := by unfold St.k0; rw [h0]; rfl
    by_cases h5 : X.kd = 5
    · have hb5 : (X.kd != 5) = false := by rw [bne_eq_false_iff_eq]; exact h5
      have hfv : followV X s = X.its[s.num]? := by unfold followV; rw [if_pos hk0, if_pos h5]
      by_cases hn : s.num < X.its.length
      · obtain ⟨b, off, ja, jc, la, lc, rfl, hlt, hat, hc6v⟩ := hk s.num hn
        rw [veil_size] at hlt
        have hc6 := fun j hj => (veil_cell (hc6v j hj)).2
        have H := follow_i X.kd X.bo X.nu X.tx X.its.length X.kys.length (some ⟨b, off, none⟩) ka ic kc s.key s.num w hb5 he hlen hn b off rfl hlt _ _ _ _ _ _ _ _ _ _ (hc6 0 (by omega)) (hc6 1 (by omega)) (hc6 2 (by omega)) (hc6 3 (by omega)) (hc6 4 (by omega)) (hc6 5 (by omega))
        rw [hfv, List.getElem?_eq_getElem hn]
        exact H.mono fun e w' ⟨h1, h2⟩ => ⟨_, h1, hat.keeps (Keeps.belows h2), h2⟩
      · exact none_case (by rw [hfv]; exact List.getElem?_eq_none (by omega)) (follow_o X.kd X.bo X.nu X.tx X.its.length X.kys.length ia ka ic kc s.key s.num w hb5 he hlen (by omega))
    · exact none_case (by unfold followV; rw [if_pos hk0, if_neg h5]) (follow_t X.kd X.bo X.nu X.tx X.its.length X.kys.length ia ka ic kc s.key s.num w (by rw [bne_iff_ne]; exact h5) he)
  · have he := empty_not h0
    have hk0 : ¬ s.k0 = true := by unfold St.k0; rw [beq_iff_eq]; exact h0
    by_cases h6 : X.kd = 6
    · have hb6 : (X.kd != 6) = false := by rw [bne_eq_false_iff_eq]; exact h6
      have hlow := low_le s.key X.kys
      have hfv : followV X s = if hit s.key X.kys = true then X.its[low s.key X.kys]? else none := by unfold followV; rw [if_neg hk0, if_pos h6]
      cases hh : hit s.key X.kys with
      | false =>
        refine none_case (by rw [hfv, hh]; rfl) (follow_m X.kd X.bo X.nu X.tx X.its.length X.kys.length ia ka ic kc s.key s.num (low s.key X.kys) w hb6 he ?_)
        intro w' hb
        have := hf w' hb h6
        rw [hh] at this
        exact this
      | true =>
        have hL : low s.key X.kys < X.its.length := by
          have h1 : X.kys[low s.key X.kys]? = some s.key := of_decide_eq_true hh
          have := (List.getElem?_eq_some_iff.1 h1).1
          rw [hl h6] at this
          exact this
        obtain ⟨b, off, ja, jc, la, lc, rfl, hlt, hat, hc6v⟩ := hk _ hL
        rw [veil_size] at hlt
        have hc6 := fun j hj => (veil_cell (hc6v j hj)).2
        have H := follow_h X.kd X.bo X.nu X.tx X.its.length X.kys.length ka ic kc s.key s.num (low s.key X.kys) w hb6 he hlen hL b off hlt _ _ _ _ _ _ _ _ _ _ (hc6 0 (by omega)) (hc6 1 (by omega)) (hc6 2 (by omega)) (hc6 3 (by omega)) (hc6 4 (by omega)) (hc6 5 (by omega)) (by
          intro w' hb
          have := hf w' hb h6
          rw [hh] at this
          exact this)
        rw [hfv, hh, if_pos rfl, List.getElem?_eq_getElem hL]
        exact H.mono fun e w' ⟨h1, h2⟩ => ⟨_, h1, hat.keeps (Keeps.belows h2), h2⟩
    · exact none_case (by unfold followV; rw [if_neg hk0, if_neg h6]) (follow_n X.kd X.bo X.nu X.tx X.its.length X.kys.length ia ka ic kc s.key s.num w (by rw [bne_iff_ne]; exact h6) he)
theorem follow_any (X : V) (cs : List Value) (s : St) (w : World) (h : VAt w X cs) (hA : Asc X.kys) (hl : X.kd = 6 → X.kys.length = X.its.length) (hlen : X.its.length ≤ 1099511627776) :
    Calls Tryz.prog 49 #[.agg cs.toArray, .agg #[.string s.key, .int .i64 s.num, .bool false]] w fun e w' => ∃ ds : List Value, e = .returned (.tuple #[.agg ds.toArray, .bool (followV X s).isSome]) ∧ VAt w' ((followV X s).getD V.nil) ds ∧ Below w.heap.size w w' :=
  (follow_veil (fun _ => false) X cs s w (h.keeps (Keeps.veil (Nat.le_refl _) fun k hk => ⟨rfl, rfl⟩)) hA hl hlen).mono fun e w' ⟨ds, h1, h2, h3⟩ => ⟨ds, h1, h2.keeps (Keeps.bare _ _), h3⟩
end Go.Proofs.YtekknckdeedjnaaGreatDoor
