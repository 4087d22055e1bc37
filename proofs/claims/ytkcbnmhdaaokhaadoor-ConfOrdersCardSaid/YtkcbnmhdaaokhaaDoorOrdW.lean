/- ConfOrders: the walk. Conditions: none. -/
import Derived.Test.YtkcbnmhdaaokhaaDoorCmp
import Derived.Test.YtkcbnmhdaaokhaaDoorAwC3
import Derived.Deep.RegionHeld3
import Derived.Deep.Slices
import Derived.Deep.Fields
import Derived.ChangeSame
import Derived.Lib.SmallJoins
import Derived.Outline
namespace Go.Proofs.YtkcbnmhdaaokhaaDoor.LOrd
open Go.ChangeShapes Go.WideShapes Go.ChangeAt Go.RowKit Mh
open Go.ChangeMaps (open_string shut_string)
set_option linter.unusedVariables false


set_option maxRecDepth 100000 in
/-- A value that was read as an argument. -/
theorem open_value {H : Type} {enc : TypeId × Value → H} {W : World} {base : Nat} {v : Value} {d : DataW H} {p : List MemPlace} (hv : Value.okWide Tryd.prog W .any base 45 v) (h : DataW.Trod enc Tryd.prog W 0 (fun _ => true) true 45 v d p) :
    ∃ (X : V) (cs : List Value), v = .agg cs.toArray ∧ VAt W X cs := by
  obtain ⟨cs, rfl, hsz⟩ := okWide_struct Tryd.underlying45 hv
  obtain ⟨fuel, hf⟩ := h
  obtain ⟨X, hX⟩ := open_vat Tryd.underlying45 rfl rfl rfl rfl rfl rfl rfl rfl rfl rfl rfl rfl Tryd.underlying3 Tryd.underlying4 Tryd.underlying9 Tryd.underlying43 Tryd.underlying32 (by kernel_rfl) (by kernel_rfl) (by kernel_rfl) (by kernel_rfl) (by kernel_rfl) (by kernel_rfl) (fuel + 1) fuel (Nat.lt_succ_self _) _ _ hf
  exact ⟨X, cs.toList, by simp, hX⟩

theorem neg_any (x : Int) (h : -1 ≤ x ∧ x ≤ 1) : IntKind.i64.wrap (-x) = -x := IntWalk.i64_in _ (by omega)

set_option maxRecDepth 100000 in
set_option maxHeartbeats 2000000 in
theorem walk (X Y Z : V) (cs ds es : List Value) (w : World) (hX : VAt w X cs) (hY : VAt w Y ds) (hZ : VAt w Z es) :
    Calls Tryd.prog 5 #[.agg cs.toArray, .agg ds.toArray, .agg es.toArray] w fun e w' => e = .returned (.bool true) ∧ Below w.heap.size w w' := by
  have hlaw := cmp_law X Y Z
  have bxy := cmp_bd _ X (Nat.lt_succ_self _) Y
  have byz := cmp_bd _ Y (Nat.lt_succ_self _) Z
  have bxz := cmp_bd _ X (Nat.lt_succ_self _) Z
  have C1 := Lib.hid (fun w' (hb : Below w.heap.size w w') => cmp_any _ X (Nat.lt_succ_self _) Y cs ds w' (hX.keep hb) (hY.keep hb))
  have C2 := Lib.hid (fun w' (hb : Below w.heap.size w w') => cmp_any _ Y (Nat.lt_succ_self _) Z ds es w' (hY.keep hb) (hZ.keep hb))
  have C3 := Lib.hid (fun w' (hb : Below w.heap.size w w') => cmp_any _ X (Nat.lt_succ_self _) Z cs es w' (hX.keep hb) (hZ.keep hb))
  have C4 := Lib.hid (fun w' (hb : Below w.heap.size w w') => cmp_any _ Y (Nat.lt_succ_self _) X ds cs w' (hY.keep hb) (hX.keep hb))
  have C5 := Lib.hid (fun w' (hb : Below w.heap.size w w') => cmp_any _ X (Nat.lt_succ_self _) X cs cs w' (hX.keep hb) (hX.keep hb))
  obtain ⟨a0, a1, a2, a3, a4, a5, rfl⟩ := six hX.length
  obtain ⟨b0, b1, b2, b3, b4, b5, rfl⟩ := six hY.length
  obtain ⟨c0, c1, c2, c3, c4, c5, rfl⟩ := six hZ.length
  obtain ⟨l1, l2, l3, l4⟩ := hlaw
  rw [l1] at C4
  rw [l2] at C5
  generalize V.cmp X Y = x at *
  generalize V.cmp Y Z = y at *
  generalize V.cmp X Z = z at *
  have L3 := Lib.hid l3
  have L4 := Lib.hid l4
  obtain ⟨bx1, bx2⟩ := bxy
  clear l1 l2 l3 l4 hX hY hZ byz bxz
  go_enter Tryd.func5, Tryd.ntmps5
  go_wp2_with fail
  refine (awakeConf_any _).mono ?_
  rintro e w1 ⟨rfl, hb1⟩
  have hB0 : Below w.heap.size w (((w.alloc (.cells #[a0, a1, a2, a3, a4, a5] 45)).alloc (.cells #[b0, b1, b2, b3, b4, b5] 45)).alloc (.cells #[c0, c1, c2, c3, c4, c5] 45)) := (((Below.refl w.heap.size w).alloc (Nat.le_refl _) _).alloc (by simp) _).alloc (by simp <;> omega) _
  have HB1 : Hid (Below w.heap.size w w1) := hB0.trans (hb1.mono (by simp <;> omega))
  have hz1 : w.heap.size + 1 + 1 < w1.heap.size := by have := hb1.size; simp at this; omega
  have hA : w1.heap[w.heap.size]? = some (.cells #[a0, a1, a2, a3, a4, a5] 45 (0, 0)) := (hb1.block _ (by simp <;> omega)).trans ((heap_alloc_old _ _ (by simp <;> omega)).trans ((heap_alloc_old _ _ (by simp)).trans (heap_alloc_new _ _)))
  have hBb : w1.heap[w.heap.size + 1]? = some (.cells #[b0, b1, b2, b3, b4, b5] 45 (0, 0)) := (hb1.block _ (by simp <;> omega)).trans ((heap_alloc_old _ _ (by simp)).trans (heap_new_at (by simp)))
  have hCc : w1.heap[w.heap.size + 1 + 1]? = some (.cells #[c0, c1, c2, c3, c4, c5] 45 (0, 0)) := (hb1.block _ (by simp)).trans (heap_new_at (by simp))
  have HG : Hid (∀ w', (w'.cell? ⟨w.heap.size, 0, none⟩ = some a0 ∧ w'.cell? ⟨w.heap.size, 1, none⟩ = some a1 ∧ w'.cell? ⟨w.heap.size, 2, none⟩ = some a2 ∧ w'.cell? ⟨w.heap.size, 3, none⟩ = some a3 ∧ w'.cell? ⟨w.heap.size, 4, none⟩ = some a4 ∧ w'.cell? ⟨w.heap.size, 5, none⟩ = some a5 ∧ w'.cell? ⟨w.heap.size + 1, 0, none⟩ = some b0 ∧ w'.cell? ⟨w.heap.size + 1, 1, none⟩ = some b1 ∧ w'.cell? ⟨w.heap.size + 1, 2, none⟩ = some b2 ∧ w'.cell? ⟨w.heap.size + 1, 3, none⟩ = some b3 ∧ w'.cell? ⟨w.heap.size + 1, 4, none⟩ = some b4 ∧ w'.cell? ⟨w.heap.size + 1, 5, none⟩ = some b5 ∧ w'.cell? ⟨w.heap.size + 1 + 1, 0, none⟩ = some c0 ∧ w'.cell? ⟨w.heap.size + 1 + 1, 1, none⟩ = some c1 ∧ w'.cell? ⟨w.heap.size + 1 + 1, 2, none⟩ = some c2 ∧ w'.cell? ⟨w.heap.size + 1 + 1, 3, none⟩ = some c3 ∧ w'.cell? ⟨w.heap.size + 1 + 1, 4, none⟩ = some c4 ∧ w'.cell? ⟨w.heap.size + 1 + 1, 5, none⟩ = some c5 ∧ Below w1.heap.size w1 w') → Below w1.heap.size w1 w') := by
    intro w' h
    exact h.2.2.2.2.2.2.2.2.2.2.2.2.2.2.2.2.2.2
  have HS : Hid (∀ w', Below w1.heap.size w1 w' → (w'.cell? ⟨w.heap.size, 0, none⟩ = some a0 ∧ w'.cell? ⟨w.heap.size, 1, none⟩ = some a1 ∧ w'.cell? ⟨w.heap.size, 2, none⟩ = some a2 ∧ w'.cell? ⟨w.heap.size, 3, none⟩ = some a3 ∧ w'.cell? ⟨w.heap.size, 4, none⟩ = some a4 ∧ w'.cell? ⟨w.heap.size, 5, none⟩ = some a5 ∧ w'.cell? ⟨w.heap.size + 1, 0, none⟩ = some b0 ∧ w'.cell? ⟨w.heap.size + 1, 1, none⟩ = some b1 ∧ w'.cell? ⟨w.heap.size + 1, 2, none⟩ = some b2 ∧ w'.cell? ⟨w.heap.size + 1, 3, none⟩ = some b3 ∧ w'.cell? ⟨w.heap.size + 1, 4, none⟩ = some b4 ∧ w'.cell? ⟨w.heap.size + 1, 5, none⟩ = some b5 ∧ w'.cell? ⟨w.heap.size + 1 + 1, 0, none⟩ = some c0 ∧ w'.cell? ⟨w.heap.size + 1 + 1, 1, none⟩ = some c1 ∧ w'.cell? ⟨w.heap.size + 1 + 1, 2, none⟩ = some c2 ∧ w'.cell? ⟨w.heap.size + 1 + 1, 3, none⟩ = some c3 ∧ w'.cell? ⟨w.heap.size + 1 + 1, 4, none⟩ = some c4 ∧ w'.cell? ⟨w.heap.size + 1 + 1, 5, none⟩ = some c5 ∧ Below w1.heap.size w1 w')) := by
    intro w' h
    have gA := (h.block w.heap.size (by omega)).trans hA
    have gB := (h.block (w.heap.size + 1) (by omega)).trans hBb
    have gC := (h.block (w.heap.size + 1 + 1) hz1).trans hCc
    exact ⟨cellT gA rfl, cellT gA rfl, cellT gA rfl, cellT gA rfl, cellT gA rfl, cellT gA rfl, cellT gB rfl, cellT gB rfl, cellT gB rfl, cellT gB rfl, cellT gB rfl, cellT gB rfl, cellT gC rfl, cellT gC rfl, cellT gC rfl, cellT gC rfl, cellT gC rfl, cellT gC rfl, h⟩
  clear hb1 hB0 hA hBb hCc
  go_wp2_with fail
  go_region_held3 (fun w' => w'.cell? ⟨w.heap.size, 0, none⟩ = some a0 ∧ w'.cell? ⟨w.heap.size, 1, none⟩ = some a1 ∧ w'.cell? ⟨w.heap.size, 2, none⟩ = some a2 ∧ w'.cell? ⟨w.heap.size, 3, none⟩ = some a3 ∧ w'.cell? ⟨w.heap.size, 4, none⟩ = some a4 ∧ w'.cell? ⟨w.heap.size, 5, none⟩ = some a5 ∧ w'.cell? ⟨w.heap.size + 1, 0, none⟩ = some b0 ∧ w'.cell? ⟨w.heap.size + 1, 1, none⟩ = some b1 ∧ w'.cell? ⟨w.heap.size + 1, 2, none⟩ = some b2 ∧ w'.cell? ⟨w.heap.size + 1, 3, none⟩ = some b3 ∧ w'.cell? ⟨w.heap.size + 1, 4, none⟩ = some b4 ∧ w'.cell? ⟨w.heap.size + 1, 5, none⟩ = some b5 ∧ w'.cell? ⟨w.heap.size + 1 + 1, 0, none⟩ = some c0 ∧ w'.cell? ⟨w.heap.size + 1 + 1, 1, none⟩ = some c1 ∧ w'.cell? ⟨w.heap.size + 1 + 1, 2, none⟩ = some c2 ∧ w'.cell? ⟨w.heap.size + 1 + 1, 3, none⟩ = some c3 ∧ w'.cell? ⟨w.heap.size + 1 + 1, 4, none⟩ = some c4 ∧ w'.cell? ⟨w.heap.size + 1 + 1, 5, none⟩ = some c5 ∧ Below w1.heap.size w1 w') (first | exact HS.out _ (by assumption) | exact HS.out _ (Below.refl _ _).drew | (trace_state; fail))
    (first | (go_at_call 18; first | ((with_reducible refine (C1.out _ (HB1.out.trans (Below.mono (HG.out _ (by assumption)) HB1.out.size))).mono ?_); rintro e w' ⟨rfl, hb⟩; have hq : Below w1.heap.size w1 _ := Below.trans (HG.out _ (by assumption)) (hb.mono (HG.out _ (by assumption)).size)) | ((with_reducible refine (C2.out _ (HB1.out.trans (Below.mono (HG.out _ (by assumption)) HB1.out.size))).mono ?_); rintro e w' ⟨rfl, hb⟩; have hq : Below w1.heap.size w1 _ := Below.trans (HG.out _ (by assumption)) (hb.mono (HG.out _ (by assumption)).size)) | ((with_reducible refine (C3.out _ (HB1.out.trans (Below.mono (HG.out _ (by assumption)) HB1.out.size))).mono ?_); rintro e w' ⟨rfl, hb⟩; have hq : Below w1.heap.size w1 _ := Below.trans (HG.out _ (by assumption)) (hb.mono (HG.out _ (by assumption)).size))))
  all_goals
    go_wp2_with fail
    refine (C4.out _ (HB1.out.trans (hq.mono HB1.out.size))).mono ?_
    rintro e w5 ⟨rfl, hb5⟩
    have hq5 : Below w1.heap.size w1 w5 := hq.trans (hb5.mono hq.size)
    obtain ⟨k0, k1, k2, k3, k4, k5, _, _, _, _, _, _, _, _, _, _, _, _, _⟩ := HS.out _ hq5
    have t1 : (-x == -x) = true := by simp
    have HQ5 := Lib.hid hq5
    clear hq hb hb5 hq5 HG
    go_wp2_with fail
    refine (C5.out _ (HB1.out.trans (HQ5.out.mono HB1.out.size))).mono ?_
    rintro e w6 ⟨rfl, hb6⟩
    have HW6 : Hid (Below w.heap.size w w6) := (HB1.out.trans (HQ5.out.mono HB1.out.size)).trans (hb6.mono (HB1.out.trans (HQ5.out.mono HB1.out.size)).size)
    clear hb6 k0 k1 k2 k3 k4 k5
    have T1 : decide (x ≤ 0) = false ∨ (decide (x ≤ 0) = true ∧ decide (y ≤ 0) = false) ∨ (decide (x ≤ 0) = true ∧ decide (y ≤ 0) = true ∧ decide (0 < z) = false) := by
      by_cases h1 : x ≤ 0
      · by_cases h2 : y ≤ 0
        · exact .inr (.inr ⟨decide_eq_true h1, decide_eq_true h2, decide_eq_false (fun h3 => L3.out ⟨h1, h2, h3⟩)⟩)
        · exact .inr (.inl ⟨decide_eq_true h1, decide_eq_false h2⟩)
      · exact .inl (decide_eq_false h1)
    have T2 : decide (0 ≤ x) = false ∨ (decide (0 ≤ x) = true ∧ decide (0 ≤ y) = false) ∨ (decide (0 ≤ x) = true ∧ decide (0 ≤ y) = true ∧ decide (z < 0) = false) := by
      by_cases h1 : 0 ≤ x
      · by_cases h2 : 0 ≤ y
        · exact .inr (.inr ⟨decide_eq_true h1, decide_eq_true h2, decide_eq_false (fun h3 => L4.out ⟨h1, h2, h3⟩)⟩)
        · exact .inr (.inl ⟨decide_eq_true h1, decide_eq_false h2⟩)
      · exact .inl (decide_eq_false h1)
    clear C1 C2 C3 C4 C5 HS
    rcases T1 with u1 | ⟨u1, u2⟩ | ⟨u1, u2, u3⟩ <;> rcases T2 with v1 | ⟨v1, v2⟩ | ⟨v1, v2, v3⟩
    all_goals
      go_wp2_with fail
      go_ret
      exact ⟨rfl, HW6.out⟩


end Go.Proofs.YtkcbnmhdaaokhaaDoor.LOrd
