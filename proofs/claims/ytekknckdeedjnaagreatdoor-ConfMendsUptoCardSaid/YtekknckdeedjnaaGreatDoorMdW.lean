/- What a difference is: its changes fit, make the one value of the other, and are none where the two are alike. No program. · ConfMends: the walk. Conditions: at most 2^21 values in each argument; the cell of MaxLen. -/
import Derived.Test.YtekknckdeedjnaaGreatDoorMdR
import Derived.Test.YtekknckdeedjnaaGreatDoorMdF
import Derived.Test.YtekknckdeedjnaaGreatDoorMdL
import Derived.Test.YtekknckdeedjnaaGreatDoorKeO
import Derived.Test.YtekknckdeedjnaaGreatDoorAwC3
namespace Mh
open Go
set_option linter.unusedVariables false

theorem item_in {t x : V} {k : ByteArray} (h : itemV t k = some x) : x ∈ t.its := by
  unfold itemV at h
  split at h
  · exact List.mem_of_getElem? h
  · cases h
theorem diff_vals {P : V → Prop} (hP : ∀ v x, P v → x ∈ v.its → P x) : ∀ (N : Nat) (a b : V), P b → ∀ o ∈ (diffP N a b).1 ++ (diffP N a b).2, ∀ y, o.val = some y → P y := by
  intro N
  induction N with
  | zero => intro a b hb o ho; simp [diffP] at ho
  | succ N ih =>
    intro a b hb o ho y hy
    have key : ∀ k, ∀ o' ∈ (keyP N a b k).1 ++ (keyP N a b k).2, ∀ y, o'.val = some y → P y := by
      intro k o' ho' y hy
      unfold keyP at ho'
      cases hib : itemV b k with
      | none =>
        rw [hib] at ho'
        simp only [List.append_nil, List.mem_cons, List.not_mem_nil, or_false] at ho'
        subst ho'
        cases hy
      | some z =>
        have hz : P z := hP b z hb (item_in hib)
        cases hia : itemV a k with
        | none =>
          rw [hib, hia] at ho'
          simp only [List.nil_append, List.mem_cons, List.not_mem_nil, or_false] at ho'
          subst ho'
          cases hy
          exact hz
        | some x =>
          rw [hib, hia] at ho'
          exact ih x z hz o' ho' y hy
    unfold diffP at ho
    split at ho
    · simp at ho
    · split at ho
      · rcases List.mem_append.1 ho with ho | ho
        · obtain ⟨k, _, hk⟩ := List.mem_flatMap.1 ho
          obtain ⟨o', h1, rfl⟩ := pre_mem hk
          exact key k o' (List.mem_append_left _ h1) y hy
        · obtain ⟨k, _, hk⟩ := List.mem_flatMap.1 ho
          obtain ⟨o', h1, rfl⟩ := pre_mem hk
          exact key k o' (List.mem_append_right _ h1) y hy
      · simp only [List.nil_append, List.mem_cons, List.not_mem_nil, or_false] at ho
        subst ho
        cases hy
        exact hb
theorem okc_item {v x : V} (h : v.okc) (hx : x ∈ v.its) : x.okc := by
  have h1 := lev_item hx
  have h2 := nodess_mem v.its x hx
  have h3 := nodes_its v
  have h4 := h.nodes
  have h5 := cnts_le _ x (Nat.lt_succ_self _)
  have h6 := h.2.1
  exact ⟨by omega, by omega, (good_facts h.2.2).2.2.2.1 x hx⟩
theorem diff_fit (a b : V) (ha : a.okc) (hb : b.okc) (N : Nat) : ∀ o ∈ (diffP N a b).1 ++ (diffP N a b).2, o.fit := by
  intro o ho
  obtain ⟨h1, h2, _⟩ := diff_shape N a b ha.2.2 hb.2.2
  have hd := diff_depth N a b ha.2.2 hb.2.2 o ho
  have hl := ha.2.1
  have hv := diff_vals (P := V.okc) (fun v x h hx => okc_item h hx) N a b hb o ho
  rcases List.mem_append.1 ho with h | h
  · exact ⟨(h1 o h).2.2, by omega, fun _ => (h1 o h).1, hv⟩
  · exact ⟨(h2 o h).2, by omega, fun e => absurd e (h2 o h).1, hv⟩
theorem diff_all (a b : V) (ha : a.okc) (hb : b.okc) : appAll a ((diffP (sizeOf a + 1) a b).1 ++ (diffP (sizeOf a + 1) a b).2) = some b := diff_apply _ a b (Nat.lt_succ_self _) ha.2.2 hb.2.2
theorem diff_few (a b : V) (ha : a.okc) (hb : b.okc) (N : Nat) : a.nodes + wsum ((diffP N a b).1 ++ (diffP N a b).2) ≤ 4000 := by
  have h1 := diff_wsum N a b ha.2.2 hb.2.2
  have h2 := ha.nodes
  have h3 := hb.nodes
  rw [wsum_app]
  omega
theorem diff_none (a b : V) (ha : a.okc) (hb : b.okc) : (V.cmp a b == 0) = decide (((diffP (sizeOf a + 1) a b).1 ++ (diffP (sizeOf a + 1) a b).2).length = 0) := by
  by_cases h0 : V.cmp a b = 0
  · rw [h0]
    have e : diffP (sizeOf a + 1) a b = ([], []) := by unfold diffP; rw [if_pos h0]
    rw [e]
    rfl
  · rw [beq_eq_false_iff_ne.2 h0]
    symm
    refine decide_eq_false fun hl => h0 ?_
    have h := diff_all a b ha hb
    rw [List.length_eq_zero_iff.1 hl] at h
    simp only [appAll, Option.some.injEq] at h
    subst h
    exact cmp_self _ a (Nat.lt_succ_self _)
end Mh
namespace Go.Proofs.YtekknckdeedjnaaGreatDoor
open Go.RowKit Mh
set_option linter.unusedVariables false

theorem cmp_same (X : V) : (V.cmp X X == 0) = true := by rw [cmp_self _ X (Nat.lt_succ_self _)]; rfl
set_option maxRecDepth 100000 in
set_option maxHeartbeats 8000000 in
theorem mends_walk (X Y : V) (cs ds : List Value) (w : World) (m : Int) (hm : w.cell? ⟨1, 0, none⟩ = some (.int .i64 m)) (hX : VAt w X cs) (hY : VAt w Y ds) (nX : X.nodes ≤ 2097152) (nY : Y.nodes ≤ 2097152) :
    Calls Tryz.prog 3 #[.agg cs.toArray, .agg ds.toArray] w fun e w' => e = .returned (.bool true) ∧ Below w.heap.size w w' := by
  have HA := Lib.hid (fun w' => awakeConf_any w')
  have CD := Lib.hid (fun w' (hb : Below w.heap.size w w') => diffX_any X Y cs ds w' (hX.keep hb) (hY.keep hb) nX nY)
  have CP := Lib.hid (fun (ox : X.okc) (oy : Y.okc) w' (hb : Below w.heap.size w w') v (hc : ChsAt w' v (((diffP (SizeOf.sizeOf X + 1) X Y).1 ++ (diffP (SizeOf.sizeOf X + 1) X Y).2).map Mh.Op.chg)) =>
    apply_any X Y _ cs v w' m ((hb.cell (World.block_lt_of_cell? w _ hm)).trans hm) (hX.keep hb) hc ox oy (diff_fit X Y ox oy _) (diff_all X Y ox oy) (diff_few X Y ox oy _))
  have CM := Lib.hid (fun (es : List Value) w' (hb : Below w.heap.size w w') (hes : VAt w' Y es) => same_any Y Y es ds w' hes (hY.keep hb))
  have CS := Lib.hid (fun w' (hb : Below w.heap.size w w') => same_any X Y cs ds w' (hX.keep hb) (hY.keep hb))
  have HN := Lib.hid (diff_none X Y)
  obtain ⟨xa, xc, xk, xkc, rfl, _⟩ := hX.opened
  obtain ⟨ya, yc, yk, ykc, rfl, _⟩ := hY.opened
  rw [vcs_arr, vcs_arr] at CD CS
  simp only [cmp_same, vcs_arr] at CM
  simp only [vcs_arr] at CP
  rw [vcs_arr, vcs_arr]
  have HB0 : Hid (Below w.heap.size w ((w.alloc (box6 X xa xc xk xkc)).alloc (box6 Y ya yc yk ykc))) := ((Below.refl w.heap.size w).alloc (Nat.le_refl _) _).alloc (by simp) _
  have HX0 : Hid (((w.alloc (box6 X xa xc xk xkc)).alloc (box6 Y ya yc yk ykc)).heap[w.heap.size]? = some (box6 X xa xc xk xkc)) := (heap_alloc_old _ _ (by simp)).trans (heap_alloc_new _ _)
  have HY0 : Hid (((w.alloc (box6 X xa xc xk xkc)).alloc (box6 Y ya yc yk ykc)).heap[w.heap.size + 1]? = some (box6 Y ya yc yk ykc)) := heap_new_at (by simp)
  unfold box6 at HB0 HX0 HY0
  clear hX hY hm nX nY
  go_enter Tryz.func3, Tryz.ntmps3
  go_wp2_with fail
  refine (HA.out _).mono ?_
  rintro e w1 ⟨rfl, hb1⟩
  have HX1 := Lib.hid ((hb1.block _ (by simp <;> omega)).trans HX0.out)
  have HY1 := Lib.hid ((hb1.block _ (by simp <;> omega)).trans HY0.out)
  have HB1 : Hid (Below w.heap.size w w1) := HB0.out.trans (hb1.mono (by simp <;> omega))
  have CD1 := Lib.hid (CD.out _ HB1.out)
  have hz1 : w.heap.size + 2 ≤ w1.heap.size := by have := hb1.size; simp at this; omega
  obtain ⟨x0, x1, x2, x3, x4, x5⟩ := six_of_block HX1.out
  obtain ⟨y0, y1, y2, y3, y4, y5⟩ := six_of_block HY1.out
  clear hb1 HX0 HY0 HB0 CD HA
  go_wp2_with fail
  refine CD1.out.mono ?_
  rintro e w2 ⟨v, c, rfl, hb2, hway⟩
  have HB2 : Hid (Below w.heap.size w w2) := HB1.out.trans (hb2.mono (by omega))
  have HX2 := Lib.hid ((hb2.block _ (by omega)).trans HX1.out)
  have HY2 := Lib.hid ((hb2.block _ (by omega)).trans HY1.out)
  have hz2 : w.heap.size + 2 ≤ w2.heap.size := by have := hb2.size; omega
  clear x0 x1 x2 x3 x4 x5 y0 y1 y2 y3 y4 y5 HX1 HY1 hb2 CD1 HB1
  rcases hway with ⟨hc, rfl⟩ | ⟨rfl, hXo, hYo, hch⟩
  · have hq : (c != 0) = true := by rw [bne_iff_ne]; exact hc
    clear hc CM CP CS HX2 HY2 HN
    go_wp2_with fail
    go_ret
    exact ⟨rfl, HB2.out⟩
  · have CP2 := Lib.hid (CP.out hXo hYo w2 HB2.out v hch)
    have HNN := Lib.hid (HN.out hXo hYo)
    obtain ⟨ao, ac, rfl, hlm, _⟩ := hch.change
    rw [List.length_map] at CP2 ⊢
    generalize hL : ((diffP (SizeOf.sizeOf X + 1) X Y).1 ++ (diffP (SizeOf.sizeOf X + 1) X Y).2).length = L at *
    obtain ⟨x0, x1, x2, x3, x4, x5⟩ := six_of_block HX2.out
    clear hch CP HN hXo hYo hL hlm
    go_wp2_with fail
    refine CP2.out.mono ?_
    rintro e w3 ⟨fs, rfl, hfs, hb3⟩
    obtain ⟨fa, fc, fk, fkc, rfl, _⟩ := hfs.opened
    have hz3 : w.heap.size + 2 ≤ w3.heap.size := by have := hb3.size; omega
    have hb4 : Below w3.heap.size w3 (w3.alloc (box6 Y fa fc fk fkc)) := (Below.refl _ w3).alloc (Nat.le_refl _) _
    have HB4 : Hid (Below w.heap.size w (w3.alloc (box6 Y fa fc fk fkc))) := (HB2.out.trans (hb3.mono HB2.out.size)).trans (hb4.mono (by omega))
    have HX4 := Lib.hid ((hb4.block _ (by omega)).trans ((hb3.block _ (by omega)).trans HX2.out))
    have HY4 := Lib.hid ((hb4.block _ (by omega)).trans ((hb3.block _ (by omega)).trans HY2.out))
    have CM4 := Lib.hid (CM.out _ _ HB4.out (hfs.keep hb4))
    unfold box6 at HB4 HX4 HY4 CM4
    rw [vcs_arr] at CM4
    rw [vcs_arr]
    obtain ⟨y0, y1, y2, y3, y4, y5⟩ := six_of_block HY4.out
    clear hb3 hb4 hfs CM CP2 x0 x1 x2 x3 x4 x5 HX2 HY2
    go_wp2_with fail
    refine CM4.out.mono ?_
    rintro e w5 ⟨rfl, hb5⟩
    have HB5 : Hid (Below w.heap.size w w5) := HB4.out.trans (hb5.mono HB4.out.size)
    have HX5 := Lib.hid ((hb5.block _ (by simp <;> omega)).trans HX4.out)
    have HY5 := Lib.hid ((hb5.block _ (by simp <;> omega)).trans HY4.out)
    have CS5 := Lib.hid (CS.out _ HB5.out)
    clear y0 y1 y2 y3 y4 y5 hb5 HB4 HX4 HY4 CM4 CS
    obtain ⟨x0, x1, x2, x3, x4, x5⟩ := six_of_block HX5.out
    obtain ⟨y0, y1, y2, y3, y4, y5⟩ := six_of_block HY5.out
    go_wp2_with fail
    refine CS5.out.mono ?_
    rintro e w6 ⟨rfl, hb6⟩
    have HB6 : Hid (Below w.heap.size w w6) := HB5.out.trans (hb6.mono HB5.out.size)
    clear x0 x1 x2 x3 x4 x5 y0 y1 y2 y3 y4 y5 hb6 HB5 HX5 HY5 CS5
    go_wp2_with fail
    go_ret
    exact ⟨by rw [HNN.out]; simp; rw [Bool.eq_iff_iff]; simp <;> omega, HB6.out⟩
end Go.Proofs.YtekknckdeedjnaaGreatDoor
