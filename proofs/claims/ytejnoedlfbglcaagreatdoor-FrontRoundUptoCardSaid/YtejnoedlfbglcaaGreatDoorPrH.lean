/- conf.word. Conditions: a number of 64 bits; a day that is right. · conf.printedValue at a string and at a word. Conditions: where the value and the row lie. · conf.printedValue at a list. Conditions: where the value and the row lie; the items' contracts. · conf.printedValue at a table. Conditions: where the value and the row lie; printed's contract. · conf.printed: a table's lines. Conditions: where the value and the row lie; the items' contracts. · conf.Print: what it returns. Conditions: at most 2^40 values; the library's table of powers of ten is laid. · conf.printedValue at any right value; conf.Print. Conditions: at most 2^40 values; numbers of 64 bits; the library's table of powers of ten is laid. -/
import Derived.Test.YtejnoedlfbglcaaGreatDoorTb10
import Derived.Test.YtejnoedlfbglcaaGreatDoorDayT
import Derived.Test.YtejnoedlfbglcaaGreatDoorPaP
import Derived.Test.YtejnoedlfbglcaaGreatDoorKeVm
import Derived.Test.YtejnoedlfbglcaaGreatDoorPrB
import Derived.Test.YtejnoedlfbglcaaGreatDoorReH
import Derived.OpenShut
import Derived.Test.YtejnoedlfbglcaaGreatDoorKeJ
namespace Go.Proofs.YtejnoedlfbglcaaGreatDoor
open Go.RowKit Mh Mh.Cal
set_option linter.unusedVariables false

set_option maxRecDepth 100000 in
set_option maxHeartbeats 4000000 in
theorem word_any (k : Int) (b : Bool) (n : Int) (t : ByteArray) (iv kv : Value) (w : World) (hiv : iv.oneCell' = true) (hkv : kv.oneCell' = true) (ht : Tab10 w) (h0 : -9223372036854775808 ≤ n) (h1 : n ≤ 9223372036854775807) (hd : k = 4 → 0 ≤ n ∧ n ≤ 84005) :
    Calls Tryz.prog 61 #[.agg #[.int .i64 k, .bool b, .int .i64 n, .string t, iv, kv]] w fun e w' => e = .returned (.string ⟨(wordL k b n).toArray⟩) ∧ Below w.heap.size w w' := by
  have HI : Hid (∀ w1, Below w.heap.size w w1 → Calls Tryz.prog 84 #[.int .i64 n] w1 fun e w' => e = .returned (.string ⟨(Lib.itoa n).toArray⟩) ∧ Below w1.heap.size w1 w') := fun w1 hb => itoa_int n h0 h1 w1 (ht.next hb)
  have HBX : Hid (Below w.heap.size w (w.alloc (.cells #[.int .i64 k, .bool b, .int .i64 n, .string t, iv, kv] 29))) := (Below.refl _ w).alloc (Nat.le_refl _) _
  by_cases k1 : k = 1
  · subst k1
    cases b with
    | true =>
      go_enter Tryz.func61, Tryz.ntmps61
      go_wp2_with fail
      go_ret
      exact ⟨rfl, HBX.out⟩
    | false =>
      go_enter Tryz.func61, Tryz.ntmps61
      go_wp2_with fail
      go_ret
      exact ⟨rfl, HBX.out⟩
  by_cases k2 : k = 2
  · subst k2
    go_enter Tryz.func61, Tryz.ntmps61
    go_wp2_with (go_at_call 84; refine (HI.out _ HBX.out).mono ?_; rintro e w' ⟨rfl, hb⟩)
    go_ret
    exact ⟨rfl, HBX.out.trans (hb.mono HBX.out.size)⟩
  by_cases k4 : k = 4
  · subst k4
    have HD : Hid (∀ w1, Calls Tryz.prog 85 #[.int .i64 n] w1 (DayStrP n w1)) := fun w1 => dayString_any n w1 (hd rfl).1 (hd rfl).2
    clear hd
    go_enter Tryz.func61, Tryz.ntmps61
    go_wp2_with (go_at_call 85; refine (HD.out _).mono ?_; rintro e w' ⟨y, m, d, hY, rfl, hb⟩; have HY := Lib.hid hY; clear hY)
    go_ret
    exact ⟨by unfold wordL; rw [dayT_eq HY.out]; rfl, HBX.out.trans (hb.mono HBX.out.size)⟩
  have HW : Hid (wordL k b n = [110, 105, 108]) := by show _ = _; unfold wordL; rw [if_neg k1, if_neg k2, if_neg k4]
  have b1 : (k == 1) = false := beq_false_of_ne k1
  have b2 : (k == 2) = false := beq_false_of_ne k2
  have b4 : (k == 4) = false := beq_false_of_ne k4
  clear k1 k2 k4 hd
  go_enter Tryz.func61, Tryz.ntmps61
  go_wp2_with fail
  go_ret
  exact ⟨by rw [HW.out]; rfl, HBX.out⟩
end Go.Proofs.YtejnoedlfbglcaaGreatDoor
namespace Go.Proofs.YtejnoedlfbglcaaGreatDoor
open Go.RowKit Mh
set_option linter.unusedVariables false

theorem infoByte : (Tryz.prog.info? 5).map (fun i => (i.zero, i.size, i.bytes)) = some (some (.int .u8 0), 1, 1) := by kernel_rfl
theorem VAt.num {w : World} {X : V} {cs : List Value} (h : VAt w X cs) : okN X.nu := by
  obtain ⟨k, b, n, t, is, ks⟩ := X
  unfold VAt at h
  obtain ⟨iv, kv, _, _, h2, _⟩ := h
  exact bounds_i64 h2
/-- What printedValue does with X. -/
def PrC (X : V) : Prop := ∀ (cs : List Value) (ind : ByteArray) (l : List UInt8) (ov : Value) (W0 w : World), VAt W0 X cs → Tab10 W0 → Below W0.heap.size W0 w → w.ownsRow W0.heap.size 5 1 ov l.length (byteCells l) → l.length + (pvL X ind.data.toList).length ≤ 1000000000 →
  Calls Tryz.prog 44 #[ov, .agg cs.toArray, .string ind] w fun e w' => ∃ v', e = .returned v' ∧ BAt 5 W0 w ov (l ++ pvL X ind.data.toList) w' v'
/-- What printed does with X. -/
def PtC (X : V) : Prop := ∀ (cs : List Value) (ind : ByteArray) (l : List UInt8) (ov : Value) (W0 w : World), VAt W0 X cs → Tab10 W0 → Below W0.heap.size W0 w → w.ownsRow W0.heap.size 5 1 ov l.length (byteCells l) → l.length + (ptL X.its X.kys ind.data.toList).length ≤ 1000000000 →
  Calls Tryz.prog 29 #[ov, .agg cs.toArray, .string ind] w fun e w' => ∃ v', e = .returned v' ∧ BAt 5 W0 w ov (l ++ ptL X.its X.kys ind.data.toList) w' v'
theorem pv_eq (X : V) (ind : List UInt8) : pvL X ind = if X.kd = 3 then quoteL X.tx.data.toList else if X.kd = 5 then 91 :: (pvsL X.its ind ++ [93]) else if X.kd = 6 then (if X.kys = [] then [123, 125] else 123 :: 10 :: (ptL X.its X.kys (ind ++ [32, 32]) ++ (ind ++ [125]))) else wordL X.kd X.bo X.nu := by
  cases X with
  | mk k b n t is ks => rw [pvL]; rfl
theorem quote_size (s : ByteArray) : s.size ≤ (quoteL s.data.toList).length := by
  have h := flat_len s.data.toList
  have hl : s.data.toList.length = s.size := by rw [Array.length_toList]; rfl
  simp only [quoteL, List.length_cons, List.length_append]; omega
set_option maxRecDepth 100000 in
set_option maxHeartbeats 4000000 in
theorem pv_str (X : V) (h3 : X.kd = 3) : PrC X := by
  intro cs ind l ov W0 w hX ht hb ho hl
  rw [pv_eq, if_pos h3] at hl ⊢
  obtain ⟨ia, ic, ka, kc, rfl, _⟩ := hX.opened
  obtain ⟨bi, hbi, hbz0, hbz1, hbz2⟩ := info_parts infoByte
  obtain ⟨va, vc, hv⟩ := ownsRow_form ho
  rw [vcs_arr]
  have hb1 : Below w.heap.size w (w.alloc (.cells #[.int .i64 X.kd, .bool X.bo, .int .i64 X.nu, .string X.tx, .slice ia X.its.length ic, .slice ka X.kys.length kc] 29)) := (Below.refl _ w).alloc (Nat.le_refl _) _
  have H1 := Lib.hid ((BAt.refl ho).below hb1)
  have hq := quote_size X.tx
  have HQ := Lib.hid (fun w => quoted_any X.tx w (by omega))
  have HSZ : Hid (∀ w2, Below (w.alloc (.cells #[.int .i64 X.kd, .bool X.bo, .int .i64 X.nu, .string X.tx, .slice ia X.its.length ic, .slice ka X.kys.length kc] 29)).heap.size (w.alloc (.cells #[.int .i64 X.kd, .bool X.bo, .int .i64 X.nu, .string X.tx, .slice ia X.its.length ic, .slice ka X.kys.length kc] 29)) w2 → W0.heap.size ≤ w2.heap.size) := fun w2 h2 => by have := hb.size; have := hb1.size; have := h2.size; omega
  have HL := Lib.hid hl
  obtain ⟨S, hS⟩ : ∃ S : ByteArray, S = ⟨(quoteL X.tx.data.toList).toArray⟩ := ⟨_, rfl⟩
  have HS : Hid (quoteL X.tx.data.toList = S.data.toList) := by show _ = _; rw [hS]
  have hss : l.length + S.size ≤ 1000000000 := by rw [hS]; show l.length + (quoteL X.tx.data.toList).toArray.size ≤ _; rw [List.size_toArray]; exact hl
  rw [← hS] at HQ
  rw [HS.out]
  subst hv
  rw [h3] at H1 HSZ ⊢
  clear hX ht hb ho hl hb1 hq hS h3
  go_enter Tryz.func44, Tryz.ntmps44
  go_wp2_with (first | (go_at_call 60; refine (HQ.out _).mono ?_; rintro e w2 ⟨rfl, hb2⟩; have HB2 := Lib.hid (H1.out.below hb2); have HZ := Lib.hid (HSZ.out _ hb2); clear hb2) | (at_builtin; refine wpList_append_str rfl _ _ 63 9 rfl W0.heap.size 5 bi Tryz.underlying63 Tryz.underlying9 hbi hbz0 hbz1 hbz2 _ l rfl HB2.out.own S rfl (by omega) HZ.out ?_; intro v3 w3 hown3 hgr3 hat3))
  go_ret
  exact ⟨_, rfl, HB2.out.step hown3 hgr3 (hat3.imp id fun e => ⟨_, Nat.le_refl _, e⟩)⟩
set_option maxRecDepth 100000 in
set_option maxHeartbeats 4000000 in
theorem pv_word (X : V) (h3 : X.kd ≠ 3) (h5 : X.kd ≠ 5) (h6 : X.kd ≠ 6) (hd : X.kd = 4 → 0 ≤ X.nu ∧ X.nu ≤ 84005) : PrC X := by
  intro cs ind l ov W0 w hX ht hb ho hl
  rw [pv_eq, if_neg h3, if_neg h5, if_neg h6] at hl ⊢
  obtain ⟨n0, n1⟩ := VAt.num hX
  obtain ⟨ia, ic, ka, kc, rfl, _⟩ := hX.opened
  obtain ⟨bi, hbi, hbz0, hbz1, hbz2⟩ := info_parts infoByte
  obtain ⟨va, vc, hv⟩ := ownsRow_form ho
  rw [vcs_arr]
  have hb1 : Below w.heap.size w (w.alloc (.cells #[.int .i64 X.kd, .bool X.bo, .int .i64 X.nu, .string X.tx, .slice ia X.its.length ic, .slice ka X.kys.length kc] 29)) := (Below.refl _ w).alloc (Nat.le_refl _) _
  have H1 := Lib.hid ((BAt.refl ho).below hb1)
  have HQ : Hid (∀ w1, Below w.heap.size w w1 → Calls Tryz.prog 61 #[.agg #[.int .i64 X.kd, .bool X.bo, .int .i64 X.nu, .string X.tx, .slice ia X.its.length ic, .slice ka X.kys.length kc]] w1 fun e w' => e = .returned (.string ⟨(wordL X.kd X.bo X.nu).toArray⟩) ∧ Below w1.heap.size w1 w') :=
    fun w1 h1 => word_any _ _ _ _ _ _ w1 rfl rfl (ht.next (hb.trans (h1.mono hb.size))) n0 n1 hd
  have HBX := Lib.hid hb1
  have HSZ : Hid (∀ w2, Below (w.alloc (.cells #[.int .i64 X.kd, .bool X.bo, .int .i64 X.nu, .string X.tx, .slice ia X.its.length ic, .slice ka X.kys.length kc] 29)).heap.size (w.alloc (.cells #[.int .i64 X.kd, .bool X.bo, .int .i64 X.nu, .string X.tx, .slice ia X.its.length ic, .slice ka X.kys.length kc] 29)) w2 → W0.heap.size ≤ w2.heap.size) := fun w2 h2 => by have := hb.size; have := hb1.size; have := h2.size; omega
  have HL := Lib.hid hl
  obtain ⟨S, hS⟩ : ∃ S : ByteArray, S = ⟨(wordL X.kd X.bo X.nu).toArray⟩ := ⟨_, rfl⟩
  have HS : Hid (wordL X.kd X.bo X.nu = S.data.toList) := by show _ = _; rw [hS]
  have hss : l.length + S.size ≤ 1000000000 := by rw [hS]; show l.length + (wordL X.kd X.bo X.nu).toArray.size ≤ _; rw [List.size_toArray]; exact hl
  rw [← hS] at HQ
  rw [HS.out]
  subst hv
  have b3 : (X.kd == 3) = false := beq_false_of_ne h3
  have b5 : (X.kd == 5) = false := beq_false_of_ne h5
  have b6 : (X.kd == 6) = false := beq_false_of_ne h6
  clear hX ht hb ho hl hb1 hS h3 h5 h6 hd
  go_enter Tryz.func44, Tryz.ntmps44
  go_wp2_with (first | (go_at_call 61; refine (HQ.out _ HBX.out).mono ?_; rintro e w2 ⟨rfl, hb2⟩; have HB2 := Lib.hid (H1.out.below hb2); have HZ := Lib.hid (HSZ.out _ hb2); clear hb2) | (at_builtin; refine wpList_append_str rfl _ _ 63 9 rfl W0.heap.size 5 bi Tryz.underlying63 Tryz.underlying9 hbi hbz0 hbz1 hbz2 _ l rfl HB2.out.own S rfl (by omega) HZ.out ?_; intro v3 w3 hown3 hgr3 hat3))
  go_ret
  exact ⟨_, rfl, HB2.out.step hown3 hgr3 (hat3.imp id fun e => ⟨_, Nat.le_refl _, e⟩)⟩
end Go.Proofs.YtejnoedlfbglcaaGreatDoor
namespace Go.Proofs.YtejnoedlfbglcaaGreatDoor
open Go.RowKit Mh
set_option linter.unusedVariables false

set_option maxRecDepth 100000 in
set_option maxHeartbeats 8000000 in
theorem pv_list (X : V) (h5 : X.kd = 5) (hil : X.its.length ≤ 3999) (ih : ∀ x ∈ X.its, PrC x) : PrC X := by
  intro cs ind l ov W0 w hX ht hb ho hl
  have hb3 : (X.kd == 3) = false := by rw [h5]; rfl
  have hk3 : ¬ X.kd = 3 := by rw [h5]; decide
  rw [pv_eq, if_neg hk3, if_pos h5] at hl ⊢
  obtain ⟨ia, ic, ka, kc, rfl, _, _, _, _, rows, hS, hV⟩ := hX.opened
  obtain ⟨bi, hbi, hbz0, hbz1, hbz2⟩ := info_parts infoByte
  obtain ⟨va, vc, hv⟩ := ownsRow_form ho
  obtain ⟨_, _, hsl, hitem⟩ := VsAt.item hS hV
  simp only [Value.slice.injEq] at hsl
  obtain ⟨rfl, _, rfl⟩ := hsl
  have HITEM := Lib.hid hitem
  rw [vcs_arr]
  obtain ⟨W1, hW1⟩ : ∃ W1, W1 = w.alloc (.cells #[.int .i64 X.kd, .bool X.bo, .int .i64 X.nu, .string X.tx, .slice ia X.its.length ic, .slice ka X.kys.length kc] 29) := ⟨_, rfl⟩
  have hb1 : Below w.heap.size w W1 := by rw [hW1]; exact (Below.refl _ w).alloc (Nat.le_refl _) _
  have hz1 : w.heap.size < W1.heap.size := by rw [hW1]; simp
  have hbx : W1.heap[w.heap.size]? = some (.cells #[.int .i64 X.kd, .bool X.bo, .int .i64 X.nu, .string X.tx, .slice ia X.its.length ic, .slice ka X.kys.length kc] 29 (0, 0)) := by rw [hW1]; exact heap_alloc_new _ _
  have ho1 := own_below ho hb1
  have HLT := Lib.hid (fun k hk => (ho.lt k hk))
  have HNE : Hid (ov.ownBlock ≠ some w.heap.size) := fun e => absurd (ho.lt _ e).2 (Nat.lt_irrefl _)
  have HB01 : Hid (Below W0.heap.size W0 W1) := hb.trans (hb1.mono hb.size)
  have H1 := Lib.hid (BAt.refl ho1)
  have HBX := Lib.hid hbx
  have HL : Hid (∀ j, j ≤ X.its.length → (l ++ 91 :: pvsJ X.its ind.data.toList j).length ≤ 999999999) := fun j hj => by
    have := pvs_mono X.its ind.data.toList j hj
    simp only [List.length_append, List.length_cons, List.length_nil] at hl ⊢
    omega
  have HSTEP : Hid (∀ j (hj : j < X.its.length), l ++ 91 :: pvsJ X.its ind.data.toList (j + 1) = (l ++ 91 :: pvsJ X.its ind.data.toList j) ++ ((if 0 < j then [32] else []) ++ pvL X.its[j] ind.data.toList)) := fun j hj => by rw [pvs_take hj]; simp
  have HIH : Hid (∀ j (hj : j < X.its.length) (ds : List Value) (l' : List UInt8) (v' : Value) (w' : World), VAt W0 X.its[j] ds → Below W0.heap.size W0 w' → w'.ownsRow W0.heap.size 5 1 v' l'.length (byteCells l') → l'.length + (pvL X.its[j] ind.data.toList).length ≤ 1000000000 →
      Calls Tryz.prog 44 #[v', .agg ds.toArray, .string ind] w' fun e w2 => ∃ v2, e = .returned v2 ∧ BAt 5 W0 w' v' (l' ++ pvL X.its[j] ind.data.toList) w2 v2) := fun j hj ds l' v' w' hds hbw how hlw => ih _ (List.getElem_mem hj) ds ind l' v' W0 w' hds ht hbw how hlw
  have h91 : l.length + 1 ≤ 140737488355328 := by simp only [List.length_cons, List.length_append] at hl; omega
  have HW1 : Hid (W1 = w.alloc (.cells #[.int .i64 X.kd, .bool X.bo, .int .i64 X.nu, .string X.tx, .slice ia X.its.length ic, .slice ka X.kys.length kc] 29)) := hW1
  have HZ01 : Hid (W0.heap.size ≤ W1.heap.size) := HB01.out.size
  subst hv
  have hb5 : (X.kd == 5) = true := by rw [h5]; rfl
  clear h5 hk3
  go_enter Tryz.func44, Tryz.ntmps44
  go_upto_region 1 with fail
  rw [← hW1]
  obtain ⟨z0, z1, z2, z3, z4, z5⟩ := six_of_block HBX.out
  clear hX ht hb ho hl hS hV hitem ih hb1 hbx ho1 hW1
  have HC91 : Hid (Below W1.heap.size W1 (W1.alloc (.cells #[.int .u8 91] 5))) := (Below.refl _ W1).alloc (Nat.le_refl _) _
  have HO91 : Hid ((W1.alloc (.cells #[.int .u8 91] 5)).heap[W1.heap.size]? = some (.cells #[.int .u8 ((91 : UInt8).toNat : Int)] 5 (0, 0))) := heap_alloc_new _ _
  have HS91 : Hid (W0.heap.size ≤ (W1.alloc (.cells #[.int .u8 91] 5)).heap.size) := by have := HZ01.out; show _ ≤ _; simp; omega
  go_wp2_with (at_builtin; refine wpList_append_chr rfl _ _ 63 rfl W0.heap.size 5 bi Tryz.underlying63 hbi hbz0 hbz1 hbz2 _ l rfl (H1.out.below HC91.out).own W1.heap.size 91 rfl HO91.out h91 HS91.out ?_; intro v3 w3 hown3 hgr3 hat3; have H3 := Lib.hid ((H1.out.below HC91.out).step hown3 hgr3 (hat3.imp id fun e => ⟨_, Nat.le_refl _, e⟩)); clear hown3 hgr3 hat3 z0 z1 z2 z3 z4 z5; obtain ⟨z0, z1, z2, z3, z4, z5⟩ := six_of_block (H3.out.block HBX.out HNE.out).1)
  clear z0 z1 z2 z3 z5
  go_loopw [0, 26] (fun v i wr => ∃ (j : Nat), j ≤ X.its.length ∧ i = .int .i64 j ∧ Hid (BAt 5 W0 W1 (.slice va l.length vc) (l ++ 91 :: pvsJ X.its ind.data.toList j) wr v)) (fun _ i _ => X.its.length - (intOf i).toNat)
  case atStart => exact ⟨0, by omega, rfl, H3⟩
  case round =>
    clear H3 z4
    obtain ⟨j, hj, rfl, HI⟩ := hrel
    have hll := HL.out j hj
    obtain ⟨L, hL⟩ : ∃ L, L = l ++ 91 :: pvsJ X.its ind.data.toList j := ⟨_, rfl⟩
    rw [← hL] at HI hll
    have HLL := Lib.hid hL
    clear hL
    obtain ⟨ua, uc, hu⟩ := ownsRow_form HI.out.own
    subst hu
    have HLOW := Lib.hid (HI.out.low HB01.out fun k hk => (HLT.out k hk).1)
    by_cases hlt : j < X.its.length
    · obtain ⟨xb, xo, xa, xc, xk, xkc, rfl, hxl, hxat, hcell⟩ := HITEM.out j hlt
      have HXAT := Lib.hid hxat
      obtain ⟨x0, x1, x2, x3, x4, x5⟩ := six_later HLOW.out hxl hcell
      have HSJ : Hid (l ++ 91 :: pvsJ X.its ind.data.toList (j + 1) = L ++ ((if 0 < j then [32] else []) ++ pvL X.its[j] ind.data.toList)) := by show _ = _; rw [HSTEP.out j hlt, HLL.out]
      have hl2 := HL.out (j + 1) hlt
      rw [HSJ.out] at hl2
      have HIJ := Lib.hid (fun ds l' v' w' => HIH.out j hlt ds l' v' w')
      obtain ⟨W2, hW2⟩ : ∃ W2, W2 = wr.alloc (.cells #[.int .i64 X.its[j].kd, .bool X.its[j].bo, .int .i64 X.its[j].nu, .string X.its[j].tx, .slice xa X.its[j].its.length xc, .slice xk X.its[j].kys.length xkc] 29) := ⟨_, rfl⟩
      have hbr : Below wr.heap.size wr W2 := by rw [hW2]; exact (Below.refl _ wr).alloc (Nat.le_refl _) _
      have H2 := Lib.hid (HI.out.below hbr)
      have hz2 : wr.heap.size < W2.heap.size := by rw [hW2]; simp
      have hx2 : W2.heap[wr.heap.size]? = some (.cells #[.int .i64 X.its[j].kd, .bool X.its[j].bo, .int .i64 X.its[j].nu, .string X.its[j].tx, .slice xa X.its[j].its.length xc, .slice xk X.its[j].kys.length xkc] 29 (0, 0)) := by rw [hW2]; exact heap_alloc_new _ _
      have HX2 := Lib.hid hx2
      have HNV := Lib.hid HI.out.own_ne
      have HB02 : Hid (Below W0.heap.size W0 W2) := HLOW.out.trans (hbr.mono HLOW.out.size)
      clear hxl hxat hcell hbr hx2
      by_cases h0 : 0 < j
      · rw [if_pos h0] at HSJ hl2
        have hd0 : decide (0 < j) = true := decide_eq_true h0
        clear h0
        go_upto_region 9 with fail
        rw [← hW2]
        clear hW2 x0 x1 x2 x3 x4 x5
        have HC := Lib.hid ((Below.refl _ W2).alloc (Nat.le_refl _) (.cells #[.int .u8 32] 5))
        have HO : Hid ((W2.alloc (.cells #[.int .u8 32] 5)).heap[W2.heap.size]? = some (.cells #[.int .u8 ((32 : UInt8).toNat : Int)] 5 (0, 0))) := heap_alloc_new _ _
        have HSZ : Hid (W0.heap.size ≤ (W2.alloc (.cells #[.int .u8 32] 5)).heap.size) := by have := HB02.out.size; show _ ≤ _; simp; omega
        go_wp2_with (first | (at_builtin; refine wpList_append_chr rfl _ _ 63 rfl W0.heap.size 5 bi Tryz.underlying63 hbi hbz0 hbz1 hbz2 _ L rfl (H2.out.below HC.out).own W2.heap.size 32 rfl HO.out (by omega) HSZ.out ?_; intro v4 w4 hown4 hgr4 hat4; have H4 := Lib.hid ((H2.out.below HC.out).step hown4 hgr4 (hat4.imp id fun e => ⟨_, Nat.le_refl _, e⟩)); have HX4 := Lib.hid ((hgr4.block _ (by simp; omega) (fun e => HNV.out e.symm)).trans ((HC.out.block _ (by omega)).trans HX2.out)); clear hown4 hgr4 hat4; obtain ⟨y0, y1, y2, y3, y4, y5⟩ := six_of_block HX4.out) | (go_at_call 44; refine (HIJ.out _ (L ++ [32]) _ _ HXAT.out (H4.out.low HB01.out fun k hk => (HLT.out k hk).1) H4.out.own (by simp only [List.length_append] at hl2 ⊢; omega)).mono ?_; rintro e w5 ⟨v5, rfl, hb5⟩; have H5 := Lib.hid (H4.out.trans hb5); clear hb5))
        go_roundw
        case rel => exact ⟨j + 1, by omega, by first | rfl | go_num, by show BAt _ _ _ _ _ _ _; rw [HSJ.out]; simpa using H5.out⟩
        case measure => first | (simp [intOf]; omega) | go_num
      · rw [if_neg h0] at HSJ hl2
        have hd0 : decide (0 < j) = false := decide_eq_false h0
        clear h0
        go_upto_region 9 with fail
        rw [← hW2]
        clear hW2 x0 x1 x2 x3 x4 x5
        obtain ⟨y0, y1, y2, y3, y4, y5⟩ := six_of_block HX2.out
        go_wp2_with (go_at_call 44; refine (HIJ.out _ L _ _ HXAT.out HB02.out H2.out.own (by simp only [List.length_append, List.nil_append] at hl2 ⊢; omega)).mono ?_; rintro e w5 ⟨v5, rfl, hb5⟩; have H5 := Lib.hid (H2.out.trans hb5); clear hb5)
        go_roundw
        case rel => exact ⟨j + 1, by omega, by first | rfl | go_num, by show BAt _ _ _ _ _ _ _; rw [HSJ.out]; exact H5.out⟩
        case measure => first | (simp [intOf]; omega) | go_num
    · obtain rfl : j = X.its.length := by omega
      have HE : Hid (l ++ 91 :: (pvsL X.its ind.data.toList ++ [93]) = L ++ [93]) := by show _ = _; rw [HLL.out, pvs_all]; simp
      have HC := Lib.hid ((Below.refl _ wr).alloc (Nat.le_refl _) (.cells #[.int .u8 93] 5))
      have HO : Hid ((wr.alloc (.cells #[.int .u8 93] 5)).heap[wr.heap.size]? = some (.cells #[.int .u8 ((93 : UInt8).toNat : Int)] 5 (0, 0))) := heap_alloc_new _ _
      have HSZ : Hid (W0.heap.size ≤ (wr.alloc (.cells #[.int .u8 93] 5)).heap.size) := by have := HLOW.out.size; show _ ≤ _; simp; omega
      have HWW : Hid (w.grownBy W1 (Value.slice va l.length vc).ownBlock ∧ w.heap.size ≤ W1.heap.size) := ⟨by rw [HW1.out]; exact World.grownBy_alloc _ _ _, by omega⟩
      clear HITEM HIH HSTEP HL HLL
      go_wp2_with (at_builtin; refine wpList_append_chr rfl _ _ 63 rfl W0.heap.size 5 bi Tryz.underlying63 hbi hbz0 hbz1 hbz2 _ L rfl (HI.out.below HC.out).own wr.heap.size 93 rfl HO.out (by omega) HSZ.out ?_; intro v4 w4 hown4 hgr4 hat4; have H4 := Lib.hid ((HI.out.below HC.out).step hown4 hgr4 (hat4.imp id fun e => ⟨_, Nat.le_refl _, e⟩)); clear hown4 hgr4 hat4)
      go_ret
      refine ⟨_, rfl, ?_⟩
      rw [HE.out]
      exact ⟨H4.out.own, HWW.out.1.trans H4.out.grown, H4.out.at_.imp id fun ⟨k, hk, e⟩ => ⟨k, by have := HWW.out.2; omega, e⟩⟩
end Go.Proofs.YtejnoedlfbglcaaGreatDoor
namespace Go.Proofs.YtejnoedlfbglcaaGreatDoor
open Go.RowKit Mh
set_option linter.unusedVariables false

theorem ind_two (ind : ByteArray) : (ind ++ ⟨#[32, 32]⟩ : ByteArray).data.toList = ind.data.toList ++ [32, 32] := by simp [ByteArray.data_append]
set_option maxRecDepth 100000 in
set_option maxHeartbeats 8000000 in
theorem pv_table (X : V) (h6 : X.kd = 6) (hkl : X.kys.length = X.its.length) (hil : X.its.length ≤ 3999) (hpt : PtC X) : PrC X := by
  intro cs ind l ov W0 w hX ht hb ho hl
  have hb3 : (X.kd == 3) = false := by rw [h6]; rfl
  have hb5 : (X.kd == 5) = false := by rw [h6]; rfl
  have hb6 : (X.kd == 6) = true := by rw [h6]; rfl
  have hk3 : ¬ X.kd = 3 := by rw [h6]; decide
  have hk5 : ¬ X.kd = 5 := by rw [h6]; decide
  rw [pv_eq, if_neg hk3, if_neg hk5, if_pos h6] at hl ⊢
  have hX' := hX
  obtain ⟨ia, ic, ka, kc, rfl, _⟩ := hX.opened
  obtain ⟨bi, hbi, hbz0, hbz1, hbz2⟩ := info_parts infoByte
  obtain ⟨va, vc, hv⟩ := ownsRow_form ho
  rw [vcs_arr]
  obtain ⟨W1, hW1⟩ : ∃ W1, W1 = w.alloc (.cells #[.int .i64 X.kd, .bool X.bo, .int .i64 X.nu, .string X.tx, .slice ia X.its.length ic, .slice ka X.kys.length kc] 29) := ⟨_, rfl⟩
  have hb1 : Below w.heap.size w W1 := by rw [hW1]; exact (Below.refl _ w).alloc (Nat.le_refl _) _
  have hz1 : w.heap.size < W1.heap.size := by rw [hW1]; simp
  have hbx : W1.heap[w.heap.size]? = some (.cells #[.int .i64 X.kd, .bool X.bo, .int .i64 X.nu, .string X.tx, .slice ia X.its.length ic, .slice ka X.kys.length kc] 29 (0, 0)) := by rw [hW1]; exact heap_alloc_new _ _
  have ho1 := own_below ho hb1
  have HLT := Lib.hid (fun k hk => (ho.lt k hk))
  have HNE : Hid (ov.ownBlock ≠ some w.heap.size) := fun e => absurd (ho.lt _ e).2 (Nat.lt_irrefl _)
  have HB01 : Hid (Below W0.heap.size W0 W1) := hb.trans (hb1.mono hb.size)
  have H1 := Lib.hid (BAt.refl ho1)
  have HBX := Lib.hid hbx
  have HWW : Hid (w.grownBy W1 ov.ownBlock ∧ w.heap.size ≤ W1.heap.size) := ⟨by rw [hW1]; exact World.grownBy_alloc _ _ _, by omega⟩
  have HZ01 : Hid (W0.heap.size ≤ W1.heap.size) := HB01.out.size
  have HPT : Hid (∀ (l' : List UInt8) (v' : Value) (w' : World), Below W0.heap.size W0 w' → w'.ownsRow W0.heap.size 5 1 v' l'.length (byteCells l') → l'.length + (ptL X.its X.kys (ind.data.toList ++ [32, 32])).length ≤ 1000000000 →
      Calls Tryz.prog 29 #[v', .agg #[.int .i64 X.kd, .bool X.bo, .int .i64 X.nu, .string X.tx, .slice ia X.its.length ic, .slice ka X.kys.length kc], .string (ind ++ ⟨#[32, 32]⟩)] w' fun e w2 => ∃ v2, e = .returned v2 ∧ BAt 5 W0 w' v' (l' ++ ptL X.its X.kys (ind.data.toList ++ [32, 32])) w2 v2) := fun l' v' w' hbw how hlw => by
    have := hpt _ (ind ++ ⟨#[32, 32]⟩) l' v' W0 w' hX' ht hbw how (by rw [ind_two]; exact hlw)
    rw [ind_two, vcs_arr] at this
    exact this
  have hkl2 : X.kys.length ≤ 3999 := by omega
  clear hkl
  subst hv
  by_cases hk : X.kys = []
  · rw [if_pos hk] at hl ⊢
    have hk0 : ((X.kys.length : Int) == 0) = true := by rw [hk]; rfl
    have hk1 : (X.kys.length == 0) = true := by rw [hk]; rfl
    clear hX hX' ht hb ho hb1 hbx ho1 h6 hk3 hk5 hpt HPT hk
    go_enter Tryz.func44, Tryz.ntmps44
    go_upto_region 1 with fail
    rw [← hW1]
    obtain ⟨z0, z1, z2, z3, z4, z5⟩ := six_of_block HBX.out
    clear hW1
    go_wp2_with (at_builtin; refine wpList_append_str rfl _ _ 63 9 rfl W0.heap.size 5 bi Tryz.underlying63 Tryz.underlying9 hbi hbz0 hbz1 hbz2 _ l rfl H1.out.own ⟨#[123, 125]⟩ rfl (by show l.length + 2 ≤ _; simp at hl; omega) HZ01.out ?_; intro v4 w4 hown4 hgr4 hat4; have H4 := Lib.hid (H1.out.step hown4 hgr4 (hat4.imp id fun e => ⟨_, Nat.le_refl _, e⟩)); clear hown4 hgr4 hat4)
    go_ret
    exact ⟨_, rfl, H4.out.own, HWW.out.1.trans H4.out.grown, H4.out.at_.imp id fun ⟨k, hk, e⟩ => ⟨k, by have := HWW.out.2; omega, e⟩⟩
  rw [if_neg hk] at hl ⊢
  have hkp : 0 < X.kys.length := List.length_pos_iff.2 hk
  have hk0 : ((X.kys.length : Int) == 0) = false := by rw [beq_eq_false_iff_ne]; omega
  have hk1 : (X.kys.length == 0) = false := by rw [beq_eq_false_iff_ne]; omega
  have hl1 : l.length + 2 ≤ 1000000000 ∧ (l ++ [123, 10]).length + (ptL X.its X.kys (ind.data.toList ++ [32, 32])).length ≤ 1000000000 ∧ ((l ++ [123, 10]) ++ ptL X.its X.kys (ind.data.toList ++ [32, 32])).length + ind.size + 1 ≤ 1000000000 := by
    have : ind.data.toList.length = ind.size := by rw [Array.length_toList]; rfl
    simp only [List.length_append, List.length_cons, List.length_nil] at hl ⊢
    omega
  have HE : Hid (l ++ 123 :: 10 :: (ptL X.its X.kys (ind.data.toList ++ [32, 32]) ++ (ind.data.toList ++ [125])) = ((l ++ [123, 10]) ++ ptL X.its X.kys (ind.data.toList ++ [32, 32])) ++ ind.data.toList ++ [125]) := by show _ = _; simp
  obtain ⟨PT, hPT⟩ : ∃ PT, PT = ptL X.its X.kys (ind.data.toList ++ [32, 32]) := ⟨_, rfl⟩
  rw [← hPT] at HE HPT hl1
  have HLL := Lib.hid hl1
  obtain ⟨L1, hL1⟩ : ∃ L1, L1 = l ++ [123, 10] := ⟨_, rfl⟩
  rw [← hL1] at HE HLL
  have HL1 := Lib.hid hL1
  have hl0 := hl1.1
  rw [hPT.symm, HE.out]
  clear hX hX' ht hb ho hb1 hbx ho1 h6 hk3 hk5 hpt hl hl1 hk hPT hL1
  go_enter Tryz.func44, Tryz.ntmps44
  go_upto_region 1 with fail
  rw [← hW1]
  obtain ⟨z0, z1, z2, z3, z4, z5⟩ := six_of_block HBX.out
  clear hW1
  have hi2 : ¬ (9223372036854775807 < ind.size + 2) := by have := HLL.out.2.2; omega
  have key : ∀ (v4 : Value) (w4 : World), w4.ownsRow W0.heap.size 5 1 v4 (l ++ (⟨#[123, 10]⟩ : ByteArray).data.toList).length (byteCells (l ++ (⟨#[123, 10]⟩ : ByteArray).data.toList)) → W1.grownBy w4 (Value.slice va l.length vc).ownBlock → (v4.ownBlock = (Value.slice va l.length vc).ownBlock ∨ v4.ownBlock = some W1.heap.size) → Hid (BAt 5 W0 W1 (.slice va l.length vc) L1 w4 v4) := by
    intro v4 w4 hown4 hgr4 hat4
    show BAt _ _ _ _ _ _ _
    rw [HL1.out]
    exact H1.out.step hown4 hgr4 (hat4.imp id fun e => ⟨_, Nat.le_refl _, e⟩)
  have KEY := Lib.hid key
  clear key
  have key2 : l.length + (⟨#[123, 10]⟩ : ByteArray).size ≤ 140737488355328 := by show l.length + 2 ≤ _; omega
  go_upto_region 18 with (at_builtin; refine wpList_append_str rfl _ _ 63 9 rfl W0.heap.size 5 bi Tryz.underlying63 Tryz.underlying9 hbi hbz0 hbz1 hbz2 _ l rfl H1.out.own ⟨#[123, 10]⟩ rfl key2 HZ01.out ?_; intro v4 w4 hown4 hgr4 hat4; have H4 := KEY.out v4 w4 hown4 hgr4 hat4; clear hown4 hgr4 hat4)
  clear z0 z1 z2 z3 z4 z5 KEY key2
  obtain ⟨z0, z1, z2, z3, z4, z5⟩ := six_of_block (H4.out.block HBX.out HNE.out).1
  go_upto_region 19 with (go_at_call 29; refine (HPT.out L1 _ _ (H4.out.low HB01.out fun k hk => (HLT.out k hk).1) H4.out.own HLL.out.2.1).mono ?_; rintro e w5 ⟨v5, rfl, hb5⟩; have H5 := Lib.hid (H4.out.trans hb5); clear hb5)
  have HCf := Lib.hid (fun w : World => (Below.refl _ w).alloc (Nat.le_refl _) (.cells #[.int .u8 125] 5))
  have HOf : Hid (∀ w : World, (w.alloc (.cells #[.int .u8 125] 5)).heap[w.heap.size]? = some (.cells #[.int .u8 ((125 : UInt8).toNat : Int)] 5 (0, 0))) := fun w => heap_alloc_new _ _
  have HZf : Hid (∀ (w6 : World) (v6 : Value) (l6 : List UInt8), BAt 5 W0 W1 (.slice va l.length vc) l6 w6 v6 → W0.heap.size ≤ w6.heap.size ∧ W0.heap.size ≤ (w6.alloc (.cells #[.int .u8 125] 5)).heap.size) := fun w6 v6 l6 h => by
    have h1 := (h.low HB01.out fun k hk => (HLT.out k hk).1).size
    exact ⟨h1, by simp; omega⟩
  have hl3 : (L1 ++ PT).length + ind.size ≤ 140737488355328 := by have := HLL.out.2.2; omega
  have hl4 : ((L1 ++ PT) ++ ind.data.toList).length + 1 ≤ 140737488355328 := by
    have := HLL.out.2.2
    have e : ind.data.toList.length = ind.size := by rw [Array.length_toList]; rfl
    rw [List.length_append, e]; omega
  obtain ⟨L2, hL2⟩ : ∃ L2, L2 = L1 ++ PT := ⟨_, rfl⟩
  rw [← hL2] at hl3 hl4 H5 HE
  have HL2 := Lib.hid hL2
  clear hL2
  go_wp2_with (first | (at_builtin; refine wpList_append_str rfl _ _ 63 9 rfl W0.heap.size 5 bi Tryz.underlying63 Tryz.underlying9 hbi hbz0 hbz1 hbz2 _ L2 rfl H5.out.own ind rfl hl3 (HZf.out _ _ _ H5.out).1 ?_; intro v6 w6 hown6 hgr6 hat6; have H6 := Lib.hid (H5.out.step hown6 hgr6 (hat6.imp id fun e => ⟨_, Nat.le_refl _, e⟩)); clear hown6 hgr6 hat6) | (at_builtin; refine wpList_append_chr rfl _ _ 63 rfl W0.heap.size 5 bi Tryz.underlying63 hbi hbz0 hbz1 hbz2 _ (L2 ++ ind.data.toList) rfl (H6.out.below (HCf.out _)).own _ 125 rfl (HOf.out _) hl4 (HZf.out _ _ _ H6.out).2 ?_; intro v7 w7 hown7 hgr7 hat7; have H7 := Lib.hid ((H6.out.below (HCf.out _)).step hown7 hgr7 (hat7.imp id fun e => ⟨_, Nat.le_refl _, e⟩)); clear hown7 hgr7 hat7))
  go_ret
  refine ⟨_, rfl, ?_⟩
  rw [HL2.out] at H7
  exact ⟨H7.out.own, HWW.out.1.trans H7.out.grown, H7.out.at_.imp id fun ⟨k, hk, e⟩ => ⟨k, by have := HWW.out.2; omega, e⟩⟩
end Go.Proofs.YtejnoedlfbglcaaGreatDoor
namespace Go.Proofs.YtejnoedlfbglcaaGreatDoor
open Go.RowKit Mh
set_option linter.unusedVariables false

set_option maxRecDepth 100000 in
set_option maxHeartbeats 8000000 in
theorem pt_table (X : V) (hkl : X.kys.length = X.its.length) (hil : X.its.length ≤ 3999) (ih : ∀ x ∈ X.its, PrC x) : PtC X := by
  intro cs ind l ov W0 w hX ht hb ho hl
  obtain ⟨ia, ic, ka, kc, rfl, _, _, _, hSS, rows, hS, hV⟩ := hX.opened
  obtain ⟨bi, hbi, hbz0, hbz1, hbz2⟩ := info_parts infoByte
  obtain ⟨va, vc, hv⟩ := ownsRow_form ho
  obtain ⟨_, _, hsl, hitem⟩ := VsAt.item hS hV
  simp only [Value.slice.injEq] at hsl
  obtain ⟨rfl, _, rfl⟩ := hsl
  obtain ⟨_, _, hsk, hkey⟩ := hSS.key
  simp only [Value.slice.injEq] at hsk
  obtain ⟨rfl, _, rfl⟩ := hsk
  have HITEM := Lib.hid hitem
  have HKEY := Lib.hid hkey
  rw [vcs_arr]
  obtain ⟨W1, hW1⟩ : ∃ W1, W1 = w.alloc (.cells #[.int .i64 X.kd, .bool X.bo, .int .i64 X.nu, .string X.tx, .slice ia X.its.length ic, .slice ka X.kys.length kc] 29) := ⟨_, rfl⟩
  have hb1 : Below w.heap.size w W1 := by rw [hW1]; exact (Below.refl _ w).alloc (Nat.le_refl _) _
  have hz1 : w.heap.size < W1.heap.size := by rw [hW1]; simp
  have hbx : W1.heap[w.heap.size]? = some (.cells #[.int .i64 X.kd, .bool X.bo, .int .i64 X.nu, .string X.tx, .slice ia X.its.length ic, .slice ka X.kys.length kc] 29 (0, 0)) := by rw [hW1]; exact heap_alloc_new _ _
  have ho1 := own_below ho hb1
  have HLT := Lib.hid (fun k hk => (ho.lt k hk))
  have HNE : Hid (ov.ownBlock ≠ some w.heap.size) := fun e => absurd (ho.lt _ e).2 (Nat.lt_irrefl _)
  have HB01 : Hid (Below W0.heap.size W0 W1) := hb.trans (hb1.mono hb.size)
  have H1 : Hid (BAt 5 W0 W1 ov (l ++ ptJ X.its X.kys ind.data.toList 0) W1 ov) := by
    show BAt _ _ _ _ _ _ _
    have e : l ++ ptJ X.its X.kys ind.data.toList 0 = l := by simp [ptJ, ptL]
    rw [e]
    exact BAt.refl ho1
  have HBX := Lib.hid hbx
  have HWW : Hid (w.grownBy W1 ov.ownBlock ∧ w.heap.size ≤ W1.heap.size) := ⟨by rw [hW1]; exact World.grownBy_alloc _ _ _, by omega⟩
  have HL : Hid (∀ j, j ≤ X.its.length → (l ++ ptJ X.its X.kys ind.data.toList j).length ≤ 1000000000) := fun j hj => by
    have := pt_mono X.its X.kys ind.data.toList hkl j hj
    simp only [List.length_append] at hl ⊢
    omega
  have HSTEP : Hid (∀ j (hj : j < X.its.length) (hj2 : j < X.kys.length), l ++ ptJ X.its X.kys ind.data.toList (j + 1) = (l ++ ptJ X.its X.kys ind.data.toList j) ++ (ind.data.toList ++ (X.kys[j].data.toList ++ 32 :: (pvL X.its[j] ind.data.toList ++ [10])))) := fun j hj hj2 => by rw [pt_take hkl hj]; simp
  have HIH : Hid (∀ j (hj : j < X.its.length) (ds : List Value) (l' : List UInt8) (v' : Value) (w' : World), VAt W0 X.its[j] ds → Below W0.heap.size W0 w' → w'.ownsRow W0.heap.size 5 1 v' l'.length (byteCells l') → l'.length + (pvL X.its[j] ind.data.toList).length ≤ 1000000000 →
      Calls Tryz.prog 44 #[v', .agg ds.toArray, .string ind] w' fun e w2 => ∃ v2, e = .returned v2 ∧ BAt 5 W0 w' v' (l' ++ pvL X.its[j] ind.data.toList) w2 v2) := fun j hj ds l' v' w' hds hbw how hlw => ih _ (List.getElem_mem hj) ds ind l' v' W0 w' hds ht hbw how hlw
  have HALL : Hid (ptJ X.its X.kys ind.data.toList X.its.length = ptL X.its X.kys ind.data.toList) := pt_all _ _ _ hkl
  have HKL := Lib.hid hkl
  have hkl2 : X.kys.length ≤ 3999 := by omega
  have HCs := Lib.hid (fun w : World => (Below.refl _ w).alloc (Nat.le_refl _) (.cells #[.int .u8 32] 5))
  have HOs : Hid (∀ w : World, (w.alloc (.cells #[.int .u8 32] 5)).heap[w.heap.size]? = some (.cells #[.int .u8 ((32 : UInt8).toNat : Int)] 5 (0, 0))) := fun w => heap_alloc_new _ _
  have HCn := Lib.hid (fun w : World => (Below.refl _ w).alloc (Nat.le_refl _) (.cells #[.int .u8 10] 5))
  have HOn : Hid (∀ w : World, (w.alloc (.cells #[.int .u8 10] 5)).heap[w.heap.size]? = some (.cells #[.int .u8 ((10 : UInt8).toNat : Int)] 5 (0, 0))) := fun w => heap_alloc_new _ _
  have HZf : Hid (∀ (w6 : World) (v6 : Value) (l6 : List UInt8), BAt 5 W0 W1 ov l6 w6 v6 → W0.heap.size ≤ w6.heap.size ∧ ∀ o, W0.heap.size ≤ (w6.alloc o).heap.size) := fun w6 v6 l6 h => by
    have h1 := (h.low HB01.out fun k hk => (HLT.out k hk).1).size
    exact ⟨h1, fun o => by simp; omega⟩
  subst hv
  clear hX ht hb ho hl hS hV hitem ih hb1 hbx ho1 hkl hSS hkey
  go_enter Tryz.func29, Tryz.ntmps29
  go_upto_region 1 with fail
  rw [← hW1]
  clear hW1
  obtain ⟨z0, z1, z2, z3, z4, z5⟩ := six_of_block HBX.out
  go_wp2_with fail
  clear z0 z1 z2 z3 z4 z5
  go_loopw [0, 12] (fun v i wr => ∃ (j : Nat), j ≤ X.its.length ∧ i = .int .i64 j ∧ Hid (BAt 5 W0 W1 (.slice va l.length vc) (l ++ ptJ X.its X.kys ind.data.toList j) wr v)) (fun _ i _ => X.its.length - (intOf i).toNat)
  case atStart => exact ⟨0, by omega, rfl, H1⟩
  case round =>
    clear H1
    obtain ⟨j, hj, rfl, HI⟩ := hrel
    have hll := HL.out j hj
    obtain ⟨L, hL⟩ : ∃ L, L = l ++ ptJ X.its X.kys ind.data.toList j := ⟨_, rfl⟩
    rw [← hL] at HI hll
    have HLL := Lib.hid hL
    clear hL
    have HLOW := Lib.hid (HI.out.low HB01.out fun k hk => (HLT.out k hk).1)
    by_cases hlt : j < X.its.length
    · have hlk : j < X.kys.length := by have := HKL.out; omega
      obtain ⟨xb, xo, xa, xc, xk, xkc, rfl, hxl, hxat, hcell⟩ := HITEM.out j hlt
      obtain ⟨kb, ko, rfl, hkb, hkc, _⟩ := HKEY.out j hlk
      have k0 := (HLOW.out.cell (p := ⟨kb, ko + j, none⟩) hkb).trans hkc
      obtain ⟨K, hK⟩ : ∃ K, K = X.kys[j] := ⟨_, rfl⟩
      have HSJ : Hid (l ++ ptJ X.its X.kys ind.data.toList (j + 1) = L ++ ind.data.toList ++ K.data.toList ++ [32] ++ pvL X.its[j] ind.data.toList ++ [10]) := by show _ = _; rw [HSTEP.out j hlt hlk, HLL.out, hK]; simp
      rw [← hK] at k0
      clear hK
      have hl2 := HL.out (j + 1) hlt
      rw [HSJ.out] at hl2
      have hli : ind.data.toList.length = ind.size := by rw [Array.length_toList]; rfl
      have hlk2 : K.data.toList.length = K.size := by rw [Array.length_toList]; rfl
      have q1 : L.length + ind.size ≤ 140737488355328 := by simp only [List.length_append] at hl2; omega
      have q2 : (L ++ ind.data.toList).length + K.size ≤ 140737488355328 := by simp only [List.length_append] at hl2 ⊢; omega
      have q3 : (L ++ ind.data.toList ++ K.data.toList).length + 1 ≤ 140737488355328 := by simp only [List.length_append] at hl2 ⊢; omega
      have q4 : (L ++ ind.data.toList ++ K.data.toList ++ [32]).length + (pvL X.its[j] ind.data.toList).length ≤ 1000000000 := by simp only [List.length_append] at hl2 ⊢; omega
      have q5 : (L ++ ind.data.toList ++ K.data.toList ++ [32] ++ pvL X.its[j] ind.data.toList).length + 1 ≤ 140737488355328 := by simp only [List.length_append, List.length_cons, List.length_nil] at hl2 ⊢; omega
      have HLEN : Hid (L.length + ind.size ≤ 140737488355328 ∧ (L ++ ind.data.toList).length + K.size ≤ 140737488355328 ∧ (L ++ ind.data.toList ++ K.data.toList).length + 1 ≤ 140737488355328 ∧ (L ++ ind.data.toList ++ K.data.toList ++ [32]).length + (pvL X.its[j] ind.data.toList).length ≤ 1000000000 ∧ (L ++ ind.data.toList ++ K.data.toList ++ [32] ++ pvL X.its[j] ind.data.toList).length + 1 ≤ 140737488355328) := ⟨q1, q2, q3, q4, q5⟩
      have HIJ := Lib.hid (fun ds l' v' w' => HIH.out j hlt ds l' v' w')
      have HXAT := Lib.hid hxat
      have HCELL := Lib.hid hcell
      have HXL := Lib.hid hxl
      clear q1 q2 q3 q4 q5 hli hlk2 hl2 hll hkc hkb hxat hcell hxl
      go_upto_region 5 with (first | (at_builtin; refine wpList_append_str rfl _ _ 63 9 rfl W0.heap.size 5 bi Tryz.underlying63 Tryz.underlying9 hbi hbz0 hbz1 hbz2 _ L rfl HI.out.own ind rfl HLEN.out.1 (HZf.out _ _ _ HI.out).1 ?_; intro v4 w4 hown4 hgr4 hat4; have H4 := Lib.hid (HI.out.step hown4 hgr4 (hat4.imp id fun e => ⟨_, Nat.le_refl _, e⟩)); clear hown4 hgr4 hat4) | (at_builtin; refine wpList_append_str rfl _ _ 63 9 rfl W0.heap.size 5 bi Tryz.underlying63 Tryz.underlying9 hbi hbz0 hbz1 hbz2 _ (L ++ ind.data.toList) rfl H4.out.own K rfl HLEN.out.2.1 (HZf.out _ _ _ H4.out).1 ?_; intro v5 w5 hown5 hgr5 hat5; have H5 := Lib.hid (H4.out.step hown5 hgr5 (hat5.imp id fun e => ⟨_, Nat.le_refl _, e⟩)); clear hown5 hgr5 hat5) | (at_builtin; refine wpList_append_chr rfl _ _ 63 rfl W0.heap.size 5 bi Tryz.underlying63 hbi hbz0 hbz1 hbz2 _ (L ++ ind.data.toList ++ K.data.toList) rfl (H5.out.below (HCs.out _)).own _ 32 rfl (HOs.out _) HLEN.out.2.2.1 ((HZf.out _ _ _ H5.out).2 _) ?_; intro v6 w6 hown6 hgr6 hat6; have H6 := Lib.hid ((H5.out.below (HCs.out _)).step hown6 hgr6 (hat6.imp id fun e => ⟨_, Nat.le_refl _, e⟩)); clear hown6 hgr6 hat6))
      clear k0
      obtain ⟨z0, z1, z2, z3, z4, z5⟩ := six_of_block (H6.out.block HBX.out HNE.out).1
      obtain ⟨x0, x1, x2, x3, x4, x5⟩ := six_later (H6.out.low HB01.out fun k hk => (HLT.out k hk).1) HXL.out HCELL.out
      go_upto_region 6 with (go_at_call 44; refine (HIJ.out _ _ _ _ HXAT.out (H6.out.low HB01.out fun k hk => (HLT.out k hk).1) H6.out.own HLEN.out.2.2.2.1).mono ?_; rintro e w7 ⟨v7, rfl, hb7⟩; have H7 := Lib.hid (H6.out.trans hb7); clear hb7)
      clear x0 x1 x2 x3 x4 x5 z0 z1 z2 z3 z4 z5
      go_wp2_with (at_builtin; refine wpList_append_chr rfl _ _ 63 rfl W0.heap.size 5 bi Tryz.underlying63 hbi hbz0 hbz1 hbz2 _ _ rfl (H7.out.below (HCn.out _)).own _ 10 rfl (HOn.out _) HLEN.out.2.2.2.2 ((HZf.out _ _ _ H7.out).2 _) ?_; intro v8 w8 hown8 hgr8 hat8; have H8 := Lib.hid ((H7.out.below (HCn.out _)).step hown8 hgr8 (hat8.imp id fun e => ⟨_, Nat.le_refl _, e⟩)); clear hown8 hgr8 hat8)
      go_roundw
      case rel => exact ⟨j + 1, by omega, by first | rfl | go_num, by show BAt _ _ _ _ _ _ _; rw [HSJ.out]; exact H8.out⟩
      case measure => first | (simp [intOf]; omega) | go_num
    · obtain rfl : j = X.its.length := by omega
      have hlk : ¬ X.its.length < X.kys.length := by have := HKL.out; omega
      have HE : Hid (L = l ++ ptL X.its X.kys ind.data.toList) := by show _ = _; rw [HLL.out, HALL.out]
      go_wp2_with fail
      go_ret
      refine ⟨_, rfl, ?_⟩
      rw [HE.out] at HI
      exact ⟨HI.out.own, HWW.out.1.trans HI.out.grown, HI.out.at_.imp id fun ⟨k, hk, e⟩ => ⟨k, by have := HWW.out.2; omega, e⟩⟩
end Go.Proofs.YtejnoedlfbglcaaGreatDoor
namespace Mh
open Go Go.RowKit Mh.Cal
set_option linter.unusedVariables false
theorem flat_le (l : List UInt8) : (l.flatMap escL).length ≤ 2 * l.length := by
  have h1 := Go.Proofs.YtejnoedlfbglcaaGreatDoor.flat_len l
  have h2 := List.countP_le_length (p := Go.Proofs.YtejnoedlfbglcaaGreatDoor.spec) (l := l)
  omega
theorem dec_len20 (n : Nat) (h : n ≤ 9223372036854775808) : (Lib.decDigits n).length ≤ 20 := dec_len 20 n (by omega) (by omega)
theorem itoa_len {n : Int} (h : okN n) : (Lib.itoa n).length ≤ 21 := by
  unfold okN at h
  unfold Lib.itoa
  split
  · rw [List.length_cons]; have := dec_len20 n.natAbs (by omega); omega
  · have := dec_len20 n.toNat (by omega); omega
theorem wordL_len {k : Int} {b : Bool} {n : Int} (h : okN n) : (wordL k b n).length ≤ 21 := by
  unfold wordL
  split
  · split <;> simp
  · split
    · exact itoa_len h
    · split
      · unfold dayT
        split
        · rw [dayL_length]; omega
        · simp
      · simp
theorem pvt_len (ind : List UInt8) (C : Nat) : ∀ is : List V, (∀ x ∈ is, (pvL x ind).length + ind.length + 60 ≤ x.nodes * C) → (pvtL is ind).length ≤ V.nodess is * C := by
  intro is
  induction is with
  | nil => intro _; simp [pvtL]
  | cons x is ih =>
    intro h
    rw [pvtL, V.nodess, List.length_cons, List.length_append, Nat.add_mul]
    have := h x (by simp)
    have := ih (fun y hy => h y (by simp [hy]))
    omega
theorem pvs_len (ind : List UInt8) (C : Nat) (is : List V) (h : ∀ x ∈ is, (pvL x ind).length + ind.length + 60 ≤ x.nodes * C) : (pvsL is ind).length ≤ V.nodess is * C := by
  cases is with
  | nil => simp [pvsL]
  | cons x is =>
    rw [pvsL, V.nodess, List.length_append, Nat.add_mul]
    have := h x (by simp)
    have := pvt_len ind C is (fun y hy => h y (by simp [hy]))
    omega
theorem pt_len (ind : List UInt8) (C : Nat) : ∀ (is : List V) (ks : List ByteArray), (∀ x ∈ is, (pvL x ind).length + ind.length + 60 ≤ x.nodes * C) → (∀ k ∈ ks, k.size ≤ 40) → (ptL is ks ind).length ≤ V.nodess is * C := by
  intro is
  induction is with
  | nil => intro ks _ _; simp [ptL]
  | cons x is ih =>
    intro ks h hk
    cases ks with
    | nil => simp [ptL]
    | cons k ks =>
      rw [ptL, V.nodess, Nat.add_mul]
      have h1 := h x (by simp)
      have h2 := ih ks (fun y hy => h y (by simp [hy])) (fun q hq => hk q (by simp [hq]))
      have h3 := hk k (by simp)
      have h4 : k.data.toList.length = k.size := by rw [Array.length_toList]; rfl
      simp only [List.length_append, List.length_cons]
      omega
theorem rngs_mem : ∀ is, V.rngs is → ∀ x ∈ is, V.rng x := by
  intro is
  induction is with
  | nil => intro _ x hx; simp at hx
  | cons y ys ih =>
    intro h x hx
    simp only [V.rngs] at h
    rcases List.mem_cons.1 hx with rfl | hx
    · exact h.1
    · exact ih h.2 x hx
theorem pv_len (d : Nat) : ∀ (N : Nat) (X : V), sizeOf X < N → X.good → X.rng → ∀ ind : List UInt8, ind.length + 2 * X.lev ≤ d → (pvL X ind).length + ind.length + 60 ≤ X.nodes * (20000 + 3 * d) := by
  intro N
  induction N with
  | zero => intro X h; omega
  | succ N ih =>
    intro X hN hg hr ind hd
    have hf := good_facts hg
    have hkb := good_keyB hg
    obtain ⟨k, b, n, t, is, ks⟩ := X
    simp only [V.rng] at hr
    have hg1 : V.good1 (.mk k b n t is ks) := by simp only [V.good] at hg; exact hg.1
    have ht : t.size ≤ 5000 := hg1.2.2.2.1
    have hnn : (V.mk k b n t is ks).nodes * (20000 + 3 * d) = V.nodess is * (20000 + 3 * d) + (20000 + 3 * d) := by rw [V.nodes, Nat.add_mul, Nat.one_mul]
    rw [hnn]
    have hit : ∀ (i2 : List UInt8), i2.length ≤ ind.length + 2 → ∀ x ∈ is, (pvL x i2).length + i2.length + 60 ≤ x.nodes * (20000 + 3 * d) := by
      intro i2 h2 x hx
      have hlv := lev_item (v := .mk k b n t is ks) hx
      refine ih x ?_ (hf.2.2.2.1 x hx) (rngs_mem is hr.2 x hx) i2 (by omega)
      have := size_item (k := k) (b := b) (n := n) (t := t) (ks := ks) hx
      omega
    rw [pvL]
    split
    · have h1 := flat_le t.data.toList
      have h2 : t.data.toList.length = t.size := by rw [Array.length_toList]; rfl
      simp only [quoteL, List.length_cons, List.length_append, List.length_nil]
      omega
    · split
      · have := pvs_len ind (20000 + 3 * d) is (hit ind (by omega))
        simp only [List.length_cons, List.length_append, List.length_nil]
        omega
      · split
        · split
          · simp only [List.length_cons, List.length_nil]; omega
          · have := pt_len (ind ++ [32, 32]) (20000 + 3 * d) is ks (hit (ind ++ [32, 32]) (by simp)) hkb
            simp only [List.length_cons, List.length_append, List.length_nil] at this ⊢
            omega
        · have := wordL_len (k := k) (b := b) hr.1
          omega
theorem print_len {X : V} (h : X.okc) (hr : X.rng) : (printF X).length ≤ 100000000 := by
  have hn := h.nodes
  have hf := good_facts h.2.2
  have hkb := good_keyB h.2.2
  have h8 := h.2.1
  have hle : X.its.length ≤ 4000 := by have := nodess_len X.its; have := nodes_its X; omega
  have := pt_len [] (20000 + 3 * 16) X.its X.kys (fun x hx => by
    have hlv := lev_item hx
    refine pv_len 16 _ x (Nat.lt_succ_self _) (hf.2.2.2.1 x hx) ?_ [] (by simp; omega)
    obtain ⟨k, b, n, t, is, ks⟩ := X
    simp only [V.rng] at hr
    exact rngs_mem is hr.2 x hx) hkb
  have h3 : V.nodess X.its ≤ 1000 := by have := nodes_its X; omega
  have h4 : V.nodess X.its * (20000 + 3 * 16) ≤ 1000 * (20000 + 3 * 16) := Nat.mul_le_mul_right _ h3
  unfold printF
  omega
end Mh
namespace Go.Proofs.YtejnoedlfbglcaaGreatDoor
open Go.RowKit Mh
set_option linter.unusedVariables false

theorem pr_all : ∀ (N : Nat) (X : V), SizeOf.sizeOf X < N → X.mid → PrC X ∧ (X.kd = 6 → PtC X) := by
  intro N
  induction N with
  | zero => intro X h; omega
  | succ N ih =>
    intro X hN hm
    have hit : ∀ x ∈ X.its, PrC x := fun x hx => (ih x (by
      obtain ⟨k, b, n, t, is, ks⟩ := X
      change x ∈ is at hx
      have := size_item (k := k) (b := b) (n := n) (t := t) (ks := ks) hx
      omega) (hm.item x hx)).1
    have hl := hm.len
    have hf := good_facts hm.1
    have hpt : X.kd = 6 → PtC X := fun h6 => pt_table X (hf.2.1 h6) hl.1 hit
    refine ⟨?_, hpt⟩
    by_cases h3 : X.kd = 3
    · exact pv_str X h3
    by_cases h5 : X.kd = 5
    · exact pv_list X h5 hl.1 hit
    by_cases h6 : X.kd = 6
    · exact pv_table X h6 (hf.2.1 h6) hl.1 (hpt h6)
    refine pv_word X h3 h5 h6 fun h4 => ?_
    have hg := hm.1
    obtain ⟨k, b, n, t, is, ks⟩ := X
    simp only [V.good] at hg
    have := hg.1.2.2.1
    simp only [V.kd, V.nu] at h4 ⊢
    omega
set_option maxRecDepth 100000 in
set_option maxHeartbeats 4000000 in
theorem print_any (X : V) (hn : X.nodes ≤ 1099511627776) (hr : X.rng) (cs : List Value) (w : World) (h : VAt w X cs) (ht : Tab10 w) :
    Calls Tryz.prog 11 #[.agg cs.toArray] w fun e w' => (∃ (s : ByteArray) (r : Int), e = .returned (.tuple #[.string s, .int .i64 r]) ∧
      ((r = 0 ∧ X.okc ∧ X.kd = 6 ∧ (printF X).length ≤ 50000 ∧ s.data.toList = printF X) ∨ (r ≠ 0 ∧ s = ⟨#[]⟩ ∧ (X.okc → X.kd = 6 → r = 4)))) ∧ Below w.heap.size w w' := by
  have HK : Hid (∀ w1, Below w.heap.size w w1 → Calls Tryz.prog 13 #[.agg cs.toArray] w1 fun e w' => ∃ r : Int, e = .returned (.int .i64 r) ∧ (r = 0 ↔ X.okc) ∧ Below w1.heap.size w1 w') := fun w1 hb => check_any X hn cs w1 (h.keep hb)
  have HP : Hid (∀ W0, Below w.heap.size w W0 → X.okc → X.kd = 6 → Calls Tryz.prog 29 #[.slice none 0 0, .agg cs.toArray, .string ⟨#[]⟩] W0 fun e w' => ∃ v', e = .returned v' ∧ w'.ownsRow W0.heap.size 5 1 v' (printF X).length (byteCells (printF X)) ∧ Below W0.heap.size W0 w') := fun W0 hb hok h6 => by
    have hpl := print_len hok hr
    refine ((pr_all _ X (Nat.lt_succ_self _) hok.mid).2 h6 cs ⟨#[]⟩ [] (.slice none 0 0) W0 W0 (h.keep hb) (ht.next hb) (Below.refl _ _) (World.ownsRow_nil _ _ _ _) (by show 0 + (printF X).length ≤ _; omega)).mono ?_
    rintro e w' h2
    cases e with
    | returned v =>
      obtain ⟨v', e1, hb2⟩ := h2
      exact ⟨v', e1, hb2.own, ⟨hb2.grown.os, hb2.grown.tape, hb2.grown.output, hb2.grown.size, fun k hk => hb2.grown.block k hk (by simp [Value.ownBlock])⟩⟩
    | _ => obtain ⟨v', e1, _⟩ := h2; cases e1
  have hX := h
  obtain ⟨ia, ic, ka, kc, rfl, _⟩ := h.opened
  rw [vcs_arr] at HK HP ⊢
  have HB1 : Hid (Below w.heap.size w (w.alloc (.cells #[.int .i64 X.kd, .bool X.bo, .int .i64 X.nu, .string X.tx, .slice ia X.its.length ic, .slice ka X.kys.length kc] 29))) := (Below.refl _ w).alloc (Nat.le_refl _) _
  obtain ⟨W1, hW1⟩ : ∃ W1, W1 = w.alloc (.cells #[.int .i64 X.kd, .bool X.bo, .int .i64 X.nu, .string X.tx, .slice ia X.its.length ic, .slice ka X.kys.length kc] 29) := ⟨_, rfl⟩
  have hbx : W1.heap[w.heap.size]? = some (.cells #[.int .i64 X.kd, .bool X.bo, .int .i64 X.nu, .string X.tx, .slice ia X.its.length ic, .slice ka X.kys.length kc] 29 (0, 0)) := by rw [hW1]; exact heap_alloc_new _ _
  have hz1 : w.heap.size < W1.heap.size := by rw [hW1]; simp
  rw [← hW1] at HB1
  have HBX := Lib.hid hbx
  clear h hX hbx
  by_cases hok : X.okc
  · have HK0 : Hid (Calls Tryz.prog 13 #[.agg #[.int .i64 X.kd, .bool X.bo, .int .i64 X.nu, .string X.tx, .slice ia X.its.length ic, .slice ka X.kys.length kc]] W1 fun e w' => e = .returned (.int .i64 0) ∧ Below W1.heap.size W1 w') := (HK.out W1 HB1.out).mono fun e w' h2 => by
      obtain ⟨r, e1, h3, h4⟩ := h2
      exact ⟨by rw [e1, h3.2 hok], h4⟩
    by_cases h6 : X.kd = 6
    · have HP0 : Hid (∀ W0, Below W1.heap.size W1 W0 → Calls Tryz.prog 29 #[.slice none 0 0, .agg #[.int .i64 X.kd, .bool X.bo, .int .i64 X.nu, .string X.tx, .slice ia X.its.length ic, .slice ka X.kys.length kc], .string ⟨#[]⟩] W0 fun e w' => ∃ v', e = .returned v' ∧ w'.ownsRow W0.heap.size 5 1 v' (printF X).length (byteCells (printF X)) ∧ Below W0.heap.size W0 w') :=
        fun W0 hb => HP.out W0 (HB1.out.trans (hb.mono HB1.out.size)) hok h6
      have b6 : (X.kd != 6) = false := by rw [h6]; rfl
      have H6 := Lib.hid h6
      have HOK := Lib.hid hok
      obtain ⟨T, hT⟩ : ∃ T, T = printF X := ⟨_, rfl⟩
      rw [← hT] at HP0 ⊢
      clear h6 hok hT HP HK
      go_enter Tryz.func11, Tryz.ntmps11
      go_upto_region 1 with fail
      rw [← hW1]
      clear hW1
      obtain ⟨z0, z1, z2, z3, z4, z5⟩ := six_of_block HBX.out
      go_upto_region 2 with (go_at_call 13; refine HK0.out.mono ?_; rintro e w2 ⟨rfl, hb2⟩; have HB2 := Lib.hid hb2; clear hb2)
      clear z0 z1 z2 z3 z4 z5
      obtain ⟨z0, z1, z2, z3, z4, z5⟩ := six_of_block ((HB2.out.block _ hz1).trans HBX.out)
      go_upto_region 7 with (go_at_call 29; refine (HP0.out _ HB2.out).mono ?_; rintro e w3 ⟨v3, rfl, hown, hb3⟩; obtain ⟨va, vc, hv⟩ := ownsRow_form hown; subst hv; have HO := Lib.hid hown; have HB3 : Hid (Below w.heap.size w w3) := HB1.out.trans ((HB2.out.trans (hb3.mono HB2.out.size)).mono HB1.out.size); clear hown hb3)
      have hcv := run_convert_own (P := Tryz.prog) w3 63 5 Tryz.underlying63 Tryz.underlying5 HO.out 9 Tryz.underlying9
      by_cases hl : T.length ≤ 50000
      · have a0 : ¬ (50000 < T.length) := by omega
        clear z0 z1 z2 z3 z4 z5
        go_wp2_with fail
        go_ret2
        exact ⟨⟨_, _, rfl, .inl ⟨rfl, HOK.out, H6.out, hl, by simp⟩⟩, HB3.out⟩
      · have a0 : 50000 < T.length := by omega
        clear z0 z1 z2 z3 z4 z5
        go_wp2_with fail
        go_ret2
        exact ⟨⟨_, _, rfl, .inr ⟨by decide, rfl, fun _ _ => rfl⟩⟩, HB3.out⟩
    · have b6 : (X.kd != 6) = true := by rw [bne_iff_ne]; exact h6
      have H6 := Lib.hid h6
      clear h6 HP HK
      go_enter Tryz.func11, Tryz.ntmps11
      go_upto_region 1 with fail
      rw [← hW1]
      clear hW1
      obtain ⟨z0, z1, z2, z3, z4, z5⟩ := six_of_block HBX.out
      go_upto_region 2 with (go_at_call 13; refine HK0.out.mono ?_; rintro e w2 ⟨rfl, hb2⟩; have HB2 := Lib.hid hb2; clear hb2)
      clear z0 z1 z2 z3 z4 z5
      obtain ⟨z0, z1, z2, z3, z4, z5⟩ := six_of_block ((HB2.out.block _ hz1).trans HBX.out)
      go_wp2_with fail
      go_ret2
      exact ⟨⟨_, _, rfl, .inr ⟨by decide, rfl, fun _ h => absurd h H6.out⟩⟩, HB1.out.trans (HB2.out.mono HB1.out.size)⟩
  · have HK0 : Hid (Calls Tryz.prog 13 #[.agg #[.int .i64 X.kd, .bool X.bo, .int .i64 X.nu, .string X.tx, .slice ia X.its.length ic, .slice ka X.kys.length kc]] W1 fun e w' => ∃ r, e = .returned (.int .i64 r) ∧ (r != 0) = true ∧ Below W1.heap.size W1 w') := (HK.out W1 HB1.out).mono fun e w' h2 => by
      obtain ⟨r, e1, h3, h4⟩ := h2
      exact ⟨r, e1, by rw [bne_iff_ne]; exact fun h => hok (h3.1 h), h4⟩
    have HOK := Lib.hid hok
    clear hok HP HK
    go_enter Tryz.func11, Tryz.ntmps11
    go_upto_region 1 with fail
    rw [← hW1]
    clear hW1
    obtain ⟨z0, z1, z2, z3, z4, z5⟩ := six_of_block HBX.out
    go_wp2_with (go_at_call 13; refine HK0.out.mono ?_; rintro e w2 ⟨r, rfl, hr0, hb2⟩; have HB2 := Lib.hid hb2; clear hb2)
    go_ret2
    exact ⟨⟨_, _, rfl, .inr ⟨by simpa using hr0, rfl, fun h => absurd h HOK.out⟩⟩, HB1.out.trans (HB2.out.mono HB1.out.size)⟩
end Go.Proofs.YtejnoedlfbglcaaGreatDoor
