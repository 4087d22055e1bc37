/- list.Sort$1: the comparison of two positions by the keys. Conditions: keys, values and positions lie where the closure's boxes say. -/
import Derived.Test.YtgalcdolhnckmaaGreatDoorLsQ
import Derived.Test.YtgalcdolhnckmaaGreatDoorSrU
import Derived.StillTailTactics
namespace Mh
open Go Go.RowKit
set_option linter.unusedVariables false
/-- The keys and what the items have by them, in two boxes. -/
structure SortMem (wv : World) (KB VB : Nat) (l : List V) (ks : List Ky) : Prop where
  keys : ∃ ka kc, wv.cell? ⟨KB, 0, none⟩ = some (.slice ka ks.length kc) ∧ KB < wv.heap.size ∧ ∀ i (hi : i < ks.length), ∃ b off, ka = some ⟨b, off, none⟩ ∧ ks.length ≤ kc ∧ kc ≤ maxLen ∧ b < wv.heap.size ∧
    wv.cell? ⟨b, off + i * 2, none⟩ = some (.string ks[i].r) ∧ wv.cell? ⟨b, off + i * 2 + 1, none⟩ = some (.bool ks[i].d)
  vals : ∃ va vc, wv.cell? ⟨VB, 0, none⟩ = some (.slice va ks.length vc) ∧ VB < wv.heap.size ∧ ∀ i (hi : i < ks.length), ∃ b off hv rows, va = some ⟨b, off, none⟩ ∧ ks.length ≤ vc ∧ vc ≤ maxLen ∧ b < wv.heap.size ∧
    wv.cell? ⟨b, off + i, none⟩ = some hv ∧ Sl 6 wv hv l.length rows ∧ VsAt wv (l.map (atR ks[i].r)) rows
theorem cmpK_drop (l : List V) (ks : List Ky) (i : Nat) (h : i < ks.length) (p q : Nat) : cmpK l (ks.drop i) p q = lex (comesL (keyV l ks[i] p) (keyV l ks[i] q) ks[i].d) (cmpK l (ks.drop (i + 1)) p q) := by
  rw [List.drop_eq_getElem_cons h]; rfl
theorem keyV_at (l : List V) (k : Ky) (p : Nat) (h : p < l.length) : keyV l k p = (l.map (atR k.r))[p]'(by rw [List.length_map]; exact h) := by
  unfold keyV
  rw [List.getD_eq_getElem?_getD, List.getElem?_eq_getElem h, List.getElem_map]; rfl
end Mh
namespace Go.Proofs.YtgalcdolhnckmaaGreatDoor
open Go.RowKit Mh
set_option linter.unusedVariables false
set_option maxRecDepth 100000 in
set_option maxHeartbeats 8000000 in
theorem sortL_any (l : List V) (ks : List Ky) (hk8 : ks.length ≤ 8) (hl2 : l.length ≤ 2000) (wv w : World) (KB VB OB : Nat) (hM : SortMem wv KB VB l ks) (hb : Below wv.heap.size wv w)
    (blk oc : Nat) (hO : w.cell? ⟨OB, 0, none⟩ = some (.slice (some ⟨blk, 0, none⟩) l.length oc)) (hoc : l.length ≤ oc) (hom : oc ≤ maxLen) (i j : Nat) (hi : i < l.length) (hj : j < l.length) (p q : Nat) (hp : p < l.length) (hq : q < l.length)
    (hpi : w.cell? ⟨blk, i, none⟩ = some (.int .i64 p)) (hqj : w.cell? ⟨blk, j, none⟩ = some (.int .i64 q)) :
    Calls Tryz.prog 14 #[.int .i64 (i : Nat), .int .i64 (j : Nat), .pointer (some ⟨KB, 0, none⟩), .pointer (some ⟨VB, 0, none⟩), .pointer (some ⟨OB, 0, none⟩)] w fun e w' => e = .returned (.bool (lessK l ks p q)) ∧ Below w.heap.size w w' := by
  obtain ⟨ka, kc, hkb, hkl, hkeys⟩ := hM.keys
  obtain ⟨va, vc, hvb, hvl, hvals⟩ := hM.vals
  have HKE := Lib.hid hkeys
  have HVA := Lib.hid hvals
  have HB := Lib.hid hb
  have k0 := (hb.cell (p := ⟨KB, 0, none⟩) hkl).trans hkb
  have v0 := (hb.cell (p := ⟨VB, 0, none⟩) hvl).trans hvb
  have HK0 := Lib.hid (⟨Nat.lt_of_lt_of_le hkl hb.size, k0⟩ : KB < w.heap.size ∧ w.cell? ⟨KB, 0, none⟩ = some (.slice ka ks.length kc))
  have HV0 := Lib.hid (⟨Nat.lt_of_lt_of_le hvl hb.size, v0⟩ : VB < w.heap.size ∧ w.cell? ⟨VB, 0, none⟩ = some (.slice va ks.length vc))
  have HO0 := Lib.hid (⟨World.block_lt_of_cell? w _ hO, hO⟩ : OB < w.heap.size ∧ w.cell? ⟨OB, 0, none⟩ = some (.slice (some ⟨blk, 0, none⟩) l.length oc))
  have HP0 := Lib.hid (⟨World.block_lt_of_cell? w _ hpi, hpi⟩ : blk < w.heap.size ∧ w.cell? ⟨blk, i, none⟩ = some (.int .i64 p))
  have HQ0 := Lib.hid (⟨World.block_lt_of_cell? w _ hqj, hqj⟩ : blk < w.heap.size ∧ w.cell? ⟨blk, j, none⟩ = some (.int .i64 q))
  have HLE : Hid (lessK l ks p q = decide (cmpK l (ks.drop 0) p q < 0)) := rfl
  unfold maxLen at hom
  clear hkb hkl hkeys hvb hvl hvals hb hM v0 hO hpi hqj
  go_enter Tryz.func14, Tryz.ntmps14
  go_wp2_with fail
  go_loopw [13] (fun x wr => ∃ k : Nat, x = .int .i64 k ∧ k ≤ ks.length ∧ Hid (lessK l ks p q = decide (cmpK l (ks.drop k) p q < 0)) ∧ Hid (Below w.heap.size w wr)) (fun x _ => ks.length - (intOf x).toNat)
  case atStart => exact ⟨0, rfl, Nat.zero_le _, HLE, Below.refl _ _⟩
  case round =>
    clear HLE k0
    obtain ⟨k, rfl, hk, HL, HW⟩ := hrel
    by_cases hkl : k < ks.length
    · obtain ⟨kb, ko, rfl, hk1, hk2, hk3, c0, c1⟩ := HKE.out k hkl
      obtain ⟨vb, vo, hv, rows, rfl, hv1, hv2, hv3, d0, hS, hT⟩ := HVA.out k hkl
      obtain ⟨ha, hc, rfl, hitem⟩ := VsAt.item (is := l.map (atR ks[k].r)) (by rw [List.length_map]; exact hS) hT
      rw [List.length_map] at d0
      have hwv := HB.out.trans (HW.out.mono HB.out.size)
      have e0 := (hwv.cell (p := ⟨kb, ko + k * 2, none⟩) hk3).trans c0
      have e1 := (hwv.cell (p := ⟨kb, ko + k * 2 + 1, none⟩) hk3).trans c1
      obtain ⟨pb, po, pa, pc, pk, pkc, rfl, hpl, hpa, hp6⟩ := hitem p (by rw [List.length_map]; exact hp)
      obtain ⟨qb, qo, qa, qc, qk, qkc, hqe, hql, hqa, hq6⟩ := hitem q (by rw [List.length_map]; exact hq)
      simp only [Option.some.injEq, Addr.mk.injEq, and_true] at hqe
      obtain ⟨rfl, rfl⟩ := hqe
      have hZP := keyV_at l ks[k] p hp
      have hZQ := keyV_at l ks[k] q hq
      rw [← hZP] at hpa hp6
      rw [← hZQ] at hqa hq6
      have hbx : Below wr.heap.size wr (wr.alloc (.cells #[.string ks[k].r, .bool ks[k].d] 46)) := (Below.refl _ wr).alloc (Nat.le_refl _) _
      have HBX : Hid (Below w.heap.size w (wr.alloc (.cells #[.string ks[k].r, .bool ks[k].d] 46))) := HW.out.trans (hbx.mono HW.out.size)
      have hwx := HB.out.trans (HBX.out.mono HB.out.size)
      obtain ⟨p0, p1, p2, p3, p4, p5⟩ := six_later hwx hpl hp6
      obtain ⟨q0, q1, q2, q3, q4, q5⟩ := six_later hwx hql hq6
      have y0 := (hwx.cell (p := ⟨vb, vo + k, none⟩) hv3).trans d0
      have y1 := (HBX.out.cell (p := ⟨VB, 0, none⟩) HV0.out.1).trans HV0.out.2
      have y2 := (HBX.out.cell (p := ⟨OB, 0, none⟩) HO0.out.1).trans HO0.out.2
      have y3 := (HBX.out.cell (p := ⟨blk, i, none⟩) HP0.out.1).trans HP0.out.2
      have y4 := (HBX.out.cell (p := ⟨blk, j, none⟩) HQ0.out.1).trans HQ0.out.2
      have y5 : (wr.alloc (.cells #[.string ks[k].r, .bool ks[k].d] 46)).cell? ⟨wr.heap.size, 1, none⟩ = some (.bool ks[k].d) := cellT (heap_alloc_new _ _) rfl
      have y6 := (HW.out.cell (p := ⟨KB, 0, none⟩) HK0.out.1).trans HK0.out.2
      have CC := Lib.hid (fun w' hb => comes_any (keyV l ks[k] p) (keyV l ks[k] q) _ _ ks[k].d w' (hpa.keep (hwx.trans (Below.mono hb hwx.size))) (hqa.keep (hwx.trans (Below.mono hb hwx.size))))
      rw [vcs_arr, vcs_arr] at CC
      have HD := Lib.hid (cmpK_drop l ks k hkl p q)
      clear c0 c1 d0 hS hT hitem hpl hpa hp6 hql hqa hq6 hwv hwx hbx hZP hZQ
      generalize hz : comesL (keyV l ks[k] p) (keyV l ks[k] q) ks[k].d = z at *
      clear hz
      generalize keyV l ks[k] p = X at *
      generalize keyV l ks[k] q = Y at *
      generalize ks[k] = kk at *
      unfold maxLen at hk2 hv2
      go_wp2_with fail
      generalize World.alloc _ _ = wn at HBX CC p0 p1 p2 p3 p4 p5 q0 q1 q2 q3 q4 q5 y0 y1 y2 y3 y4 y5 ⊢
      go_still_tail 22, (by kernel_rfl)
      go_wp2_with fail
      refine (CC.out _ (Below.refl _ _).drew).mono ?_
      rintro e w9 ⟨rfl, hb9⟩
      have HB9 : Hid (Below w.heap.size w w9) := HBX.out.drew.trans (hb9.mono HBX.out.size)
      clear hb9 p0 p1 p2 p3 p4 p5 q0 q1 q2 q3 q4 q5 y0 y1 y2 y3 y4 y5 y6 e0 e1
      by_cases hz : z = 0
      · have hz' : (z != 0) = false := by rw [bne_eq_false_iff_eq]; exact hz
        have HL2 : Hid (lessK l ks p q = decide (cmpK l (ks.drop (k + 1)) p q < 0)) := by
          have h := HL.out; rw [HD.out] at h; rw [hz] at h; simpa [lex, Hid] using h
        clear hz HL HD CC
        go_wp2_with fail
        go_roundw
        case rel => exact ⟨k + 1, by go_num, by omega, HL2, HB9⟩
        case measure => simp [intOf]; omega
      · have hz' : (z != 0) = true := by rw [bne_iff_ne]; exact hz
        have HL2 : Hid (lessK l ks p q = decide (z < 0)) := by
          have h := HL.out; rw [HD.out] at h; simpa [lex, hz, Hid] using h
        clear hz HL HD CC
        go_wp2_with fail
        go_ret
        exact ⟨by rw [HL2.out]; rfl, HB9.out⟩
    · have HE : Hid (lessK l ks p q = false) := by
        have := HL.out
        rw [List.drop_eq_nil_of_le (by omega)] at this
        exact this.trans (decide_eq_false (by unfold cmpK; omega))
      have y6 := (HW.out.cell (p := ⟨KB, 0, none⟩) HK0.out.1).trans HK0.out.2
      go_wp2_with fail
      go_ret
      exact ⟨by rw [HE.out]; rfl, HW.out⟩
end Go.Proofs.YtgalcdolhnckmaaGreatDoor
