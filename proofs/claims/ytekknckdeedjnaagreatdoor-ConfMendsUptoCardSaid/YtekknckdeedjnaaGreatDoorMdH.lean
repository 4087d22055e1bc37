/- (differ).diff: where the values are equal, and where they are not both tables. Conditions: as stated. -/
import Derived.Test.YtekknckdeedjnaaGreatDoorMdG
import Derived.Test.YtekknckdeedjnaaGreatDoorKeV
import Derived.Test.YtekknckdeedjnaaGreatDoorCmp
import Derived.Test.YtekknckdeedjnaaGreatDoorKeJo
import Derived.Deep.CutRange
namespace Go.Proofs.YtekknckdeedjnaaGreatDoor
open Go.RowKit Mh
set_option linter.unusedVariables false

theorem infoChange : (Tryz.prog.info? 56).map (fun i => (i.zero, i.size, i.bytes)) = some (some (.agg #[.string ⟨#[]⟩, .int .i64 0, .bool false, .int .i64 0, .string ⟨#[]⟩, .slice none 0 0, .slice none 0 0, .bool false]), 8, 112) := by kernel_rfl
theorem chc_ones (c : Chg) (ia : Option Addr) (ic : Nat) (ka : Option Addr) (kc : Nat) : ∀ u ∈ chc c ia ic ka kc, u.oneCell' = true := by simp [chc, Value.oneCell']
theorem dfS_new {w : World} {D : Nat} {gv ov : Value} {G O : List Chg} {rg ro : List Value} (h : DfAt w D gv ov G O rg ro) : ∀ k, w.heap.size ≤ k → dfS D gv ov k = false := by
  intro k hk
  have hD := h.hi
  rw [dfS_false]
  refine ⟨by omega, fun e => ?_, fun e => ?_⟩
  · have := (h.og.lt k e).2; omega
  · have := (h.oo.lt k e).2; omega
theorem clone_hid {w W w5 : World} {D : Nat} {gv ov : Value} {G O : List Chg} {rg ro : List Value} {b : V} {es : List Value} (h : DfAt w D gv ov G O rg ro) (hW : w.heap.size ≤ W.heap.size) (hes : VAt (veil (fun k => decide (k < W.heap.size)) w5) b es) : VAt (veil (dfS D gv ov) w5) b es :=
  hes.keeps (Keeps.less w5 fun k hk => dfS_new h k (by simp at hk; omega))
/-- What stands where a change has been put into a row of one. -/
theorem arm_facts {W w5 : World} {D : Nat} {gv ov : Value} {G O : List Chg} {rg ro : List Value} {r : ByteArray} {b : V} {ea ek : Option Addr} {ec ekc : Nat} (h : DfAt W D gv ov G O rg ro) (hr : r.size ≤ maxLen) (hb5 : Below W.heap.size W w5) (hes : VAt (veil (fun k => decide (k < W.heap.size)) w5) b (vcs b ea ec ek ekc)) :
    DfAt (w5.alloc (.cells #[.string r, .int .i64 b.kd, .bool b.bo, .int .i64 b.nu, .string b.tx, .slice ea b.its.length ec, .slice ek b.kys.length ekc, .bool false] 56)) D gv ov G O rg ro ∧
    ChIn (veil (dfS D gv ov) (w5.alloc (.cells #[.string r, .int .i64 b.kd, .bool b.bo, .int .i64 b.nu, .string b.tx, .slice ea b.its.length ec, .slice ek b.kys.length ekc, .bool false] 56))) ⟨r, b, false⟩ ea ec ek ekc ∧
    Sl 8 (w5.alloc (.cells #[.string r, .int .i64 b.kd, .bool b.bo, .int .i64 b.nu, .string b.tx, .slice ea b.its.length ec, .slice ek b.kys.length ekc, .bool false] 56)) (.slice (some ⟨w5.heap.size, 0, none⟩) 1 1) 1 (chc ⟨r, b, false⟩ ea ec ek ekc) ∧
    Below W.heap.size W (w5.alloc (.cells #[.string r, .int .i64 b.kd, .bool b.bo, .int .i64 b.nu, .string b.tx, .slice ea b.its.length ec, .slice ek b.kys.length ekc, .bool false] 56)) ∧
    w5.cell? ⟨D, 1, none⟩ = some ov ∧ D < w5.heap.size := by
  have hBa : Below w5.heap.size w5 (w5.alloc (.cells (chc ⟨r, b, false⟩ ea ec ek ekc).toArray 56)) := (Below.refl _ w5).alloc (Nat.le_refl _) _
  have h5 := h.on hb5
  exact ⟨h5.on hBa, ⟨hr, (clone_hid h (Nat.le_refl _) hes).keeps (Keeps.belows hBa)⟩, Sl.lit w5 (chc ⟨r, b, false⟩ ea ec ek ekc) 56 8 rfl, hb5.trans (hBa.mono hb5.size), cellT h5.bd rfl, h5.hi⟩
/-- What diff does. -/
def DiffOk (a b : V) (N : Nat) (r : ByteArray) (D : Nat) (gv ov : Value) (G O : List Chg) (w : World) (e : Ending) (w' : World) : Prop :=
  e = .returned (.tuple #[]) ∧ ∃ (gv' ov' : Value) (rg' ro' : List Value), DfAt w' D gv' ov' (G ++ (diffP N a b).1.map (Mh.Op.chgR r)) (O ++ (diffP N a b).2.map (Mh.Op.chgR r)) rg' ro' ∧ DfFar D gv ov gv' ov' w w'
set_option maxRecDepth 100000 in
set_option maxHeartbeats 8000000 in
theorem diff_same (N : Nat) (a b : V) (r : ByteArray) (D : Nat) (gv ov : Value) (G O : List Chg) (rg ro cs ds : List Value) (w : World) (hd : DfAt w D gv ov G O rg ro) (ha : VAt (veil (dfS D gv ov) w) a cs) (hb : VAt (veil (dfS D gv ov) w) b ds) (h0 : V.cmp a b = 0) :
    Calls Tryz.prog 16 #[.pointer (some ⟨D, 0, none⟩), .agg cs.toArray, .agg ds.toArray, .string r] w (DiffOk a b (N + 1) r D gv ov G O w) := by
  have CC := Lib.hid (fun w' (hbl : Below w.heap.size w w') => cmp_any _ a (Nat.lt_succ_self _) b cs ds w' ((ha.keeps (Keeps.bare _ _)).keep hbl) ((hb.keeps (Keeps.bare _ _)).keep hbl))
  rw [h0] at CC
  have HR : Hid (diffP (N + 1) a b = ([], [])) := by show _ = _; unfold diffP; rw [if_pos h0]
  have HD := Lib.hid hd
  obtain ⟨xa, xc, xk, xkc, rfl, _⟩ := ha.opened
  obtain ⟨ya, yc, yk, ykc, rfl, _⟩ := hb.opened
  rw [vcs_arr, vcs_arr] at CC
  rw [vcs_arr, vcs_arr]
  have HB0 : Hid (Below w.heap.size w ((w.alloc (box6 a xa xc xk xkc)).alloc (box6 b ya yc yk ykc))) := ((Below.refl w.heap.size w).alloc (Nat.le_refl _) _).alloc (by simp) _
  unfold box6 at HB0
  clear hd ha hb h0
  go_enter Tryz.func16, Tryz.ntmps16
  go_wp2_with fail
  refine (CC.out _ HB0.out).mono ?_
  rintro e w1 ⟨rfl, hb1⟩
  have HB1 : Hid (Below w.heap.size w w1) := HB0.out.trans (hb1.mono (by simp <;> omega))
  clear hb1 HB0 CC
  go_wp2_with fail

  refine bodyPost_ret (v := .tuple #[]) (by simp [results, Tryz.results16, go_sem]) rfl ⟨rfl, gv, ov, rg, ro, ?_, DfFar.of_below (Nat.le_of_lt HD.out.hi) HB1.out⟩
  rw [HR.out]
  simpa using HD.out.on HB1.out
set_option maxRecDepth 100000 in
set_option maxHeartbeats 16000000 in
theorem diff_leaf (N : Nat) (a b : V) (r : ByteArray) (D : Nat) (gv ov : Value) (G O : List Chg) (rg ro cs ds : List Value) (w : World) (hd : DfAt w D gv ov G O rg ro) (ha : VAt (veil (dfS D gv ov) w) a cs) (hb : VAt (veil (dfS D gv ov) w) b ds) (h0 : V.cmp a b ≠ 0) (h6 : ¬ (a.kd = 6 ∧ b.kd = 6))
    (hbm : b.mid) (hr : r.size ≤ maxLen) (hol : O.length ≤ 100000) :
    Calls Tryz.prog 16 #[.pointer (some ⟨D, 0, none⟩), .agg cs.toArray, .agg ds.toArray, .string r] w (DiffOk a b (N + 1) r D gv ov G O w) := by
  have CC := Lib.hid (fun w' (hbl : Below w.heap.size w w') => cmp_any _ a (Nat.lt_succ_self _) b cs ds w' ((ha.keeps (Keeps.bare _ _)).keep hbl) ((hb.keeps (Keeps.bare _ _)).keep hbl))
  have CL0 := Lib.hid (fun w' (hbl : Below w.heap.size w w') => clone_any _ b (Nat.lt_succ_self _) hbm ds w' ((hb.keeps (Keeps.bare _ _)).keep hbl))
  have HR : Hid (diffP (N + 1) a b = ([], [⟨[], some b⟩])) := by show _ = _; unfold diffP; rw [if_neg h0, if_neg h6]
  have hq0 : (V.cmp a b == 0) = false := by rw [beq_eq_false_iff_ne]; exact h0
  obtain ⟨oa, oc, rfl⟩ := ownsRow_form hd.oo
  obtain ⟨ga, gc, rfl⟩ := ownsRow_form hd.og
  have HD := Lib.hid hd
  have hDw := hd.hi
  obtain ⟨xa, xc, xk, xkc, rfl, _⟩ := ha.opened
  obtain ⟨ya, yc, yk, ykc, rfl, _⟩ := hb.opened
  obtain ⟨ci, hci, hc0, hc1, hc2⟩ := info_parts infoChange
  rw [vcs_arr, vcs_arr] at CC
  rw [vcs_arr] at CL0
  rw [vcs_arr, vcs_arr]
  have HB0 : Hid (Below w.heap.size w ((w.alloc (box6 a xa xc xk xkc)).alloc (box6 b ya yc yk ykc))) := ((Below.refl w.heap.size w).alloc (Nat.le_refl _) _).alloc (by simp) _
  have HX0 : Hid (((w.alloc (box6 a xa xc xk xkc)).alloc (box6 b ya yc yk ykc)).heap[w.heap.size]? = some (box6 a xa xc xk xkc)) := (heap_alloc_old _ _ (by simp)).trans (heap_alloc_new _ _)
  have HY0 : Hid (((w.alloc (box6 a xa xc xk xkc)).alloc (box6 b ya yc yk ykc)).heap[w.heap.size + 1]? = some (box6 b ya yc yk ykc)) := heap_new_at (by simp)
  unfold box6 at HB0 HX0 HY0
  have HK6 := Lib.hid h6
  clear hd ha hb h0 h6 hbm
  generalize hz : V.cmp a b = z at *
  clear hz
  go_enter Tryz.func16, Tryz.ntmps16
  go_wp2_with fail
  refine (CC.out _ HB0.out).mono ?_
  rintro e w1 ⟨rfl, hb1⟩
  have HB1 : Hid (Below w.heap.size w w1) := HB0.out.trans (hb1.mono (by simp <;> omega))
  have HX1 := Lib.hid ((hb1.block _ (by simp <;> omega)).trans HX0.out)
  have HY1 := Lib.hid ((hb1.block _ (by simp <;> omega)).trans HY0.out)
  have hz1 : w.heap.size + 2 ≤ w1.heap.size := by have := hb1.size; simp at this; omega
  clear hb1 HB0 HX0 HY0 CC
  have hbx := HX1.out
  have hby := HY1.out
  obtain ⟨x0, x1, x2, x3, x4, x5⟩ := six_of_block hbx
  obtain ⟨y0, y1, y2, y3, y4, y5⟩ := six_of_block hby
  clear hbx hby
  go_upto_region 2 with fail
  go_cut [29] from 22 to 28 (fun v wx => v = .bool true ∧ wx = w1)
  case first =>
    by_cases hk : a.kd = 6
    · have hq : (a.kd != 6) = false := by rw [hk]; rfl
      have hq2 : (b.kd != 6) = true := by rw [bne_iff_ne]; exact fun e => HK6.out ⟨hk, e⟩
      clear hk
      go_wp2_with fail
      go_meet
      exact ⟨rfl, rfl⟩
    · have hq : (a.kd != 6) = true := by rw [bne_iff_ne]; exact hk
      clear hk
      go_wp2_with fail
      go_meet
      exact ⟨rfl, rfl⟩
  case rest =>
  obtain ⟨rfl, rfl⟩ := hcut
  go_upto_region 3 with fail
  have HD1 := Lib.hid (HD.out.on (HB1.out.trans ((Below.refl _ wc).drew.mono HB1.out.size)))
  have CL := Lib.hid (CL0.out wc.drew (HB1.out.trans ((Below.refl _ wc).drew.mono HB1.out.size)))
  have hbd := HD1.out.bd
  have d1 : wc.drew.cell? ⟨D, 1, none⟩ = some (.slice oa O.length oc) := cellT hbd rfl
  have hzd : w.heap.size ≤ wc.drew.heap.size := HB1.out.size
  clear hbd CL0 x0 x1 x2 x3 x4 x5 HX1
  go_cut [] from 30 to 42 (fun wx => ∃ (ov' : Value) (rg' ro' : List Value), Hid (DfAt wx D (.slice ga G.length gc) ov' G (O ++ [⟨r, b, false⟩]) rg' ro') ∧ Hid (DfFar D (.slice ga G.length gc) (.slice oa O.length oc) (.slice ga G.length gc) ov' w wx))
  case first =>
    go_region_law (first | (refine step_append_sl _ rfl _ _ 27 rfl (D + 1) 56 ci (.agg #[.string ⟨#[]⟩, .int .i64 0, .bool false, .int .i64 0, .string ⟨#[]⟩, .slice none 0 0, .slice none 0 0, .bool false]) 8 112 Tryz.underlying27 hci hc0 hc1 hc2 rfl (by decide) (.slice oa O.length oc) O.length _ rfl HDA.out.oo _ 1 _ rfl HNEW.out (chc_ones _ _ _ _ _) (by unfold maxLen; omega) (by omega) (HDA.out.hi) ?_; intro v9 w9 hown9 hgr9 hat9; have HUP := Lib.hid (HDA.out.moreUp HCI.out hown9 hgr9 hat9); obtain ⟨a9, c9, rfl⟩ := ownsRow_form hown9; have hbd := HDA.out.bd; have d1 : w9.cell? ⟨D, 1, none⟩ = some (.slice oa O.length oc) := (World.cell?_of_block (a := ⟨D, 1, none⟩) (hgr9.block D HDA.out.hi (fun e => by have := (HDA.out.oo.lt D e.symm).1; omega))).trans (cellT hbd rfl); have f1 : w9.frozen? ⟨D, 1, none⟩ = false := frozenT ((hgr9.block D HDA.out.hi (fun e => by have := (HDA.out.oo.lt D e.symm).1; omega)).trans hbd)) | (go_simp; go_at_call 21; (with_reducible refine CL.out.mono ?_); rintro e w5 ⟨es, rfl, hes, hb5⟩; obtain ⟨ea, ec, ek, ekc, rfl, _⟩ := hes.opened; rw [vcs_arr]; obtain ⟨hda, hci5, hnew, hbel, hd1, hdlt⟩ := arm_facts (r := r) HD1.out hr hb5 hes; have HDA := Lib.hid hda; have HCI := Lib.hid hci5; have HNEW := Lib.hid hnew; have HBE := Lib.hid hbel; have d1 := hd1; clear hda hci5 hnew hbel hd1 hes hb5))
    all_goals
      have HFT := Lib.hid ((DfFar.of_below (gv := .slice ga G.length gc) (ov := .slice oa O.length oc) (Nat.le_of_lt hDw) ((HB1.out.trans ((Below.refl _ wc).drew.mono HB1.out.size)).trans (HBE.out.mono hzd))).trans HUP.out.2)
      have HDT := Lib.hid HUP.out.1
      clear HUP HBE HNEW HCI HDA hown9 hgr9 hat9 d1 f1 CL HD1 hbd hdlt
      go_wp2_with fail
      go_meet
      exact ⟨_, _, _, HDT, HFT⟩
  case rest =>
    obtain ⟨ov', rg', ro', HDF, HFF⟩ := hcut
    go_wp2_with fail
    refine bodyPost_ret (v := .tuple #[]) (by simp [results, Tryz.results16, go_sem]) rfl ⟨rfl, _, ov', rg', ro', ?_, HFF.out⟩
    rw [HR.out]
    exact (by simpa using HDF.out : DfAt wc D _ ov' (G ++ [].map (Mh.Op.chgR r)) (O ++ [(⟨r, b, false⟩ : Chg)]) rg' ro')
end Go.Proofs.YtekknckdeedjnaaGreatDoor
