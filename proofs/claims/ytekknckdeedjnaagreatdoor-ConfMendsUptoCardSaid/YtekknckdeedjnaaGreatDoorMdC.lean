/- conf.remove: a step on the way. Conditions: as stated. (Printed by wip/gen_rem.py.) -/
import Derived.Test.YtekknckdeedjnaaGreatDoorMdB
import Derived.Test.YtekknckdeedjnaaGreatDoorKeDb
namespace Go.Proofs.YtekknckdeedjnaaGreatDoor
open Go.RowKit Mh
set_option linter.unusedVariables false

/-- Behind its own call. -/
structure RemMid (S : Nat → Bool) (X y : V) (s : St) (w : World) (xa : Option Addr) (xc : Nat) (xk : Option Addr) (xkc : Nat) (W : World) (OUT : Nat) (rv kv : Value) (is : List V) (rows : List Value) (ea : Option Addr) (ec : Nat) (ek : Option Addr) (ekc : Nat) (yb : Nat) : Prop where
  rr : RemRow S X s w xa xc xk xkc W OUT rv kv is rows
  z : VAt (veil (remR S w.heap.size OUT rv) W) y (vcs y ea ec ek ekc)
  bz : W.heap[yb]? = some (box6 y ea ec ek ekc)
theorem RemMid.late {S : Nat → Bool} {X y : V} {s : St} {w W3 w5 : World} {xa xk ea ek : Option Addr} {xc xkc ec ekc OUT : Nat} {rv kv : Value} {is : List V} {rows : List Value} (h : RemRow S X s w xa xc xk xkc W3 OUT rv kv is rows) (hb : Below W3.heap.size W3 w5)
    (hz : VAt (veil (remR S w.heap.size OUT rv) w5) y (vcs y ea ec ek ekc)) : RemMid S X y s w xa xc xk xkc (w5.alloc (box6 y ea ec ek ekc)) OUT rv kv is rows ea ec ek ekc w5.heap.size :=
  ⟨h.on (hb.alloc hb.size _), hz.keeps (Keeps.belows ((Below.refl _ _).alloc (Nat.le_refl _) _)), heap_alloc_new _ _⟩
theorem RemMid.early {S : Nat → Bool} {X y : V} {s : St} {w W3 w5 : World} {xa xk ea ek : Option Addr} {xc xkc ec ekc OUT : Nat} {rv kv : Value} {is : List V} {rows : List Value} (h : RemRow S X s w xa xc xk xkc W3 OUT rv kv is rows) (hb : Below W3.heap.size W3 w5)
    (hz : VAt (veil (fun k => remR S w.heap.size OUT rv k || decide (k = W3.heap.size)) w5) y (vcs y ea ec ek ekc)) (hy : w5.heap[W3.heap.size]? = some box0) :
    RemMid S X y s w xa xc xk xkc (put6 w5 W3.heap.size (.int .i64 y.kd) (.bool y.bo) (.int .i64 y.nu) (.string y.tx) (.slice ea y.its.length ec) (.slice ek y.kys.length ekc)) OUT rv kv is rows ea ec ek ekc W3.heap.size := by
  refine ⟨h.on (put6_below hb (Nat.le_refl _)), hz.keeps (Keeps.veils (by rw [put6_size]; exact Nat.le_refl _) fun k hk hs => ?_), put6_at rfl hy⟩
  rw [Bool.or_eq_false_iff, decide_eq_false_iff_not] at hs
  exact ⟨hs.1, put6_other hs.2⟩
/-- The item is stored. -/
theorem RemRow.stored {S : Nat → Bool} {X y : V} {s : St} {w W : World} {xa xk ea ek : Option Addr} {xc xkc ec ekc OUT rb c5 L : Nat} {kv : Value} {is : List V} {rows : List Value} (h : RemRow S X s w xa xc xk xkc W OUT (.slice (some ⟨rb, 0, none⟩) is.length c5) kv is rows)
    (hz : VAt (veil (remR S w.heap.size OUT (.slice (some ⟨rb, 0, none⟩) is.length c5)) W) y (vcs y ea ec ek ekc)) (hL : L < is.length) :
    RemRow S X s w xa xc xk xkc (put6o W rb (L * 6) (.int .i64 y.kd) (.bool y.bo) (.int .i64 y.nu) (.string y.tx) (.slice ea y.its.length ec) (.slice ek y.kys.length ekc)) OUT (.slice (some ⟨rb, 0, none⟩) is.length c5) kv (is.set L y) (rows.take (L * 6) ++ vcs y ea ec ek ekc ++ rows.drop (L * 6 + 6)) := by
  have hlo := h.lo
  have hrb : OUT + 1 ≤ rb := (h.own.lt rb rfl).1
  have hrl := h.own.1
  have hK : Keeps (veil (remR S w.heap.size OUT (.slice (some ⟨rb, 0, none⟩) is.length c5)) W) (veil (remR S w.heap.size OUT (.slice (some ⟨rb, 0, none⟩) is.length c5)) (put6o W rb (L * 6) (.int .i64 y.kd) (.bool y.bo) (.int .i64 y.nu) (.string y.tx) (.slice ea y.its.length ec) (.slice ek y.kys.length ekc))) :=
    Keeps.veils (by rw [put6o_size]; exact Nat.le_refl _) fun k hk hs => ⟨hs, put6o_other (fun e => (remR_false.1 hs).2.2 (by rw [e]; rfl))⟩
  refine ⟨(put6o_other (by omega)).trans h.bx, (put6o_other (by omega)).trans h.b0, (put6o_other (by omega)).trans h.bs, h.x.keeps hK, put6o_below h.below (by omega), (put6o_other (by omega)).trans h.bout, ?_, ?_, hlo⟩
  · rw [List.length_set]
    exact own_put6o h.own (L * 6) (by omega) _ _ _ _ _ _
  · exact (VsAt.set L (h.tv.keeps hK) (hz.keeps hK)).resolve_right (by omega)
/-- The copy is whole, its keys as they were. -/
theorem RemRow.done2 {S : Nat → Bool} {X : V} {s : St} {w W : World} {xa xk : Option Addr} {xc xkc OUT : Nat} {rv : Value} {is : List V} {rows : List Value} (h : RemRow S X s w xa xc xk xkc W OUT rv (.slice xk X.kys.length xkc) is rows) (hT : tab X) (hS : ∀ k, w.heap.size ≤ k → S k = false) {a b c d e f : Value} :
    VAt (veil S (put6 W (w.heap.size + 1) a b c d e f)) (.mk 6 false 0 ⟨#[]⟩ is X.kys) [.int .i64 X.kd, .bool X.bo, .int .i64 X.nu, .string X.tx, rv, .slice xk X.kys.length xkc] := by
  refine h.done hT hS ?_
  have hz := h.lo
  refine h.x.vitems.1.keeps (Keeps.veils (by rw [put6_size]; exact Nat.le_refl _) fun k hk hs => ?_)
  rw [remR_false, remS_false] at hs
  exact ⟨hs.1.1, put6_other (by omega)⟩
set_option maxRecDepth 100000 in
set_option maxHeartbeats 16000000 in
theorem rem_deep (S : Nat → Bool) (X x y : V) (s : St) (l : List St) (cs : List Value) (v : Value) (w : World) (hS : ∀ k, w.heap.size ≤ k → S k = false) (hX : VAt (veil S w) X cs) (hv : StAt w v (s :: l)) (hT : tab X) (hn : X.nodes ≤ 4000) (h0 : s.k0 = false) (hx : followV X s = some x) (hxi : itemV X s.key = some x) (hl0 : 0 < l.length) (hl4 : l.length ≤ 401)
    (HIH : Hid (∀ (S : Nat → Bool) (cs : List Value) (v : Value) (w : World), (∀ k, w.heap.size ≤ k → S k = false) → VAt (veil S w) x cs → StAt w v l → Calls Tryz.prog 19 #[.agg cs.toArray, v] w (RemOk S y w))) :
    Calls Tryz.prog 19 #[.agg cs.toArray, v] w (RemOk S (putV X s.key y) w) := by
  obtain ⟨xa, xc, xk, xkc, rfl, _⟩ := hX.opened
  have H0 := Lib.hid (remIn_start S X s w xa xk xc xkc hX)
  obtain ⟨la, lc, rfl, _, hcell⟩ := hv.item
  obtain ⟨lb, lo, rfl, hlc, hlm, hlt, hcells⟩ := hcell (by simp)
  have hT2 : lc ≠ 1 ∧ StAt w (.slice (some ⟨lb, lo + 3, none⟩) l.length (lc - 1)) l := by
    have h1 : l.length + 1 ≤ lc := hlc
    exact ⟨by omega, hv.tail⟩
  obtain ⟨hlc1, hT3⟩ := hT2
  have HT2 := Lib.hid hT3
  clear hT3
  obtain ⟨c0, c1, c2⟩ := hcells 0 (by simp)
  simp only [Nat.zero_mul, Nat.add_zero, List.getElem_cons_zero] at c0 c1 c2
  have HB : Hid (Below w.heap.size w ((w.alloc (box6 X xa xc xk xkc)).alloc box0)) := ((Below.refl w.heap.size w).alloc (Nat.le_refl _) _).alloc (by simp) _
  have d0 := (HB.out.cell (p := ⟨lb, lo, none⟩) hlt).trans c0
  have d1 := (HB.out.cell (p := ⟨lb, lo + 1, none⟩) hlt).trans c1
  have d2 := (HB.out.cell (p := ⟨lb, lo + 2, none⟩) hlt).trans c2
  unfold box6 box0 at d0 d1 d2
  have hmid : X.mid := ⟨hT.1, hn⟩
  have HMID := Lib.hid hmid
  have HS := Lib.hid hS
  have HT := Lib.hid hT
  have he : s.key.toList.isEmpty = false := empty_not (t := s.key) (by intro h; rw [St.k0, h] at h0; cases h0)
  obtain ⟨hlo, hat⟩ := low_mem hT (item_mem hT.asc hxi).1
  have HAT := Lib.hid hat
  have HHIT : Hid (hit s.key X.kys = true) := by show _ = _; unfold hit; rw [List.getElem?_eq_getElem hlo, hat]; exact decide_eq_true rfl
  have HXF := Lib.hid hx
  have HXI := Lib.hid hxi
  have HLEN := Lib.hid hT.len
  have hml := hmid.len
  obtain ⟨vi, hvi, hv0, hv1, hv2⟩ := info_parts infoValue
  obtain ⟨si, hsi, hs0, hs1, hs2⟩ := info_parts infoStr
  rw [vcs_arr]
  unfold box6 box0 rstb at H0
  clear hX hv hcell hcells hS hT hmid hx hxi h0 hat
  have hq1 : decide ((1 : Int) < (l.length : Int) + 1) = true := decide_eq_true (by omega)
  go_enter Tryz.func19, Tryz.ntmps19
  go_wp2_with fail
  generalize hW : World.alloc _ _ = W at H0 ⊢
  clear hW c0 c1 c2 d0 d1 d2 HB
  have HC1 := Lib.hid (follow_veil (remS S w.heap.size) X _ s W H0.out.x HT.out.asc (fun _ => HLEN.out) (by omega))
  rw [vcs_arr, HXF.out] at HC1
  refine HC1.out.mono ?_
  rintro e w2 ⟨os, rfl, hos, hb2⟩
  simp only [Option.isSome_some, Option.getD_some] at hos ⊢
  obtain ⟨oa, oc, ok, okc, rfl, _⟩ := hos.opened
  rw [vcs_arr]
  have HO3 := Lib.hid (hos.keeps (Keeps.belows ((Below.refl _ w2).alloc (Nat.le_refl _) (box6 x oa oc ok okc))))
  have HZ3 : Hid ((w2.alloc (box6 x oa oc ok okc)).heap[w2.heap.size]? = some (box6 x oa oc ok okc)) := heap_alloc_new _ _
  have hob : w.heap.size + 3 ≤ w2.heap.size := (H0.out.on hb2).size
  have HI3 := Lib.hid ((H0.out.on hb2).on ((Below.refl _ w2).alloc (Nat.le_refl _) (box6 x oa oc ok okc)))
  have hbx := HI3.out.bx
  have hbs := HI3.out.bs
  have HF := Lib.hid (find_any X (vcs X xa xc xk xkc) s.key _ (HI3.out.x.keeps (Keeps.bare _ _)) HT.out.asc (by omega))
  rw [HHIT.out] at HF
  rw [vcs_arr] at HF
  unfold box6 at hbx hbs HI3 HF HO3 HZ3
  unfold rstb at hbs
  obtain ⟨x0, x1, x2, x3, x4, x5⟩ := six_of_block hbx
  obtain ⟨p0, p1, p2⟩ := three_of_block hbs
  clear hos hb2 hbx hbs H0 HC1
  go_wp2_with fail
  refine HF.out.mono ?_
  rintro e w4 ⟨rfl, hb4⟩
  have HI4 := Lib.hid (HI3.out.on hb4)
  have HO4 := Lib.hid (HO3.out.keeps (Keeps.belows hb4))
  have hob4 : w2.heap.size < w4.heap.size := by have := hb4.size; simp at this; omega
  have HZ4 := Lib.hid ((hb4.block w2.heap.size (by simp)).trans HZ3.out)
  have hz4 : w.heap.size + 3 ≤ w4.heap.size := HI4.out.size
  have hz4' : w.heap.size < w4.heap.size := by omega
  clear hb4 HI3 HF x0 x1 x2 x3 x4 x5 p0 p1 p2
  obtain ⟨hss, rows, hsl, hvs⟩ := HI4.out.x.vitems
  have HVS := Lib.hid hvs
  have HSS := Lib.hid hss
  have hB5 : Below w4.heap.size w4 (w4.alloc (box6 X xa xc xk xkc)) := (Below.refl _ w4).alloc (Nat.le_refl _) _
  have HSL := Lib.hid ((hsl.keeps (Keeps.bare _ _)).below hB5)
  have hbx := HI4.out.bx
  unfold box6 at hbx HSL
  obtain ⟨x0, x1, x2, x3, x4, x5⟩ := six_of_block hbx
  clear hss hsl hvs hbx hB5
  go_wp2_with (at_builtin; refine wpList_append_sl _ rfl _ _ 22 rfl (w4.heap.size + 1) 25 vi (.agg #[.int .i64 0, .bool false, .int .i64 0, .string ⟨#[]⟩, .slice none 0 0, .slice none 0 0]) 6 88 Tryz.underlying22 hvi hv0 hv1 hv2 rfl (by decide) (.slice none 0 0) 0 [] rfl (World.ownsRow_nil _ _ _ _) _ _ _ rfl HSL.out (vrows_one HVS.out) (by unfold maxLen; omega) (by omega) (by simp) ?_; intro v5 w5 hown5 hgr5 hat5; obtain ⟨a5, c5, rfl⟩ := ownsRow_form hown5; have hbo : w5.heap[w4.heap.size]? = some (box6 X xa xc xk xkc) := ((hgr5.block w4.heap.size (by simp) (by simp [Value.ownBlock])).trans (heap_alloc_new _ _)); unfold box6 at hbo; obtain ⟨o0, o1, o2, o3, o4, o5⟩ := six_of_block hbo; obtain ⟨f0, f1, f2, f3, f4, f5⟩ := six_open hbo)
  have HKR := Lib.hid (rem_keeps HI4.out (by simpa using hown5) (by unfold box6; simpa [Value.ownBlock] using hgr5))
  have HOR := Lib.hid (HO4.out.keeps HKR.out.1)
  have HZR := Lib.hid ((HKR.out.2.1 w2.heap.size hob4).trans HZ4.out)
  have HTR := Lib.hid (HT2.out.below (HI4.out.below.trans (HKR.out.2.2.mono HI4.out.below.size)))
  have HR := Lib.hid (RemRow.made HI4.out HVS.out (by simpa using hown5) (by unfold box6; simpa [Value.ownBlock] using hgr5))
  generalize hOUT : w4.heap.size = OUT at HR HOR HZR HTR hob4 ⊢
  generalize hOB : w2.heap.size = OB at HZR hob hob4 ⊢
  generalize hW6 : World.setCell _ _ _ = W6 at HR HOR HZR HTR ⊢
  clear HKR HO3 HZ3 HO4 HZ4 HT2 hOB
  clear hW6 hown5 hgr5 hat5 hbo o0 o1 o2 o3 o4 o5 f0 f1 f2 f3 f4 f5 HSL HI4 hz4 hz4' hOUT x0 x1 x2 x3 x4 x5 HSS
  generalize hL : low s.key X.kys = L at *
  have HLW := Lib.hid hL
  clear hL
  have hLn : L < X.its.length := by have := HLEN.out; omega
  obtain ⟨rb, c5', hrb', hrbo, _⟩ := ownsRow_pos HR.out.own (by omega)
  simp only [Value.slice.injEq, true_and] at hrb'
  obtain ⟨rfl, rfl⟩ := hrb'
  have hz6 := HR.out.hi
  have hlo3 := HR.out.lo
  have HTZ := Lib.hid (fun w' (hb : Below W6.heap.size W6 w') => StAt.below HTR.out hb)
  have HSF : Hid (∀ k, W6.heap.size ≤ k → remR S w.heap.size OUT (.slice (some ⟨rb, 0, none⟩) X.its.length c5) k = false) := fun k hk => by
    rw [remR_false, remS_false]
    have hrl := (HR.out.own.lt rb rfl).2
    exact ⟨⟨HS.out k (by omega), by omega⟩, by omega, by simp [Value.ownBlock]; omega⟩
  have HSC : Hid (∀ w', Below W6.heap.size W6 w' → w'.heap[OB]? = some (box6 x oa oc ok okc)) := fun w' hb => (hb.block OB (by omega)).trans HZR.out
  have HCB := Lib.hid (HIH.out (remR S w.heap.size OUT (.slice (some ⟨rb, 0, none⟩) X.its.length c5)) _ _ W6.drew (fun k hk => HSF.out k hk) (HOR.out.keeps (Keeps.belows (Below.refl _ _).drew)) (HTZ.out _ (Below.refl _ _).drew))
  have HKA : Hid (Keeps (veil (remR S w.heap.size OUT (.slice (some ⟨rb, 0, none⟩) X.its.length c5)) W6) (veil (fun k => remR S w.heap.size OUT (.slice (some ⟨rb, 0, none⟩) X.its.length c5) k || decide (k = W6.heap.size)) (W6.alloc box0).drew)) :=
    Keeps.veils (w' := (W6.alloc box0).drew) (Nat.le_trans (Nat.le_succ _) (Nat.le_of_eq (by show _ = (W6.alloc box0).heap.size; simp))) fun k hk hs => ⟨by simp [hs]; omega, heap_alloc_old W6 _ hk⟩
  have HCA := Lib.hid (HIH.out (fun k => remR S w.heap.size OUT (.slice (some ⟨rb, 0, none⟩) X.its.length c5) k || decide (k = W6.heap.size)) _ _ (W6.alloc box0).drew (fun k hk => by
    have h1 : W6.heap.size + 1 ≤ k := by have : (W6.alloc box0).heap.size ≤ k := hk; simpa using this
    rw [Bool.or_eq_false_iff]
    exact ⟨HSF.out k (by omega), decide_eq_false (by omega)⟩) (HOR.out.keeps HKA.out) (HTZ.out _ ((Below.refl _ _).alloc (Nat.le_refl _) _).drew))
  have HBA : Hid (∀ w5, Below (W6.alloc box0).drew.heap.size (W6.alloc box0).drew w5 → Below W6.heap.size W6 w5 ∧ w5.heap[W6.heap.size]? = some box0) := by
    intro w5 hb
    have h1 : Below (W6.alloc box0).heap.size (W6.alloc box0) w5 := ⟨hb.os, hb.tape, hb.output, hb.size, hb.block⟩
    exact ⟨((Below.refl _ W6).alloc (Nat.le_refl _) box0).trans (h1.mono (by simp)), (h1.block W6.heap.size (by simp)).trans (heap_alloc_new W6 box0)⟩
  rw [vcs_arr] at HCA HCB
  unfold box0 at HCA HBA
  have hox := HSC.out W6 (Below.refl _ _)
  unfold box6 at hox
  obtain ⟨a0, a1, a2, a3, a4, a5⟩ := six_of_block hox
  have hone : (1 : Int) ≤ (l.length : Int) + 1 := by omega
  have n1 : OB ≠ W6.heap.size := by omega
  have n3 : W6.heap.size ≠ OB := by omega
  have hobl : OB < W6.heap.size := by omega
  clear hox HSC HKA HTZ HSF HIH HOR HZR HTR
  go_cut [11, 12] from 45 to 51 (fun s11 s12 wx => ∃ (yb : Nat) (ea : Option Addr) (ec : Nat) (ek : Option Addr) (ekc : Nat), s11 = .pointer (some ⟨yb, 0, none⟩) ∧ s12 = .int .i64 0 ∧ Hid (RemMid S X y s w xa xc xk xkc wx OUT (.slice (some ⟨rb, 0, none⟩) X.its.length c5) (.slice xk X.kys.length xkc) X.its rows ea ec ek ekc yb))
  case first =>
    go_region_law (first | (go_simp; go_at_call 19; (with_reducible refine HCB.out.mono ?_); rintro e w5 ⟨es, rfl, hb5, hes⟩; obtain ⟨ea, ec, ek, ekc, rfl, _⟩ := hes.opened; rw [vcs_arr]; have HB5 : Hid (Below W6.heap.size W6 w5) := ((Below.refl _ W6).drew).trans hb5; have HZ5 := Lib.hid HB5.out.size; have HE5 := Lib.hid hes; clear hb5 hes) | (go_simp; go_at_call 19; (with_reducible refine HCA.out.mono ?_); rintro e w5 ⟨es, rfl, hb5, hes⟩; obtain ⟨ea, ec, ek, ekc, rfl, _⟩ := hes.opened; rw [vcs_arr]; have hba := HBA.out _ hb5; have HB5 := Lib.hid hba.1; have HZ5 := Lib.hid HB5.out.size; have HE5 := Lib.hid hes; have hy5 := hba.2; obtain ⟨y0, y1, y2, y3, y4, y5⟩ := six_of_block hy5; obtain ⟨j0, j1, j2, j3, j4, j5⟩ := six_open hy5; have HY5 := Lib.hid hy5; clear hb5 hes hy5 hba))
    all_goals
      first
        | (have HM := Lib.hid (RemMid.late HR.out HB5.out HE5.out); unfold box6 at HM; clear HB5 HE5 HZ5; go_wp2_with fail; go_meet; exact ⟨_, _, _, _, _, rfl, rfl, HM⟩)
        | (have HM := Lib.hid (RemMid.early HR.out HB5.out HE5.out HY5.out); unfold put6 at HM; clear HB5 HE5 HZ5 HY5 y0 y1 y2 y3 y4 y5 j0 j1 j2 j3 j4 j5; go_wp2_with fail; go_meet; exact ⟨_, _, _, _, _, rfl, rfl, HM⟩)
  case rest =>
  clear HCA HCB HBA a0 a1 a2 a3 a4 a5 n1 n3 HR hobl hob hob4
  obtain ⟨yb, ea, ec, ek, ekc, rfl, rfl, HM⟩ := hcut
  have hbo := HM.out.rr.bout
  have hbz := HM.out.bz
  unfold box6 at hbz
  obtain ⟨o0, o1, o2, o3, o4, o5⟩ := six_of_block hbo
  obtain ⟨y0, y1, y2, y3, y4, y5⟩ := six_of_block hbz
  have hown := HM.out.rr.own
  have hrl := hown.1
  have hm6 : L * 6 + 6 ≤ X.its.length * 6 := by omega
  have k0 := (hown.cellAt (L * 6) (by omega)).trans (List.getElem?_eq_getElem (by omega))
  have k1 := (hown.cellAt (L * 6 + 1) (by omega)).trans (List.getElem?_eq_getElem (by omega))
  have k2 := (hown.cellAt (L * 6 + 2) (by omega)).trans (List.getElem?_eq_getElem (by omega))
  have k3 := (hown.cellAt (L * 6 + 3) (by omega)).trans (List.getElem?_eq_getElem (by omega))
  have k4 := (hown.cellAt (L * 6 + 4) (by omega)).trans (List.getElem?_eq_getElem (by omega))
  have k5 := (hown.cellAt (L * 6 + 5) (by omega)).trans (List.getElem?_eq_getElem (by omega))
  have l0 := hown.frozenAt (L * 6)
  have l1 := hown.frozenAt (L * 6 + 1)
  have l2 := hown.frozenAt (L * 6 + 2)
  have l3 := hown.frozenAt (L * 6 + 3)
  have l4 := hown.frozenAt (L * 6 + 4)
  have l5 := hown.frozenAt (L * 6 + 5)
  have HRL := Lib.hid hrl
  clear hbo hbz hown
  go_upto_region 15 with fail
  obtain ⟨w9, hw9⟩ : ∃ w9, w9 = put6o wc rb (L * 6) (.int .i64 y.kd) (.bool y.bo) (.int .i64 y.nu) (.string y.tx) (.slice ea y.its.length ec) (.slice ek y.kys.length ekc) := ⟨_, rfl⟩
  have e9 := hw9
  unfold put6o at e9
  rw [← e9]
  have HR9 : Hid (RemRow S X s w xa xc xk xkc w9 OUT (.slice (some ⟨rb, 0, none⟩) X.its.length c5) (.slice xk X.kys.length xkc) (X.its.set L y) (rows.take (L * 6) ++ vcs y ea ec ek ekc ++ rows.drop (L * 6 + 6))) := by
    show RemRow _ _ _ _ _ _ _ _ _ _ _ _ _ _
    rw [hw9]; exact HM.out.rr.stored HM.out.z hLn
  clear e9 hw9 k0 k1 k2 k3 k4 k5 l0 l1 l2 l3 l4 l5 y0 y1 y2 y3 y4 y5 o0 o1 o2 o3 o4 o5 HM
  have hbo := HR9.out.bout
  have hb0 := HR9.out.b0
  unfold box0 at hb0
  obtain ⟨o0, o1, o2, o3, o4, o5⟩ := six_of_block hbo
  obtain ⟨g0, g1, g2, g3, g4, g5⟩ := six_open hb0
  obtain ⟨t0, t1, t2, t3, t4, t5⟩ := six_of_block hb0
  have HPT := Lib.hid (put6_at (a := .int .i64 X.kd) (b := .bool X.bo) (c := .int .i64 X.nu) (d := .string X.tx) (e := .slice (some ⟨rb, 0, none⟩) X.its.length c5) (f := .slice xk X.kys.length xkc) rfl hb0)
  have HBL := Lib.hid (put6_below (a := .int .i64 X.kd) (b := .bool X.bo) (c := .int .i64 X.nu) (d := .string X.tx) (e := .slice (some ⟨rb, 0, none⟩) X.its.length c5) (f := .slice xk X.kys.length xkc) HR9.out.below (show w.heap.size ≤ w.heap.size + 1 by omega))
  have HAT2 : Hid (VAt (veil S (put6 w9 (w.heap.size + 1) (.int .i64 X.kd) (.bool X.bo) (.int .i64 X.nu) (.string X.tx) (.slice (some ⟨rb, 0, none⟩) X.its.length c5) (.slice xk X.kys.length xkc))) (putV X s.key y) [.int .i64 X.kd, .bool X.bo, .int .i64 X.nu, .string X.tx, .slice (some ⟨rb, 0, none⟩) X.its.length c5, .slice xk X.kys.length xkc]) := by
    show VAt _ _ _
    rw [put_hit HT.out (item_mem HT.out.asc HXI.out).1, HLW.out]
    exact HR9.out.done2 HT.out HS.out
  unfold put6 at HPT HBL HAT2
  clear hbo hb0 HR9
  go_wp2_with fail
  generalize hwf : World.setCell _ _ _ = wf at HPT HBL HAT2 ⊢
  clear hwf g0 g1 g2 g3 g4 g5 t0 t1 t2 t3 t4 t5 o0 o1 o2 o3 o4 o5
  obtain ⟨s0, s1, s2, s3, s4, s5⟩ := six_of_block HPT.out
  refine bodyPost_ret (v := .tuple #[.agg ([.int .i64 X.kd, .bool X.bo, .int .i64 X.nu, .string X.tx, .slice (some ⟨rb, 0, none⟩) X.its.length c5, .slice xk X.kys.length xkc] : List Value).toArray, .int .i64 0]) (by simp [results, Tryz.results19, go_sem, s0, s1, s2, s3, s4, s5] <;> rfl) rfl ⟨_, rfl, HBL.out, HAT2.out⟩
end Go.Proofs.YtekknckdeedjnaaGreatDoor
