/- conf.set: its way through a list. Conditions: as stated. (Printed by wip/gen_set.py.) -/
import Derived.Test.YtekknckdeedjnaaGreatDoorKeD
namespace Go.Proofs.YtekknckdeedjnaaGreatDoor
open Go.RowKit Mh
set_option linter.unusedVariables false

set_option maxRecDepth 100000 in
set_option maxHeartbeats 16000000 in
theorem set_lst (S : Nat → Bool) (X Y : V) (s : St) (l : List St) (cs ds : List Value) (v : Value) (w : World) (hS : ∀ k, w.heap.size ≤ k → S k = false) (hX : VAt (veil S w) X cs) (hY : VAt (veil S w) Y ds) (hv : StAt w v (s :: l)) (hmid : X.mid) (hsz : s.key.size ≤ maxLen) (hlen : l.length ≤ 401) (h0 : s.k0 = true)
    (HIH : Hid (∀ (S : Nat → Bool) (X : V) (cs ds : List Value) (v : Value) (w : World), (∀ k, w.heap.size ≤ k → S k = false) → VAt (veil S w) X cs → VAt (veil S w) Y ds → StAt w v l → X.mid → Calls Tryz.prog 20 #[.agg cs.toArray, v, .agg ds.toArray] w (SetOk S X l Y w))) :
    Calls Tryz.prog 20 #[.agg cs.toArray, v, .agg ds.toArray] w (SetOk S X (s :: l) Y w) := by
  obtain ⟨xa, xc, xk, xkc, rfl, _⟩ := hX.opened
  obtain ⟨ya, yc, yk, ykc, rfl, _⟩ := hY.opened
  have H0 := Lib.hid (setIn_start S X Y s w xa xk ya yk xc xkc yc ykc hX hY)
  obtain ⟨la, lc, rfl, _, hcell⟩ := hv.item
  obtain ⟨lb, lo, rfl, hlc, hlm, hlt, hcells⟩ := hcell (by simp)
  have hT2 : (lc = 1 ∧ StAt w (.slice (some ⟨lb, lo, none⟩) l.length 0) l) ∨ (lc ≠ 1 ∧ StAt w (.slice (some ⟨lb, lo + 3, none⟩) l.length (lc - 1)) l) := by
    by_cases h1 : lc = 1
    · have : l = [] := by
        have h2 : l.length + 1 ≤ lc := hlc
        exact List.eq_nil_of_length_eq_zero (by omega)
      subst this
      exact .inl ⟨h1, StAt.nil _ _ _⟩
    · exact .inr ⟨h1, hv.tail⟩
  have HT2 := Lib.hid hT2
  clear hT2
  obtain ⟨c0, c1, c2⟩ := hcells 0 (by simp)
  simp only [Nat.zero_mul, Nat.add_zero, List.getElem_cons_zero] at c0 c1 c2
  have HB : Hid (Below w.heap.size w (((w.alloc (box6 X xa xc xk xkc)).alloc (box6 Y ya yc yk ykc)).alloc box0)) := (((Below.refl w.heap.size w).alloc (Nat.le_refl _) _).alloc (by simp) _).alloc (by simp <;> omega) _
  have d0 := (HB.out.cell (p := ⟨lb, lo, none⟩) hlt).trans c0
  have d1 := (HB.out.cell (p := ⟨lb, lo + 1, none⟩) hlt).trans c1
  have d2 := (HB.out.cell (p := ⟨lb, lo + 2, none⟩) hlt).trans c2
  unfold box6 box0 at d0 d1 d2
  have HMID := Lib.hid (mid_setIn hmid s)
  have HS := Lib.hid hS
  have hkd : s.kd = 5 := by unfold St.kd; rw [h0]; rfl
  have he : s.key.toList.isEmpty = true := empty_of (by simpa [St.k0] using h0)
  have HKD := Lib.hid hkd
  clear hkd
  have hll : (s :: l).length = l.length + 1 := rfl
  rw [vcs_arr, vcs_arr]
  unfold box6 box0 stb at H0
  clear hX hY hv hcell hcells hS
  go_enter Tryz.func20, Tryz.ntmps20
  go_upto_if 27 with fail
  generalize hW : World.alloc _ _ = W at H0 ⊢
  clear hW c0 c1 c2 d0 d1 d2 HB
  go_cut [] from 28 to 29 (fun wx => ∃ (xa' : Option Addr) (xc' : Nat) (xk' : Option Addr) (xkc' : Nat), Hid (SetIn S (setIn X s) Y s w xa' xc' xk' xkc' ya yc yk ykc wx))
  case first =>
    have hbx := H0.out.bx
    unfold box6 at hbx
    obtain ⟨x0, x1, x2, x3, x4, x5⟩ := six_of_block hbx
    obtain ⟨f0, f1, f2, f3, f4, f5⟩ := six_open hbx
    by_cases hk : X.kd = 0
    · have hq : (X.kd == 0) = true := by rw [hk]; rfl
      have HI := Lib.hid (H0.out.nilled hk)
      rw [HKD.out] at HI
      unfold put6 at HI
      clear hbx
      go_wp2_with fail
      go_meet
      exact ⟨none, 0, none, 0, HI⟩
    · have hq : (X.kd == 0) = false := by rw [beq_eq_false_iff_ne]; exact hk
      have HI := Lib.hid (H0.out.as hk)
      clear hbx
      go_wp2_with fail
      go_meet
      exact ⟨xa, xc, xk, xkc, HI⟩
  case rest =>
  clear H0
  obtain ⟨xa', xc', xk', xkc', HI⟩ := hcut
  have hbx := HI.out.bx
  unfold box6 at hbx
  obtain ⟨x0, x1, x2, x3, x4, x5⟩ := six_of_block hbx
  obtain ⟨p0, p1, p2⟩ : wc.cell? ⟨w.heap.size + 3, 0, none⟩ = some (.string s.key) ∧ wc.cell? ⟨w.heap.size + 3, 1, none⟩ = some (.int .i64 s.num) ∧ wc.cell? ⟨w.heap.size + 3, 2, none⟩ = some (.bool false) := ⟨cellT HI.out.bs rfl, cellT HI.out.bs rfl, cellT HI.out.bs rfl⟩
  by_cases hk : (setIn X s).kd = s.kd
  · have hq : ((setIn X s).kd != 5) = false := by rw [hk, HKD.out]; rfl
    have HK := Lib.hid hk
    clear hk
    by_cases hn : (setIn X s).its.length < s.num
    · have q1 : decide (((setIn X s).its.length : Int) < (s.num : Int)) = true := decide_eq_true (by omega)
      have q2 : decide ((setIn X s).its.length < s.num) = true := decide_eq_true hn
      have HQ : Hid (setV X (s :: l) Y = none) := setV_far h0 hn
      have hb0 := HI.out.b0
      unfold box0 at hb0
      obtain ⟨g0, g1, g2, g3, g4, g5⟩ := six_open hb0
      obtain ⟨t0, t1, t2, t3, t4, t5⟩ := six_of_block hb0
      have HPT := Lib.hid (put6_at (a := .int .i64 0) (b := .bool false) (c := .int .i64 0) (d := .string ⟨#[]⟩) (e := .slice none 0 0) (f := .slice none 0 0) rfl hb0)
      have HBL := Lib.hid HI.out.zero
      unfold put6 at HPT HBL
      clear hb0 hbx hn
      go_wp2_with fail
      generalize hwf : World.setCell _ _ _ = wf at HPT HBL ⊢
      clear hwf g0 g1 g2 g3 g4 g5 t0 t1 t2 t3 t4 t5 x0 x1 x2 x3 x4 x5
      obtain ⟨s0, s1, s2, s3, s4, s5⟩ := six_of_block HPT.out
      refine bodyPost_ret (v := .tuple #[.agg zv.toArray, .int .i64 2]) (by simp [results, Tryz.results20, go_sem, zv, s0, s1, s2, s3, s4, s5] <;> rfl) rfl ⟨_, 2, rfl, HBL.out, by rw [HQ.out]; simp, by rw [HQ.out]; exact zv_at _⟩
    have q1 : decide (((setIn X s).its.length : Int) < (s.num : Int)) = false := decide_eq_false (by omega)
    have q2 : decide ((setIn X s).its.length < s.num) = false := decide_eq_false hn
    have hnn : s.num ≤ (setIn X s).its.length := by omega
    have HNN := Lib.hid hnn
    clear hn hnn
    have HC1 := Lib.hid (follow_veil (setS S w.heap.size) (setIn X s) _ s wc HI.out.x (good_facts HMID.out.1).1 (good_facts HMID.out.1).2.1 (by have := HMID.out.len; omega))
    rw [vcs_arr] at HC1
    clear hbx
    go_wp2_with fail
    refine HC1.out.mono ?_
    rintro e w2 ⟨os, rfl, hos, hb2⟩
    obtain ⟨oa, oc, ok, okc, rfl, _⟩ := hos.opened
    have HI2 := Lib.hid (HI.out.on hb2)
    have HMO := Lib.hid (mid_follow_or HMID.out s)
    have HV := Lib.hid (@setV_deep X s l Y)
    have HVS := Lib.hid (fun Z => @setV_lst X s l Y Z HK.out h0 HNN.out)
    rw [vcs_arr]
    generalize (followV (setIn X s) s).isSome = fb
    generalize (followV (setIn X s) s).getD V.nil = OV at *
    clear HI HC1 hb2 x0 x1 x2 x3 x4 x5 p0 p1 p2
    have HBn : Hid (Below w2.heap.size w2 (w2.alloc (box6 OV oa oc ok okc))) := (Below.refl _ w2).alloc (Nat.le_refl _) _
    have HO3 := Lib.hid (hos.keeps (Keeps.belows HBn.out))
    have HI3 := Lib.hid (HI2.out.on HBn.out)
    unfold box6 at HBn HO3 HI3
    clear hos
    go_upto_region 14 with fail
    have HZ3 : Hid ((w2.alloc (.cells #[.int .i64 OV.kd, .bool OV.bo, .int .i64 OV.nu, .string OV.tx, .slice oa OV.its.length oc, .slice ok OV.kys.length okc] 25)).heap[w2.heap.size]? = some (box6 OV oa oc ok okc)) := heap_alloc_new w2 _
    have hz2 : w2.heap.size < (w2.alloc (.cells #[.int .i64 OV.kd, .bool OV.bo, .int .i64 OV.nu, .string OV.tx, .slice oa OV.its.length oc, .slice ok OV.kys.length okc] 25)).heap.size := by simp
    have hb3 : Below w.heap.size w (w2.alloc (.cells #[.int .i64 OV.kd, .bool OV.bo, .int .i64 OV.nu, .string OV.tx, .slice oa OV.its.length oc, .slice ok OV.kys.length okc] 25)) := HI3.out.below
    generalize hOB : w2.heap.size = OB at HZ3 hz2 ⊢
    generalize hW3 : World.alloc _ _ = W3 at HO3 HI3 HZ3 hz2 hb3 ⊢
    have hz3 := HI3.out.size
    have hob : w.heap.size + 4 ≤ OB := by rw [← hOB]; exact HI2.out.size
    clear hW3 hOB HBn HI2
    rcases HT2.out with ⟨h1, hT2⟩ | ⟨h1, hT2⟩
    all_goals
      have HT := Lib.hid hT2
      clear hT2 HT2
      try subst h1
      have HTW := Lib.hid (HT.out.below hb3)
      have HTZ := Lib.hid (fun w' (hb : Below W3.heap.size W3 w') => StAt.below HTW.out hb)
      have HSC : Hid (∀ w', Below W3.heap.size W3 w' → (w'.cell? ⟨OB, 0, none⟩ = some (.int .i64 OV.kd) ∧ w'.cell? ⟨OB, 1, none⟩ = some (.bool OV.bo) ∧ w'.cell? ⟨OB, 2, none⟩ = some (.int .i64 OV.nu) ∧ w'.cell? ⟨OB, 3, none⟩ = some (.string OV.tx) ∧ w'.cell? ⟨OB, 4, none⟩ = some (.slice oa OV.its.length oc) ∧ w'.cell? ⟨OB, 5, none⟩ = some (.slice ok OV.kys.length okc) ∧
          w'.cell? ⟨w.heap.size + 1, 0, none⟩ = some (.int .i64 Y.kd) ∧ w'.cell? ⟨w.heap.size + 1, 1, none⟩ = some (.bool Y.bo) ∧ w'.cell? ⟨w.heap.size + 1, 2, none⟩ = some (.int .i64 Y.nu) ∧ w'.cell? ⟨w.heap.size + 1, 3, none⟩ = some (.string Y.tx) ∧ w'.cell? ⟨w.heap.size + 1, 4, none⟩ = some (.slice ya Y.its.length yc) ∧ w'.cell? ⟨w.heap.size + 1, 5, none⟩ = some (.slice yk Y.kys.length ykc))) := by
        intro w' hb
        have h1 := (hb.block OB hz2).trans HZ3.out
        have h2 := (hb.block (w.heap.size + 1) (by omega)).trans HI3.out.by_
        unfold box6 at h1 h2
        obtain ⟨a0, a1, a2, a3, a4, a5⟩ := six_of_block h1
        obtain ⟨b0, b1, b2, b3, b4, b5⟩ := six_of_block h2
        exact ⟨a0, a1, a2, a3, a4, a5, b0, b1, b2, b3, b4, b5⟩
      have HCB := Lib.hid (HIH.out (setS S w.heap.size) OV _ _ _ W3.drew (fun k hk => by rw [setS_false]; exact ⟨HS.out k (by have : W3.heap.size ≤ k := hk; omega), by have : W3.heap.size ≤ k := hk; omega⟩) (HO3.out.keeps (Keeps.belows (Below.refl _ _).drew)) (HI3.out.y.keeps (Keeps.belows (Below.refl _ _).drew)) (HTZ.out _ (Below.refl _ _).drew) HMO.out)
      have HKA : Hid (Keeps (veil (setS S w.heap.size) W3) (veil (fun k => setS S w.heap.size k || decide (k = W3.heap.size)) (W3.alloc box0).drew)) := Keeps.veils (w' := (W3.alloc box0).drew) (Nat.le_trans (Nat.le_succ _) (Nat.le_of_eq (by show _ = (W3.alloc box0).heap.size; simp))) fun k hk hs => ⟨by simp [hs]; omega, heap_alloc_old W3 _ hk⟩
      have HCA := Lib.hid (HIH.out (fun k => setS S w.heap.size k || decide (k = W3.heap.size)) OV _ _ _ (W3.alloc box0).drew (fun k hk => by
        have h1 : W3.heap.size + 1 ≤ k := by have : (W3.alloc box0).heap.size ≤ k := hk; simpa using this
        rw [Bool.or_eq_false_iff, setS_false]
        exact ⟨⟨HS.out k (by omega), by omega⟩, decide_eq_false (by omega)⟩) (HO3.out.keeps HKA.out) (HI3.out.y.keeps HKA.out) (HTZ.out _ ((Below.refl _ _).alloc (Nat.le_refl _) _).drew) HMO.out)
      have HBA : Hid (∀ w5, Below (W3.alloc box0).drew.heap.size (W3.alloc box0).drew w5 → Below W3.heap.size W3 w5 ∧ w5.heap[W3.heap.size]? = some box0) := by
        intro w5 hb
        have h1 : Below (W3.alloc box0).heap.size (W3.alloc box0) w5 := ⟨hb.os, hb.tape, hb.output, hb.size, hb.block⟩
        exact ⟨((Below.refl _ W3).alloc (Nat.le_refl _) box0).trans (h1.mono (by simp)), (h1.block W3.heap.size (by simp)).trans (heap_alloc_new W3 box0)⟩
      rw [vcs_arr, vcs_arr] at HCA HCB
      unfold box0 at HCA HBA
      have hz31 : w.heap.size + 1 < W3.heap.size := by omega
      clear HO3 HMO HT HIH HTW HTZ HKA
      obtain ⟨a0, a1, a2, a3, a4, a5, b0, b1, b2, b3, b4, b5⟩ := HSC.out W3 (Below.refl _ _)
      have hone : (1 : Int) ≤ (l.length : Int) + 1 := by omega
      have n1 : OB ≠ W3.heap.size := by omega
      have n2 : w.heap.size + 1 ≠ W3.heap.size := by omega
      have n3 : W3.heap.size ≠ OB := by omega
      have n4 : W3.heap.size ≠ w.heap.size + 1 := by omega
      clear HSC hb3
      go_cut [12, 13] from 52 to 59 (fun s12 s13 wx => ∃ (yb : Nat) (c : Int) (ea : Option Addr) (ec : Nat) (ek : Option Addr) (ekc : Nat), s12 = .pointer (some ⟨yb, 0, none⟩) ∧ s13 = .int .i64 c ∧ Hid (SetMid S (setIn X s) Y s OV l w xa' xc' xk' xkc' ya yc yk ykc ea ec ek ekc wx yb c))
      case first =>
        go_region_law (first | (go_simp; go_at_call 20; (with_reducible refine HCB.out.mono ?_); rintro e w5 ⟨es, c, rfl, hb5, hc5, hes⟩; obtain ⟨ea, ec, ek, ekc, rfl, _⟩ := hes.opened; rw [vcs_arr]; have HC5 := Lib.hid hc5; have HB5 : Hid (Below W3.heap.size W3 w5) := ((Below.refl _ W3).drew).trans hb5; have HZ5 := Lib.hid HB5.out.size; have HE5 := Lib.hid hes; clear hb5 hc5 hes) | (go_simp; go_at_call 20; (with_reducible refine HCA.out.mono ?_); rintro e w5 ⟨es, c, rfl, hb5, hc5, hes⟩; obtain ⟨ea, ec, ek, ekc, rfl, _⟩ := hes.opened; rw [vcs_arr]; have HC5 := Lib.hid hc5; have hba := HBA.out _ hb5; have HB5 := Lib.hid hba.1; have HZ5 := Lib.hid HB5.out.size; have HE5 := Lib.hid hes; have hy5 := hba.2; obtain ⟨y0, y1, y2, y3, y4, y5⟩ := six_of_block hy5; obtain ⟨j0, j1, j2, j3, j4, j5⟩ := six_open hy5; have HY5 := Lib.hid hy5; clear hb5 hc5 hes hy5 hba))
        all_goals
          first
            | (have HM := Lib.hid (SetMid.late (l := l) (Y := Y) HI3.out HB5.out HC5.out HE5.out); unfold box6 at HM; clear HB5 HC5 HE5 HZ5; go_wp2_with fail; go_meet; exact ⟨_, _, _, _, _, _, rfl, rfl, HM⟩)
            | (have HM := Lib.hid (SetMid.early (l := l) (Y := Y) HI3.out HB5.out HC5.out HE5.out HY5.out); unfold put6 at HM; clear HB5 HC5 HE5 HZ5 HY5 y0 y1 y2 y3 y4 y5 j0 j1 j2 j3 j4 j5; go_wp2_with fail; go_meet; exact ⟨_, _, _, _, _, _, rfl, rfl, HM⟩)
      case rest =>
        clear HCA HCB HBA a0 a1 a2 a3 a4 a5 b0 b1 b2 b3 b4 b5 n1 n2 n3 n4
        obtain ⟨yb, c, ea, ec, ek, ekc, rfl, rfl, HM⟩ := hcut
        by_cases hc : c = 0
        · subst hc
          obtain ⟨Z, hZ⟩ := Option.isSome_iff_exists.1 (HM.out.code.1 rfl)
          have HQ := Lib.hid (HVS.out Z hZ)
          have hz := HM.out.z
          have hbz := HM.out.bz
          rw [hZ, Option.getD_some] at hz hbz
          have hbx := HM.out.si.bx
          unfold box6 at hbx
          obtain ⟨x0, x1, x2, x3, x4, x5⟩ := six_of_block hbx
          have p1 : wc.cell? ⟨w.heap.size + 3, 1, none⟩ = some (.int .i64 s.num) := cellT HM.out.si.bs rfl
          obtain ⟨rows, hs6, hvs⟩ := VAt.items HM.out.si.x
          obtain ⟨vi, hvi, hv0, hv1, hv2⟩ := info_parts infoValue
          have hil := HMID.out.len.1
          have HS6 := Lib.hid (hs6.keeps (Keeps.bare _ _))
          have HVV := Lib.hid hvs
          have HZZ := Lib.hid hz
          have HBZ := Lib.hid hbz
          have hones := Lib.hid (rows_one hvs)
          have hwc := HM.out.si.size
          have hyb : yb < wc.heap.size := (Array.getElem?_eq_some_iff.1 hbz).1
          generalize setIn X s = X' at *
          clear hs6 hvs hz hbz hZ hbx
          by_cases hl : s.num = X'.its.length
          · have q3 : ((s.num : Int) == (X'.its.length : Int)) = true := by rw [beq_iff_eq]; omega
            have HLL := Lib.hid hl
            clear hl
            go_wp2_with (first
              | (at_builtin; refine wpList_append_sl _ rfl _ _ 22 rfl wc.heap.size 25 vi (.agg #[.int .i64 0, .bool false, .int .i64 0, .string ⟨#[]⟩, .slice none 0 0, .slice none 0 0]) 6 88 Tryz.underlying22 hvi hv0 hv1 hv2 rfl (by decide) (.slice none 0 0) 0 [] rfl (World.ownsRow_nil _ _ _ _) (.slice xa' X'.its.length xc') _ _ rfl HS6.out hones.out (by unfold maxLen; omega) (by omega) (Nat.le_refl _) ?_; intro v7 w7 hown7 hgr7 hat7; simp only [Nat.zero_add, List.nil_append] at hown7; obtain ⟨a7, c7, rfl⟩ := ownsRow_form hown7; have HB7 : Hid (Below wc.heap.size wc w7) := (Below.refl _ wc).grown hgr7 (Nat.le_refl _) (by simp [Value.ownBlock]); have HI7 := Lib.hid (HM.out.si.on HB7.out); have p1 : w7.cell? ⟨w.heap.size + 3, 1, none⟩ = some (.int .i64 s.num) := cellT HI7.out.bs rfl; have hbz7 := (HB7.out.block yb hyb).trans HBZ.out; unfold box6 at hbz7; obtain ⟨y0, y1, y2, y3, y4, y5⟩ := six_of_block hbz7; have HOW7 := Lib.hid (hown7.alloc (.cells (vcs Z ea ec ek ekc).toArray 25)); have HNW7 := Lib.hid (Sl.lit w7 (vcs Z ea ec ek ekc) 25 6 rfl); rw [vcs_arr] at HOW7 HNW7; have HG7 := Lib.hid hgr7; have HA7 := Lib.hid hat7; clear hbz7 hown7 hgr7 hat7)
              | (at_builtin; refine wpList_append_sl _ rfl _ _ 22 rfl wc.heap.size 25 vi (.agg #[.int .i64 0, .bool false, .int .i64 0, .string ⟨#[]⟩, .slice none 0 0, .slice none 0 0]) 6 88 Tryz.underlying22 hvi hv0 hv1 hv2 rfl (by decide) (.slice a7 X'.its.length c7) X'.its.length _ rfl HOW7.out _ 1 _ rfl HNW7.out (six_ones _ _ _ _ _) (by unfold maxLen; omega) (by omega) (Nat.le_trans HB7.out.size (by simp)) ?_; intro v8 w8 hown8 hgr8 hat8; obtain ⟨a8, c8, rfl⟩ := ownsRow_form hown8; have HB8 : Hid (Below wc.heap.size wc w8) := (HB7.out.alloc HB7.out.size _).grown hgr8 (Nat.le_trans HB7.out.size (by simp)) (fun k hk => (HOW7.out.lt k hk).1); have HI8 := Lib.hid (HM.out.si.on HB8.out); have hb0 := HI8.out.b0; unfold box0 at hb0; obtain ⟨g0, g1, g2, g3, g4, g5⟩ := six_open hb0; obtain ⟨t0, t1, t2, t3, t4, t5⟩ := six_of_block hb0; have HB0 := Lib.hid hb0; clear hb0))
            have HK8 : Hid (Keeps (veil (setS S w.heap.size) wc) (veil (own1 (setS S w.heap.size) (.slice a8 (X'.its.length + 1) c8)) w8)) := (((Keeps.own0 (v := .slice none 0 0) wc rfl).trans (Keeps.grown HG7.out HA7.out)).trans (Keeps.belows ((Below.refl _ w7).alloc (Nat.le_refl _) _))).trans (Keeps.grown hgr8 hat8)
            have HAT := Lib.hid (lst_done (il := X'.its ++ [Z]) (rows := rows ++ vcs Z ea ec ek ekc) HS.out (show w.heap.size + 4 ≤ wc.heap.size from hwc) (by rw [List.length_append]; exact hown8) (VsAt.append (HVV.out.keeps HK8.out) (VsAt.one (HZZ.out.keeps HK8.out))) (.int .i64 5) (.bool false) (.int .i64 0) (.string ⟨#[]⟩) (.slice a8 (X'.its.length + 1) c8) (.slice none 0 0))
            have HPT := Lib.hid (put6_at (a := .int .i64 5) (b := .bool false) (c := .int .i64 0) (d := .string ⟨#[]⟩) (e := .slice a8 (X'.its.length + 1) c8) (f := .slice none 0 0) rfl HB0.out)
            have HBL := Lib.hid (put6_below (a := .int .i64 5) (b := .bool false) (c := .int .i64 0) (d := .string ⟨#[]⟩) (e := .slice a8 (X'.its.length + 1) c8) (f := .slice none 0 0) HI8.out.below (show w.heap.size ≤ w.heap.size + 2 by omega))
            unfold put6 at HPT HBL HAT
            generalize hwf : World.setCell _ _ _ = wf at HPT HBL HAT ⊢
            clear hwf g0 g1 g2 g3 g4 g5 t0 t1 t2 t3 t4 t5
            obtain ⟨s0, s1, s2, s3, s4, s5⟩ := six_of_block HPT.out
            refine bodyPost_ret (v := .tuple #[.agg #[.int .i64 5, .bool false, .int .i64 0, .string ⟨#[]⟩, .slice a8 (X'.its.length + 1) c8, .slice none 0 0], .int .i64 0]) (by simp [results, Tryz.results20, go_sem, s0, s1, s2, s3, s4, s5] <;> rfl) rfl ⟨[.int .i64 5, .bool false, .int .i64 0, .string ⟨#[]⟩, .slice a8 (X'.its.length + 1) c8, .slice none 0 0], 0, rfl, HBL.out, by rw [HQ.out]; simp, ?_⟩
            rw [HQ.out, if_pos HLL.out]
            exact HAT.out
          · have q3 : ((s.num : Int) == (X'.its.length : Int)) = false := by rw [beq_eq_false_iff_ne]; omega
            have hnl : s.num < X'.its.length := by have := HNN.out; omega
            have HLL := Lib.hid hl
            clear hl
            go_upto_region 23 with (at_builtin; refine wpList_append_sl _ rfl _ _ 22 rfl wc.heap.size 25 vi (.agg #[.int .i64 0, .bool false, .int .i64 0, .string ⟨#[]⟩, .slice none 0 0, .slice none 0 0]) 6 88 Tryz.underlying22 hvi hv0 hv1 hv2 rfl (by decide) (.slice none 0 0) 0 [] rfl (World.ownsRow_nil _ _ _ _) (.slice xa' X'.its.length xc') _ _ rfl HS6.out hones.out (by unfold maxLen; omega) (by omega) (Nat.le_refl _) ?_; intro v7 w7 hown7 hgr7 hat7; simp only [Nat.zero_add, List.nil_append] at hown7; obtain ⟨G, c7, rfl, hG, hGl⟩ := ownsRow_pos hown7 (show 0 < X'.its.length by omega); have HB7 : Hid (Below wc.heap.size wc w7) := (Below.refl _ wc).grown hgr7 (Nat.le_refl _) (by simp [Value.ownBlock]); have HI7 := Lib.hid (HM.out.si.on HB7.out); have p1 : w7.cell? ⟨w.heap.size + 3, 1, none⟩ = some (.int .i64 s.num) := cellT HI7.out.bs rfl; have hbz7 := (HB7.out.block yb hyb).trans HBZ.out; unfold box6 at hbz7; obtain ⟨y0, y1, y2, y3, y4, y5⟩ := six_of_block hbz7; have HOW7 := Lib.hid hown7; have hrl := hown7.1; have hm6 : s.num * 6 + 6 ≤ X'.its.length * 6 := (by omega); have k0 := (hown7.cellAt (s.num * 6) (by omega)).trans (List.getElem?_eq_getElem (by omega)); have k1 := (hown7.cellAt (s.num * 6 + 1) (by omega)).trans (List.getElem?_eq_getElem (by omega)); have k2 := (hown7.cellAt (s.num * 6 + 2) (by omega)).trans (List.getElem?_eq_getElem (by omega)); have k3 := (hown7.cellAt (s.num * 6 + 3) (by omega)).trans (List.getElem?_eq_getElem (by omega)); have k4 := (hown7.cellAt (s.num * 6 + 4) (by omega)).trans (List.getElem?_eq_getElem (by omega)); have k5 := (hown7.cellAt (s.num * 6 + 5) (by omega)).trans (List.getElem?_eq_getElem (by omega)); have l0 := hown7.frozenAt (s.num * 6); have l1 := hown7.frozenAt (s.num * 6 + 1); have l2 := hown7.frozenAt (s.num * 6 + 2); have l3 := hown7.frozenAt (s.num * 6 + 3); have l4 := hown7.frozenAt (s.num * 6 + 4); have l5 := hown7.frozenAt (s.num * 6 + 5); have HG7 := Lib.hid hgr7; have HA7 := Lib.hid hat7; clear hbz7 hown7 hgr7 hat7)
            obtain ⟨w9, hw9⟩ : ∃ w9, w9 = put6o w7 G (s.num * 6) (.int .i64 Z.kd) (.bool Z.bo) (.int .i64 Z.nu) (.string Z.tx) (.slice ea Z.its.length ec) (.slice ek Z.kys.length ekc) := ⟨_, rfl⟩
            have e9 := hw9
            unfold put6o at e9
            rw [← e9]
            have HOW9 : Hid (w9.ownsRow wc.heap.size 25 6 (.slice (some ⟨G, 0, none⟩) X'.its.length c7) X'.its.length (rows.take (s.num * 6) ++ vcs Z ea ec ek ekc ++ rows.drop (s.num * 6 + 6))) := by
              show World.ownsRow _ _ _ _ _ _ _
              rw [hw9]; exact own_put6o HOW7.out (s.num * 6) (by rw [hrl]; exact hm6) _ _ _ _ _ _
            have HB9 : Hid (Below wc.heap.size wc w9) := by show Below _ _ _; rw [hw9]; exact put6o_below HB7.out hG
            have HK9 : Hid (Keeps (veil (setS S w.heap.size) wc) (veil (own1 (setS S w.heap.size) (.slice (some ⟨G, 0, none⟩) X'.its.length c7)) w9)) := by
              refine ((Keeps.own0 (v := .slice none 0 0) wc rfl).trans (Keeps.grown HG7.out HA7.out)).trans (Keeps.veils (by rw [hw9, put6o_size]; exact Nat.le_refl _) fun k hk hs => ⟨hs, ?_⟩)
              rw [hw9]
              exact put6o_other (fun e => by have := (own1_false.1 hs).2; rw [e] at this; exact this rfl)
            clear e9 hw9 k0 k1 k2 k3 k4 k5 l0 l1 l2 l3 l4 l5 y0 y1 y2 y3 y4 y5 x0 x1 x2 x3 x4 x5
            have HI9 := Lib.hid (HM.out.si.on HB9.out)
            have HVN := Lib.hid ((VsAt.set s.num (HVV.out.keeps HK9.out) (HZZ.out.keeps HK9.out)).resolve_right (by omega))
            have hb0 := HI9.out.b0
            unfold box0 at hb0
            obtain ⟨g0, g1, g2, g3, g4, g5⟩ := six_open hb0
            obtain ⟨t0, t1, t2, t3, t4, t5⟩ := six_of_block hb0
            have HAT := Lib.hid (lst_done (il := X'.its.set s.num Z) HS.out (show w.heap.size + 4 ≤ wc.heap.size from hwc) (by rw [List.length_set]; exact HOW9.out) HVN.out (.int .i64 5) (.bool false) (.int .i64 0) (.string ⟨#[]⟩) (.slice (some ⟨G, 0, none⟩) X'.its.length c7) (.slice none 0 0))
            have HPT := Lib.hid (put6_at (a := .int .i64 5) (b := .bool false) (c := .int .i64 0) (d := .string ⟨#[]⟩) (e := .slice (some ⟨G, 0, none⟩) X'.its.length c7) (f := .slice none 0 0) rfl hb0)
            have HBL := Lib.hid (put6_below (a := .int .i64 5) (b := .bool false) (c := .int .i64 0) (d := .string ⟨#[]⟩) (e := .slice (some ⟨G, 0, none⟩) X'.its.length c7) (f := .slice none 0 0) HI9.out.below (show w.heap.size ≤ w.heap.size + 2 by omega))
            unfold put6 at HPT HBL HAT
            clear hb0
            go_wp2_with fail
            generalize hwf : World.setCell _ _ _ = wf at HPT HBL HAT ⊢
            clear hwf g0 g1 g2 g3 g4 g5 t0 t1 t2 t3 t4 t5
            obtain ⟨s0, s1, s2, s3, s4, s5⟩ := six_of_block HPT.out
            refine bodyPost_ret (v := .tuple #[.agg #[.int .i64 5, .bool false, .int .i64 0, .string ⟨#[]⟩, .slice (some ⟨G, 0, none⟩) X'.its.length c7, .slice none 0 0], .int .i64 0]) (by simp [results, Tryz.results20, go_sem, s0, s1, s2, s3, s4, s5] <;> rfl) rfl ⟨[.int .i64 5, .bool false, .int .i64 0, .string ⟨#[]⟩, .slice (some ⟨G, 0, none⟩) X'.its.length c7, .slice none 0 0], 0, rfl, HBL.out, by rw [HQ.out]; simp, ?_⟩
            rw [HQ.out, if_neg HLL.out]
            exact HAT.out
        · have hcn : (c != 0) = true := by rw [bne_iff_ne]; exact hc
          have HQ : Hid (setV X (s :: l) Y = none) := HV.out (by
            cases hz : setV OV l Y with
            | none => rfl
            | some Z => exact absurd (HM.out.code.2 (by rw [hz]; rfl)) hc)
          have HC0 := Lib.hid hc
          have hb0 := HM.out.si.b0
          unfold box0 at hb0
          obtain ⟨g0, g1, g2, g3, g4, g5⟩ := six_open hb0
          obtain ⟨t0, t1, t2, t3, t4, t5⟩ := six_of_block hb0
          have HPT := Lib.hid (put6_at (a := .int .i64 0) (b := .bool false) (c := .int .i64 0) (d := .string ⟨#[]⟩) (e := .slice none 0 0) (f := .slice none 0 0) rfl hb0)
          have HBL := Lib.hid HM.out.si.zero
          unfold put6 at HPT HBL
          clear hc hb0
          go_wp2_with fail
          generalize hwf : World.setCell _ _ _ = wf at HPT HBL ⊢
          clear hwf g0 g1 g2 g3 g4 g5 t0 t1 t2 t3 t4 t5
          obtain ⟨s0, s1, s2, s3, s4, s5⟩ := six_of_block HPT.out
          refine bodyPost_ret (v := .tuple #[.agg zv.toArray, .int .i64 c]) (by simp [results, Tryz.results20, go_sem, zv, s0, s1, s2, s3, s4, s5] <;> rfl) rfl ⟨_, c, rfl, HBL.out, by rw [HQ.out]; simp; exact HC0.out, by rw [HQ.out]; exact zv_at _⟩
  · have hq : ((setIn X s).kd != 5) = true := by rw [bne_iff_ne, ← HKD.out]; exact hk
    have HQ : Hid (setV X (s :: l) Y = none) := setV_bad hk
    clear hk hbx p0 p1 p2
    have hb0 := HI.out.b0
    unfold box0 at hb0
    obtain ⟨g0, g1, g2, g3, g4, g5⟩ := six_open hb0
    obtain ⟨t0, t1, t2, t3, t4, t5⟩ := six_of_block hb0
    have HPT := Lib.hid (put6_at (a := .int .i64 0) (b := .bool false) (c := .int .i64 0) (d := .string ⟨#[]⟩) (e := .slice none 0 0) (f := .slice none 0 0) rfl hb0)
    have HBL := Lib.hid HI.out.zero
    unfold put6 at HPT HBL
    clear hb0
    go_wp2_with fail
    generalize hwf : World.setCell _ _ _ = wf at HPT HBL ⊢
    clear hwf g0 g1 g2 g3 g4 g5 t0 t1 t2 t3 t4 t5 x0 x1 x2 x3 x4 x5
    obtain ⟨s0, s1, s2, s3, s4, s5⟩ := six_of_block HPT.out
    refine bodyPost_ret (v := .tuple #[.agg zv.toArray, .int .i64 10]) (by simp [results, Tryz.results20, go_sem, zv, s0, s1, s2, s3, s4, s5] <;> rfl) rfl ⟨_, 10, rfl, HBL.out, by rw [HQ.out]; simp, by rw [HQ.out]; exact zv_at _⟩
end Go.Proofs.YtekknckdeedjnaaGreatDoor
