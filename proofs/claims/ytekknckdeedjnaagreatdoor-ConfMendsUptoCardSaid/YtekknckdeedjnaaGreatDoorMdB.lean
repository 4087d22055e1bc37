/- conf.remove: the last step. Conditions: as stated. -/
import Derived.Test.YtekknckdeedjnaaGreatDoorMdA
import Derived.Test.YtekknckdeedjnaaGreatDoorKeM
import Derived.Deep.CutRange
import Derived.Deep.RegionHeld3
namespace Go.Proofs.YtekknckdeedjnaaGreatDoor
open Go.RowKit Mh
set_option linter.unusedVariables false

set_option maxRecDepth 100000 in
set_option maxHeartbeats 16000000 in
theorem rem_leaf (S : Nat → Bool) (X x : V) (s : St) (cs : List Value) (v : Value) (w : World) (hS : ∀ k, w.heap.size ≤ k → S k = false) (hX : VAt (veil S w) X cs) (hv : StAt w v [s]) (hT : tab X) (hn : X.nodes ≤ 4000) (h0 : s.k0 = false) (hx : followV X s = some x) (hxi : itemV X s.key = some x) :
    Calls Tryz.prog 19 #[.agg cs.toArray, v] w (RemOk S (remV X s.key) w) := by
  obtain ⟨xa, xc, xk, xkc, rfl, _⟩ := hX.opened
  have H0 := Lib.hid (remIn_start S X s w xa xk xc xkc hX)
  obtain ⟨la, lc, rfl, _, hcell⟩ := hv.item
  obtain ⟨lb, lo, rfl, hlc, hlm, hlt, hcells⟩ := hcell (by simp)
  obtain ⟨c0, c1, c2⟩ := hcells 0 (by simp)
  simp only [Nat.zero_mul, Nat.add_zero, List.getElem_cons_zero] at c0 c1 c2
  have HB : Hid (Below w.heap.size w ((w.alloc (box6 X xa xc xk xkc)).alloc box0)) := ((Below.refl w.heap.size w).alloc (Nat.le_refl _) _).alloc (by simp) _
  have d0 := (HB.out.cell (p := ⟨lb, lo, none⟩) hlt).trans c0
  have d1 := (HB.out.cell (p := ⟨lb, lo + 1, none⟩) hlt).trans c1
  have d2 := (HB.out.cell (p := ⟨lb, lo + 2, none⟩) hlt).trans c2
  unfold box6 box0 at d0 d1 d2
  have hmid : X.mid := ⟨hT.1, hn⟩
  have HMID := Lib.hid hmid
  have HS := Lib.hid hS
  have HT := Lib.hid hT
  have he : s.key.toList.isEmpty = false := empty_not (t := s.key) (by intro h; rw [St.k0, h] at h0; cases h0)
  obtain ⟨hlo, hat⟩ := low_mem hT (item_mem hT.asc hxi).1
  have HAT := Lib.hid hat
  have HHIT : Hid (hit s.key X.kys = true) := by show _ = _; unfold hit; rw [List.getElem?_eq_getElem hlo, hat]; exact decide_eq_true rfl
  have HXF := Lib.hid hx
  have HLEN := Lib.hid hT.len
  have hml := hmid.len
  obtain ⟨vi, hvi, hv0, hv1, hv2⟩ := info_parts infoValue
  obtain ⟨si, hsi, hs0, hs1, hs2⟩ := info_parts infoStr
  rw [vcs_arr]
  unfold box6 box0 rstb at H0
  clear hX hv hcell hcells hS hT hmid hx hxi h0 hat
  go_enter Tryz.func19, Tryz.ntmps19
  go_wp2_with fail
  generalize hW : World.alloc _ _ = W at H0 ⊢
  clear hW c0 c1 c2 d0 d1 d2 HB
  have HC1 := Lib.hid (follow_veil (remS S w.heap.size) X _ s W H0.out.x HT.out.asc (fun _ => HLEN.out) (by omega))
  rw [vcs_arr, HXF.out] at HC1
  refine HC1.out.mono ?_
  rintro e w2 ⟨os, rfl, hos, hb2⟩
  simp only [Option.isSome_some, Option.getD_some] at hos ⊢
  obtain ⟨oa, oc, ok, okc, rfl, _⟩ := hos.opened
  rw [vcs_arr]
  have HI3 := Lib.hid ((H0.out.on hb2).on ((Below.refl _ w2).alloc (Nat.le_refl _) (box6 x oa oc ok okc)))
  have hbx := HI3.out.bx
  have hbs := HI3.out.bs
  have HF := Lib.hid (find_any X (vcs X xa xc xk xkc) s.key _ (HI3.out.x.keeps (Keeps.bare _ _)) HT.out.asc (by omega))
  rw [HHIT.out] at HF
  rw [vcs_arr] at HF
  unfold box6 at hbx hbs HI3 HF
  unfold rstb at hbs
  obtain ⟨x0, x1, x2, x3, x4, x5⟩ := six_of_block hbx
  obtain ⟨p0, p1, p2⟩ := three_of_block hbs
  clear hos hb2 hbx hbs H0 HC1
  go_wp2_with fail
  refine HF.out.mono ?_
  rintro e w4 ⟨rfl, hb4⟩
  have HI4 := Lib.hid (HI3.out.on hb4)
  have hz4 : w.heap.size + 3 ≤ w4.heap.size := HI4.out.size
  have hz4' : w.heap.size < w4.heap.size := by omega
  clear hb4 HI3 HF x0 x1 x2 x3 x4 x5 p0 p1 p2
  obtain ⟨hss, rows, hsl, hvs⟩ := HI4.out.x.vitems
  have HVS := Lib.hid hvs
  have HSS := Lib.hid hss
  have hB5 : Below w4.heap.size w4 (w4.alloc (box6 X xa xc xk xkc)) := (Below.refl _ w4).alloc (Nat.le_refl _) _
  have HSL := Lib.hid ((hsl.keeps (Keeps.bare _ _)).below hB5)
  have hbx := HI4.out.bx
  unfold box6 at hbx HSL
  obtain ⟨x0, x1, x2, x3, x4, x5⟩ := six_of_block hbx
  clear hss hsl hvs hbx hB5
  go_wp2_with (at_builtin; refine wpList_append_sl _ rfl _ _ 22 rfl (w4.heap.size + 1) 25 vi (.agg #[.int .i64 0, .bool false, .int .i64 0, .string ⟨#[]⟩, .slice none 0 0, .slice none 0 0]) 6 88 Tryz.underlying22 hvi hv0 hv1 hv2 rfl (by decide) (.slice none 0 0) 0 [] rfl (World.ownsRow_nil _ _ _ _) _ _ _ rfl HSL.out (vrows_one HVS.out) (by unfold maxLen; omega) (by omega) (by simp) ?_; intro v5 w5 hown5 hgr5 hat5; obtain ⟨a5, c5, rfl⟩ := ownsRow_form hown5; have hbo : w5.heap[w4.heap.size]? = some (box6 X xa xc xk xkc) := ((hgr5.block w4.heap.size (by simp) (by simp [Value.ownBlock])).trans (heap_alloc_new _ _)); unfold box6 at hbo; obtain ⟨o0, o1, o2, o3, o4, o5⟩ := six_of_block hbo; obtain ⟨f0, f1, f2, f3, f4, f5⟩ := six_open hbo)
  have HR := Lib.hid (RemRow.made HI4.out HVS.out (by simpa using hown5) (by unfold box6; simpa [Value.ownBlock] using hgr5))
  generalize hOUT : w4.heap.size = OUT at HR ⊢
  generalize hW6 : World.setCell _ _ _ = W6 at HR ⊢
  clear hW6 hown5 hgr5 hat5 hbo o0 o1 o2 o3 o4 o5 f0 f1 f2 f3 f4 f5 HSL HI4 hz4 hz4' hOUT x0 x1 x2 x3 x4 x5 HSS
  generalize hL : low s.key X.kys = L at *
  have HLW := Lib.hid hL
  clear hL
  have hLn : L < X.its.length := by have := HLEN.out; omega
  have hc5 : X.its.length ≤ c5 := by
    rcases HR.out.own.2 with ⟨_, h0⟩ | ⟨g, cap, cur, he', hb, hg, hnc, hcm, hcs, htake⟩
    · omega
    · simp only [Value.slice.injEq, true_and] at he'
      obtain ⟨_, rfl⟩ := he'
      exact hnc
  obtain ⟨rb, hrb⟩ : ∃ rb, a5 = some ⟨rb, 0, none⟩ := by
    rcases HR.out.own.2 with ⟨_, h0⟩ | ⟨g, cap, cur, he', hb, hg, hnc, hcm, hcs, htake⟩
    · omega
    · simp only [Value.slice.injEq, true_and] at he'
      exact ⟨g, he'.1⟩
  subst hrb
  obtain ⟨M, hM⟩ : ∃ M, M = L + 1 := ⟨_, rfl⟩
  have e1 : IntKind.i64.wrap ((L : Int) + 1) = (M : Int) := by rw [IntWalk.i64_in _ (by omega)]; omega
  have i1 : (0 : Int) ≤ (L : Int) := by omega
  have i2 : (L : Int) ≤ (c5 : Int) := by omega
  have i3 : (M : Int) ≤ (X.its.length : Int) := by omega
  have i5 : (0 : Int) ≤ (M : Int) := by omega
  have hMn : M ≤ X.its.length := by omega
  have hM1 : 1 ≤ M := by omega
  have i4 : (X.its.length : Int) ≤ (c5 : Int) := by omega
  have HGD := Lib.hid (HR.out.on (Below.refl _ W6).drew)
  have HTK := Lib.hid (own_take HGD.out.own (Nat.le_of_lt hLn) (by omega))
  have HRS0 := Lib.hid ((Sl.of_own HGD.out.own (by decide)).rest M hMn)
  have HRS : Hid (Sl 6 W6.drew (.slice (if c5 = M then (some ⟨rb, 0, none⟩ : Option Addr) else some ⟨rb, M * 6, none⟩) (X.its.length - M) (c5 - M)) (X.its.length - M) (rows.drop (M * 6))) := by
    have h := HRS0.out
    unfold sliced at h
    rw [Option.map_some, show (⟨rb, 0, none⟩ : Addr).add (M * 6) = ⟨rb, M * 6, none⟩ by simp [Addr.add]; omega] at h
    exact h
  have HM := Lib.hid hM
  clear hM HRS0
  have hzo : OUT + 1 ≤ W6.drew.heap.size := (Array.getElem?_eq_some_iff.1 HGD.out.bout).1
  have hbo := HGD.out.bout
  have o4 : W6.drew.cell? ⟨OUT, 4, none⟩ = some (.slice (some ⟨rb, 0, none⟩) X.its.length c5) := cellT hbo rfl
  clear hbo
  have hrb : OUT ≠ rb := by have := (HGD.out.own.lt rb rfl).1; omega
  go_cut [40] from 62 to 72 (fun v40 wx => ∃ (a : Option Addr) (c : Nat), Hid (RemRow S X s w xa xc xk xkc wx OUT (.slice a (X.its.length - 1) c) (.slice xk X.kys.length xkc) (X.its.take L ++ X.its.drop (L + 1)) (rows.take (L * 6) ++ rows.drop ((L + 1) * 6))))
  case first =>
    go_region_law (refine step_append_sl _ rfl _ _ 22 rfl (OUT + 1) 25 vi (.agg #[.int .i64 0, .bool false, .int .i64 0, .string ⟨#[]⟩, .slice none 0 0, .slice none 0 0]) 6 88 Tryz.underlying22 hvi hv0 hv1 hv2 rfl (by decide) (.slice (some ⟨rb, 0, none⟩) L c5) L _ rfl HTK.out _ _ _ rfl HRS.out (fun u hu => vrows_one HVS.out u (List.mem_of_mem_drop hu)) (by unfold maxLen; omega) (by omega) hzo ?_; intro v7 w7 hown7 hgr7 hat7; obtain ⟨a7, c7, rfl⟩ := ownsRow_form hown7; have hbo := ((hgr7.block OUT (by omega) (by simp [Value.ownBlock]; omega)).trans HGD.out.bout); have o4 : w7.cell? ⟨OUT, 4, none⟩ = some (.slice (some ⟨rb, 0, none⟩) X.its.length c5) := cellT hbo rfl; have f4 : w7.frozen? ⟨OUT, 4, none⟩ = false := frozenT hbo)
    all_goals
      have HR7 := Lib.hid (RemRow.less HGD.out hLn HM.out hown7 hgr7 hat7)
      clear o4 f4 hown7 hgr7 hat7 HGD HTK HRS HR
      go_wp2_with fail
      all_goals
        go_meet
        rw [show L + (X.its.length - M) = X.its.length - 1 by have := HM.out; omega] at HR7 ⊢
        exact ⟨a7, c7, HR7⟩
  case rest =>
    clear HR HGD HTK HRS o4 hzo hrb
    obtain ⟨a7, c7, HR⟩ := hcut
    have hbx := HR.out.bx
    have hbo := HR.out.bout
    unfold box6 at hbx
    obtain ⟨x0, x1, x2, x3, x4, x5⟩ := six_of_block hbx
    have hq6 : (X.kd == 6) = true := by rw [HT.out.2]; rfl
    clear hbx hbo
    go_upto_region 18 with fail
    obtain ⟨hss, _⟩ := HR.out.x.vitems
    have hkb : ∃ kb ko, xk = some ⟨kb, ko, none⟩ ∧ X.kys.length ≤ xkc := by
      obtain ⟨_, _, he', _, hsh⟩ := Sl.shp hss.1
      simp only [Value.slice.injEq, true_and] at he'
      obtain ⟨rfl, rfl⟩ := he'
      obtain ⟨b, off, h1, h2, _⟩ := hsh (by omega)
      exact ⟨b, off, h1, h2⟩
    obtain ⟨kb, ko, hxk, hkc⟩ := hkb
    have hkL : L ≤ X.kys.length := by omega
    have hkM : M ≤ X.kys.length := by have := HLEN.out; have := HM.out; omega
    have hkx : X.kys.length - M + L ≤ X.kys.length := by have := HM.out; omega
    have j1 : (L : Int) ≤ (xkc : Int) := by omega
    have j2 : (M : Int) ≤ (X.kys.length : Int) := by omega
    have j3 : (X.kys.length : Int) ≤ (xkc : Int) := by omega
    have HSK := Lib.hid ((hss.keeps (Keeps.bare _ _)).below (Below.refl _ wc).drew)
    have HSZ := Lib.hid hss.2
    have HK1 : Hid (Sl 1 wc.drew (.slice xk L xkc) L ((X.kys.map Value.string).take L)) := by
      have h := HSK.out.1.front L hkL
      rw [Nat.mul_one] at h
      exact h
    have HK2 : Hid (∀ W, Below wc.heap.size wc.drew W → Sl 1 W (.slice (if xkc = M then xk else Option.map (fun x : Addr => x.add M) xk) (X.kys.length - M) (xkc - M)) (X.kys.length - M) ((X.kys.map Value.string).drop M)) := by
      intro W hb
      have h := (HSK.out.1.rest M hkM).below hb
      unfold sliced at h
      rw [Nat.mul_one] at h
      exact h
    have HR8 := Lib.hid (HR.out.on (Below.refl _ wc).drew)
    have hzo : OUT + 1 ≤ wc.drew.heap.size := HR8.out.hi
    have hwo : w.heap.size ≠ OUT := by have := HR8.out.lo; omega
    have hwl : w.heap.size < wc.drew.heap.size := by have := HR8.out.lo; omega
    have hx5 := HR8.out.bx
    unfold box6 at hx5
    have x5 : wc.drew.cell? ⟨w.heap.size, 5, none⟩ = some (.slice xk X.kys.length xkc) := cellT hx5 rfl
    have HX5 := Lib.hid x5
    clear hss hx5 hxk x0 x1 x2 x3 x4 HR
    have hlo3 := HR8.out.lo
    go_cut [] from 76 to 87 (fun wx => ∃ (a10 : Option Addr) (c10 : Nat), Hid (RemRow S X s w xa xc xk xkc wx OUT (.slice a7 (X.its.length - 1) c7) (.slice a10 (L + (X.kys.length - M)) c10) (X.its.take L ++ X.its.drop (L + 1)) (rows.take (L * 6) ++ rows.drop ((L + 1) * 6))) ∧ Hid (wx.ownsRow (OUT + 1) 9 1 (.slice a10 (L + (X.kys.length - M)) c10) (L + (X.kys.length - M)) ((X.kys.map Value.string).take L ++ (X.kys.map Value.string).drop M)))
    case first =>
      go_region_law (first | (refine step_append_sl _ rfl _ _ 23 rfl (OUT + 1) 9 si (.string ⟨#[]⟩) 1 16 Tryz.underlying23 hsi hs0 hs1 hs2 rfl (by decide) (.slice none 0 0) 0 [] rfl (World.ownsRow_nil _ _ _ _) (.slice xk L xkc) L _ rfl HK1.out (fun u hu => str_ones _ u (List.mem_of_mem_take hu)) (by unfold maxLen; omega) (by omega) hzo ?_; intro v9 w9 hown9 hgr9 hat9; obtain ⟨a9, c9, rfl⟩ := ownsRow_form hown9; simp only [Nat.zero_add, List.nil_append] at hown9 hat9; have HB9 : Hid (Below wc.drew.heap.size wc.drew w9) := (Below.refl _ _).grown hgr9 (Nat.le_refl _) (fun k hk => by simp [Value.ownBlock] at hk); have x5 : w9.cell? ⟨w.heap.size, 5, none⟩ = some (.slice xk X.kys.length xkc) := (HB9.out.cell (p := ⟨w.heap.size, 5, none⟩) hwl).trans x5; have hz9 : OUT + 1 ≤ w9.heap.size := Nat.le_trans hzo HB9.out.size) | (refine step_append_sl _ rfl _ _ 23 rfl (OUT + 1) 9 si (.string ⟨#[]⟩) 1 16 Tryz.underlying23 hsi hs0 hs1 hs2 rfl (by decide) _ _ _ rfl hown9 _ (X.kys.length - M) _ rfl (HK2.out _ HB9.out) (fun u hu => str_ones _ u (List.mem_of_mem_drop hu)) (by unfold maxLen; omega) (by omega) hz9 ?_; intro v10 w10 hown10 hgr10 hat10; obtain ⟨a10, c10, rfl⟩ := ownsRow_form hown10; have HB10 : Hid (Below wc.drew.heap.size wc.drew w10) := HB9.out.grown hgr10 HB9.out.size (fun k hk => own_new hat9 hk); have x5 : w10.cell? ⟨w.heap.size, 5, none⟩ = some (.slice xk X.kys.length xkc) := (HB10.out.cell (p := ⟨w.heap.size, 5, none⟩) hwl).trans HX5.out; have hbo := (HB10.out.block OUT hzo).trans HR8.out.bout; have o5 : w10.cell? ⟨OUT, 5, none⟩ = some (.slice xk X.kys.length xkc) := cellT hbo rfl; have f5 : w10.frozen? ⟨OUT, 5, none⟩ = false := frozenT hbo))
      all_goals
        have HG9 := Lib.hid ((HR8.out.on HB10.out).storeK (.slice a10 (L + (X.kys.length - M)) c10))
        have HOW := Lib.hid (own_setLow (u := Value.slice a10 (L + (X.kys.length - M)) c10) (o := 5) hown10 (show OUT < OUT + 1 by omega))
        clear hown10 hgr10 hat10 hown9 hgr9 hat9 HB9 HB10 HR8 HK1 HK2 HSK HX5 x5 o5 f5 hbo
        generalize (if xkc = M then xk else Option.map (fun x : Addr => x.add M) xk) = zz
        go_wp2_with fail
        go_meet
        exact ⟨a10, c10, HG9, HOW⟩
    case rest =>
    clear HK1 HK2 HSK HX5 x5 HR8 hwl hzo j1 j2 j3
    obtain ⟨a10, c10, HG9, HOW⟩ := hcut
    have hbo := HG9.out.bout
    have hb0 := HG9.out.b0
    unfold box0 at hb0
    obtain ⟨o0, o1, o2, o3, o4, o5⟩ := six_of_block hbo
    obtain ⟨g0, g1, g2, g3, g4, g5⟩ := six_open hb0
    obtain ⟨t0, t1, t2, t3, t4, t5⟩ := six_of_block hb0
    have HPT := Lib.hid (put6_at (a := .int .i64 X.kd) (b := .bool X.bo) (c := .int .i64 X.nu) (d := .string X.tx) (e := .slice a7 (X.its.length - 1) c7) (f := .slice a10 (L + (X.kys.length - M)) c10) rfl hb0)
    have HBL := Lib.hid (put6_below (a := .int .i64 X.kd) (b := .bool X.bo) (c := .int .i64 X.nu) (d := .string X.tx) (e := .slice a7 (X.its.length - 1) c7) (f := .slice a10 (L + (X.kys.length - M)) c10) HG9.out.below (show w.heap.size ≤ w.heap.size + 1 by omega))
    have HAT : Hid (VAt (veil S (put6 wc (w.heap.size + 1) (.int .i64 X.kd) (.bool X.bo) (.int .i64 X.nu) (.string X.tx) (.slice a7 (X.its.length - 1) c7) (.slice a10 (L + (X.kys.length - M)) c10))) (remV X s.key) [.int .i64 X.kd, .bool X.bo, .int .i64 X.nu, .string X.tx, .slice a7 (X.its.length - 1) c7, .slice a10 (L + (X.kys.length - M)) c10]) := by
      have h := HG9.out.done HT.out HS.out (rem_keys (w := w) (ks := X.kys.take L ++ X.kys.drop M) (a := .int .i64 X.kd) (b := .bool X.bo) (c := .int .i64 X.nu) (d := .string X.tx) (e' := .slice a7 (X.its.length - 1) c7) (f := .slice a10 (L + (X.kys.length - M)) c10) HOW.out (by simp; omega) (by simp [List.map_take, List.map_drop]) (fun q hq => HSZ.out q (mem_rem hq)) hlo3 HS.out)
      have e : remV X s.key = .mk 6 false 0 ⟨#[]⟩ (X.its.take L ++ X.its.drop (L + 1)) (X.kys.take L ++ X.kys.drop M) := by unfold remV; rw [HLW.out, HM.out]
      show VAt _ _ _
      rw [e]; exact h
    unfold put6 at HPT HBL HAT
    clear hbo hb0 HOW HG9
    go_wp2_with fail
    generalize hwf : World.setCell _ _ _ = wf at HPT HBL HAT ⊢
    clear hwf g0 g1 g2 g3 g4 g5 t0 t1 t2 t3 t4 t5 o0 o1 o2 o3 o4 o5
    obtain ⟨s0, s1, s2, s3, s4, s5⟩ := six_of_block HPT.out
    refine bodyPost_ret (v := .tuple #[.agg ([.int .i64 X.kd, .bool X.bo, .int .i64 X.nu, .string X.tx, .slice a7 (X.its.length - 1) c7, .slice a10 (L + (X.kys.length - M)) c10] : List Value).toArray, .int .i64 0]) (by simp [results, Tryz.results19, go_sem, s0, s1, s2, s3, s4, s5] <;> rfl) rfl ⟨_, rfl, HBL.out, HAT.out⟩
end Go.Proofs.YtekknckdeedjnaaGreatDoor
