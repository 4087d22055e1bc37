/- conf.Fill: what it returns. Conditions: at most 2^21 values in each; the cell of MaxLen. -/
import Derived.Test.YtekknckdeedjnaaGreatDoorFlC
import Derived.Test.YtekknckdeedjnaaGreatDoorFlPl
import Derived.Test.YtekknckdeedjnaaGreatDoorKeY
namespace Go.Proofs.YtekknckdeedjnaaGreatDoor
open Go.RowKit Mh
set_option linter.unusedVariables false

theorem fillOk_no {fs : List Mh.Fd} {X x : V} {c : Int} (hc : c ≠ 0) (h : ¬ (fdsOk fs ∧ X.okc ∧ foundAll fs X)) : FillOk fs X c x := ⟨fun h0 => absurd h0 hc, fun h1 h2 h3 => absurd ⟨h1, h2, h3⟩ h⟩
theorem fillOk_yes {fs : List Mh.Fd} {X x : V} (h1 : fdsOk fs) (h2 : X.okc) (h : Filled fs X fs.length x) : FillOk fs X 0 x := ⟨fun _ => ⟨h1, h2, h.ok, h.all⟩, fun _ _ h3 => ⟨rfl, h.same h3⟩⟩
def FillRes (fs : List Mh.Fd) (X : V) (w : World) (e : Ending) (w' : World) : Prop :=
  ∃ (ds : List Value) (c : Int) (x : V), e = .returned (.tuple #[.agg ds.toArray, .int .i64 c]) ∧ Below w.heap.size w w' ∧ FillOk fs X c x ∧ ((c ≠ 0 ∧ ds = zv) ∨ (c = 0 ∧ VAt w' x ds))
/-- The box of the value that is filled is hidden. -/
def boxS (w : World) (k : Nat) : Bool := decide (k = w.heap.size + 1)
structure FlIn (fs : List Mh.Fd) (X : V) (w wr : World) (j : Nat) (Y : V) (ya : Option Addr) (yc : Nat) (yk : Option Addr) (ykc : Nat) : Prop where
  fil : Filled fs X j Y
  at_ : VAt (veil (boxS w) wr) Y (vcs Y ya yc yk ykc)
  bx : wr.heap[w.heap.size + 1]? = some (box6 Y ya yc yk ykc)
  b0 : wr.heap[w.heap.size + 2]? = some box0
  below : Below w.heap.size w wr
  size : w.heap.size + 3 ≤ wr.heap.size
theorem FlIn.on {fs : List Mh.Fd} {X : V} {w wr w2 : World} {j : Nat} {Y : V} {ya yk : Option Addr} {yc ykc : Nat} (h : FlIn fs X w wr j Y ya yc yk ykc) (hb : Below wr.heap.size wr w2) : FlIn fs X w w2 j Y ya yc yk ykc := by
  have hz := h.size
  exact ⟨h.fil, h.at_.keeps (Keeps.belows hb), (hb.block _ (by omega)).trans h.bx, (hb.block _ (by omega)).trans h.b0, h.below.trans (hb.mono h.below.size), Nat.le_trans hz hb.size⟩
theorem FlIn.step {fs : List Mh.Fd} {X : V} {w wr : World} {j k : Nat} {Y : V} {ya yk : Option Addr} {yc ykc : Nat} (h : FlIn fs X w wr j Y ya yc yk ykc) (hf : Filled fs X k Y) : FlIn fs X w wr k Y ya yc yk ykc :=
  ⟨hf, h.at_, h.bx, h.b0, h.below, h.size⟩
theorem FlIn.got {fs : List Mh.Fd} {X : V} {w wr w2 : World} {j k : Nat} {Y s : V} {ya yk za zk : Option Addr} {yc ykc zc zkc : Nat} (h : FlIn fs X w wr j Y ya yc yk ykc) (hb : Below wr.heap.size wr w2) (hf : Filled fs X k s)
    (hs : VAt (veil (fun k => decide (k < wr.heap.size)) w2) s (vcs s za zc zk zkc)) : FlIn fs X w (put6 w2 (w.heap.size + 1) (.int .i64 s.kd) (.bool s.bo) (.int .i64 s.nu) (.string s.tx) (.slice za s.its.length zc) (.slice zk s.kys.length zkc)) k s za zc zk zkc := by
  have hz := h.size
  have h2 := h.on hb
  have hlt := h2.size
  refine ⟨hf, hs.keeps (Keeps.veils (by rw [put6_size]; exact Nat.le_refl _) fun q hq hS => ?_), put6_at rfl h2.bx, ?_, put6_below h2.below (by omega), by rw [put6_size]; exact hlt⟩
  · simp at hS
    exact ⟨by simp [boxS]; omega, put6_other (by omega)⟩
  · rw [put6_other (by omega)]; exact h2.b0
theorem stepsN {f : Mh.Fd} (h : f.ok) (hd : f.dv.kd ≠ 0) : ∃ l, stepsS f.route = some l ∧ stepsB f.route = some l ∧ ∀ s ∈ l, s.star = false := by
  obtain ⟨l, h1, _, _, _, _, _, _, _, _, h2⟩ := h
  exact ⟨l, h1, stepsS_nostar h1 (h2.resolve_left hd), h2.resolve_left hd⟩
set_option maxRecDepth 100000 in
set_option maxHeartbeats 16000000 in
theorem fill_any (fs : List Mh.Fd) (fv : Value) (sb : Bool) (X : V) (cs : List Value) (w : World) (m : Int) (hm : w.cell? ⟨1, 0, none⟩ = some (.int .i64 m)) (hF : FsAt w fv fs) (hX : VAt w X cs) (hn : ∀ f ∈ fs, f.dv.nodes ≤ 2097152) (nX : X.nodes ≤ 2097152) :
    Calls Tryz.prog 10 #[.agg #[fv, .bool sb], .agg cs.toArray] w (FillRes fs X w) := by
  have HML : Hid (∀ w', Below w.heap.size w w' → w'.cell? ⟨1, 0, none⟩ = some (.int .i64 m)) := fun w' hb => (hb.cell (World.block_lt_of_cell? w _ hm)).trans hm
  have C1 := Lib.hid (fun w' (hb : Below w.heap.size w w') => checkSchema_any fs fv sb w' m (HML.out w' hb) (hF.keep hb) (fun f hf => by have := hn f hf; omega))
  have C2 := Lib.hid (fun w' (hb : Below w.heap.size w w') => check_any X (by omega) cs w' (hX.keep hb))
  obtain ⟨ao, ac, rfl, hlm, hfield⟩ := hF.field
  have HXC := Lib.hid hX
  obtain ⟨xa, xc, xk, xkc, rfl, _⟩ := hX.opened
  rw [vcs_arr] at C2
  rw [vcs_arr]
  have HC := Lib.hid hfield
  have HNF := Lib.hid hn
  have HB0 : Hid (Below w.heap.size w (((w.alloc (.cells #[.slice ao fs.length ac, .bool sb] 36)).alloc (box6 X xa xc xk xkc)).alloc box0)) := (((Below.refl w.heap.size w).alloc (Nat.le_refl _) _).alloc (by simp) _).alloc (by simp <;> omega) _
  have HS0 : Hid ((((w.alloc (.cells #[.slice ao fs.length ac, .bool sb] 36)).alloc (box6 X xa xc xk xkc)).alloc box0).heap[w.heap.size]? = some (.cells #[.slice ao fs.length ac, .bool sb] 36)) := (heap_alloc_old _ _ (by simp <;> omega)).trans ((heap_alloc_old _ _ (by simp)).trans (heap_alloc_new _ _))
  have HX0 : Hid ((((w.alloc (.cells #[.slice ao fs.length ac, .bool sb] 36)).alloc (box6 X xa xc xk xkc)).alloc box0).heap[w.heap.size + 1]? = some (box6 X xa xc xk xkc)) := (heap_alloc_old _ _ (by simp)).trans (heap_new_at (by simp))
  have HZ0 : Hid ((((w.alloc (.cells #[.slice ao fs.length ac, .bool sb] 36)).alloc (box6 X xa xc xk xkc)).alloc box0).heap[w.heap.size + 2]? = some box0) := heap_new_at (by simp)
  unfold box6 box0 at HB0 HS0 HX0 HZ0
  unfold maxLen at hlm
  clear hfield hF hX hm hn nX
  go_enter Tryz.func10, Tryz.ntmps10
  have q0 := cellT HS0.out (i := 0) rfl
  have q1 := cellT HS0.out (i := 1) rfl
  go_wp2_with fail
  refine (C1.out _ HB0.out).mono ?_
  rintro e w1 ⟨c, rfl, hc, hb1⟩
  have hz1 : w.heap.size + 3 ≤ w1.heap.size := by have := hb1.size; simp at this; omega
  have HB1 : Hid (Below w.heap.size w w1) := HB0.out.trans (hb1.mono (by simp <;> omega))
  have HS1 := Lib.hid ((hb1.block _ (by simp <;> omega)).trans HS0.out)
  have HX1 := Lib.hid ((hb1.block _ (by simp <;> omega)).trans HX0.out)
  have HZ1 := Lib.hid ((hb1.block _ (by simp <;> omega)).trans HZ0.out)
  have HCC := Lib.hid hc
  clear hc hb1 HB0 HS0 HX0 HZ0 q0 q1 C1
  by_cases hc0 : c = 0
  case neg =>
    have hq : (c != 0) = true := by rw [bne_iff_ne]; exact hc0
    have HC0 := Lib.hid hc0
    have HFO : Hid (FillOk fs X c X) := fillOk_no hc0 fun h => hc0 (HCC.out.2 h.1)
    clear hc0
    obtain ⟨g0, g1, g2, g3, g4, g5⟩ := six_open HZ1.out
    obtain ⟨t0, t1, t2, t3, t4, t5⟩ := six_of_block HZ1.out
    have HPT := Lib.hid (put6_at (a := .int .i64 0) (b := .bool false) (c := .int .i64 0) (d := .string ⟨#[]⟩) (e := .slice none 0 0) (f := .slice none 0 0) rfl HZ1.out)
    have HBL := Lib.hid (put6_below (a := .int .i64 0) (b := .bool false) (c := .int .i64 0) (d := .string ⟨#[]⟩) (e := .slice none 0 0) (f := .slice none 0 0) HB1.out (show w.heap.size ≤ w.heap.size + 2 by omega))
    unfold put6 at HPT HBL
    go_wp2_with fail
    generalize hwf : World.setCell _ _ _ = wf at HPT HBL ⊢
    clear hwf g0 g1 g2 g3 g4 g5 t0 t1 t2 t3 t4 t5
    obtain ⟨s0, s1, s2, s3, s4, s5⟩ := six_of_block HPT.out
    refine bodyPost_ret (v := .tuple #[.agg zv.toArray, .int .i64 c]) (by simp [results, Tryz.results10, go_sem, zv, s0, s1, s2, s3, s4, s5] <;> rfl) rfl ⟨_, c, X, rfl, HBL.out, HFO.out, .inl ⟨HC0.out, rfl⟩⟩
  subst hc0
  have HFS := Lib.hid (HCC.out.1 rfl)
  obtain ⟨x0, x1, x2, x3, x4, x5⟩ := six_of_block HX1.out
  go_wp2_with fail
  refine (C2.out _ HB1.out).mono ?_
  rintro e w2 ⟨c, rfl, hc, hb2⟩
  have hz2 : w.heap.size + 3 ≤ w2.heap.size := by have := hb2.size; omega
  have HB2 : Hid (Below w.heap.size w w2) := HB1.out.trans (hb2.mono (by omega))
  have HS2 := Lib.hid ((hb2.block _ (by omega)).trans HS1.out)
  have HX2 := Lib.hid ((hb2.block _ (by omega)).trans HX1.out)
  have HZ2 := Lib.hid ((hb2.block _ (by omega)).trans HZ1.out)
  clear HCC
  have HCC := Lib.hid hc
  clear hc hb2 HB1 HS1 HX1 HZ1 C2 x0 x1 x2 x3 x4 x5
  by_cases hc0 : c = 0
  case neg =>
    have hq : (c != 0) = true := by rw [bne_iff_ne]; exact hc0
    have HC0 := Lib.hid hc0
    have HFO : Hid (FillOk fs X c X) := fillOk_no hc0 fun h => hc0 (HCC.out.2 h.2.1)
    clear hc0
    obtain ⟨g0, g1, g2, g3, g4, g5⟩ := six_open HZ2.out
    obtain ⟨t0, t1, t2, t3, t4, t5⟩ := six_of_block HZ2.out
    have HPT := Lib.hid (put6_at (a := .int .i64 0) (b := .bool false) (c := .int .i64 0) (d := .string ⟨#[]⟩) (e := .slice none 0 0) (f := .slice none 0 0) rfl HZ2.out)
    have HBL := Lib.hid (put6_below (a := .int .i64 0) (b := .bool false) (c := .int .i64 0) (d := .string ⟨#[]⟩) (e := .slice none 0 0) (f := .slice none 0 0) HB2.out (show w.heap.size ≤ w.heap.size + 2 by omega))
    unfold put6 at HPT HBL
    go_wp2_with fail
    generalize hwf : World.setCell _ _ _ = wf at HPT HBL ⊢
    clear hwf g0 g1 g2 g3 g4 g5 t0 t1 t2 t3 t4 t5
    obtain ⟨s0, s1, s2, s3, s4, s5⟩ := six_of_block HPT.out
    refine bodyPost_ret (v := .tuple #[.agg zv.toArray, .int .i64 c]) (by simp [results, Tryz.results10, go_sem, zv, s0, s1, s2, s3, s4, s5] <;> rfl) rfl ⟨_, c, X, rfl, HBL.out, HFO.out, .inl ⟨HC0.out, rfl⟩⟩
  subst hc0
  have HXO := Lib.hid (HCC.out.1 rfl)
  have HI0 : Hid (FlIn fs X w w2 0 X xa xc xk xkc) := by
    refine ⟨Filled.zero HXO.out, HXC.out.keeps (Keeps.veil HB2.out.size fun k hk => ⟨by simp [boxS]; omega, HB2.out.block k hk⟩), HX2.out, HZ2.out, HB2.out, hz2⟩
  have q0 := cellT HS2.out (i := 0) rfl
  have q1 := cellT HS2.out (i := 1) rfl
  clear HCC HXC HX2 HZ2
  go_wp2_with fail
  go_loopw [31] (fun i wr => ∃ (j : Nat) (Y : V) (ya : Option Addr) (yc : Nat) (yk : Option Addr) (ykc : Nat), i = .int .i64 j ∧ Hid (FlIn fs X w wr j Y ya yc yk ykc)) (fun i _ => fs.length - (intOf i).toNat)
  case atStart => exact ⟨0, X, xa, xc, xk, xkc, rfl, HI0⟩
  case round =>
    clear HI0 q0 q1
    obtain ⟨j, Y, ya, yc, yk, ykc, rfl, HI⟩ := hrel
    have hle := HI.out.fil.le
    have hz := HI.out.size
    by_cases hj : j < fs.length
    · obtain ⟨bb, off, oa, oc, ia, ic, ka, kc, rfl, hlt, hfd, hcl⟩ := HC.out j hj
      obtain ⟨y0, y1, y2, y3, y4, y5, y6, y7, y8, y9, y10, y11, y12⟩ := thirteen_later HI.out.below hlt hcl
      have HOK := Lib.hid (HFS.out.2 j hj).1
      have HSK : Hid (fs[j].dv.kd = 0 → Filled fs X (j + 1) Y) := fun h => HI.out.fil.skip hj h
      have HHAS : Hid (∀ l, stepsB fs[j].route = some l → (getV Y l).isSome = true → Filled fs X (j + 1) Y) := fun l h1 h2 => HI.out.fil.has hj h1 h2
      have HMISS : Hid (∀ l, stepsB fs[j].route = some l → fs[j].dv.kd ≠ 0 → getV Y l = none → ¬ foundAll fs X) := fun l h1 h2 h3 => HI.out.fil.miss hj h1 h2 h3
      have HSET : Hid (∀ l s, stepsB fs[j].route = some l → fs[j].dv.kd ≠ 0 → getV Y l = none → setV Y l fs[j].dv = some s → s.okc → Filled fs X (j + 1) s) := fun l s h1 h2 h3 h4 h5 => HI.out.fil.set hj h1 h2 h3 h4 h5
      have hNJ := HNF.out fs[j] (List.getElem_mem hj)
      generalize fs[j] = f at *
      have hB1 : Below wr.heap.size wr (wr.alloc (box13 f oa oc ia ic ka kc 39)) := (Below.refl _ wr).alloc (Nat.le_refl _) _
      have HB1 := Lib.hid hB1
      have HI1 := Lib.hid (HI.out.on hB1)
      have HX1 : Hid ((wr.alloc (box13 f oa oc ia ic ka kc 39)).heap[wr.heap.size]? = some (box13 f oa oc ia ic ka kc 39)) := heap_alloc_new _ _
      have HDV := Lib.hid (fun W (hb : Below w.heap.size w W) => hfd.dv.keep hb)
      have CS := Lib.hid (star_any f.route _ m (HML.out _ HI1.out.below) hfd.rt)
      have hrz := hfd.rt
      unfold box13 at HB1 HI1 HX1 CS
      rw [fcs_arr] at HB1 HI1 HX1 CS
      have HYO := Lib.hid HI.out.fil.ok
      clear hlt hcl hfd hB1 HC HNF HI
      go_wp2_with fail
      refine CS.out.mono ?_
      rintro e w3 ⟨v, rfl, hv, hb3⟩
      have hz3 : wr.heap.size + 1 ≤ w3.heap.size := by have := hb3.size; simp at this; omega
      have HB3 : Hid (Below wr.heap.size wr w3) := HB1.out.trans (hb3.mono (by simp))
      have HI3 := Lib.hid (HI1.out.on hb3)
      have HX3 := Lib.hid ((hb3.block _ (by simp)).trans HX1.out)
      have HV := Lib.hid hv
      obtain ⟨la, lc, rfl, -, -⟩ := hv.item
      clear y0 y1 y2 y3 y4 y5 y6 y7 y8 y9 y10 y11 y12 hv hb3 HB1 HI1 HX1 CS
      obtain ⟨y0, y1, y2, y3, y4, y5, y6, y7, y8, y9, y10, y11, y12⟩ := thirteen_of_block HX3.out
      by_cases hd : f.dv.kd = 0
      · have hq : (f.dv.kd == 0) = true := by rw [hd]; rfl
        have HIN := Lib.hid (HI3.out.step (HSK.out hd))
        clear hd HSK HHAS HMISS HSET HV HI3 HX3 HB3
        go_wp2_with fail
        go_roundw
        case rel => exact ⟨j + 1, Y, ya, yc, yk, ykc, by go_num, HIN⟩
        case measure => simp [intOf]; omega
      have hq : (f.dv.kd == 0) = false := by rw [beq_eq_false_iff_ne]; exact hd
      obtain ⟨l, hl1, hl2, hl3⟩ := stepsN HOK.out hd
      have HD := Lib.hid hd
      have hvl := HV.out
      have hlen := stepsS_len hl1
      have HHAS2 := Lib.hid (HHAS.out l hl2)
      have HMISS2 := Lib.hid (HMISS.out l hl2 hd)
      have HSET2 := Lib.hid (fun s => HSET.out l s hl2 hd)
      have HL2 := Lib.hid hl2
      have hsl : StAt w3 (.slice la ((stepsS f.route).getD []).length lc) l := by rw [hl1]; rw [hl1] at hvl; exact hvl.plain hl3
      have CG := Lib.hid (get_any Y (vcs Y ya yc yk ykc) (.slice la ((stepsS f.route).getD []).length lc) l w3 HYO.out.mid (HI3.out.at_.keeps (Keeps.bare _ _)) hsl (by omega))
      have hbx := HI3.out.bx
      unfold box6 at hbx
      obtain ⟨x0, x1, x2, x3, x4, x5⟩ := six_of_block hbx
      rw [vcs_arr] at CG
      clear hd hl1 hl2 hl3 hvl hsl HSK HHAS HMISS HSET HV hbx
      generalize ((stepsS f.route).getD []).length = ll at *
      go_wp2_with fail
      refine CG.out.mono ?_
      rintro e w4 ⟨ds, rfl, hds, hb4⟩
      obtain ⟨da, dc, dk, dkc, rfl, _⟩ := hds.opened
      have hz4 : wr.heap.size + 1 ≤ w4.heap.size := by have := hb4.size; omega
      have hB5 : Below w4.heap.size w4 (w4.alloc (box6 ((getV Y l).getD V.nil) da dc dk dkc)) := (Below.refl _ w4).alloc (Nat.le_refl _) _
      have HB5 : Hid (Below wr.heap.size wr (w4.alloc (box6 ((getV Y l).getD V.nil) da dc dk dkc))) := (HB3.out.trans (hb4.mono (by omega))).trans (hB5.mono (by omega))
      have HI5 := Lib.hid ((HI3.out.on hb4).on hB5)
      have HX5 := Lib.hid ((hB5.block _ (by omega)).trans ((hb4.block _ (by omega)).trans HX3.out))
      have hz5 : (w4.alloc (box6 ((getV Y l).getD V.nil) da dc dk dkc)).heap.size = w4.heap.size + 1 := by simp
      rw [vcs_arr]
      clear hb4 hB5 hds x0 x1 x2 x3 x4 x5 y0 y1 y2 y3 y4 y5 y6 y7 y8 y9 y10 y11 y12 HB3 HI3 HX3 CG
      cases hg : getV Y l with
      | some x =>
        have HIN := Lib.hid (HI5.out.step (HHAS2.out (by rw [hg]; rfl)))
        rw [hg] at HIN
        simp only [Option.isSome_some, Option.getD_some] at HIN ⊢
        unfold box6 at HIN
        clear hg HHAS2 HMISS2 HSET2 HI5 HX5 HB5 hz5
        go_wp2_with fail
        go_roundw
        case rel => exact ⟨j + 1, Y, ya, yc, yk, ykc, by go_num, HIN⟩
        case measure => simp [intOf]; omega
      | none =>
        rw [hg] at HI5 HX5 HB5
        simp only [Option.isSome_none, Option.getD_none] at HI5 HX5 HB5 ⊢
        have HG := Lib.hid hg
        have CT := Lib.hid (setX_any Y f.dv (vcs Y ya yc yk ykc) (vcs f.dv ia ic ka kc) f.route _ m (HML.out _ HI5.out.below) hrz (HI5.out.at_.keeps (Keeps.bare _ _)) (HDV.out _ HI5.out.below) (by have := HYO.out.nodes; omega) hNJ)
        have hbx := HI5.out.bx
        unfold box6 at hbx HB5 HI5 HX5 CT
        obtain ⟨x0, x1, x2, x3, x4, x5⟩ := six_of_block hbx
        obtain ⟨y0, y1, y2, y3, y4, y5, y6, y7, y8, y9, y10, y11, y12⟩ := thirteen_of_block HX5.out
        rw [vcs_arr, vcs_arr] at CT
        clear hg hbx hz5
        go_wp2_with fail
        refine CT.out.mono ?_
        rintro e w6 ⟨es, c, rfl, hb6, hway⟩
        have hz6 : w4.heap.size + 1 ≤ w6.heap.size := by have := hb6.size; simp at this; omega
        clear x0 x1 x2 x3 x4 x5 y0 y1 y2 y3 y4 y5 y6 y7 y8 y9 y10 y11 y12 HX5 CT HML HDV
        rcases hway with ⟨hc, rfl⟩ | ⟨rfl, l', s, hst, hYo, hdo, hset, hso, hs⟩
        · have hq2 : (c != 0) = true := by rw [bne_iff_ne]; exact hc
          have HC0 := Lib.hid hc
          have HFO : Hid (FillOk fs X c X) := fillOk_no hc fun h => HMISS2.out HG.out h.2.2
          have HI7 := Lib.hid ((HI5.out.on hb6).on ((Below.refl _ w6).alloc (Nat.le_refl _) box0))
          have hzb := HI7.out.b0
          have hbb := HI7.out.below
          unfold box0 at hzb hbb
          have HZ7 := Lib.hid hzb
          have HB7 := Lib.hid hbb
          unfold zv
          clear hc hzb hbb HI7 HI5 HB5 hb6 HG HSET2 HMISS2 HHAS2
          obtain ⟨g0, g1, g2, g3, g4, g5⟩ := six_open HZ7.out
          obtain ⟨t0, t1, t2, t3, t4, t5⟩ := six_of_block HZ7.out
          have HPT := Lib.hid (put6_at (a := .int .i64 0) (b := .bool false) (c := .int .i64 0) (d := .string ⟨#[]⟩) (e := .slice none 0 0) (f := .slice none 0 0) rfl HZ7.out)
          have HBL := Lib.hid (put6_below (a := .int .i64 0) (b := .bool false) (c := .int .i64 0) (d := .string ⟨#[]⟩) (e := .slice none 0 0) (f := .slice none 0 0) HB7.out (show w.heap.size ≤ w.heap.size + 2 by omega))
          unfold put6 at HPT HBL
          go_wp2_with fail
          generalize hwf : World.setCell _ _ _ = wf at HPT HBL ⊢
          clear hwf g0 g1 g2 g3 g4 g5 t0 t1 t2 t3 t4 t5
          obtain ⟨s0, s1, s2, s3, s4, s5⟩ := six_of_block HPT.out
          refine bodyPost_ret (v := .tuple #[.agg zv.toArray, .int .i64 c]) (by simp [results, Tryz.results10, go_sem, zv, s0, s1, s2, s3, s4, s5] <;> rfl) rfl ⟨_, c, X, rfl, HBL.out, HFO.out, .inl ⟨HC0.out, rfl⟩⟩
        · have hll : l' = l := by have := HL2.out; rw [hst] at this; exact Option.some.inj this
          subst hll
          obtain ⟨sa, sc, sk, skc, rfl, _⟩ := hs.opened
          have hB7 : Below w6.heap.size w6 (w6.alloc (box6 s sa sc sk skc)) := (Below.refl _ w6).alloc (Nat.le_refl _) _
          have HI7 := Lib.hid ((HI5.out.on hb6).on hB7)
          have HIN := Lib.hid (FlIn.got HI5.out (hb6.trans (hB7.mono (by simp; omega))) (HSET2.out s HG.out hset hso) (hs.keeps (Keeps.belows hB7)))
          have hbx := HI7.out.bx
          unfold box6 at hbx HIN
          unfold put6 at HIN
          obtain ⟨g0, g1, g2, g3, g4, g5⟩ := six_open hbx
          obtain ⟨x0, x1, x2, x3, x4, x5⟩ := six_of_block hbx
          rw [vcs_arr]
          clear hst hYo hdo hset hso hs hB7 HI7 HI5 HB5 hb6 HG HSET2 HMISS2 HHAS2 hbx
          go_wp2_with fail
          generalize hwf : World.setCell _ _ _ = wf at HIN ⊢
          clear hwf g0 g1 g2 g3 g4 g5 x0 x1 x2 x3 x4 x5
          go_roundw
          case rel => exact ⟨j + 1, s, sa, sc, sk, skc, by go_num, HIN⟩
          case measure => simp [intOf]; omega
    · obtain rfl : j = fs.length := by omega
      have HFO : Hid (FillOk fs X 0 Y) := fillOk_yes HFS.out HXO.out HI.out.fil
      have CL := Lib.hid (clone_any _ Y (Nat.lt_succ_self _) HI.out.fil.ok.mid (vcs Y ya yc yk ykc) wr (HI.out.at_.keeps (Keeps.bare _ _)))
      have hbx := HI.out.bx
      unfold box6 at hbx
      obtain ⟨x0, x1, x2, x3, x4, x5⟩ := six_of_block hbx
      rw [vcs_arr] at CL
      clear HC HNF HML HFS HXO hbx
      go_wp2_with fail
      refine CL.out.mono ?_
      rintro e w5 ⟨es, rfl, hes, hb5⟩
      obtain ⟨ea, ec, ek, ekc, rfl, _⟩ := hes.opened
      have HI5 := Lib.hid (HI.out.on hb5)
      rw [vcs_arr]
      have hb0 := HI5.out.b0
      unfold box0 at hb0
      obtain ⟨g0, g1, g2, g3, g4, g5⟩ := six_open hb0
      obtain ⟨t0, t1, t2, t3, t4, t5⟩ := six_of_block hb0
      have HPT := Lib.hid (put6_at (a := .int .i64 Y.kd) (b := .bool Y.bo) (c := .int .i64 Y.nu) (d := .string Y.tx) (e := .slice ea Y.its.length ec) (f := .slice ek Y.kys.length ekc) rfl hb0)
      have HBL := Lib.hid (put6_below (a := .int .i64 Y.kd) (b := .bool Y.bo) (c := .int .i64 Y.nu) (d := .string Y.tx) (e := .slice ea Y.its.length ec) (f := .slice ek Y.kys.length ekc) HI5.out.below (show w.heap.size ≤ w.heap.size + 2 by omega))
      have HAT : Hid (VAt (put6 w5 (w.heap.size + 2) (.int .i64 Y.kd) (.bool Y.bo) (.int .i64 Y.nu) (.string Y.tx) (.slice ea Y.its.length ec) (.slice ek Y.kys.length ekc)) Y (vcs Y ea ec ek ekc)) :=
        (hes.keeps (Keeps.veils (S' := fun _ => false) (by rw [put6_size]; exact Nat.le_refl _) fun k hk hs => ⟨rfl, put6_other (by simp at hs; omega)⟩)).keeps (Keeps.bare _ _)
      unfold put6 at HPT HBL HAT
      clear hb0 hes hb5 x0 x1 x2 x3 x4 x5 HI5 HI CL
      go_wp2_with fail
      generalize hwf : World.setCell _ _ _ = wf at HPT HBL HAT ⊢
      clear hwf g0 g1 g2 g3 g4 g5 t0 t1 t2 t3 t4 t5
      obtain ⟨s0, s1, s2, s3, s4, s5⟩ := six_of_block HPT.out
      refine bodyPost_ret (v := .tuple #[.agg (vcs Y ea ec ek ekc).toArray, .int .i64 0]) (by simp [results, Tryz.results10, go_sem, vcs, s0, s1, s2, s3, s4, s5] <;> rfl) rfl ⟨_, 0, Y, rfl, HBL.out, HFO.out, .inr ⟨rfl, HAT.out⟩⟩
end Go.Proofs.YtekknckdeedjnaaGreatDoor
