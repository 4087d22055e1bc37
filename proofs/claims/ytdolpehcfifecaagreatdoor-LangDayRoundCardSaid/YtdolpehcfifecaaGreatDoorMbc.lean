/- (*reader).message, the walk. Conditions: what braces leaves at the same depth. -/
import Derived.Test.YtdolpehcfifecaaGreatDoorMba
import Derived.Test.YtdolpehcfifecaaGreatDoorMbb
import Derived.RegionTactic
import Derived.Deep.RegionLaw
import Derived.ChangeAlike
import Derived.BigRegion
namespace Go.Proofs.YtdolpehcfifecaaGreatDoor
open Go.RowKit Mh
set_option linter.unusedVariables false
theorem MgIn.fin {Q T : Nat} {s : ByteArray} {w wr : World} {m : Ms} {out : List Pc} {pl : List UInt8} {vo vp : Value} {rows : List Value} (h : MgIn Q T s w wr m out pl vo vp rows) :
    Sl 3 (veil (bel w.heap.size) wr) vo out.length rows ∧ PcsAt (veil (bel w.heap.size) wr) out rows :=
  ⟨Sl.of_own_veil (S := bel w.heap.size) h.oo (by decide) fun b hb => by rw [bel_false]; omega, h.at_.keeps (Keeps.less _ fun k hk => by rw [msgS_false] at hk; rw [bel_false]; omega)⟩
theorem MgIn.box_on {Q T : Nat} {s : ByteArray} {w wr w3 : World} {m : Ms} {out : List Pc} {pl : List UInt8} {vo vp : Value} {rows : List Value} (h : MgIn Q T s w wr m out pl vo vp rows) (ob : Obj) (hg : (wr.alloc ob).grownBy w3 vo.ownBlock) :
    w3.heap[w.heap.size]? = some (.cells #[vo] 36 (0, 0)) := by
  have hz := h.lt
  have hol := h.oo.lt
  exact (hg.block _ (by simp; omega) (fun e => by have := (hol _ e.symm).1; omega)).trans ((heap_alloc_old _ _ (by omega)).trans h.bo)
theorem MgIn.boxp_on {Q T : Nat} {s : ByteArray} {w wr w3 : World} {m : Ms} {out : List Pc} {pl : List UInt8} {vo vp : Value} {rows : List Value} (h : MgIn Q T s w wr m out pl vo vp rows) (ob : Obj) (hg : (wr.alloc ob).grownBy w3 vp.ownBlock) :
    w3.heap[w.heap.size]? = some (.cells #[vo] 36 (0, 0)) ∧ w3.heap[w.heap.size + 1]? = some (.cells #[vp] 63 (0, 0)) := by
  have hz := h.lt
  have hol := h.op.lt
  exact ⟨(hg.block _ (by simp; omega) (fun e => by have := (hol _ e.symm).1; omega)).trans ((heap_alloc_old _ _ (by omega)).trans h.bo), (hg.block _ (by simp; omega) (fun e => by have := (hol _ e.symm).1; omega)).trans ((heap_alloc_old _ _ (by omega)).trans h.bp)⟩
/-- What braces has read lies apart from the rows. -/
theorem brace_at {Q T : Nat} {s : ByteArray} {w wr w2 : World} {m : Ms} {out : List Pc} {pl : List UInt8} {vo vp : Value} {rows cs : List Value} {P : Pc} (h : MgIn Q T s w wr m out pl vo vp rows) (hk : Kept [Q] wr w2) (hx : PcAt (veil (bel wr.heap.size) w2) P cs) :
    PcAt (veil (msgS (w.heap.size + 2) vo vp) w2) P cs := by
  have hz := h.lt
  have hol := h.oo.lt
  have hpl := h.op.lt
  refine hx.keeps (Keeps.less _ fun k hk => ?_)
  rw [bel_false] at hk
  rw [msgS_false]
  exact ⟨by omega, fun e => by have := (hol k e).2; omega, fun e => by have := (hpl k e).2; omega⟩
/-- The index of an escaped sign. -/
theorem gescK (c : UInt8) : (Lib.indexByte [123, 125, 35, 92] c < 0) ↔ mescB c = false := by
  unfold mescB
  have ne : ∀ n : Nat, n < 256 → c.toNat ≠ n → (UInt8.ofNat n == c) = false := fun n hn hd => beq_false_of_ne fun e => hd (by rw [← e, UInt8.toNat_ofNat']; omega)
  by_cases h1 : c.toNat = 123
  · have : c = 123 := UInt8.toNat_inj.1 h1
    subst this; decide
  by_cases h2 : c.toNat = 125
  · have : c = 125 := UInt8.toNat_inj.1 h2
    subst this; decide
  by_cases h3 : c.toNat = 35
  · have : c = 35 := UInt8.toNat_inj.1 h3
    subst this; decide
  by_cases h4 : c.toNat = 92
  · have : c = 92 := UInt8.toNat_inj.1 h4
    subst this; decide
  have e1 : ((123 : UInt8) == c) = false := ne 123 (by omega) h1
  have e2 : ((125 : UInt8) == c) = false := ne 125 (by omega) h2
  have e3 : ((35 : UInt8) == c) = false := ne 35 (by omega) h3
  have e4 : ((92 : UInt8) == c) = false := ne 92 (by omega) h4
  simp [Lib.indexByte, e1, e2, e3, e4, h1, h2, h3, h4]
theorem gIB (c : UInt8) (w : World) : Calls Tryz.prog 33 #[.string ⟨#[123, 125, 35, 92]⟩, .int .u8 c.toNat] w fun e w' => e = .returned (.int .i64 (Lib.indexByte [123, 125, 35, 92] c)) ∧ w' = w := by
  have h := Tryz.strings_IndexByte ⟨#[123, 125, 35, 92]⟩ (c.toNat : Int) w
  have ed : (c.toNat : Int).toNat.toUInt8 = c := by simp
  rw [ed] at h
  exact h
set_option maxRecDepth 100000 in
set_option maxHeartbeats 16000000 in
theorem gmessage_any (d : Nat) (hd1 : 1 ≤ d) (hd : d ≤ 12) (HB : BrOk d) : MsgOk d := by
  intro Q T s m0 cnt w hp hi hn hs hev hQ2
  have hQ : Q < w.heap.size := (Array.getElem?_eq_some_iff.1 hp).1
  have HEV := Lib.hid hev
  have HBR := Lib.hid HB
  have H0 := Lib.hid (MgIn.start (Q := Q) (T := T) (s := s) (m := m0) hp hQ)
  obtain ⟨R, hR⟩ : ∃ R, R = mloop s d cnt m0 [] [] := ⟨_, rfl⟩
  rw [← hR]
  have HR := Lib.hid hR
  obtain ⟨vi, hvi, hv0, hv1, hv2⟩ := info_parts infoPiece
  obtain ⟨bi, hbi, hb0, hb1, hb2⟩ := info_parts infoByte
  clear hp hev HB hR
  go_enter Tryz.func15, Tryz.ntmps15
  go_wp2_with fail
  go_loopw [] (fun wr => ∃ (m : Ms) (out : List Pc) (pl : List UInt8) (vo vp : Value) (rows : List Value), Hid (MgIn Q T s w wr m out pl vo vp rows) ∧ Hid (R = mloop s d cnt m out pl) ∧ m.i ≤ s.size ∧ m.n ≤ m.i ∧ out.length + pl.length ≤ m.i) (fun wr => muM Q s wr)
  case atStart => exact ⟨m0, [], [], _, _, [], H0, HR, hi, hn, Nat.zero_le _⟩
  case round =>
    obtain ⟨m, out, pl, vo, vp, rows, HI, HQ, hmi, hmn, hlen⟩ := hrel
    clear H0 HR hi hn
    obtain ⟨oa, oc, rfl⟩ := ownsRow_form HI.out.oo
    obtain ⟨pa, pc, rfl⟩ := ownsRow_form HI.out.op
    obtain ⟨c0, c1, c2, c3, c4, fz⟩ := HI.out.p.cells
    have HMU := Lib.hid HI.out.p.mu
    by_cases hgo : m.e = 0 ∧ m.i < s.size
    · obtain ⟨he, hlt⟩ := hgo
      have be : (m.e == 0) = true := by rw [beq_iff_eq]; exact he
      have q : decide (m.i < s.size) = true := decide_eq_true hlt
      have HE := Lib.hid he
      clear he
      go_wp2_with fail
      go_quiet (fail)
      go_wp2_with fail
      go_quiet (fail)
      generalize hwz : World.drewN (World.drewN wr _) _ = wz
      have HZ : Hid (MgIn Q T s w wz m out pl (.slice oa out.length oc) (.slice pa pl.length pc) rows) := by rw [← hwz]; exact (HI.out.drewN _).drewN _
      clear hwz c0 c1 c2 c3 c4 fz HI be
      have HFL := Lib.hid (gflush_any Q T s w wz m out pl _ _ rows HZ.out hQ (by omega) (by omega))
      have hfl : (flushL out pl).length ≤ m.i := by
        unfold flushL
        split
        · omega
        · rename_i h
          have := List.length_pos_iff.2 h
          rw [List.length_append, List.length_singleton]; omega
      have HFLN := Lib.hid hfl
      clear hfl
      have HMS : Hid (∀ W m', MsAt Q T s m' W → m.i < m'.i → muM Q s W < muM Q s wr) := by
        intro W m' hW hm
        rw [HMU.out, if_neg (by rw [HE.out]; simp), hW.mu]
        split <;> omega
      have HMSE : Hid (∀ W m', MsAt Q T s m' W → m'.e ≠ 0 → muM Q s W < muM Q s wr) := by
        intro W m' hW hm
        rw [HMU.out, if_neg (by rw [HE.out]; simp), hW.mu, if_pos hm]
        omega
      clear HMU
      by_cases hA : s[m.i].toNat = 125 ∧ 1 < d
      · have b125 : ((s[m.i].toNat : Int) == 125) = true := by rw [beq_iff_eq]; omega
        have bd : decide (1 < d) = true := decide_eq_true hA.2
        have bdI : decide ((1 : Int) < (d : Int)) = true := decide_eq_true (by omega)
        have HRR : Hid (R = (m, flushL out pl)) := by show _ = _; rw [HQ.out, mloop_stop HE.out hlt hA.1 hA.2]
        clear hA
        -- S1
        as_aux_lemma =>
          go_wp2_with (go_at_call 28; refine HFL.out.mono ?_; rintro e w3 ⟨rfl, vo', vp', rows', h⟩; obtain ⟨oa', oc', rfl⟩ := ownsRow_form h.oo; have d0 : w3.cell? ⟨w.heap.size, 0, none⟩ = some (.slice oa' (flushL out pl).length oc') := cellT h.bo rfl; have H3 := Lib.hid h; clear h)
          go_ret
          exact ⟨_, rows', rfl, by rw [HRR.out]; exact H3.out.p, H3.out.kept, by rw [HRR.out]; exact H3.out.fin.1, by rw [HRR.out]; exact H3.out.fin.2⟩
        -- E1
      have bA : (s[m.i].toNat = 125 ∧ ((s[m.i].toNat : Int) == 125) = true ∧ decide (1 < d) = false ∧ decide ((1 : Int) < (d : Int)) = false) ∨ (s[m.i].toNat ≠ 125 ∧ ((s[m.i].toNat : Int) == 125) = false) := by
        by_cases h : s[m.i].toNat = 125
        · exact .inl ⟨h, by rw [beq_iff_eq]; omega, decide_eq_false (fun h2 => hA ⟨h, h2⟩), decide_eq_false (fun h2 => hA ⟨h, by omega⟩)⟩
        · exact .inr ⟨h, by rw [beq_eq_false_iff_ne]; omega⟩
      have HA := Lib.hid hA
      clear hA
      rcases bA with ⟨h125, b125, bd, bdI⟩ | ⟨h125, b125⟩
      · have HQ2 : Hid (R = mloop s d cnt (Ms.wrong s m) out pl) := by show _ = _; rw [HQ.out, mloop_wrong HE.out hlt HA.out (.inl h125)]
        have HW := Lib.hid (gwrong_any Q T s m wz HZ.out.p hmi hs)
        have HWI := Lib.hid (Ms.wrong_i s m)
        have HWN := Lib.hid (Ms.wrong_n s m)
        have HWE := Lib.hid (Ms.wrong_e s m)
        clear h125
        -- S2
        as_aux_lemma =>
          go_wp2_with (go_at_call 30; refine HW.out.mono ?_; rintro e w2 ⟨rfl, h1, h2⟩; have H2 := Lib.hid (HZ.out.call hQ h1 h2); clear h1 h2)
          go_roundw
          case rel => exact ⟨_, out, pl, _, _, rows, H2, HQ2, by rw [HWI.out]; exact hmi, by rw [HWN.out, HWI.out]; exact hmn, by rw [HWI.out]; exact hlen⟩
          case measure => exact HMSE.out _ _ H2.out.p HWE.out
        -- E2
      have HC := Lib.hid (fun w' => mcontrol_any s[m.i] w')
      cases hctl : mctlB s[m.i] with
      | true =>
        rw [hctl] at HC
        have HQ2 : Hid (R = mloop s d cnt (Ms.wrong s m) out pl) := by show _ = _; rw [HQ.out, mloop_wrong HE.out hlt HA.out (.inr hctl)]
        have HW := Lib.hid (gwrong_any Q T s m wz HZ.out.p hmi hs)
        have HWI := Lib.hid (Ms.wrong_i s m)
        have HWN := Lib.hid (Ms.wrong_n s m)
        have HWE := Lib.hid (Ms.wrong_e s m)
        clear h125 hctl
        -- S3
        as_aux_lemma =>
          go_wp2_with (first | (go_at_call 29; refine (HC.out _).mono ?_; rintro e w' ⟨rfl, hw⟩; obtain rfl : wz = w' := hw.symm) | (go_at_call 30; refine HW.out.mono ?_; rintro e w2 ⟨rfl, h1, h2⟩; have H2 := Lib.hid (HZ.out.call hQ h1 h2); clear h1 h2))
          go_roundw
          case rel => exact ⟨_, out, pl, _, _, rows, H2, HQ2, by rw [HWI.out]; exact hmi, by rw [HWN.out, HWI.out]; exact hmn, by rw [HWI.out]; exact hlen⟩
          case measure => exact HMSE.out _ _ H2.out.p HWE.out
        -- E3
      | false =>
        rw [hctl] at HC
        have HPC := Lib.hid (fun w' (h : MsAt Q T s m w') => gpiece_any Q T s m m.i w' h (by omega))
        have HPI := Lib.hid (Ms.piece_i m m.i)
        have HPN := Lib.hid (Ms.piece_n m m.i)
        by_cases h123 : s[m.i].toNat = 123
        · have b123 : ((s[m.i].toNat : Int) == 123) = true := by rw [beq_iff_eq]; omega
          have HBQ : Hid ((m.piece m.i).e = 0 → R = mloop s d cnt (mbrace s d cnt ((m.piece m.i).at (m.i + 1))).1 (flushL out pl ++ [(mbrace s d cnt ((m.piece m.i).at (m.i + 1))).2]) []) := fun h => by rw [HQ.out, mloop_brace HE.out hlt h123 h hd1]
          have HBN : Hid ((m.piece m.i).e ≠ 0 → R = mloop s d cnt ((m.piece m.i).at (m.i + 1)) (flushL out pl) []) := fun h => by rw [HQ.out, mloop_full HE.out hlt h123 h]
          clear h123 hctl h125
          generalize m.piece m.i = m1 at HPC HPI HPN HBQ HBN
          have h1i := HPI.out
          go_upto_region 24 with (first | (go_at_call 29; refine (HC.out _).mono ?_; rintro e w' ⟨rfl, hw⟩; obtain rfl : wz = w' := hw.symm) | (go_at_call 28; (refine HFL.out.mono ?_; rintro e w3 ⟨rfl, vo', vp', rows', h⟩; have H3 := Lib.hid h; have HPC3 := Lib.hid (HPC.out w3 h.p); obtain ⟨c0, c1, c2, c3, c4, fz⟩ := h.p.cells; clear h)) | (go_at_call 31; (refine HPC3.out.mono ?_; rintro e w4 ⟨rfl, h1, h2⟩; have H4 := Lib.hid (H3.out.call hQ h1 h2); clear c0 c1 c2 c3 c4 fz; obtain ⟨c0, c1', c2, c3, c4, fz⟩ := h1.cells; have c1 : w4.cell? ⟨Q, 1, none⟩ = some (.int .i64 (m.i : Int)) := (by have h := c1'; rw [h1i] at h; exact h); clear c1' h1 h2)))
          have H5 : Hid (MgIn Q T s w (w4.setCell ⟨Q, 1, none⟩ (.int .i64 ((m.i : Int) + 1))) (m1.at (m.i + 1)) (flushL out pl) [] vo' vp' rows') := H4.out.seti hQ (m.i + 1)
          generalize World.setCell _ _ _ = W5 at H5 ⊢
          clear c0 c1 c2 c3 c4 fz H3 H4 HPC3
          obtain ⟨c0, c1, c2, c3, c4, fz⟩ := H5.out.p.cells
          by_cases h1e : m1.e = 0
          · have b1 : ((m1.at (m.i + 1)).e == 0) = true := by rw [beq_iff_eq]; exact h1e
            have HQ2 := Lib.hid (HBQ.out h1e)
            clear h1e HBN HBQ
            -- S5
            as_aux_lemma =>
              have hmb := mbrace_mono (s := s) (d := d) (cnt := cnt) (m := m1.at (m.i + 1)) hlt hd1
              have hmbn := mbrace_n (s := s) (d := d) (cnt := cnt) (m := m1.at (m.i + 1)) hlt hd1 (by show m1.n ≤ m.i + 1; rw [HPN.out]; omega)
              have HCB := Lib.hid (HBR.out Q T s (m1.at (m.i + 1)) cnt W5.drew H5.out.p hlt (by show m1.n ≤ m.i + 1; rw [HPN.out]; omega) hs ((HEV.out.kept H5.out.kept (by simp; omega)).kept (S := []) (Kept.refl _ _).drew (by simp)) hQ2)
              generalize mbrace s d cnt (m1.at (m.i + 1)) = RB at HCB HQ2 hmb hmbn
              obtain ⟨m2, P⟩ := RB
              simp only at HQ2 hmb hmbn
              have hmb1 : m.i + 1 ≤ m2.i := hmb.1
              have hmb2 := hmb.2
              clear hmb
              generalize flushL out pl = F at H5 HFLN HQ2 ⊢
              have hFl := HFLN.out
              obtain ⟨oa', oc', rfl⟩ := ownsRow_form H5.out.oo
              have d0 : W5.cell? ⟨w.heap.size, 0, none⟩ = some (.slice oa' F.length oc') := cellT H5.out.bo rfl
              have f0 : W5.frozen? ⟨w.heap.size, 0, none⟩ = false := frozenT H5.out.bo
              go_wp2_with fail
              go_region_law (first | (refine step_append_sl _ rfl _ _ 36 rfl (w.heap.size + 2) 71 vi (.agg #[.int .i64 0, .string ⟨#[]⟩, .slice none 0 0]) 3 48 Tryz.underlying36 hvi hv0 hv1 hv2 rfl (by decide) (.slice oa' F.length oc') F.length rows' rfl HROW.out _ 1 _ rfl HNEW.out (by simp [Value.oneCell']) (by unfold maxLen; omega) (by omega) HZ2.out ?_; intro v3 w3 hown3 hgr3 hat3; obtain ⟨a3, c3, rfl⟩ := ownsRow_form hown3; have hb3 := HB3.out _ hgr3; have d0 : w3.cell? ⟨w.heap.size, 0, none⟩ = some (.slice oa' F.length oc') := cellT hb3 rfl; have f0 : w3.frozen? ⟨w.heap.size, 0, none⟩ = false := frozenT hb3; clear hb3; have H8 := Lib.hid (And.intro hown3 (And.intro hgr3 hat3)); clear hown3 hgr3 hat3) | (go_simp; go_at_call 32; (with_reducible refine HCB.out.mono ?_); rintro e w2 ⟨cs, rfl, hp2, hk2, hx2⟩; obtain ⟨xa, xc, xr, rfl, _⟩ := hx2.opened; have hk2 := (Kept.refl [Q] W5).drew.trans hk2; have H6 := Lib.hid (H5.out.call hQ hp2 hk2); have HX6 := Lib.hid (brace_at H5.out hk2 hx2); have HROW := Lib.hid (mown_below H6.out.oo (below_alloc' w2 (.cells #[.int .i64 P.kd, .string P.tx, .slice xa P.ws.length xc] 71))); have HNEW := Lib.hid (mSl_lit w2 [.int .i64 P.kd, .string P.tx, .slice xa P.ws.length xc] 71 3 rfl); have HZ2 : Hid (w.heap.size + 2 ≤ (w2.alloc (.cells #[.int .i64 P.kd, .string P.tx, .slice xa P.ws.length xc] 71)).heap.size) := (by have := H6.out.lt; show _ ≤ _; simp; omega); have HB3 := Lib.hid (fun w3 h => H6.out.box_on (.cells #[.int .i64 P.kd, .string P.tx, .slice xa P.ws.length xc] 71) (w3 := w3) h); have d0 : w2.cell? ⟨w.heap.size, 0, none⟩ = some (.slice oa' F.length oc') := cellT H6.out.bo rfl; have da : (w2.alloc (.cells #[.int .i64 P.kd, .string P.tx, .slice xa P.ws.length xc] 71)).cell? ⟨w.heap.size, 0, none⟩ = some (.slice oa' F.length oc') := cellT ((heap_alloc_old _ _ (by have := H6.out.lt; omega)).trans H6.out.bo) rfl; have f0 : w2.frozen? ⟨w.heap.size, 0, none⟩ = false := frozenT H6.out.bo; clear hp2 hk2 hx2))
              all_goals
                have HF := Lib.hid (H6.out.push hQ HX6.out H8.out.1 H8.out.2.1 H8.out.2.2)
                go_wp2_with fail
                go_roundw
                case rel => exact ⟨m2, F ++ [P], [], _, _, _, HF, HQ2, hmb2, hmbn, by rw [List.length_append, List.length_singleton, List.length_nil]; show _ ≤ m2.i; omega⟩
                case measure => exact HMS.out _ m2 HF.out.p (by show m.i < m2.i; omega)
            -- E5
          · have b1 : ((m1.at (m.i + 1)).e == 0) = false := by rw [beq_eq_false_iff_ne]; exact h1e
            have HQ2 := Lib.hid (HBN.out h1e)
            have H1E := Lib.hid h1e
            clear h1e HBN HBQ
            -- S4
            as_aux_lemma =>
              go_wp2_with fail
              go_roundw
              case rel => exact ⟨_, _, [], _, _, rows', H5, HQ2, by show m.i + 1 ≤ _; omega, by show m1.n ≤ m.i + 1; rw [HPN.out]; omega, by have := HFLN.out; show (flushL out pl).length + 0 ≤ m.i + 1; omega⟩
              case measure => exact HMSE.out _ _ H5.out.p H1E.out
            -- E4
        have b123 : ((s[m.i].toNat : Int) == 123) = false := by rw [beq_eq_false_iff_ne]; omega
        obtain ⟨BH, hBH⟩ : ∃ BH, (decide (s[m.i].toNat = 35) && cnt) = BH := ⟨_, rfl⟩
        have HBH := Lib.hid hBH
        clear hBH
        go_upto_region 26 with (go_at_call 29; refine (HC.out _).mono ?_; rintro e w' ⟨rfl, hw⟩; obtain rfl : wz = w' := hw.symm)
        go_cut [150] from 151 to 155 (fun v wx => v = .bool BH ∧ wz = wx)
        case first =>
          by_cases h35 : s[m.i].toNat = 35
          · have b35 : ((s[m.i].toNat : Int) == 35) = true := by rw [beq_iff_eq]; omega
            have HX : Hid (cnt = BH) := by show _ = _; rw [← HBH.out, decide_eq_true h35, Bool.true_and]
            clear h35
            go_wp2_with fail
            go_meet
            exact ⟨by rw [HX.out], rfl⟩
          · have b35 : ((s[m.i].toNat : Int) == 35) = false := by rw [beq_eq_false_iff_ne]; omega
            have HX : Hid (BH = false) := by show _ = _; rw [← HBH.out, decide_eq_false h35, Bool.false_and]
            clear h35
            go_wp2_with fail
            go_meet
            exact ⟨by rw [HX.out], rfl⟩
        case rest =>
        obtain ⟨rfl, hw⟩ := hcut
        obtain rfl : wz = wc := hw
        cases BH with
        | true =>
          have h35 : s[m.i].toNat = 35 := by
            have := HBH.out
            rw [Bool.and_eq_true, decide_eq_true_eq] at this
            exact this.1
          have hcn : cnt = true := by
            have := HBH.out
            rw [Bool.and_eq_true] at this
            exact this.2
          have HQ2 : Hid (R = mloop s d cnt ((m.piece m.i).at (m.i + 1)) (flushL out pl ++ [.mk 4 ⟨#[]⟩ []]) []) := by show _ = _; rw [HQ.out, hcn]; exact mloop_hash HE.out hlt h35
          clear h35 h123 hctl h125 hcn HBH
          -- S6
          as_aux_lemma =>
            generalize m.piece m.i = m1 at HPC HPI HPN HQ2
            have h1i := HPI.out
            go_upto_region 30 with (first | (go_at_call 28; refine HFL.out.mono ?_; rintro e w3 ⟨rfl, vo', vp', rows', h⟩; have H3 := Lib.hid h; have HPC3 := Lib.hid (HPC.out w3 h.p); obtain ⟨c0, c1, c2, c3, c4, fz⟩ := h.p.cells; clear h) | (go_at_call 31; refine HPC3.out.mono ?_; rintro e w4 ⟨rfl, h1, h2⟩; have H4 := Lib.hid (H3.out.call hQ h1 h2); clear c0 c1 c2 c3 c4 fz; obtain ⟨c0, c1', c2, c3, c4, fz⟩ := h1.cells; have c1 : w4.cell? ⟨Q, 1, none⟩ = some (.int .i64 (m.i : Int)) := (by have h := c1'; rw [h1i] at h; exact h); clear c1' h1 h2))
            have H5 : Hid (MgIn Q T s w (w4.setCell ⟨Q, 1, none⟩ (.int .i64 ((m.i : Int) + 1))) (m1.at (m.i + 1)) (flushL out pl) [] vo' vp' rows') := H4.out.seti hQ (m.i + 1)
            generalize World.setCell _ _ _ = W5 at H5 ⊢
            clear c0 c1 c2 c3 c4 fz H3 H4 HPC3
            generalize flushL out pl = F at H5 HFLN HQ2 ⊢
            have hFl := HFLN.out
            obtain ⟨oa', oc', rfl⟩ := ownsRow_form H5.out.oo
            have d0 : W5.cell? ⟨w.heap.size, 0, none⟩ = some (.slice oa' F.length oc') := cellT H5.out.bo rfl
            have f0 : W5.frozen? ⟨w.heap.size, 0, none⟩ = false := frozenT H5.out.bo
            have HROW := Lib.hid (mown_below H5.out.oo (below_alloc' W5 (.cells #[.int .i64 4, .string ⟨#[]⟩, .slice none 0 0] 71)))
            have HNEW := Lib.hid (mSl_lit W5 [.int .i64 4, .string ⟨#[]⟩, .slice none 0 0] 71 3 rfl)
            have HZ2 : Hid (w.heap.size + 2 ≤ (W5.alloc (.cells #[.int .i64 4, .string ⟨#[]⟩, .slice none 0 0] 71)).heap.size) := by have := H5.out.lt; show _ ≤ _; simp; omega
            have HB3 := Lib.hid (fun w3 h => H5.out.box_on (.cells #[.int .i64 4, .string ⟨#[]⟩, .slice none 0 0] 71) (w3 := w3) h)
            go_wp2_with (at_builtin; refine wpList_append_sl _ rfl _ _ 36 rfl (w.heap.size + 2) 71 vi (.agg #[.int .i64 0, .string ⟨#[]⟩, .slice none 0 0]) 3 48 Tryz.underlying36 hvi hv0 hv1 hv2 rfl (by decide) (.slice oa' F.length oc') F.length rows' rfl HROW.out _ 1 _ rfl HNEW.out (by simp [Value.oneCell']) (by unfold maxLen; omega) (by omega) HZ2.out ?_; intro v3 w3 hown3 hgr3 hat3; obtain ⟨a3, c3, rfl⟩ := ownsRow_form hown3; have hb3 := HB3.out _ hgr3; have d0 : w3.cell? ⟨w.heap.size, 0, none⟩ = some (.slice oa' F.length oc') := cellT hb3 rfl; have f0 : w3.frozen? ⟨w.heap.size, 0, none⟩ = false := frozenT hb3; clear hb3; have HF := Lib.hid (H5.out.push hQ (PcAt.made (k := 4) (t := ⟨#[]⟩) (ws := []) rfl (Nat.zero_le _) (Sl.nil _ _ _ _) (WysAt.nil _)) hown3 hgr3 hat3); clear hown3 hgr3 hat3)
            go_roundw
            case rel => exact ⟨_, _, [], _, _, _, HF, HQ2, by show m.i + 1 ≤ _; omega, by show m1.n ≤ m.i + 1; rw [HPN.out]; omega, by rw [List.length_append, List.length_singleton, List.length_nil]; show _ ≤ m.i + 1; omega⟩
            case measure => exact HMS.out _ _ HF.out.p (by show m.i < m.i + 1; omega)
          -- E6
        | false =>
          have H35 : ¬ (s[m.i].toNat = 35 ∧ cnt = true) := fun h => by
            have := HBH.out
            rw [decide_eq_true h.1, h.2] at this
            cases this
          clear HBH
          -- S8
          go_upto_region 6 with fail
          obtain ⟨B, hB⟩ : ∃ B, decide (pl = []) = B := ⟨_, rfl⟩
          have HBB := Lib.hid hB
          clear hB
          have dp0 : wz.cell? ⟨w.heap.size + 1, 0, none⟩ = some (.slice pa pl.length pc) := cellT HZ.out.bp rfl
          go_cut [40] from 38 to 40 (fun v wx => v = .bool B ∧ wz = wx)
          case first =>
            by_cases h0 : pl = []
            · have q0 : ((pl.length : Int) == 0) = true := by rw [h0]; rfl
              have HE0 : Hid (B = true) := by show _ = _; rw [← HBB.out]; exact decide_eq_true h0
              clear h0
              go_wp2_with fail
              go_meet
              exact ⟨by rw [HE0.out], rfl⟩
            · have q0 : ((pl.length : Int) == 0) = false := by rw [beq_eq_false_iff_ne]; have := List.length_pos_iff.2 h0; omega
              have HE0 : Hid (B = false) := by show _ = _; rw [← HBB.out]; exact decide_eq_false h0
              clear h0
              go_wp2_with fail
              go_meet
              exact ⟨by rw [HE0.out], rfl⟩
          case rest =>
          obtain ⟨rfl, hw⟩ := hcut
          obtain rfl : wz = wc := hw
          go_upto_if 40 with fail
          obtain ⟨cz0, cz1, cz2, cz3, cz4, fzz⟩ := HZ.out.p.cells
          go_cut [] from 41 to 46 (fun wx => Hid (MgIn Q T s w wx (m.begun pl) out pl (.slice oa out.length oc) (.slice pa pl.length pc) rows))
          case first =>
            have HPZ := Lib.hid (HPC.out wz HZ.out.p)
            cases B with
            | true =>
              have HE0 : Hid (m.begun pl = m.piece m.i) := by show _ = _; unfold Ms.begun; rw [if_pos (of_decide_eq_true HBB.out)]
              go_wp2_with (go_at_call 31; refine HPZ.out.mono ?_; rintro e w4 ⟨rfl, h1, h2⟩; have H4 := Lib.hid (HZ.out.call hQ h1 h2); clear h1 h2)
              go_meet
              rw [HE0.out]; exact H4
            | false =>
              have HE0 : Hid (m.begun pl = m) := by show _ = _; unfold Ms.begun; rw [if_neg (of_decide_eq_false HBB.out)]
              go_wp2_with fail
              go_meet
              rw [HE0.out]; exact HZ
          case rest =>
          have HZ1 := hcut
          clear hcut dp0 cz0 cz1 cz2 cz3 cz4 fzz HBB
          rename_i hk
          refine hk _ _ ?_
          clear hk
          have h1i := Ms.begun_i m pl
          have h1n := Ms.begun_n m pl
          have HQB : Hid (s[m.i].toNat ≠ 92 → R = mloop s d cnt ((m.begun pl).at (m.i + 1)) out (pl ++ [s[m.i]])) := fun h => by rw [HQ.out, mloop_byte HE.out hlt h125 hctl h123 H35 h]
          have HQE : Hid (∀ hi2 : m.i + 1 < s.size, s[m.i].toNat = 92 → mescB s[m.i + 1] = true → R = mloop s d cnt ((m.begun pl).at (m.i + 2)) out (pl ++ [s[m.i + 1]])) := fun hi2 h hm => by rw [HQ.out, mloop_esc HE.out hlt h hi2 hm]
          have HQX : Hid (s[m.i].toNat = 92 → (∀ hi2 : m.i + 1 < s.size, mescB s[m.i + 1] = false) → R = mloop s d cnt (Ms.wrong s ((m.begun pl).at (m.i + 1))) out pl) := fun h hm => by rw [HQ.out, mloop_badesc HE.out hlt h hm]
          generalize m.begun pl = m1 at HZ1 h1i h1n HQB HQE HQX
          have HH1 := Lib.hid h1i
          have h1a : m1.i ≤ m.i := Nat.le_of_eq h1i
          have h1b : m.i ≤ m1.i := Nat.le_of_eq h1i.symm
          clear h1i
          clear HZ HPC HPI HPN HFL hctl h123 h125 HA
          obtain ⟨c0, c1', c2, c3, c4, fz⟩ := HZ1.out.p.cells
          have c1 : wc.cell? ⟨Q, 1, none⟩ = some (.int .i64 (m.i : Int)) := (by have h := c1'; rw [HH1.out] at h; exact h)
          clear c1'
          by_cases h92 : s[m.i].toNat = 92
          -- SA
          · have b92 : ((s[m.i].toNat : Int) == 92) = true := by rw [beq_iff_eq]; omega
            have HQE := Lib.hid (fun hi2 => HQE.out hi2 h92)
            have HQX := Lib.hid (HQX.out h92)
            clear h92 HQB
            go_upto_region 10 with fail
            have HZ5 : Hid (MgIn Q T s w (wc.setCell ⟨Q, 1, none⟩ (.int .i64 ((m.i : Int) + 1))) (m1.at (m.i + 1)) out pl _ _ rows) := HZ1.out.seti hQ (m.i + 1)
            obtain ⟨j, hj⟩ : ∃ j, j = m.i + 1 := ⟨_, rfl⟩; have HJ := Lib.hid hj; have hj1 : m.i < j := (by omega); have hj2 : j ≤ m.i + 1 := (by omega)
            generalize World.setCell _ _ _ = W6 at HZ5 ⊢
            clear c0 c1 c2 c3 c4 fz HZ1
            have HZ1 : Hid (MgIn Q T s w W6 (m1.at j) out pl (.slice oa out.length oc) (.slice pa pl.length pc) rows) := by rw [hj]; exact HZ5.out
            clear hj
            clear HZ5
            obtain ⟨c0, c1', c2, c3, c4, fz⟩ := HZ1.out.p.cells
            have c1 : W6.cell? ⟨Q, 1, none⟩ = some (.int .i64 (j : Int)) := c1'
            clear c1'
            have HW := Lib.hid (fun n => gwrong_any Q T s (m1.at j) (W6.drewN n) (HZ1.out.p.drewN n) (by show j ≤ _; omega) hs)
            have HWI : Hid ((Ms.wrong s (m1.at j)).i = j) := Ms.wrong_i s (m1.at j)
            have HWN : Hid ((Ms.wrong s (m1.at j)).n = m1.n) := Ms.wrong_n s (m1.at j)
            have HWE := Lib.hid (Ms.wrong_e s (m1.at j))
            by_cases hl2 : j < s.size
            · have q2 : ((j : Int) == (s.size : Int)) = false := by rw [beq_eq_false_iff_ne]; omega
              have q2n : (j == s.size) = false := by rw [beq_eq_false_iff_ne]; omega
              have HK := Lib.hid (gescK s[j])
              have HIB := Lib.hid (fun w' => gIB s[j] w')
              generalize Lib.indexByte [123, 125, 35, 92] s[j] = K at HK HIB
              cases hme : mescB s[j] with
              | true =>
                have hK : decide (K < 0) = false := decide_eq_false (fun h => by have := HK.out.1 h; rw [hme] at this; cases this)
                have HQ2 : Hid (R = mloop s d cnt (m1.at (j + 1)) out (pl ++ [s[j]])) := by
                  obtain rfl := HJ.out
                  exact HQE.out hl2 hme
                clear HQE HQX hme HK
                -- SC
                as_aux_lemma =>
                  go_quiet ((go_at_call 33; refine Calls.quiet_of_same (HIB.out _)))
                  go_wp2_with fail
                  go_quiet (fail)
                  generalize hw8 : World.drewN (World.drewN W6 _) _ = W8
                  have HZ8 : Hid (MgIn Q T s w W8 (m1.at j) out pl (.slice oa out.length oc) (.slice pa pl.length pc) rows) := by rw [← hw8]; exact (HZ1.out.drewN _).drewN _
                  clear hw8 HZ1 c0 c1 c2 c3 c4 fz
                  have HZ1 := HZ8
                  obtain ⟨c0, c1', c2, c3, c4, fz⟩ := HZ1.out.p.cells
                  have c1 : W8.cell? ⟨Q, 1, none⟩ = some (.int .i64 (j : Int)) := c1'
                  clear c1'
                  have HROW := Lib.hid (mown_below HZ1.out.op (below_alloc' W8 (.cells #[.int .u8 s[j].toNat] 5)))
                  have HNEW := Lib.hid (mSl_lit W8 [.int .u8 s[j].toNat] 5 1 rfl)
                  have HZ2 : Hid (w.heap.size + 2 ≤ (W8.alloc (.cells #[.int .u8 s[j].toNat] 5)).heap.size) := by have := HZ1.out.lt; show _ ≤ _; simp; omega
                  have HB3 := Lib.hid (fun w3 => HZ1.out.boxp_on (w3 := w3) (.cells #[.int .u8 s[j].toNat] 5))
                  have d0 : W8.cell? ⟨w.heap.size + 1, 0, none⟩ = some (.slice pa pl.length pc) := cellT HZ1.out.bp rfl
                  have f0 : W8.frozen? ⟨w.heap.size + 1, 0, none⟩ = false := frozenT HZ1.out.bp
                  go_upto_region 14 with (at_builtin; refine wpList_append_sl _ rfl _ _ 63 rfl (w.heap.size + 2) 5 bi (.int .u8 0) 1 1 Tryz.underlying63 hbi hb0 hb1 hb2 rfl (by decide) (.slice pa pl.length pc) pl.length (byteCells pl) rfl HROW.out _ 1 _ rfl HNEW.out (by simp [Value.oneCell']) (by unfold maxLen; omega) (by omega) HZ2.out ?_; intro v3 w3 hown3 hgr3 hat3; obtain ⟨ra, rc, rfl⟩ := ownsRow_form hown3; have hb3 := (HB3.out _ hgr3).2; have d0 : w3.cell? ⟨w.heap.size + 1, 0, none⟩ = some (.slice pa pl.length pc) := cellT hb3 rfl; have f0 : w3.frozen? ⟨w.heap.size + 1, 0, none⟩ = false := frozenT hb3; clear hb3; have HF := Lib.hid (HZ1.out.byte hQ hown3 hgr3 hat3); clear hown3 hgr3 hat3)
                  generalize World.setCell _ _ _ = W7 at HF ⊢
                  clear d0 f0 HROW HNEW HZ2 HB3 c0 c1 c2 c3 c4 fz
                  obtain ⟨c0, c1', c2, c3, c4, fz⟩ := HF.out.p.cells
                  have c1 : W7.cell? ⟨Q, 1, none⟩ = some (.int .i64 ((j : Nat) : Int)) := c1'
                  clear c1'
                  have HF2 : Hid (MgIn Q T s w (W7.setCell ⟨Q, 1, none⟩ (.int .i64 (((j : Nat) : Int) + 1))) _ _ _ _ _ _) := HF.out.seti hQ ((j : Nat) + 1)
                  go_wp2_with fail
                  go_roundw
                  case rel => exact ⟨_, _, _, _, _, _, HF2, HQ2, by show (j : Nat) + 1 ≤ _; omega, by show m1.n ≤ (j : Nat) + 1; omega, by rw [List.length_append, List.length_singleton]; show _ ≤ (j : Nat) + 1; omega⟩
                  case measure => exact HMS.out _ _ HF2.out.p (by show m.i < (j : Nat) + 1; omega)
                -- EC
              | false =>
                -- SD
                as_aux_lemma =>
                  have hK : decide (K < 0) = true := decide_eq_true (HK.out.2 hme)
                  have HQ2 : Hid (R = mloop s d cnt (Ms.wrong s (m1.at j)) out pl) := by
                    obtain rfl := HJ.out
                    exact HQX.out (fun _ => hme)
                  clear HQE HQX hme HK
                  go_quiet ((go_at_call 33; refine Calls.quiet_of_same (HIB.out _)))
                  go_wp2_with (go_at_call 30; refine (HW.out _).mono ?_; rintro e w2 ⟨rfl, h1, h2⟩; have H2 := Lib.hid ((HZ1.out.drewN _).call hQ h1 h2); clear h1 h2)
                  go_roundw
                  case rel => exact ⟨_, out, pl, _, _, rows, H2, HQ2, by rw [HWI.out]; omega, by rw [HWN.out, HWI.out]; omega, by rw [HWI.out]; omega⟩
                  case measure => exact HMSE.out _ _ H2.out.p HWE.out
                -- ED
            -- SF
            · as_aux_lemma =>
                have q2 : ((j : Int) == (s.size : Int)) = true := by rw [beq_iff_eq]; omega
                have q2n : (j == s.size) = true := by rw [beq_iff_eq]; omega
                have HQ2 : Hid (R = mloop s d cnt (Ms.wrong s (m1.at j)) out pl) := by
                  obtain rfl := HJ.out
                  exact HQX.out (fun h => absurd h hl2)
                clear HQE HQX
                go_quiet (fail)
                go_wp2_with (go_at_call 30; refine (HW.out _).mono ?_; rintro e w2 ⟨rfl, h1, h2⟩; have H2 := Lib.hid ((HZ1.out.drewN _).call hQ h1 h2); clear h1 h2)
                go_roundw
                case rel => exact ⟨_, out, pl, _, _, rows, H2, HQ2, by rw [HWI.out]; omega, by rw [HWN.out, HWI.out]; omega, by rw [HWI.out]; omega⟩
                case measure => exact HMSE.out _ _ H2.out.p HWE.out
            -- EF
          -- EA
          -- SB
          · as_aux_lemma =>
              have b92 : ((s[m.i].toNat : Int) == 92) = false := by rw [beq_eq_false_iff_ne]; omega
              have HQ2 := Lib.hid (HQB.out h92)
              clear h92 HQB HQE HQX
              have HROW := Lib.hid (mown_below HZ1.out.op (below_alloc' wc (.cells #[.int .u8 s[m.i].toNat] 5)))
              have HNEW := Lib.hid (mSl_lit wc [.int .u8 s[m.i].toNat] 5 1 rfl)
              have HZ2 : Hid (w.heap.size + 2 ≤ (wc.alloc (.cells #[.int .u8 s[m.i].toNat] 5)).heap.size) := by have := HZ1.out.lt; show _ ≤ _; simp; omega
              have HB3 := Lib.hid (fun w3 => HZ1.out.boxp_on (w3 := w3) (.cells #[.int .u8 s[m.i].toNat] 5))
              have d0 : wc.cell? ⟨w.heap.size + 1, 0, none⟩ = some (.slice pa pl.length pc) := cellT HZ1.out.bp rfl
              have f0 : wc.frozen? ⟨w.heap.size + 1, 0, none⟩ = false := frozenT HZ1.out.bp
              go_upto_region 14 with (at_builtin; refine wpList_append_sl _ rfl _ _ 63 rfl (w.heap.size + 2) 5 bi (.int .u8 0) 1 1 Tryz.underlying63 hbi hb0 hb1 hb2 rfl (by decide) (.slice pa pl.length pc) pl.length (byteCells pl) rfl HROW.out _ 1 _ rfl HNEW.out (by simp [Value.oneCell']) (by unfold maxLen; omega) (by omega) HZ2.out ?_; intro v3 w3 hown3 hgr3 hat3; obtain ⟨ra, rc, rfl⟩ := ownsRow_form hown3; have hb3 := (HB3.out _ hgr3).2; have d0 : w3.cell? ⟨w.heap.size + 1, 0, none⟩ = some (.slice pa pl.length pc) := cellT hb3 rfl; have f0 : w3.frozen? ⟨w.heap.size + 1, 0, none⟩ = false := frozenT hb3; clear hb3; have HF := Lib.hid (HZ1.out.byte hQ hown3 hgr3 hat3); clear hown3 hgr3 hat3)
              generalize World.setCell _ _ _ = W7 at HF ⊢
              clear d0 f0 HROW HNEW HZ2 HB3 c0 c1 c2 c3 c4 fz
              obtain ⟨c0, c1', c2, c3, c4, fz⟩ := HF.out.p.cells
              have c1 : W7.cell? ⟨Q, 1, none⟩ = some (.int .i64 ((m.i : Nat) : Int)) := (by have h := c1'; rw [HH1.out] at h; exact h)
              clear c1'
              have HF2 : Hid (MgIn Q T s w (W7.setCell ⟨Q, 1, none⟩ (.int .i64 (((m.i : Nat) : Int) + 1))) _ _ _ _ _ _) := HF.out.seti hQ ((m.i : Nat) + 1)
              go_wp2_with fail
              go_roundw
              case rel => exact ⟨_, _, _, _, _, _, HF2, HQ2, by show (m.i : Nat) + 1 ≤ _; omega, by show m1.n ≤ (m.i : Nat) + 1; omega, by rw [List.length_append, List.length_singleton]; show _ ≤ (m.i : Nat) + 1; omega⟩
              case measure => exact HMS.out _ _ HF2.out.p (by show m.i < (m.i : Nat) + 1; omega)
          -- EB
          -- E8
    · have HGO := Lib.hid hgo
      have HRR : Hid (R = mfin s d m out pl) := by show _ = _; rw [HQ.out, mloop_end hgo]
      have bgo : (m.e == 0) = false ∨ ((m.e == 0) = true ∧ decide (m.i < s.size) = false) := by
        by_cases he : m.e = 0
        · exact .inr ⟨by rw [beq_iff_eq]; exact he, decide_eq_false (fun h => hgo ⟨he, h⟩)⟩
        · exact .inl (by rw [beq_eq_false_iff_ne]; exact he)
      clear hgo HQ
      rcases bgo with be | ⟨be, q⟩
      all_goals
        -- S9
        as_aux_lemma =>
          by_cases hd2 : 1 < d
          · have bd : decide (1 < d) = true := decide_eq_true hd2
            have bdI : decide ((1 : Int) < (d : Int)) = true := decide_eq_true (by omega)
            have HRR : Hid (R = (Ms.wrong s m, flushL out pl)) := by show _ = _; rw [HRR.out]; unfold mfin; rw [if_pos hd2]
            clear hd2
            go_wp2_with fail
            go_quiet (fail)
            have HW := Lib.hid (gwrong_any Q T s m _ ((HI.out.drewN nq).p) hmi hs)
            go_wp2_with (first | (go_at_call 30; refine HW.out.mono ?_; rintro e w2 ⟨rfl, h1, h2⟩; have H2 := Lib.hid ((HI.out.drewN nq).call hQ h1 h2); have HFL := Lib.hid (gflush_any Q T s w w2 _ out pl _ _ rows H2.out hQ (by omega) (by omega)); clear h1 h2) | (go_at_call 28; refine HFL.out.mono ?_; rintro e w3 ⟨rfl, vo', vp', rows', h⟩; obtain ⟨oa', oc', rfl⟩ := ownsRow_form h.oo; have d0 : w3.cell? ⟨w.heap.size, 0, none⟩ = some (.slice oa' (flushL out pl).length oc') := cellT h.bo rfl; have H3 := Lib.hid h; clear h))
            go_ret
            exact ⟨_, rows', rfl, by rw [HRR.out]; exact H3.out.p, H3.out.kept, by rw [HRR.out]; exact H3.out.fin.1, by rw [HRR.out]; exact H3.out.fin.2⟩
          · have bd : decide (1 < d) = false := decide_eq_false hd2
            have bdI : decide ((1 : Int) < (d : Int)) = false := decide_eq_false (by omega)
            have HRR : Hid (R = (m, flushL out pl)) := by show _ = _; rw [HRR.out]; unfold mfin; rw [if_neg hd2]
            clear hd2
            go_wp2_with fail
            go_quiet (fail)
            have HFL := Lib.hid (gflush_any Q T s w _ _ out pl _ _ rows (HI.out.drewN nq) hQ (by omega) (by omega))
            go_wp2_with (go_at_call 28; refine HFL.out.mono ?_; rintro e w3 ⟨rfl, vo', vp', rows', h⟩; obtain ⟨oa', oc', rfl⟩ := ownsRow_form h.oo; have d0 : w3.cell? ⟨w.heap.size, 0, none⟩ = some (.slice oa' (flushL out pl).length oc') := cellT h.bo rfl; have H3 := Lib.hid h; clear h)
            go_ret
            exact ⟨_, rows', rfl, by rw [HRR.out]; exact H3.out.p, H3.out.kept, by rw [HRR.out]; exact H3.out.fin.1, by rw [HRR.out]; exact H3.out.fin.2⟩
        -- E9
end Go.Proofs.YtdolpehcfifecaaGreatDoor
