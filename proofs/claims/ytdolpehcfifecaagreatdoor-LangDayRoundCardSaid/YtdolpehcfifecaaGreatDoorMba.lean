/- (*reader).braces, the walk. Conditions: message's contract one level deeper. -/
import Derived.Test.YtdolpehcfifecaaGreatDoorMgZ
namespace Mh
open Go Go.RowKit
set_option linter.unusedVariables false
/-- How much is left to be read. -/
def muM (Q : Nat) (s : ByteArray) (w : World) : Nat := match w.cell? ⟨Q, 3, none⟩ with
  | some (.int _ e) => if e ≠ 0 then 0 else 1 + (s.size - mI Q w)
  | _ => 0
theorem MsAt.mu {Q T : Nat} {s : ByteArray} {m : Ms} {w : World} (h : MsAt Q T s m w) : muM Q s w = if m.e ≠ 0 then 0 else 1 + (s.size - m.i) := by
  unfold muM
  rw [h.cells.2.2.2.1, h.mI]
/-- The head of braces, said step by step. -/
theorem mhead_bad {s : ByteArray} {m m' m1 : Ms} {u : ByteArray} {a : Nat} (hw : Ms.word s m = (u, a, m')) (h1 : m1 = if m'.e = 0 ∧ isKeyL u.data.toList = false then m'.fail a 8 else m') (he : m1.e ≠ 0) : mhead s m = (u, none, m1) := by
  unfold mhead
  simp only [hw]
  rw [← h1, if_pos he]
theorem mhead_go {s : ByteArray} {m m' : Ms} {u : ByteArray} {a : Nat} (hw : Ms.word s m = (u, a, m')) (he : m'.e = 0) (hk : isKeyL u.data.toList = true) :
    mhead s m = if byteAt s (skipP s m'.i) = some 125 then (u, none, (m'.at (skipP s m'.i)).at (skipP s m'.i + 1)) else
      if (Ms.take s 44 (m'.at (skipP s m'.i))).e ≠ 0 then (u, none, Ms.take s 44 (m'.at (skipP s m'.i))) else
        (u, some (if (Ms.word s (Ms.take s 44 (m'.at (skipP s m'.i)))).2.2.e ≠ 0 then 1 else if (Ms.word s (Ms.take s 44 (m'.at (skipP s m'.i)))).1 = chooseW then 2 else if (Ms.word s (Ms.take s 44 (m'.at (skipP s m'.i)))).1 = countW then 3 else 1),
          Ms.take s 44 (if (Ms.word s (Ms.take s 44 (m'.at (skipP s m'.i)))).2.2.e = 0 ∧ (if (Ms.word s (Ms.take s 44 (m'.at (skipP s m'.i)))).2.2.e ≠ 0 then (1 : Int) else if (Ms.word s (Ms.take s 44 (m'.at (skipP s m'.i)))).1 = chooseW then 2 else if (Ms.word s (Ms.take s 44 (m'.at (skipP s m'.i)))).1 = countW then 3 else 1) = 1
            then (Ms.word s (Ms.take s 44 (m'.at (skipP s m'.i)))).2.2.fail (Ms.word s (Ms.take s 44 (m'.at (skipP s m'.i)))).2.1 8 else (Ms.word s (Ms.take s 44 (m'.at (skipP s m'.i)))).2.2)) := by
  unfold mhead
  simp only [hw]
  have e1 : (if m'.e = 0 ∧ isKeyL u.data.toList = false then m'.fail a 8 else m') = m' := if_neg (by rw [hk]; simp)
  rw [e1, if_neg (by rw [he]; simp)]
  rfl
theorem sl_form {k : Nat} {w : World} {v : Value} {n : Nat} {xs : List Value} (h : Sl k w v n xs) : ∃ a c, v = .slice a n c := by
  rcases h.2 with ⟨rfl, a, c, rfl⟩ | ⟨b, off, c, rfl, _⟩
  · exact ⟨a, c, rfl⟩
  · exact ⟨_, c, rfl⟩
end Mh
namespace Go.Proofs.YtdolpehcfifecaaGreatDoor
open Go.RowKit Mh
set_option linter.unusedVariables false
set_option maxRecDepth 100000 in
set_option maxHeartbeats 8000000 in
theorem gbraces_any (d : Nat) (hd1 : 1 ≤ d) (hd : d ≤ 12) (HM : d < 12 → MsgOk (d + 1)) : BrOk d := by
  intro Q T s m cnt w hp hi hn hs hev hQ2
  have hQ : Q < w.heap.size := (Array.getElem?_eq_some_iff.1 hp).1
  have HEV := Lib.hid hev
  have HHM := Lib.hid HM
  have HB0 : Hid ((w.alloc (.cells #[.int .i64 0, .string ⟨#[]⟩, .slice none 0 0] 71)).heap[w.heap.size]? = some (.cells #[.int .i64 0, .string ⟨#[]⟩, .slice none 0 0] 71 (0, 0))) := heap_alloc_new _ _
  have HM0 : Hid (MsAt Q T s m (w.alloc (.cells #[.int .i64 0, .string ⟨#[]⟩, .slice none 0 0] 71))) := (heap_alloc_old _ _ hQ).trans hp
  have HWD := Lib.hid (gword_any Q T s m _ HM0.out hi hs)
  have hus := Ms.word_size s m
  have hub := Ms.word_bd hi
  have hul := Ms.word_le s m
  have hun := Ms.word_n s m
  obtain ⟨R, hR⟩ : ∃ R, mbrace s d cnt m = R := ⟨_, rfl⟩
  rw [hR]
  obtain ⟨u, at_, m', hw⟩ : ∃ u at_ m', Ms.word s m = (u, at_, m') := ⟨_, _, _, rfl⟩
  have HW := Lib.hid hw
  have HR := Lib.hid hR
  rw [hw] at HWD hus hub hul hun
  simp only at HWD hus hub hul hun
  have HKEY := Lib.hid (fun w' => misKey_any u w' (by unfold maxLen; omega))
  clear hp hev HM hR hw
  by_cases he : m'.e = 0
  · have be : (m'.e == 0) = true := by rw [he]; rfl
    cases hk : isKeyL u.data.toList with
    | false =>
      rw [hk] at HKEY
      have HH : Hid (mhead s m = (u, none, m'.fail at_ 8)) := mhead_bad HW.out (by rw [if_pos ⟨he, hk⟩]) (Ms.fail_e (by decide))
      have HEQ : Hid (R = (m'.fail at_ 8, .mk 1 u [])) := by
        show _ = _
        rw [← HR.out, mbrace_done (by rw [HH.out]), HH.out]
      have HF := Lib.hid (fun w' h => gfail_any Q T s m' (at_ : Int) 8 w' h)
      have hfe : (m'.fail at_ 8).e ≠ 0 := Ms.fail_e (by decide)
      have be2 : ((m'.fail at_ 8).e != 0) = true := by rw [bne_iff_ne]; exact hfe
      generalize m'.fail (at_ : Int) 8 = m1 at HF HEQ be2
      clear he hk HH hfe
      go_enter Tryz.func32, Tryz.ntmps32
      go_upto_region 5 with (first | (go_at_call 49; refine HWD.out.mono ?_; rintro e w1 ⟨rfl, h1, h2⟩; have H1 := Lib.hid (And.intro h1 h2); have HFF := Lib.hid (HF.out _ h1); obtain ⟨c0, c1, c2, c3, c4, fz⟩ := h1.cells; clear h1 h2) | (go_at_call 50; refine (HKEY.out _).mono ?_; rintro e w' ⟨rfl, rfl⟩) | (go_at_call 48; refine HFF.out.mono ?_; rintro e w0 ⟨rfl, h1, h2⟩; have H0 := Lib.hid (And.intro h1 h2); clear h1 h2))
      have hz1 := (H1.out.2.trans H0.out.2).size
      simp at hz1
      have H2 : Hid (BrIn Q T s m1 w (w0.alloc (.cells #[.int .i64 1, .string u, .slice none 0 0] 71)) 1 u [] (.slice none 0 0) [] w0.heap.size) :=
        ⟨(heap_alloc_old _ _ (by omega)).trans H0.out.1, (((Kept.refl _ _).alloc _).trans (H1.out.2.trans H0.out.2)).alloc _, (heap_alloc_old _ _ (by omega)).trans (((H1.out.2.trans H0.out.2).block _ (by simp) (by simp; omega)).trans HB0.out), heap_alloc_new _ _, hz1, World.ownsRow_nil _ _ _ _, WysAt.nil _⟩
      obtain ⟨W1, hW1⟩ : ∃ W1, W1 = w0.alloc (.cells #[.int .i64 1, .string u, .slice none 0 0] 71) := ⟨_, rfl⟩
      rw [← hW1] at H2 ⊢
      clear hW1 H1 H0 HB0 HM0 HWD HKEY c0 c1 c2 c3 c4 fz
      generalize w0.heap.size = G at H2 hz1 ⊢
      obtain ⟨c0, c1, c2, c3, c4, fz⟩ := H2.out.p.cells
      obtain ⟨x0, x1, x2, fx⟩ := three_of_block H2.out.pb
      obtain ⟨y0, y1, y2, fy⟩ := three_of_block H2.out.rb
      have hfin := H2.out.fin hQ (.inl rfl) (by unfold maxLen; omega)
      unfold put3 at hfin
      go_wp2_with fail
      generalize hwf : World.setCell _ _ _ = wf at hfin ⊢
      clear hwf c0 c1 c2 c3 c4 fz x0 x1 x2 fx y0 y1 y2 fy
      obtain ⟨s0, s1, s2, _⟩ := three_of_block hfin.2.2.2
      exact bodyPost_ret (v := .agg #[.int .i64 1, .string u, .slice none 0 0]) (by simp [results, Tryz.results32, go_sem, s0, s1, s2]) rfl ⟨[.int .i64 1, .string u, .slice none 0 0], rfl, by rw [HEQ.out]; exact hfin.1, hfin.2.1, by rw [HEQ.out]; exact hfin.2.2.1⟩
    | true =>
      rw [hk] at HKEY
      have HGO := Lib.hid (mhead_go HW.out he hk)
      clear he hk
      go_enter Tryz.func32, Tryz.ntmps32
      go_upto_region 4 with (first | (go_at_call 49; refine HWD.out.mono ?_; rintro e w1 ⟨rfl, h1, h2⟩; have H1 := Lib.hid (And.intro h1 h2); obtain ⟨c0, c1, c2, c3, c4, fz⟩ := h1.cells; clear h1 h2) | (go_at_call 50; refine (HKEY.out _).mono ?_; rintro e w' ⟨rfl, rfl⟩))
      go_upto_region 5 with fail
      have hz1 := H1.out.2.size
      simp at hz1
      have H2 : Hid (BrIn Q T s m' w (w1.alloc (.cells #[.int .i64 1, .string u, .slice none 0 0] 71)) 1 u [] (.slice none 0 0) [] w1.heap.size) :=
        ⟨(heap_alloc_old _ _ (by omega)).trans H1.out.1, (((Kept.refl _ _).alloc _).trans H1.out.2).alloc _, (heap_alloc_old _ _ (by omega)).trans ((H1.out.2.block _ (by simp) (by simp; omega)).trans HB0.out), heap_alloc_new _ _, hz1, World.ownsRow_nil _ _ _ _, WysAt.nil _⟩
      obtain ⟨W1, hW1⟩ : ∃ W1, W1 = w1.alloc (.cells #[.int .i64 1, .string u, .slice none 0 0] 71) := ⟨_, rfl⟩
      rw [← hW1] at H2 ⊢
      clear hW1 H1 HB0 HM0 HWD HKEY c0 c1 c2 c3 c4 fz
      generalize w1.heap.size = G at H2 hz1 ⊢
      obtain ⟨c0, c1, c2, c3, c4, fz⟩ := H2.out.p.cells
      have be2 : (m'.e != 0) = false := by rw [bne_eq_false_iff_eq]; exact (beq_iff_eq.1 be)
      have HIS := Lib.hid (gis_any Q T s 125 m' W1 H2.out.p hub hs)
      have hJ := skipP_le hub
      have hJ0 := skipP_ge s m'.i
      generalize skipP s m'.i = J at HIS hJ hJ0 HGO
      by_cases hb : byteAt s J = some 125
      · have HH : Hid (mhead s m = (u, none, (m'.at J).at (J + 1))) := by show _ = _; rw [HGO.out, if_pos hb]
        have HEQ : Hid (R = ((m'.at J).at (J + 1), .mk 1 u [])) := by
          show _ = _
          rw [← HR.out, mbrace_done (by rw [HH.out]), HH.out]
        rw [decide_eq_true hb] at HIS
        clear hb HGO HH
        go_upto_region 9 with (go_at_call 51; refine HIS.out.mono ?_; rintro e w2 ⟨rfl, h1, h2⟩; have H3 := Lib.hid (H2.out.call hQ h1 h2); clear h1 h2 c0 c1 c2 c3 c4 fz; obtain ⟨c0, c1', c2, c3, c4, fz⟩ := H3.out.p.cells; have c1 : w2.cell? ⟨Q, 1, none⟩ = some (.int .i64 (J : Int)) := c1'; clear c1')
        have H4 : Hid (BrIn Q T s ((m'.at J).at (J + 1)) w (w2.setCell ⟨Q, 1, none⟩ (.int .i64 ((J : Int) + 1))) 1 u [] (.slice none 0 0) [] G) := H3.out.seti hQ (J + 1)
        generalize World.setCell _ _ _ = W4 at H4 ⊢
        clear c0 c1 c2 c3 c4 fz
        obtain ⟨x0, x1, x2, fx⟩ := three_of_block H4.out.pb
        obtain ⟨y0, y1, y2, fy⟩ := three_of_block H4.out.rb
        have hfin := H4.out.fin hQ (.inl rfl) (by unfold maxLen; omega)
        unfold put3 at hfin
        go_wp2_with fail
        generalize hwf : World.setCell _ _ _ = wf at hfin ⊢
        clear hwf x0 x1 x2 fx y0 y1 y2 fy
        obtain ⟨s0, s1, s2, _⟩ := three_of_block hfin.2.2.2
        exact bodyPost_ret (v := .agg #[.int .i64 1, .string u, .slice none 0 0]) (by simp [results, Tryz.results32, go_sem, s0, s1, s2]) rfl ⟨[.int .i64 1, .string u, .slice none 0 0], rfl, by rw [HEQ.out]; exact hfin.1, hfin.2.1, by rw [HEQ.out]; exact hfin.2.2.1⟩
      · have HGO2 : Hid (mhead s m = if (Ms.take s 44 (m'.at J)).e ≠ 0 then (u, none, Ms.take s 44 (m'.at J)) else
          (u, some (if (Ms.word s (Ms.take s 44 (m'.at J))).2.2.e ≠ 0 then 1 else if (Ms.word s (Ms.take s 44 (m'.at J))).1 = chooseW then 2 else if (Ms.word s (Ms.take s 44 (m'.at J))).1 = countW then 3 else 1),
            Ms.take s 44 (if (Ms.word s (Ms.take s 44 (m'.at J))).2.2.e = 0 ∧ (if (Ms.word s (Ms.take s 44 (m'.at J))).2.2.e ≠ 0 then (1 : Int) else if (Ms.word s (Ms.take s 44 (m'.at J))).1 = chooseW then 2 else if (Ms.word s (Ms.take s 44 (m'.at J))).1 = countW then 3 else 1) = 1
              then (Ms.word s (Ms.take s 44 (m'.at J))).2.2.fail (Ms.word s (Ms.take s 44 (m'.at J))).2.1 8 else (Ms.word s (Ms.take s 44 (m'.at J))).2.2))) := by show _ = _; rw [HGO.out, if_neg hb]
        rw [decide_eq_false hb] at HIS
        clear hb HGO
        go_upto_region 11 with (first | (go_at_call 51; refine HIS.out.mono ?_; rintro e w2 ⟨rfl, h1, h2⟩; have H3 := Lib.hid (H2.out.call hQ h1 h2); have HTK := Lib.hid (gtake_any Q T s 44 _ w2 h1 hJ hs); clear h1 h2) | (go_at_call 52; refine HTK.out.mono ?_; rintro e w3 ⟨rfl, h1, h2⟩; have H4 := Lib.hid (H3.out.call hQ h1 h2); clear h1 h2))
        have h3b := Ms.take_bd (s := s) (c := 44) (m := m'.at J) hJ
        have h3l : J ≤ (Ms.take s 44 (m'.at J)).i := Ms.take_le s 44 (m'.at J)
        have h3n : (Ms.take s 44 (m'.at J)).n = m'.n := Ms.take_n s 44 (m'.at J)
        have HJ0 : Hid (m.n ≤ J) := by show m.n ≤ J; omega
        generalize Ms.take s 44 (m'.at J) = M3 at H4 HGO2 h3b h3l h3n
        clear c0 c1 c2 c3 c4 fz HTK H3 H2 HIS
        obtain ⟨c0, c1, c2, c3, c4, fz⟩ := H4.out.p.cells
        by_cases he3 : M3.e = 0
        · have be3 : (M3.e != 0) = false := by rw [bne_eq_false_iff_eq]; exact he3
          rw [if_neg (by rw [he3]; simp)] at HGO2
          have HW2 := Lib.hid (fun w' h => gword_any Q T s M3 w' h h3b hs)
          have h5s := Ms.word_size s M3
          have h5b := Ms.word_bd h3b
          have h5l := Ms.word_le s M3
          have h5n := Ms.word_n s M3
          generalize Ms.word s M3 = WD2 at HW2 HGO2 h5s h5b h5l h5n
          obtain ⟨u2, a2, m5⟩ := WD2
          simp only at HW2 HGO2 h5s h5b h5l h5n
          obtain ⟨kd, hkd⟩ : ∃ kd : Int, kd = (if m5.e ≠ 0 then 1 else if u2 = chooseW then 2 else if u2 = countW then 3 else 1) := ⟨_, rfl⟩
          rw [← hkd] at HGO2
          obtain ⟨m6, hm6⟩ : ∃ m6 : Ms, m6 = (if m5.e = 0 ∧ kd = 1 then m5.fail a2 8 else m5) := ⟨_, rfl⟩
          rw [← hm6] at HGO2
          have HKD := Lib.hid hkd
          have HM6 := Lib.hid hm6
          have h6i : m6.i = m5.i := by rw [hm6, Ms.ite_i]
          have h6n : m6.n = m5.n := by
            rw [hm6]
            split
            · exact Ms.fail_n _ _ _
            · rfl
          have hkd3 : kd = 1 ∨ kd = 2 ∨ kd = 3 := by
            rw [hkd]
            split
            · exact .inl rfl
            · split
              · exact .inr (.inl rfl)
              · split
                · exact .inr (.inr rfl)
                · exact .inl rfl
          clear he3 hkd hm6
          have HWW := Lib.hid (HW2.out _ H4.out.p)
          go_upto_block 0 with (go_at_call 49; refine HWW.out.mono ?_; rintro e w5 ⟨rfl, h1, h2⟩; have H5 := Lib.hid (H4.out.call hQ h1 h2); clear h1 h2 c0 c1 c2 c3 c4 fz; obtain ⟨c0, c1, c2, c3, c4, fz⟩ := H5.out.p.cells)
          obtain ⟨x0, x1, x2, fx⟩ := three_of_block H5.out.pb
          clear HW2 HWW H4
          go_cut [] from 61 to 77 (fun wx => Hid (BrIn Q T s m6 w wx kd u [] (.slice none 0 0) [] G))
          case first =>
            by_cases he5 : m5.e = 0
            · have be5 : (m5.e != 0) = false := by rw [bne_eq_false_iff_eq]; exact he5
              by_cases hc : u2 = chooseW
              · have q : (u2.toList == [99, 104, 111, 111, 115, 101]) = true := mlist_at (by rw [hc]; rfl)
                have HE : Hid (kd = 2) := by show _ = _; rw [HKD.out, if_neg (by rw [he5]; simp), if_pos hc]
                have HE6 : Hid (m6 = m5) := by show _ = _; rw [HM6.out, if_neg (by rw [HE.out]; simp)]
                clear he5 hc
                have hput := H5.out.kind hQ 2
                go_wp2_with fail
                go_meet
                rw [HE.out, HE6.out]; exact hput
              have q : (u2.toList == [99, 104, 111, 111, 115, 101]) = false := mlist_not (fun h => hc (by cases u2 with | mk x => cases x with | mk l => simp only at h; rw [h]; rfl))
              by_cases hc2 : u2 = countW
              · have q2 : (u2.toList == [99, 111, 117, 110, 116]) = true := mlist_at (by rw [hc2]; rfl)
                have HE : Hid (kd = 3) := by show _ = _; rw [HKD.out, if_neg (by rw [he5]; simp), if_neg hc, if_pos hc2]
                have HE6 : Hid (m6 = m5) := by show _ = _; rw [HM6.out, if_neg (by rw [HE.out]; simp)]
                clear he5 hc hc2
                have hput := H5.out.kind hQ 3
                go_wp2_with fail
                go_meet
                rw [HE.out, HE6.out]; exact hput
              have q2 : (u2.toList == [99, 111, 117, 110, 116]) = false := mlist_not (fun h => hc2 (by cases u2 with | mk x => cases x with | mk l => simp only at h; rw [h]; rfl))
              have HE : Hid (kd = 1) := by show _ = _; rw [HKD.out, if_neg (by rw [he5]; simp), if_neg hc, if_neg hc2]
              have HE6 : Hid (m6 = m5.fail a2 8) := by show _ = _; rw [HM6.out, if_pos ⟨he5, HE.out⟩]
              have HF := Lib.hid (gfail_any Q T s m5 a2 8 w5 H5.out.p)
              clear he5 hc hc2
              go_wp2_with (go_at_call 48; refine HF.out.mono ?_; rintro e w6 ⟨rfl, h1, h2⟩; have H6 := Lib.hid (H5.out.call hQ h1 h2); clear h1 h2)
              go_meet
              rw [HE.out, HE6.out]; exact H6
            · have be5 : (m5.e != 0) = true := by rw [bne_iff_ne]; exact he5
              have HE : Hid (kd = 1) := by show _ = _; rw [HKD.out, if_pos he5]
              have HE6 : Hid (m6 = m5) := by show _ = _; rw [HM6.out, if_neg (fun h => he5 h.1)]
              clear he5
              go_wp2_with fail
              go_meet
              rw [HE.out, HE6.out]; exact H5
          case rest =>
            clear H5 c0 c1 c2 c3 c4 fz x0 x1 x2 fx HKD HM6
            have H6 := hcut
            have HTK := Lib.hid (gtake_any Q T s 44 m6 wc H6.out.p (by omega) hs)
            have h7b := Ms.take_bd (s := s) (c := 44) (m := m6) (by omega)
            have h7l := Ms.take_le s 44 m6
            have h7n := Ms.take_n s 44 m6
            generalize Ms.take s 44 m6 = m7 at HTK HGO2 h7b h7l h7n
            have HEQ : Hid (R = mways s d cnt kd u m7 []) := by
              show _ = _
              rw [← HR.out, mbrace_ways (by rw [HGO2.out]), HGO2.out]
            have hn7 : m7.n ≤ m7.i := by have := HJ0.out; omega
            go_upto_block 1 with (go_at_call 52; refine HTK.out.mono ?_; rintro e w7 ⟨rfl, h1, h2⟩; have H7 := Lib.hid (H6.out.call hQ h1 h2); clear h1 h2)
            clear hcut H6 HTK HGO2 HR h6i h6n h5s h5b h5l h5n h3b h3l h3n HJ0 hJ hJ0
            obtain ⟨cn, hcn⟩ : ∃ cn, cn = cnt := ⟨_, rfl⟩
            rw [← hcn] at HEQ
            have HCN := Lib.hid hcn
            clear hcn
            go_cut [] from 80 to 148 (fun wx => ∃ (mf : Ms) (wl : List Wy) (vf : Value) (rf : List Value), Hid (BrIn Q T s mf w wx kd u wl vf rf G) ∧ Hid (R = mwend s kd u mf wl) ∧ mf.i ≤ s.size)
            case first =>
              go_wp2_with fail
              go_loopw [] (fun wr => ∃ (mr : Ms) (ws : List Wy) (vw : Value) (rows : List Value), Hid (BrIn Q T s mr w wr kd u ws vw rows G) ∧ Hid (R = mways s d cn kd u mr ws) ∧ mr.i ≤ s.size ∧ mr.n ≤ mr.i ∧ (mr.e = 0 → ws.length ≤ mr.i)) (fun wr => muM Q s wr)
              case atStart => exact ⟨m7, [], _, [], H7, HEQ, h7b, hn7, fun _ => Nat.zero_le _⟩
              case round =>
                obtain ⟨mr, ws, vw, rows, HI, HQ, hrb, hrn, hwl⟩ := hrel
                clear H7 HEQ h7b hn7 h7l h7n
                obtain ⟨va, vc, rfl⟩ := ownsRow_form HI.out.own
                obtain ⟨c0, c1, c2, c3, c4, fz⟩ := HI.out.p.cells
                obtain ⟨x0, x1, x2, fx⟩ := three_of_block HI.out.pb
                have HMU := Lib.hid HI.out.p.mu
                by_cases he : mr.e = 0
                · have be : (mr.e == 0) = true := by rw [he]; rfl
                  have HHE := Lib.hid he
                  have hwl := hwl he
                  have hlt := HI.out.lt
                  have HWAY := Lib.hid (gway_any Q T s mr kd u ws va vc rows wr HI.out.p hrb hs (HEV.out.kept HI.out.kept (by simp; omega)) hQ2 (Sl.of_own_veil (S := onlyS Q) HI.out.own (by decide) fun b hb => by have := HI.out.g; simp [onlyS]; omega) (HI.out.at_.keeps (Keeps.less _ fun k hk => by have := HI.out.g; rw [own1_false, bel_false] at hk; simp [onlyS]; omega)) (by omega))
                  have HFIT := Lib.hid (Ms.way_fit s kd ws mr)
                  have HPS := Lib.hid (Ms.way_ps s kd ws mr)
                  have HMO := Lib.hid (mopen_way s d kd ws mr)
                  have HOP : Hid (mopen s d kd ws mr = if (Ms.way s kd ws mr).1.e ≠ 0 then ((Ms.way s kd ws mr).1, (Ms.way s kd ws mr).2, true) else (if (Ms.take s 123 (Ms.way s kd ws mr).1).e = 0 ∧ d = 12 then (Ms.take s 123 (Ms.way s kd ws mr).1).fail (((Ms.take s 123 (Ms.way s kd ws mr).1).i : Int) - 1) 13 else Ms.take s 123 (Ms.way s kd ws mr).1, (Ms.way s kd ws mr).2, false)) := rfl
                  have hwi : (Ms.way s kd ws mr).1.i ≤ s.size := by rw [Ms.way_i]; exact Ms.word_bd hrb
                  have hwl2 : mr.i ≤ (Ms.way s kd ws mr).1.i := by rw [Ms.way_i]; exact Ms.word_le s mr
                  generalize Ms.way s kd ws mr = WR at HWAY HFIT HPS HMO HOP hwi hwl2
                  obtain ⟨mw, W⟩ := WR
                  simp only at HWAY HFIT HPS HMO HOP hwi hwl2
                  clear he
                  go_upto_region 23 with (go_at_call 53; refine HWAY.out.mono ?_; rintro e w2 ⟨rfl, h1, h2⟩; have H2 := Lib.hid (HI.out.call hQ h1 h2); clear h1 h2)
                  have HX : Hid ((w2.alloc (.cells #[.string W.wd, .int .i64 W.ex, .int .i64 W.fm, .slice none 0 0] 94)).heap[w2.heap.size]? = some (.cells #[.string W.wd, .int .i64 W.ex, .int .i64 W.fm, .slice none 0 0] 94 (0, 0))) := heap_alloc_new _ _
                  have H3 := Lib.hid (H2.out.on hQ (below_alloc' w2 (.cells #[.string W.wd, .int .i64 W.ex, .int .i64 W.fm, .slice none 0 0] 94)))
                  have hGX := H2.out.lt
                  have HOWN : Hid (∀ b, (Value.slice va ws.length vc).ownBlock = some b → b < w2.heap.size) := fun b hb => (H2.out.own.lt b hb).2
                  have HK2 : Hid (Kept [Q] w2 (w2.alloc (.cells #[.string W.wd, .int .i64 W.ex, .int .i64 W.fm, .slice none 0 0] 94))) := (Kept.refl _ _).alloc _
                  obtain ⟨W2, hW2⟩ : ∃ W2, W2 = w2.alloc (.cells #[.string W.wd, .int .i64 W.ex, .int .i64 W.fm, .slice none 0 0] 94) := ⟨_, rfl⟩
                  rw [← hW2] at HX H3 HK2 ⊢
                  obtain ⟨X, hX⟩ : ∃ X, w2.heap.size = X := ⟨_, rfl⟩
                  rw [hX] at HX hGX HOWN ⊢
                  have HXE := Lib.hid hX
                  clear hX
                  clear hW2 c0 c1 c2 c3 c4 fz x0 x1 x2 fx HWAY HI
                  obtain ⟨c0, c1, c2, c3, c4, fz⟩ := H3.out.p.cells
                  have hQX : Q < X := by have := H2.out.g; omega
                  by_cases hew : mw.e = 0
                  · have bw : (mw.e != 0) = false := by rw [bne_eq_false_iff_eq]; exact hew
                    have HTK := Lib.hid (gtake_any Q T s 123 mw W2 H3.out.p hwi hs)
                    have HTKE := Lib.hid (@Ms.take_ok s 123 mw hew)
                    have htb := Ms.take_bd (s := s) (c := 123) hwi
                    have htl := Ms.take_le s 123 mw
                    rw [if_neg (by rw [hew]; simp)] at HOP
                    generalize Ms.take s 123 mw = mt at HTK HTKE HOP htb htl
                    obtain ⟨M3, hM3⟩ : ∃ M3 : Ms, M3 = (if mt.e = 0 ∧ d = 12 then mt.fail ((mt.i : Int) - 1) 13 else mt) := ⟨_, rfl⟩
                    rw [← hM3] at HOP
                    have HM3 := Lib.hid hM3
                    have h3i : M3.i = mt.i := by rw [hM3, Ms.ite_i]
                    have h3n : M3.n = mr.n := by have := mopen_n s d kd ws mr; rw [HOP.out] at this; exact this
                    have H30 : Hid (M3.e = 0 → mt = M3 ∧ d < 12) := by
                      intro h
                      rw [hM3] at h ⊢
                      split at h
                      · exact absurd h (Ms.fail_e (by decide))
                      · rename_i h2
                        rw [if_neg h2]
                        exact ⟨rfl, by
                          have : d ≠ 12 := fun e => h2 ⟨h, e⟩
                          omega⟩
                    clear hM3
                    clear hew
                    go_upto_region 24 with fail
                    go_cut [] from 93 to 94 (fun wx => Hid (MsAt Q T s mt wx ∧ Kept [Q] w2 wx) ∧ Hid (wx.heap[X]? = some (.cells #[.string W.wd, .int .i64 W.ex, .int .i64 W.fm, .slice none 0 0] 94 (0, 0))))
                    case first =>
                      -- S1
                      go_wp2_with (go_at_call 52; refine HTK.out.mono ?_; rintro e w4 ⟨rfl, h1, h2⟩; have H4 := Lib.hid (And.intro h1 (HK2.out.trans h2)); have HX4 := Lib.hid ((h2.block X (Array.getElem?_eq_some_iff.1 HX.out).1 (by simp; omega)).trans HX.out); clear h1 h2)
                      go_meet
                      exact ⟨H4, HX4⟩
                      -- E1
                    case rest =>
                      obtain ⟨H4, HX4⟩ := hcut
                      clear H3 HX HTK HK2 c0 c1 c2 c3 c4 fz
                      rename_i hk
                      refine hk _ _ ?_
                      clear hk
                      go_step
                      obtain ⟨c0, c1, c2, c3, c4, fz⟩ := H4.out.1.cells
                      go_cut [] from 95 to 110 (fun wx => Hid (MsAt Q T s M3 wx ∧ Kept [Q] w2 wx) ∧ Hid (wx.heap[X]? = some (.cells #[.string W.wd, .int .i64 W.ex, .int .i64 W.fm, .slice none 0 0] 94 (0, 0))))
                      case first =>
                        -- S2
                        by_cases het : mt.e = 0
                        · have bt : (mt.e == 0) = true := by rw [beq_iff_eq]; exact het
                          by_cases hd12 : d = 12
                          · have bd : ((d : Int) == 12) = true := by rw [beq_iff_eq]; omega
                            have HE : Hid (M3 = mt.fail ((mt.i : Int) - 1) 13) := by show _ = _; rw [HM3.out, if_pos ⟨het, hd12⟩]
                            have HF := Lib.hid (gfail_any Q T s mt ((mt.i : Int) - 1) 13 wc H4.out.1)
                            clear het hd12
                            go_wp2_with (go_at_call 48; refine HF.out.mono ?_; rintro e w6 ⟨rfl, h1, h2⟩; have H6 := Lib.hid (And.intro h1 (H4.out.2.trans h2)); have HX6 := Lib.hid ((h2.block X (Array.getElem?_eq_some_iff.1 HX4.out).1 (by simp; omega)).trans HX4.out); clear h1 h2)
                            go_meet
                            rw [HE.out]; exact ⟨H6, HX6⟩
                          · have bd : ((d : Int) == 12) = false := by rw [beq_eq_false_iff_ne]; omega
                            have HE : Hid (M3 = mt) := by show _ = _; rw [HM3.out, if_neg (fun h => hd12 h.2)]
                            clear het hd12
                            go_wp2_with fail
                            go_meet
                            rw [HE.out]; exact ⟨H4, HX4⟩
                        · have bt : (mt.e == 0) = false := by rw [beq_eq_false_iff_ne]; exact het
                          have HE : Hid (M3 = mt) := by show _ = _; rw [HM3.out, if_neg (fun h => het h.1)]
                          clear het
                          go_wp2_with fail
                          go_meet
                          rw [HE.out]; exact ⟨H4, HX4⟩
                        -- E2
                      case rest =>
                        obtain ⟨H5, HX5⟩ := hcut
                        clear H4 HX4 c0 c1 c2 c3 c4 fz
                        rename_i hk
                        refine hk _ _ ?_
                        clear hk
                        go_step
                        obtain ⟨c0, c1, c2, c3, c4, fz⟩ := H5.out.1.cells
                        have HB5 := Lib.hid (H2.out.call hQ H5.out.1 H5.out.2)
                        obtain ⟨x0, x1, x2, fx⟩ := three_of_block HB5.out.pb
                        have hXc : X < wc.heap.size := (Array.getElem?_eq_some_iff.1 HX5.out).1
                        go_cut [] from 112 to 126 (fun wx => ∃ (mx : Ms) (ps : List Pc) (pa : Option Addr) (pc : Nat), Hid (MsAt Q T s mx wx ∧ Kept [Q] w2 wx) ∧ Hid (wx.heap[X]? = some (.cells #[.string W.wd, .int .i64 W.ex, .int .i64 W.fm, .slice pa ps.length pc] 94 (0, 0))) ∧ Hid (WyAt (veil (own1 (bel (G + 1)) (.slice va ws.length vc)) wx) (W.withPs ps) [.string W.wd, .int .i64 W.ex, .int .i64 W.fm, .slice pa ps.length pc]) ∧ Hid ((M3.e ≠ 0 ∧ mx = M3 ∧ ps = []) ∨ (M3.e = 0 ∧ (mx, ps) = mloop s (d + 1) (cn || decide (kd = 3)) M3 [] [])))
                        case first =>
                          -- S3
                          by_cases he3 : M3.e = 0
                          · have b3 : (M3.e == 0) = true := by rw [beq_iff_eq]; exact he3
                            have hd12 := (H30.out he3).2
                            have HHE3 := Lib.hid he3
                            have HMC : Hid (Calls Tryz.prog 15 #[.pointer (some ⟨Q, 0, none⟩), .int .i64 ((d : Int) + 1), .bool (cn || decide (kd = 3))] wc (MsgP Q T s (mloop s (d + 1) (cn || decide (kd = 3)) M3 [] []) wc)) :=
                              HHM.out hd12 Q T s M3 (cn || decide (kd = 3)) wc H5.out.1 (by rw [h3i]; exact htb) (by rw [h3n, h3i]; omega) hs (HEV.out.kept HB5.out.kept (by simp; omega)) hQ2
                            obtain ⟨r, hr⟩ : ∃ r, r = mloop s (d + 1) (cn || decide (kd = 3)) M3 [] [] := ⟨_, rfl⟩
                            rw [← hr] at HMC
                            have HRR := Lib.hid hr
                            obtain ⟨mx, ps⟩ := r
                            have HEE : Hid (∀ b, b = (cn || decide (kd = 3)) → Calls Tryz.prog 15 #[.pointer (some ⟨Q, 0, none⟩), .int .i64 ((d : Int) + 1), .bool b] wc (MsgP Q T s (mx, ps) wc)) := by
                              rintro b rfl; exact HMC.out
                            have bk : (kd == 3) = decide (kd = 3) := by rw [Bool.eq_iff_iff]; simp
                            obtain ⟨kb, hkb⟩ : ∃ kb, (kd == 3) = kb := ⟨_, rfl⟩
                            rw [← bk, hkb] at HEE
                            clear he3 HMC bk hr
                            have HW6 : Hid (∀ w6 pa pc rws, Kept [Q] wc w6 → Sl 3 (veil (bel wc.heap.size) w6) (.slice pa ps.length pc) ps.length rws → PcsAt (veil (bel wc.heap.size) w6) ps rws → WyAt (veil (own1 (bel (G + 1)) (.slice va ws.length vc)) (w6.setCell ⟨X, 3, none⟩ (.slice pa ps.length pc))) (W.withPs ps) [.string W.wd, .int .i64 W.ex, .int .i64 W.fm, .slice pa ps.length pc]) := by
                              intro w6 pa pc rws hk6 h3 h4
                              have hK : Keeps (veil (bel wc.heap.size) w6) (veil (own1 (bel (G + 1)) (.slice va ws.length vc)) (w6.setCell ⟨X, 3, none⟩ (.slice pa ps.length pc))) := by
                                refine Keeps.veils (by simp) fun k hk hs => ?_
                                rw [bel_false] at hs
                                refine ⟨by rw [own1_false, bel_false]; exact ⟨by omega, fun e => by have := HOWN.out k e; omega⟩, heap_setCell_other _ _ _ _ (by show k ≠ X; omega)⟩
                              exact WyAt.with HFIT.out (by unfold maxLen; omega) (h3.keeps hK) (PcsAt.keeps hK h4)
                            have HC2 := Lib.hid (HEE.out (cn || kb) rfl)
                            have HCB : ∀ b, (cn || kb) = b → Hid (Calls Tryz.prog 15 #[.pointer (some ⟨Q, 0, none⟩), .int .i64 ((d : Int) + 1), .bool b] wc (MsgP Q T s (mx, ps) wc)) := by rintro b rfl; exact HC2
                            clear HEE HC2
                            have hdI : (d : Int) < 12 := by omega
                            cases cnt
                            all_goals
                              first
                                | have HC3 := HCB true (by rw [HCN.out]; rfl)
                                | have HC3 := HCB kb (by rw [HCN.out]; rfl)
                              clear HCB
                              go_wp2_with (go_at_call 15; refine HC3.out.mono ?_; rintro e w6 ⟨v, rws, rfl, h1, h2, h3, h4⟩; obtain ⟨pa, pc, rfl⟩ := sl_form h3; have HP6 := Lib.hid h1; have HK6 := Lib.hid h2; have HX6 := Lib.hid ((h2.block X hXc (by simp; omega)).trans HX5.out); have HWY := Lib.hid (HW6.out w6 pa pc rws h2 h3 h4); obtain ⟨z0, z1, z2, z3, zf⟩ := four_of_block HX6.out; clear h1 h2 h3 h4)
                              go_meet
                              exact ⟨mx, ps, pa, pc, ⟨(heap_setCell_other _ _ _ _ (by show Q ≠ X; omega)).trans HP6.out, (H5.out.2.trans HK6.out).setNew _ _ (by have := HXE.out; omega) _⟩, heap_setCell_same _ _ 3 _ _ _ HX6.out, HWY, .inr ⟨HHE3.out, HRR.out⟩⟩
                          · have b3 : (M3.e == 0) = false := by rw [beq_eq_false_iff_ne]; exact he3
                            have HHE3 := Lib.hid he3
                            clear he3
                            go_wp2_with fail
                            go_meet
                            exact ⟨M3, [], none, 0, H5, HX5, WyAt.with HFIT.out (by unfold maxLen; omega) (ps := []) (Sl.nil _ _ _ _) (PcsAt.nil _), .inl ⟨HHE3.out, rfl, rfl⟩⟩
                          -- E3
                        case rest =>
                          obtain ⟨mx, ps, pa, pc, H6, HX6, HWY, HRES⟩ := hcut
                          clear H5 HX5 HB5 c0 c1 c2 c3 c4 fz x0 x1 x2 fx
                          rename_i hk
                          refine hk _ _ ?_
                          clear hk
                          go_step
                          obtain ⟨c0, c1, c2, c3, c4, fz⟩ := H6.out.1.cells
                          have HMX : Hid (mx.i ≤ s.size ∧ mr.i ≤ mx.i ∧ mx.n ≤ mx.i ∧ (mx.e = 0 → mx.i < s.size ∧ mr.i < mx.i)) := by
                            rcases HRES.out with ⟨h1, h2, h3⟩ | ⟨h1, h2⟩
                            · subst h2; exact ⟨by omega, by omega, by omega, fun h => absurd h h1⟩
                            · have hmo := mopen_ok (s := s) (d := d) (kd := kd) (ws := ws) (m := mr) (by rw [HOP.out]) (by rw [HOP.out]; exact h1)
                              rw [HOP.out] at hmo
                              simp only at hmo
                              have h3b : M3.i ≤ s.size := by omega
                              have hmm := mloop_mono (s := s) (d := d + 1) (cnt := cn || decide (kd = 3)) (m := M3) (out := []) (pl := []) h3b (by omega)
                              have hmn := mloop_n (s := s) (d := d + 1) (cnt := cn || decide (kd = 3)) (m := M3) (out := []) (pl := []) h3b (by omega) (by omega)
                              rw [← h2] at hmm hmn
                              simp only at hmm hmn
                              refine ⟨hmm.2.1, by omega, hmn, fun h => ?_⟩
                              obtain ⟨h4, _⟩ := hmm.2.2 h (by omega)
                              exact ⟨h4, by omega⟩
                          have hmx := HMX.out.1
                          go_cut [] from 127 to 138 (fun wx => Hid (MsAt Q T s (mclose mx) wx ∧ Kept [Q] w2 wx) ∧ Hid (wx.heap[X]? = some (.cells #[.string W.wd, .int .i64 W.ex, .int .i64 W.fm, .slice pa ps.length pc] 94 (0, 0))) ∧ Hid (WyAt (veil (own1 (bel (G + 1)) (.slice va ws.length vc)) wx) (W.withPs ps) [.string W.wd, .int .i64 W.ex, .int .i64 W.fm, .slice pa ps.length pc]))
                          case first =>
                            -- S4
                            by_cases hex : mx.e = 0
                            · have b4 : (mx.e == 0) = true := by rw [beq_iff_eq]; exact hex
                              have HE : Hid (mclose mx = mx.at (mx.i + 1)) := by show _ = _; unfold mclose; rw [if_pos hex]
                              clear hex
                              go_wp2_with fail
                              go_meet
                              rw [HE.out]
                              refine ⟨⟨H6.out.1.set1 (mx.i + 1), H6.out.2.set Q 1 (by simp) _⟩, (heap_setCell_other _ _ _ _ (by show X ≠ Q; omega)).trans HX6.out, HWY.out.keeps (Keeps.kept ((Kept.refl [Q] _).set Q 1 (by simp) _) ?_)⟩
                              intro b hb
                              simp at hb
                              subst hb
                              have := H2.out.g
                              simp [own1, bel]; omega
                            · have b4 : (mx.e == 0) = false := by rw [beq_eq_false_iff_ne]; exact hex
                              have HE : Hid (mclose mx = mx) := by show _ = _; unfold mclose; rw [if_neg hex]
                              clear hex
                              go_wp2_with fail
                              go_meet
                              rw [HE.out]
                              exact ⟨H6, HX6, HWY⟩
                            -- E4
                          case rest =>
                            obtain ⟨H7, HX7, HW7⟩ := hcut
                            clear H6 HX6 HWY c0 c1 c2 c3 c4 fz
                            have HNX : Hid (R = if isOther kd W = true then mwend s kd u (mclose mx) (ws ++ [W.withPs ps]) else mways s d cn kd u (mclose mx) (ws ++ [W.withPs ps])) := by
                              show _ = _
                              rw [HQ.out]
                              rcases HRES.out with ⟨h1, h2, h3⟩ | ⟨h1, h2⟩
                              · subst h2 h3
                                have hmc : mclose mx = mx := by unfold mclose; rw [if_neg h1]
                                have hwp : W.withPs [] = W := by
                                  have := HPS.out
                                  cases W with | mk a b c e => simp only [Wy.ps] at this; subst this; rfl
                                rw [hmc, hwp, mways_bad h1, ite_self]
                                rw [mways_sign HHE.out (by rw [HOP.out]) (by rw [HOP.out]; exact h1), HOP.out]
                              · have h3b : mr.i ≤ s.size := hrb
                                have := mways_go (name := u) h3b HHE.out (by rw [HOP.out]) (by rw [HOP.out]; exact h1) (mx, ps) (by rw [HOP.out]; exact h2)
                                rw [this, HOP.out]
                            have HB7 := Lib.hid (H2.out.call hQ H7.out.1 H7.out.2)
                            have HMC : Hid ((mclose mx).i ≤ s.size ∧ mr.i ≤ (mclose mx).i ∧ (mclose mx).n ≤ (mclose mx).i ∧ ((mclose mx).e = 0 → mr.i < (mclose mx).i)) := by
                              have h1 := HMX.out
                              have h2 := mclose_le mx
                              have h3 := mclose_n mx
                              refine ⟨?_, by omega, by omega, fun h => ?_⟩
                              · unfold mclose
                                split
                                · rename_i hx; exact (h1.2.2.2 hx).1
                                · exact h1.1
                              · have hx : mx.e = 0 := by
                                  unfold mclose at h
                                  split at h
                                  · assumption
                                  · exact h
                                have := (h1.2.2.2 hx).2
                                omega
                            generalize mclose mx = mz at H7 HNX HB7 HMC
                            clear HRES HMX hmx HQ HOP HMO
                            obtain ⟨x0, x1, x2, fx⟩ := three_of_block HB7.out.pb
                            obtain ⟨z0, z1, z2, z3, zf⟩ := four_of_block HX7.out
                            obtain ⟨vi, hvi, hv0, hv1, hv2⟩ := info_parts infoWay
                            rename_i hk
                            refine hk _ _ ?_
                            clear hk
                            go_upto_region 31 with fail
                            have HROW := Lib.hid (mown_below HB7.out.own (below_alloc' wc (.cells #[.string W.wd, .int .i64 W.ex, .int .i64 W.fm, .slice pa ps.length pc] 94)))
                            have HNEW := Lib.hid (mSl_lit wc [.string W.wd, .int .i64 W.ex, .int .i64 W.fm, .slice pa ps.length pc] 94 4 rfl)
                            have HLT := Lib.hid HB7.out.lt
                            have HB3 : Hid (∀ w3, (wc.alloc (.cells #[.string W.wd, .int .i64 W.ex, .int .i64 W.fm, .slice pa ps.length pc] 94)).grownBy w3 (Value.slice va ws.length vc).ownBlock → w3.heap[G]? = wc.heap[G]? ∧ w3.heap[X]? = wc.heap[X]?) := by
                              intro w3 hg
                              have hXl := (Array.getElem?_eq_some_iff.1 HX7.out).1
                              have hol := HB7.out.own.lt
                              refine ⟨(hg.block G (by simp; have := HLT.out; omega) (fun e => by have := (hol G e.symm).1; omega)).trans (heap_alloc_old _ _ HLT.out), (hg.block X (by simp; omega) (fun e => by have := HOWN.out X e.symm; have := HXE.out; omega)).trans (heap_alloc_old _ _ hXl)⟩
                            go_cut [] from 139 to 144 (fun wx => ∃ (v' : Value) (rows' : List Value), Hid (BrIn Q T s mz w wx kd u (ws ++ [W.withPs ps]) v' rows' G) ∧ Hid (wx.heap[X]? = some (.cells #[.string W.wd, .int .i64 W.ex, .int .i64 W.fm, .slice pa ps.length pc] 94 (0, 0))))
                            case first =>
                              -- S5
                              go_wp2_with (at_builtin; refine wpList_append_sl _ rfl _ _ 69 rfl (G + 1) 94 vi (.agg #[.string ⟨#[]⟩, .int .i64 0, .int .i64 0, .slice none 0 0]) 4 56 Tryz.underlying69 hvi hv0 hv1 hv2 rfl (by decide) (.slice va ws.length vc) ws.length rows rfl HROW.out _ 1 _ rfl HNEW.out (by simp [Value.oneCell']) (by unfold maxLen; omega) (by omega) (by simp; have := HLT.out; omega) ?_; intro v3 w3 hown3 hgr3 hat3; obtain ⟨a3, c3, rfl⟩ := ownsRow_form hown3; obtain ⟨e1, e2⟩ := HB3.out _ hgr3; have hb3 := e1.trans HB7.out.pb; have HX3 := Lib.hid (e2.trans HX7.out); have fg3 : ∀ j, w3.frozen? ⟨G, j, none⟩ = false := fun j => frozenT hb3; have cg3 : w3.cell? ⟨G, 2, none⟩ = some (.slice va ws.length vc) := cellT hb3 rfl; have HF := Lib.hid (HB7.out.more hQ HW7.out hown3 hgr3 hat3); clear hown3 hgr3 hat3 e1 e2 hb3)
                              go_meet
                              exact ⟨_, _, HF, (heap_setCell_other _ _ _ _ (by show X ≠ G; omega)).trans HX3.out⟩
                              -- E5
                            case rest =>
                              obtain ⟨v', rows', H8, HX8⟩ := hcut
                              clear HB7 HX7 HW7 H7 HROW HNEW HLT HB3 x0 x1 x2 fx z0 z1 z2 z3 zf hvi hv0 hv1 hv2
                              obtain ⟨wa, wv, rfl⟩ := ownsRow_form H8.out.own
                              obtain ⟨x0, x1, x2, fx⟩ := three_of_block H8.out.pb
                              obtain ⟨z0, z1, z2, z3, zf⟩ := four_of_block HX8.out
                              have HOT := Lib.hid (gother_any kd W (.slice pa ps.length pc) wc ⟨_, _, _, rfl⟩)
                              cases ho : isOther kd W with
                              | true =>
                                rw [ho] at HOT
                                have HQ3 : Hid (R = mwend s kd u mz (ws ++ [W.withPs ps])) := by show _ = _; rw [HNX.out, if_pos ho]
                                clear ho HNX
                                go_wp2_with (go_at_call 54; refine HOT.out.mono ?_; rintro e w9 ⟨rfl, hb⟩; have H9 := Lib.hid (H8.out.on hQ hb); clear hb)
                                go_meet
                                exact ⟨mz, _, _, rows', H9, HQ3, HMC.out.1⟩
                              | false =>
                                rw [ho] at HOT
                                have HQ3 : Hid (R = mways s d cn kd u mz (ws ++ [W.withPs ps])) := by show _ = _; rw [HNX.out, if_neg (by rw [ho]; simp)]
                                clear ho HNX
                                go_wp2_with (go_at_call 54; refine HOT.out.mono ?_; rintro e w9 ⟨rfl, hb⟩; have H9 := Lib.hid (H8.out.on hQ hb); clear hb)
                                go_roundw
                                case rel => exact ⟨mz, _, _, rows', H9, HQ3, HMC.out.1, HMC.out.2.2.1, fun h => by have := HMC.out.2.2.2 h; rw [List.length_append, List.length_singleton]; omega⟩
                                case measure =>
                                  rw [HMU.out, if_neg (by rw [HHE.out]; simp), H9.out.p.mu]
                                  have := HMC.out
                                  split
                                  · omega
                                  · rename_i hz
                                    have := HMC.out.2.2.2 (by simpa using hz)
                                    omega
                  · have bw : (mw.e != 0) = true := by rw [bne_iff_ne]; exact hew
                    have HQ2 : Hid (R = mwend s kd u mw ws) := by
                      show _ = _
                      rw [HQ.out, mways_word HHE.out (by rw [HOP.out, if_pos hew]), HOP.out, if_pos hew]
                    clear hew
                    go_wp2_with fail
                    go_meet
                    exact ⟨mw, ws, _, rows, H3, HQ2, hwi⟩
                · have be : (mr.e == 0) = false := by rw [beq_eq_false_iff_ne]; exact he
                  have HQ2 : Hid (R = mwend s kd u mr ws) := by show _ = _; rw [HQ.out, mways_bad he]
                  clear he
                  go_wp2_with fail
                  go_meet
                  exact ⟨mr, ws, _, rows, HI, HQ2, hrb⟩
            case rest =>
              obtain ⟨mf, wl, vf, rf, HI, HQ, hfb⟩ := hcut
              obtain ⟨va, vc, rfl⟩ := ownsRow_form HI.out.own
              have HTK := Lib.hid (gtake_any Q T s 125 mf wc HI.out.p hfb hs)
              go_upto_region 34 with (go_at_call 52; refine HTK.out.mono ?_; rintro e w9 ⟨rfl, h1, h2⟩; have H9 := Lib.hid (HI.out.call hQ h1 h2); clear h1 h2)
              have HEQ2 : Hid (R = (Ms.take s 125 mf, .mk kd u wl)) := HQ.out
              obtain ⟨x0, x1, x2, fx⟩ := three_of_block H9.out.pb
              obtain ⟨y0, y1, y2, fy⟩ := three_of_block H9.out.rb
              have hfin := H9.out.fin hQ hkd3 (by unfold maxLen; omega)
              unfold put3 at hfin
              go_wp2_with fail
              generalize hwf : World.setCell _ _ _ = wf at hfin ⊢
              clear hwf x0 x1 x2 fx y0 y1 y2 fy
              obtain ⟨s0, s1, s2, _⟩ := three_of_block hfin.2.2.2
              exact bodyPost_ret (v := .agg #[.int .i64 kd, .string u, .slice va wl.length vc]) (by simp [results, Tryz.results32, go_sem, s0, s1, s2]) rfl ⟨[.int .i64 kd, .string u, .slice va wl.length vc], rfl, by rw [HEQ2.out]; exact hfin.1, hfin.2.1, by rw [HEQ2.out]; exact hfin.2.2.1⟩
        · have be3 : (M3.e != 0) = true := by rw [bne_iff_ne]; exact he3
          have HH : Hid (mhead s m = (u, none, M3)) := by show _ = _; rw [HGO2.out, if_pos he3]
          have HEQ : Hid (R = (M3, .mk 1 u [])) := by
            show _ = _
            rw [← HR.out, mbrace_done (by rw [HH.out]), HH.out]
          clear he3 HGO2 HH
          obtain ⟨x0, x1, x2, fx⟩ := three_of_block H4.out.pb
          obtain ⟨y0, y1, y2, fy⟩ := three_of_block H4.out.rb
          have hfin := H4.out.fin hQ (.inl rfl) (by unfold maxLen; omega)
          unfold put3 at hfin
          go_wp2_with fail
          generalize hwf : World.setCell _ _ _ = wf at hfin ⊢
          clear hwf c0 c1 c2 c3 c4 fz x0 x1 x2 fx y0 y1 y2 fy
          obtain ⟨s0, s1, s2, _⟩ := three_of_block hfin.2.2.2
          exact bodyPost_ret (v := .agg #[.int .i64 1, .string u, .slice none 0 0]) (by simp [results, Tryz.results32, go_sem, s0, s1, s2]) rfl ⟨[.int .i64 1, .string u, .slice none 0 0], rfl, by rw [HEQ.out]; exact hfin.1, hfin.2.1, by rw [HEQ.out]; exact hfin.2.2.1⟩
  · have be : (m'.e == 0) = false := by rw [beq_eq_false_iff_ne]; exact he
    have HH : Hid (mhead s m = (u, none, m')) := mhead_bad HW.out (by rw [if_neg (fun h => he h.1)]) he
    have HEQ : Hid (R = (m', .mk 1 u [])) := by
      show _ = _
      rw [← HR.out, mbrace_done (by rw [HH.out]), HH.out]
    have be2 : (m'.e != 0) = true := by rw [bne_iff_ne]; exact he
    clear he HH
    go_enter Tryz.func32, Tryz.ntmps32
    go_upto_region 5 with (go_at_call 49; refine HWD.out.mono ?_; rintro e w1 ⟨rfl, h1, h2⟩; have H1 := Lib.hid (And.intro h1 h2); obtain ⟨c0, c1, c2, c3, c4, fz⟩ := h1.cells; clear h1 h2)
    have hz1 := H1.out.2.size
    simp at hz1
    have H2 : Hid (BrIn Q T s m' w (w1.alloc (.cells #[.int .i64 1, .string u, .slice none 0 0] 71)) 1 u [] (.slice none 0 0) [] w1.heap.size) :=
      ⟨(heap_alloc_old _ _ (by omega)).trans H1.out.1, (((Kept.refl _ _).alloc _).trans H1.out.2).alloc _, (heap_alloc_old _ _ (by omega)).trans ((H1.out.2.block _ (by simp) (by simp; omega)).trans HB0.out), heap_alloc_new _ _, hz1, World.ownsRow_nil _ _ _ _, WysAt.nil _⟩
    obtain ⟨W1, hW1⟩ : ∃ W1, W1 = w1.alloc (.cells #[.int .i64 1, .string u, .slice none 0 0] 71) := ⟨_, rfl⟩
    rw [← hW1] at H2 ⊢
    clear hW1 H1 HB0 HM0 HWD HKEY c0 c1 c2 c3 c4 fz
    generalize w1.heap.size = G at H2 hz1 ⊢
    obtain ⟨c0, c1, c2, c3, c4, fz⟩ := H2.out.p.cells
    obtain ⟨x0, x1, x2, fx⟩ := three_of_block H2.out.pb
    obtain ⟨y0, y1, y2, fy⟩ := three_of_block H2.out.rb
    have hfin := H2.out.fin hQ (.inl rfl) (by unfold maxLen; omega)
    unfold put3 at hfin
    go_wp2_with fail
    generalize hwf : World.setCell _ _ _ = wf at hfin ⊢
    clear hwf c0 c1 c2 c3 c4 fz x0 x1 x2 fx y0 y1 y2 fy
    obtain ⟨s0, s1, s2, _⟩ := three_of_block hfin.2.2.2
    exact bodyPost_ret (v := .agg #[.int .i64 1, .string u, .slice none 0 0]) (by simp [results, Tryz.results32, go_sem, s0, s1, s2]) rfl ⟨[.int .i64 1, .string u, .slice none 0 0], rfl, by rw [HEQ.out]; exact hfin.1, hfin.2.1, by rw [HEQ.out]; exact hfin.2.2.1⟩
end Go.Proofs.YtdolpehcfifecaaGreatDoor
