/- (*parser).entries, the walk. Conditions: what value reads one level deeper. -/
import Derived.Test.YtejnoedlfbglcaaGreatDoorPsM
namespace Mh
open Go Go.RowKit
set_option linter.unusedVariables false
theorem ent_none {val : Tk → List UInt8 → Nat → Option (V × List UInt8 × Nat)} {brace : Bool} {n : Nat} {tok : Tk} {r : List UInt8} {k : Nat} {t : V} (h : skipF (r.length + 2) tok r = none) : entriesF val brace (n + 1) tok r k t = none := by
  unfold entriesF; rw [h]
theorem ent_end {val : Tk → List UInt8 → Nat → Option (V × List UInt8 × Nat)} {brace : Bool} {n : Nat} {tok tok1 : Tk} {r r1 : List UInt8} {k : Nat} {t : V} (h : skipF (r.length + 2) tok r = some (tok1, r1)) (he : tok1.ends brace = true) : entriesF val brace (n + 1) tok r k t = some (t, r1, k) := by
  unfold entriesF; rw [h]; simp only; rw [if_pos he]
theorem ent_other {val : Tk → List UInt8 → Nat → Option (V × List UInt8 × Nat)} {brace : Bool} {n : Nat} {tok tok1 : Tk} {r r1 : List UInt8} {k : Nat} {t : V} (h : skipF (r.length + 2) tok r = some (tok1, r1)) (he : tok1.ends brace = false) (hw : ∀ w, tok1 = .word w → isKeyL w = false) : entriesF val brace (n + 1) tok r k t = none := by
  unfold entriesF; rw [h]; simp only; rw [if_neg (by rw [he]; simp)]
  cases tok1 with
  | word w => simp only; rw [if_pos (hw w rfl)]
  | _ => rfl
theorem ent_twice {val : Tk → List UInt8 → Nat → Option (V × List UInt8 × Nat)} {brace : Bool} {n : Nat} {tok : Tk} {r r1 : List UInt8} {k : Nat} {t : V} {w : List UInt8} (h : skipF (r.length + 2) tok r = some (.word w, r1)) (hk : isKeyL w = true) (hh : hit ⟨w.toArray⟩ t.kys = true) : entriesF val brace (n + 1) tok r k t = none := by
  unfold entriesF; rw [h]; simp only; rw [if_neg (by simp [Tk.ends]), if_neg (by rw [hk]; simp), if_pos hh]
theorem ent_word {val : Tk → List UInt8 → Nat → Option (V × List UInt8 × Nat)} {brace : Bool} {n : Nat} {tok : Tk} {r r1 : List UInt8} {k : Nat} {t : V} {w : List UInt8} (h : skipF (r.length + 2) tok r = some (.word w, r1)) (hk : isKeyL w = true) (hh : hit ⟨w.toArray⟩ t.kys = false) : entriesF val brace (n + 1) tok r k t = (match nextF false false r1 with
    | none => none
    | some (tok2, r2) => match val tok2 r2 k with
      | none => none
      | some (x, r3, k3) => match nextF false false r3 with
        | none => none
        | some (tok4, r4) => if (tok4.line || tok4.ends brace) = true then entriesF val brace n tok4 r4 k3 (putV t ⟨w.toArray⟩ x) else none) := by
  conv => lhs; unfold entriesF
  rw [h]; simp only; rw [if_neg (by simp [Tk.ends]), if_neg (by rw [hk]; simp), if_neg (by rw [hh]; simp)]
  cases nextF false false r1 with
  | none => rfl
  | some p =>
    obtain ⟨tok2, r2⟩ := p
    simp only
    cases val tok2 r2 k with
    | none => rfl
    | some p =>
      obtain ⟨x, r3, k3⟩ := p
      simp only
      cases nextF false false r3 with
      | none => rfl
      | some p => rfl
end Mh
namespace Go.Proofs.YtejnoedlfbglcaaGreatDoor
open Go.RowKit Mh
set_option linter.unusedVariables false
theorem wrong_tok (Q T : Nat) (s : ByteArray) (q : Ps) (w : World) (h : PsAt Q T s q w) (he : q.e = 0) : Calls Tryz.prog 49 #[.pointer (some ⟨Q, 0, none⟩)] w fun en w' => en = .returned (.tuple #[]) ∧ Hid (PsAt Q T s { q with at_ := q.ta, e := 8 } w' ∧ Kept [Q] w w') := by
  have HF := Lib.hid (fail_any Q T s q q.ta 8 w h)
  rw [if_pos he] at HF
  obtain ⟨c0, c1, c2, c3, c4, c5, c6, c7, fz⟩ := h.cells
  clear h he
  go_enter Tryz.func49, Tryz.ntmps49
  go_wp2_with (go_at_call 46; refine HF.out.mono ?_; rintro e w2 ⟨rfl, hp, hk⟩; have H2 : Hid (PsAt Q T s { q with at_ := q.ta, e := 8 } w2 ∧ Kept [Q] w w2) := ⟨hp, hk⟩; clear hp hk)
  go_end0
  exact ⟨rfl, H2⟩
theorem skip_done {m : Nat} {tok : Tk} {r : List UInt8} (h : tok.line = false) (hm : 1 ≤ m) : skipF m tok r = some (tok, r) := by
  obtain ⟨m, rfl⟩ : ∃ j, m = j + 1 := ⟨m - 1, by omega⟩
  unfold skipF; rw [if_neg (by rw [h]; simp)]
set_option maxRecDepth 100000 in
set_option maxHeartbeats 8000000 in
theorem entries_any (d : Nat) (hd : d ≤ 7) (HV0 : ValueOk d) : EntOk d := by
  intro brace Q T s q tok k w hp he hi htk hvs hk hs hev hQ2
  have HV := Lib.hid (HV0 Q T s)
  have hQ : Q < w.heap.size := (Array.getElem?_eq_some_iff.1 hp).1
  have h3 := hev.size
  have HEV := Lib.hid hev
  have H0 := Lib.hid (EnIn.start hp)
  have HS0 : Hid (EnSt d brace s (entriesF (valueF d) brace ((s.data.toList.drop q.i).length + 1) tok (s.data.toList.drop q.i) k (.mk 6 false 0 ⟨#[]⟩ [] [])) q (.mk 6 false 0 ⟨#[]⟩ [] [])) := .inr ⟨he, tok, _, k, htk, hi, hvs, hk, by rw [drop_len]; omega, rfl⟩
  generalize entriesF (valueF d) brace ((s.data.toList.drop q.i).length + 1) tok (s.data.toList.drop q.i) k (.mk 6 false 0 ⟨#[]⟩ [] []) = o at HS0 ⊢
  have HIN : Hid (∀ q (t : V), EnSt d brace s o q t → q.e = 0 → ∃ (tok : Tk) (n k : Nat), TkOf s q tok ∧ q.i ≤ s.size ∧ q.vs = (k : Int) ∧ k ≤ 1000 ∧ s.size - q.i + 1 ≤ n ∧ o = entriesF (valueF d) brace n tok (s.data.toList.drop q.i) k t) := fun q t h he => by
    rcases h with ⟨h, _⟩ | ⟨_, h⟩
    · exact absurd he h
    · exact h
  have HTE : Hid (∀ t : Tk, t.fit → (tkK t == endI brace) = t.ends brace) := fun t h => (tk_ends brace h).symm
  obtain ⟨E, hE⟩ : ∃ E, E = endI brace := ⟨_, rfl⟩
  rw [← hE] at HTE ⊢
  obtain ⟨L, hL⟩ : ∃ L : Int, L = 8 - (d : Int) := ⟨_, rfl⟩
  have hL9 : (9 : Int) - d = L + 1 := by omega
  have hL1 : 1 ≤ L := by omega
  have hL2 : L ≤ 8 := by omega
  rw [← hL]
  rw [hL9] at HV
  unfold box6 box0 at H0
  clear hL hL9 hE hp he hi htk hvs hk hev HV0
  go_enter Tryz.func31, Tryz.ntmps31
  go_wp2_with fail
  obtain ⟨wo, rfl⟩ : ∃ wo : World, wo = w := ⟨_, rfl⟩
  go_loopw [] (fun wr => ∃ (q1 : Ps) (t : V) (ia : Option Addr) (ic : Nat) (ka : Option Addr) (kc : Nat), Hid (EnIn Q T s wo wr q1 t ia ic ka kc) ∧ Hid (EnSt d brace s o q1 t) ∧ Hid (TbP t q1.vs.toNat)) (fun wr => muW Q s wr)
  case atStart => exact ⟨q, _, _, _, _, _, H0, HS0, TbP.nil _⟩
  case round =>
    clear HS0 H0
    obtain ⟨q1, t, ia, ic, ka, kc, HI, HS, HTB⟩ := hrel
    obtain ⟨c0, c1, c2, c3, c4, c5, c6, c7, fz⟩ := HI.out.p.cells
    have HMU := Lib.hid HI.out.p.mu
    by_cases he : q1.e = 0
    case neg =>
      have be : (q1.e == 0) = false := beq_false_of_ne he
      have HE1 := Lib.hid he
      have HNO : Hid (o = none ∧ 0 ≤ q1.at_ ∧ q1.at_ ≤ s.size) := by
        rcases HS.out with ⟨_, h⟩ | ⟨h, _⟩
        · exact h
        · exact absurd h he
      clear he
      have hb0 := HI.out.b0
      have hbx := HI.out.bx
      unfold box0 at hb0
      unfold box6 at hbx
      obtain ⟨d0, d1, d2, d3, d4, d5⟩ := six_of_block hb0
      obtain ⟨f0, f1, f2, f3, f4, f5⟩ := six_open hb0
      obtain ⟨b0, b1, b2, b3, b4, b5⟩ := six_of_block hbx
      obtain ⟨e0, e1, e2, e3, e4, e5⟩ := six_open hbx
      clear hb0 hbx
      go_wp2_with fail
      have hfin := HI.out.done hQ
      unfold put6 at hfin
      generalize hwf : World.setCell _ _ _ = wf at hfin ⊢
      clear hwf d0 d1 d2 d3 d4 d5 f0 f1 f2 f3 f4 f5 b0 b1 b2 b3 b4 b5 e0 e1 e2 e3 e4 e5
      obtain ⟨s0, s1, s2, s3, s4, s5⟩ := six_of_block hfin.1
      exact bodyPost_ret (v := .agg (vcs t ia ic ka kc).toArray) (by simp [results, Tryz.results31, go_sem, vcs, s0, s1, s2, s3, s4, s5] <;> rfl) rfl ⟨q1, _, _, rfl, hfin.2.1, hfin.2.2.1, hfin.2.2.2, by rw [HNO.out.1]; exact ⟨HE1.out, HNO.out.2⟩⟩

    case pos =>
      have be : (q1.e == 0) = true := by rw [he]; rfl
      have HE1 := Lib.hid he
      obtain ⟨tok, n, k, htk, hi1, hvs1, hk1, hn1, ho1⟩ := HIN.out _ _ HS.out he
      obtain ⟨n, rfl⟩ : ∃ m, n = m + 1 := ⟨n - 1, by omega⟩
      obtain ⟨so, hso⟩ : ∃ so, so = skipF ((s.data.toList.drop q1.i).length + 2) tok (s.data.toList.drop q1.i) := ⟨_, rfl⟩
      have HSK0 : Hid (SkSt s so k q1.i q1) := .inr ⟨he, tok, _, htk, ⟨Nat.le_refl _, hi1⟩, hvs1, .inr (by rw [drop_len]; omega), hso⟩
      have HSO := Lib.hid hso
      have HO1 := Lib.hid ho1
      have HVS1 := Lib.hid hvs1
      have HT1 := Lib.hid htk
      clear hso ho1 hvs1 htk he HS
      go_wp2_with fail
      obtain ⟨wp, hwp⟩ : ∃ wp : World, wr = wp := ⟨_, rfl⟩
      subst hwp
      go_loopw [] (fun wy => ∃ q2 : Ps, Hid (EnIn Q T s wo wy q2 t ia ic ka kc) ∧ Hid (SkSt s so k q1.i q2)) (fun wy => muW Q s wy)
      case atStart => exact ⟨q1, HI, HSK0⟩
      case round =>
        clear c0 c1 c2 c3 c4 c5 c6 c7 fz be HSK0
        obtain ⟨q2, HI2, HSK⟩ := hrel
        obtain ⟨c0, c1, c2, c3, c4, c5, c6, c7, fz⟩ := HI2.out.p.cells
        have HMU2 := Lib.hid HI2.out.p.mu
        by_cases he2 : q2.e = 0
        case neg =>
          have be2 : (q2.e == 0) = false := beq_false_of_ne he2
          have be3 : (q2.e != 0) = true := by rw [bne_iff_ne]; exact he2
          have HE2 := Lib.hid he2
          have HNO : Hid (o = none ∧ 0 ≤ q2.at_ ∧ q2.at_ ≤ s.size) := by
            rcases HSK.out with ⟨_, h, h2⟩ | ⟨h, _⟩
            · rw [HO1.out]
              exact ⟨ent_none (HSO.out.symm.trans h), h2⟩
            · exact absurd h he2
          clear he2
          have hb0 := HI2.out.b0
          have hbx := HI2.out.bx
          unfold box0 at hb0
          unfold box6 at hbx
          obtain ⟨d0, d1, d2, d3, d4, d5⟩ := six_of_block hb0
          obtain ⟨f0, f1, f2, f3, f4, f5⟩ := six_open hb0
          obtain ⟨b0, b1, b2, b3, b4, b5⟩ := six_of_block hbx
          obtain ⟨e0, e1, e2, e3, e4, e5⟩ := six_open hbx
          clear hb0 hbx
          go_wp2_with fail
          have hfin := HI2.out.done hQ
          unfold put6 at hfin
          generalize hwf : World.setCell _ _ _ = wf at hfin ⊢
          clear hwf d0 d1 d2 d3 d4 d5 f0 f1 f2 f3 f4 f5 b0 b1 b2 b3 b4 b5 e0 e1 e2 e3 e4 e5
          obtain ⟨s0, s1, s2, s3, s4, s5⟩ := six_of_block hfin.1
          exact bodyPost_ret (v := .agg (vcs t ia ic ka kc).toArray) (by simp [results, Tryz.results31, go_sem, vcs, s0, s1, s2, s3, s4, s5] <;> rfl) rfl ⟨q2, _, _, rfl, hfin.2.1, hfin.2.2.1, hfin.2.2.2, by rw [HNO.out.1]; exact ⟨HE2.out, HNO.out.2⟩⟩
        case pos =>
          have be2 : (q2.e == 0) = true := by rw [he2]; rfl
          have be3 : (q2.e != 0) = false := by rw [bne_eq_false_iff_eq]; exact he2
          have HE2 := Lib.hid he2
          have hsk : ∃ (tok2 : Tk) (m : Nat), TkOf s q2 tok2 ∧ (q1.i ≤ q2.i ∧ q2.i ≤ s.size) ∧ q2.vs = (k : Int) ∧ ((1 ≤ m ∧ tok2 = .fin) ∨ s.size - q2.i + 2 ≤ m) ∧ so = skipF m tok2 (s.data.toList.drop q2.i) := by
            rcases HSK.out with ⟨h, _⟩ | ⟨_, h⟩
            · exact absurd he2 h
            · exact h
          obtain ⟨tok2, m, htk2, ⟨hi12, hi2⟩, hvs2, hm, hso2⟩ := hsk
          have HT2 := Lib.hid htk2
          have HM := Lib.hid hm
          have HSO2 := Lib.hid hso2
          have HVS2 := Lib.hid hvs2
          have hq2 := htk2.1
          have hline := tk_line htk2.2.2.2.1
          rw [← hq2] at hline
          clear he2 htk2 hm hso2 hvs2 HSK
          cases hl : tok2.line with
          | true =>
            rw [hl] at hline
            have HLN := Lib.hid hl
            have hknz : q2.k ≠ 0 := by
              intro e
              rw [e] at hline
              cases hline
            have HNX := Lib.hid (next_at Q T s q2 false wr HI2.out.p HE2.out hi2 hs)
            have HKNZ := Lib.hid hknz
            have hb : (q2.k == 10) = true ∨ ((q2.k == 10) = false ∧ (q2.k == 59) = true) := by
              cases hb10 : (q2.k == 10) with
              | true => exact .inl rfl
              | false => rw [hb10] at hline; exact .inr ⟨rfl, by simpa using hline.symm⟩
            clear hline hl hq2 hknz
            rcases hb with hb10 | ⟨hb10, hb59⟩
            all_goals
              go_wp2_with (go_at_call 30; refine HNX.out.mono ?_; rintro e w4 ⟨q4, rfl, H4⟩)
              have HI4 := Lib.hid (HI2.out.on hQ H4.out.1 H4.out.2.1)
              have HMM : Hid (s.size - q2.i + 2 ≤ m) := by
                rcases HM.out with ⟨_, h⟩ | h
                · have h2 := HLN.out; rw [h] at h2; cases h2
                · exact h
              have HS4 := Lib.hid (SkSt.next H4.out.2.2 hi12 hi2 HVS2.out HLN.out HMM.out HSO2.out)
              have HLT : Hid (muP s q4 < muP s q2) := H4.out.2.2.mu (Nat.le_refl _) HE2.out hi2 HKNZ.out
              go_roundw
              case rel => exact ⟨q4, HI4, HS4⟩
              case measure => rw [HMU2.out, HI4.out.p.mu]; exact HLT.out
          | false =>
            rw [hl] at hline
            have HSD : Hid (skipF ((s.data.toList.drop q1.i).length + 2) tok (s.data.toList.drop q1.i) = some (tok2, s.data.toList.drop q2.i)) := by
              show _ = _
              rw [← HSO.out, HSO2.out]
              exact skip_done hl (by rcases HM.out with ⟨h, _⟩ | h; exact h; omega)
            have hb10 : (q2.k == 10) = false := by cases h : (q2.k == 10) with
              | false => rfl
              | true => rw [h] at hline; cases hline
            have hb59 : (q2.k == 59) = false := by rw [hb10] at hline; simpa using hline.symm
            clear hl hline HSO HSO2 HM
            cases hen : tok2.ends brace with
            | true =>
              have hbe : (q2.k == E) = true := by have := HTE.out tok2 HT2.out.2.2.2.1; rw [hen, ← hq2] at this; exact this
              have HNO : Hid (o = some (t, s.data.toList.drop q2.i, k)) := by show _ = _; rw [HO1.out]; exact ent_end HSD.out hen
              clear hen hq2
              have hb0 := HI2.out.b0
              have hbx := HI2.out.bx
              unfold box0 at hb0
              unfold box6 at hbx
              obtain ⟨d0, d1, d2, d3, d4, d5⟩ := six_of_block hb0
              obtain ⟨f0, f1, f2, f3, f4, f5⟩ := six_open hb0
              obtain ⟨b0, b1, b2, b3, b4, b5⟩ := six_of_block hbx
              obtain ⟨e0, e1, e2, e3, e4, e5⟩ := six_open hbx
              clear hb0 hbx
              go_wp2_with fail
              have hfin := HI2.out.done hQ
              unfold put6 at hfin
              generalize hwf : World.setCell _ _ _ = wf at hfin ⊢
              clear hwf d0 d1 d2 d3 d4 d5 f0 f1 f2 f3 f4 f5 b0 b1 b2 b3 b4 b5 e0 e1 e2 e3 e4 e5
              obtain ⟨s0, s1, s2, s3, s4, s5⟩ := six_of_block hfin.1
              exact bodyPost_ret (v := .agg (vcs t ia ic ka kc).toArray) (by simp [results, Tryz.results31, go_sem, vcs, s0, s1, s2, s3, s4, s5] <;> rfl) rfl ⟨q2, _, _, rfl, hfin.2.1, hfin.2.2.1, hfin.2.2.2, by rw [HNO.out]; exact ⟨HE2.out, hi2, rfl, HVS2.out, rfl⟩⟩
            | false =>
              have hbe : (q2.k == E) = false := by have := HTE.out tok2 HT2.out.2.2.2.1; rw [hen, ← hq2] at this; exact this
              have HEN := Lib.hid hen
              clear hen hq2
              by_cases hw1 : q2.k = 1
              case neg =>
                have b1 : (q2.k != 1) = true := by rw [bne_iff_ne]; exact hw1
                have HNO : Hid (o = none) := by show _ = _; rw [HO1.out]; exact ent_other HSD.out HEN.out (fun w e => absurd (HT2.out.1.trans (by rw [e]; rfl)) hw1)
                have HWT := Lib.hid (wrong_tok Q T s q2 wr HI2.out.p HE2.out)
                clear hw1
                go_wp2_with fail
                refine HWT.out.mono ?_
                rintro e w4 ⟨rfl, H4⟩
                have HI4 := Lib.hid (HI2.out.on hQ H4.out.1 H4.out.2)
                clear HWT c0 c1 c2 c3 c4 c5 c6 c7
                have hb0 := HI4.out.b0
                have hbx := HI4.out.bx
                unfold box0 at hb0
                unfold box6 at hbx
                obtain ⟨d0, d1, d2, d3, d4, d5⟩ := six_of_block hb0
                obtain ⟨f0, f1, f2, f3, f4, f5⟩ := six_open hb0
                obtain ⟨b0, b1, b2, b3, b4, b5⟩ := six_of_block hbx
                obtain ⟨e0, e1, e2, e3, e4, e5⟩ := six_open hbx
                clear hb0 hbx
                go_wp2_with fail
                have hfin := HI4.out.done hQ
                unfold put6 at hfin
                generalize hwf : World.setCell _ _ _ = wf at hfin ⊢
                clear hwf d0 d1 d2 d3 d4 d5 f0 f1 f2 f3 f4 f5 b0 b1 b2 b3 b4 b5 e0 e1 e2 e3 e4 e5
                obtain ⟨s0, s1, s2, s3, s4, s5⟩ := six_of_block hfin.1
                exact bodyPost_ret (v := .agg (vcs t ia ic ka kc).toArray) (by simp [results, Tryz.results31, go_sem, vcs, s0, s1, s2, s3, s4, s5] <;> rfl) rfl ⟨_, _, _, rfl, hfin.2.1, hfin.2.2.1, hfin.2.2.2, by rw [HNO.out]; exact ⟨(show (8 : Int) ≠ 0 by decide), HT2.out.2.2.1⟩⟩
              case pos =>
                have b1 : (q2.k != 1) = false := by rw [bne_eq_false_iff_eq]; exact hw1
                obtain ⟨u, hu⟩ := (tk_word HT2.out.2.2.2.1).1 (HT2.out.1.symm.trans hw1)
                subst hu
                have htx : q2.tx = ⟨u.toArray⟩ := HT2.out.2.1
                have htd : q2.tx.data.toList = u := by rw [htx]
                have HTX := Lib.hid htx
                have hts : q2.tx.size ≤ 1000000000 := Nat.le_trans HT2.out.2.2.2.2 hs
                have HK := Lib.hid (fun w => isKey_any q2.tx w (by unfold maxLen; omega))
                rw [htd] at HK
                clear hw1 htx htd
                cases hik : isKeyL u with
                | false =>
                  have HNO : Hid (o = none) := by show _ = _; rw [HO1.out]; exact ent_other HSD.out HEN.out (fun w e => by cases e; exact hik)
                  have HWT := Lib.hid (wrong_tok Q T s q2 wr HI2.out.p HE2.out)
                  rw [hik] at HK
                  clear hik
                  go_wp2_with (go_at_call 48; refine (HK.out _).mono ?_; rintro e w' ⟨rfl, hww⟩; obtain rfl : wr = w' := hww)
                  refine HWT.out.mono ?_
                  rintro e w4 ⟨rfl, H4⟩
                  have HI4 := Lib.hid (HI2.out.on hQ H4.out.1 H4.out.2)
                  clear HWT c0 c1 c2 c3 c4 c5 c6 c7
                  have hb0 := HI4.out.b0
                  have hbx := HI4.out.bx
                  unfold box0 at hb0
                  unfold box6 at hbx
                  obtain ⟨d0, d1, d2, d3, d4, d5⟩ := six_of_block hb0
                  obtain ⟨f0, f1, f2, f3, f4, f5⟩ := six_open hb0
                  obtain ⟨b0, b1, b2, b3, b4, b5⟩ := six_of_block hbx
                  obtain ⟨e0, e1, e2, e3, e4, e5⟩ := six_open hbx
                  clear hb0 hbx
                  go_wp2_with fail
                  have hfin := HI4.out.done hQ
                  unfold put6 at hfin
                  generalize hwf : World.setCell _ _ _ = wf at hfin ⊢
                  clear hwf d0 d1 d2 d3 d4 d5 f0 f1 f2 f3 f4 f5 b0 b1 b2 b3 b4 b5 e0 e1 e2 e3 e4 e5
                  obtain ⟨s0, s1, s2, s3, s4, s5⟩ := six_of_block hfin.1
                  exact bodyPost_ret (v := .agg (vcs t ia ic ka kc).toArray) (by simp [results, Tryz.results31, go_sem, vcs, s0, s1, s2, s3, s4, s5] <;> rfl) rfl ⟨_, _, _, rfl, hfin.2.1, hfin.2.2.1, hfin.2.2.2, by rw [HNO.out]; exact ⟨(show (8 : Int) ≠ 0 by decide), HT2.out.2.2.1⟩⟩
                | true =>
                  have HIK := Lib.hid hik
                  rw [hik] at HK
                  clear hik
                  have hv1 : q1.vs.toNat = k := by rw [HVS1.out]; rfl
                  have HTP : Hid (TbP t k) := by have := HTB.out; rw [hv1] at this; exact this
                  have HFD := Lib.hid (find_any t _ q2.tx wr (HI2.out.at_.keeps (Keeps.bare _ _)) HTP.out.asc (by have := HTP.out.le; have := HTP.out.len; omega))
                  rw [vcs_arr] at HFD
                  clear hv1
                  have hb0 := HI2.out.b0
                  have hbx := HI2.out.bx
                  unfold box0 at hb0
                  unfold box6 at hbx
                  obtain ⟨d0, d1, d2, d3, d4, d5⟩ := six_of_block hb0
                  obtain ⟨f0, f1, f2, f3, f4, f5⟩ := six_open hb0
                  obtain ⟨b0, b1, b2, b3, b4, b5⟩ := six_of_block hbx
                  obtain ⟨e0, e1, e2, e3, e4, e5⟩ := six_open hbx
                  clear hb0 hbx
                  go_wp2_with (go_at_call 48; refine (HK.out _).mono ?_; rintro e w' ⟨rfl, hww⟩; obtain rfl : wr = w' := hww)
                  refine HFD.out.mono ?_
                  rintro e w3 ⟨rfl, hb⟩
                  have HI3 := Lib.hid (HI2.out.on hQ ((hb.block Q (by have := HI2.out.size; omega)).trans HI2.out.p) (Kept.of_below hb))
                  clear hb HFD HK c0 c1 c2 c3 c4 c5 c6 c7 fz b0 b1 b2 b3 b4 b5 d0 d1 d2 d3 d4 d5 f0 f1 f2 f3 f4 f5 e0 e1 e2 e3 e4 e5
                  obtain ⟨c0, c1, c2, c3, c4, c5, c6, c7, fz⟩ := HI3.out.p.cells
                  cases hh : hit q2.tx t.kys with
                  | true =>
                    have HNO : Hid (o = none) := by show _ = _; rw [HO1.out]; exact ent_twice HSD.out HIK.out (by rw [← HTX.out]; exact hh)
                    have HF := Lib.hid (fail_any Q T s q2 q2.ta 6 w3.drew HI3.out.p)
                    rw [if_pos HE2.out] at HF
                    clear hh
                    go_wp2_with fail
                    go_still_tail 9, (by kernel_rfl)
                    go_wp2_with fail
                    refine HF.out.mono ?_
                    rintro e w4 ⟨rfl, hp4, hk4⟩
                    have HI4 := Lib.hid (HI3.out.on hQ hp4 ((Kept.refl [Q] w3).drew.trans hk4))
                    clear hp4 hk4 HF c0 c1 c2 c3 c4 c5 c6 c7 fz
                    have hb0 := HI4.out.b0
                    have hbx := HI4.out.bx
                    unfold box0 at hb0
                    unfold box6 at hbx
                    obtain ⟨d0, d1, d2, d3, d4, d5⟩ := six_of_block hb0
                    obtain ⟨f0, f1, f2, f3, f4, f5⟩ := six_open hb0
                    obtain ⟨b0, b1, b2, b3, b4, b5⟩ := six_of_block hbx
                    obtain ⟨e0, e1, e2, e3, e4, e5⟩ := six_open hbx
                    clear hb0 hbx
                    go_wp2_with fail
                    have hfin := HI4.out.done hQ
                    unfold put6 at hfin
                    generalize hwf : World.setCell _ _ _ = wf at hfin ⊢
                    clear hwf d0 d1 d2 d3 d4 d5 f0 f1 f2 f3 f4 f5 b0 b1 b2 b3 b4 b5 e0 e1 e2 e3 e4 e5
                    obtain ⟨s0, s1, s2, s3, s4, s5⟩ := six_of_block hfin.1
                    exact bodyPost_ret (v := .agg (vcs t ia ic ka kc).toArray) (by simp [results, Tryz.results31, go_sem, vcs, s0, s1, s2, s3, s4, s5] <;> rfl) rfl ⟨_, _, _, rfl, hfin.2.1, hfin.2.2.1, hfin.2.2.2, by rw [HNO.out]; exact ⟨(show (6 : Int) ≠ 0 by decide), HT2.out.2.2.1⟩⟩
                  | false =>
                    have HOW := Lib.hid (HO1.out.trans (ent_word HSD.out HIK.out (by rw [← HTX.out]; exact hh)))
                    have HHH := Lib.hid hh
                    have HNX := Lib.hid (next_at Q T s q2 false w3 HI3.out.p HE2.out hi2 hs)
                    rw [← HTX.out] at HOW
                    clear hh
                    go_wp2_with fail
                    refine HNX.out.mono ?_
                    rintro e w4 ⟨q4, rfl, H4⟩
                    have HI4 := Lib.hid (HI3.out.on hQ H4.out.1 H4.out.2.1)
                    have HSC := Lib.hid H4.out.2.2
                    clear HNX H4 c0 c1 c2 c3 c4 c5 c6 c7 fz
                    obtain ⟨c0, c1, c2, c3, c4, c5, c6, c7, fz⟩ := HI4.out.p.cells
                    cases hnx : nextF false false (s.data.toList.drop q2.i) with
                    | none =>
                      obtain ⟨g1, g2, g3, g4⟩ := HSC.out.bad hnx
                      have HNO : Hid (o = none ∧ q4.e ≠ 0 ∧ 0 ≤ q4.at_ ∧ q4.at_ ≤ s.size) := ⟨by rw [HOW.out, hnx], g1, g3, g4⟩
                      have b4 : (q4.e != 0) = true := by rw [bne_iff_ne]; exact g1
                      clear hnx g1 g2 g3 g4 HSC HOW
                      have hb0 := HI4.out.b0
                      have hbx := HI4.out.bx
                      unfold box0 at hb0
                      unfold box6 at hbx
                      obtain ⟨d0, d1, d2, d3, d4, d5⟩ := six_of_block hb0
                      obtain ⟨f0, f1, f2, f3, f4, f5⟩ := six_open hb0
                      obtain ⟨b0, b1, b2, b3, b4, b5⟩ := six_of_block hbx
                      obtain ⟨e0, e1, e2, e3, e4, e5⟩ := six_open hbx
                      clear hb0 hbx
                      go_wp2_with fail
                      have hfin := HI4.out.done hQ
                      unfold put6 at hfin
                      generalize hwf : World.setCell _ _ _ = wf at hfin ⊢
                      clear hwf d0 d1 d2 d3 d4 d5 f0 f1 f2 f3 f4 f5 b0 b1 b2 b3 b4 b5 e0 e1 e2 e3 e4 e5
                      obtain ⟨s0, s1, s2, s3, s4, s5⟩ := six_of_block hfin.1
                      exact bodyPost_ret (v := .agg (vcs t ia ic ka kc).toArray) (by simp [results, Tryz.results31, go_sem, vcs, s0, s1, s2, s3, s4, s5] <;> rfl) rfl ⟨q4, _, _, rfl, hfin.2.1, hfin.2.2.1, hfin.2.2.2, by rw [HNO.out.1]; exact HNO.out.2⟩
                    | some p =>
                      obtain ⟨tok3, r3⟩ := p
                      obtain ⟨g1, g2, g3, g4, g5⟩ := HSC.out.ok (by rw [drop_len]; omega) hnx
                      have hl3 := nextF_len false _ false tok3 r3 hnx
                      rw [← g5, drop_len, drop_len] at hl3
                      have b4 : (q4.e != 0) = false := by rw [bne_eq_false_iff_eq]; exact g1
                      have HCV := Lib.hid (HV.out q4 tok3 k w4 HI4.out.p g1 g3 g4 (g2.trans HVS2.out) hk1 hs (HEV.out.kept HI4.out.kept hQ2) hQ2)
                      have HL3 := Lib.hid hl3
                      have HOV := Lib.hid (HOW.out)
                      rw [hnx] at HOV
                      rw [← g5] at HOV
                      clear hnx g1 g2 g4 g5 hl3 HSC HOW
                      go_wp2_with fail
                      refine HCV.out.mono ?_
                      rintro e w5 ⟨q5, X, cs, rfl, hp5, hk5, hx5, ha5⟩
                      obtain ⟨xa, xc, xk, xkc, rfl, _⟩ := hx5.opened
                      rw [vcs_arr]
                      have HI5 := Lib.hid (HI4.out.on hQ hp5 hk5)
                      have HI6 := Lib.hid (HI5.out.on (w2 := w5.alloc (box6 X xa xc xk xkc)) hQ ((heap_alloc_old _ _ (by have := HI5.out.size; omega)).trans hp5) ((Kept.refl _ _).alloc _))
                      have HX6 : Hid (VAt (veil (lowS wo 2) (w5.alloc (box6 X xa xc xk xkc))) X (vcs X xa xc xk xkc)) := hx5.keeps (Keeps.veils (by simp) fun j hj hsj => by
                        have h1 := of_decide_eq_false hsj
                        have h2 := HI4.out.size
                        exact ⟨by simp [lowS]; omega, heap_alloc_old _ _ hj⟩)
                      have HA5 := Lib.hid ha5
                      clear hp5 hk5 hx5 ha5 HCV c0 c1 c2 c3 c4 c5 c6 c7 fz
                      unfold box6 at HI6 HX6
                      obtain ⟨c0, c1, c2, c3, c4, c5, c6, c7, fz⟩ := HI5.out.p.cells
                      have hz5 : Q < w5.heap.size := by have := HI5.out.size; omega
                      have hz5a : wo.heap.size < w5.heap.size := by have := HI5.out.size; omega
                      have hz5b : wo.heap.size + 1 < w5.heap.size := by have := HI5.out.size; omega
                      by_cases he5 : q5.e = 0
                      case neg =>
                        have b5 : (q5.e != 0) = true := by rw [bne_iff_ne]; exact he5
                        have HNO : Hid (o = none ∧ q5.e ≠ 0 ∧ 0 ≤ q5.at_ ∧ q5.at_ ≤ s.size) := by
                          have h1 := HA5.out
                          have h2 := HOV.out
                          cases hv : valueF d tok3 (s.data.toList.drop q4.i) k with
                          | none => rw [hv] at h1; simp only [hv] at h2; exact ⟨h2, h1⟩
                          | some p => obtain ⟨x, r4, k3⟩ := p; rw [hv] at h1; exact absurd h1.1 he5
                        clear he5
                        go_upto_region 20 with fail
                        generalize World.alloc _ _ = w6 at HI6 HX6 ⊢
                        clear c0 c1 c2 c3 c4 c5 c6 c7 fz
                        have hb0 := HI6.out.b0
                        have hbx := HI6.out.bx
                        unfold box0 at hb0
                        unfold box6 at hbx
                        obtain ⟨d0, d1, d2, d3, d4, d5⟩ := six_of_block hb0
                        obtain ⟨f0, f1, f2, f3, f4, f5⟩ := six_open hb0
                        obtain ⟨b0, b1, b2, b3, b4, b5⟩ := six_of_block hbx
                        obtain ⟨e0, e1, e2, e3, e4, e5⟩ := six_open hbx
                        clear hb0 hbx
                        go_wp2_with fail
                        have hfin := HI6.out.done hQ
                        unfold put6 at hfin
                        generalize hwf : World.setCell _ _ _ = wf at hfin ⊢
                        clear hwf d0 d1 d2 d3 d4 d5 f0 f1 f2 f3 f4 f5 b0 b1 b2 b3 b4 b5 e0 e1 e2 e3 e4 e5
                        obtain ⟨s0, s1, s2, s3, s4, s5⟩ := six_of_block hfin.1
                        exact bodyPost_ret (v := .agg (vcs t ia ic ka kc).toArray) (by simp [results, Tryz.results31, go_sem, vcs, s0, s1, s2, s3, s4, s5] <;> rfl) rfl ⟨q5, _, _, rfl, hfin.2.1, hfin.2.2.1, hfin.2.2.2, by rw [HNO.out.1]; exact HNO.out.2⟩
                      case pos =>
                        have b5 : (q5.e != 0) = false := by rw [bne_eq_false_iff_eq]; exact he5
                        have hgo : ∃ (r4 : List UInt8) (k3 : Nat), valueF d tok3 (s.data.toList.drop q4.i) k = some (X, r4, k3) ∧ q5.i ≤ s.size ∧ s.data.toList.drop q5.i = r4 ∧ q5.vs = (k3 : Int) := by
                          have h1 := HA5.out
                          cases hv : valueF d tok3 (s.data.toList.drop q4.i) k with
                          | none => rw [hv] at h1; exact absurd he5 h1.1
                          | some p =>
                            obtain ⟨x, r4, k3⟩ := p
                            rw [hv] at h1
                            obtain ⟨g1, g2, g3, g4, rfl⟩ := h1
                            exact ⟨r4, k3, rfl, g2, g3, g4⟩
                        obtain ⟨r4, k3, hv, hi5, hr4, hvs5⟩ := hgo
                        obtain ⟨t1, t2, t3, t4, t5⟩ := takes_value d _ _ _ _ _ _ hv
                        rw [← hr4, drop_len, drop_len] at t3
                        have hi35 : q1.i < q5.i := by have := HL3.out.2 t1; omega
                        have HO5 : Hid (o = (match nextF false false (s.data.toList.drop q5.i) with
                            | none => none
                            | some (tok4, r4) => if (tok4.line || tok4.ends brace) = true then entriesF (valueF d) brace n tok4 r4 k3 (putV t q2.tx X) else none)) := by
                          have h2 := HOV.out
                          simp only [hv] at h2
                          rw [hr4]
                          exact h2
                        have HVS5 := Lib.hid hvs5
                        have HE5 := Lib.hid he5
                        have HT3 : Hid (TbP (putV t q2.tx X) k3) := HTP.out.put X HHH.out (by rw [HTX.out, tkT_len]; exact key_len HIK.out) (by omega)
                        have HPT := Lib.hid (put_top (lowS wo 2) t X q2.tx _ _ _ (fun j hj => by have := HI6.out.size; simp [lowS]; omega) HI6.out.at_ HX6.out (HTP.out.top (by omega)) HTP.out.kd (by unfold maxLen; omega))
                        rw [vcs_arr, vcs_arr] at HPT
                        clear hv hvs5 hr4 t1 t2 t3 t4 HOV HA5 he5
                        have hbx6 := HI5.out.bx
                        unfold box6 at hbx6
                        obtain ⟨b0, b1, b2, b3, b4', b5'⟩ := six_of_block hbx6
                        clear hbx6
                        go_wp2_with fail
                        refine HPT.out.mono ?_
                        rintro e w7 ⟨ys, rfl, hy, hb7⟩
                        obtain ⟨ya, yc, yk, ykc, rfl, _⟩ := hy.opened
                        rw [vcs_arr]
                        have HI8 := Lib.hid (HI6.out.more hQ hb7 hy)
                        have HI7 := Lib.hid (HI6.out.on hQ ((hb7.block Q (by have := HI6.out.size; omega)).trans HI6.out.p) (Kept.of_below hb7))
                        have hbx7 := HI7.out.bx
                        unfold box6 at hbx7
                        clear b0 b1 b2 b3 b4' b5' c0 c1 c2 c3 c4 c5 c6 c7 fz hb7 hy HPT HX6
                        obtain ⟨b0, b1, b2, b3, b4', b5'⟩ := six_of_block hbx7
                        obtain ⟨e0, e1, e2, e3, e4, e5⟩ := six_open hbx7
                        clear hbx7
                        unfold put6 at HI8
                        go_wp2_with fail
                        generalize World.setCell _ _ _ = w8 at HI8 ⊢
                        clear b0 b1 b2 b3 b4' b5' e0 e1 e2 e3 e4 e5 HI7 HI6 HI5 HI4 HI3 HI2
                        have HN8 := Lib.hid (next_at Q T s q5 false w8 HI8.out.p HE5.out hi5 hs)
                        refine HN8.out.mono ?_
                        rintro e w9 ⟨q9, rfl, H9⟩
                        have HI9 := Lib.hid (HI8.out.on hQ H9.out.1 H9.out.2.1)
                        have HSC := Lib.hid H9.out.2.2
                        clear HN8 H9 HI8
                        obtain ⟨c0, c1, c2, c3, c4, c5, c6, c7, fz⟩ := HI9.out.p.cells
                        have hmu1 : 1 + 2 * (s.size - q1.i) ≤ muP s q1 := by rw [mu_ok HE1.out]; omega
                        have HMU1 := Lib.hid hmu1
                        have HVN : Hid (q9.vs.toNat = k3) := by
                          have h1 : q9.vs = q5.vs := HSC.out.1
                          show q9.vs.toNat = k3
                          rw [h1, HVS5.out]; rfl
                        clear hmu1
                        cases hnx : nextF false false (s.data.toList.drop q5.i) with
                        | none =>
                          obtain ⟨g1, g2, g3, g4⟩ := HSC.out.bad hnx
                          have HST : Hid (EnSt d brace s o q9 (putV t q2.tx X)) := .inl ⟨g1, by rw [HO5.out, hnx], g3, g4⟩
                          have HMF : Hid (muP s q9 < muP s q1) := by show _ < _; rw [mu_bad g1]; have := HMU1.out; omega
                          have b9 : (q9.e == 0) = false := beq_false_of_ne g1
                          clear hnx g1 g2 g3 g4 HSC
                          go_wp2_with fail
                          go_roundw
                          case rel => exact ⟨q9, _, _, _, _, _, HI9, HST, by rw [HVN.out]; exact HT3⟩
                          case measure => rw [HMU.out, HI9.out.p.mu]; exact HMF.out
                        | some p =>
                          obtain ⟨tok9, r9⟩ := p
                          obtain ⟨g1, g2, g3, g4, g5⟩ := HSC.out.ok (by rw [drop_len]; omega) hnx
                          have hl9 := nextF_len false _ false tok9 r9 hnx
                          rw [← g5, drop_len, drop_len] at hl9
                          have b9 : (q9.e == 0) = true := by rw [g1]; rfl
                          have hl10 := tk_line g4.2.2.2.1
                          have hl11 := HTE.out tok9 g4.2.2.2.1
                          rw [← g4.1] at hl10 hl11
                          have HMF : Hid (muP s q9 < muP s q1) := by show _ < _; rw [mu_ok g1]; have := HMU1.out; split <;> omega
                          have HG := Lib.hid (And.intro g1 (And.intro g2 (And.intro g4 g5)))
                          cases hsep : (tok9.line || tok9.ends brace) with
                          | true =>
                            have HST : Hid (EnSt d brace s o q9 (putV t q2.tx X)) := .inr ⟨g1, tok9, n, k3, g4, g3, g2.trans HVS5.out, t5, by omega, by rw [HO5.out, hnx]; simp only; rw [if_pos hsep, g5]⟩
                            have hor : (q9.k != 10) = false ∨ ((q9.k != 10) = true ∧ (q9.k != 59) = false) ∨ ((q9.k != 10) = true ∧ (q9.k != 59) = true ∧ (q9.k != E) = false) := by
                              rw [hl10, ← hl11] at hsep
                              unfold bne
                              cases h1 : (q9.k == 10) with
                              | true => exact .inl rfl
                              | false =>
                                cases h2 : (q9.k == 59) with
                                | true => exact .inr (.inl ⟨rfl, rfl⟩)
                                | false =>
                                  have h3 : (q9.k == E) = true := by rw [h1, h2] at hsep; simpa using hsep
                                  exact .inr (.inr ⟨rfl, rfl, by rw [h3]; rfl⟩)
                            clear hnx g1 g2 g4 g5 hl9 hl10 hl11 hsep HSC
                            rcases hor with h1 | ⟨h1, h2⟩ | ⟨h1, h2, h4⟩
                            all_goals
                              go_wp2_with fail
                              go_roundw
                              case rel => exact ⟨q9, _, _, _, _, _, HI9, HST, by rw [HVN.out]; exact HT3⟩
                              case measure => rw [HMU.out, HI9.out.p.mu]; exact HMF.out
                          | false =>
                            have HST : Hid (EnSt d brace s o { q9 with at_ := q9.ta, e := 8 } (putV t q2.tx X)) := .inl ⟨(show (8 : Int) ≠ 0 by decide), by rw [HO5.out, hnx]; simp only; rw [if_neg (by rw [hsep]; simp)], g4.2.2.1⟩
                            have h123 : (q9.k != 10) = true ∧ (q9.k != 59) = true ∧ (q9.k != E) = true := by
                              rw [hl10, ← hl11] at hsep
                              rw [Bool.or_eq_false_iff, Bool.or_eq_false_iff] at hsep
                              unfold bne; rw [hsep.1.1, hsep.1.2, hsep.2]; exact ⟨rfl, rfl, rfl⟩
                            obtain ⟨h1, h2, h4⟩ := h123
                            have HWT := Lib.hid (wrong_tok Q T s q9 w9 HI9.out.p g1)
                            clear hnx g1 g2 g4 g5 hl9 hl10 hl11 hsep HSC
                            go_wp2_with fail
                            refine HWT.out.mono ?_
                            rintro e w10 ⟨rfl, H10⟩
                            have HI10 := Lib.hid (HI9.out.on hQ H10.out.1 H10.out.2)
                            have HMG : Hid (muP s { q9 with at_ := q9.ta, e := 8 } < muP s q1) := by show _ < _; rw [mu_bad (show (8 : Int) ≠ 0 by decide)]; have := HMU1.out; omega
                            clear HWT H10 c0 c1 c2 c3 c4 c5 c6 c7 fz
                            go_wp2_with fail
                            go_roundw
                            case rel => exact ⟨_, _, _, _, _, _, HI10, HST, by show Hid (TbP _ q9.vs.toNat); rw [HVN.out]; exact HT3⟩
                            case measure => rw [HMU.out, HI10.out.p.mu]; exact HMG.out
end Go.Proofs.YtejnoedlfbglcaaGreatDoor
