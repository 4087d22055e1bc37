/- The reader of messages: word. Conditions: the reader stands in the string. -/
import Derived.Test.YtdolpehcfifecaaGreatDoorMgU
namespace Mh
open Go Go.RowKit
set_option linter.unusedVariables false
def wordL (s : ByteArray) (k : Nat) : Nat := k + ((s.data.toList.drop k).takeWhile mwordB).length
theorem wordL_step {s : ByteArray} {k : Nat} (h : k < s.size) (hb : mwordB s[k] = true) : wordL s k = wordL s (k + 1) := by
  unfold wordL
  rw [mdrop_at h, List.takeWhile_cons, if_pos hb, List.length_cons]
  omega
theorem wordL_here {s : ByteArray} {k : Nat} (h : k < s.size) (hb : mwordB s[k] = false) : wordL s k = k := by
  unfold wordL
  rw [mdrop_at h, List.takeWhile_cons, if_neg (by rw [hb]; simp)]
  rfl
theorem wordL_end {s : ByteArray} {k : Nat} (h : ¬ k < s.size) : wordL s k = k := by
  unfold wordL
  rw [mdrop_end h]
  rfl
/-- Where the word's letters begin. -/
def eqP (s : ByteArray) (a : Nat) : Nat := if byteAt s a = some 61 then a + 1 else a
theorem wordEnd_eq (s : ByteArray) (a : Nat) : wordEnd s a = wordL s (eqP s a) := rfl
end Mh
namespace Go.Proofs.YtdolpehcfifecaaGreatDoor
open Go.RowKit Mh
set_option linter.unusedVariables false
set_option maxRecDepth 100000 in
set_option maxHeartbeats 4000000 in
theorem gword_any (Q T : Nat) (s : ByteArray) (m : Ms) (w : World) (h : MsAt Q T s m w) (hi : m.i ≤ s.size) (hs : s.size ≤ 1000000) :
    Calls Tryz.prog 49 #[.pointer (some ⟨Q, 0, none⟩)] w fun en w' => en = .returned (.tuple #[.string (Ms.word s m).1, .int .i64 (Ms.word s m).2.1]) ∧ MsAt Q T s (Ms.word s m).2.2 w' ∧ Kept [Q] w w' := by
  have HS := Lib.hid (gskip_any Q T s m w h hi hs)
  have hJ := skipP_le hi
  have HR : Hid (∀ J K, skipP s m.i = J → wordEnd s J = K → Ms.word s m = (s.extract J K, J, (if K = J then Ms.wrong s (m.at J) else m.at J).at K)) := by
    rintro J K rfl rfl; rfl
  have hB := wordEnd_le hJ
  have hG := wordEnd_ge s (skipP s m.i)
  obtain ⟨J, e1⟩ : ∃ J, skipP s m.i = J := ⟨_, rfl⟩
  obtain ⟨K, e2⟩ : ∃ K, wordEnd s J = K := ⟨_, rfl⟩
  have HR := Lib.hid (HR.out J K e1 e2)
  rw [HR.out]
  obtain ⟨M, hM⟩ : ∃ M, (if K = J then Ms.wrong s (m.at J) else m.at J) = M := ⟨_, rfl⟩
  rw [hM]
  have HM := Lib.hid hM
  clear hM
  rw [e1, e2] at hB hG
  rw [e1] at HS hJ
  clear HR e1 h
  have hK0 : J ≤ eqP s J ∧ eqP s J ≤ s.size := by
    unfold eqP
    split
    · rename_i h1
      obtain ⟨h2, _⟩ := byteAt_some h1
      omega
    · omega
  rw [wordEnd_eq] at e2
  have HE := Lib.hid e2
  clear e2
  have HEQ : Hid (eqP s J = if byteAt s J = some 61 then J + 1 else J) := rfl
  generalize eqP s J = K0 at HE HEQ hK0
  go_enter Tryz.func49, Tryz.ntmps49
  go_upto_region 4 with (go_at_call 61; refine HS.out.mono ?_; rintro e w1 ⟨rfl, h1, h2⟩; have H2 := Lib.hid (And.intro h1 h2); obtain ⟨c0, c1', c2, c3, c4, fz⟩ := h1.cells; have c1 : w1.cell? ⟨Q, 1, none⟩ = some (.int .i64 (J : Int)) := c1'; clear c1' h1 h2)
  obtain ⟨B, hB⟩ : ∃ B, decide (byteAt s J = some 61) = B := ⟨_, rfl⟩
  have HB := Lib.hid hB
  clear hB
  go_cut [28] from 13 to 28 (fun s28 wx => s28 = .bool B ∧ w1 = wx)
  case first =>
    by_cases hlt : J < s.size
    · have q : decide (J < s.size) = true := decide_eq_true hlt
      by_cases h61 : s[J].toNat = 61
      · have b : ((s[J].toNat : Int) == 61) = true := by rw [beq_iff_eq]; omega
        have HK : Hid (B = true) := by show _ = _; rw [← HB.out, byteAt_lt hlt]; exact decide_eq_true (by rw [show s[J] = 61 from UInt8.toNat_inj.1 h61])
        clear h61
        go_wp2_with fail
        go_meet
        exact ⟨by rw [HK.out], rfl⟩
      · have b : ((s[J].toNat : Int) == 61) = false := by rw [beq_eq_false_iff_ne]; omega
        have HK : Hid (B = false) := by show _ = _; rw [← HB.out, byteAt_lt hlt]; exact decide_eq_false (by intro e; apply h61; rw [Option.some.inj e]; rfl)
        clear h61
        go_wp2_with fail
        go_meet
        exact ⟨by rw [HK.out], rfl⟩
    · have q : decide (J < s.size) = false := decide_eq_false hlt
      have HK : Hid (B = false) := by show _ = _; rw [← HB.out, byteAt_ge hlt]; simp
      go_wp2_with fail
      go_meet
      exact ⟨by rw [HK.out], rfl⟩
  case rest =>
    obtain ⟨rfl, hw⟩ := hcut
    obtain rfl : w1 = wc := hw
    go_upto_if 28 with fail
    go_cut [5] from 29 to 30 (fun s5 wx => s5 = .int .i64 (K0 : Int) ∧ w1 = wx)
    case first =>
      cases B with
      | true =>
        have HK : Hid (K0 = J + 1) := by show _ = _; rw [HEQ.out, if_pos (of_decide_eq_true HB.out)]
        go_wp2_with fail
        go_meet
        exact ⟨by rw [HK.out]; rfl, rfl⟩
      | false =>
        have HK : Hid (K0 = J) := by show _ = _; rw [HEQ.out, if_neg (of_decide_eq_false HB.out)]
        go_wp2_with fail
        go_meet
        exact ⟨by rw [HK.out], rfl⟩
    case rest =>
    obtain ⟨rfl, hw⟩ := hcut
    obtain rfl : w1 = wc := hw
    have H3 := H2
    clear H2 c0 c1 c2 c3 c4 fz HEQ
    have hK1 := hK0.1
    have hK2 := hK0.2
    clear hK0
    go_wp2_with fail
    go_loopw [5] (fun v wr => ∃ k : Nat, v = .int .i64 (k : Int) ∧ J ≤ k ∧ k ≤ s.size ∧ Hid (wordL s k = K ∧ MsAt Q T s (m.at J) wr ∧ Kept [Q] w wr)) (fun v _ => s.size - (intOf v).toNat)
    case atStart => exact ⟨K0, rfl, hK1, hK2, HE.out, H3.out⟩
    case round =>
      obtain ⟨k, rfl, hJk, hks, HI⟩ := hrel
      clear H3 hK1 hK2
      obtain ⟨c0, c1', c2, c3, c4, fz⟩ := HI.out.2.1.cells
      have c1 : wr.cell? ⟨Q, 1, none⟩ = some (.int .i64 (J : Int)) := c1'
      clear c1'
      by_cases hlt : k < s.size
      · have q : decide (k < s.size) = true := decide_eq_true hlt
        have HC := Lib.hid (fun w' => mword_any s[k] w')
        cases hb : mwordB s[k] with
        | true =>
          rw [hb] at HC
          have HST : Hid (wordL s (k + 1) = K) := by show _ = _; rw [← HI.out.1, wordL_step hlt hb]
          clear hb
          go_wp2_with (go_at_call 62; refine (HC.out _).mono ?_; rintro e w' ⟨rfl, rfl⟩)
          go_roundw
          case rel => exact ⟨k + 1, by go_num, by omega, by omega, HST.out, HI.out.2.1, HI.out.2.2⟩
          case measure => simp [intOf]; omega
        | false =>
          rw [hb] at HC
          have HST : Hid (k = K) := by show _ = _; rw [← HI.out.1, wordL_here hlt hb]
          clear hb
          have H4 : Hid (MsAt Q T s (m.at J) wr ∧ Kept [Q] w wr) := ⟨HI.out.2.1, HI.out.2.2⟩
          obtain rfl := HST.out
          by_cases hkj : k = J
          · have HIF : Hid (M = Ms.wrong s (m.at J)) := by show _ = _; rw [← HM.out, if_pos hkj]
            have bk : ((k : Int) == (J : Int)) = true := by rw [beq_iff_eq]; omega
            have HW := Lib.hid (gwrong_any Q T s (m.at J) _ H4.out.1 hJ hs)
            clear hkj
            go_wp2_with (first | (go_at_call 62; refine (HC.out _).mono ?_; rintro e w' ⟨rfl, rfl⟩) | (go_at_call 30; refine HW.out.mono ?_; rintro e w2 ⟨rfl, h1, h2⟩; have H5 := Lib.hid (And.intro h1 h2); obtain ⟨d0, d1, d2, d3, d4, dz⟩ := h1.cells; clear h1 h2))
            all_goals go_ret2
            all_goals exact ⟨by first | rfl | (simp [*]), by rw [HIF.out]; exact H5.out.1.set1 k, (H4.out.2.trans H5.out.2).set Q 1 (by simp) _⟩
          · have HIF : Hid (M = m.at J) := by show _ = _; rw [← HM.out, if_neg hkj]
            have bk : ((k : Int) == (J : Int)) = false := by rw [beq_eq_false_iff_ne]; omega
            clear hkj
            go_wp2_with (go_at_call 62; refine (HC.out _).mono ?_; rintro e w' ⟨rfl, rfl⟩)
            all_goals go_ret2
            all_goals exact ⟨by first | rfl | (simp [*]), by rw [HIF.out]; exact H4.out.1.set1 k, H4.out.2.set Q 1 (by simp) _⟩
      · have q : decide (k < s.size) = false := decide_eq_false hlt
        have HST : Hid (k = K) := by show _ = _; rw [← HI.out.1, wordL_end hlt]
        have H4 : Hid (MsAt Q T s (m.at J) wr ∧ Kept [Q] w wr) := ⟨HI.out.2.1, HI.out.2.2⟩
        obtain rfl := HST.out
        by_cases hkj : k = J
        · have HIF : Hid (M = Ms.wrong s (m.at J)) := by show _ = _; rw [← HM.out, if_pos hkj]
          have bk : ((k : Int) == (J : Int)) = true := by rw [beq_iff_eq]; omega
          have HW := Lib.hid (gwrong_any Q T s (m.at J) _ H4.out.1 hJ hs)
          clear hkj
          go_wp2_with (first | (go_at_call 30; refine HW.out.mono ?_; rintro e w2 ⟨rfl, h1, h2⟩; have H5 := Lib.hid (And.intro h1 h2); obtain ⟨d0, d1, d2, d3, d4, dz⟩ := h1.cells; clear h1 h2))
          all_goals go_ret2
          all_goals exact ⟨by first | rfl | (simp [*]), by rw [HIF.out]; exact H5.out.1.set1 k, (H4.out.2.trans H5.out.2).set Q 1 (by simp) _⟩
        · have HIF : Hid (M = m.at J) := by show _ = _; rw [← HM.out, if_neg hkj]
          have bk : ((k : Int) == (J : Int)) = false := by rw [beq_eq_false_iff_ne]; omega
          clear hkj
          go_wp2_with fail
          all_goals go_ret2
          all_goals exact ⟨by first | rfl | (simp [*]), by rw [HIF.out]; exact H4.out.1.set1 k, H4.out.2.set Q 1 (by simp) _⟩
end Go.Proofs.YtdolpehcfifecaaGreatDoor
