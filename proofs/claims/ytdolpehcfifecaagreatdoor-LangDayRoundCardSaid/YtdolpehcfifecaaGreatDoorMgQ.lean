/- Messages: how far the reader goes (plain). No program. -/
import Derived.Test.YtdolpehcfifecaaGreatDoorMgP
namespace Mh
open Go Go.RowKit
set_option linter.unusedVariables false
theorem byteAt_lt {s : ByteArray} {i : Nat} (h : i < s.size) : byteAt s i = some s[i] := by
  unfold byteAt
  rw [List.getElem?_eq_getElem (by simpa using h)]
  congr 1
theorem byteAt_ge {s : ByteArray} {i : Nat} (h : ¬ i < s.size) : byteAt s i = none := by
  unfold byteAt
  exact List.getElem?_eq_none (by simp; omega)
theorem byteAt_some {s : ByteArray} {i : Nat} {c : UInt8} (h : byteAt s i = some c) : ∃ hi : i < s.size, s[i] = c := by
  by_cases hi : i < s.size
  · rw [byteAt_lt hi] at h; exact ⟨hi, by simpa using h⟩
  · rw [byteAt_ge hi] at h; cases h
theorem takeWhile_len {α : Type} (p : α → Bool) : ∀ l : List α, (l.takeWhile p).length ≤ l.length
  | [] => Nat.le_refl _
  | a :: l => by
    rw [List.takeWhile_cons]
    split
    · simp; exact takeWhile_len p l
    · simp
theorem skipP_ge (s : ByteArray) (i : Nat) : i ≤ skipP s i := Nat.le_add_right _ _
theorem skipP_le {s : ByteArray} {i : Nat} (h : i ≤ s.size) : skipP s i ≤ s.size := by
  unfold skipP
  have := takeWhile_len (fun c : UInt8 => decide (c.toNat = 32) || decide (c.toNat = 9) || decide (c.toNat = 10)) (s.data.toList.drop i)
  rw [List.length_drop] at this
  have e : s.data.toList.length = s.size := by simp
  omega
theorem wordEnd_ge (s : ByteArray) (i : Nat) : i ≤ wordEnd s i := by
  unfold wordEnd
  simp only
  split <;> omega
theorem wordEnd_le {s : ByteArray} {i : Nat} (h : i ≤ s.size) : wordEnd s i ≤ s.size := by
  unfold wordEnd
  simp only
  have e : s.data.toList.length = s.size := by simp
  split
  · rename_i h1
    obtain ⟨hi, _⟩ := byteAt_some h1
    have := takeWhile_len mwordB (s.data.toList.drop (i + 1))
    rw [List.length_drop] at this
    omega
  · have := takeWhile_len mwordB (s.data.toList.drop i)
    rw [List.length_drop] at this
    omega
theorem Ms.fail_i (m : Ms) (a e : Int) : (m.fail a e).i = m.i := by unfold Ms.fail; split <;> rfl
theorem Ms.ite_i (P : Prop) [Decidable P] (m : Ms) (a e : Int) : (if P then m.fail a e else m).i = m.i := by
  split
  · exact Ms.fail_i _ _ _
  · rfl
theorem Ms.fail_n (m : Ms) (a e : Int) : (m.fail a e).n = m.n := by unfold Ms.fail; split <;> rfl
theorem Ms.fail_e {m : Ms} {a e : Int} (he : e ≠ 0) : (m.fail a e).e ≠ 0 := by
  unfold Ms.fail
  split
  · exact he
  · rename_i h; exact h
theorem Ms.wrong_i (s : ByteArray) (m : Ms) : (Ms.wrong s m).i = m.i := Ms.fail_i _ _ _
theorem Ms.wrong_n (s : ByteArray) (m : Ms) : (Ms.wrong s m).n = m.n := Ms.fail_n _ _ _
theorem Ms.wrong_e (s : ByteArray) (m : Ms) : (Ms.wrong s m).e ≠ 0 := Ms.fail_e (by split <;> decide)
theorem Ms.piece_i (m : Ms) (a : Nat) : (m.piece a).i = m.i := by
  unfold Ms.piece
  simp only
  split
  · exact Ms.fail_i _ _ _
  · rfl
theorem Ms.piece_n (m : Ms) (a : Nat) : (m.piece a).n = m.n + 1 := by
  unfold Ms.piece
  simp only
  split
  · exact Ms.fail_n _ _ _
  · rfl
theorem Ms.take_le (s : ByteArray) (c : UInt8) (m : Ms) : m.i ≤ (Ms.take s c m).i := by
  unfold Ms.take
  have := skipP_ge s m.i
  split
  · exact Nat.le_refl _
  · simp only
    split
    · show m.i ≤ _ + 1; omega
    · rw [Ms.wrong_i]; exact this
theorem Ms.take_bd {s : ByteArray} {c : UInt8} {m : Ms} (h : m.i ≤ s.size) : (Ms.take s c m).i ≤ s.size := by
  unfold Ms.take
  have := skipP_le h
  split
  · exact h
  · simp only
    split
    · rename_i h1
      obtain ⟨hi, _⟩ := byteAt_some h1
      exact hi
    · rw [Ms.wrong_i]; exact this
theorem Ms.take_ok {s : ByteArray} {c : UInt8} {m : Ms} (h : m.e = 0) (h2 : (Ms.take s c m).e = 0) : m.i < (Ms.take s c m).i := by
  unfold Ms.take at h2 ⊢
  have := skipP_ge s m.i
  rw [if_neg (by rw [h]; simp)] at h2 ⊢
  simp only at h2 ⊢
  split
  · show m.i < _ + 1; omega
  · rename_i h3
    rw [if_neg h3] at h2
    exact absurd h2 (Ms.wrong_e _ _)
theorem Ms.take_n (s : ByteArray) (c : UInt8) (m : Ms) : (Ms.take s c m).n = m.n := by
  unfold Ms.take
  split
  · rfl
  · simp only
    split
    · rfl
    · rw [Ms.wrong_n]
theorem Ms.word_i (s : ByteArray) (m : Ms) : (Ms.word s m).2.2.i = wordEnd s (skipP s m.i) := rfl
theorem Ms.word_le (s : ByteArray) (m : Ms) : m.i ≤ (Ms.word s m).2.2.i := Nat.le_trans (skipP_ge s m.i) (wordEnd_ge _ _)
theorem Ms.word_bd {s : ByteArray} {m : Ms} (h : m.i ≤ s.size) : (Ms.word s m).2.2.i ≤ s.size := wordEnd_le (skipP_le h)
theorem Ms.word_n (s : ByteArray) (m : Ms) : (Ms.word s m).2.2.n = m.n := by
  unfold Ms.word
  simp only
  split
  · rw [Ms.wrong_n]
  · rfl
theorem mhead_le (s : ByteArray) (m : Ms) : m.i ≤ (mhead s m).2.2.i := by
  unfold mhead
  simp only
  have h1 := Ms.word_le s m
  obtain ⟨m1, hm1⟩ : ∃ m1, m1 = (if (Ms.word s m).2.2.e = 0 ∧ isKeyL (Ms.word s m).1.data.toList = false then (Ms.word s m).2.2.fail (Ms.word s m).2.1 8 else (Ms.word s m).2.2) := ⟨_, rfl⟩
  have h2 : m1.i = (Ms.word s m).2.2.i := by
    rw [hm1]
    split
    · exact Ms.fail_i _ _ _
    · rfl
  rw [← hm1]
  have h3 := skipP_ge s m1.i
  have h4 := Ms.take_le s 44 (m1.at (skipP s m1.i))
  have e4 : (m1.at (skipP s m1.i)).i = skipP s m1.i := rfl
  split
  · show m.i ≤ m1.i; omega
  · split
    · show m.i ≤ _ + 1; omega
    · split
      · show m.i ≤ (Ms.take s 44 (m1.at (skipP s m1.i))).i; omega
      · have h5 := Ms.word_le s (Ms.take s 44 (m1.at (skipP s m1.i)))
        refine Nat.le_trans ?_ (Ms.take_le _ _ _)
        rw [Ms.ite_i]
        omega
theorem mhead_bd {s : ByteArray} {m : Ms} (h : m.i ≤ s.size) : (mhead s m).2.2.i ≤ s.size := by
  unfold mhead
  simp only
  have h1 := Ms.word_bd (s := s) h
  obtain ⟨m1, hm1⟩ : ∃ m1, m1 = (if (Ms.word s m).2.2.e = 0 ∧ isKeyL (Ms.word s m).1.data.toList = false then (Ms.word s m).2.2.fail (Ms.word s m).2.1 8 else (Ms.word s m).2.2) := ⟨_, rfl⟩
  have h2 : m1.i = (Ms.word s m).2.2.i := by
    rw [hm1]
    split
    · exact Ms.fail_i _ _ _
    · rfl
  rw [← hm1]
  have h3 := skipP_le (s := s) (i := m1.i) (by omega)
  have h4 := Ms.take_bd (s := s) (c := 44) (m := m1.at (skipP s m1.i)) h3
  split
  · show m1.i ≤ _; omega
  · split
    · rename_i h5
      obtain ⟨hi, _⟩ := byteAt_some h5
      exact hi
    · split
      · exact h4
      · have h5 := Ms.word_bd h4
        refine Ms.take_bd ?_
        rw [Ms.ite_i]
        exact h5
theorem Ms.way_i (s : ByteArray) (kd : Int) (ws : List Wy) (m : Ms) : (Ms.way s kd ws m).1.i = (Ms.word s m).2.2.i := by
  unfold Ms.way
  simp only
  split
  · rfl
  · split
    · exact Ms.fail_i _ _ _
    · rfl
theorem mopen_le (s : ByteArray) (d : Nat) (kd : Int) (ws : List Wy) (m : Ms) : m.i ≤ (mopen s d kd ws m).1.i := by
  unfold mopen
  simp only
  have h1 := Ms.word_le s m
  have h2 := Ms.way_i s kd ws m
  have h3 := Ms.take_le s 123 (Ms.way s kd ws m).1
  split
  · show m.i ≤ (Ms.way s kd ws m).1.i; omega
  · split
    · show m.i ≤ (Ms.fail _ _ _).i; rw [Ms.fail_i]; omega
    · show m.i ≤ (Ms.take s 123 (Ms.way s kd ws m).1).i; omega
theorem mopen_bd {s : ByteArray} {d : Nat} {kd : Int} {ws : List Wy} {m : Ms} (h : m.i ≤ s.size) : (mopen s d kd ws m).1.i ≤ s.size := by
  unfold mopen
  simp only
  have h1 := Ms.word_bd h
  have h2 := Ms.way_i s kd ws m
  have h3 := Ms.take_bd (s := s) (c := 123) (m := (Ms.way s kd ws m).1) (by omega)
  split
  · show (Ms.way s kd ws m).1.i ≤ _; omega
  · split
    · show (Ms.fail _ _ _).i ≤ _; rw [Ms.fail_i]; exact h3
    · exact h3
theorem mopen_ok {s : ByteArray} {d : Nat} {kd : Int} {ws : List Wy} {m : Ms} (h : (mopen s d kd ws m).2.2 = false) (he : (mopen s d kd ws m).1.e = 0) : m.i < (mopen s d kd ws m).1.i := by
  unfold mopen at h he ⊢
  simp only at h he ⊢
  have h1 := Ms.word_le s m
  have h2 := Ms.way_i s kd ws m
  split at h
  · cases h
  · rename_i hw
    rw [if_neg hw] at he ⊢
    have hw0 : (Ms.way s kd ws m).1.e = 0 := by simpa using hw
    simp only at he ⊢
    split
    · rename_i h5
      rw [if_pos h5] at he
      exact absurd he (Ms.fail_e (by decide))
    · rename_i h5
      rw [if_neg h5] at he
      have := Ms.take_ok hw0 he
      omega
theorem mclose_bd {s : ByteArray} {m : Ms} (h : m.i < s.size) : (mclose m).i ≤ s.size := by
  unfold mclose
  split
  · exact h
  · exact Nat.le_of_lt h
theorem mfin_i (s : ByteArray) (d : Nat) (m : Ms) (out : List Pc) (pl : List UInt8) : (mfin s d m out pl).1.i = m.i := by
  unfold mfin
  simp only
  split
  · exact Ms.wrong_i _ _
  · rfl
theorem mwend_le (s : ByteArray) (kd : Int) (name : ByteArray) (m : Ms) (ws : List Wy) : m.i ≤ (mwend s kd name m ws).1.i := Ms.take_le _ _ _
theorem mwend_bd {s : ByteArray} {kd : Int} {name : ByteArray} {m : Ms} {ws : List Wy} (h : m.i ≤ s.size) : (mwend s kd name m ws).1.i ≤ s.size := Ms.take_bd h
/-- How a message in braces ends: with no error it stands at a brace. -/
def Stands (s : ByteArray) (d : Nat) (m : Ms) : Prop := m.e = 0 → 1 < d → ∃ h : m.i < s.size, (s[m.i]'h).toNat = 125
theorem mfin_stands (s : ByteArray) (d : Nat) (m : Ms) (out : List Pc) (pl : List UInt8) : Stands s d (mfin s d m out pl).1 := by
  intro he hd
  unfold mfin at he
  simp only [if_pos hd] at he
  exact absurd he (Ms.wrong_e _ _)
theorem mono_all (s : ByteArray) : ∀ N : Nat,
    (∀ (d : Nat) (cnt : Bool) (m : Ms) (out : List Pc) (pl : List UInt8), 2 * (s.size - m.i) < N → m.i ≤ s.size → 1 ≤ d → m.i ≤ (mloop s d cnt m out pl).1.i ∧ (mloop s d cnt m out pl).1.i ≤ s.size ∧ Stands s d (mloop s d cnt m out pl).1) ∧
    (∀ (d : Nat) (cnt : Bool) (m : Ms), 2 * (s.size - m.i) + 1 < N → m.i ≤ s.size → 1 ≤ d → m.i ≤ (mbrace s d cnt m).1.i ∧ (mbrace s d cnt m).1.i ≤ s.size) ∧
    (∀ (d : Nat) (cnt : Bool) (kd : Int) (name : ByteArray) (m : Ms) (ws : List Wy), 2 * (s.size - m.i) < N → m.i ≤ s.size → 1 ≤ d → m.i ≤ (mways s d cnt kd name m ws).1.i ∧ (mways s d cnt kd name m ws).1.i ≤ s.size) := by
  intro N
  induction N with
  | zero => exact ⟨fun _ _ _ _ _ h => by omega, fun _ _ _ h => by omega, fun _ _ _ _ _ _ h => by omega⟩
  | succ N ih =>
    obtain ⟨ih1, ih2, ih3⟩ := ih
    have W : ∀ (d : Nat) (cnt : Bool) (kd : Int) (name : ByteArray) (m : Ms) (ws : List Wy), 2 * (s.size - m.i) < N + 1 → m.i ≤ s.size → 1 ≤ d → m.i ≤ (mways s d cnt kd name m ws).1.i ∧ (mways s d cnt kd name m ws).1.i ≤ s.size := by
      intro d cnt kd name m ws hN hm hd
      rw [mways]
      split
      · have h1 := mopen_le s d kd ws m
        have h2 := mopen_bd (d := d) (kd := kd) (ws := ws) hm
        have h3 := @mopen_ok s d kd ws m
        split
        · rename_i m3 w heq
          rw [heq] at h1 h2
          exact ⟨Nat.le_trans h1 (mwend_le _ _ _ _ _), mwend_bd h2⟩
        · rename_i m3 w heq
          rw [heq] at h1 h2 h3
          split
          · rename_i he3
            have h4 := h3 rfl he3
            split
            · have h5 := ih1 (d + 1) (cnt || decide (kd = 3)) m3 [] [] (by simp only at h4; omega) h2 (by omega)
              split
              rename_i m5 ps heq5
              rw [heq5] at h5
              have hc : m.i ≤ (mclose m5).i := by
                have := mclose_le m5
                have := h5.1
                simp only at h1 h4 this ⊢
                omega
              have hcb : (mclose m5).i ≤ s.size := by
                by_cases he5 : m5.e = 0
                · obtain ⟨h6, _⟩ := h5.2.2 he5 (by omega)
                  exact mclose_bd h6
                · unfold mclose; rw [if_neg he5]; exact h5.2.1
              split
              · exact ⟨Nat.le_trans hc (mwend_le _ _ _ _ _), mwend_bd hcb⟩
              · split
                · rename_i h7
                  have h8 := mclose_le m5
                  have := ih3 d cnt kd name (mclose m5) (ws ++ [w.withPs ps]) (by omega) hcb hd
                  exact ⟨Nat.le_trans hc this.1, this.2⟩
                · exact ⟨Nat.le_refl _, hm⟩
            · exact ⟨Nat.le_refl _, hm⟩
          · exact ⟨Nat.le_trans h1 (mwend_le _ _ _ _ _), mwend_bd h2⟩
      · exact ⟨mwend_le _ _ _ _ _, mwend_bd hm⟩
    refine ⟨?_, ?_, W⟩
    · intro d cnt m out pl hN hm hd
      have F : ∀ (m' : Ms) (out : List Pc) (pl : List UInt8), m.i ≤ m'.i → m'.i ≤ s.size → m.i ≤ (mfin s d m' out pl).1.i ∧ (mfin s d m' out pl).1.i ≤ s.size ∧ Stands s d (mfin s d m' out pl).1 := by
        intro m' out pl h1 h2
        rw [mfin_i]
        exact ⟨h1, h2, mfin_stands _ _ _ _ _⟩
      have R : ∀ (m' : Ms) (out : List Pc) (pl : List UInt8), m.i < m'.i → m'.i ≤ s.size → m.i ≤ (mloop s d cnt m' out pl).1.i ∧ (mloop s d cnt m' out pl).1.i ≤ s.size ∧ Stands s d (mloop s d cnt m' out pl).1 := by
        intro m' out pl h1 h2
        have := ih1 d cnt m' out pl (by omega) h2 hd
        exact ⟨by omega, this.2⟩
      rw [mloop]
      split
      · rename_i h
        simp only
        split
        · rename_i hc
          exact ⟨Nat.le_refl _, hm, fun _ _ => ⟨h.2, hc.1⟩⟩
        · split
          · exact F _ _ _ (by rw [Ms.wrong_i]; exact Nat.le_refl _) (by rw [Ms.wrong_i]; exact hm)
          · split
            · have e1 : ((m.piece m.i).at (m.i + 1)).i = m.i + 1 := rfl
              split
              · have h5 := ih2 d cnt ((m.piece m.i).at (m.i + 1)) (by omega) (by rw [e1]; exact h.2) hd
                rw [e1] at h5
                split
                · rename_i h6
                  exact R _ _ _ h6 h5.2
                · exact absurd h5.1 (by omega)
              · exact F _ _ _ (by rw [e1]; omega) (by rw [e1]; exact h.2)
            · split
              · exact R _ _ _ (Nat.lt_succ_self _) h.2
              · split
                · split
                  · refine F _ _ _ (by rw [Ms.wrong_i]; exact Nat.le_succ _) (by rw [Ms.wrong_i]; exact h.2)
                  · rename_i c2 hb
                    obtain ⟨hi2, _⟩ := byteAt_some hb
                    split
                    · exact R _ _ _ (by show m.i < m.i + 2; omega) hi2
                    · exact F _ _ _ (by rw [Ms.wrong_i]; exact Nat.le_succ _) (by rw [Ms.wrong_i]; exact h.2)
                · exact R _ _ _ (Nat.lt_succ_self _) h.2
      · exact F _ _ _ (Nat.le_refl _) hm
    · intro d cnt m hN hm hd
      have h1 := mhead_le s m
      have h2 := mhead_bd hm
      rw [mbrace]
      split
      · rename_i name m2 heq
        rw [heq] at h1 h2
        exact ⟨h1, h2⟩
      · rename_i name kd m2 heq
        rw [heq] at h1 h2
        rw [if_pos (show m.i ≤ m2.i from h1)]
        have := W d cnt kd name m2 [] (by simp only at h1; omega) h2 hd
        exact ⟨Nat.le_trans h1 this.1, this.2⟩
theorem mloop_mono {s : ByteArray} {d : Nat} {cnt : Bool} {m : Ms} {out : List Pc} {pl : List UInt8} (h : m.i ≤ s.size) (hd : 1 ≤ d) : m.i ≤ (mloop s d cnt m out pl).1.i ∧ (mloop s d cnt m out pl).1.i ≤ s.size ∧ Stands s d (mloop s d cnt m out pl).1 := (mono_all s _).1 d cnt m out pl (Nat.lt_succ_self _) h hd
theorem mbrace_mono {s : ByteArray} {d : Nat} {cnt : Bool} {m : Ms} (h : m.i ≤ s.size) (hd : 1 ≤ d) : m.i ≤ (mbrace s d cnt m).1.i ∧ (mbrace s d cnt m).1.i ≤ s.size := (mono_all s _).2.1 d cnt m (Nat.lt_succ_self _) h hd
theorem mways_mono {s : ByteArray} {d : Nat} {cnt : Bool} {kd : Int} {name : ByteArray} {m : Ms} {ws : List Wy} (h : m.i ≤ s.size) (hd : 1 ≤ d) : m.i ≤ (mways s d cnt kd name m ws).1.i ∧ (mways s d cnt kd name m ws).1.i ≤ s.size := (mono_all s _).2.2 d cnt kd name m ws (Nat.lt_succ_self _) h hd
theorem mloop_end {s : ByteArray} {d : Nat} {cnt : Bool} {m : Ms} {out : List Pc} {pl : List UInt8} (h : ¬ (m.e = 0 ∧ m.i < s.size)) : mloop s d cnt m out pl = mfin s d m out pl := by rw [mloop, dif_neg h]
theorem mloop_stop {s : ByteArray} {d : Nat} {cnt : Bool} {m : Ms} {out : List Pc} {pl : List UInt8} (he : m.e = 0) (hi : m.i < s.size) (hc : s[m.i].toNat = 125) (hd : 1 < d) : mloop s d cnt m out pl = (m, flushL out pl) := by
  rw [mloop, dif_pos ⟨he, hi⟩]
  simp only
  rw [if_pos ⟨hc, hd⟩]
theorem mloop_wrong {s : ByteArray} {d : Nat} {cnt : Bool} {m : Ms} {out : List Pc} {pl : List UInt8} (he : m.e = 0) (hi : m.i < s.size) (h1 : ¬ (s[m.i].toNat = 125 ∧ 1 < d)) (h2 : s[m.i].toNat = 125 ∨ mctlB s[m.i] = true) : mloop s d cnt m out pl = mloop s d cnt (Ms.wrong s m) out pl := by
  rw [mloop_end (m := Ms.wrong s m) (fun h => Ms.wrong_e s m h.1), mloop, dif_pos ⟨he, hi⟩]
  simp only
  rw [if_neg h1, if_pos h2]
theorem mloop_brace {s : ByteArray} {d : Nat} {cnt : Bool} {m : Ms} {out : List Pc} {pl : List UInt8} (he : m.e = 0) (hi : m.i < s.size) (hc : s[m.i].toNat = 123) (he1 : (m.piece m.i).e = 0) (hd : 1 ≤ d) :
    mloop s d cnt m out pl = mloop s d cnt (mbrace s d cnt ((m.piece m.i).at (m.i + 1))).1 (flushL out pl ++ [(mbrace s d cnt ((m.piece m.i).at (m.i + 1))).2]) [] := by
  have hm := mbrace_mono (s := s) (d := d) (cnt := cnt) (m := (m.piece m.i).at (m.i + 1)) hi hd
  have hctl : mctlB s[m.i] = false := by unfold mctlB; rw [hc]; rfl
  conv => lhs; rw [mloop, dif_pos ⟨he, hi⟩]
  simp only
  rw [if_neg (by omega), if_neg (by rw [hctl]; simp; omega), if_pos hc, if_pos (show ((m.piece m.i).at (m.i + 1)).e = 0 from he1)]
  rw [if_pos (by have := hm.1; exact this)]
theorem mloop_full {s : ByteArray} {d : Nat} {cnt : Bool} {m : Ms} {out : List Pc} {pl : List UInt8} (he : m.e = 0) (hi : m.i < s.size) (hc : s[m.i].toNat = 123) (he1 : (m.piece m.i).e ≠ 0) :
    mloop s d cnt m out pl = mloop s d cnt ((m.piece m.i).at (m.i + 1)) (flushL out pl) [] := by
  have hctl : mctlB s[m.i] = false := by unfold mctlB; rw [hc]; rfl
  rw [mloop_end (m := (m.piece m.i).at (m.i + 1)) (fun h => he1 h.1)]
  rw [mloop, dif_pos ⟨he, hi⟩]
  simp only
  rw [if_neg (by omega), if_neg (by rw [hctl]; simp; omega), if_pos hc, if_neg (show ((m.piece m.i).at (m.i + 1)).e ≠ 0 from he1)]
theorem mloop_hash {s : ByteArray} {d : Nat} {m : Ms} {out : List Pc} {pl : List UInt8} (he : m.e = 0) (hi : m.i < s.size) (hc : s[m.i].toNat = 35) :
    mloop s d true m out pl = mloop s d true ((m.piece m.i).at (m.i + 1)) (flushL out pl ++ [.mk 4 ⟨#[]⟩ []]) [] := by
  have hctl : mctlB s[m.i] = false := by unfold mctlB; rw [hc]; rfl
  conv => lhs; rw [mloop, dif_pos ⟨he, hi⟩]
  simp only
  rw [if_neg (by omega), if_neg (by rw [hctl]; simp; omega), if_neg (by omega), if_pos ⟨hc, trivial⟩]
/-- The reader as a byte of plain text is begun. -/
def Ms.begun (m : Ms) (pl : List UInt8) : Ms := if pl = [] then m.piece m.i else m
theorem Ms.begun_i (m : Ms) (pl : List UInt8) : (m.begun pl).i = m.i := by
  unfold Ms.begun
  split
  · exact Ms.piece_i _ _
  · rfl
theorem mloop_byte {s : ByteArray} {d : Nat} {cnt : Bool} {m : Ms} {out : List Pc} {pl : List UInt8} (he : m.e = 0) (hi : m.i < s.size) (h1 : s[m.i].toNat ≠ 125) (h2 : mctlB s[m.i] = false) (h3 : s[m.i].toNat ≠ 123) (h4 : ¬ (s[m.i].toNat = 35 ∧ cnt = true)) (h5 : s[m.i].toNat ≠ 92) :
    mloop s d cnt m out pl = mloop s d cnt ((m.begun pl).at (m.i + 1)) out (pl ++ [s[m.i]]) := by
  conv => lhs; rw [mloop, dif_pos ⟨he, hi⟩]
  simp only
  rw [if_neg (fun h => h1 h.1), if_neg (by rw [h2]; simp; exact h1), if_neg h3, if_neg h4, if_neg h5]
  rfl
theorem mloop_esc {s : ByteArray} {d : Nat} {cnt : Bool} {m : Ms} {out : List Pc} {pl : List UInt8} (he : m.e = 0) (hi : m.i < s.size) (h5 : s[m.i].toNat = 92) (hi2 : m.i + 1 < s.size) (hm : mescB s[m.i + 1] = true) :
    mloop s d cnt m out pl = mloop s d cnt ((m.begun pl).at (m.i + 2)) out (pl ++ [s[m.i + 1]]) := by
  have hctl : mctlB s[m.i] = false := by unfold mctlB; rw [h5]; rfl
  conv => lhs; rw [mloop, dif_pos ⟨he, hi⟩]
  simp only
  rw [if_neg (by omega), if_neg (by rw [hctl]; simp; omega), if_neg (by omega), if_neg (by omega), if_pos h5, byteAt_lt hi2]
  simp only
  rw [if_pos hm]
  rfl
theorem mloop_badesc {s : ByteArray} {d : Nat} {cnt : Bool} {m : Ms} {out : List Pc} {pl : List UInt8} (he : m.e = 0) (hi : m.i < s.size) (h5 : s[m.i].toNat = 92) (h : ∀ hi2 : m.i + 1 < s.size, mescB s[m.i + 1] = false) :
    mloop s d cnt m out pl = mloop s d cnt (Ms.wrong s ((m.begun pl).at (m.i + 1))) out pl := by
  have hctl : mctlB s[m.i] = false := by unfold mctlB; rw [h5]; rfl
  rw [mloop_end (m := Ms.wrong s ((m.begun pl).at (m.i + 1))) (fun h => Ms.wrong_e s _ h.1)]
  rw [mloop, dif_pos ⟨he, hi⟩]
  simp only
  rw [if_neg (by omega), if_neg (by rw [hctl]; simp; omega), if_neg (by omega), if_neg (by omega), if_pos h5]
  by_cases hi2 : m.i + 1 < s.size
  · rw [byteAt_lt hi2]
    simp only
    rw [if_neg (by rw [h hi2]; simp)]
    rfl
  · rw [byteAt_ge hi2]
    rfl
theorem mbrace_done {s : ByteArray} {d : Nat} {cnt : Bool} {m : Ms} (h : (mhead s m).2.1 = none) : mbrace s d cnt m = ((mhead s m).2.2, .mk 1 (mhead s m).1 []) := by
  rw [mbrace]
  split
  · rename_i heq; rw [heq]
  · rename_i heq; rw [heq] at h; cases h
theorem mbrace_ways {s : ByteArray} {d : Nat} {cnt : Bool} {m : Ms} {kd : Int} (h : (mhead s m).2.1 = some kd) : mbrace s d cnt m = mways s d cnt kd (mhead s m).1 (mhead s m).2.2 [] := by
  have h1 := mhead_le s m
  rw [mbrace]
  split
  · rename_i heq; rw [heq] at h; cases h
  · rename_i heq
    rw [heq] at h h1 ⊢
    simp only [Option.some.injEq] at h
    subst h
    rw [if_pos h1]
theorem mways_bad {s : ByteArray} {d : Nat} {cnt : Bool} {kd : Int} {name : ByteArray} {m : Ms} {ws : List Wy} (h : m.e ≠ 0) : mways s d cnt kd name m ws = mwend s kd name m ws := by rw [mways, if_neg h]
theorem mways_word {s : ByteArray} {d : Nat} {cnt : Bool} {kd : Int} {name : ByteArray} {m : Ms} {ws : List Wy} (h : m.e = 0) (ho : (mopen s d kd ws m).2.2 = true) : mways s d cnt kd name m ws = mwend s kd name (mopen s d kd ws m).1 ws := by
  rw [mways, if_pos h]
  split
  · rename_i heq; rw [heq]
  · rename_i heq; rw [heq] at ho; cases ho
theorem mways_sign {s : ByteArray} {d : Nat} {cnt : Bool} {kd : Int} {name : ByteArray} {m : Ms} {ws : List Wy} (h : m.e = 0) (ho : (mopen s d kd ws m).2.2 = false) (he : (mopen s d kd ws m).1.e ≠ 0) : mways s d cnt kd name m ws = mwend s kd name (mopen s d kd ws m).1 (ws ++ [(mopen s d kd ws m).2.1]) := by
  rw [mways, if_pos h]
  split
  · rename_i heq; rw [heq] at ho; cases ho
  · rename_i heq
    rw [heq] at he ⊢
    rw [if_neg he]
theorem mways_go {s : ByteArray} {d : Nat} {cnt : Bool} {kd : Int} {name : ByteArray} {m : Ms} {ws : List Wy} (hi : m.i ≤ s.size) (h : m.e = 0) (ho : (mopen s d kd ws m).2.2 = false) (he : (mopen s d kd ws m).1.e = 0) :
    ∀ r, r = mloop s (d + 1) (cnt || decide (kd = 3)) (mopen s d kd ws m).1 [] [] →
    mways s d cnt kd name m ws = if isOther kd (mopen s d kd ws m).2.1 = true then mwend s kd name (mclose r.1) (ws ++ [(mopen s d kd ws m).2.1.withPs r.2]) else mways s d cnt kd name (mclose r.1) (ws ++ [(mopen s d kd ws m).2.1.withPs r.2]) := by
  rintro r rfl
  have h1 := mopen_ok ho he
  have h2 := mopen_bd (s := s) (d := d) (kd := kd) (ws := ws) hi
  have h3 := mloop_mono (s := s) (d := d + 1) (cnt := cnt || decide (kd = 3)) (out := []) (pl := []) h2 (by omega)
  conv => lhs; rw [mways, if_pos h]
  split
  · rename_i heq; rw [heq] at ho; cases ho
  · rename_i m3 w heq
    rw [heq] at he h1 h2 h3 ⊢
    simp only at he h1 h2 h3 ⊢
    rw [if_pos he, if_pos ⟨h1, by omega⟩]
    split
    · rfl
    · rw [if_pos (by omega)]
theorem mhead_n (s : ByteArray) (m : Ms) : (mhead s m).2.2.n = m.n := by
  have hite : ∀ (P : Prop) [Decidable P] (m : Ms) (a e : Int), (if P then m.fail a e else m).n = m.n := by
    intro P _ m a e
    split
    · exact Ms.fail_n _ _ _
    · rfl
  unfold mhead
  simp only
  have h1 := Ms.word_n s m
  obtain ⟨m1, hm1⟩ : ∃ m1, m1 = (if (Ms.word s m).2.2.e = 0 ∧ isKeyL (Ms.word s m).1.data.toList = false then (Ms.word s m).2.2.fail (Ms.word s m).2.1 8 else (Ms.word s m).2.2) := ⟨_, rfl⟩
  have h2 : m1.n = m.n := by rw [hm1, hite, h1]
  rw [← hm1]
  have h4 := Ms.take_n s 44 (m1.at (skipP s m1.i))
  split
  · exact h2
  · split
    · exact h2
    · split
      · rw [h4]; exact h2
      · rw [Ms.take_n, hite, Ms.word_n, h4]; exact h2
theorem mopen_n (s : ByteArray) (d : Nat) (kd : Int) (ws : List Wy) (m : Ms) : (mopen s d kd ws m).1.n = m.n := by
  have hite : ∀ (P : Prop) [Decidable P] (m : Ms) (a e : Int), (if P then m.fail a e else m).n = m.n := by
    intro P _ m a e
    split
    · exact Ms.fail_n _ _ _
    · rfl
  have hw : (Ms.way s kd ws m).1.n = m.n := by
    unfold Ms.way
    simp only
    split
    · exact Ms.word_n _ _
    · simp only; rw [hite, Ms.word_n]
  unfold mopen
  simp only
  split
  · exact hw
  · simp only; rw [hite, Ms.take_n, hw]
theorem mclose_n (m : Ms) : (mclose m).n = m.n := by unfold mclose; split <;> rfl
theorem mfin_n (s : ByteArray) (d : Nat) (m : Ms) (out : List Pc) (pl : List UInt8) : (mfin s d m out pl).1.n = m.n := by
  unfold mfin
  simp only
  split
  · exact Ms.wrong_n _ _
  · rfl
theorem Ms.begun_n (m : Ms) (pl : List UInt8) : (m.begun pl).n ≤ m.n + 1 := by
  unfold Ms.begun
  split
  · rw [Ms.piece_n]; exact Nat.le_refl _
  · omega
theorem mono_n (s : ByteArray) : ∀ N : Nat,
    (∀ (d : Nat) (cnt : Bool) (m : Ms) (out : List Pc) (pl : List UInt8), 2 * (s.size - m.i) < N → m.i ≤ s.size → 1 ≤ d → m.n ≤ m.i → (mloop s d cnt m out pl).1.n ≤ (mloop s d cnt m out pl).1.i) ∧
    (∀ (d : Nat) (cnt : Bool) (m : Ms), 2 * (s.size - m.i) + 1 < N → m.i ≤ s.size → 1 ≤ d → m.n ≤ m.i → (mbrace s d cnt m).1.n ≤ (mbrace s d cnt m).1.i) ∧
    (∀ (d : Nat) (cnt : Bool) (kd : Int) (name : ByteArray) (m : Ms) (ws : List Wy), 2 * (s.size - m.i) < N → m.i ≤ s.size → 1 ≤ d → m.n ≤ m.i → (mways s d cnt kd name m ws).1.n ≤ (mways s d cnt kd name m ws).1.i) := by
  intro N
  induction N with
  | zero => exact ⟨fun _ _ _ _ _ h => by omega, fun _ _ _ h => by omega, fun _ _ _ _ _ _ h => by omega⟩
  | succ N ih =>
    obtain ⟨ih1, ih2, ih3⟩ := ih
    have E : ∀ (kd : Int) (name : ByteArray) (m : Ms) (ws : List Wy), m.n ≤ m.i → (mwend s kd name m ws).1.n ≤ (mwend s kd name m ws).1.i := fun kd name m ws h => by
      show (Ms.take s 125 m).n ≤ (Ms.take s 125 m).i
      have := Ms.take_n s 125 m
      have := Ms.take_le s 125 m
      omega
    have W : ∀ (d : Nat) (cnt : Bool) (kd : Int) (name : ByteArray) (m : Ms) (ws : List Wy), 2 * (s.size - m.i) < N + 1 → m.i ≤ s.size → 1 ≤ d → m.n ≤ m.i → (mways s d cnt kd name m ws).1.n ≤ (mways s d cnt kd name m ws).1.i := by
      intro d cnt kd name m ws hN hm hd hn
      have h1 := mopen_le s d kd ws m
      have h2 := mopen_bd (d := d) (kd := kd) (ws := ws) hm
      have h3 := mopen_n s d kd ws m
      by_cases he : m.e = 0
      · by_cases ho : (mopen s d kd ws m).2.2 = true
        · rw [mways_word he ho]
          exact E _ _ _ _ (by omega)
        · have ho : (mopen s d kd ws m).2.2 = false := by simpa using ho
          by_cases he2 : (mopen s d kd ws m).1.e = 0
          · have h4 := mopen_ok ho he2
            rw [mways_go hm he ho he2 _ rfl]
            have h5 := mloop_mono (d := d + 1) (cnt := cnt || decide (kd = 3)) (out := []) (pl := []) h2 (by omega)
            have h6 := ih1 (d + 1) (cnt || decide (kd = 3)) _ [] [] (by omega) h2 (by omega) (by omega)
            generalize mloop s (d + 1) (cnt || decide (kd = 3)) (mopen s d kd ws m).1 [] [] = r at h5 h6 ⊢
            have h7 := mclose_le r.1
            have h8 := mclose_n r.1
            have h9 : (mclose r.1).i ≤ s.size := by
              by_cases he5 : r.1.e = 0
              · obtain ⟨h6, _⟩ := h5.2.2 he5 (by omega)
                exact mclose_bd h6
              · unfold mclose; rw [if_neg he5]; exact h5.2.1
            split
            · exact E _ _ _ _ (by omega)
            · exact ih3 d cnt kd name _ _ (by omega) h9 hd (by omega)
          · rw [mways_sign he ho he2]
            exact E _ _ _ _ (by omega)
      · rw [mways_bad he]
        exact E _ _ _ _ hn
    refine ⟨?_, ?_, W⟩
    · intro d cnt m out pl hN hm hd hn
      have F : ∀ (m' : Ms) (out : List Pc) (pl : List UInt8), m'.n ≤ m'.i → (mfin s d m' out pl).1.n ≤ (mfin s d m' out pl).1.i := by
        intro m' out pl h1
        rw [mfin_n, mfin_i]; exact h1
      by_cases h : m.e = 0 ∧ m.i < s.size
      · obtain ⟨he, hi⟩ := h
        by_cases h1 : s[m.i].toNat = 125 ∧ 1 < d
        · rw [mloop_stop he hi h1.1 h1.2]; exact hn
        by_cases h2 : s[m.i].toNat = 125 ∨ mctlB s[m.i] = true
        · rw [mloop_wrong he hi h1 h2, mloop_end (fun h => Ms.wrong_e s m h.1)]
          exact F _ _ _ (by rw [Ms.wrong_n, Ms.wrong_i]; exact hn)
        have hp : ((m.piece m.i).at (m.i + 1)).n ≤ ((m.piece m.i).at (m.i + 1)).i := by
          show (m.piece m.i).n ≤ m.i + 1
          rw [Ms.piece_n]; omega
        by_cases h3 : s[m.i].toNat = 123
        · by_cases he1 : (m.piece m.i).e = 0
          · rw [mloop_brace he hi h3 he1 hd]
            have h4 := mbrace_mono (s := s) (d := d) (cnt := cnt) (m := (m.piece m.i).at (m.i + 1)) hi hd
            have e1 : ((m.piece m.i).at (m.i + 1)).i = m.i + 1 := rfl
            have h5 := ih2 d cnt ((m.piece m.i).at (m.i + 1)) (by omega) hi hd hp
            exact ih1 d cnt _ _ _ (by omega) h4.2 hd h5
          · rw [mloop_full he hi h3 he1, mloop_end (m := (m.piece m.i).at (m.i + 1)) (fun h => he1 h.1)]
            exact F _ _ _ hp
        by_cases h4 : s[m.i].toNat = 35 ∧ cnt = true
        · obtain ⟨h4, rfl⟩ := h4
          rw [mloop_hash he hi h4]
          exact ih1 d true _ _ _ (by show 2 * (s.size - (m.i + 1)) < N; omega) hi hd hp
        have hb := Ms.begun_n m pl
        by_cases h5 : s[m.i].toNat = 92
        · by_cases h6 : ∃ hi2 : m.i + 1 < s.size, mescB s[m.i + 1] = true
          · obtain ⟨hi2, h6⟩ := h6
            rw [mloop_esc he hi h5 hi2 h6]
            exact ih1 d cnt _ _ _ (by show 2 * (s.size - (m.i + 2)) < N; omega) hi2 hd (by show (m.begun pl).n ≤ m.i + 2; omega)
          · rw [mloop_badesc he hi h5 (fun hi2 => by simpa using fun h => h6 ⟨hi2, h⟩), mloop_end (fun h => Ms.wrong_e s _ h.1)]
            refine F _ _ _ ?_
            rw [Ms.wrong_n, Ms.wrong_i]
            show (m.begun pl).n ≤ m.i + 1
            omega
        · rw [mloop_byte he hi (fun e => h2 (.inl e)) (by simpa using fun e => h2 (.inr e)) h3 h4 h5]
          exact ih1 d cnt _ _ _ (by show 2 * (s.size - (m.i + 1)) < N; omega) hi hd (by show (m.begun pl).n ≤ m.i + 1; omega)
      · rw [mloop_end h]
        exact F _ _ _ hn
    · intro d cnt m hN hm hd hn
      have h1 := mhead_le s m
      have h2 := mhead_bd hm
      have h3 := mhead_n s m
      cases hh : (mhead s m).2.1 with
      | none => rw [mbrace_done hh]; show (mhead s m).2.2.n ≤ (mhead s m).2.2.i; omega
      | some kd =>
        rw [mbrace_ways hh]
        exact W d cnt kd _ _ [] (by omega) h2 hd (by omega)
theorem mloop_n {s : ByteArray} {d : Nat} {cnt : Bool} {m : Ms} {out : List Pc} {pl : List UInt8} (h : m.i ≤ s.size) (hd : 1 ≤ d) (hn : m.n ≤ m.i) : (mloop s d cnt m out pl).1.n ≤ (mloop s d cnt m out pl).1.i := (mono_n s _).1 d cnt m out pl (Nat.lt_succ_self _) h hd hn
theorem mbrace_n {s : ByteArray} {d : Nat} {cnt : Bool} {m : Ms} (h : m.i ≤ s.size) (hd : 1 ≤ d) (hn : m.n ≤ m.i) : (mbrace s d cnt m).1.n ≤ (mbrace s d cnt m).1.i := (mono_n s _).2.1 d cnt m (Nat.lt_succ_self _) h hd hn
end Mh
