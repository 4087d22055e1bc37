/- list.isSmall, isDigit, isKey: what each returns. Conditions: the string's size. -/
import Derived.Test.YtihdfkcoajpmjaaGreatDoorKeG
namespace Go.Proofs.YtihdfkcoajpmjaaGreatDoor
open Go.RowKit Mh
set_option linter.unusedVariables false

theorem lsmall_any (c : UInt8) (w : World) : Calls Tryz.prog 47 #[.int .u8 c.toNat] w fun e w' => e = .returned (.bool (smallB c)) ∧ w = w' := by
  by_cases h1 : 97 ≤ c.toNat
  · by_cases h2 : c.toNat ≤ 122
    · have a1 : decide ((c.toNat : Int) ≤ 122) = true := decide_eq_true (by omega)
      have a0 : decide ((97 : Int) ≤ (c.toNat : Int)) = true := decide_eq_true (by omega)
      have H := Lib.hid (show smallB c = true from decide_eq_true ⟨h1, h2⟩)
      go_enter Tryz.func47, Tryz.ntmps47
      go_wp2_with fail
      go_ret
      exact ⟨by first | rfl | (rw [H.out]; rfl), rfl⟩
    · have a1 : decide ((c.toNat : Int) ≤ 122) = false := decide_eq_false (by omega)
      have a0 : decide ((97 : Int) ≤ (c.toNat : Int)) = true := decide_eq_true (by omega)
      have H := Lib.hid (show smallB c = false from decide_eq_false (by omega))
      go_enter Tryz.func47, Tryz.ntmps47
      go_wp2_with fail
      go_ret
      exact ⟨by first | rfl | (rw [H.out]; rfl), rfl⟩
  · have a0 : decide ((97 : Int) ≤ (c.toNat : Int)) = false := decide_eq_false (by omega)
    have H := Lib.hid (show smallB c = false from decide_eq_false (by omega))
    go_enter Tryz.func47, Tryz.ntmps47
    go_wp2_with fail
    go_ret
    exact ⟨by first | rfl | (rw [H.out]; rfl), rfl⟩
theorem ldigit_any (c : UInt8) (w : World) : Calls Tryz.prog 39 #[.int .u8 c.toNat] w fun e w' => e = .returned (.bool (digB c)) ∧ w = w' := by
  by_cases h1 : 48 ≤ c.toNat
  · by_cases h2 : c.toNat ≤ 57
    · have a1 : decide ((c.toNat : Int) ≤ 57) = true := decide_eq_true (by omega)
      have a0 : decide ((48 : Int) ≤ (c.toNat : Int)) = true := decide_eq_true (by omega)
      have H := Lib.hid (show digB c = true from decide_eq_true ⟨h1, h2⟩)
      go_enter Tryz.func39, Tryz.ntmps39
      go_wp2_with fail
      go_ret
      exact ⟨by first | rfl | (rw [H.out]; rfl), rfl⟩
    · have a1 : decide ((c.toNat : Int) ≤ 57) = false := decide_eq_false (by omega)
      have a0 : decide ((48 : Int) ≤ (c.toNat : Int)) = true := decide_eq_true (by omega)
      have H := Lib.hid (show digB c = false from decide_eq_false (by omega))
      go_enter Tryz.func39, Tryz.ntmps39
      go_wp2_with fail
      go_ret
      exact ⟨by first | rfl | (rw [H.out]; rfl), rfl⟩
  · have a0 : decide ((48 : Int) ≤ (c.toNat : Int)) = false := decide_eq_false (by omega)
    have H := Lib.hid (show digB c = false from decide_eq_false (by omega))
    go_enter Tryz.func39, Tryz.ntmps39
    go_wp2_with fail
    go_ret
    exact ⟨by first | rfl | (rw [H.out]; rfl), rfl⟩
theorem lkey_empty (s : ByteArray) (w : World) (h : s.data.toList = []) :
    Calls Tryz.prog 38 #[.string s] w fun e w' => e = .returned (.bool (isKeyL s.data.toList)) ∧ w = w' := by
  have H : Hid (isKeyL s.data.toList = false) := by rw [h]; rfl
  have he : s.toList.isEmpty = true := by rw [ByteArray.toList_eq, h]; rfl
  clear h
  go_enter Tryz.func38, Tryz.ntmps38
  go_wp2_with fail
  go_ret
  exact ⟨by rw [H.out]; rfl, rfl⟩
theorem lkey_long (s : ByteArray) (w : World) (hs : s.size ≤ maxLen) (h : 40 < s.size) :
    Calls Tryz.prog 38 #[.string s] w fun e w' => e = .returned (.bool (isKeyL s.data.toList)) ∧ w = w' := by
  unfold maxLen at hs
  have H : Hid (isKeyL s.data.toList = false) := by show _ = _; rw [key_cons s (by omega), decide_eq_false (by omega)]; rfl
  have he : s.toList.isEmpty = false := by
    rw [ByteArray.toList_eq]
    cases hc : s.data.toList with
    | nil => have : s.data.toList.length = s.size := by simp
             rw [hc] at this; simp at this; omega
    | cons a l => rfl
  have h3 : decide (40 < (s.size : Int)) = true := decide_eq_true (by omega)
  go_enter Tryz.func38, Tryz.ntmps38
  go_wp2_with fail
  go_ret
  exact ⟨by rw [H.out]; rfl, rfl⟩
set_option maxHeartbeats 1000000 in
theorem lkey_loop (s : ByteArray) (w : World) (h0 : 0 < s.size) (h40 : s.size ≤ 40) :
    Calls Tryz.prog 38 #[.string s] w fun e w' => e = .returned (.bool (isKeyL s.data.toList)) ∧ w = w' := by
  have H : Hid (isKeyL s.data.toList = (smallB s[0] && s.data.toList.tail.all keyB)) := by show _ = _; rw [key_cons s h0, decide_eq_true h40]; rfl
  have he : s.toList.isEmpty = false := by
    rw [ByteArray.toList_eq]
    cases hc : s.data.toList with
    | nil => have : s.data.toList.length = s.size := by simp
             rw [hc] at this; simp at this; omega
    | cons a l => rfl
  have h3 : decide (40 < (s.size : Int)) = false := decide_eq_false (by omega)
  by_cases c0 : smallB s[0] = true
  · have H2 : Hid (isKeyL s.data.toList = s.data.toList.tail.all keyB) := by show _ = _; rw [H.out, c0]; rfl
    clear H
    go_enter Tryz.func38, Tryz.ntmps38
    go_wp2_with (go_at_call 47; refine (lsmall_any _ _).mono ?_; rintro e w' ⟨rfl, rfl⟩)
    go_loop [3] (fun i => ∃ k : Nat, 1 ≤ k ∧ k ≤ s.size ∧ i = .int .i64 k ∧ Hid (∀ j (h : j < s.size), 1 ≤ j → j < k → keyB s[j] = true)) (fun i => s.size - (intOf i).toNat)
    case atStart => exact ⟨1, by omega, by omega, rfl, fun j h h1 hj => by omega⟩
    case round =>
      obtain ⟨k, hk1, hk, rfl, HA⟩ := hrel
      by_cases hlt : k < s.size
      · have fin : keyB s[k] = true → Hid (∀ j (h : j < s.size), 1 ≤ j → j < k + 1 → keyB s[j] = true) := by
          intro hok j h h1 hj
          by_cases e : j = k
          · subst e; exact hok
          · exact HA.out j h h1 (by omega)
        have bad : keyB s[k] = false → Hid (s.data.toList.tail.all keyB = false) := by
          intro hok
          show _ = _
          rw [Bool.eq_false_iff]
          intro hall
          have := (tail_all s keyB).1 hall k hlt hk1
          rw [hok] at this
          cases this
        have FIN := Lib.hid fin
        have BAD := Lib.hid bad
        clear fin bad HA
        by_cases c1 : smallB s[k] = true
        · have HF := FIN.out (by unfold keyB; rw [c1]; rfl)
          clear FIN BAD
          go_wp2_with (first | (go_at_call 47; refine (lsmall_any _ _).mono ?_; rintro e w' ⟨rfl, rfl⟩) | (go_at_call 39; refine (ldigit_any _ _).mono ?_; rintro e w' ⟨rfl, rfl⟩))
          go_round
          case rel => exact ⟨k + 1, by omega, by omega, by go_num, HF⟩
          case measure => simp [intOf]; omega
        · have c1 : smallB s[k] = false := by simpa using c1
          by_cases c2 : digB s[k] = true
          · have HF := FIN.out (by unfold keyB; rw [c1, c2]; rfl)
            clear FIN BAD
            go_wp2_with (first | (go_at_call 47; refine (lsmall_any _ _).mono ?_; rintro e w' ⟨rfl, rfl⟩) | (go_at_call 39; refine (ldigit_any _ _).mono ?_; rintro e w' ⟨rfl, rfl⟩))
            go_round
            case rel => exact ⟨k + 1, by omega, by omega, by go_num, HF⟩
            case measure => simp [intOf]; omega
          · have c2 : digB s[k] = false := by simpa using c2
            by_cases c3 : s[k].toNat = 45 ∨ s[k].toNat = 95
            · have HF := FIN.out (by unfold keyB; rw [c1, c2]; rcases c3 with h | h <;> rw [h] <;> rfl)
              clear FIN BAD
              have c4 : ((s[k].toNat : Int) != 45) = false ∨ (((s[k].toNat : Int) != 45) = true ∧ ((s[k].toNat : Int) != 95) = false) := by
                rcases c3 with h | h <;> rw [h] <;> simp
              clear c3
              rcases c4 with c4 | ⟨c4, c5⟩
              all_goals
                go_wp2_with (first | (go_at_call 47; refine (lsmall_any _ _).mono ?_; rintro e w' ⟨rfl, rfl⟩) | (go_at_call 39; refine (ldigit_any _ _).mono ?_; rintro e w' ⟨rfl, rfl⟩))
                go_round
                case rel => exact ⟨k + 1, by omega, by omega, by go_num, HF⟩
                case measure => simp [intOf]; omega
            · have HB := BAD.out (by
                unfold keyB
                rw [c1, c2, decide_eq_false (fun h => c3 (.inl h)), decide_eq_false (fun h => c3 (.inr h))]; rfl)
              clear FIN BAD
              have c4 : ((s[k].toNat : Int) != 45) = true := by rw [bne_iff_ne]; omega
              have c5 : ((s[k].toNat : Int) != 95) = true := by rw [bne_iff_ne]; omega
              clear c3
              go_wp2_with (first | (go_at_call 47; refine (lsmall_any _ _).mono ?_; rintro e w' ⟨rfl, rfl⟩) | (go_at_call 39; refine (ldigit_any _ _).mono ?_; rintro e w' ⟨rfl, rfl⟩))
              go_ret
              exact ⟨by rw [H2.out, HB.out]; rfl, rfl⟩
      · have HB : Hid (s.data.toList.tail.all keyB = true) := (tail_all s keyB).2 (fun j h h1 => HA.out j h h1 (by omega))
        go_wp2_with fail
        go_ret
        exact ⟨by rw [H2.out, HB.out]; rfl, rfl⟩
  · have c0 : smallB s[0] = false := by simpa using c0
    have H2 : Hid (isKeyL s.data.toList = false) := by show _ = _; rw [H.out, c0]; rfl
    clear H
    go_enter Tryz.func38, Tryz.ntmps38
    go_wp2_with (go_at_call 47; refine (lsmall_any _ _).mono ?_; rintro e w' ⟨rfl, rfl⟩)
    go_ret
    exact ⟨by rw [H2.out]; rfl, rfl⟩
theorem lisKey_any (s : ByteArray) (w : World) (hs : s.size ≤ maxLen) :
    Calls Tryz.prog 38 #[.string s] w fun e w' => e = .returned (.bool (isKeyL s.data.toList)) ∧ w = w' := by
  by_cases h1 : s.data.toList = []
  · exact lkey_empty s w h1
  have h0 : 0 < s.size := by
    have : s.data.toList.length = s.size := by simp
    have := List.length_pos_iff.2 h1
    omega
  by_cases h2 : 40 < s.size
  · exact lkey_long s w hs h2
  exact lkey_loop s w h0 (by omega)
end Go.Proofs.YtihdfkcoajpmjaaGreatDoor
