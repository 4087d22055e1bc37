/- conf.isSmall, isDigit, isKey, badBytes, badDay, isInteger's parts: what each returns. Conditions: the string's size. -/
import Derived.Test.YtbnlcnaccainhaaGreatDoorProg
import Derived.Test.YtbnlcnaccainhaaGreatDoorKeP
import Derived.Test.YtbnlcnaccainhaaGreatDoorShelf
import Derived.Test.YtbnlcnaccainhaaGreatDoorVSt
import Derived.Deep.QuietTactic
import Derived.BigQuiet
import Derived.Outline
namespace Go.Proofs.YtbnlcnaccainhaaGreatDoor
open Go.RowKit Mh
set_option linter.unusedVariables false

theorem ksmall_any (c : UInt8) (w : World) : Calls Tryz.prog 44 #[.int .u8 c.toNat] w fun e w' => e = .returned (.bool (smallB c)) ∧ w = w' := by
  by_cases h1 : 97 ≤ c.toNat
  · by_cases h2 : c.toNat ≤ 122
    · have a1 : decide ((c.toNat : Int) ≤ 122) = true := decide_eq_true (by omega)
      have a0 : decide ((97 : Int) ≤ (c.toNat : Int)) = true := decide_eq_true (by omega)
      have H := Lib.hid (show smallB c = true from decide_eq_true ⟨h1, h2⟩)
      go_enter Tryz.func44, Tryz.ntmps44
      go_wp2_with fail
      go_ret
      exact ⟨by first | rfl | (rw [H.out]; rfl), rfl⟩
    · have a1 : decide ((c.toNat : Int) ≤ 122) = false := decide_eq_false (by omega)
      have a0 : decide ((97 : Int) ≤ (c.toNat : Int)) = true := decide_eq_true (by omega)
      have H := Lib.hid (show smallB c = false from decide_eq_false (by omega))
      go_enter Tryz.func44, Tryz.ntmps44
      go_wp2_with fail
      go_ret
      exact ⟨by first | rfl | (rw [H.out]; rfl), rfl⟩
  · have a0 : decide ((97 : Int) ≤ (c.toNat : Int)) = false := decide_eq_false (by omega)
    have H := Lib.hid (show smallB c = false from decide_eq_false (by omega))
    go_enter Tryz.func44, Tryz.ntmps44
    go_wp2_with fail
    go_ret
    exact ⟨by first | rfl | (rw [H.out]; rfl), rfl⟩
theorem kdigit_any (c : UInt8) (w : World) : Calls Tryz.prog 45 #[.int .u8 c.toNat] w fun e w' => e = .returned (.bool (digB c)) ∧ w = w' := by
  by_cases h1 : 48 ≤ c.toNat
  · by_cases h2 : c.toNat ≤ 57
    · have a1 : decide ((c.toNat : Int) ≤ 57) = true := decide_eq_true (by omega)
      have a0 : decide ((48 : Int) ≤ (c.toNat : Int)) = true := decide_eq_true (by omega)
      have H := Lib.hid (show digB c = true from decide_eq_true ⟨h1, h2⟩)
      go_enter Tryz.func45, Tryz.ntmps45
      go_wp2_with fail
      go_ret
      exact ⟨by first | rfl | (rw [H.out]; rfl), rfl⟩
    · have a1 : decide ((c.toNat : Int) ≤ 57) = false := decide_eq_false (by omega)
      have a0 : decide ((48 : Int) ≤ (c.toNat : Int)) = true := decide_eq_true (by omega)
      have H := Lib.hid (show digB c = false from decide_eq_false (by omega))
      go_enter Tryz.func45, Tryz.ntmps45
      go_wp2_with fail
      go_ret
      exact ⟨by first | rfl | (rw [H.out]; rfl), rfl⟩
  · have a0 : decide ((48 : Int) ≤ (c.toNat : Int)) = false := decide_eq_false (by omega)
    have H := Lib.hid (show digB c = false from decide_eq_false (by omega))
    go_enter Tryz.func45, Tryz.ntmps45
    go_wp2_with fail
    go_ret
    exact ⟨by first | rfl | (rw [H.out]; rfl), rfl⟩
theorem badDay_any (n : Int) (w : World) : Calls Tryz.prog 62 #[.int .i64 n] w fun e w' => e = .returned (.bool (decide (n < 0 ∨ 84005 < n))) ∧ w = w' := by
  by_cases h1 : n < 0
  · have a0 : decide (n < 0) = true := decide_eq_true h1
    have H := Lib.hid (show decide (n < 0 ∨ 84005 < n) = true from decide_eq_true (.inl h1))
    go_enter Tryz.func62, Tryz.ntmps62
    go_wp2_with fail
    go_ret
    exact ⟨by first | rfl | (rw [H.out]; rfl), rfl⟩
  · have a0 : decide (n < 0) = false := decide_eq_false h1
    by_cases h2 : 84005 < n
    · have a1 : decide (84005 < n) = true := decide_eq_true h2
      have H := Lib.hid (show decide (n < 0 ∨ 84005 < n) = true from decide_eq_true (.inr h2))
      go_enter Tryz.func62, Tryz.ntmps62
      go_wp2_with fail
      go_ret
      exact ⟨by first | rfl | (rw [H.out]; rfl), rfl⟩
    · have a1 : decide (84005 < n) = false := decide_eq_false h2
      have H := Lib.hid (show decide (n < 0 ∨ 84005 < n) = false from decide_eq_false (by omega))
      go_enter Tryz.func62, Tryz.ntmps62
      go_wp2_with fail
      go_ret
      exact ⟨by first | rfl | (rw [H.out]; rfl), rfl⟩
theorem all_at {s : ByteArray} {f : UInt8 → Bool} : s.data.toList.all f = true ↔ ∀ j (h : j < s.size), f s[j] = true := by
  rw [List.all_eq_true]
  constructor
  · intro h j hj
    exact h _ (by simp [← Array.getElem_toList, ByteArray.getElem_eq_getElem_data])
  · intro h x hx
    obtain ⟨i, hi, rfl⟩ := List.mem_iff_getElem.1 hx
    have := h i (by simpa using hi)
    simpa [ByteArray.getElem_eq_getElem_data] using this

/-- What badBytes asks of a byte. -/
def ctl (c : UInt8) : Bool := decide (c.toNat < 32) && (!decide (c.toNat = 9) && !decide (c.toNat = 10))
theorem badL_ctl (l : List UInt8) : badL l = l.any ctl := rfl
set_option maxHeartbeats 1000000 in
theorem badBytes_any (s : ByteArray) (w : World) (hs : s.size ≤ maxLen) : Calls Tryz.prog 63 #[.string s] w fun e w' => e = .returned (.bool (badL s.data.toList)) ∧ w = w' := by
  unfold maxLen at hs
  go_enter Tryz.func63, Tryz.ntmps63
  go_wp2_with fail
  go_loop [3] (fun i => ∃ k : Nat, k ≤ s.size ∧ i = .int .i64 k ∧ Hid (∀ j (h : j < s.size), j < k → ctl s[j] = false)) (fun i => s.size - (intOf i).toNat)
  case atStart => exact ⟨0, by omega, rfl, fun j h hj => by omega⟩
  case round =>
    obtain ⟨k, hk, rfl, HA⟩ := hrel
    by_cases hlt : k < s.size
    · have fin : ctl s[k] = false → Hid (∀ j (h : j < s.size), j < k + 1 → ctl s[j] = false) := by
        intro hok j h hj
        by_cases e : j = k
        · subst e; exact hok
        · exact HA.out j h (by omega)
      have bad : ctl s[k] = true → Hid (badL s.data.toList = true) := by
        intro hb
        show _ = _
        rw [badL_ctl, List.any_eq_true]
        exact ⟨s[k], by simp [← Array.getElem_toList, ByteArray.getElem_eq_getElem_data], hb⟩
      have FIN := Lib.hid fin
      have BAD := Lib.hid bad
      clear fin bad HA
      by_cases c1 : s[k].toNat < 32
      · by_cases c2 : s[k].toNat = 9
        · have HF := FIN.out (by unfold ctl; rw [decide_eq_true c2]; simp)
          have t1 : decide ((s[k].toNat : Int) < 32) = true := decide_eq_true (by omega)
          have t2 : ((s[k].toNat : Int) != 9) = false := by rw [bne_eq_false_iff_eq]; omega
          clear FIN BAD c1 c2
          go_wp2_with fail
          go_round
          case rel => exact ⟨k + 1, by omega, by go_num, HF⟩
          case measure => simp [intOf]; omega
        · by_cases c3 : s[k].toNat = 10
          · have HF := FIN.out (by unfold ctl; rw [decide_eq_true c3]; simp)
            have t1 : decide ((s[k].toNat : Int) < 32) = true := decide_eq_true (by omega)
            have t2 : ((s[k].toNat : Int) != 9) = true := by rw [bne_iff_ne]; omega
            have t3 : ((s[k].toNat : Int) != 10) = false := by rw [bne_eq_false_iff_eq]; omega
            clear FIN BAD c1 c2 c3
            go_wp2_with fail
            go_round
            case rel => exact ⟨k + 1, by omega, by go_num, HF⟩
            case measure => simp [intOf]; omega
          · have HF := BAD.out (by unfold ctl; rw [decide_eq_true c1, decide_eq_false c2, decide_eq_false c3]; rfl)
            have t1 : decide ((s[k].toNat : Int) < 32) = true := decide_eq_true (by omega)
            have t2 : ((s[k].toNat : Int) != 9) = true := by rw [bne_iff_ne]; omega
            have t3 : ((s[k].toNat : Int) != 10) = true := by rw [bne_iff_ne]; omega
            clear FIN BAD c1 c2 c3
            go_wp2_with fail
            go_ret
            exact ⟨by rw [HF.out]; rfl, rfl⟩
      · have HF := FIN.out (by unfold ctl; rw [decide_eq_false c1]; rfl)
        have t1 : decide ((s[k].toNat : Int) < 32) = false := decide_eq_false (by omega)
        clear FIN BAD c1
        go_wp2_with fail
        go_round
        case rel => exact ⟨k + 1, by omega, by go_num, HF⟩
        case measure => simp [intOf]; omega
    · have HB : Hid (badL s.data.toList = false) := by
        show _ = _
        rw [badL_ctl, Bool.eq_false_iff]
        intro h
        obtain ⟨x, hx, hc⟩ := List.any_eq_true.1 h
        obtain ⟨i, hi, rfl⟩ := List.mem_iff_getElem.1 hx
        have := HA.out i (by simpa using hi) (by simp at hi; omega)
        simp [ByteArray.getElem_eq_getElem_data] at this
        simp [this] at hc
      go_wp2_with fail
      go_ret
      exact ⟨by rw [HB.out]; rfl, rfl⟩
end Go.Proofs.YtbnlcnaccainhaaGreatDoor
