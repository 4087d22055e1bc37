/- lang.isName, badByte. Conditions: a string's size. -/
import Derived.Test.YtdolpehcfifecaaGreatDoorMgW
namespace Mh
open Go Go.RowKit
set_option linter.unusedVariables false
def nameB (s : ByteArray) : Bool := s.data.toList.all smallB && decide (1 ≤ s.size ∧ s.size ≤ 8)
def badB (c : UInt8) : Bool := decide (c.toNat < 32) || decide (c.toNat = 127)
end Mh
namespace Go.Proofs.YtdolpehcfifecaaGreatDoor
open Go.RowKit Mh
set_option linter.unusedVariables false
set_option maxHeartbeats 4000000 in
theorem gisName_any (s : ByteArray) (w : World) (hs : s.size ≤ maxLen) : Calls Tryz.prog 16 #[.string s] w fun e w' => e = .returned (.bool (nameB s)) ∧ w = w' := by
  unfold maxLen at hs
  have HAL := Lib.hid (mall_at s smallB)
  have HN : Hid (nameB s = (s.data.toList.all smallB && decide (1 ≤ s.size ∧ s.size ≤ 8))) := rfl
  go_enter Tryz.func16, Tryz.ntmps16
  go_wp2_with fail
  go_loop [3] (fun i => ∃ k : Nat, k ≤ s.size ∧ i = .int .i64 k ∧ Hid (∀ j (h : j < s.size), j < k → smallB s[j] = true)) (fun i => s.size - (intOf i).toNat)
  case atStart => exact ⟨0, Nat.zero_le _, rfl, fun j h hj => by omega⟩
  case round =>
    obtain ⟨k, hk, rfl, HA⟩ := hrel
    by_cases hlt : k < s.size
    · have HC := Lib.hid (fun w' => msmall_any s[k] w')
      cases hb : smallB s[k] with
      | true =>
        rw [hb] at HC
        have HST : Hid (∀ j (h : j < s.size), j < k + 1 → smallB s[j] = true) := by
          intro j h hj
          by_cases e : j = k
          · subst e; exact hb
          · exact HA.out j h (by omega)
        clear hb
        go_wp2_with (go_at_call 34; refine (HC.out _).mono ?_; rintro e w' ⟨rfl, rfl⟩)
        go_round
        case rel => exact ⟨k + 1, by omega, by go_num, HST⟩
        case measure => simp [intOf]; omega
      | false =>
        rw [hb] at HC
        have HR : Hid (nameB s = false) := by
          show _ = _
          rw [HN.out, show s.data.toList.all smallB = false from Bool.eq_false_iff.2 (fun hall => by have := HAL.out.1 hall k hlt; rw [hb] at this; cases this)]
          rfl
        clear hb
        go_wp2_with (go_at_call 34; refine (HC.out _).mono ?_; rintro e w' ⟨rfl, rfl⟩)
        go_ret
        exact ⟨by rw [HR.out]; rfl, rfl⟩
    · have hall : s.data.toList.all smallB = true := HAL.out.2 (fun j h => HA.out j h (by omega))
      have HN2 : Hid (nameB s = decide (1 ≤ s.size ∧ s.size ≤ 8)) := by show _ = _; rw [HN.out, hall, Bool.true_and]
      clear hall HN
      by_cases h1 : 1 ≤ s.size
      · have q1 : decide ((1 : Int) ≤ (s.size : Int)) = true := decide_eq_true (by omega)
        have q1n : decide (1 ≤ s.size) = true := decide_eq_true h1
        by_cases h8 : s.size ≤ 8
        · have q8 : decide ((s.size : Int) ≤ 8) = true := decide_eq_true (by omega)
          have q8n : decide (s.size ≤ 8) = true := decide_eq_true h8
          have HR : Hid (nameB s = true) := by show _ = _; rw [HN2.out]; exact decide_eq_true ⟨h1, h8⟩
          go_wp2_with fail
          go_ret
          exact ⟨by rw [HR.out]; rfl, rfl⟩
        · have q8 : decide ((s.size : Int) ≤ 8) = false := decide_eq_false (by omega)
          have q8n : decide (s.size ≤ 8) = false := decide_eq_false h8
          have HR : Hid (nameB s = false) := by show _ = _; rw [HN2.out]; exact decide_eq_false (fun h => h8 h.2)
          go_wp2_with fail
          go_ret
          exact ⟨by rw [HR.out]; rfl, rfl⟩
      · have q1 : decide ((1 : Int) ≤ (s.size : Int)) = false := decide_eq_false (by omega)
        have q1n : decide (1 ≤ s.size) = false := decide_eq_false h1
        have HR : Hid (nameB s = false) := by show _ = _; rw [HN2.out]; exact decide_eq_false (fun h => h1 h.1)
        go_wp2_with fail
        go_ret
        exact ⟨by rw [HR.out]; rfl, rfl⟩
theorem many_at (s : ByteArray) (f : UInt8 → Bool) : s.data.toList.any f = true ↔ ∃ j, ∃ h : j < s.size, f s[j] = true := by
  rw [List.any_eq_true]
  constructor
  · rintro ⟨x, hx, hf⟩
    obtain ⟨i, hi, rfl⟩ := List.mem_iff_getElem.1 hx
    exact ⟨i, by simpa using hi, by simpa [ByteArray.getElem_eq_getElem_data] using hf⟩
  · rintro ⟨j, h, hf⟩
    have e : s.data.toList[j]? = some s[j] := by
      rw [List.getElem?_eq_getElem (by simpa using h)]; congr 1
    exact ⟨_, List.mem_of_getElem? e, hf⟩
set_option maxHeartbeats 4000000 in
theorem gbadByte_any (s : ByteArray) (w : World) (hs : s.size ≤ maxLen) : Calls Tryz.prog 39 #[.string s] w fun e w' => e = .returned (.bool (s.data.toList.any badB)) ∧ w = w' := by
  unfold maxLen at hs
  have HAL := Lib.hid (many_at s badB)
  generalize s.data.toList.any badB = R at HAL ⊢
  go_enter Tryz.func39, Tryz.ntmps39
  go_wp2_with fail
  go_loop [3] (fun i => ∃ k : Nat, k ≤ s.size ∧ i = .int .i64 k ∧ Hid (∀ j (h : j < s.size), j < k → badB s[j] = false)) (fun i => s.size - (intOf i).toNat)
  case atStart => exact ⟨0, Nat.zero_le _, rfl, fun j h hj => by omega⟩
  case round =>
    obtain ⟨k, hk, rfl, HA⟩ := hrel
    by_cases hlt : k < s.size
    · have HBB : Hid (badB s[k] = (decide (s[k].toNat < 32) || decide (s[k].toNat = 127))) := rfl
      by_cases h32 : s[k].toNat < 32
      · have q : decide ((s[k].toNat : Int) < 32) = true := decide_eq_true (by omega)
        have HR : Hid (R = true) := HAL.out.2 ⟨k, hlt, by rw [HBB.out, decide_eq_true h32]; rfl⟩
        clear h32
        go_wp2_with fail
        go_ret
        exact ⟨by rw [HR.out]; rfl, rfl⟩
      have q : decide ((s[k].toNat : Int) < 32) = false := decide_eq_false (by omega)
      by_cases h127 : s[k].toNat = 127
      · have q2 : ((s[k].toNat : Int) == 127) = true := by rw [beq_iff_eq]; omega
        have HR : Hid (R = true) := HAL.out.2 ⟨k, hlt, by rw [HBB.out, decide_eq_true h127]; simp⟩
        clear h32 h127
        go_wp2_with fail
        go_ret
        exact ⟨by rw [HR.out]; rfl, rfl⟩
      have q2 : ((s[k].toNat : Int) == 127) = false := by rw [beq_eq_false_iff_ne]; omega
      have HST : Hid (∀ j (h : j < s.size), j < k + 1 → badB s[j] = false) := by
        intro j h hj
        by_cases e : j = k
        · subst e; rw [HBB.out, decide_eq_false h32, decide_eq_false h127]; rfl
        · exact HA.out j h (by omega)
      clear h32 h127
      go_wp2_with fail
      go_round
      case rel => exact ⟨k + 1, by omega, by go_num, HST⟩
      case measure => simp [intOf]; omega
    · have HR : Hid (R = false) := by
        show _ = _
        rw [Bool.eq_false_iff]
        intro h
        obtain ⟨j, hj, hb⟩ := HAL.out.1 h
        have := HA.out j hj (by omega)
        rw [hb] at this; cases this
      go_wp2_with fail
      go_ret
      exact ⟨by rw [HR.out]; rfl, rfl⟩
end Go.Proofs.YtdolpehcfifecaaGreatDoor
