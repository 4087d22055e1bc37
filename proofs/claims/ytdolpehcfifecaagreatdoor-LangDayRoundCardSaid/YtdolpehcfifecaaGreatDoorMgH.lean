/- lang.isControl, isLetter, isWord: what each returns. No conditions. -/
import Derived.Test.YtdolpehcfifecaaGreatDoorMgG
namespace Go.Proofs.YtdolpehcfifecaaGreatDoor
open Go.RowKit Mh
set_option linter.unusedVariables false
theorem mcontrol_any (c : UInt8) (w : World) : Calls Tryz.prog 29 #[.int .u8 c.toNat] w fun e w' => e = .returned (.bool (mctlB c)) ∧ w' = w := by
  have fin : ∀ b1 b2 b3 : Bool, decide ((c.toNat : Int) < 32) = b1 → ((c.toNat : Int) != 9) = b2 → ((c.toNat : Int) != 10) = b3 → mctlB c = (b1 && (b2 && b3)) := by
    intro b1 b2 b3 h1 h2 h3
    unfold mctlB
    rw [← h1, ← h2, ← h3]
    congr 1
    · simp only [decide_eq_decide]; omega
    · congr 1
      · rw [Bool.eq_iff_iff]; simp only [Bool.not_eq_true', decide_eq_false_iff_not, bne_iff_ne]; omega
      · rw [Bool.eq_iff_iff]; simp only [Bool.not_eq_true', decide_eq_false_iff_not, bne_iff_ne]; omega
  obtain ⟨b1, h1⟩ : ∃ b, decide ((c.toNat : Int) < 32) = b := ⟨_, rfl⟩
  obtain ⟨b2, h2⟩ : ∃ b, ((c.toNat : Int) != 9) = b := ⟨_, rfl⟩
  obtain ⟨b3, h3⟩ : ∃ b, ((c.toNat : Int) != 10) = b := ⟨_, rfl⟩
  have F := Lib.hid (fin _ _ _ h1 h2 h3)
  clear fin
  cases b1 <;> cases b2 <;> cases b3 <;>
  · go_enter Tryz.func29, Tryz.ntmps29
    go_wp2_with fail
    go_ret
    exact ⟨by rw [F.out]; rfl, rfl⟩
theorem mletter_any (c : UInt8) (w : World) : Calls Tryz.prog 25 #[.int .u8 c.toNat] w fun e w' => e = .returned (.bool (mletB c)) ∧ w = w' := by
  have HS := Lib.hid (fun w' => msmall_any c w')
  cases hs : smallB c with
  | true =>
    rw [hs] at HS
    have H := Lib.hid (show mletB c = true by unfold mletB; rw [hs]; rfl)
    go_enter Tryz.func25, Tryz.ntmps25
    go_wp2_with (go_at_call 34; refine (HS.out _).mono ?_; rintro e w' ⟨rfl, rfl⟩)
    go_ret
    exact ⟨by rw [H.out]; rfl, rfl⟩
  | false =>
    rw [hs] at HS
    by_cases h1 : 65 ≤ c.toNat
    · by_cases h2 : c.toNat ≤ 90
      · have a0 : decide ((65 : Int) ≤ (c.toNat : Int)) = true := decide_eq_true (by omega)
        have a1 : decide ((c.toNat : Int) ≤ 90) = true := decide_eq_true (by omega)
        have H := Lib.hid (show mletB c = true by unfold mletB; rw [hs, decide_eq_true h1, decide_eq_true h2]; rfl)
        go_enter Tryz.func25, Tryz.ntmps25
        go_wp2_with (go_at_call 34; refine (HS.out _).mono ?_; rintro e w' ⟨rfl, rfl⟩)
        go_ret
        exact ⟨by rw [H.out]; rfl, rfl⟩
      · have a0 : decide ((65 : Int) ≤ (c.toNat : Int)) = true := decide_eq_true (by omega)
        have a1 : decide ((c.toNat : Int) ≤ 90) = false := decide_eq_false (by omega)
        have H := Lib.hid (show mletB c = false by unfold mletB; rw [hs, decide_eq_true h1, decide_eq_false h2]; rfl)
        go_enter Tryz.func25, Tryz.ntmps25
        go_wp2_with (go_at_call 34; refine (HS.out _).mono ?_; rintro e w' ⟨rfl, rfl⟩)
        go_ret
        exact ⟨by rw [H.out]; rfl, rfl⟩
    · have a0 : decide ((65 : Int) ≤ (c.toNat : Int)) = false := decide_eq_false (by omega)
      have H := Lib.hid (show mletB c = false by unfold mletB; rw [hs, decide_eq_false h1]; rfl)
      go_enter Tryz.func25, Tryz.ntmps25
      go_wp2_with (go_at_call 34; refine (HS.out _).mono ?_; rintro e w' ⟨rfl, rfl⟩)
      go_ret
      exact ⟨by rw [H.out]; rfl, rfl⟩
theorem mword_any (c : UInt8) (w : World) : Calls Tryz.prog 62 #[.int .u8 c.toNat] w fun e w' => e = .returned (.bool (mwordB c)) ∧ w = w' := by
  have HL := Lib.hid (fun w' => mletter_any c w')
  have HD := Lib.hid (fun w' => mdigit_any c w')
  have HW : Hid (mwordB c = (mletB c || digB c || decide (c.toNat = 45) || decide (c.toNat = 95))) := rfl
  have a0 : (((c.toNat : Int) == 45) = true ∧ decide (c.toNat = 45) = true) ∨ (((c.toNat : Int) == 45) = false ∧ decide (c.toNat = 45) = false) := by
    by_cases h : c.toNat = 45
    · exact .inl ⟨by rw [beq_iff_eq]; omega, decide_eq_true h⟩
    · exact .inr ⟨by rw [beq_eq_false_iff_ne]; omega, decide_eq_false h⟩
  have a1 : (((c.toNat : Int) == 95) = true ∧ decide (c.toNat = 95) = true) ∨ (((c.toNat : Int) == 95) = false ∧ decide (c.toNat = 95) = false) := by
    by_cases h : c.toNat = 95
    · exact .inl ⟨by rw [beq_iff_eq]; omega, decide_eq_true h⟩
    · exact .inr ⟨by rw [beq_eq_false_iff_ne]; omega, decide_eq_false h⟩
  generalize mletB c = L at *
  generalize digB c = D at *
  generalize decide (c.toNat = 45) = p at *
  generalize decide (c.toNat = 95) = q at *
  rcases a0 with ⟨a0, rfl⟩ | ⟨a0, rfl⟩ <;> rcases a1 with ⟨a1, rfl⟩ | ⟨a1, rfl⟩ <;> cases L <;> cases D
  all_goals
    go_enter Tryz.func62, Tryz.ntmps62
    go_wp2_with (first | (go_at_call 25; refine (HL.out _).mono ?_; rintro e w' ⟨rfl, rfl⟩) | (go_at_call 26; refine (HD.out _).mono ?_; rintro e w' ⟨rfl, rfl⟩))
    go_ret
    exact ⟨by rw [HW.out]; rfl, rfl⟩
end Go.Proofs.YtdolpehcfifecaaGreatDoor
