/- conf's calendar: leap, monthDays, yearDays, before, date, dayOf. Conditions: years 1970 to 2200. -/
import Derived.Test.YtkcbnmhdaaokhaaDoorProg
import Derived.Test.YtkcbnmhdaaokhaaDoorDayS
import Derived.Outline
namespace Go.Proofs.YtkcbnmhdaaokhaaDoor
open Go.RowKit Mh Mh.Cal
set_option linter.unusedVariables false

theorem leap_any (y : Int) (w : World) (h0 : 0 ≤ y) (h1 : y ≤ 10000) : Calls Tryd.prog 136 #[.int .i64 y] w fun e w' => e = .returned (.bool (leapB y)) ∧ w = w' := by
  have key : ∀ b, leapB y = b → Calls Tryd.prog 136 #[.int .i64 y] w fun e w' => e = .returned (.bool b) ∧ w = w' := by
    intro b hb
    by_cases h4 : y % 4 = 0
    · have q4 : (y % 4 == 0) = true := by rw [beq_iff_eq]; exact h4
      by_cases h100 : y % 100 = 0
      · have q100 : (y % 100 != 0) = false := by rw [bne_eq_false_iff_eq]; exact h100
        by_cases h400 : y % 400 = 0
        · have q400 : (y % 400 == 0) = true := by rw [beq_iff_eq]; exact h400
          obtain rfl : b = true := by rw [← hb]; unfold leapB; simp [h4, h400]
          clear hb h4 h100 h400
          go_enter Tryd.func136, Tryd.ntmps136
          go_wp2_with fail
          go_ret
          exact ⟨rfl, rfl⟩
        · have q400 : (y % 400 == 0) = false := by rw [beq_eq_false_iff_ne]; exact h400
          obtain rfl : b = false := by rw [← hb]; unfold leapB; simp [h100, h400]
          clear hb h4 h100 h400
          go_enter Tryd.func136, Tryd.ntmps136
          go_wp2_with fail
          go_ret
          exact ⟨rfl, rfl⟩
      · have q100 : (y % 100 != 0) = true := by rw [bne_iff_ne]; exact h100
        obtain rfl : b = true := by rw [← hb]; unfold leapB; simp [h4, h100]
        clear hb h4 h100
        go_enter Tryd.func136, Tryd.ntmps136
        go_wp2_with fail
        go_ret
        exact ⟨rfl, rfl⟩
    · have q4 : (y % 4 == 0) = false := by rw [beq_eq_false_iff_ne]; exact h4
      obtain rfl : b = false := by rw [← hb]; unfold leapB; simp [h4]
      clear hb h4
      go_enter Tryd.func136, Tryd.ntmps136
      go_wp2_with fail
      go_ret
      exact ⟨rfl, rfl⟩
  exact key _ rfl

theorem yearDays_any (y : Int) (w : World) (h0 : 0 ≤ y) (h1 : y ≤ 10000) : Calls Tryd.prog 85 #[.int .i64 y] w fun e w' => e = .returned (.int .i64 (yd y)) ∧ w = w' := by
  have HL := Lib.hid (leap_any y w h0 h1)
  unfold yd
  cases hl : leapB y with
  | true =>
    rw [hl] at HL
    clear hl
    go_enter Tryd.func85, Tryd.ntmps85
    go_wp2_with (go_at_call 136; refine HL.out.mono ?_; rintro e w' ⟨rfl, rfl⟩)
    go_ret
    exact ⟨rfl, rfl⟩
  | false =>
    rw [hl] at HL
    clear hl
    go_enter Tryd.func85, Tryd.ntmps85
    go_wp2_with (go_at_call 136; refine HL.out.mono ?_; rintro e w' ⟨rfl, rfl⟩)
    go_ret
    exact ⟨rfl, rfl⟩

theorem ret_i64 {a b : Int} (h : a = b) : Ending.returned (.int .i64 a) = .returned (.int .i64 b) := by rw [h]
theorem before_any (y : Int) (w : World) (h0 : 1970 ≤ y) (h1 : y ≤ 10000) : Calls Tryd.prog 84 #[.int .i64 y] w fun e w' => e = .returned (.int .i64 (bef y)) ∧ w = w' := by
  go_enter Tryd.func84, Tryd.ntmps84
  go_wp2_with fail
  go_ret
  exact ⟨ret_i64 (by unfold bef; omega), rfl⟩

theorem monthDays_any (y m : Int) (w : World) (h0 : 0 ≤ y) (h1 : y ≤ 10000) : Calls Tryd.prog 86 #[.int .i64 y, .int .i64 m] w fun e w' => e = .returned (.int .i64 (md y m)) ∧ w = w' := by
  have HL := Lib.hid (leap_any y w h0 h1)
  have key : ∀ n, md y m = n → Calls Tryd.prog 86 #[.int .i64 y, .int .i64 m] w fun e w' => e = .returned (.int .i64 n) ∧ w = w' := by
    intro n hn
    unfold md at hn
    by_cases h2 : m = 2
    · subst h2
      simp only [if_true] at hn
      cases hl : leapB y with
      | true =>
        rw [hl] at HL hn
        obtain rfl : n = 29 := by simpa using hn.symm
        clear hl hn
        go_enter Tryd.func86, Tryd.ntmps86
        go_wp2_with (go_at_call 136; refine HL.out.mono ?_; rintro e w' ⟨rfl, rfl⟩)
        go_ret
        exact ⟨rfl, rfl⟩
      | false =>
        rw [hl] at HL hn
        obtain rfl : n = 28 := by simpa using hn.symm
        clear hl hn
        go_enter Tryd.func86, Tryd.ntmps86
        go_wp2_with (go_at_call 136; refine HL.out.mono ?_; rintro e w' ⟨rfl, rfl⟩)
        go_ret
        exact ⟨rfl, rfl⟩
    · rw [if_neg h2] at hn
      have q2 : (m == 2) = false := by rw [beq_eq_false_iff_ne]; exact h2
      by_cases h : m = 4 ∨ m = 6 ∨ m = 9 ∨ m = 11
      · rw [if_pos h] at hn
        subst hn
        clear h2 q2 HL
        rcases h with rfl | rfl | rfl | rfl
        all_goals
          go_enter Tryd.func86, Tryd.ntmps86
          go_wp2_with fail
          go_ret
          exact ⟨rfl, rfl⟩
      · rw [if_neg h] at hn
        subst hn
        have q4 : (m == 4) = false := by rw [beq_eq_false_iff_ne]; omega
        have q6 : (m == 6) = false := by rw [beq_eq_false_iff_ne]; omega
        have q9 : (m == 9) = false := by rw [beq_eq_false_iff_ne]; omega
        have q11 : (m == 11) = false := by rw [beq_eq_false_iff_ne]; omega
        clear h h2 HL
        go_enter Tryd.func86, Tryd.ntmps86
        go_wp2_with fail
        go_ret
        exact ⟨rfl, rfl⟩
  exact key _ rfl
end Go.Proofs.YtkcbnmhdaaokhaaDoor
