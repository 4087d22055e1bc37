/- The calendar in plain numbers: days of months and years, days from 1970 to a year. No conditions beyond those that each states. · Days as strings: the ten bytes of a day, and what is read of them. Plain lists and numbers. · conf's calendar: date, dayOf, Date, DayOf, Weekday at right days; Date at others. -/
import Derived.Test.YtdolpehcfifecaaGreatDoorBase
import Derived.Test.YtdolpehcfifecaaGreatDoorProg
import Derived.Outline
import Derived.RegionTactic
import Derived.ChangeAlike
namespace Mh.Cal
open Go Go.RowKit

def leapB (y : Int) : Bool := decide (y % 4 = 0 ∧ (y % 100 ≠ 0 ∨ y % 400 = 0))
def yd (y : Int) : Int := if leapB y then 366 else 365
def md (y m : Int) : Int := if m = 2 then (if leapB y then 29 else 28) else if m = 4 ∨ m = 6 ∨ m = 9 ∨ m = 11 then 30 else 31
def bef (y : Int) : Int := 365 * (y - 1970) + (y - 1) / 4 - (y - 1) / 100 + (y - 1) / 400 - 477
/-- Days of the year ahead of a month. -/
def cum (y : Int) : Nat → Int
  | 0 => 0
  | m + 1 => if m = 0 then 0 else cum y m + md y m
theorem cum_one (y : Int) : cum y 1 = 0 := rfl
theorem cum_succ (y : Int) (m : Nat) (h : 1 ≤ m) : cum y (m + 1) = cum y m + md y m := by
  show (if m = 0 then 0 else cum y m + md y m) = _
  rw [if_neg (by omega)]
theorem bef_succ (y : Int) : bef (y + 1) = bef y + yd y := by
  unfold bef yd leapB
  by_cases h4 : y % 4 = 0
  · by_cases h100 : y % 100 = 0
    · by_cases h400 : y % 400 = 0
      · simp [h4, h400]; omega
      · simp [h4, h100, h400]; omega
    · simp [h4, h100]; omega
  · simp [h4]; omega
theorem md_bd (y m : Int) : 28 ≤ md y m ∧ md y m ≤ 31 := by
  unfold md
  split
  · split <;> omega
  · split <;> omega
theorem yd_bd (y : Int) : 365 ≤ yd y ∧ yd y ≤ 366 := by unfold yd; split <;> omega
theorem cum_13 (y : Int) : cum y 13 = yd y := by
  simp only [cum_succ y _ (show 1 ≤ 12 by omega), cum_succ y _ (show 1 ≤ 11 by omega), cum_succ y _ (show 1 ≤ 10 by omega), cum_succ y _ (show 1 ≤ 9 by omega), cum_succ y _ (show 1 ≤ 8 by omega), cum_succ y _ (show 1 ≤ 7 by omega), cum_succ y _ (show 1 ≤ 6 by omega), cum_succ y _ (show 1 ≤ 5 by omega), cum_succ y _ (show 1 ≤ 4 by omega), cum_succ y _ (show 1 ≤ 3 by omega), cum_succ y _ (show 1 ≤ 2 by omega), cum_succ y _ (show 1 ≤ 1 by omega), cum_one]
  unfold yd md
  cases leapB y <;> rfl
theorem cum_bd (y : Int) (m : Nat) : 0 ≤ cum y m ∧ cum y m ≤ 31 * m := by
  induction m with
  | zero => exact ⟨Int.le_refl _, by simp [cum]⟩
  | succ m ih =>
    by_cases h : m = 0
    · subst h; simp [cum]
    · rw [cum_succ y m (by omega)]
      have := md_bd y m
      omega
theorem bef_mono (a b : Int) (h : a ≤ b) : bef a ≤ bef b := by unfold bef; omega
theorem bef_1970 : bef 1970 = 0 := by decide
theorem bef_2200 : bef 2200 = 84006 := by decide
theorem bef_bd (y : Int) (h0 : 1970 ≤ y) (h1 : y ≤ 2200) : 0 ≤ bef y ∧ bef y ≤ 84006 := by
  have a := bef_mono 1970 y h0
  have b := bef_mono y 2200 h1
  rw [bef_1970] at a
  rw [bef_2200] at b
  exact ⟨a, b⟩
theorem bef_guess (n : Int) (h0 : 0 ≤ n) (h1 : n ≤ 84005) : bef (1970 + n / 366) ≤ n ∧ 1970 + n / 366 ≤ 2199 := by
  unfold bef; omega
/-- A day as year, month and number in the month. -/
structure Ymd (n y : Int) (m : Nat) (d : Int) : Prop where
  y0 : 1970 ≤ y
  y1 : y ≤ 2199
  m0 : 1 ≤ m
  m1 : m ≤ 12
  d0 : 1 ≤ d
  d1 : d ≤ md y m
  eq : bef y + cum y m + d - 1 = n
end Mh.Cal
namespace Mh.Cal
open Go Go.RowKit

/-- The last w decimal digits of n. -/
def digs (n : Nat) : Nat → List UInt8
  | 0 => []
  | w + 1 => digs (n / 10) w ++ [UInt8.ofNat (48 + n % 10)]
theorem digs_length (w : Nat) : ∀ n, (digs n w).length = w := by
  induction w with
  | zero => intro n; rfl
  | succ w ih => intro n; simp [digs, ih]
def dayL (y : Nat) (m : Nat) (d : Nat) : List UInt8 := digs y 4 ++ ([45] ++ (digs m 2 ++ ([45] ++ digs d 2)))
theorem dayL_length (y m d : Nat) : (dayL y m d).length = 10 := by simp [dayL, digs_length]
theorem digs4 (y : Nat) : digs y 4 = [UInt8.ofNat (48 + y / 1000 % 10), UInt8.ofNat (48 + y / 100 % 10), UInt8.ofNat (48 + y / 10 % 10), UInt8.ofNat (48 + y % 10)] := by
  simp [digs, Nat.div_div_eq_div_mul]
theorem digs2 (y : Nat) : digs y 2 = [UInt8.ofNat (48 + y / 10 % 10), UInt8.ofNat (48 + y % 10)] := by
  simp [digs]
theorem dayL_eq (y m d : Nat) : dayL y m d = [UInt8.ofNat (48 + y / 1000 % 10), UInt8.ofNat (48 + y / 100 % 10), UInt8.ofNat (48 + y / 10 % 10), UInt8.ofNat (48 + y % 10), 45, UInt8.ofNat (48 + m / 10 % 10), UInt8.ofNat (48 + m % 10), 45, UInt8.ofNat (48 + d / 10 % 10), UInt8.ofNat (48 + d % 10)] := by
  rw [dayL, digs4, digs2, digs2]; rfl
theorem ofNat_toNat (k : Nat) (h : k < 10) : (UInt8.ofNat (48 + k)).toNat = 48 + k := by
  simp only [UInt8.toNat_ofNat']
  omega
end Mh.Cal
namespace Go.Proofs.YtdolpehcfifecaaGreatDoor
open Go.RowKit Mh Mh.Cal
set_option linter.unusedVariables false

theorem leap_any (y : Int) (w : World) (h0 : 0 ≤ y) (h1 : y ≤ 10000) : Calls Tryz.prog 60 #[.int .i64 y] w fun e w' => e = .returned (.bool (leapB y)) ∧ w = w' := by
  have key : ∀ b, leapB y = b → Calls Tryz.prog 60 #[.int .i64 y] w fun e w' => e = .returned (.bool b) ∧ w = w' := by
    intro b hb
    by_cases h4 : y % 4 = 0
    · have q4 : (y % 4 == 0) = true := by rw [beq_iff_eq]; exact h4
      by_cases h100 : y % 100 = 0
      · have q100 : (y % 100 != 0) = false := by rw [bne_eq_false_iff_eq]; exact h100
        by_cases h400 : y % 400 = 0
        · have q400 : (y % 400 == 0) = true := by rw [beq_iff_eq]; exact h400
          obtain rfl : b = true := by rw [← hb]; unfold leapB; simp [h4, h400]
          clear hb h4 h100 h400
          go_enter Tryz.func60, Tryz.ntmps60
          go_wp2_with fail
          go_ret
          exact ⟨rfl, rfl⟩
        · have q400 : (y % 400 == 0) = false := by rw [beq_eq_false_iff_ne]; exact h400
          obtain rfl : b = false := by rw [← hb]; unfold leapB; simp [h100, h400]
          clear hb h4 h100 h400
          go_enter Tryz.func60, Tryz.ntmps60
          go_wp2_with fail
          go_ret
          exact ⟨rfl, rfl⟩
      · have q100 : (y % 100 != 0) = true := by rw [bne_iff_ne]; exact h100
        obtain rfl : b = true := by rw [← hb]; unfold leapB; simp [h4, h100]
        clear hb h4 h100
        go_enter Tryz.func60, Tryz.ntmps60
        go_wp2_with fail
        go_ret
        exact ⟨rfl, rfl⟩
    · have q4 : (y % 4 == 0) = false := by rw [beq_eq_false_iff_ne]; exact h4
      obtain rfl : b = false := by rw [← hb]; unfold leapB; simp [h4]
      clear hb h4
      go_enter Tryz.func60, Tryz.ntmps60
      go_wp2_with fail
      go_ret
      exact ⟨rfl, rfl⟩
  exact key _ rfl

theorem yearDays_any (y : Int) (w : World) (h0 : 0 ≤ y) (h1 : y ≤ 10000) : Calls Tryz.prog 58 #[.int .i64 y] w fun e w' => e = .returned (.int .i64 (yd y)) ∧ w = w' := by
  have HL := Lib.hid (leap_any y w h0 h1)
  unfold yd
  cases hl : leapB y with
  | true =>
    rw [hl] at HL
    clear hl
    go_enter Tryz.func58, Tryz.ntmps58
    go_wp2_with (go_at_call 60; refine HL.out.mono ?_; rintro e w' ⟨rfl, rfl⟩)
    go_ret
    exact ⟨rfl, rfl⟩
  | false =>
    rw [hl] at HL
    clear hl
    go_enter Tryz.func58, Tryz.ntmps58
    go_wp2_with (go_at_call 60; refine HL.out.mono ?_; rintro e w' ⟨rfl, rfl⟩)
    go_ret
    exact ⟨rfl, rfl⟩

theorem ret_i64 {a b : Int} (h : a = b) : Ending.returned (.int .i64 a) = .returned (.int .i64 b) := by rw [h]
theorem before_any (y : Int) (w : World) (h0 : 1970 ≤ y) (h1 : y ≤ 10000) : Calls Tryz.prog 47 #[.int .i64 y] w fun e w' => e = .returned (.int .i64 (bef y)) ∧ w = w' := by
  go_enter Tryz.func47, Tryz.ntmps47
  go_wp2_with fail
  go_ret
  exact ⟨ret_i64 (by unfold bef; omega), rfl⟩

theorem monthDays_any (y m : Int) (w : World) (h0 : 0 ≤ y) (h1 : y ≤ 10000) : Calls Tryz.prog 46 #[.int .i64 y, .int .i64 m] w fun e w' => e = .returned (.int .i64 (md y m)) ∧ w = w' := by
  have HL := Lib.hid (leap_any y w h0 h1)
  have key : ∀ n, md y m = n → Calls Tryz.prog 46 #[.int .i64 y, .int .i64 m] w fun e w' => e = .returned (.int .i64 n) ∧ w = w' := by
    intro n hn
    unfold md at hn
    by_cases h2 : m = 2
    · subst h2
      simp only [if_true] at hn
      cases hl : leapB y with
      | true =>
        rw [hl] at HL hn
        obtain rfl : n = 29 := by simpa using hn.symm
        clear hl hn
        go_enter Tryz.func46, Tryz.ntmps46
        go_wp2_with (go_at_call 60; refine HL.out.mono ?_; rintro e w' ⟨rfl, rfl⟩)
        go_ret
        exact ⟨rfl, rfl⟩
      | false =>
        rw [hl] at HL hn
        obtain rfl : n = 28 := by simpa using hn.symm
        clear hl hn
        go_enter Tryz.func46, Tryz.ntmps46
        go_wp2_with (go_at_call 60; refine HL.out.mono ?_; rintro e w' ⟨rfl, rfl⟩)
        go_ret
        exact ⟨rfl, rfl⟩
    · rw [if_neg h2] at hn
      have q2 : (m == 2) = false := by rw [beq_eq_false_iff_ne]; exact h2
      by_cases h : m = 4 ∨ m = 6 ∨ m = 9 ∨ m = 11
      · rw [if_pos h] at hn
        subst hn
        clear h2 q2 HL
        rcases h with rfl | rfl | rfl | rfl
        all_goals
          go_enter Tryz.func46, Tryz.ntmps46
          go_wp2_with fail
          go_ret
          exact ⟨rfl, rfl⟩
      · rw [if_neg h] at hn
        subst hn
        have q4 : (m == 4) = false := by rw [beq_eq_false_iff_ne]; omega
        have q6 : (m == 6) = false := by rw [beq_eq_false_iff_ne]; omega
        have q9 : (m == 9) = false := by rw [beq_eq_false_iff_ne]; omega
        have q11 : (m == 11) = false := by rw [beq_eq_false_iff_ne]; omega
        clear h h2 HL
        go_enter Tryz.func46, Tryz.ntmps46
        go_wp2_with fail
        go_ret
        exact ⟨rfl, rfl⟩
  exact key _ rfl
end Go.Proofs.YtdolpehcfifecaaGreatDoor
namespace Go.Proofs.YtdolpehcfifecaaGreatDoor
open Go.RowKit Mh Mh.Cal
set_option linter.unusedVariables false

def DateP (n : Int) (w : World) (e : Ending) (w' : World) : Prop := ∃ (y : Int) (m : Nat) (d : Int), Ymd n y m d ∧ e = .returned (.tuple #[.int .i64 y, .int .i64 m, .int .i64 d]) ∧ w = w'

set_option maxHeartbeats 1000000 in
theorem date_any (n : Int) (w : World) (h0 : 0 ≤ n) (h1 : n ≤ 84005) : Calls Tryz.prog 43 #[.int .i64 n] w (DateP n w) := by
  have g := bef_guess n h0 h1
  have hq : 0 ≤ n / 366 := Int.ediv_nonneg h0 (by omega)
  go_enter Tryz.func43, Tryz.ntmps43
  go_wp2_with fail
  go_loop [2] (fun t => ∃ y : Int, 1970 ≤ y ∧ y ≤ 2199 ∧ bef y ≤ n ∧ t = .int .i64 y) (fun t => (2200 - intOf t).toNat)
  case atStart => exact ⟨1970 + n / 366, by omega, g.2, g.1, rfl⟩
  case round =>
    clear g hq
    obtain ⟨y, hy0, hy1, hb, rfl⟩ := hrel
    have hs := bef_succ y
    have hbb := bef_bd y hy0 (by omega)
    have hyb := yd_bd y
    by_cases hc : bef y + yd y ≤ n
    · have hy2 : y + 1 ≤ 2199 := by
        by_cases e : y = 2199
        · exfalso
          rw [e] at hs hc
          have h2 : bef (2199 + 1) = 84006 := by decide
          omega
        · omega
      clear hs
      go_wp2_with (first | (go_at_call 47; refine (before_any _ _ hy0 (by omega)).mono ?_; rintro e w' ⟨rfl, rfl⟩) | (go_at_call 58; refine (yearDays_any _ _ (by omega) (by omega)).mono ?_; rintro e w' ⟨rfl, rfl⟩))
      go_round
      case rel => exact ⟨y + 1, by omega, by omega, by have := bef_succ y; omega, rfl⟩
      case measure => simp [intOf]; omega
    · have hc2 : n < bef y + yd y := by omega
      clear hs hc
      go_wp2_with (first | (go_at_call 47; refine (before_any _ _ hy0 (by omega)).mono ?_; rintro e w' ⟨rfl, rfl⟩) | (go_at_call 58; refine (yearDays_any _ _ (by omega) (by omega)).mono ?_; rintro e w' ⟨rfl, rfl⟩))
      go_loop [0, 3] (fun r t => ∃ m : Nat, 1 ≤ m ∧ m ≤ 12 ∧ t = .int .i64 m ∧ 0 ≤ n - bef y - cum y m ∧ r = .int .i64 (n - bef y - cum y m)) (fun _ t => (13 - intOf t).toNat)
      case atStart => exact ⟨1, by omega, by omega, rfl, by rw [cum_one]; omega, by rw [cum_one]; simp⟩
      case round =>
        obtain ⟨m, hm0, hm1, rfl, hr, rfl⟩ := hrel
        have hmb := md_bd y m
        have hcb := cum_bd y m
        by_cases hd : md y m ≤ n - bef y - cum y m
        · have hm2 : m + 1 ≤ 12 := by
            by_cases e : m = 12
            · exfalso
              subst e
              have h13 := cum_13 y
              have hs12 := cum_succ y 12 (by omega)
              have : cum y (12 + 1) = cum y 13 := rfl
              omega
            · omega
          go_wp2_with (go_at_call 46; refine (monthDays_any _ _ _ (by omega) (by omega)).mono ?_; rintro e w' ⟨rfl, rfl⟩)
          go_round
          case rel => exact ⟨m + 1, by omega, hm2, by go_num, by rw [cum_succ y m hm0]; omega, by rw [cum_succ y m hm0]; go_num⟩
          case measure => simp [intOf]; omega
        · have hd2 : n - bef y - cum y m < md y m := by omega
          clear hd
          go_wp2_with (go_at_call 46; refine (monthDays_any _ _ _ (by omega) (by omega)).mono ?_; rintro e w' ⟨rfl, rfl⟩)
          go_ret3
          exact ⟨y, m, n - bef y - cum y m + 1, ⟨hy0, hy1, hm0, hm1, by omega, by omega, by omega⟩, rfl, rfl⟩

set_option maxHeartbeats 1000000 in
theorem dayOf_ok (n y : Int) (m : Nat) (d : Int) (w : World) (h : Ymd n y m d) :
    Calls Tryz.prog 27 #[.int .i64 y, .int .i64 m, .int .i64 d] w fun e w' => e = .returned (.tuple #[.int .i64 n, .bool true]) ∧ w = w' := by
  obtain ⟨hy0, hy1, hm0, hm1, hd0, hd1, he⟩ := h
  have hb := bef_bd y hy0 (by omega)
  have hmb := md_bd y m
  have HE := Lib.hid he
  clear he
  go_enter Tryz.func27, Tryz.ntmps27
  go_wp2_with (first | (go_at_call 46; refine (monthDays_any _ _ _ (by omega) (by omega)).mono ?_; rintro e w' ⟨rfl, rfl⟩) | (go_at_call 47; refine (before_any _ _ hy0 (by omega)).mono ?_; rintro e w' ⟨rfl, rfl⟩))
  go_loop [8, 9] (fun s t => ∃ k : Nat, 1 ≤ k ∧ k ≤ m ∧ t = .int .i64 k ∧ s = .int .i64 (bef y + d - 1 + cum y k)) (fun _ t => (m - (intOf t).toNat))
  case atStart => exact ⟨1, by omega, hm0, rfl, by rw [cum_one]; simp⟩
  case round =>
    obtain ⟨k, hk0, hk1, rfl, rfl⟩ := hrel
    have hkb := md_bd y k
    have hcb := cum_bd y k
    by_cases hkm : k < m
    · go_wp2_with (go_at_call 46; refine (monthDays_any _ _ _ (by omega) (by omega)).mono ?_; rintro e w' ⟨rfl, rfl⟩)
      go_round
      case rel => exact ⟨k + 1, by omega, by omega, by go_num, by rw [cum_succ y k hk0]; go_num⟩
      case measure => simp [intOf]; omega
    · obtain rfl : k = m := by omega
      go_wp2_with fail
      go_ret2
      refine ⟨?_, rfl⟩
      have h2 : bef y + d - 1 + cum y k = n := by have := HE.out; omega
      show Ending.returned (.tuple #[.int .i64 (bef y + d - 1 + cum y k), .bool true]) = _
      rw [h2]
end Go.Proofs.YtdolpehcfifecaaGreatDoor
namespace Go.Proofs.YtdolpehcfifecaaGreatDoor
open Go.RowKit Mh Mh.Cal
set_option linter.unusedVariables false
theorem badDay_no (n : Int) (w : World) (h0 : 0 ≤ n) (h1 : n ≤ 84005) : Calls Tryz.prog 42 #[.int .i64 n] w fun e w' => e = .returned (.bool false) ∧ w = w' := by
  have q1 : decide (n < 0) = false := decide_eq_false (by omega)
  have q2 : decide (84005 < n) = false := decide_eq_false (by omega)
  go_enter Tryz.func42, Tryz.ntmps42
  go_wp2_with fail
  go_ret
  exact ⟨rfl, rfl⟩
theorem badDay_yes (n : Int) (w : World) (h : n < 0 ∨ 84005 < n) : Calls Tryz.prog 42 #[.int .i64 n] w fun e w' => e = .returned (.bool true) ∧ w = w' := by
  by_cases h0 : n < 0
  · have q1 : decide (n < 0) = true := decide_eq_true h0
    clear h
    go_enter Tryz.func42, Tryz.ntmps42
    go_wp2_with fail
    go_ret
    exact ⟨rfl, rfl⟩
  · have q1 : decide (n < 0) = false := decide_eq_false h0
    have q2 : decide (84005 < n) = true := decide_eq_true (by omega)
    clear h
    go_enter Tryz.func42, Tryz.ntmps42
    go_wp2_with fail
    go_ret
    exact ⟨rfl, rfl⟩

theorem Date_any (n : Int) (w : World) (h0 : 0 ≤ n) (h1 : n ≤ 84005) : Calls Tryz.prog 21 #[.int .i64 n] w fun e w' => ∃ (y : Int) (m : Nat) (d : Int), Ymd n y m d ∧ e = .returned (.tuple #[.int .i64 y, .int .i64 m, .int .i64 d, .int .i64 0]) ∧ w = w' := by
  have HD := Lib.hid (date_any n w h0 h1)
  go_enter Tryz.func21, Tryz.ntmps21
  go_wp2_with (go_at_call 42; refine (badDay_no _ _ h0 h1).mono ?_; rintro e w' ⟨rfl, rfl⟩)
  refine HD.out.mono ?_
  rintro e w1 ⟨y, m, d, hY, rfl, rfl⟩
  have HY := Lib.hid hY
  clear hY HD
  go_wp2_with fail
  refine bodyPost_ret (v := .tuple #[.int .i64 y, .int .i64 m, .int .i64 d, .int .i64 0]) (by simp [results, Tryz.results21, go_sem]) rfl ?_
  exact ⟨y, m, d, HY.out, rfl, rfl⟩
theorem DayOf_ok (n y : Int) (m : Nat) (d a b c : Int) (w : World) (h : Ymd n y m d) (ha : a = y) (hb : b = m) (hc : c = d) :
    Calls Tryz.prog 14 #[.int .i64 a, .int .i64 b, .int .i64 c] w fun e w' => e = .returned (.tuple #[.int .i64 n, .int .i64 0]) ∧ w = w' := by
  subst ha hb hc
  have HD := Lib.hid (dayOf_ok n a m c w h)
  clear h
  go_enter Tryz.func14, Tryz.ntmps14
  go_wp2_with (go_at_call 27; refine HD.out.mono ?_; rintro e w' ⟨rfl, rfl⟩)
  go_ret2
  exact ⟨rfl, rfl⟩
theorem Weekday_any (n : Int) (w : World) (h0 : 0 ≤ n) (h1 : n ≤ 84005) : Calls Tryz.prog 22 #[.int .i64 n] w fun e w' => e = .returned (.tuple #[.int .i64 ((n + 3) % 7), .int .i64 0]) ∧ w = w' := by
  go_enter Tryz.func22, Tryz.ntmps22
  go_wp2_with (go_at_call 42; refine (badDay_no _ _ h0 h1).mono ?_; rintro e w' ⟨rfl, rfl⟩)
  go_ret2
  exact ⟨rfl, rfl⟩
theorem Date_bad (n : Int) (w : World) (h : n < 0 ∨ 84005 < n) : Calls Tryz.prog 21 #[.int .i64 n] w fun e w' => e = .returned (.tuple #[.int .i64 0, .int .i64 0, .int .i64 0, .int .i64 2]) ∧ w = w' := by
  have HD := Lib.hid (fun w => badDay_yes n w h)
  clear h
  go_enter Tryz.func21, Tryz.ntmps21
  go_wp2_with (go_at_call 42; refine (HD.out _).mono ?_; rintro e w' ⟨rfl, rfl⟩)
  refine bodyPost_ret (v := .tuple #[.int .i64 0, .int .i64 0, .int .i64 0, .int .i64 2]) (by simp [results, Tryz.results21, go_sem]) rfl ?_
  exact ⟨rfl, rfl⟩
end Go.Proofs.YtdolpehcfifecaaGreatDoor
