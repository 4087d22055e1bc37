/- The calendar in plain numbers: days of months and years, days from 1970 to a year. No conditions beyond those that each states. -/
import Derived.Test.YtejnoedlfbglcaaGreatDoorBase
namespace Mh.Cal
open Go Go.RowKit

def leapB (y : Int) : Bool := decide (y % 4 = 0 ∧ (y % 100 ≠ 0 ∨ y % 400 = 0))
def yd (y : Int) : Int := if leapB y then 366 else 365
def md (y m : Int) : Int := if m = 2 then (if leapB y then 29 else 28) else if m = 4 ∨ m = 6 ∨ m = 9 ∨ m = 11 then 30 else 31
def bef (y : Int) : Int := 365 * (y - 1970) + (y - 1) / 4 - (y - 1) / 100 + (y - 1) / 400 - 477
/-- Days of the year ahead of a month. -/
def cum (y : Int) : Nat → Int
  | 0 => 0
  | m + 1 => if m = 0 then 0 else cum y m + md y m
theorem cum_one (y : Int) : cum y 1 = 0 := rfl
theorem cum_succ (y : Int) (m : Nat) (h : 1 ≤ m) : cum y (m + 1) = cum y m + md y m := by
  show (if m = 0 then 0 else cum y m + md y m) = _
  rw [if_neg (by omega)]
theorem bef_succ (y : Int) : bef (y + 1) = bef y + yd y := by
  unfold bef yd leapB
  by_cases h4 : y % 4 = 0
  · by_cases h100 : y % 100 = 0
    · by_cases h400 : y % 400 = 0
      · simp [h4, h400]; omega
      · simp [h4, h100, h400]; omega
    · simp [h4, h100]; omega
  · simp [h4]; omega
theorem md_bd (y m : Int) : 28 ≤ md y m ∧ md y m ≤ 31 := by
  unfold md
  split
  · split <;> omega
  · split <;> omega
theorem yd_bd (y : Int) : 365 ≤ yd y ∧ yd y ≤ 366 := by unfold yd; split <;> omega
theorem cum_13 (y : Int) : cum y 13 = yd y := by
  simp only [cum_succ y _ (show 1 ≤ 12 by omega), cum_succ y _ (show 1 ≤ 11 by omega), cum_succ y _ (show 1 ≤ 10 by omega), cum_succ y _ (show 1 ≤ 9 by omega), cum_succ y _ (show 1 ≤ 8 by omega), cum_succ y _ (show 1 ≤ 7 by omega), cum_succ y _ (show 1 ≤ 6 by omega), cum_succ y _ (show 1 ≤ 5 by omega), cum_succ y _ (show 1 ≤ 4 by omega), cum_succ y _ (show 1 ≤ 3 by omega), cum_succ y _ (show 1 ≤ 2 by omega), cum_succ y _ (show 1 ≤ 1 by omega), cum_one]
  unfold yd md
  cases leapB y <;> rfl
theorem cum_bd (y : Int) (m : Nat) : 0 ≤ cum y m ∧ cum y m ≤ 31 * m := by
  induction m with
  | zero => exact ⟨Int.le_refl _, by simp [cum]⟩
  | succ m ih =>
    by_cases h : m = 0
    · subst h; simp [cum]
    · rw [cum_succ y m (by omega)]
      have := md_bd y m
      omega
theorem bef_mono (a b : Int) (h : a ≤ b) : bef a ≤ bef b := by unfold bef; omega
theorem bef_1970 : bef 1970 = 0 := by decide
theorem bef_2200 : bef 2200 = 84006 := by decide
theorem bef_bd (y : Int) (h0 : 1970 ≤ y) (h1 : y ≤ 2200) : 0 ≤ bef y ∧ bef y ≤ 84006 := by
  have a := bef_mono 1970 y h0
  have b := bef_mono y 2200 h1
  rw [bef_1970] at a
  rw [bef_2200] at b
  exact ⟨a, b⟩
theorem bef_guess (n : Int) (h0 : 0 ≤ n) (h1 : n ≤ 84005) : bef (1970 + n / 366) ≤ n ∧ 1970 + n / 366 ≤ 2199 := by
  unfold bef; omega
/-- A day as year, month and number in the month. -/
structure Ymd (n y : Int) (m : Nat) (d : Int) : Prop where
  y0 : 1970 ≤ y
  y1 : y ≤ 2199
  m0 : 1 ≤ m
  m1 : m ≤ 12
  d0 : 1 ≤ d
  d1 : d ≤ md y m
  eq : bef y + cum y m + d - 1 = n
end Mh.Cal
