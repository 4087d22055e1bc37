/- conf.date and conf.dayOf: each other's inverse. Conditions: days of 1970 to 2199. -/
import Derived.Test.YtkcbnmhdaaokhaaDoorDay
namespace Go.Proofs.YtkcbnmhdaaokhaaDoor
open Go.RowKit Mh Mh.Cal
set_option linter.unusedVariables false

def DateP (n : Int) (w : World) (e : Ending) (w' : World) : Prop := ∃ (y : Int) (m : Nat) (d : Int), Ymd n y m d ∧ e = .returned (.tuple #[.int .i64 y, .int .i64 m, .int .i64 d]) ∧ w = w'

set_option maxHeartbeats 1000000 in
theorem date_any (n : Int) (w : World) (h0 : 0 ≤ n) (h1 : n ≤ 84005) : Calls Tryd.prog 49 #[.int .i64 n] w (DateP n w) := by
  have g := bef_guess n h0 h1
  have hq : 0 ≤ n / 366 := Int.ediv_nonneg h0 (by omega)
  go_enter Tryd.func49, Tryd.ntmps49
  go_wp2_with fail
  go_loop [2] (fun t => ∃ y : Int, 1970 ≤ y ∧ y ≤ 2199 ∧ bef y ≤ n ∧ t = .int .i64 y) (fun t => (2200 - intOf t).toNat)
  case atStart => exact ⟨1970 + n / 366, by omega, g.2, g.1, rfl⟩
  case round =>
    clear g hq
    obtain ⟨y, hy0, hy1, hb, rfl⟩ := hrel
    have hs := bef_succ y
    have hbb := bef_bd y hy0 (by omega)
    have hyb := yd_bd y
    by_cases hc : bef y + yd y ≤ n
    · have hy2 : y + 1 ≤ 2199 := by
        by_cases e : y = 2199
        · exfalso
          rw [e] at hs hc
          have h2 : bef (2199 + 1) = 84006 := by decide
          omega
        · omega
      clear hs
      go_wp2_with (first | (go_at_call 84; refine (before_any _ _ hy0 (by omega)).mono ?_; rintro e w' ⟨rfl, rfl⟩) | (go_at_call 85; refine (yearDays_any _ _ (by omega) (by omega)).mono ?_; rintro e w' ⟨rfl, rfl⟩))
      go_round
      case rel => exact ⟨y + 1, by omega, by omega, by have := bef_succ y; omega, rfl⟩
      case measure => simp [intOf]; omega
    · have hc2 : n < bef y + yd y := by omega
      clear hs hc
      go_wp2_with (first | (go_at_call 84; refine (before_any _ _ hy0 (by omega)).mono ?_; rintro e w' ⟨rfl, rfl⟩) | (go_at_call 85; refine (yearDays_any _ _ (by omega) (by omega)).mono ?_; rintro e w' ⟨rfl, rfl⟩))
      go_loop [0, 3] (fun r t => ∃ m : Nat, 1 ≤ m ∧ m ≤ 12 ∧ t = .int .i64 m ∧ 0 ≤ n - bef y - cum y m ∧ r = .int .i64 (n - bef y - cum y m)) (fun _ t => (13 - intOf t).toNat)
      case atStart => exact ⟨1, by omega, by omega, rfl, by rw [cum_one]; omega, by rw [cum_one]; simp⟩
      case round =>
        obtain ⟨m, hm0, hm1, rfl, hr, rfl⟩ := hrel
        have hmb := md_bd y m
        have hcb := cum_bd y m
        by_cases hd : md y m ≤ n - bef y - cum y m
        · have hm2 : m + 1 ≤ 12 := by
            by_cases e : m = 12
            · exfalso
              subst e
              have h13 := cum_13 y
              have hs12 := cum_succ y 12 (by omega)
              have : cum y (12 + 1) = cum y 13 := rfl
              omega
            · omega
          go_wp2_with (go_at_call 86; refine (monthDays_any _ _ _ (by omega) (by omega)).mono ?_; rintro e w' ⟨rfl, rfl⟩)
          go_round
          case rel => exact ⟨m + 1, by omega, hm2, by go_num, by rw [cum_succ y m hm0]; omega, by rw [cum_succ y m hm0]; go_num⟩
          case measure => simp [intOf]; omega
        · have hd2 : n - bef y - cum y m < md y m := by omega
          clear hd
          go_wp2_with (go_at_call 86; refine (monthDays_any _ _ _ (by omega) (by omega)).mono ?_; rintro e w' ⟨rfl, rfl⟩)
          go_ret3
          exact ⟨y, m, n - bef y - cum y m + 1, ⟨hy0, hy1, hm0, hm1, by omega, by omega, by omega⟩, rfl, rfl⟩

set_option maxHeartbeats 1000000 in
theorem dayOf_ok (n y : Int) (m : Nat) (d : Int) (w : World) (h : Ymd n y m d) :
    Calls Tryd.prog 50 #[.int .i64 y, .int .i64 m, .int .i64 d] w fun e w' => e = .returned (.tuple #[.int .i64 n, .bool true]) ∧ w = w' := by
  obtain ⟨hy0, hy1, hm0, hm1, hd0, hd1, he⟩ := h
  have hb := bef_bd y hy0 (by omega)
  have hmb := md_bd y m
  have HE := Lib.hid he
  clear he
  go_enter Tryd.func50, Tryd.ntmps50
  go_wp2_with (first | (go_at_call 86; refine (monthDays_any _ _ _ (by omega) (by omega)).mono ?_; rintro e w' ⟨rfl, rfl⟩) | (go_at_call 84; refine (before_any _ _ hy0 (by omega)).mono ?_; rintro e w' ⟨rfl, rfl⟩))
  go_loop [8, 9] (fun s t => ∃ k : Nat, 1 ≤ k ∧ k ≤ m ∧ t = .int .i64 k ∧ s = .int .i64 (bef y + d - 1 + cum y k)) (fun _ t => (m - (intOf t).toNat))
  case atStart => exact ⟨1, by omega, hm0, rfl, by rw [cum_one]; simp⟩
  case round =>
    obtain ⟨k, hk0, hk1, rfl, rfl⟩ := hrel
    have hkb := md_bd y k
    have hcb := cum_bd y k
    by_cases hkm : k < m
    · go_wp2_with (go_at_call 86; refine (monthDays_any _ _ _ (by omega) (by omega)).mono ?_; rintro e w' ⟨rfl, rfl⟩)
      go_round
      case rel => exact ⟨k + 1, by omega, by omega, by go_num, by rw [cum_succ y k hk0]; go_num⟩
      case measure => simp [intOf]; omega
    · obtain rfl : k = m := by omega
      go_wp2_with fail
      go_ret2
      refine ⟨?_, rfl⟩
      have h2 : bef y + d - 1 + cum y k = n := by have := HE.out; omega
      show Ending.returned (.tuple #[.int .i64 (bef y + d - 1 + cum y k), .bool true]) = _
      rw [h2]
end Go.Proofs.YtkcbnmhdaaokhaaDoor
