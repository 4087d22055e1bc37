/- lang.magnitude, holds, form, Form: the form of a number. Conditions: the rule is right. -/
import Derived.Test.YtgfoangacbajlaaDoorRuI
import Derived.Test.YtgfoangacbajlaaDoorRuQ
import Derived.Deep.RegionHeld3
import Derived.Deep.QuietTactic
import Derived.BigQuiet
namespace Go.Proofs.YtgfoangacbajlaaDoor
open Go.RowKit Mh
set_option linter.unusedVariables false

theorem mag_any (n : Int) (h0 : -9223372036854775808 ≤ n) (h1 : n ≤ 9223372036854775807) (w : World) :
    Calls Tryd.prog 31 #[.int .i64 n] w fun e w' => e = .returned (.int .u64 (n.natAbs : Int)) ∧ w = w' := by
  by_cases hn : n < 0
  · have q : decide (n < 0) = true := decide_eq_true hn
    have e1 : IntKind.i64.wrap (n + 1) = n + 1 := IntWalk.i64_in _ (by omega)
    have e2 : IntKind.i64.wrap (-(n + 1)) = -(n + 1) := IntWalk.i64_in _ (by omega)
    have e3 : IntKind.u64.wrap (-(n + 1)) = -(n + 1) := by rw [IntKind.wrap_u64]; omega
    have e4 : IntKind.u64.wrap (-(n + 1) + 1) = -(n + 1) + 1 := by rw [IntKind.wrap_u64]; omega
    have HE : Hid (-(n + 1) + 1 = (n.natAbs : Int)) := by show _ = _; omega
    go_enter Tryd.func31, Tryd.ntmps31
    go_wp2_with fail
    go_ret
    refine ⟨?_, rfl⟩
    show Ending.returned (.int .u64 (-(n + 1) + 1)) = _
    rw [HE.out]
  · have q : decide (n < 0) = false := decide_eq_false hn
    have HE : Hid (n = (n.natAbs : Int)) := by show _ = _; omega
    go_enter Tryd.func31, Tryd.ntmps31
    go_wp2_with fail
    go_ret
    refine ⟨?_, rfl⟩
    show Ending.returned (.int .u64 n) = _
    rw [← HE.out]

set_option maxHeartbeats 2000000 in
theorem hold_one (m lo hi : Int) (ks : List T) (ao : Option Addr) (c : Nat) (n : Nat) (w : World) (hr : (m = 0 ∨ 2 ≤ m ∧ m ≤ 1000000) ∧ 0 ≤ lo ∧ lo ≤ hi ∧ hi ≤ 1000000000) (hn : n < 18446744073709551616) :
    Calls Tryd.prog 30 #[.agg #[.int .i64 1, .int .i64 m, .int .i64 lo, .int .i64 hi, .slice ao ks.length c], .int .u64 n] w fun e w' => e = .returned (.bool ((T.mk 1 m lo hi ks).hold n)) ∧ Below w.heap.size w w' := by
  obtain ⟨hm, hl0, hlh, hh⟩ := hr
  have HB0 : Hid (Below w.heap.size w (w.alloc (.cells #[.int .i64 1, .int .i64 m, .int .i64 lo, .int .i64 hi, .slice ao ks.length c] 42))) := (Below.refl _ w).alloc (Nat.le_refl _) _
  have HF := Lib.hid (hold_within m lo hi ks n)
  obtain ⟨F, hF⟩ : ∃ F, F = (T.mk 1 m lo hi ks).hold n := ⟨_, rfl⟩
  rw [← hF] at HF ⊢
  have e1 : IntKind.u64.wrap m = m := by rw [IntKind.wrap_u64]; omega
  have e2 : IntKind.u64.wrap lo = lo := by rw [IntKind.wrap_u64]; omega
  have e3 : IntKind.u64.wrap hi = hi := by rw [IntKind.wrap_u64]; omega
  obtain ⟨x, hx⟩ : ∃ x : Int, x = (if m = 0 then (n : Int) else (n : Int) % m) := ⟨_, rfl⟩
  rw [← hx] at HF
  have HX := Lib.hid hx
  clear hF hx
  have hn' : ((n : Nat) : Int) < 18446744073709551616 := by omega
  by_cases hm0 : m = 0
  · have q1 : (m != 0) = false := by rw [hm0]; rfl
    have hxn : x = (n : Int) := by rw [HX.out, if_pos hm0]
    rw [hxn] at HF
    clear hm0 hxn
    by_cases a1 : lo ≤ (n : Int)
    · have q2 : decide (lo ≤ (n : Int)) = true := decide_eq_true a1
      by_cases a2 : (n : Int) ≤ hi
      · have q3 : decide ((n : Int) ≤ hi) = true := decide_eq_true a2
        have HFF : Hid (F = true) := by show F = _; rw [HF.out, q2, q3]; rfl
        go_enter Tryd.func30, Tryd.ntmps30
        go_wp2_with fail
        go_ret
        exact ⟨by rw [HFF.out]; rfl, HB0.out⟩
      · have q3 : decide ((n : Int) ≤ hi) = false := decide_eq_false a2
        have HFF : Hid (F = false) := by show F = _; rw [HF.out, q2, q3]; rfl
        go_enter Tryd.func30, Tryd.ntmps30
        go_wp2_with fail
        go_ret
        exact ⟨by rw [HFF.out]; rfl, HB0.out⟩
    · have q2 : decide (lo ≤ (n : Int)) = false := decide_eq_false a1
      have HFF : Hid (F = false) := by show F = _; rw [HF.out, q2]; rfl
      go_enter Tryd.func30, Tryd.ntmps30
      go_wp2_with fail
      go_ret
      exact ⟨by rw [HFF.out]; rfl, HB0.out⟩
  · have q1 : (m != 0) = true := by rw [bne_iff_ne]; exact hm0
    have hxn : x = (n : Int) % m := by rw [HX.out, if_neg hm0]
    have hx0 : 0 ≤ (n : Int) % m := Int.emod_nonneg _ hm0
    have hx1 : (n : Int) % m < m := Int.emod_lt_of_pos _ (by omega)
    have hmp : 0 < m := by omega
    rw [hxn] at HF
    clear hxn
    by_cases a1 : lo ≤ (n : Int) % m
    · have q2 : decide (lo ≤ (n : Int) % m) = true := decide_eq_true a1
      by_cases a2 : (n : Int) % m ≤ hi
      · have q3 : decide ((n : Int) % m ≤ hi) = true := decide_eq_true a2
        have HFF : Hid (F = true) := by show F = _; rw [HF.out, q2, q3]; rfl
        go_enter Tryd.func30, Tryd.ntmps30
        go_wp2_with fail
        go_ret
        exact ⟨by rw [HFF.out]; rfl, HB0.out⟩
      · have q3 : decide ((n : Int) % m ≤ hi) = false := decide_eq_false a2
        have HFF : Hid (F = false) := by show F = _; rw [HF.out, q2, q3]; rfl
        go_enter Tryd.func30, Tryd.ntmps30
        go_wp2_with fail
        go_ret
        exact ⟨by rw [HFF.out]; rfl, HB0.out⟩
    · have q2 : decide (lo ≤ (n : Int) % m) = false := decide_eq_false a1
      have HFF : Hid (F = false) := by show F = _; rw [HF.out, q2]; rfl
      go_enter Tryd.func30, Tryd.ntmps30
      go_wp2_with fail
      go_ret
      exact ⟨by rw [HFF.out]; rfl, HB0.out⟩
end Go.Proofs.YtgfoangacbajlaaDoor
