/- asset.badByte, isBlank, isDigit, isScriptWord: what each returns. No conditions. -/
import Derived.Test.YtckinhebbhflgaaProg
import Derived.Test.YtckinhebbhflgaaSmQ
import Derived.Test.YtckinhebbhflgaaKept
import Derived.Deep.QuietTactic
import Derived.BigQuiet
import Derived.Outline
namespace Go.Proofs.Ytckinhebbhflgaa
open Go.RowKit Mh
set_option linter.unusedVariables false

theorem bad_int (c : UInt8) : bad c = decide (((c.toNat : Int) < 32 ∧ (c.toNat : Int) ≠ 9 ∧ (c.toNat : Int) ≠ 10) ∨ (c.toNat : Int) = 127) := by
  rw [Bool.eq_iff_iff]
  simp [bad, ← UInt8.toNat_inj, UInt8.lt_iff_toNat_lt]
  omega
theorem blk_int (c : UInt8) : blk c = decide ((c.toNat : Int) = 32 ∨ (c.toNat : Int) = 9 ∨ (c.toNat : Int) = 10) := by
  rw [Bool.eq_iff_iff]
  simp [blk, ← UInt8.toNat_inj]
  omega
def digI (n : Int) : Bool := decide (48 ≤ n ∧ n ≤ 57)
theorem swd_int (c : UInt8) : swd c = decide ((97 ≤ (c.toNat : Int) ∧ (c.toNat : Int) ≤ 122) ∨ (65 ≤ (c.toNat : Int) ∧ (c.toNat : Int) ≤ 90) ∨ digI (c.toNat : Int) = true ∨ (c.toNat : Int) = 95 ∨ (c.toNat : Int) = 36 ∨ 128 ≤ (c.toNat : Int)) := by
  rw [Bool.eq_iff_iff]
  simp [swd, digI, ← UInt8.toNat_inj, UInt8.le_iff_toNat_le]
  omega
theorem badByte_any (c : UInt8) (w : World) : Calls Try.prog 18 #[.int .u8 (c.toNat : Int)] w fun e w' => e = .returned (.bool (bad c)) ∧ w = w' := by
  have H := Lib.hid (bad_int c)
  generalize bad c = B at *
  generalize (c.toNat : Int) = n at *
  go_enter Try.func18, Try.ntmps18
  go_wp2_with fail
  all_goals go_ret
  all_goals (refine ⟨?_, rfl⟩; rw [H.out]; refine congrArg Ending.returned (congrArg Value.bool (Bool.eq_iff_iff.2 ?_)); simp <;> omega)
theorem isBlank_any (c : UInt8) (w : World) : Calls Try.prog 19 #[.int .u8 (c.toNat : Int)] w fun e w' => e = .returned (.bool (blk c)) ∧ w = w' := by
  have H := Lib.hid (blk_int c)
  generalize blk c = B at *
  generalize (c.toNat : Int) = n at *
  go_enter Try.func19, Try.ntmps19
  go_wp2_with fail
  all_goals go_ret
  all_goals (refine ⟨?_, rfl⟩; rw [H.out]; refine congrArg Ending.returned (congrArg Value.bool (Bool.eq_iff_iff.2 ?_)); simp <;> omega)
theorem isDigit_any (n : Int) (w : World) : Calls Try.prog 42 #[.int .u8 n] w fun e w' => e = .returned (.bool (digI n)) ∧ w = w' := by
  have H := Lib.hid (show digI n = decide (48 ≤ n ∧ n ≤ 57) from rfl)
  generalize digI n = B at *
  go_enter Try.func42, Try.ntmps42
  go_wp2_with fail
  all_goals go_ret
  all_goals (refine ⟨?_, rfl⟩; rw [H.out]; refine congrArg Ending.returned (congrArg Value.bool (Bool.eq_iff_iff.2 ?_)); simp <;> omega)
theorem isSword_any (c : UInt8) (w : World) : Calls Try.prog 35 #[.int .u8 (c.toNat : Int)] w fun e w' => e = .returned (.bool (swd c)) ∧ w = w' := by
  have H := Lib.hid (swd_int c)
  have HD := Lib.hid (fun w' => isDigit_any (c.toNat : Int) w')
  generalize swd c = B at *
  generalize (c.toNat : Int) = n at *
  generalize hD : digI n = D at *
  clear hD
  go_enter Try.func35, Try.ntmps35
  go_wp2_with (go_at_call 42; refine (HD.out _).mono ?_; rintro e w' ⟨rfl, rfl⟩)
  all_goals go_ret
  all_goals (refine ⟨?_, rfl⟩; rw [H.out]; refine congrArg Ending.returned (congrArg Value.bool (Bool.eq_iff_iff.2 ?_)); cases D <;> simp_all <;> omega)
end Go.Proofs.Ytckinhebbhflgaa
