/- Decimal numerals: their digits, their first digit, their value. Plain. -/
import Derived.Test.YtihdfkcoajpmjaaGreatDoorBase
import Derived.Lib.ItoaNum
namespace Mh
open Go
set_option linter.unusedVariables false

theorem decDigits_small {u : Nat} (h : u < 10) : Lib.decDigits u = [UInt8.ofNat (48 + u)] := by rw [Lib.decDigits, dif_pos h]
theorem decDigits_big {u : Nat} (h : ¬ u < 10) : Lib.decDigits u = Lib.decDigits (u / 10) ++ [UInt8.ofNat (48 + u % 10)] := by rw [Lib.decDigits, dif_neg h]
theorem digit_nat {d : Nat} (h : d < 10) : (UInt8.ofNat (48 + d)).toNat = 48 + d := by
  rw [UInt8.toNat_ofNat']; omega
theorem dec_digit (n : Nat) : ∀ c ∈ Lib.decDigits n, 48 ≤ c.toNat ∧ c.toNat ≤ 57 := by
  induction n using Nat.strongRecOn with
  | _ n ih =>
    by_cases h : n < 10
    · rw [decDigits_small h]
      intro c hc
      simp only [List.mem_cons, List.not_mem_nil, or_false] at hc
      rw [hc, digit_nat h]; omega
    · rw [decDigits_big h]
      intro c hc
      rcases List.mem_append.1 hc with hc | hc
      · exact ih (n / 10) (by omega) c hc
      · simp only [List.mem_cons, List.not_mem_nil, or_false] at hc
        rw [hc, digit_nat (by omega)]; omega
theorem dec_ne (n : Nat) : Lib.decDigits n ≠ [] := by
  by_cases h : n < 10
  · rw [decDigits_small h]; simp
  · rw [decDigits_big h]; simp
theorem dec_head (n : Nat) (h1 : 1 ≤ n) : (Lib.decDigits n).head? ≠ some 48 := by
  induction n using Nat.strongRecOn with
  | _ n ih =>
    by_cases h : n < 10
    · rw [decDigits_small h]
      simp only [List.head?_cons, ne_eq, Option.some.injEq]
      intro e
      have := congrArg UInt8.toNat e
      rw [digit_nat h] at this
      have e2 : (48 : UInt8).toNat = 48 := rfl
      omega
    · have := ih (n / 10) (by omega) (by omega)
      rw [decDigits_big h]
      cases hc : Lib.decDigits (n / 10) with
      | nil => exact absurd hc (dec_ne _)
      | cons a l => rw [hc] at this; simpa using this
/-- The number that digits write. -/
def dval (l : List UInt8) : Nat := l.foldl (fun n c => 10 * n + (c.toNat - 48)) 0
theorem dval_snoc (l : List UInt8) (c : UInt8) : dval (l ++ [c]) = 10 * dval l + (c.toNat - 48) := by simp [dval]
theorem dec_val (n : Nat) : dval (Lib.decDigits n) = n := by
  induction n using Nat.strongRecOn with
  | _ n ih =>
    by_cases h : n < 10
    · rw [decDigits_small h]
      simp only [dval, List.foldl_cons, List.foldl_nil]
      rw [digit_nat h]; omega
    · rw [decDigits_big h, dval_snoc, ih (n / 10) (by omega), digit_nat (by omega)]; omega
theorem dec_inj {a b : Nat} (h : Lib.decDigits a = Lib.decDigits b) : a = b := by
  rw [← dec_val a, h, dec_val]
theorem dfold_ge (l : List UInt8) : ∀ a, a ≤ l.foldl (fun n c => 10 * n + (c.toNat - 48)) a := by
  induction l with
  | nil => intro a; simp
  | cons c l ih => intro a; have := ih (10 * a + (c.toNat - 48)); simp only [List.foldl_cons]; omega
theorem dval_take (l : List UInt8) (i : Nat) : dval (l.take i) ≤ dval l := by
  have : dval l = (l.drop i).foldl (fun n c => 10 * n + (c.toNat - 48)) (dval (l.take i)) := by
    unfold dval; rw [← List.foldl_append, List.take_append_drop]
  rw [this]; exact dfold_ge _ _
theorem dec_len : ∀ (k n : Nat), 1 ≤ k → n < 10 ^ k → (Lib.decDigits n).length ≤ k
  | 0, n, h, _ => by omega
  | k + 1, n, _, h => by
    by_cases hn : n < 10
    · rw [decDigits_small hn]; simp
    · have hk : 1 ≤ k := by
        rcases Nat.eq_zero_or_pos k with rfl | h9
        · simp at h; omega
        · exact h9
      have := dec_len k (n / 10) hk (by rw [Nat.pow_succ] at h; omega)
      rw [decDigits_big hn]; simp; omega
end Mh
