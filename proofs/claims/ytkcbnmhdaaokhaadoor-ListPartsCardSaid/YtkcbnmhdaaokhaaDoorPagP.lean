/- The parts of a pager in plain numbers. -/
import Derived.Test.YtkcbnmhdaaokhaaDoorBase
namespace Mh
open Go Go.RowKit
/-- The cells of part j. -/
def partC (many size : Nat) (j : Nat) : List Value := [.int .i64 ((j : Int) + 1), .int .i64 ((j * size : Nat) : Int), .int .i64 (min (((j * size : Nat) : Int) + (size : Int)) (many : Int))]
def partsC (many size k : Nat) : List Value := (List.range k).flatMap (partC many size)
theorem partsC_zero (many size : Nat) : partsC many size 0 = [] := rfl
theorem partsC_succ (many size k : Nat) : partsC many size (k + 1) = partsC many size k ++ partC many size k := by
  simp [partsC, List.range_succ]
theorem partsC_length (many size k : Nat) : (partsC many size k).length = k * 3 := by
  induction k with
  | zero => rfl
  | succ k ih => rw [partsC_succ, List.length_append, ih]; show _ + 3 = _; omega
theorem partsC_get (many size : Nat) : ∀ (k i : Nat), i < k → ∀ j, j < 3 → (partsC many size k)[i * 3 + j]? = (partC many size i)[j]? := by
  intro k
  induction k with
  | zero => intro i h; omega
  | succ k ih =>
    intro i h j hj
    rw [partsC_succ]
    by_cases hi : i < k
    · rw [List.getElem?_append_left (by rw [partsC_length]; omega)]
      exact ih i hi j hj
    · obtain rfl : i = k := by omega
      rw [List.getElem?_append_right (by rw [partsC_length]; omega), partsC_length, Nat.add_sub_cancel_left]
end Mh
