/- Days as strings: the ten bytes of a day, and what is read of them. Plain lists and numbers. -/
import Derived.Test.YtejnoedlfbglcaaGreatDoorCal
namespace Mh.Cal
open Go Go.RowKit

/-- The last w decimal digits of n. -/
def digs (n : Nat) : Nat → List UInt8
  | 0 => []
  | w + 1 => digs (n / 10) w ++ [UInt8.ofNat (48 + n % 10)]
theorem digs_length (w : Nat) : ∀ n, (digs n w).length = w := by
  induction w with
  | zero => intro n; rfl
  | succ w ih => intro n; simp [digs, ih]
def dayL (y : Nat) (m : Nat) (d : Nat) : List UInt8 := digs y 4 ++ ([45] ++ (digs m 2 ++ ([45] ++ digs d 2)))
theorem dayL_length (y m d : Nat) : (dayL y m d).length = 10 := by simp [dayL, digs_length]
theorem digs4 (y : Nat) : digs y 4 = [UInt8.ofNat (48 + y / 1000 % 10), UInt8.ofNat (48 + y / 100 % 10), UInt8.ofNat (48 + y / 10 % 10), UInt8.ofNat (48 + y % 10)] := by
  simp [digs, Nat.div_div_eq_div_mul]
theorem digs2 (y : Nat) : digs y 2 = [UInt8.ofNat (48 + y / 10 % 10), UInt8.ofNat (48 + y % 10)] := by
  simp [digs]
theorem dayL_eq (y m d : Nat) : dayL y m d = [UInt8.ofNat (48 + y / 1000 % 10), UInt8.ofNat (48 + y / 100 % 10), UInt8.ofNat (48 + y / 10 % 10), UInt8.ofNat (48 + y % 10), 45, UInt8.ofNat (48 + m / 10 % 10), UInt8.ofNat (48 + m % 10), 45, UInt8.ofNat (48 + d / 10 % 10), UInt8.ofNat (48 + d % 10)] := by
  rw [dayL, digs4, digs2, digs2]; rfl
theorem ofNat_toNat (k : Nat) (h : k < 10) : (UInt8.ofNat (48 + k)).toNat = 48 + k := by
  simp only [UInt8.toNat_ofNat']
  omega
end Mh.Cal
