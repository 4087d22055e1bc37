/- (*scanner).read: a token that begins with a byte. Conditions: the parser's cells; a string of at most 2^40 bytes. -/
import Derived.Test.YtejnoedlfbglcaaGreatDoorPsD
namespace Go.Proofs.YtejnoedlfbglcaaGreatDoor
open Go.RowKit Mh
set_option linter.unusedVariables false

/-- The token that begins with c. -/
def readF (c : UInt8) (l : List UInt8) : Option (Tk × List UInt8) :=
  if wordB c = true then some (.word ((c :: l).takeWhile wordB), (c :: l).dropWhile wordB)
  else if c.toNat = 34 then (textF l).map fun p => (.text p.1, p.2)
  else if signB c = true then some (.sign c, l)
  else none
theorem signB_index (c : UInt8) : (0 ≤ Lib.indexByte [91, 93, 123, 125, 59] c) ↔ signB c = true := by
  have ne : ∀ n : Nat, n < 256 → c.toNat ≠ n → (UInt8.ofNat n == c) = false := fun n hn hd => beq_false_of_ne fun e => hd (by rw [← e, UInt8.toNat_ofNat']; omega)
  unfold signB
  by_cases h1 : c.toNat = 91
  · rw [u8_of h1]; decide
  by_cases h2 : c.toNat = 93
  · rw [u8_of h2]; decide
  by_cases h3 : c.toNat = 123
  · rw [u8_of h3]; decide
  by_cases h4 : c.toNat = 125
  · rw [u8_of h4]; decide
  by_cases h5 : c.toNat = 59
  · rw [u8_of h5]; decide
  have e1 : ((91 : UInt8) == c) = false := ne 91 (by omega) h1
  have e2 : ((93 : UInt8) == c) = false := ne 93 (by omega) h2
  have e3 : ((123 : UInt8) == c) = false := ne 123 (by omega) h3
  have e4 : ((125 : UInt8) == c) = false := ne 125 (by omega) h4
  have e5 : ((59 : UInt8) == c) = false := ne 59 (by omega) h5
  simp [Lib.indexByte, e1, e2, e3, e4, e5, h1, h2, h3, h4, h5]
theorem takeW_at {s : ByteArray} {a b : Nat} (hab : a ≤ b) (hb : b ≤ s.size) (hall : ∀ j (h : j < s.size), a ≤ j → j < b → wordB s[j] = true) (hend : ∀ j (h : j < s.size), j = b → wordB s[j] = false) :
    (s.data.toList.drop a).takeWhile wordB = (s.data.toList.drop a).take (b - a) ∧ (s.data.toList.drop a).dropWhile wordB = s.data.toList.drop b := by
  obtain ⟨d, rfl⟩ : ∃ d, b = a + d := ⟨b - a, by omega⟩
  induction d generalizing a with
  | zero =>
    rw [Nat.add_zero, Nat.sub_self]
    by_cases h : a < s.size
    · rw [drop_at h, List.takeWhile_cons_of_neg (by rw [hend a h (by omega)]; simp), List.dropWhile_cons_of_neg (by rw [hend a h (by omega)]; simp)]; simp
    · rw [drop_end (by omega)]; simp
  | succ d ih =>
    have hl : a < s.size := by omega
    have hw := hall a hl (Nat.le_refl _) (by omega)
    obtain ⟨h1, h2⟩ := ih (a := a + 1) (by omega) (by omega) (fun j h h3 h4 => hall j h (by omega) (by omega)) (fun j h e => hend j h (by omega))
    rw [drop_at hl, List.takeWhile_cons_of_pos hw, List.dropWhile_cons_of_pos hw, h1, h2]
    refine ⟨?_, by congr 1; omega⟩
    rw [show a + (d + 1) - a = (a + 1 + d - (a + 1)) + 1 by omega, List.take_succ_cons]
end Go.Proofs.YtejnoedlfbglcaaGreatDoor
