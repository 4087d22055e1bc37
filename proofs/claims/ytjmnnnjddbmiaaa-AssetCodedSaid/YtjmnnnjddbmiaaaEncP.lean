/- Plain facts on the digits of base 64: how long they are, which digit stands where, and that they give the bytes back. No program, no conditions beyond each statement's own. -/
import Derived.Test.YtjmnnnjddbmiaaaEnc
import Derived.Lib.Bytealg
namespace Go.Proofs.Ytjmnnnjddbmiaaa
open Go.RowKit Mh
set_option linter.unusedVariables false

def grps (s : ByteArray) : Nat := (s.size + 2) / 3
theorem encTo_length (s : ByteArray) (g : Nat) (hg : g < grps s) : (encTo s g).length = 4 * g := by
  induction g with
  | zero => simp [encTo]
  | succ g ih =>
    unfold grps at hg ih
    rw [encTo_succ, List.length_append, encD_length, ih (by omega)]
    unfold many
    omega
theorem enc64_length (s : ByteArray) : (enc64 s).length = (4 * s.size + 2) / 3 := by
  unfold enc64
  rcases h : (s.size + 2) / 3 with _ | g
  · simp [encTo]; omega
  · rw [encTo_succ, List.length_append, encD_length, encTo_length s g (by unfold grps; omega)]
    unfold many
    omega
theorem encTo_prefix (s : ByteArray) (g d : Nat) : encTo s g <+: encTo s (g + d) := by
  induction d with
  | zero => exact List.prefix_refl _
  | succ d ih => rw [← Nat.add_assoc, encTo_succ]; exact ih.trans (List.prefix_append _ _)
theorem enc_get (s : ByteArray) (g k : Nat) (hg : g < grps s) (hk : k < many s g + 1) :
    (enc64 s)[4 * g + k]? = some (d64.getD (dig (grp s (3 * g) 3) k).toNat 0) := by
  obtain ⟨r, hr⟩ := encTo_prefix s (g + 1) ((s.size + 2) / 3 - (g + 1))
  have e : g + 1 + ((s.size + 2) / 3 - (g + 1)) = (s.size + 2) / 3 := by unfold grps at hg; omega
  rw [e] at hr
  show (encTo s ((s.size + 2) / 3))[4 * g + k]? = _
  rw [← hr, encTo_succ, List.append_assoc, List.getElem?_append_right (by rw [encTo_length s g hg]; omega), encTo_length s g hg, Nat.add_sub_cancel_left,
    List.getElem?_append_left (by rw [encD_length]; exact hk)]
  simp [encD, List.getElem?_range hk]
theorem d64_index : ∀ m : Fin 64, Lib.indexByte d64 (d64.getD m.val 0) = m.val := by decide +kernel
theorem dig_bd (n : Int) (k : Nat) : 0 ≤ dig n k ∧ dig n k < 64 := by unfold dig; omega

/-- The number that the first k of m + 1 digits give, nought for each that is missing. -/
def dgr (n : Int) (m : Nat) : Nat → Int
  | 0 => 0
  | k + 1 => dgr n m k * 64 + (if k < m + 1 then dig n k else 0)
theorem dgr_bd (n : Int) (m : Nat) : ∀ k, k ≤ 4 → 0 ≤ dgr n m k ∧ dgr n m k < 64 ^ k := by
  intro k hk
  induction k with
  | zero => simp [dgr]
  | succ k ih =>
    have h1 := ih (by omega)
    have h2 := dig_bd n k
    rw [dgr, Int.pow_succ]
    split <;> omega
theorem grp3 (s : ByteArray) (i : Nat) : grp s i 3 = bAt s i * 65536 + bAt s (i + 1) * 256 + bAt s (i + 2) := by simp only [grp, Nat.add_zero]; omega
theorem bAt_out (s : ByteArray) (j : Nat) (h : s.size ≤ j) : bAt s j = 0 := by unfold bAt; rw [dif_neg (by omega)]
theorem dgr_all (s : ByteArray) (g : Nat) (hg : g < grps s) : dgr (grp s (3 * g) 3) (many s g) 4 = grp s (3 * g) 3 := by
  have b0 := bAt_bd s (3 * g)
  have b1 := bAt_bd s (3 * g + 1)
  have b2 := bAt_bd s (3 * g + 2)
  have hm : many s g = 1 ∨ many s g = 2 ∨ many s g = 3 := by unfold grps many at *; omega
  have o1 : many s g = 1 → bAt s (3 * g + 1) = 0 := fun h => bAt_out _ _ (by unfold many at h; omega)
  have o2 : many s g ≤ 2 → bAt s (3 * g + 2) = 0 := fun h => bAt_out _ _ (by unfold many at h; omega)
  rw [grp3]
  rcases hm with h | h | h <;> rw [h] at o1 o2 ⊢ <;> simp [dgr, dig] <;> omega
theorem bAt_getD (s : ByteArray) (j : Nat) : bAt s j = ((s.data.toList.getD j 0).toNat : Int) := by
  unfold bAt
  split
  · rename_i h
    have h' : j < s.data.toList.length := by simpa using h
    rw [List.getD, List.getElem?_eq_getElem h', Option.getD_some]
    rfl
  · rename_i h
    have h' : s.data.toList.length ≤ j := by simpa using h
    rw [List.getD, List.getElem?_eq_none h']
    rfl
def bys (s : ByteArray) (i m : Nat) : List UInt8 := (List.range m).map fun j => s.data.toList.getD (i + j) 0
theorem take_grp (s : ByteArray) (g : Nat) : s.data.toList.take (3 * (g + 1)) = s.data.toList.take (3 * g) ++ bys s (3 * g) (many s g) := by
  have hl : s.data.toList.length = s.size := by simp
  apply List.ext_getElem?
  intro i
  rw [List.getElem?_take, List.getElem?_append]
  simp only [List.length_take, hl, bys]
  by_cases h1 : i < min (3 * g) s.size
  · rw [if_pos h1, if_pos (by omega), List.getElem?_take, if_pos (by omega)]
  · rw [if_neg h1]
    by_cases h2 : i < 3 * (g + 1) ∧ i < s.size
    · rw [if_pos h2.1, List.getElem?_map, List.getElem?_range (by unfold many; omega)]
      simp only [Option.map_some, List.getD]
      rw [show 3 * g + (i - min (3 * g) s.size) = i from by omega, List.getElem?_eq_getElem (by omega)]
      rfl
    · have hr : ((List.range (many s g)).map fun j => s.data.toList.getD (3 * g + j) 0)[i - min (3 * g) s.size]? = none := by
        apply List.getElem?_eq_none
        simp only [List.length_map, List.length_range, many]
        omega
      rw [hr]
      split
      · exact List.getElem?_eq_none (by omega)
      · rfl
end Go.Proofs.Ytjmnnnjddbmiaaa
