/- The rows of an image's text as a list. Plain Lean; no program. -/
import Derived.Test.YtjmnnnjddbmiaaaDoorBase
import Derived.Test.YtjmnnnjddbmiaaaDoorDig
namespace Mh
open Go Go.RowKit Go.Proofs.YtjmnnnjddbmiaaaDoor
set_option linter.unusedVariables false

/-- Byte i of the rows of an image of width W. -/
def rowG (W : Nat) (L : List Int) (i : Nat) : UInt8 := if i % (W + 1) = W then 10 else hexD.getD (L.getD (i - i / (W + 1)) 0).toNat 0
def imgRows (W : Nat) (L : List Int) (n : Nat) : List UInt8 := (List.range n).map (rowG W L)
theorem imgRows_length (W : Nat) (L : List Int) (n : Nat) : (imgRows W L n).length = n := by simp [imgRows]
theorem imgRows_succ (W : Nat) (L : List Int) (n : Nat) : imgRows W L (n + 1) = imgRows W L n ++ [rowG W L n] := by simp [imgRows, List.range_succ]
theorem imgRows_get (W : Nat) (L : List Int) (n i : Nat) (h : i < n) : (imgRows W L n)[i]? = some (rowG W L i) := by simp [imgRows, h]

/-- A place p = (W+1) q + r. -/
theorem at_split (W q r : Nat) (h : r < W + 1) : ((W + 1) * q + r) % (W + 1) = r ∧ ((W + 1) * q + r) / (W + 1) = q := by
  constructor
  · rw [Nat.mul_add_mod, Nat.mod_eq_of_lt h]
  · rw [Nat.mul_add_div (by omega), Nat.div_eq_of_lt h]; omega

/-- Where level i stands. -/
def lvAt (W i : Nat) : Nat := i + i / W
theorem lvAt_split (W i : Nat) (hW : 1 ≤ W) : lvAt W i = (W + 1) * (i / W) + i % W ∧ i % W < W := by
  have := Nat.div_add_mod i W
  refine ⟨?_, Nat.mod_lt _ (by omega)⟩
  unfold lvAt
  rw [Nat.add_mul, Nat.one_mul]
  omega
theorem rowG_lv (W : Nat) (L : List Int) (i : Nat) (hW : 1 ≤ W) : rowG W L (lvAt W i) = hexD.getD (L.getD i 0).toNat 0 := by
  obtain ⟨h1, h2⟩ := lvAt_split W i hW
  obtain ⟨h3, h4⟩ := at_split W (i / W) (i % W) (by omega)
  rw [h1]
  unfold rowG
  rw [h3, h4, if_neg (by omega)]
  congr 3
  rw [← h1]
  unfold lvAt
  omega
theorem lvAt_step (W i : Nat) (hW : 1 ≤ W) : lvAt W (i + 1) = if (i + 1) % W = 0 then lvAt W i + 2 else lvAt W i + 1 := by
  unfold lvAt
  rw [Nat.succ_div]
  simp only [Nat.dvd_iff_mod_eq_zero]
  split <;> omega
theorem rowG_end (W : Nat) (L : List Int) (i : Nat) (hW : 1 ≤ W) (h : (i + 1) % W = 0) : rowG W L (lvAt W i + 1) = 10 := by
  obtain ⟨h1, h2⟩ := lvAt_split W i hW
  have h5 : i % W + 1 = W := by
    by_cases hc : i % W + 1 = W
    · exact hc
    · exfalso
      rw [Nat.add_mod, Nat.mod_eq_of_lt (a := 1) (by omega), Nat.mod_eq_of_lt (by omega)] at h
      omega
  obtain ⟨h3, h4⟩ := at_split W (i / W) W (by omega)
  rw [h1, Nat.add_assoc, h5]
  unfold rowG
  rw [h3, if_pos rfl]
theorem rows_step (W : Nat) (L : List Int) (i : Nat) (hW : 1 ≤ W) :
    imgRows W L (lvAt W (i + 1)) = imgRows W L (lvAt W i) ++ (hexD.getD (L.getD i 0).toNat 0 :: if (i + 1) % W = 0 then [10] else []) := by
  rw [lvAt_step W i hW]
  split
  · rw [imgRows_succ, imgRows_succ, rowG_lv W L i hW, rowG_end W L i hW (by assumption)]; simp
  · rw [imgRows_succ, rowG_lv W L i hW]
theorem lvAt_all (W H : Nat) (hW : 1 ≤ W) : lvAt W (W * H) = H * (W + 1) := by
  unfold lvAt
  rw [Nat.mul_div_cancel_left _ (by omega), Nat.mul_add, Nat.mul_comm W H]; omega

/-- How many levels stand before place p. -/
def lvN (W p : Nat) : Nat := p - p / (W + 1)
theorem lvN_zero (W : Nat) : lvN W 0 = 0 := by simp [lvN]
theorem lvN_step (W p : Nat) : lvN W (p + 1) = if p % (W + 1) = W then lvN W p else lvN W p + 1 := by
  have h1 := Nat.div_add_mod p (W + 1)
  have h2 := Nat.mod_lt p (show 0 < W + 1 by omega)
  have h0 : p / (W + 1) ≤ p := Nat.div_le_self _ _
  unfold lvN
  rw [Nat.succ_div]
  have hk : (W + 1 ∣ p + 1) ↔ p % (W + 1) = W := by
    rw [Nat.dvd_iff_mod_eq_zero]
    constructor
    · intro h
      by_cases hc : p % (W + 1) = W
      · exact hc
      · exfalso
        rw [Nat.add_mod] at h
        by_cases hw : W = 0
        · subst hw; omega
        rw [Nat.mod_eq_of_lt (a := 1) (by omega), Nat.mod_eq_of_lt (by omega)] at h
        omega
    · intro h
      have : p + 1 = (W + 1) * (p / (W + 1) + 1) := by rw [Nat.mul_add]; omega
      rw [this, Nat.mul_mod_right]
  simp only [hk]
  split <;> omega
theorem lvN_lt (W H p : Nat) (h : p < H * (W + 1)) (h2 : p % (W + 1) ≠ W) : lvN W p < W * H := by
  have h1 := Nat.div_add_mod p (W + 1)
  have h3 := Nat.mod_lt p (show 0 < W + 1 by omega)
  have hq : p / (W + 1) < H := Nat.div_lt_of_lt_mul (by rw [Nat.mul_comm]; exact h)
  unfold lvN
  have : W * (p / (W + 1) + 1) ≤ W * H := Nat.mul_le_mul_left _ hq
  rw [Nat.mul_add] at this
  rw [Nat.add_mul] at h1
  omega
theorem lvN_all (W H : Nat) : lvN W (H * (W + 1)) = W * H := by
  unfold lvN
  rw [Nat.mul_div_cancel _ (by omega), Nat.mul_add, Nat.mul_comm W H]; omega
theorem rowG_read (W : Nat) (L : List Int) (p : Nat) (h : p % (W + 1) ≠ W) : rowG W L p = hexD.getD (L.getD (lvN W p) 0).toNat 0 := by
  unfold rowG lvN
  rw [if_neg h]
theorem rowG_read_end (W : Nat) (L : List Int) (p : Nat) (h : p % (W + 1) = W) : rowG W L p = 10 := by
  unfold rowG
  rw [if_pos h]
end Mh
