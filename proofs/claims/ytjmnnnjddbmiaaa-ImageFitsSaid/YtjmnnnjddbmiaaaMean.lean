/- Plain facts on the mean of a rectangle's levels: weights add up to the area, so the mean lies between every lower and upper bound of the levels. No program. -/
import Derived.Test.YtjmnnnjddbmiaaaImg
namespace Go.Proofs.Ytjmnnnjddbmiaaa
set_option linter.unusedVariables false

/-- The places of a side that a new place covers. -/
def inR (c t x u : Int) : Prop := x * c / t ≤ u ∧ u < c ∧ u * t < (x + 1) * c
/-- How much of the new place x is covered by the places before u. -/
def acc (c t x u : Int) : Int := max 0 (min (u * t) ((x + 1) * c) - x * c)
def ov (c t x u : Int) : Int := overlapI (u * t) ((u + 1) * t) (x * c) ((x + 1) * c)

theorem acc_step (c t x u : Int) (ht : 0 ≤ t) (hc : 0 ≤ c) : acc c t x (u + 1) = acc c t x u + ov c t x u := by
  unfold acc ov overlapI
  rw [Int.add_mul u 1 t, Int.add_mul x 1 c, Int.one_mul, Int.one_mul]
  generalize u * t = U
  generalize x * c = S
  omega
theorem acc_start (c t x : Int) (ht : 1 ≤ t) : acc c t x (x * c / t) = 0 := by
  have h : x * c / t * t ≤ x * c := Int.ediv_mul_le _ (by omega)
  unfold acc
  generalize x * c / t * t = U at *
  generalize x * c = S at *
  omega
theorem acc_end (c t x u : Int) (ht : 1 ≤ t) (hc : 1 ≤ c) (hx : x + 1 ≤ t) (h : ¬ (u < c ∧ u * t < (x + 1) * c)) : acc c t x u = c := by
  have h1 : (x + 1) * c ≤ u * t := by
    by_cases h2 : u < c
    · have := fun h3 => h ⟨h2, h3⟩
      omega
    · calc (x + 1) * c ≤ t * c := Int.mul_le_mul_of_nonneg_right hx (by omega)
        _ = c * t := Int.mul_comm _ _
        _ ≤ u * t := Int.mul_le_mul_of_nonneg_right (by omega) (by omega)
  unfold acc
  rw [Int.add_mul, Int.one_mul] at *
  generalize u * t = U at *
  generalize x * c = S at *
  omega
theorem acc_bd (c t x u : Int) (hc : 0 ≤ c) : 0 ≤ acc c t x u ∧ acc c t x u ≤ c := by
  unfold acc
  rw [Int.add_mul, Int.one_mul]
  generalize u * t = U at *
  generalize x * c = S at *
  omega
theorem ov_nonneg (c t x u : Int) : 0 ≤ ov c t x u := by unfold ov overlapI; omega
theorem ov_le (c t x u : Int) (ht : 0 ≤ t) (hc : 0 ≤ c) : ov c t x u ≤ c := by
  have h1 := acc_step c t x u ht hc
  have h2 := acc_bd c t x u hc
  have h3 := acc_bd c t x (u + 1) hc
  omega

/-- All levels of the rectangle lie between lo and hi. -/
def RB (lv : Int → Int → Int) (cw ch tw th x y lo hi : Int) : Prop := ∀ v u, inR ch th y v → inR cw tw x u → lo ≤ lv v u ∧ lv v u ≤ hi
/-- The sum so far, over whole lines. -/
def SumI (lv : Int → Int → Int) (cw ch tw th x y v s : Int) : Prop := ∀ lo hi, RB lv cw ch tw th x y lo hi → lo * (acc ch th y v * cw) ≤ s ∧ s ≤ hi * (acc ch th y v * cw)
/-- The sum so far, within a line. -/
def SumJ (lv : Int → Int → Int) (cw ch tw th x y v u s : Int) : Prop := ∀ lo hi, RB lv cw ch tw th x y lo hi → lo * (acc ch th y v * cw + ov ch th y v * acc cw tw x u) ≤ s ∧ s ≤ hi * (acc ch th y v * cw + ov ch th y v * acc cw tw x u)
/-- A mean of the rectangle. -/
def Mean (lv : Int → Int → Int) (cw ch tw th x y out : Int) : Prop := ∀ lo hi, RB lv cw ch tw th x y lo hi → lo ≤ out ∧ out ≤ hi

theorem sum_start (lv : Int → Int → Int) (cw ch tw th x y : Int) (ht : 1 ≤ th) : SumI lv cw ch tw th x y (y * ch / th) 0 := by
  intro lo hi _
  rw [acc_start ch th y ht]
  simp
theorem sum_line (lv : Int → Int → Int) (cw ch tw th x y v s : Int) (ht : 1 ≤ tw) (h : SumI lv cw ch tw th x y v s) : SumJ lv cw ch tw th x y v (x * cw / tw) s := by
  intro lo hi hb
  rw [acc_start cw tw x ht, Int.mul_zero, Int.add_zero]
  exact h lo hi hb
theorem sum_step (lv : Int → Int → Int) (cw ch tw th x y v u s : Int) (ht : 0 ≤ tw) (hc : 0 ≤ cw) (hv : inR ch th y v) (hu : inR cw tw x u) (h : SumJ lv cw ch tw th x y v u s) :
    SumJ lv cw ch tw th x y v (u + 1) (s + ov ch th y v * ov cw tw x u * lv v u) := by
  intro lo hi hb
  have h1 := h lo hi hb
  have h2 := hb v u hv hu
  have hp : 0 ≤ ov ch th y v * ov cw tw x u := Int.mul_nonneg (ov_nonneg _ _ _ _) (ov_nonneg _ _ _ _)
  rw [acc_step cw tw x u ht hc, Int.mul_add (ov ch th y v), ← Int.add_assoc, Int.mul_add lo, Int.mul_add hi]
  have h3 := Int.mul_le_mul_of_nonneg_right h2.1 hp
  have h4 := Int.mul_le_mul_of_nonneg_right h2.2 hp
  rw [Int.mul_comm (lv v u)] at h3 h4
  omega
theorem sum_done (lv : Int → Int → Int) (cw ch tw th x y v u s : Int) (ht : 1 ≤ tw) (hc : 1 ≤ cw) (hx : x + 1 ≤ tw) (ht2 : 0 ≤ th) (hc2 : 0 ≤ ch) (hend : ¬ (u < cw ∧ u * tw < (x + 1) * cw)) (h : SumJ lv cw ch tw th x y v u s) :
    SumI lv cw ch tw th x y (v + 1) s := by
  intro lo hi hb
  have h1 := h lo hi hb
  rw [acc_end cw tw x u ht hc hx hend, ← Int.add_mul, ← acc_step ch th y v ht2 hc2] at h1
  exact h1
theorem sum_mean (lv : Int → Int → Int) (cw ch tw th x y v s : Int) (hc : 1 ≤ cw) (ht : 1 ≤ th) (hc2 : 1 ≤ ch) (hy : y + 1 ≤ th) (hend : ¬ (v < ch ∧ v * th < (y + 1) * ch)) (h : SumI lv cw ch tw th x y v s) :
    Mean lv cw ch tw th x y ((2 * s + cw * ch) / (2 * (cw * ch))) := by
  intro lo hi hb
  have h1 := h lo hi hb
  rw [acc_end ch th y v ht hc2 hy hend, Int.mul_comm ch cw] at h1
  have ha : 1 ≤ cw * ch := by
    have : 1 * 1 ≤ cw * ch := Int.mul_le_mul hc hc2 (by omega) (by omega)
    omega
  generalize cw * ch = a at *
  constructor
  · apply Int.le_ediv_of_mul_le (by omega)
    rw [Int.mul_left_comm]
    omega
  · have h2 : (2 * s + a) / (2 * a) < hi + 1 := by
      apply Int.ediv_lt_of_lt_mul (by omega)
      have e : hi * (2 * a) = 2 * (hi * a) := Int.mul_left_comm _ _ _
      rw [Int.add_mul, Int.one_mul, e]
      omega
    omega
/-- With levels from 0 to 15 the sum stays small. -/
theorem sum_bd (lv : Int → Int → Int) (cw ch tw th x y v u s : Int) (hc : 0 ≤ cw) (hc64 : cw ≤ 64) (ht2 : 0 ≤ th) (hc2 : 0 ≤ ch) (hc264 : ch ≤ 64) (hb : RB lv cw ch tw th x y 0 15) (h : SumJ lv cw ch tw th x y v u s) : 0 ≤ s ∧ s ≤ 61440 := by
  have h1 := h 0 15 hb
  have a1 := acc_bd cw tw x u hc
  have a2 := acc_bd ch th y v hc2
  have a3 := acc_bd ch th y (v + 1) hc2
  have a4 := acc_step ch th y v ht2 hc2
  have o := ov_nonneg ch th y v
  have p1 : ov ch th y v * acc cw tw x u ≤ ov ch th y v * cw := Int.mul_le_mul_of_nonneg_left a1.2 o
  have p2 : (acc ch th y v + ov ch th y v) * cw ≤ 64 * 64 := Int.mul_le_mul (by omega) hc64 hc (by omega)
  rw [Int.add_mul] at p2
  omega
theorem sum_bd2 (lv : Int → Int → Int) (cw ch tw th x y v s : Int) (hc : 0 ≤ cw) (hc64 : cw ≤ 64) (hc2 : 0 ≤ ch) (hc264 : ch ≤ 64) (hb : RB lv cw ch tw th x y 0 15) (h : SumI lv cw ch tw th x y v s) : 0 ≤ s ∧ s ≤ 61440 := by
  have h1 := h 0 15 hb
  have a2 := acc_bd ch th y v hc2
  have p2 : acc ch th y v * cw ≤ 64 * 64 := Int.mul_le_mul (by omega) hc64 hc (by omega)
  omega
/-- Where the sides stay, the mean is the level. -/
theorem mean_same (lv : Int → Int → Int) (cw ch x y out : Int) (hc : 1 ≤ cw) (hc2 : 1 ≤ ch) (h : Mean lv cw ch cw ch x y out) : out = lv y x := by
  have one : ∀ (c z u : Int), 1 ≤ c → inR c c z u → u = z := by
    intro c z u hc ⟨h1, _, h3⟩
    rw [Int.mul_ediv_cancel _ (by omega)] at h1
    have := Int.lt_of_mul_lt_mul_right h3 (by omega)
    omega
  have := h (lv y x) (lv y x) (fun v u hv hu => by rw [one ch y v hc2 hv, one cw x u hc hu]; omega)
  omega
theorem start_bd {x c t : Int} (hx : 0 ≤ x) (hx2 : x < t) (hc : 0 ≤ c) : 0 ≤ x * c / t ∧ x * c / t ≤ c := by
  refine ⟨Int.ediv_nonneg (Int.mul_nonneg hx hc) (by omega), ?_⟩
  have h1 : x * c ≤ c * t := by rw [Int.mul_comm c t]; exact Int.mul_le_mul_of_nonneg_right (by omega) hc
  have h2 : x * c / t * t ≤ x * c := Int.ediv_mul_le _ (by omega)
  exact Int.le_of_mul_le_mul_right (show x * c / t * t ≤ c * t by omega) (by omega)
/-- A list of means, line by line. -/
def Means (lv : Int → Int → Int) (cw ch : Int) (tw th : Nat) (M : List Int) : Prop := ∀ k, k < M.length → Mean lv cw ch tw th (k % tw : Nat) (k / tw : Nat) (M.getD k 0)
theorem Means.nil (lv : Int → Int → Int) (cw ch : Int) (tw th : Nat) : Means lv cw ch tw th [] := fun k hk => by simp at hk
theorem Means.snoc {lv : Int → Int → Int} {cw ch : Int} {tw th : Nat} {M : List Int} (h : Means lv cw ch tw th M) (x y : Nat) (hx : x < tw) (hl : M.length = y * tw + x) (out : Int) (ho : Mean lv cw ch tw th x y out) : Means lv cw ch tw th (M ++ [out]) := by
  intro k hk
  rw [List.length_append, List.length_singleton] at hk
  by_cases hk2 : k < M.length
  · have := h k hk2
    rwa [List.getD, List.getElem?_append_left hk2]
  · have e : k = M.length := by omega
    have e1 : k % tw = x := by rw [e, hl, Nat.mul_comm, Nat.mul_add_mod, Nat.mod_eq_of_lt hx]
    have e2 : k / tw = y := by rw [e, hl, Nat.mul_comm, Nat.mul_add_div (by omega), Nat.div_eq_of_lt hx]; omega
    rw [e1, e2, List.getD, e, List.getElem?_append_right (Nat.le_refl _)]
    simpa using ho
end Go.Proofs.Ytjmnnnjddbmiaaa
