/- Plain facts for ImageFits: the greatest and the least of a list; what a list of means of an image is. No program. -/
import Derived.Test.YtjmnnnjddbmiaaaMean
import Derived.Lib.Slices
namespace Go.Proofs.Ytjmnnnjddbmiaaa
set_option linter.unusedVariables false

theorem foldl_max_le (zs : List Int) : ∀ a : Int, a ≤ zs.foldl max a ∧ (∀ z ∈ zs, z ≤ zs.foldl max a) ∧ (zs.foldl max a = a ∨ zs.foldl max a ∈ zs) := by
  induction zs with
  | nil => intro a; simp
  | cons z zs ih =>
    intro a
    have h := ih (max a z)
    simp only [List.foldl_cons]
    refine ⟨by omega, ?_, ?_⟩
    · intro y hy
      rcases List.mem_cons.1 hy with rfl | hy
      · omega
      · exact h.2.1 y hy
    · rcases h.2.2 with h3 | h3
      · rw [h3]
        by_cases hz : a ≤ z
        · right; rw [show max a z = z by omega]; exact List.mem_cons_self
        · left; omega
      · right; exact List.mem_cons_of_mem _ h3
theorem foldl_min_le (zs : List Int) : ∀ a : Int, zs.foldl min a ≤ a ∧ (∀ z ∈ zs, zs.foldl min a ≤ z) ∧ (zs.foldl min a = a ∨ zs.foldl min a ∈ zs) := by
  induction zs with
  | nil => intro a; simp
  | cons z zs ih =>
    intro a
    have h := ih (min a z)
    simp only [List.foldl_cons]
    refine ⟨by omega, ?_, ?_⟩
    · intro y hy
      rcases List.mem_cons.1 hy with rfl | hy
      · omega
      · exact h.2.1 y hy
    · rcases h.2.2 with h3 | h3
      · rw [h3]
        by_cases hz : z ≤ a
        · right; rw [show min a z = z by omega]; exact List.mem_cons_self
        · left; omega
      · right; exact List.mem_cons_of_mem _ h3
theorem maxOf_mem (zs : List Int) (h : zs ≠ []) : (∀ z ∈ zs, z ≤ Lib.maxOf zs) ∧ Lib.maxOf zs ∈ zs := by
  have h1 := foldl_max_le zs (zs.headD 0)
  refine ⟨h1.2.1, ?_⟩
  rcases h1.2.2 with h2 | h2
  · unfold Lib.maxOf; rw [h2]
    cases zs with
    | nil => exact absurd rfl h
    | cons z zs => exact List.mem_cons_self
  · exact h2
theorem minOf_mem (zs : List Int) (h : zs ≠ []) : (∀ z ∈ zs, Lib.minOf zs ≤ z) ∧ Lib.minOf zs ∈ zs := by
  have h1 := foldl_min_le zs (zs.headD 0)
  refine ⟨h1.2.1, ?_⟩
  rcases h1.2.2 with h2 | h2
  · unfold Lib.minOf; rw [h2]
    cases zs with
    | nil => exact absurd rfl h
    | cons z zs => exact List.mem_cons_self
  · exact h2

theorem chk_ok {W H : Int} {L : List Int} (h : chk W H L = 0) : sideB W = true ∧ sideB H = true ∧ (L.length : Int) = W * H ∧ ∀ i, i < L.length → 0 ≤ L.getD i 0 ∧ L.getD i 0 ≤ 15 := by
  unfold chk at h
  cases h0 : sideB W with
  | false => simp [h0] at h
  | true =>
    cases h1 : sideB H with
    | false => simp [h1] at h
    | true =>
      by_cases h2 : (L.length : Int) = W * H
      · refine ⟨rfl, rfl, h2, ?_⟩
        by_cases h3 : (L.all fun n => decide (0 ≤ n ∧ n ≤ 15)) = true
        · intro i hi
          have := List.all_eq_true.1 h3 (L.getD i 0) (by rw [List.getD, List.getElem?_eq_getElem hi]; exact List.getElem_mem hi)
          simpa using this
        · rw [h0, h1, if_pos (by decide), if_pos h2, if_neg h3] at h
          exact absurd h (by decide)
      · simp [h0, h1, h2] at h

/-- A point of the rectangle of a list of means is a point of the image. -/
theorem inR_bd {c t x u : Int} (hx : 0 ≤ x) (hc : 0 ≤ c) (ht : 1 ≤ t) (h : inR c t x u) : 0 ≤ u ∧ u < c :=
  ⟨Int.le_trans (Int.ediv_nonneg (Int.mul_nonneg hx hc) (by omega)) h.1, h.2.1⟩
theorem means_bd {L M : List Int} {W H X Y cw ch : Int} {tn hn : Nat} (hL : (L.length : Int) = W * H) (hW : 1 ≤ W) (hW2 : W ≤ 64) (hH2 : H ≤ 64) (x0 : 0 ≤ X) (y0 : 0 ≤ Y) (x1 : X + cw ≤ W) (y1 : Y + ch ≤ H) (ht : 1 ≤ tn) (hh : 1 ≤ hn) (hcw : 1 ≤ cw) (hch : 1 ≤ ch)
    (lv : Int → Int → Int) (hlv : ∀ v u, lv v u = L.getD ((Y + v) * W + X + u).toNat 0) (hM : Means lv cw ch tn hn M) (lo hi : Int) (hb : ∀ z ∈ L, lo ≤ z ∧ z ≤ hi) : ∀ z ∈ M, lo ≤ z ∧ z ≤ hi := by
  intro z hz
  obtain ⟨k, hk, rfl⟩ := List.mem_iff_getElem.1 hz
  have h1 := hM k hk lo hi ?_
  · rwa [List.getD, List.getElem?_eq_getElem hk] at h1
  · intro v u hv hu
    have hv2 := inR_bd (show 0 ≤ ((k / tn : Nat) : Int) from Int.natCast_nonneg _) (by omega) (by omega) hv
    have hu2 := inR_bd (show 0 ≤ ((k % tn : Nat) : Int) from Int.natCast_nonneg _) (by omega) (by omega) hu
    rw [hlv]
    have i1 : 0 ≤ (Y + v) * W := Int.mul_nonneg (by omega) (by omega)
    have i2 : (Y + v + 1) * W ≤ H * W := Int.mul_le_mul_of_nonneg_right (by omega) (by omega)
    rw [Int.add_mul _ 1 W, Int.one_mul, Int.mul_comm H W] at i2
    have hi : ((Y + v) * W + X + u).toNat < L.length := by omega
    rw [List.getD, List.getElem?_eq_getElem hi]
    exact hb _ (List.getElem_mem hi)
theorem means_same {L M : List Int} {W H : Int} {tn hn : Nat} (hW : W = tn) (hH : H = hn) (hL : (L.length : Int) = W * H) (hM1 : M.length = hn * tn) (ht : 1 ≤ tn) (hh : 1 ≤ hn)
    (lv : Int → Int → Int) (hlv : ∀ v u, lv v u = L.getD ((0 + v) * W + 0 + u).toNat 0) (hM : Means lv W H tn hn M) : M = L := by
  subst hW hH
  have hl : M.length = L.length := by
    have : (L.length : Int) = ((hn * tn : Nat) : Int) := by rw [hL, Int.mul_comm]; simp
    omega
  apply List.ext_getElem hl
  intro k h1 h2
  have h3 := mean_same _ _ _ _ _ _ (by omega) (by omega) (hM k h1)
  rw [List.getD, List.getElem?_eq_getElem h1, Option.getD_some] at h3
  rw [h3, hlv]
  have e : ((0 + ((k / tn : Nat) : Int)) * (tn : Int) + 0 + ((k % tn : Nat) : Int)).toNat = k := by
    have := Nat.div_add_mod k tn
    rw [Nat.mul_comm] at this
    have h4 : (((k / tn : Nat) : Int) * (tn : Int)) = ((k / tn * tn : Nat) : Int) := by simp
    rw [Int.zero_add, h4]
    omega
  rw [e, List.getD, List.getElem?_eq_getElem h2, Option.getD_some]
theorem sideB_of {n : Int} (h : 1 ≤ n ∧ n ≤ 64) : sideB n = true := by simpa [sideB] using h
theorem chk_means {tn hn : Nat} {M : List Int} (h1 : 1 ≤ tn) (h2 : tn ≤ 64) (h3 : 1 ≤ hn) (h4 : hn ≤ 64) (hM : M.length = hn * tn) (hb : ∀ z ∈ M, 0 ≤ z ∧ z ≤ 15) : chk tn hn M = 0 := by
  have e : (M.length : Int) = (tn : Int) * hn := by rw [hM, Nat.mul_comm]; simp
  have a : (M.all fun n => decide (0 ≤ n ∧ n ≤ 15)) = true := by
    rw [List.all_eq_true]
    intro z hz
    simpa using hb z hz
  unfold chk
  rw [sideB_of (by omega), sideB_of (by omega), if_pos (by decide), if_pos e, if_pos a]
end Go.Proofs.Ytjmnnnjddbmiaaa
