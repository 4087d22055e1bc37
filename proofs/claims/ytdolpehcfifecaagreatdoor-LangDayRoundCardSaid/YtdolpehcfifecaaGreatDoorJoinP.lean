/- Plain facts for bundles of files: numbers of base 32, sums of lengths, the bytes of paths. No program. -/
import Derived.Test.YtdolpehcfifecaaGreatDoorTxt
namespace Mh
open Go
set_option linter.unusedVariables false

def d32 : List UInt8 := [48, 49, 50, 51, 52, 53, 54, 55, 56, 57, 97, 98, 99, 100, 101, 102, 103, 104, 105, 106, 107, 108, 109, 110, 111, 112, 113, 114, 115, 116, 117, 118]
theorem d32_index : ∀ m : Fin 32, Lib.indexByte d32 (d32.getD m.val 0) = m.val := by decide +kernel
theorem d32_ok : ∀ m : Fin 32, d32.getD m.val 0 ≠ 10 ∧ d32.getD m.val 0 ≠ 32 := by decide +kernel
theorem d32_zero : ∀ m : Fin 32, d32.getD m.val 0 = 48 → m.val = 0 := by decide +kernel

def dgs (n : Nat) : List Nat := if h : n = 0 then [] else dgs (n / 32) ++ [n % 32]
termination_by n
decreasing_by omega
theorem dgs_zero : dgs 0 = [] := by unfold dgs; simp
theorem dgs_pos {n : Nat} (h : 0 < n) : dgs n = dgs (n / 32) ++ [n % 32] := by
  conv => lhs; unfold dgs
  rw [dif_neg (by omega)]
def D32 (n : Nat) : List Nat := dgs (n / 32) ++ [n % 32]
def v32 (l : List Nat) : Nat := l.foldl (fun a k => 32 * a + k) 0
theorem v32_snoc (l : List Nat) (k : Nat) : v32 (l ++ [k]) = 32 * v32 l + k := by simp [v32]
theorem v32_dgs (n : Nat) : v32 (dgs n) = n := by
  induction n using Nat.strongRecOn with
  | _ n ih =>
    by_cases h : n = 0
    · subst h; rw [dgs_zero]; rfl
    · rw [dgs_pos (by omega), v32_snoc, ih (n / 32) (by omega)]; omega
theorem v32_D32 (n : Nat) : v32 (D32 n) = n := by unfold D32; rw [v32_snoc, v32_dgs]; omega
theorem dgs_lt (n : Nat) : ∀ k ∈ dgs n, k < 32 := by
  induction n using Nat.strongRecOn with
  | _ n ih =>
    by_cases h : n = 0
    · subst h; rw [dgs_zero]; simp
    · rw [dgs_pos (by omega)]
      intro k hk
      rcases List.mem_append.1 hk with hk | hk
      · exact ih (n / 32) (by omega) k hk
      · simp at hk; omega
theorem D32_lt (n : Nat) : ∀ k ∈ D32 n, k < 32 := by
  intro k hk
  rcases List.mem_append.1 hk with hk | hk
  · exact dgs_lt _ k hk
  · simp at hk; omega
theorem dgs_head (n : Nat) : (dgs n).head? ≠ some 0 := by
  induction n using Nat.strongRecOn with
  | _ n ih =>
    by_cases h : n = 0
    · subst h; rw [dgs_zero]; simp
    · rw [dgs_pos (by omega)]
      by_cases h2 : n / 32 = 0
      · rw [h2, dgs_zero]; simp; omega
      · have := ih (n / 32) (by omega)
        rw [dgs_pos (show 0 < n / 32 by omega)] at this ⊢
        rw [List.append_assoc]
        cases hc : dgs (n / 32 / 32) with
        | nil => rw [hc] at this; simpa using this
        | cons a l => rw [hc] at this; simpa using this
theorem D32_head (n : Nat) : (D32 n).head? ≠ some 0 ∨ D32 n = [0] := by
  unfold D32
  by_cases h : n / 32 = 0
  · rw [h, dgs_zero]
    by_cases h2 : n % 32 = 0
    · right; rw [h2]; rfl
    · left; simp; exact h2
  · left
    have := dgs_head (n / 32)
    cases hc : dgs (n / 32) with
    | nil => rw [dgs_pos (by omega)] at hc; simp at hc
    | cons a l => rw [hc] at this; simpa using this
theorem dgs_len : ∀ (k n : Nat), n < 32 ^ k → (dgs n).length ≤ k
  | 0, n, h => by
    obtain rfl : n = 0 := by simpa using h
    rw [dgs_zero]; simp
  | k + 1, n, h => by
    by_cases h0 : n = 0
    · subst h0; rw [dgs_zero]; simp
    · have := dgs_len k (n / 32) (by rw [Nat.pow_succ] at h; omega)
      rw [dgs_pos (by omega)]; simp; omega
theorem D32_len (n : Nat) (h : n < 32768) : 1 ≤ (D32 n).length ∧ (D32 n).length ≤ 3 := by
  have := dgs_len 2 (n / 32) (by omega)
  unfold D32; simp; omega
theorem foldl_ge (l : List Nat) : ∀ a, a ≤ l.foldl (fun a k => 32 * a + k) a := by
  induction l with
  | nil => intro a; simp
  | cons k l ih => intro a; have := ih (32 * a + k); simp only [List.foldl_cons]; omega
theorem v32_take (l : List Nat) (i : Nat) : v32 (l.take i) ≤ v32 l := by
  have : v32 l = (l.drop i).foldl (fun a k => 32 * a + k) (v32 (l.take i)) := by
    unfold v32; rw [← List.foldl_append, List.take_append_drop]
  rw [this]; exact foldl_ge _ _

/-- The digits as bytes. -/
def c32 (k : Nat) : UInt8 := d32.getD k 0
def b32 (n : Nat) : List UInt8 := (D32 n).map c32
theorem b32_ok (n : Nat) : (10 : UInt8) ∉ b32 n ∧ (32 : UInt8) ∉ b32 n := by
  constructor <;>
  · intro h
    obtain ⟨k, hk, e⟩ := List.mem_map.1 h
    have := d32_ok ⟨k, D32_lt n k hk⟩
    unfold c32 at e
    simp only at this
    rw [e] at this
    simp at this
theorem b32_len (n : Nat) (h : n < 32768) : 1 ≤ (b32 n).length ∧ (b32 n).length ≤ 3 := by
  have := D32_len n h
  simpa [b32] using this

theorem spl_mem (c x : UInt8) : ∀ l, x ∈ l → x = c ∨ ∃ p ∈ spl c l, x ∈ p
  | [], h => by simp at h
  | b :: l, h => by
    unfold spl
    by_cases hb : b = c
    · rw [if_pos hb]
      rcases List.mem_cons.1 h with rfl | h
      · exact .inl hb
      · rcases spl_mem c x l h with h | ⟨p, hp, hx⟩
        · exact .inl h
        · exact .inr ⟨p, List.mem_cons_of_mem _ hp, hx⟩
    · rw [if_neg hb]
      rcases List.mem_cons.1 h with rfl | h
      · exact .inr ⟨_, List.mem_cons_self, List.mem_cons_self⟩
      · rcases spl_mem c x l h with h | ⟨p, hp, hx⟩
        · exact .inl h
        · right
          cases hs : spl c l with
          | nil => exact absurd hs (spl_ne c l)
          | cons q qs =>
            rw [hs] at hp
            rcases List.mem_cons.1 hp with rfl | hp
            · exact ⟨_, List.mem_cons_self, List.mem_cons_of_mem _ hx⟩
            · exact ⟨p, List.mem_cons_of_mem _ hp, hx⟩

theorem bext {a b : ByteArray} (h : a.data.toList = b.data.toList) : a = b := by
  cases a with
  | mk a => cases b with
    | mk b => simp at h; rw [h]

/-- Sums of the first lengths. -/
def sm (N : List Nat) (k : Nat) : Nat := (N.take k).sum
theorem sm_zero (N : List Nat) : sm N 0 = 0 := by simp [sm]
theorem sm_succ (N : List Nat) (k : Nat) (h : k < N.length) : sm N (k + 1) = sm N k + N[k] := by
  unfold sm; rw [List.take_succ_eq_append_getElem h, List.sum_append]; simp
theorem sm_mono (N : List Nat) (k : Nat) : sm N k ≤ sm N (k + 1) := by
  by_cases h : k < N.length
  · rw [sm_succ N k h]; omega
  · unfold sm; rw [List.take_of_length_le (by omega), List.take_of_length_le (by omega)]; exact Nat.le_refl _
theorem sm_le (N : List Nat) (k m : Nat) (h : k ≤ m) : sm N k ≤ sm N m := by
  induction m with
  | zero => obtain rfl : k = 0 := by omega
            exact Nat.le_refl _
  | succ m ih =>
    by_cases e : k = m + 1
    · subst e; exact Nat.le_refl _
    · exact Nat.le_trans (ih (by omega)) (sm_mono N m)
theorem sm_all (N : List Nat) (k : Nat) (h : N.length ≤ k) : sm N k = N.sum := by unfold sm; rw [List.take_of_length_le h]
/-- The ends of the parts. -/
def ends (N : List Nat) : List Int := (List.range N.length).map fun i => (sm N (i + 1) : Int)
theorem ends_len (N : List Nat) : (ends N).length = N.length := by simp [ends]
theorem ends_get (N : List Nat) (i : Nat) (h : i < N.length) : (ends N)[i]? = some (sm N (i + 1) : Int) := by simp [ends, h]
theorem ends_take (N : List Nat) (k : Nat) (h : k < N.length) : (ends N).take (k + 1) = (ends N).take k ++ [(sm N (k + 1) : Int)] := by
  have hk : k < (ends N).length := by rw [ends_len]; exact h
  rw [List.take_succ_eq_append_getElem hk]
  congr 2
  have := ends_get N k h
  rw [List.getElem?_eq_getElem hk] at this
  exact Option.some.inj this

/-- The byte of joined lists. -/
theorem join_at (E : List (List UInt8)) : ∀ (k at_ : Nat) (h : k < E.length), sm (E.map List.length) k ≤ at_ → at_ < sm (E.map List.length) (k + 1) → E.flatten[at_]? = E[k][at_ - sm (E.map List.length) k]? := by
  induction E with
  | nil => intro k _ h; simp at h
  | cons e E ih =>
    intro k a h h1 h2
    cases k with
    | zero =>
      simp [sm] at h2
      simp only [List.flatten_cons, List.getElem_cons_zero, sm_zero, Nat.sub_zero]
      rw [List.getElem?_append_left (by omega)]
    | succ k =>
      have e1 : ∀ j, sm ((e :: E).map List.length) (j + 1) = e.length + sm (E.map List.length) j := by intro j; simp [sm]
      rw [e1] at h1 h2
      rw [List.flatten_cons, List.getElem?_append_right (by omega), ih k (a - e.length) (by simpa using h) (by omega) (by omega)]
      simp only [List.getElem_cons_succ]
      rw [e1]
      congr 1
      omega
theorem join_len (E : List (List UInt8)) : E.flatten.length = (E.map List.length).sum := by simp [List.length_flatten]

/-- A part as it stands in a bundle. -/
def extB (b : List UInt8) : List UInt8 := if b = [] ∨ b.getLast? = some 10 then b else b ++ [10]
theorem extB_len (b : List UInt8) : b.length ≤ (extB b).length ∧ (extB b).length ≤ b.length + 1 := by unfold extB; split <;> simp
theorem extB_at (b : List UInt8) (i : Nat) (h : i < (extB b).length) : (i < b.length ∧ (extB b)[i]? = b[i]?) ∨ (i = b.length ∧ (extB b)[i]? = some 10) := by
  unfold extB at *
  split at h
  · exact .inl ⟨h, by rw [if_pos (by assumption)]⟩
  · rename_i hn
    rw [if_neg hn]
    by_cases hi : i < b.length
    · exact .inl ⟨hi, List.getElem?_append_left hi⟩
    · simp at h
      obtain rfl : i = b.length := by omega
      exact .inr ⟨rfl, by simp⟩

/-- The text of a bundle's parts. -/
def mapLine (p : ByteArray) (n : Nat) : List UInt8 := p.data.toList ++ 32 :: (b32 n ++ [10])
def mapText : List ByteArray → List Nat → List UInt8
  | p :: P, n :: N => mapLine p n ++ mapText P N
  | _, _ => []
theorem mapText_snoc (P : List ByteArray) (N : List Nat) (k : Nat) (h : k < P.length) (h' : k < N.length) : mapText (P.take (k + 1)) (N.take (k + 1)) = mapText (P.take k) (N.take k) ++ mapLine P[k] N[k] := by
  induction P generalizing N k with
  | nil => simp at h
  | cons p P ih =>
    cases N with
    | nil => simp at h'
    | cons n N =>
      cases k with
      | zero => simp [mapText]
      | succ k =>
        have := ih N k (by simpa using h) (by simpa using h')
        simp only [List.take_succ_cons, mapText, List.getElem_cons_succ]
        rw [this, List.append_assoc]
theorem mapText_drop (P : List ByteArray) (N : List Nat) (k : Nat) (h : k < P.length) (h' : k < N.length) : mapText (P.drop k) (N.drop k) = mapLine P[k] N[k] ++ mapText (P.drop (k + 1)) (N.drop (k + 1)) := by
  rw [List.drop_eq_getElem_cons h, List.drop_eq_getElem_cons h']
  rfl
theorem mapText_len (B : Nat) : ∀ (P : List ByteArray) (N : List Nat), (∀ p ∈ P, p.size ≤ 200) → (∀ n ∈ N, n < 32768) → P.length ≤ B → (mapText P N).length ≤ B * 205
  | [], _, _, _, _ => by simp [mapText]
  | p :: P, [], _, _, _ => by simp [mapText]
  | p :: P, n :: N, h1, h2, h3 => by
    have hB : B = B - 1 + 1 := by simp at h3; omega
    have := mapText_len (B - 1) P N (fun q hq => h1 q (by simp [hq])) (fun q hq => h2 q (by simp [hq])) (by simp at h3; omega)
    have a := h1 p (by simp)
    have b := b32_len n (h2 n (by simp))
    rw [hB, Nat.succ_mul]
    simp only [mapText, mapLine, List.length_append, List.length_cons, List.length_nil, Array.length_toList]
    have e : p.data.size = p.size := rfl
    omega
end Mh
