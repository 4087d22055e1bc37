/- Plain facts on paths and places of bytes for Fingerprint and Plain. No program. -/
import Derived.Test.YtjmnnnjddbmiaaaDoorPath
import Derived.Lib.LastIndexByte
import Derived.Lib.SmallJoins
namespace Go.Proofs.YtjmnnnjddbmiaaaDoor
open Mh
set_option linter.unusedVariables false

theorem bytes_ext {a b : ByteArray} (h : a.data.toList = b.data.toList) : a = b := by
  rw [← Joins.bytes_eta a, h, Joins.bytes_eta]
theorem get_data (s : ByteArray) (k : Nat) (h : k < s.size) : s.data.toList[k]? = some s[k] := by
  rw [List.getElem?_eq_getElem (by simpa using h)]
  rfl
theorem last_at (s : ByteArray) (c : UInt8) (p r : List UInt8) (h : s.data.toList = p ++ c :: r) (hr : c ∉ r) : Lib.lastIndexByte s (c.toNat : Int) = p.length := by
  have hl : s.size = p.length + (r.length + 1) := by
    have : s.data.toList.length = s.size := by simp
    rw [← this, h]; simp
  have hd : ∀ j, j < s.size → s.data.toList[j]? = some s.data[j]! := by
    intro j hj
    have hj' : j < s.data.size := hj
    rw [List.getElem?_eq_getElem (by simpa using hj), getElem!_pos s.data j hj']
    rfl
  rcases Lib.lastIdx_spec s (c.toNat : Int) s.size with ⟨_, hn⟩ | ⟨i, hi, he, hc, hn⟩
  · exfalso
    have h1 := hd p.length (by omega)
    rw [h, List.getElem?_append_right (Nat.le_refl _), Nat.sub_self] at h1
    simp only [List.getElem?_cons_zero, Option.some.injEq] at h1
    exact hn p.length (by omega) (by rw [← h1])
  · show Lib.lastIdx s (c.toNat : Int) s.size = _
    rw [he]
    have hci : s.data[i]! = c := UInt8.toNat_inj.1 (by exact_mod_cast hc)
    have h1 := hd i hi
    rw [hci, h] at h1
    have h2 : i ≤ p.length := by
      rcases Nat.lt_or_ge p.length i with h2 | h2
      · exfalso
        rw [List.getElem?_append_right (by omega), List.getElem?_cons] at h1
        rw [if_neg (by omega)] at h1
        exact hr (List.mem_of_getElem? h1)
      · exact h2
    have h3 : ¬ i < p.length := by
      intro h3
      have h4 := hd p.length (by omega)
      rw [h, List.getElem?_append_right (Nat.le_refl _), Nat.sub_self] at h4
      simp only [List.getElem?_cons_zero, Option.some.injEq] at h4
      exact hn p.length h3 (by omega) (by rw [← h4])
    omega
theorem last_none (s : ByteArray) (c : UInt8) (h : c ∉ s.data.toList) : Lib.lastIndexByte s (c.toNat : Int) = -1 := by
  rcases Lib.lastIdx_spec s (c.toNat : Int) s.size with ⟨he, _⟩ | ⟨i, hi, he, hc, hn⟩
  · exact he
  · exfalso
    have hci : s.data[i]! = c := UInt8.toNat_inj.1 (by exact_mod_cast hc)
    have hj' : i < s.data.size := hi
    rw [getElem!_pos s.data i hj'] at hci
    exact h (by rw [← hci]; exact (Array.mem_toList_iff).2 (Array.getElem_mem _))
/-- Every list of bytes, cut at its last c. -/
theorem last_cut (c : UInt8) : ∀ l : List UInt8, c ∉ l ∨ ∃ p r, l = p ++ c :: r ∧ c ∉ r
  | [] => .inl (by simp)
  | b :: l => by
    rcases last_cut c l with h | ⟨p, r, rfl, h⟩
    · by_cases hb : b = c
      · exact .inr ⟨[], l, by simp [hb], h⟩
      · exact .inl (by simp [h, Ne.symm hb])
    · exact .inr ⟨b :: p, r, by simp, h⟩
/-- A directory: empty, or it ends with a slash. -/
def DirB (d : List UInt8) : Prop := d = [] ∨ ∃ e, d = e ++ [47]
theorem dir_cut (l : List UInt8) : ∃ d b, l = d ++ b ∧ DirB d ∧ 47 ∉ b := by
  rcases last_cut 47 l with h | ⟨p, r, rfl, h⟩
  · exact ⟨[], l, by simp, .inl rfl, h⟩
  · exact ⟨p ++ [47], r, by simp, .inr ⟨p, rfl⟩, h⟩
theorem last_dir (s : ByteArray) (d b : List UInt8) (h : s.data.toList = d ++ b) (hd : DirB d) (hb : 47 ∉ b) : Lib.lastIndexByte s 47 + 1 = d.length := by
  rcases hd with rfl | ⟨e, rfl⟩
  · rw [show (47 : Int) = ((47 : UInt8).toNat : Int) from rfl, last_none s 47 (by rw [h]; simpa using hb)]
    rfl
  · rw [show (47 : Int) = ((47 : UInt8).toNat : Int) from rfl, last_at s 47 e b (by rw [h]; simp) hb]
    simp
theorem part_ne {l : List UInt8} (h : partB l = true) : l ≠ [] := by
  intro e
  subst e
  cases h
theorem spl_last (c : UInt8) : ∀ (p r : List UInt8), c ∉ r → r ∈ spl c (p ++ r) ∨ p ≠ [] ∧ ¬ (∃ e, p = e ++ [c])
  | [], r, h => .inl (by rw [List.nil_append, spl_none c r h]; exact List.mem_cons_self)
  | b :: p, r, h => by
    by_cases hp : p = []
    · subst hp
      by_cases hb : b = c
      · left
        subst hb
        show r ∈ spl b (b :: r)
        unfold spl
        rw [if_pos rfl, spl_none b r h]
        simp
      · right
        refine ⟨by simp, ?_⟩
        rintro ⟨e, he⟩
        cases e with
        | nil => simp at he; exact hb he
        | cons x e => simp at he
    · rcases spl_last c p r h with h1 | ⟨h1, h2⟩
      · by_cases hend : ∃ e, p = e ++ [c]
        · left
          show r ∈ spl c (b :: (p ++ r))
          unfold spl
          by_cases hb : b = c
          · rw [if_pos hb]; exact List.mem_cons_of_mem _ h1
          · rw [if_neg hb]
            refine List.mem_cons_of_mem _ ?_
            obtain ⟨e, rfl⟩ := hend
            have h3 := spl_tail c e r
            rw [List.append_assoc, List.singleton_append]
            exact h3 h
        · right
          refine ⟨by simp, ?_⟩
          rintro ⟨e, he⟩
          cases e with
          | nil => simp at he; exact hp he.2
          | cons x e => simp at he; exact hend ⟨e, he.2⟩
      · right
        refine ⟨by simp, ?_⟩
        rintro ⟨e, he⟩
        cases e with
        | nil => simp at he; exact hp he.2
        | cons x e => simp at he; exact h2 ⟨e, he.2⟩
where
  spl_tail (c : UInt8) : ∀ (e r : List UInt8), c ∉ r → r ∈ (spl c (e ++ c :: r)).tail
    | [], r, h => by
      show r ∈ (spl c (c :: r)).tail
      unfold spl
      rw [if_pos rfl, spl_none c r h]
      simp
    | b :: e, r, h => by
      have ih := spl_tail c e r h
      show r ∈ (spl c (b :: (e ++ c :: r))).tail
      unfold spl
      split
      · exact List.mem_of_mem_tail ih
      · exact ih
/-- The last part of a path is not empty. -/
theorem path_last {d b : List UInt8} (h : pathB (d ++ b) = true) (hd : DirB d) (hb : 47 ∉ b) : b ≠ [] ∧ (d ++ b).length ≤ 200 := by
  unfold pathB at h
  rw [Bool.and_eq_true, decide_eq_true_eq, List.all_eq_true] at h
  refine ⟨?_, h.1⟩
  rcases spl_last 47 d b hb with h1 | ⟨h1, h2⟩
  · exact part_ne (h.2 b h1)
  · rcases hd with rfl | he
    · exact absurd rfl h1
    · exact absurd he h2
end Go.Proofs.YtjmnnnjddbmiaaaDoor
