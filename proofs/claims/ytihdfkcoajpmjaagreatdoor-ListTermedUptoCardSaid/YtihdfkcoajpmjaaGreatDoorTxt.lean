/- Plain facts on lists of bytes: cut at a byte ('spl'), the library's split at one byte is that. No program. -/
import Derived.Lib.SplitLaws
import Derived.Lib.IndexLaws
import Derived.Lib.Strings
import Derived.Test.YtihdfkcoajpmjaaGreatDoorBase
namespace Mh
open Go
set_option linter.unusedVariables false

/-- A list of bytes cut at each c. -/
def spl (c : UInt8) : List UInt8 → List (List UInt8)
  | [] => [[]]
  | b :: l => if b = c then [] :: spl c l else (b :: (spl c l).headD []) :: (spl c l).tail
theorem spl_ne (c : UInt8) : ∀ l, spl c l ≠ []
  | [] => by simp [spl]
  | b :: l => by unfold spl; split <;> simp
theorem spl_none (c : UInt8) : ∀ l, c ∉ l → spl c l = [l]
  | [], _ => rfl
  | b :: l, h => by
    have hb : b ≠ c := fun e => h (by rw [e]; exact List.mem_cons_self)
    have ih := spl_none c l (fun h2 => h (List.mem_cons_of_mem _ h2))
    unfold spl
    rw [if_neg hb, ih]
    rfl
theorem spl_at (c : UInt8) : ∀ p r, c ∉ p → spl c (p ++ c :: r) = p :: spl c r
  | [], r, _ => by simp [spl]
  | b :: p, r, h => by
    have hb : b ≠ c := fun e => h (by rw [e]; exact List.mem_cons_self)
    have ih := spl_at c p r (fun h2 => h (List.mem_cons_of_mem _ h2))
    have e : spl c (b :: (p ++ c :: r)) = (b :: (spl c (p ++ c :: r)).headD []) :: (spl c (p ++ c :: r)).tail := by
      conv => lhs; unfold spl
      rw [if_neg hb]
    rw [List.cons_append, e, ih]
    rfl
theorem index_none (c : UInt8) (l : List UInt8) (h : c ∉ l) : Lib.index l [c] = -1 := by
  induction l with
  | nil => rfl
  | cons b l ih =>
    have hb : b ≠ c := fun e => h (by rw [e]; exact List.mem_cons_self)
    unfold Lib.index
    rw [ih (fun h2 => h (List.mem_cons_of_mem _ h2)), if_neg (by simp [List.isPrefixOf]; exact fun e => hb e.symm)]
    rfl
theorem index_at (c : UInt8) (p r : List UInt8) (h : c ∉ p) : Lib.index (p ++ c :: r) [c] = p.length := by
  induction p with
  | nil => simp [Lib.index, List.isPrefixOf]
  | cons b p ih =>
    have hb : b ≠ c := fun e => h (by rw [e]; exact List.mem_cons_self)
    rw [List.cons_append]
    unfold Lib.index
    rw [ih (fun h2 => h (List.mem_cons_of_mem _ h2)), if_neg (by simp [List.isPrefixOf]; exact fun e => hb e.symm)]
    rw [if_neg (by simp)]
    simp
theorem first_at (c : UInt8) : ∀ l : List UInt8, c ∉ l ∨ ∃ p r, l = p ++ c :: r ∧ c ∉ p
  | [] => .inl (by simp)
  | b :: l => by
    by_cases hb : b = c
    · exact .inr ⟨[], l, by simp [hb], by simp⟩
    · rcases first_at c l with h | ⟨p, r, rfl, h⟩
      · exact .inl (by simp [h, Ne.symm hb])
      · exact .inr ⟨b :: p, r, by simp, by simp [h, Ne.symm hb]⟩
theorem split_spl (c : UInt8) : ∀ (n : Nat) (l : List UInt8), l.length ≤ n → Lib.split l [c] = spl c l := by
  intro n
  induction n with
  | zero =>
    intro l hl
    obtain rfl : l = [] := List.eq_nil_of_length_eq_zero (by omega)
    rfl
  | succ n ih =>
    intro l hl
    rcases first_at c l with h | ⟨p, r, rfl, h⟩
    · unfold Lib.split
      rw [Lib.count_miss (index_none c l h), spl_none c l h]
      rfl
    · have hi := index_at c p r h
      have hr : (p ++ c :: r).drop (p.length + [c].length) = r := by simp
      unfold Lib.split
      rw [Lib.count_hit (by simp) hi, hr, Nat.add_comm, spl_at c p r h]
      unfold Lib.splitK
      rw [hi, if_neg (by simp)]
      have e1 : ((p.length : Int).toNat + 0) = p.length := by omega
      have e2 : ((p.length : Int).toNat + [c].length) = p.length + [c].length := by omega
      rw [e1, e2, hr, List.take_left]
      have := ih r (by simp at hl; omega)
      unfold Lib.split at this
      rw [this]
/-- The library's split, as the program's string. -/
theorem splitB_spl (c : UInt8) (s : ByteArray) : (Lib.splitB ⟨#[c]⟩ 0 (Lib.countB s ⟨#[c]⟩) s).map (·.data.toList) = spl c s.data.toList := by
  rw [Lib.splitB_data]
  exact split_spl c _ _ (Nat.le_refl _)
theorem splitB_len (c : UInt8) (s : ByteArray) : (Lib.splitB ⟨#[c]⟩ 0 (Lib.countB s ⟨#[c]⟩) s).length = Lib.countB s ⟨#[c]⟩ + 1 := Lib.splitB_all ⟨#[c]⟩ (Nat.le_refl 1) 0 _ s rfl

theorem spl_mem_len (c : UInt8) : ∀ (l p : List UInt8), p ∈ spl c l → p.length ≤ l.length
  | [], p, h => by simp [spl] at h; simp [h]
  | b :: l, p, h => by
    have ih := spl_mem_len c l
    unfold spl at h
    split at h
    · rcases List.mem_cons.1 h with rfl | h
      · simp
      · have := ih p h; simp; omega
    · rcases List.mem_cons.1 h with rfl | h
      · cases hs : spl c l with
        | nil => exact absurd hs (spl_ne c l)
        | cons q qs =>
          have := ih q (by rw [hs]; exact List.mem_cons_self)
          simp
          omega
      · have := ih p (List.mem_of_mem_tail h); simp; omega
theorem split_size (c : UInt8) (s : ByteArray) : ∀ p ∈ Lib.splitB ⟨#[c]⟩ 0 (Lib.countB s ⟨#[c]⟩) s, p.size ≤ s.size := by
  intro p hp
  have h1 : p.data.toList ∈ spl c s.data.toList := by
    rw [← splitB_spl]
    exact List.mem_map_of_mem hp
  have := spl_mem_len c _ _ h1
  simpa using this
/-- A cell of the library's own, and what is kept of it: internal/bytealg.MaxLen holds some integer. -/
def ML (g : Nat) (w : World) : Prop := ∃ m : Int, w.cell? ⟨g, 0, none⟩ = some (.int .i64 m)
theorem ML.below {g B : Nat} {w w' : World} (h : ML g w) (hb : RowKit.Below B w w') (hg : g < B) : ML g w' := by
  obtain ⟨m, hm⟩ := h
  exact ⟨m, (hb.cell (p := ⟨g, 0, none⟩) hg).trans hm⟩
theorem ML.lt {g : Nat} {w : World} (h : ML g w) : g < w.heap.size := by
  obtain ⟨m, hm⟩ := h
  exact World.block_lt_of_cell? w _ hm
theorem ML.next {g : Nat} {w w' : World} (h : ML g w) (hb : RowKit.Below w.heap.size w w') : ML g w' := h.below hb h.lt
end Mh
