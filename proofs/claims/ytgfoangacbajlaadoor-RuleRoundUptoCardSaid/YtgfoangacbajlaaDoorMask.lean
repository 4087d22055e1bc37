/- A world with one block blanked: what lies outside that block is kept when only that block turns. No program. -/
import Derived.Test.YtgfoangacbajlaaDoorKept
import Derived.Test.YtgfoangacbajlaaDoorTAt
namespace Mh
open Go Go.RowKit
set_option linter.unusedVariables false

def mask (b : Nat) (w : World) : World := { w with heap := w.heap.setIfInBounds b (.cells #[] 0 (0, 0)) }
theorem mask_size (b : Nat) (w : World) : (mask b w).heap.size = w.heap.size := by simp [mask]
theorem mask_block {b k : Nat} (w : World) (h : k ≠ b) : (mask b w).heap[k]? = w.heap[k]? := by
  unfold mask
  simp only [Array.getElem?_setIfInBounds]
  rw [if_neg (Ne.symm h)]
theorem mask_self {b : Nat} (w : World) (h : b < w.heap.size) : (mask b w).heap[b]? = some (.cells #[] 0 (0, 0)) := by
  unfold mask
  simp [h]
theorem mask_cell {b k o : Nat} {w : World} {u : Value} (h : (mask b w).cell? ⟨k, o, none⟩ = some u) : w.cell? ⟨k, o, none⟩ = some u := by
  by_cases hk : k = b
  · subst hk
    by_cases hb : k < w.heap.size
    · have := mask_self w hb
      unfold World.cell? at h
      rw [this] at h
      simp at h
    · unfold World.cell? at h
      rw [Array.getElem?_eq_none (by rw [mask_size]; exact Nat.le_of_not_lt hb)] at h
      simp at h
  · unfold World.cell? at h ⊢
    rw [mask_block w hk] at h
    exact h
theorem Kept.masked {b : Nat} {w w' : World} (h : Kept [b] w w') : Below (mask b w).heap.size (mask b w) (mask b w') := by
  refine ⟨h.os, h.tape, h.output, by rw [mask_size, mask_size]; exact h.size, fun k hk => ?_⟩
  rw [mask_size] at hk
  by_cases e : k = b
  · subst e
    rw [mask_self w hk, mask_self w' (Nat.lt_of_lt_of_le hk h.size)]
  · rw [mask_block w e, mask_block w' e]
    exact h.block k hk (by simpa using e)
theorem mask_alloc {b : Nat} (w : World) (o : Obj) (h : b < w.heap.size) : mask b (w.alloc o) = (mask b w).alloc o := by
  have e : (w.heap.push o).setIfInBounds b (.cells #[] 0 (0, 0)) = (w.heap.setIfInBounds b (.cells #[] 0 (0, 0))).push o := by
    apply Array.ext_getElem?
    intro i
    rw [Array.getElem?_setIfInBounds, Array.getElem?_push, Array.getElem?_push, Array.getElem?_setIfInBounds]
    simp only [Array.size_push, Array.size_setIfInBounds]
    by_cases h1 : b = i
    · subst h1
      have h2 : b ≠ w.heap.size := by omega
      have h3 : b < w.heap.size + 1 := by omega
      simp [h, h2, h3]
    · simp [h1]
  unfold mask World.alloc
  simp only [e]
theorem Sl.mono {k : Nat} {w w' : World} {v : Value} {n : Nat} {xs : List Value} (h : Sl k w v n xs) (hc : ∀ b o u, w.cell? ⟨b, o, none⟩ = some u → w'.cell? ⟨b, o, none⟩ = some u) (hs : w.heap.size ≤ w'.heap.size) : Sl k w' v n xs := by
  refine ⟨h.1, ?_⟩
  rcases h.2 with h2 | ⟨b, off, c, rfl, hn, hcc, hm, hlt, hcell⟩
  · exact .inl h2
  · exact .inr ⟨b, off, c, rfl, hn, hcc, hm, Nat.lt_of_lt_of_le hlt hs, fun i u hu => hc _ _ _ (hcell i u hu)⟩
theorem TAt.mono {w w' : World} (hc : ∀ b o u, w.cell? ⟨b, o, none⟩ = some u → w'.cell? ⟨b, o, none⟩ = some u) (hs : w.heap.size ≤ w'.heap.size) : ∀ (N : Nat) (X : T), sizeOf X < N → ∀ cs, TAt w X cs → TAt w' X cs := by
  intro N
  induction N with
  | zero => intro X h; omega
  | succ N ih =>
    rintro ⟨op, m, lo, hi, ks⟩ hX cs h
    unfold TAt at h ⊢
    obtain ⟨kv, rfl, rows, h5, h6⟩ := h
    refine ⟨kv, rfl, rows, h5.mono hc hs, ?_⟩
    have hm : ∀ x ∈ ks, sizeOf x < N := fun x hx => by have := T.size_kid (op := op) (m := m) (lo := lo) (hi := hi) hx; omega
    clear h5 hX
    induction ks generalizing rows with
    | nil => unfold TsAt at h6 ⊢; exact h6
    | cons x xs ihx =>
      unfold TsAt at h6 ⊢
      obtain ⟨c, r, rfl, hcl, hx, hr⟩ := h6
      exact ⟨c, r, rfl, hcl, ih x (hm x (by simp)) c hx, ihx r hr (fun y hy => hm y (by simp [hy]))⟩
theorem TAt.unmask {b : Nat} {w : World} {X : T} {cs : List Value} (h : TAt (mask b w) X cs) : TAt w X cs :=
  TAt.mono (fun _ _ _ hu => mask_cell hu) (by rw [mask_size]; exact Nat.le_refl _) _ X (Nat.lt_succ_self _) cs h
theorem TsAt.unmask {b : Nat} {w : World} : ∀ (l : List T) (rows : List Value), TsAt (mask b w) l rows → TsAt w l rows
  | [], rows, h => by unfold TsAt at h ⊢; exact h
  | x :: l, rows, h => by
    unfold TsAt at h ⊢
    obtain ⟨c, r, rfl, hc, hx, hr⟩ := h
    exact ⟨c, r, rfl, hc, hx.unmask, TsAt.unmask l r hr⟩
end Mh
