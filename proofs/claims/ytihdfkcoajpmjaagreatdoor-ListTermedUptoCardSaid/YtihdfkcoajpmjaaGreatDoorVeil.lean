/- A world with some blocks hidden: what is read without them is kept when only they turn. Slices that are read, appended to rows that are owned. No program. -/
import Derived.Test.YtihdfkcoajpmjaaGreatDoorKeVm
import Derived.Test.YtihdfkcoajpmjaaGreatDoorKept
import Derived.Maps.AppendAt
import Derived.Laws.OwnMore
namespace Mh
open Go Go.RowKit
set_option linter.unusedVariables false

def veil (S : Nat → Bool) (w : World) : World := { w with heap := w.heap.mapIdx fun k o => if S k = true then .cells #[] 0 (0, 0) else o }
theorem veil_size (S : Nat → Bool) (w : World) : (veil S w).heap.size = w.heap.size := by simp [veil]
theorem veil_block {S : Nat → Bool} {k : Nat} (w : World) (h : S k = false) : (veil S w).heap[k]? = w.heap[k]? := by
  simp only [veil, Array.getElem?_mapIdx, h, Bool.false_eq_true, if_false]
  cases w.heap[k]? <;> rfl
theorem veil_hidden {S : Nat → Bool} {k : Nat} (w : World) (h : S k = true) (j : Nat) : (veil S w).cell? ⟨k, j, none⟩ = none := by
  unfold World.cell?
  simp only [veil, Array.getElem?_mapIdx, h, if_true]
  cases w.heap[k]? <;> simp
theorem veil_cell {S : Nat → Bool} {k j : Nat} {w : World} {u : Value} (h : (veil S w).cell? ⟨k, j, none⟩ = some u) : S k = false ∧ w.cell? ⟨k, j, none⟩ = some u := by
  cases hs : S k with
  | true => rw [veil_hidden w hs j] at h; cases h
  | false => rw [World.cell?_of_block (a := ⟨k, j, none⟩) (veil_block w hs)] at h; exact ⟨rfl, h⟩
theorem veil_cell_of {S : Nat → Bool} {k j : Nat} {w : World} {u : Value} (hs : S k = false) (h : w.cell? ⟨k, j, none⟩ = some u) : (veil S w).cell? ⟨k, j, none⟩ = some u := by
  rw [World.cell?_of_block (a := ⟨k, j, none⟩) (veil_block w hs)]; exact h

/-- All that is read in the one world is read in the other. -/
structure Keeps (w w' : World) : Prop where
  size : w.heap.size ≤ w'.heap.size
  cell : ∀ b o u, w.cell? ⟨b, o, none⟩ = some u → w'.cell? ⟨b, o, none⟩ = some u
theorem Keeps.refl (w : World) : Keeps w w := ⟨Nat.le_refl _, fun _ _ _ h => h⟩
theorem Keeps.trans {a b c : World} (h : Keeps a b) (k : Keeps b c) : Keeps a c := ⟨Nat.le_trans h.size k.size, fun _ _ _ hu => k.cell _ _ _ (h.cell _ _ _ hu)⟩
theorem Sl.keeps {k : Nat} {w w' : World} {v : Value} {n : Nat} {xs : List Value} (h : Sl k w v n xs) (hk : Keeps w w') : Sl k w' v n xs := by
  refine ⟨h.1, ?_⟩
  rcases h.2 with h2 | ⟨b, off, c, rfl, hn, hcc, hm, hlt, hcell⟩
  · exact .inl h2
  · exact .inr ⟨b, off, c, rfl, hn, hcc, hm, Nat.lt_of_lt_of_le hlt hk.size, fun i u hu => hk.cell _ _ _ (hcell i u hu)⟩
theorem Ss.keeps {w w' : World} {v : Value} {l : List ByteArray} (h : Ss w v l) (hk : Keeps w w') : Ss w' v l := ⟨h.1.keeps hk, h.2⟩
theorem VAt.keepsN {w w' : World} (hk : Keeps w w') : ∀ (N : Nat) (X : V), sizeOf X < N → ∀ cs, VAt w X cs → VAt w' X cs := by
  intro N
  induction N with
  | zero => intro X h; omega
  | succ N ih =>
    rintro ⟨k, b, n, t, is, ks⟩ hX cs h
    unfold VAt at h ⊢
    obtain ⟨iv, kv, rfl, h1, h2, h3, h4, rows, h5, h6⟩ := h
    refine ⟨iv, kv, rfl, h1, h2, h3, h4.keeps hk, rows, h5.keeps hk, ?_⟩
    have hm : ∀ x ∈ is, sizeOf x < N := fun x hx => by have := size_item (k := k) (b := b) (n := n) (t := t) (ks := ks) hx; omega
    clear h5 hX
    induction is generalizing rows with
    | nil => unfold VsAt at h6 ⊢; exact h6
    | cons x xs ihx =>
      unfold VsAt at h6 ⊢
      obtain ⟨c, r, rfl, hc, hx, hr⟩ := h6
      exact ⟨c, r, rfl, hc, ih x (hm x (by simp)) c hx, ihx r hr (fun y hy => hm y (by simp [hy]))⟩
theorem VAt.keeps {w w' : World} {X : V} {cs : List Value} (h : VAt w X cs) (hk : Keeps w w') : VAt w' X cs := VAt.keepsN hk _ X (Nat.lt_succ_self _) cs h
theorem VsAt.keeps {w w' : World} (hk : Keeps w w') : ∀ {is : List V} {rows : List Value}, VsAt w is rows → VsAt w' is rows := by
  intro is
  induction is with
  | nil => intro rows h; unfold VsAt at h ⊢; exact h
  | cons x xs ih =>
    intro rows h
    unfold VsAt at h ⊢
    obtain ⟨c, r, rfl, hc, hx, hr⟩ := h
    exact ⟨c, r, rfl, hc, hx.keeps hk, ih hr⟩
/-- The bridge: what the first veil leaves to see stays. -/
theorem Keeps.veils {S S' : Nat → Bool} {w w' : World} (hs : w.heap.size ≤ w'.heap.size) (h : ∀ k, k < w.heap.size → S k = false → S' k = false ∧ w'.heap[k]? = w.heap[k]?) : Keeps (veil S w) (veil S' w') := by
  refine ⟨by rw [veil_size, veil_size]; exact hs, fun b o u hu => ?_⟩
  obtain ⟨h1, h2⟩ := veil_cell hu
  obtain ⟨h3, h4⟩ := h b (World.block_lt_of_cell? w _ h2) h1
  exact veil_cell_of h3 (by rw [World.cell?_of_block (a := ⟨b, o, none⟩) h4]; exact h2)
theorem Keeps.veil {S' : Nat → Bool} {w w' : World} (hs : w.heap.size ≤ w'.heap.size) (h : ∀ k, k < w.heap.size → S' k = false ∧ w'.heap[k]? = w.heap[k]?) : Keeps w (Mh.veil S' w') := by
  refine ⟨by rw [veil_size]; exact hs, fun b o u hu => ?_⟩
  obtain ⟨h3, h4⟩ := h b (World.block_lt_of_cell? w _ hu)
  exact veil_cell_of h3 (by rw [World.cell?_of_block (a := ⟨b, o, none⟩) h4]; exact hu)
theorem Keeps.bare (S : Nat → Bool) (w : World) : Keeps (Mh.veil S w) w := ⟨by rw [veil_size]; exact Nat.le_refl _, fun _ _ _ hu => (veil_cell hu).2⟩
theorem Keeps.below {w w' : World} (h : Below w.heap.size w w') : Keeps w w' := ⟨h.size, fun b o u hu => (h.cell (p := ⟨b, o, none⟩) (World.block_lt_of_cell? w _ hu)).trans hu⟩
theorem Keeps.belows {S : Nat → Bool} {w w' : World} (h : Below w.heap.size w w') : Keeps (Mh.veil S w) (Mh.veil S w') := Keeps.veils h.size fun k hk hs => ⟨hs, h.block k hk⟩
/-- Less hidden. -/
theorem Keeps.less {S S' : Nat → Bool} (w : World) (h : ∀ k, S k = false → S' k = false) : Keeps (Mh.veil S w) (Mh.veil S' w) := Keeps.veils (Nat.le_refl _) fun k _ hs => ⟨h k hs, rfl⟩
/-- Only hidden blocks turned. -/
theorem Keeps.kept {S : Nat → Bool} {L : List Nat} {w w' : World} (h : Kept L w w') (hL : ∀ b ∈ L, S b = true) : Keeps (Mh.veil S w) (Mh.veil S w') :=
  Keeps.veils h.size fun k hk hs => ⟨hs, h.block k hk (fun hm => by rw [hL k hm] at hs; cases hs)⟩
/-- A row with its own block hidden grows. -/
def own1 (S : Nat → Bool) (v : Value) (k : Nat) : Bool := S k || decide (v.ownBlock = some k)
theorem own1_false {S : Nat → Bool} {v : Value} {k : Nat} : own1 S v k = false ↔ S k = false ∧ v.ownBlock ≠ some k := by simp [own1]
theorem Keeps.grown {S : Nat → Bool} {w w' : World} {v v' : Value} (hg : w.grownBy w' v.ownBlock) (hat : v'.ownBlock = v.ownBlock ∨ v'.ownBlock = some w.heap.size) : Keeps (Mh.veil (own1 S v) w) (Mh.veil (own1 S v') w') := by
  refine Keeps.veils hg.size fun k hk hs => ?_
  rw [own1_false] at hs ⊢
  refine ⟨⟨hs.1, ?_⟩, hg.block k hk (fun e => hs.2 e.symm)⟩
  rcases hat with e | e
  · rw [e]; exact hs.2
  · rw [e]; simp; omega
theorem Keeps.own1 {S : Nat → Bool} {v : Value} (w : World) : Keeps (Mh.veil (Mh.own1 S v) w) (Mh.veil S w) := Keeps.less w fun k hs => (own1_false.1 hs).1
theorem Keeps.own0 {S : Nat → Bool} {v : Value} (w : World) (h : v.ownBlock = none) : Keeps (Mh.veil S w) (Mh.veil (Mh.own1 S v) w) := Keeps.less w fun k hs => own1_false.2 ⟨hs, by rw [h]; simp⟩
theorem Sl.of_own_veil {S : Nat → Bool} {k base e : Nat} {w : World} {v : Value} {n : Nat} {xs : List Value} (h : w.ownsRow base e k v n xs) (hk : 0 < k) (hS : ∀ b, base ≤ b → S b = false) : Sl k (veil S w) v n xs := by
  refine ⟨h.1, ?_⟩
  rcases h.2 with ⟨rfl, hn⟩ | ⟨g, cap, cur, rfl, hb, hg, hnc, hcm, hcs, htake⟩
  · exact .inl ⟨hn, none, 0, rfl⟩
  · by_cases hn : n = 0
    · subst hn; exact .inl ⟨rfl, _, _, rfl⟩
    · refine .inr ⟨g, 0, cap, rfl, by omega, hnc, hcm, by rw [veil_size]; exact (Array.getElem?_eq_some_iff.1 hg).1, fun i u hu => ?_⟩
      refine veil_cell_of (hS g hb) ?_
      rw [Nat.zero_add, cell_of_row _ _ _ _ _ _ hg]
      rw [← htake, List.getElem?_take] at hu
      split at hu
      · simpa using hu
      · cases hu
theorem Sl.nil (k : Nat) (w : World) (a : Option Addr) (c : Nat) : Sl k w (.slice a 0 c) 0 [] := ⟨by simp, .inl ⟨rfl, a, c, rfl⟩⟩
theorem VsAt.append {w : World} : ∀ {is js : List V} {r q : List Value}, VsAt w is r → VsAt w js q → VsAt w (is ++ js) (r ++ q) := by
  intro is
  induction is with
  | nil => intro js r q h k; unfold VsAt at h; subst h; exact k
  | cons x xs ih =>
    intro js r q h k
    unfold VsAt at h
    obtain ⟨c, r', rfl, hc, hx, hr⟩ := h
    rw [List.cons_append, List.append_assoc]
    unfold VsAt
    exact ⟨c, r' ++ q, rfl, hc, hx, ih hr k⟩
theorem VsAt.one {w : World} {X : V} {cs : List Value} (h : VAt w X cs) : VsAt w [X] cs := by
  unfold VsAt
  exact ⟨cs, [], by simp, h.length, h, by simp [VsAt]⟩
theorem VsAt.length {w : World} : ∀ {is : List V} {r : List Value}, VsAt w is r → r.length = is.length * 6 := by
  intro is
  induction is with
  | nil => intro r h; unfold VsAt at h; subst h; rfl
  | cons x xs ih =>
    intro r h
    unfold VsAt at h
    obtain ⟨c, r', rfl, hc, hx, hr⟩ := h
    rw [List.length_append, hc, ih hr, List.length_cons]; omega
theorem VsAt.take {w : World} : ∀ {is : List V} {r : List Value} (k : Nat), VsAt w is r → VsAt w (is.take k) (r.take (k * 6)) := by
  intro is
  induction is with
  | nil => intro r k h; unfold VsAt at h; subst h; simp [VsAt]
  | cons x xs ih =>
    intro r k h
    unfold VsAt at h
    obtain ⟨c, r', rfl, hc, hx, hr⟩ := h
    cases k with
    | zero => simp [VsAt]
    | succ k =>
      rw [List.take_succ_cons, show (k + 1) * 6 = c.length + k * 6 by omega, List.take_length_add_append]
      unfold VsAt
      exact ⟨c, _, rfl, hc, hx, ih k hr⟩
theorem VsAt.drop {w : World} : ∀ {is : List V} {r : List Value} (k : Nat), VsAt w is r → VsAt w (is.drop k) (r.drop (k * 6)) := by
  intro is
  induction is with
  | nil => intro r k h; unfold VsAt at h; subst h; simp [VsAt]
  | cons x xs ih =>
    intro r k h
    unfold VsAt at h
    obtain ⟨c, r', rfl, hc, hx, hr⟩ := h
    cases k with
    | zero => rw [Nat.zero_mul, List.drop_zero, List.drop_zero]; unfold VsAt; exact ⟨c, r', rfl, hc, hx, hr⟩
    | succ k =>
      rw [List.drop_succ_cons, show (k + 1) * 6 = c.length + k * 6 by omega, List.drop_length_add_append]
      exact ih k hr
theorem VsAt.set {w : World} : ∀ {is : List V} {r : List Value} (k : Nat) {X : V} {cs : List Value}, VsAt w is r → VAt w X cs → VsAt w (is.set k X) (r.take (k * 6) ++ cs ++ r.drop (k * 6 + 6)) ∨ is.length ≤ k := by
  intro is r k X cs h hX
  by_cases hk : k < is.length
  · left
    have h1 := h.take k
    have h2 := h.drop (k + 1)
    rw [List.set_eq_take_append_cons_drop, if_pos hk]
    have := (h1.append (VsAt.one hX)).append h2
    rwa [List.append_assoc (is.take k), List.singleton_append, show (k + 1) * 6 = k * 6 + 6 by omega] at this
  · exact .inr (by omega)
theorem VsAt.item1 {w : World} {is : List V} {r : List Value} {k : Nat} (h : VsAt w is r) (hk : k < is.length) : ∃ c, VAt w is[k] c := let ⟨c, h1, _⟩ := h.get is r k hk; ⟨c, h1⟩
/-- A value put together. -/
theorem VAt.made {w : World} {X : V} {iv kv : Value} {rows : List Value} (hk : (Lit.int .i64 X.kd).wf = true) (hn : (Lit.int .i64 X.nu).wf = true) (ht : X.tx.size ≤ maxLen) (h4 : Ss w kv X.kys) (h5 : Sl 6 w iv X.its.length rows) (h6 : VsAt w X.its rows) :
    VAt w X [.int .i64 X.kd, .bool X.bo, .int .i64 X.nu, .string X.tx, iv, kv] := by
  obtain ⟨k, b, n, t, is, ks⟩ := X
  unfold VAt
  exact ⟨iv, kv, rfl, hk, hn, ht, h4, rows, h5, h6⟩
theorem VAt.wf {w : World} {X : V} {cs : List Value} (h : VAt w X cs) : (Lit.int .i64 X.kd).wf = true ∧ (Lit.int .i64 X.nu).wf = true ∧ X.tx.size ≤ maxLen := by
  obtain ⟨k, b, n, t, is, ks⟩ := X
  unfold VAt at h
  obtain ⟨iv, kv, rfl, h1, h2, h3, _⟩ := h
  exact ⟨h1, h2, h3⟩
theorem Sl.sub {k : Nat} {w : World} {b off c n : Nat} {xs : List Value} (h : Sl k w (.slice (some ⟨b, off, none⟩) n c) n xs) (i m c' : Nat) (him : i + m ≤ n) (hc' : m ≤ c') (hm : c' ≤ maxLen) : Sl k w (.slice (some ⟨b, off + i * k, none⟩) m c') m ((xs.drop (i * k)).take (m * k)) := by
  have hle : i * k + m * k ≤ n * k := by rw [← Nat.add_mul]; exact Nat.mul_le_mul_right _ him
  refine ⟨by rw [List.length_take, List.length_drop, h.1]; omega, ?_⟩
  rcases h.2 with ⟨rfl, _⟩ | ⟨b', off', c2, he, h1, h2, h3, h4, h5⟩
  · obtain rfl : m = 0 := by omega
    exact .inl ⟨rfl, _, _, rfl⟩
  · simp only [Value.slice.injEq, Option.some.injEq, Addr.mk.injEq, and_true, true_and] at he
    obtain ⟨⟨rfl, rfl⟩, rfl⟩ := he
    by_cases h0 : m = 0
    · subst h0; exact .inl ⟨rfl, _, _, rfl⟩
    · refine .inr ⟨b, off + i * k, c', rfl, by omega, hc', hm, h4, fun j u hu => ?_⟩
      rw [List.getElem?_take] at hu
      split at hu
      · rw [Nat.add_assoc]
        rw [List.getElem?_drop] at hu
        exact h5 _ u hu
      · cases hu
end Mh
