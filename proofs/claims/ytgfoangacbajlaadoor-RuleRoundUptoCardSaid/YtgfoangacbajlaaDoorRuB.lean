/- A world with its old blocks blanked, and one more: what lies in the new blocks. No program. -/
import Derived.Test.YtgfoangacbajlaaDoorMask
import Derived.Laws.AppendOwn
namespace Mh
open Go Go.RowKit
set_option linter.unusedVariables false

/-- The world w, the blocks below B blanked, and the block g. -/
def fresh (B : Nat) (g : Option Nat) (w : World) : World := { w with heap := w.heap.mapIdx fun i o => if i < B ∨ g = some i then .cells #[] 0 (0, 0) else o }
theorem fresh_size (B : Nat) (g : Option Nat) (w : World) : (fresh B g w).heap.size = w.heap.size := by simp [fresh]
theorem fresh_cell {B k o : Nat} {g : Option Nat} {w : World} {u : Value} : (fresh B g w).cell? ⟨k, o, none⟩ = some u ↔ B ≤ k ∧ g ≠ some k ∧ w.cell? ⟨k, o, none⟩ = some u := by
  have e : (fresh B g w).heap[k]? = (w.heap[k]?).map fun x => if k < B ∨ g = some k then .cells #[] 0 (0, 0) else x := by
    unfold fresh
    rw [Array.getElem?_mapIdx]
  unfold World.cell?
  rw [e]
  by_cases hk : k < B ∨ g = some k
  · constructor
    · intro h
      cases h2 : w.heap[k]? with
      | none => rw [h2] at h; simp at h
      | some x => rw [h2] at h; simp [hk] at h
    · rintro ⟨h1, h2, _⟩
      rcases hk with hk | hk
      · omega
      · exact absurd hk h2
  · have h1 : B ≤ k := by omega
    have h2 : g ≠ some k := fun h => hk (.inr h)
    cases h3 : w.heap[k]? with
    | none => simp
    | some x =>
      simp only [Option.map_some, if_neg hk]
      constructor
      · intro h; exact ⟨h1, h2, h⟩
      · intro h; exact h.2.2
/-- What the change from one blanked world to another must keep. -/
def FrKept (B : Nat) (g : Option Nat) (w : World) (B' : Nat) (g' : Option Nat) (w' : World) : Prop :=
  w.heap.size ≤ w'.heap.size ∧ ∀ k o u, B ≤ k → g ≠ some k → w.cell? ⟨k, o, none⟩ = some u → B' ≤ k ∧ g' ≠ some k ∧ w'.cell? ⟨k, o, none⟩ = some u
theorem FrKept.cells {B B' : Nat} {g g' : Option Nat} {w w' : World} (h : FrKept B g w B' g' w') : ∀ b o u, (fresh B g w).cell? ⟨b, o, none⟩ = some u → (fresh B' g' w').cell? ⟨b, o, none⟩ = some u := fun b o u hu => by
  obtain ⟨h1, h2, h3⟩ := fresh_cell.1 hu
  exact fresh_cell.2 (h.2 b o u h1 h2 h3)
theorem FrKept.tat {B B' : Nat} {g g' : Option Nat} {w w' : World} (h : FrKept B g w B' g' w') {X : T} {cs : List Value} (ht : TAt (fresh B g w) X cs) : TAt (fresh B' g' w') X cs :=
  TAt.mono h.cells (by rw [fresh_size, fresh_size]; exact h.1) _ X (Nat.lt_succ_self _) cs ht
theorem FrKept.tsat {B B' : Nat} {g g' : Option Nat} {w w' : World} (h : FrKept B g w B' g' w') : ∀ (l : List T) (rows : List Value), TsAt (fresh B g w) l rows → TsAt (fresh B' g' w') l rows
  | [], rows, ht => by unfold TsAt at ht ⊢; exact ht
  | x :: l, rows, ht => by
    unfold TsAt at ht ⊢
    obtain ⟨c, r, rfl, hc, hx, hr⟩ := ht
    exact ⟨c, r, rfl, hc, h.tat hx, FrKept.tsat h l r hr⟩
theorem cell_lt {w : World} {k o : Nat} {u : Value} (h : w.cell? ⟨k, o, none⟩ = some u) : k < w.heap.size := World.block_lt_of_cell? w ⟨k, o, none⟩ h
/-- Only b turned, and b is blanked. -/
theorem FrKept.of_kept {B b : Nat} {g : Option Nat} {w w' : World} (h : Kept [b] w w') (hb : b < B) : FrKept B g w B g w' :=
  ⟨h.size, fun k o u h1 h2 h3 => ⟨h1, h2, by rw [World.cell?_of_block (a := ⟨k, o, none⟩) (h.block k (cell_lt h3) (by simp; omega))]; exact h3⟩⟩
/-- More is blanked in the first world. -/
theorem FrKept.wider {B B' : Nat} {w : World} {g : Option Nat} (h : B' ≤ B) (hg : ∀ k, g = some k → k < B) : FrKept B none w B' g w :=
  ⟨Nat.le_refl _, fun k o u h1 _ h3 => ⟨by omega, fun e => by have := hg k e; omega, h3⟩⟩
/-- The row grew: in its place, or in a new block. -/
theorem FrKept.grown {B : Nat} {v v' : Value} {w w' : World} (h : w.grownBy w' v.ownBlock) (h2 : v'.ownBlock = v.ownBlock ∨ v'.ownBlock = some w.heap.size) : FrKept B v.ownBlock w B v'.ownBlock w' :=
  ⟨h.size, fun k o u h1 hg h3 => ⟨h1, fun e => by
    rcases h2 with h2 | h2
    · exact hg (by rw [← h2, e])
    · rw [e] at h2
      have := cell_lt h3
      simp only [Option.some.injEq] at h2
      omega, by rw [World.cell?_of_block (a := ⟨k, o, none⟩) (h.block k (cell_lt h3) (fun e => hg e.symm))]; exact h3⟩⟩
theorem FrKept.alloc {B : Nat} {g : Option Nat} (w : World) (x : Obj) : FrKept B g w B g (w.alloc x) :=
  ⟨by simp, fun k o u h1 h2 h3 => ⟨h1, h2, by rw [World.cell?_of_block (a := ⟨k, o, none⟩) (heap_alloc_old w x (cell_lt h3))]; exact h3⟩⟩
/-- A new row. -/
theorem FrKept.newRow {B : Nat} (w : World) (x : Obj) : FrKept B none w B (some w.heap.size) (w.alloc x) :=
  ⟨by simp, fun k o u h1 h2 h3 => ⟨h1, fun e => by have := cell_lt h3; simp only [Option.some.injEq] at e; omega, by rw [World.cell?_of_block (a := ⟨k, o, none⟩) (heap_alloc_old w x (cell_lt h3))]; exact h3⟩⟩
theorem FrKept.drop {B : Nat} {g : Option Nat} (w : World) : FrKept B g w B none w := ⟨Nat.le_refl _, fun k o u h1 h2 h3 => ⟨h1, by simp, h3⟩⟩
theorem FrKept.trans {B B' B'' : Nat} {g g' g'' : Option Nat} {w w' w'' : World} (h : FrKept B g w B' g' w') (h2 : FrKept B' g' w' B'' g'' w'') : FrKept B g w B'' g'' w'' :=
  ⟨Nat.le_trans h.1 h2.1, fun k o u a b c => by obtain ⟨d, e, f⟩ := h.2 k o u a b c; exact h2.2 k o u d e f⟩
theorem FrKept.drewN {B : Nat} {g : Option Nat} (w : World) (n : Nat) : FrKept B g w B g (w.drewN n) := ⟨Nat.le_refl _, fun k o u h1 h2 h3 => ⟨h1, h2, h3⟩⟩
/-- A cell of an old block, or of the blanked one, turned. -/
theorem FrKept.setOld {B : Nat} {g : Option Nat} (w : World) (b o : Nat) (v : Value) (h : b < B ∨ g = some b) : FrKept B g w B g (w.setCell ⟨b, o, none⟩ v) := by
  refine ⟨by simp, fun k o' u h1 h2 h3 => ⟨h1, h2, ?_⟩⟩
  have hk : k ≠ b := by
    intro e
    subst e
    rcases h with h | h
    · omega
    · exact h2 h
  rw [World.cell?_of_block (a := ⟨k, o', none⟩) (heap_setCell_other w ⟨b, o, none⟩ k v hk)]
  exact h3
/-- A row that the call owns, in the world whose old blocks are blanked. -/
theorem Sl.of_own_fresh {k base e : Nat} {w : World} {v : Value} {n : Nat} {xs : List Value} (h : w.ownsRow base e k v n xs) : Sl k (fresh base none w) v n xs := by
  refine ⟨h.1, ?_⟩
  rcases h.2 with ⟨rfl, hn⟩ | ⟨g, cap, cur, rfl, hb, hg, hnc, hcm, hcs, htake⟩
  · exact .inl ⟨hn, none, 0, rfl⟩
  · by_cases hn : n = 0
    · subst hn; exact .inl ⟨rfl, _, _, rfl⟩
    · refine .inr ⟨g, 0, cap, rfl, by omega, hnc, hcm, by rw [fresh_size]; exact (Array.getElem?_eq_some_iff.1 hg).1, fun i u hu => fresh_cell.2 ⟨hb, by simp, ?_⟩⟩
      rw [Nat.zero_add, cell_of_row _ _ _ _ _ _ hg]
      rw [← htake, List.getElem?_take] at hu
      split at hu
      · simpa using hu
      · cases hu
theorem TAt.unfresh {B : Nat} {g : Option Nat} {w : World} {X : T} {cs : List Value} (h : TAt (fresh B g w) X cs) : TAt w X cs :=
  TAt.mono (fun _ _ _ hu => (fresh_cell.1 hu).2.2) (by rw [fresh_size]; exact Nat.le_refl _) _ X (Nat.lt_succ_self _) cs h
theorem Sl.unfresh {k B : Nat} {g : Option Nat} {w : World} {v : Value} {n : Nat} {xs : List Value} (h : Sl k (fresh B g w) v n xs) : Sl k w v n xs :=
  h.mono (fun _ _ _ hu => (fresh_cell.1 hu).2.2) (by rw [fresh_size]; exact Nat.le_refl _)
theorem Sl.fr {k B B' : Nat} {g g' : Option Nat} {w w' : World} {v : Value} {n : Nat} {xs : List Value} (h : FrKept B g w B' g' w') (hs : Sl k (fresh B g w) v n xs) : Sl k (fresh B' g' w') v n xs :=
  hs.mono h.cells (by rw [fresh_size, fresh_size]; exact h.1)
theorem TsAt.unfresh {B : Nat} {g : Option Nat} {w : World} : ∀ (l : List T) (rows : List Value), TsAt (fresh B g w) l rows → TsAt w l rows
  | [], rows, h => by unfold TsAt at h ⊢; exact h
  | x :: l, rows, h => by
    unfold TsAt at h ⊢
    obtain ⟨c, r, rfl, hc, hx, hr⟩ := h
    exact ⟨c, r, rfl, hc, hx.unfresh, TsAt.unfresh l r hr⟩

/-- Parts behind a first one, a sign before each. -/
def tailB (s : List UInt8) (l : List (List UInt8)) : List UInt8 := l.flatMap fun p => s ++ p
theorem tailB_cons (s p : List UInt8) (l : List (List UInt8)) : tailB s (p :: l) = s ++ (p ++ tailB s l) := by simp [tailB]
theorem joinB_tail (s p : List UInt8) : ∀ l : List (List UInt8), joinB s (p :: l) = p ++ tailB s l
  | [] => by simp [joinB, tailB]
  | q :: r => by
    show p ++ s ++ joinB s (q :: r) = _
    rw [joinB_tail s q r, tailB_cons]
    simp
/-- An item of a list of tests, in brackets where it needs them. -/
def itm (k : T) : List UInt8 := T.kid 4 k
theorem itm_kid (op : Int) (k : T) (h : op ≠ 3) : T.kid op k = itm k := by
  unfold itm T.kid
  by_cases h3 : k.op = 3
  · rw [if_pos ⟨h3, h⟩, if_pos ⟨h3, by decide⟩]
  · rw [if_neg (fun e => h3 e.1), if_neg (fun e => h3 e.1)]
theorem itm_some (k : T) (h : k.op ≠ 3) : T.kid 3 k = itm k := by
  unfold itm T.kid
  rw [if_neg (fun e => h e.1), if_neg (fun e => h e.1)]
theorem itm_txt (k : T) (h : k.op ≠ 3) : itm k = T.txt k := by
  unfold itm T.kid
  rw [if_neg (fun e => h e.1)]
end Mh
