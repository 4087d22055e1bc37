/- lang.ReadRule: what stands in its loop. Conditions: as stated. -/
import Derived.Test.YtgfoangacbajlaaDoorRuRp
import Derived.Test.YtgfoangacbajlaaDoorRuI
import Derived.Test.YtgfoangacbajlaaDoorRuAp
namespace Go.Proofs.YtgfoangacbajlaaDoor
open Go.RowKit Mh
set_option linter.unusedVariables false

theorem mask_cell_of {o k j : Nat} {w : World} {u : Value} (h : w.cell? ⟨k, j, none⟩ = some u) (hk : k ≠ o) : (mask o w).cell? ⟨k, j, none⟩ = some u := by
  rw [World.cell?_of_block (a := ⟨k, j, none⟩) (mask_block w hk)]; exact h
theorem mask_cell_ne {o k j : Nat} {w : World} {u : Value} (h : (mask o w).cell? ⟨k, j, none⟩ = some u) : k ≠ o := by
  intro e
  subst e
  have hl := cell_lt h
  rw [mask_size] at hl
  have := mask_self w hl
  unfold World.cell? at h
  rw [this] at h
  simp at h
theorem _root_.Mh.FrKept.masked {B B' : Nat} {g g' : Option Nat} {w w' : World} (o : Nat) (h : FrKept B g w B' g' w') : FrKept B g (mask o w) B' g' (mask o w') :=
  ⟨by rw [mask_size, mask_size]; exact h.1, fun k j u h1 h2 h3 => by
    obtain ⟨a, b, c⟩ := h.2 k j u h1 h2 (mask_cell h3)
    exact ⟨a, b, mask_cell_of c (mask_cell_ne h3)⟩⟩
/-- The masked block lies below all that is kept. -/
theorem _root_.Mh.FrKept.intoMask {B : Nat} {g : Option Nat} {w : World} (o : Nat) (h : o < B) : FrKept B g w B g (mask o w) :=
  ⟨by rw [mask_size]; exact Nat.le_refl _, fun k j u h1 h2 h3 => ⟨h1, h2, mask_cell_of h3 (by omega)⟩⟩
theorem _root_.Mh.FrKept.setMask {B : Nat} {g : Option Nat} (w : World) (o j : Nat) (v : Value) : FrKept B g (mask o w) B g (mask o (w.setCell ⟨o, j, none⟩ v)) :=
  ⟨by rw [mask_size, mask_size]; simp, fun k i u h1 h2 h3 => ⟨h1, h2, by
    have hk := mask_cell_ne h3
    refine mask_cell_of ?_ hk
    rw [World.cell?_of_block (a := ⟨k, i, none⟩) (heap_setCell_other w ⟨o, j, none⟩ k v hk)]
    exact mask_cell h3⟩⟩
theorem _root_.Mh.FrKept.outMask {B : Nat} {g : Option Nat} (w : World) (o : Nat) : FrKept B g (mask o w) B g w :=
  ⟨by rw [mask_size]; exact Nat.le_refl _, fun k j u h1 h2 h3 => ⟨h1, h2, mask_cell h3⟩⟩
/-- What stands in ReadRule's loop: the reader in b, the rule in o, j forms read. -/
structure RdIn (b o : Nat) (s : ByteArray) (W : World) (L : List T) (j : Nat) (rows : List Value) (v : Value) (wr : World) : Prop where
  one : 1 ≤ j
  le : j ≤ L.length
  own : wr.ownsRow W.heap.size 42 5 v j rows
  ne : v.ownBlock ≠ some o
  at_ : TsAt (fresh W.heap.size v.ownBlock (mask o wr)) (L.take j) rows
  sr : SR b s (tailB sSemi ((L.drop j).map T.txt)) wr
  kept : Kept [b] W wr
  cell : wr.heap[o]? = some (.cells #[v] 24 (0, 0))
  lo : W.heap.size ≤ o
theorem RdIn.more {b o : Nat} {s : ByteArray} {W : World} {L : List T} {j : Nat} {rows : List Value} {v : Value} {wr : World} (h : RdIn b o s W L j rows v wr) (hj : j < L.length) :
    SR b s (sSemi ++ (T.txt L[j] ++ tailB sSemi ((L.drop (j + 1)).map T.txt))) wr := by
  have := h.sr
  rw [List.drop_eq_getElem_cons hj, List.map_cons, tailB_cons] at this
  exact this
theorem RdIn.olt {b o : Nat} {s : ByteArray} {W : World} {L : List T} {j : Nat} {rows : List Value} {v : Value} {wr : World} (h : RdIn b o s W L j rows v wr) : o < wr.heap.size := (Array.getElem?_eq_some_iff.1 h.cell).1
theorem RdIn.step {b o : Nat} {s : ByteArray} {W : World} {L : List T} {j : Nat} {rows row : List Value} {v v' : Value} {wr w2 w3 w' : World} {ob : Obj} (h : RdIn b o s W L j rows v wr) (hb : b < W.heap.size) (hj : j < L.length)
    (hK2 : Kept [b] wr w2) (hK3 : Kept [b] wr w3) (hT3 : TAt (fresh w2.heap.size none w3) L[j] row) (hS3 : SR b s (tailB sSemi ((L.drop (j + 1)).map T.txt)) w3)
    (hown' : w'.ownsRow W.heap.size 42 5 v' (j + 1) (rows ++ row)) (hgr : (w3.alloc ob).grownBy w' v.ownBlock) (hat : v'.ownBlock = v.ownBlock ∨ v'.ownBlock = some (w3.alloc ob).heap.size) :
    RdIn b o s W L (j + 1) (rows ++ row) v' (w'.setCell ⟨o, 0, none⟩ v') := by
  have hol := own_lt h.own
  have holt := h.olt
  have hlo := h.lo
  have hz3 : W.heap.size ≤ w3.heap.size := Nat.le_trans h.kept.size hK3.size
  have ho3 : o < w3.heap.size := Nat.lt_of_lt_of_le holt hK3.size
  have hne : ∀ k, k < W.heap.size → some k ≠ v.ownBlock := fun k hk e => by have := hol k e.symm; omega
  have hcell' : w'.heap[o]? = some (.cells #[v] 24 (0, 0)) := by
    rw [hgr.block o (by simp; omega) (fun e => h.ne e.symm), heap_alloc_old _ _ ho3, hK3.block o holt (by simp; omega)]
    exact h.cell
  have hne' : v'.ownBlock ≠ some o := by
    rcases hat with e | e
    · rw [e]; exact h.ne
    · rw [e]; simp; omega
  have hfs : ∀ g, FrKept W.heap.size g (mask o w') W.heap.size g (mask o (w'.setCell ⟨o, 0, none⟩ v')) := fun g => FrKept.setMask w' o 0 v'
  have hown2 : (w'.setCell ⟨o, 0, none⟩ v').ownsRow W.heap.size 42 5 v' (j + 1) (rows ++ row) := by
    refine ⟨hown'.1, ?_⟩
    rcases hown'.2 with h2 | ⟨g, cap, cur, rfl, hbg, hg, h4⟩
    · exact .inl h2
    · exact .inr ⟨g, cap, cur, rfl, hbg, (heap_setCell_other w' ⟨o, 0, none⟩ g _ (by intro e; apply hne'; simp [Value.ownBlock]; exact e)).trans hg, h4⟩
  refine ⟨by omega, by omega, hown2, hne', ?_, ?_, ?_, ?_, hlo⟩
  · rw [List.take_succ_eq_append_getElem hj]
    refine TsAt.append _ _ _ _ ?_ (TsAt.one ?_)
    · exact ((((FrKept.of_kept hK3 hb).trans (FrKept.alloc w3 ob)).trans (FrKept.grown hgr hat)).masked o |>.trans (hfs _)).tsat _ _ h.at_
    · have hm : FrKept w2.heap.size none w3 w2.heap.size none (mask o w3) := FrKept.intoMask o (Nat.lt_of_lt_of_le holt hK2.size)
      have hw : FrKept w2.heap.size none (mask o w3) W.heap.size v.ownBlock (mask o w3) := FrKept.wider (Nat.le_trans h.kept.size hK2.size) (fun k e => by have := hol k e; have := hK2.size; omega)
      exact ((hm.trans hw).trans ((((FrKept.alloc w3 ob).trans (FrKept.grown hgr hat)).masked o).trans (hfs _))).tat hT3
  · have hlt := hS3.lt
    exact ((hS3.alloc ob).block (hgr.block b (by simp; omega) (hne b hb))).set o 0 v' (by omega)
  · have hk := (h.kept.trans hK3).alloc ob
    have hk' : Kept [b] W w' := ⟨hgr.os.trans hk.os, hgr.tape.trans hk.tape, hgr.output.trans hk.output, Nat.le_trans hk.size hgr.size, fun k hk1 hk2 => (hgr.block k (by have := hk.size; omega) (hne k hk1)).trans (hk.block k hk1 hk2)⟩
    exact hk'.setNew o 0 hlo v'
  · exact heap_setCell_same w' _ 0 _ _ _ hcell'
end Go.Proofs.YtgfoangacbajlaaDoor
