/- What a clone's loop leaves; rows of values that grow (plain steps). -/
import Derived.Test.YtejnoedlfbglcaaGreatDoorKeK
import Derived.Test.YtejnoedlfbglcaaGreatDoorKeP6
import Derived.Test.YtejnoedlfbglcaaGreatDoorApSl
namespace Go.Proofs.YtejnoedlfbglcaaGreatDoor
open Go.RowKit Mh
set_option linter.unusedVariables false

theorem infoValue : (Tryz.prog.info? 29).map (fun i => (i.zero, i.size, i.bytes)) = some (some (.agg #[.int .i64 0, .bool false, .int .i64 0, .string ⟨#[]⟩, .slice none 0 0, .slice none 0 0]), 6, 88) := by kernel_rfl
theorem infoStr : (Tryz.prog.info? 9).map (fun i => (i.zero, i.size, i.bytes)) = some (some (.string ⟨#[]⟩), 1, 16) := by kernel_rfl
theorem _root_.Mh.own_below {w w' : World} {base e k : Nat} {v : Value} {n : Nat} {xs : List Value} (h : w.ownsRow base e k v n xs) (hb : Below w.heap.size w w') : w'.ownsRow base e k v n xs := by
  refine ⟨h.1, ?_⟩
  rcases h.2 with h2 | ⟨g, cap, cur, rfl, hbg, hg, h4⟩
  · exact .inl h2
  · exact .inr ⟨g, cap, cur, rfl, hbg, (hb.block g (Array.getElem?_eq_some_iff.1 hg).1).trans hg, h4⟩
theorem _root_.Mh.own_setLow {w : World} {base e k n b o : Nat} {v u : Value} {xs : List Value} (h : w.ownsRow base e k v n xs) (hb : b < base) : (w.setCell ⟨b, o, none⟩ u).ownsRow base e k v n xs := by
  refine ⟨h.1, ?_⟩
  rcases h.2 with h2 | ⟨g, cap, cur, rfl, hbg, hg, h4⟩
  · exact .inl h2
  · exact .inr ⟨g, cap, cur, rfl, hbg, (heap_setCell_other w ⟨b, o, none⟩ g u (by show g ≠ b; omega)).trans hg, h4⟩
/-- One element in a new block. -/
theorem _root_.Mh.Sl.lit (w : World) (cs : List Value) (e k : Nat) (hk : cs.length = k) : Sl k (w.alloc (.cells cs.toArray e)) (.slice (some ⟨w.heap.size, 0, none⟩) 1 1) 1 cs := by
  refine ⟨by omega, .inr ⟨w.heap.size, 0, 1, rfl, by omega, by omega, by unfold maxLen; omega, by simp, fun i u hu => ?_⟩⟩
  rw [Nat.zero_add, cell_of_row _ _ _ _ _ _ (heap_alloc_new w _)]
  simpa using hu
def lowS (w : World) (n k : Nat) : Bool := decide (k < w.heap.size + n)
structure CloneIn (X : V) (ia : Option Addr) (ic : Nat) (ka : Option Addr) (kc : Nat) (w wr : World) (j : Nat) (v : Value) (rows : List Value) : Prop where
  le : j ≤ X.its.length
  own : wr.ownsRow (w.heap.size + 2) 29 6 v j rows
  at_ : VsAt (veil (own1 (lowS w 2) v) wr) (X.its.take j) rows
  keys : Ss (veil (own1 (lowS w 2) v) wr) (.slice ka X.kys.length kc) X.kys
  bx : wr.heap[w.heap.size]? = some (box6 X ia ic ka kc)
  b0 : wr.heap[w.heap.size + 1]? = some box0
  below : Below w.heap.size w wr
  size : w.heap.size + 2 ≤ wr.heap.size
theorem CloneIn.step {X : V} {ia ka : Option Addr} {ic kc : Nat} {w wr w1 w2 w3 : World} {j : Nat} {v v' : Value} {rows ds : List Value} {ob : Obj} (h : CloneIn X ia ic ka kc w wr j v rows) (hj : j < X.its.length)
    (h1 : Below wr.heap.size wr w1) (h2 : Below w1.heap.size w1 w2) (hds : VAt (veil (fun k => decide (k < w1.heap.size)) w2) X.its[j] ds)
    (hown : w3.ownsRow (w.heap.size + 2) 29 6 v' (j + 1) (rows ++ ds)) (hgr : (w2.alloc ob).grownBy w3 v.ownBlock) (hat : v'.ownBlock = v.ownBlock ∨ v'.ownBlock = some (w2.alloc ob).heap.size) :
    CloneIn X ia ic ka kc w w3 (j + 1) v' (rows ++ ds) := by
  have hol := h.own.lt
  have hsz := h.size
  have hs1 := h1.size
  have hs2 := h2.size
  have hb : Below wr.heap.size wr (w2.alloc ob) := (h1.trans (h2.mono hs1)).alloc (by omega) _
  have hne : ∀ k, k < w.heap.size + 2 → some k ≠ v.ownBlock := fun k hk e => by have := (hol k e.symm).1; omega
  have hK : Keeps (veil (own1 (lowS w 2) v) wr) (veil (own1 (lowS w 2) v') w3) := (Keeps.belows hb).trans (Keeps.grown hgr hat)
  refine ⟨by omega, hown, ?_, h.keys.keeps hK, ?_, ?_, ?_, ?_⟩
  · rw [List.take_succ_eq_append_getElem hj]
    refine (h.at_.keeps hK).append (VsAt.one ?_)
    refine hds.keeps (Keeps.trans (Keeps.veils (w' := w2.alloc ob) (S' := own1 (lowS w 2) v) (by simp) fun k hk hs => ⟨?_, heap_alloc_old _ _ hk⟩) (Keeps.grown hgr hat))
    simp at hs
    rw [own1_false]
    exact ⟨by simp [lowS]; omega, fun e => by have := (hol k e).2; omega⟩
  · rw [hgr.block _ (by simp; omega) (hne _ (by omega)), hb.block _ (by omega)]; exact h.bx
  · rw [hgr.block _ (by simp; omega) (hne _ (by omega)), hb.block _ (by omega)]; exact h.b0
  · exact (h.below.trans (hb.mono (by omega))).grown hgr (by simp; omega) fun k hk => by have := (hol k hk).1; omega
  · have := hgr.size; simp at this; omega
theorem _root_.Mh.own_put6Low {w : World} {base e k n g : Nat} {v a b c d x y : Value} {xs : List Value} (h : w.ownsRow base e k v n xs) (hb : g < base) : (put6 w g a b c d x y).ownsRow base e k v n xs := by
  unfold put6
  exact own_setLow (own_setLow (own_setLow (own_setLow (own_setLow (own_setLow h hb) hb) hb) hb) hb) hb
theorem CloneIn.done_ {X : V} {ia ka va : Option Addr} {ic kc vc : Nat} {w wr : World} {rows : List Value} (h : CloneIn X ia ic ka kc w wr X.its.length (.slice va X.its.length vc) rows) (a b c d e f : Value) (hwf : (Lit.int .i64 X.kd).wf = true ∧ (Lit.int .i64 X.nu).wf = true ∧ X.tx.size ≤ maxLen) :
    VAt (veil (fun k => decide (k < w.heap.size)) (put6 (wr.setCell ⟨w.heap.size, 4, none⟩ (.slice va X.its.length vc)) (w.heap.size + 1) a b c d e f)) X (vcs X va vc ka kc) := by
  have hK : Keeps (veil (own1 (lowS w 2) (.slice va X.its.length vc)) wr) (veil (fun k => decide (k < w.heap.size)) (put6 (wr.setCell ⟨w.heap.size, 4, none⟩ (.slice va X.its.length vc)) (w.heap.size + 1) a b c d e f)) := by
    refine Keeps.veils (by rw [put6_size]; simp) fun k hk hs => ?_
    have h1 := (own1_false.1 hs).1
    simp [lowS] at h1
    refine ⟨by simp; omega, ?_⟩
    rw [put6_other (by omega), heap_setCell_other _ _ _ _ (by simp; omega)]
  refine VAt.made hwf.1 hwf.2.1 hwf.2.2 (h.keys.keeps hK) (Sl.of_own_veil (own_put6Low (own_setLow h.own (by omega)) (by omega)) (by decide) fun b hb => by simp; omega) ?_
  have := h.at_.keeps hK
  rwa [List.take_length] at this
theorem six_ones (X : V) (ia : Option Addr) (ic : Nat) (ka : Option Addr) (kc : Nat) : ∀ u ∈ vcs X ia ic ka kc, u.oneCell' = true := by simp [vcs, Value.oneCell']
theorem str_ones (l : List ByteArray) : ∀ u ∈ l.map Value.string, u.oneCell' = true := by
  intro u hu
  obtain ⟨s, _, rfl⟩ := List.mem_map.1 hu
  rfl
end Go.Proofs.YtejnoedlfbglcaaGreatDoor
