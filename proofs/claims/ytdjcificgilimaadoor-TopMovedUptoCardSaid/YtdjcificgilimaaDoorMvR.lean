/- The two rows of redirects that ship.Moved grows. No conditions but those stated. -/
import Derived.Test.YtdjcificgilimaaDoorMvS
namespace Go.Proofs.YtdjcificgilimaaDoor
open Go.RowKit Mh
set_option linter.unusedVariables false
theorem _root_.Mh.own_belowM {w w' : World} {base e k : Nat} {v : Value} {n : Nat} {xs : List Value} (h : w.ownsRow base e k v n xs) (hb : Below w.heap.size w w') : w'.ownsRow base e k v n xs := by
  refine ⟨h.1, ?_⟩
  rcases h.2 with h2 | ⟨g, cap, cur, rfl, hbg, hg, h4⟩
  · exact .inl h2
  · exact .inr ⟨g, cap, cur, rfl, hbg, (hb.block g (Array.getElem?_eq_some_iff.1 hg).1).trans hg, h4⟩
theorem _root_.Mh.own_setLowM {w : World} {base e k n b o : Nat} {v u : Value} {xs : List Value} (h : w.ownsRow base e k v n xs) (hb : b < base) : (w.setCell ⟨b, o, none⟩ u).ownsRow base e k v n xs := by
  refine ⟨h.1, ?_⟩
  rcases h.2 with h2 | ⟨g, cap, cur, rfl, hbg, hg, h4⟩
  · exact .inl h2
  · exact .inr ⟨g, cap, cur, rfl, hbg, (heap_setCell_other w ⟨b, o, none⟩ g u (by show g ≠ b; omega)).trans hg, h4⟩
theorem _root_.Mh.own_apartM {w w2 : World} {base e k n : Nat} {v u : Value} {xs : List Value} (h : w.ownsRow base e k v n xs) (hg : w.grownBy w2 u.ownBlock) (hne : ∀ q, u.ownBlock = some q → v.ownBlock ≠ some q) : w2.ownsRow base e k v n xs := by
  refine ⟨h.1, ?_⟩
  rcases h.2 with h2 | ⟨g, cap, cur, rfl, hb, hgk, h4⟩
  · exact .inl h2
  · have hlt : g < w.heap.size := (Array.getElem?_eq_some_iff.1 hgk).1
    exact .inr ⟨g, cap, cur, rfl, hb, (hg.block g hlt (fun e => hne g e.symm rfl)).trans hgk, h4⟩
/-- The good ones, held by block D, and the left ones: two rows of the call's own. -/
structure RdAt (w : World) (D : Nat) (gv lv : Value) (gs ls : List O) : Prop where
  bd : w.heap[D]? = some (.cells #[gv] 23 (0, 0))
  og : w.ownsRow (D + 1) 29 2 gv gs.length (rowsO gs)
  ol : w.ownsRow (D + 1) 29 2 lv ls.length (rowsO ls)
  ne : ∀ k, gv.ownBlock = some k → lv.ownBlock ≠ some k
theorem RdAt.hi {w : World} {D : Nat} {gv lv : Value} {gs ls : List O} (h : RdAt w D gv lv gs ls) : D < w.heap.size := (Array.getElem?_eq_some_iff.1 h.bd).1
theorem RdAt.on {w w' : World} {D : Nat} {gv lv : Value} {gs ls : List O} (h : RdAt w D gv lv gs ls) (hb : Below w.heap.size w w') : RdAt w' D gv lv gs ls :=
  ⟨(hb.block _ h.hi).trans h.bd, own_belowM h.og hb, own_belowM h.ol hb, h.ne⟩
theorem RdAt.goodUp {w w2 : World} {D : Nat} {gv lv gv' : Value} {gs ls : List O} (h : RdAt w D gv lv gs ls) (o : O)
    (hown : w2.ownsRow (D + 1) 29 2 gv' (gs.length + 1) (rowsO gs ++ [.string o.p, .string o.b])) (hg : w.grownBy w2 gv.ownBlock) (hat : gv'.ownBlock = gv.ownBlock ∨ gv'.ownBlock = some w.heap.size) :
    RdAt (w2.setCell ⟨D, 0, none⟩ gv') D gv' lv (gs ++ [o]) ls ∧ Below D w (w2.setCell ⟨D, 0, none⟩ gv') := by
  have hD := h.hi
  have hlt : ∀ k, gv.ownBlock = some k → D + 1 ≤ k ∧ k < w.heap.size := fun k hk => h.og.lt k hk
  have hlo : ∀ k, lv.ownBlock = some k → D + 1 ≤ k ∧ k < w.heap.size := fun k hk => h.ol.lt k hk
  have hbd : w2.heap[D]? = some (.cells #[gv] 23 (0, 0)) := (hg.block D hD (fun e => by have := hlt D e.symm; omega)).trans h.bd
  refine ⟨⟨heap_setCell_same _ _ 0 _ _ _ hbd, ?_, own_setLowM (own_apartM h.ol hg h.ne) (by omega), ?_⟩, ?_⟩
  · rw [List.length_append, rowsO_app]; exact own_setLowM hown (by omega)
  · intro k hk
    rcases hat with e | e
    · rw [e] at hk; exact h.ne k hk
    · rw [e] at hk; cases hk
      intro e2
      have := (hlo _ e2).2
      omega
  · exact ((Below.refl D w).grown hg (by omega) (fun k hk => by have := hlt k hk; omega)).setCell (Nat.le_refl _) _
theorem RdAt.leftUp {w w2 : World} {D : Nat} {gv lv lv' : Value} {gs ls : List O} (h : RdAt w D gv lv gs ls) (o : O)
    (hown : w2.ownsRow (D + 1) 29 2 lv' (ls.length + 1) (rowsO ls ++ [.string o.p, .string o.b])) (hg : w.grownBy w2 lv.ownBlock) (hat : lv'.ownBlock = lv.ownBlock ∨ lv'.ownBlock = some w.heap.size) :
    RdAt w2 D gv lv' gs (ls ++ [o]) ∧ Below D w w2 := by
  have hD := h.hi
  have hlt : ∀ k, lv.ownBlock = some k → D + 1 ≤ k ∧ k < w.heap.size := fun k hk => h.ol.lt k hk
  have hlo : ∀ k, gv.ownBlock = some k → D + 1 ≤ k ∧ k < w.heap.size := fun k hk => h.og.lt k hk
  have hbd : w2.heap[D]? = some (.cells #[gv] 23 (0, 0)) := (hg.block D hD (fun e => by have := hlt D e.symm; omega)).trans h.bd
  refine ⟨⟨hbd, own_apartM h.og hg (fun q hq e => h.ne q e hq), ?_, ?_⟩, ?_⟩
  · rw [List.length_append, rowsO_app]; exact hown
  · intro k hk
    rcases hat with e | e
    · rw [e]; exact h.ne k hk
    · rw [e]
      intro e2
      cases e2
      have := (hlo _ hk).2
      omega
  · exact (Below.refl D w).grown hg (by omega) (fun k hk => by have := hlt k hk; omega)
theorem infoRedirect2 : (Tryd.prog.info? 29).map (fun i => (i.zero, i.size, i.bytes)) = some (some (.agg #[.string ⟨#[]⟩, .string ⟨#[]⟩]), 2, 32) := by kernel_rfl
end Go.Proofs.YtdjcificgilimaaDoor
