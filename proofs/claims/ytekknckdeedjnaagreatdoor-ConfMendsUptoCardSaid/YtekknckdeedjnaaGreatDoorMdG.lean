/- The differ in memory: its two rows of changes, how they grow, what stays. No conditions but those stated. -/
import Derived.Test.YtekknckdeedjnaaGreatDoorMdE
import Derived.Test.YtekknckdeedjnaaGreatDoorKeW
namespace Go.Proofs.YtekknckdeedjnaaGreatDoor
open Go.RowKit Mh
set_option linter.unusedVariables false

/-- The differ's block and its two rows are hidden. -/
def dfS (D : Nat) (gv ov : Value) (k : Nat) : Bool := decide (k = D) || (decide (gv.ownBlock = some k) || decide (ov.ownBlock = some k))
theorem dfS_false {D : Nat} {gv ov : Value} {k : Nat} : dfS D gv ov k = false ↔ k ≠ D ∧ gv.ownBlock ≠ some k ∧ ov.ownBlock ≠ some k := by simp [dfS]
structure DfAt (w : World) (D : Nat) (gv ov : Value) (G O : List Chg) (rg ro : List Value) : Prop where
  bd : w.heap[D]? = some (.cells #[gv, ov] 53 (0, 0))
  og : w.ownsRow (D + 1) 56 8 gv G.length rg
  oo : w.ownsRow (D + 1) 56 8 ov O.length ro
  ne : ∀ k, gv.ownBlock = some k → ov.ownBlock ≠ some k
  dg : ChRows (veil (dfS D gv ov) w) G rg
  dr : ChRows (veil (dfS D gv ov) w) O ro
theorem DfAt.hi {w : World} {D : Nat} {gv ov : Value} {G O : List Chg} {rg ro : List Value} (h : DfAt w D gv ov G O rg ro) : D < w.heap.size := (Array.getElem?_eq_some_iff.1 h.bd).1
structure DfFar (D : Nat) (gv ov gv' ov' : Value) (w w' : World) : Prop where
  below : Below D w w'
  block : ∀ k, k < w.heap.size → dfS D gv ov k = false → w'.heap[k]? = w.heap[k]?
  g : gv'.ownBlock = gv.ownBlock ∨ ∃ k, gv'.ownBlock = some k ∧ w.heap.size ≤ k
  o : ov'.ownBlock = ov.ownBlock ∨ ∃ k, ov'.ownBlock = some k ∧ w.heap.size ≤ k
theorem DfFar.hid {D : Nat} {gv ov gv' ov' : Value} {w w' : World} (h : DfFar D gv ov gv' ov' w w') {k : Nat} (hk : k < w.heap.size) (hs : dfS D gv ov k = false) : dfS D gv' ov' k = false := by
  rw [dfS_false] at hs ⊢
  refine ⟨hs.1, fun e => ?_, fun e => ?_⟩
  · rcases h.g with h1 | ⟨j, h1, h2⟩
    · rw [h1] at e; exact hs.2.1 e
    · rw [h1] at e; cases e; omega
  · rcases h.o with h1 | ⟨j, h1, h2⟩
    · rw [h1] at e; exact hs.2.2 e
    · rw [h1] at e; cases e; omega
theorem DfFar.keeps {D : Nat} {gv ov gv' ov' : Value} {w w' : World} (h : DfFar D gv ov gv' ov' w w') : Keeps (veil (dfS D gv ov) w) (veil (dfS D gv' ov') w') :=
  Keeps.veils h.below.size fun k hk hs => ⟨h.hid hk hs, h.block k hk hs⟩
theorem DfFar.trans {D : Nat} {gv ov gv' ov' gv2 ov2 : Value} {w w' w2 : World} (h : DfFar D gv ov gv' ov' w w') (k : DfFar D gv' ov' gv2 ov2 w' w2) : DfFar D gv ov gv2 ov2 w w2 := by
  have hz := h.below.size
  refine ⟨h.below.trans k.below, fun q hq hs => (k.block q (by omega) (h.hid hq hs)).trans (h.block q hq hs), ?_, ?_⟩
  · rcases k.g with h1 | ⟨j, h1, h2⟩
    · rw [h1]; exact h.g
    · exact .inr ⟨j, h1, by omega⟩
  · rcases k.o with h1 | ⟨j, h1, h2⟩
    · rw [h1]; exact h.o
    · exact .inr ⟨j, h1, by omega⟩
theorem DfFar.of_below {D : Nat} {gv ov : Value} {w w' : World} (hD : D ≤ w.heap.size) (hb : Below w.heap.size w w') : DfFar D gv ov gv ov w w' :=
  ⟨hb.mono hD, fun k hk _ => hb.block k hk, .inl rfl, .inl rfl⟩
theorem DfAt.on {w w' : World} {D : Nat} {gv ov : Value} {G O : List Chg} {rg ro : List Value} (h : DfAt w D gv ov G O rg ro) (hb : Below w.heap.size w w') : DfAt w' D gv ov G O rg ro :=
  ⟨(hb.block _ h.hi).trans h.bd, own_below' h.og hb, own_below' h.oo hb, h.ne, h.dg.keeps (Keeps.belows hb), h.dr.keeps (Keeps.belows hb)⟩
/-- A row that is apart stays where another one grows. -/
theorem own_apart {w w2 : World} {base e k n : Nat} {v u : Value} {xs : List Value} (h : w.ownsRow base e k v n xs) (hg : w.grownBy w2 u.ownBlock) (hne : ∀ q, u.ownBlock = some q → v.ownBlock ≠ some q) : w2.ownsRow base e k v n xs := by
  refine ⟨h.1, ?_⟩
  rcases h.2 with h2 | ⟨g, cap, cur, rfl, hb, hgk, h4⟩
  · exact .inl h2
  · have hlt : g < w.heap.size := (Array.getElem?_eq_some_iff.1 hgk).1
    exact .inr ⟨g, cap, cur, rfl, hb, (hg.block g hlt (fun e => hne g e.symm rfl)).trans hgk, h4⟩
/-- One more change that is gone. -/
theorem DfAt.goneUp {w w2 : World} {D : Nat} {gv ov gv' : Value} {G O : List Chg} {rg ro : List Value} (h : DfAt w D gv ov G O rg ro) {c : Chg} {ia ka : Option Addr} {ic kc : Nat} (hc : ChIn (veil (dfS D gv ov) w) c ia ic ka kc)
    (hown : w2.ownsRow (D + 1) 56 8 gv' (G.length + 1) (rg ++ chc c ia ic ka kc)) (hg : w.grownBy w2 gv.ownBlock) (hat : gv'.ownBlock = gv.ownBlock ∨ gv'.ownBlock = some w.heap.size) :
    DfAt (w2.setCell ⟨D, 0, none⟩ gv') D gv' ov (G ++ [c]) O (rg ++ chc c ia ic ka kc) ro ∧ DfFar D gv ov gv' ov w (w2.setCell ⟨D, 0, none⟩ gv') := by
  have hD := h.hi
  have hlt : ∀ k, gv.ownBlock = some k → D + 1 ≤ k ∧ k < w.heap.size := fun k hk => h.og.lt k hk
  have hlo : ∀ k, ov.ownBlock = some k → D + 1 ≤ k ∧ k < w.heap.size := fun k hk => h.oo.lt k hk
  have hfar : DfFar D gv ov gv' ov w (w2.setCell ⟨D, 0, none⟩ gv') := by
    refine ⟨?_, fun k hk hs => ?_, ?_, .inl rfl⟩
    · exact ((Below.refl D w).grown hg (by omega) (fun k hk => by have := hlt k hk; omega)).setCell (Nat.le_refl _) _
    · rw [dfS_false] at hs
      rw [heap_setCell_other _ _ _ _ (show k ≠ D from hs.1)]
      exact hg.block k hk (fun e => hs.2.1 e.symm)
    · rcases hat with e | e
      · exact .inl e
      · exact .inr ⟨_, e, Nat.le_refl _⟩
  have hbd : w2.heap[D]? = some (.cells #[gv, ov] 53 (0, 0)) := (hg.block D hD (fun e => by have := hlt D e.symm; omega)).trans h.bd
  refine ⟨⟨heap_setCell_same _ _ 0 _ _ _ hbd, ?_, own_setLow (own_apart h.oo hg h.ne) (by omega), ?_, ?_, h.dr.keeps hfar.keeps⟩, hfar⟩
  · rw [List.length_append]; exact own_setLow hown (by omega)
  · intro k hk
    rcases hat with e | e
    · rw [e] at hk; exact h.ne k hk
    · rw [e] at hk; cases hk
      intro e2
      have := (hlo _ e2).2
      omega
  · exact (h.dg.snoc h.og.1 hc).keeps hfar.keeps
/-- One more of the others. -/
theorem DfAt.moreUp {w w2 : World} {D : Nat} {gv ov ov' : Value} {G O : List Chg} {rg ro : List Value} (h : DfAt w D gv ov G O rg ro) {c : Chg} {ia ka : Option Addr} {ic kc : Nat} (hc : ChIn (veil (dfS D gv ov) w) c ia ic ka kc)
    (hown : w2.ownsRow (D + 1) 56 8 ov' (O.length + 1) (ro ++ chc c ia ic ka kc)) (hg : w.grownBy w2 ov.ownBlock) (hat : ov'.ownBlock = ov.ownBlock ∨ ov'.ownBlock = some w.heap.size) :
    DfAt (w2.setCell ⟨D, 1, none⟩ ov') D gv ov' G (O ++ [c]) rg (ro ++ chc c ia ic ka kc) ∧ DfFar D gv ov gv ov' w (w2.setCell ⟨D, 1, none⟩ ov') := by
  have hD := h.hi
  have hlt : ∀ k, ov.ownBlock = some k → D + 1 ≤ k ∧ k < w.heap.size := fun k hk => h.oo.lt k hk
  have hlo : ∀ k, gv.ownBlock = some k → D + 1 ≤ k ∧ k < w.heap.size := fun k hk => h.og.lt k hk
  have hfar : DfFar D gv ov gv ov' w (w2.setCell ⟨D, 1, none⟩ ov') := by
    refine ⟨?_, fun k hk hs => ?_, .inl rfl, ?_⟩
    · exact ((Below.refl D w).grown hg (by omega) (fun k hk => by have := hlt k hk; omega)).setCell (Nat.le_refl _) _
    · rw [dfS_false] at hs
      rw [heap_setCell_other _ _ _ _ (show k ≠ D from hs.1)]
      exact hg.block k hk (fun e => hs.2.2 e.symm)
    · rcases hat with e | e
      · exact .inl e
      · exact .inr ⟨_, e, Nat.le_refl _⟩
  have hbd : w2.heap[D]? = some (.cells #[gv, ov] 53 (0, 0)) := (hg.block D hD (fun e => by have := hlt D e.symm; omega)).trans h.bd
  refine ⟨⟨heap_setCell_same _ _ 1 _ _ _ hbd, own_setLow (own_apart h.og hg (fun q hq e => h.ne q e hq)) (by omega), ?_, ?_, h.dg.keeps hfar.keeps, ?_⟩, hfar⟩
  · rw [List.length_append]; exact own_setLow hown (by omega)
  · intro k hk
    rcases hat with e | e
    · rw [e]; exact h.ne k hk
    · rw [e]
      intro e2
      cases e2
      have := (hlo _ hk).2
      omega
  · exact (h.dr.snoc h.oo.1 hc).keeps hfar.keeps
/-- A change below a route. -/
def _root_.Mh.Op.chgR (r : ByteArray) (o : Mh.Op) : Chg := ⟨o.path.foldl joinR r, o.val.getD V.nil, o.val.isNone⟩
theorem chgR_pre (r k : ByteArray) (l : List Mh.Op) : (pre k l).map (Mh.Op.chgR r) = l.map (Mh.Op.chgR (joinR r k)) := by
  unfold pre
  rw [List.map_map]
  rfl
theorem chgR_nil (o : Mh.Op) : o.chgR ⟨#[]⟩ = o.chg := rfl
end Go.Proofs.YtekknckdeedjnaaGreatDoor
