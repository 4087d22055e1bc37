/- Terms in memory while the map is ranged over, and what is put out. No conditions beyond those that each law states. -/
import Derived.Test.YtihdfkcoajpmjaaGreatDoorLtN
import Derived.Maps.RangeWalk
import Derived.Test.YtihdfkcoajpmjaaGreatDoorApLw
namespace Mh
open Go Go.RowKit Go.Maps Go.WideMaps
set_option linter.unusedVariables false
theorem keyS_inv {P : Program} {k : TypeId} (hk : P.underlying k = some .string) {v : Value} {kl : Lit} (h : keyOf P k v = some kl) : ∃ x : ByteArray, v = .string x ∧ x.size ≤ maxLen ∧ kl = .string x.data.toList := by
  rw [keyOf_string hk] at h
  unfold mapKey at h
  rw [hk] at h
  cases v <;> simp at h
  exact ⟨_, rfl, h.1, h.2.symm⟩
theorem grown_setT (w : World) (g i : Nat) (v : Value) : w.grownBy (w.setCell ⟨g, i, none⟩ v) (some g) :=
  ⟨rfl, rfl, rfl, by simp [World.setCell], fun k _ hk => heap_setCell_other _ _ _ _ (fun e => hk (by rw [e]))⟩
end Mh
namespace Go.Proofs.YtihdfkcoajpmjaaGreatDoor
open Go.RowKit Mh
set_option linter.unusedVariables false
def trL (r : TmR) : List Value := [.string r.t.nm, .string r.t.ti, r.v]
theorem TmIn.but {M B : Nat} {R : List TmR} {w w' : World} {row : Option Nat} (h : TmIn M B R w) (hg : w.grownBy w' row) (hM : some M ≠ row) (hp : ∀ a (ha : a < R.length), some R[a].p ≠ row) (ho : ∀ a (ha : a < R.length) g, R[a].v.ownBlock = some g → some g ≠ row) : TmIn M B R w' := by
  have lt : ∀ a (ha : a < R.length), R[a].p < w.heap.size := fun a ha => (Array.getElem?_eq_some_iff.1 (h.blk a ha)).1
  refine ⟨fun a ha => (hg.block _ (lt a ha) (hp a ha)).trans (h.blk a ha), fun a ha => own_blk (h.own a ha) fun g hg2 => ?_, h.ndp, h.ndg, h.lo, h.map.kept hg hM, h.mlo, ?_⟩
  · obtain ⟨_, cur, hc⟩ := own_at (h.own a ha) hg2
    exact hg.block g (Array.getElem?_eq_some_iff.1 hc).1 (ho a ha g hg2)
  · obtain ⟨es, c, hob⟩ := h.obj
    exact ⟨es, c, (hg.block M h.map.lt hM).trans hob⟩
/-- What is carried through the range. -/
structure RgC (M B O rI n : Nat) (R : List TmR) (D : DataW Value) (L : List Nat) (v : Value) (left : Lit → Bool) (cnt : Nat) (w wq : World) : Prop where
  rg : wq.ranges Tryz.prog 9 rdHeld M rI n D left cnt
  tm : TmIn M B R wq
  box : wq.heap[O]? = some (.cells #[v] 24 (0, 0))
  own : wq.ownsRow (O + 1) 30 3 v L.length (L.flatMap fun a => trL (R.getD a default))
  lo : ∀ a (h : a < R.length), R[a].p < O
  below : Below B w wq
  bo : B ≤ O
section
variable {M B O rI n cnt cnt' : Nat} {R : List TmR} {D : DataW Value} {L : List Nat} {v : Value} {left left' : Lit → Bool} {w wq w' w3 : World}
theorem RgC.iter (h : RgC M B O rI n R D L v left cnt w wq) : ∃ s e c, wq.heap[rI]? = some (.mapIter (some M) s e c) := by
  obtain ⟨es, clock, since, seen, c0, _, _, _, _, hr, _⟩ := h.rg
  exact ⟨_, _, _, hr⟩
/-- The iterator has stepped. -/
theorem RgC.step (h : RgC M B O rI n R D L v left cnt w wq) (hr : w'.ranges Tryz.prog 9 rdHeld M rI n D left' cnt') (hg : wq.grownBy w' (some rI)) (hB : B ≤ rI) : RgC M B O rI n R D L v left' cnt' w w' := by
  obtain ⟨s, e, c, hi⟩ := h.iter
  have hO : O ≠ rI := fun e2 => by have := h.box; rw [e2, hi] at this; cases this
  refine ⟨hr, h.tm.but hg (fun e2 => ?_) (fun a ha e2 => ?_) (fun a ha g hg2 e2 => ?_), (hg.block O (Array.getElem?_eq_some_iff.1 h.box).1 (fun e2 => hO (by simpa using e2))).trans h.box, own_blk h.own fun g hg2 => ?_, h.lo, ?_, h.bo⟩
  · exact h.rg.ne (by simpa using e2.symm)
  · have := h.tm.blk a ha
    rw [show R[a].p = rI by simpa using e2, hi] at this; cases this
  · obtain ⟨_, cur, hc⟩ := own_at (h.tm.own a ha) hg2
    rw [show g = rI by simpa using e2, hi] at hc; cases hc
  · obtain ⟨_, cur, hc⟩ := own_at h.own hg2
    refine hg.block g (Array.getElem?_eq_some_iff.1 hc).1 (fun e2 => ?_)
    rw [show g = rI by simpa using e2, hi] at hc; cases hc
  · exact h.below.grown hg (Nat.le_of_lt (Nat.lt_of_le_of_lt h.bo (Array.getElem?_eq_some_iff.1 h.box).1)) (fun k hk => by cases hk; exact hB)
theorem RgC.keep (h : RgC M B O rI n R D L v left cnt w wq) (hb : Below wq.heap.size wq w') : RgC M B O rI n R D L v left cnt w w' := by
  have hz := (Array.getElem?_eq_some_iff.1 h.box).1
  have hg : wq.grownBy w' none := ⟨hb.os, hb.tape, hb.output, hb.size, fun i hi _ => hb.block i hi⟩
  exact ⟨h.rg.kept hg (by simp) (by simp), h.tm.keep hb, (hb.block O hz).trans h.box, own_belowL h.own hb, h.lo, h.below.trans (hb.mono (by have := h.bo; omega)), h.bo⟩
/-- One term more is put out. -/
theorem RgC.push (h : RgC M B O rI n R D L v left cnt w wq) {a : Nat} (ha : a < R.length) (v3 : Value) (hg : wq.grownBy w3 v.ownBlock) (ho : w3.ownsRow (O + 1) 30 3 v3 (L.length + 1) ((L.flatMap fun a => trL (R.getD a default)) ++ trL R[a]))
    (hat : v3.ownBlock = v.ownBlock ∨ v3.ownBlock = some wq.heap.size) :
    w3.cell? ⟨O, 0, none⟩ = some v ∧ w3.frozen? ⟨O, 0, none⟩ = false ∧ RgC M B O rI n R D (L ++ [a]) v3 left cnt w (w3.setCell ⟨O, 0, none⟩ v3) := by
  have hz := (Array.getElem?_eq_some_iff.1 h.box).1
  have vO : ∀ g, v.ownBlock = some g → O < g ∧ ∃ cur, wq.heap[g]? = some (.cells cur 30 (0, 0)) := fun g hg2 => by
    obtain ⟨h1, cur, hc⟩ := own_at h.own hg2
    exact ⟨h1, cur, hc⟩
  have hO : some O ≠ v.ownBlock := fun e => by have := (vO O e.symm).1; omega
  have hbox : w3.heap[O]? = some (.cells #[v] 24 (0, 0)) := (hg.block O hz hO).trans h.box
  obtain ⟨es, c, hob⟩ := h.tm.obj
  obtain ⟨s, e, ci, hi⟩ := h.iter
  have hMv : some M ≠ v.ownBlock := fun e => by obtain ⟨_, cur, hc⟩ := vO M e.symm; rw [hob] at hc; cases hc
  have hIv : some rI ≠ v.ownBlock := fun e => by obtain ⟨_, cur, hc⟩ := vO rI e.symm; rw [hi] at hc; cases hc
  have hMO : M ≠ O := fun e => by have := h.box; rw [← e, hob] at this; cases this
  have hIO : rI ≠ O := fun e => by have := h.box; rw [← e, hi] at this; cases this
  have tm3 : TmIn M B R w3 := h.tm.but hg hMv (fun b hb e => by have := (vO _ e.symm).1; have := h.lo b hb; omega) (fun b hb g hg2 e => by
    obtain ⟨_, cur, hc⟩ := own_at (h.tm.own b hb) hg2
    obtain ⟨_, cur2, hc2⟩ := vO g e.symm
    rw [hc] at hc2
    simp only [Option.some.injEq, Obj.cells.injEq] at hc2
    exact tags_ne hc2.2.1.symm)
  have tags2 : (24 : Nat) ≠ 3 := by decide
  have gs := grown_setT w3 O 0 v3
  have hpO : ∀ b (hb : b < R.length), some R[b].p ≠ some O := fun b hb e => by
    simp only [Option.some.injEq] at e
    have := h.lo b hb
    omega
  have hoO : ∀ b (hb : b < R.length) g, R[b].v.ownBlock = some g → some g ≠ some O := fun b hb g hg2 e => by
    simp only [Option.some.injEq] at e
    obtain ⟨_, cur, hc⟩ := own_at (tm3.own b hb) hg2
    rw [e, hbox] at hc
    simp only [Option.some.injEq, Obj.cells.injEq] at hc
    exact tags2 hc.2.1
  have tm4 : TmIn M B R (w3.setCell ⟨O, 0, none⟩ v3) := tm3.but gs (fun e => hMO (by simpa using e)) hpO hoO
  have hb3 : Below B w w3 := h.below.grown hg (by have := h.bo; omega) (fun k hk => by have := (vO k hk).1; have := h.bo; omega)
  refine ⟨cellT hbox rfl, frozenT hbox, ⟨(h.rg.kept hg hMv hIv).kept gs (fun e => hMO (by simpa using e)) (fun e => hIO (by simpa using e)), tm4, ?_, ?_, h.lo, hb3.setCell h.bo _, h.bo⟩⟩
  · rw [heap_setCell_same _ _ 0 _ _ _ hbox]; rfl
  · have hne : v3.ownBlock ≠ some O := fun e2 => by
      rcases hat with q | q
      · rw [q] at e2; exact hO e2.symm
      · rw [q] at e2; simp only [Option.some.injEq] at e2; omega
    have h5 : (w3.setCell ⟨O, 0, none⟩ v3).ownsRow (O + 1) 30 3 v3 (L.length + 1) ((L.flatMap fun a => trL (R.getD a default)) ++ trL R[a]) :=
      own_blk ho fun g hg2 => heap_setCell_other _ _ _ _ (fun e2 => hne (by rw [hg2, e2]))
    rw [List.flatMap_append, List.length_append, List.flatMap_singleton, getD_at ha]
    exact h5
end
/-- Which term comes next. -/
theorem next_term {R : List TmR} {D : DataW Value} (hD : ∀ s : ByteArray, s.size ≤ maxLen → (lookR R s = none → Maps.has D (.string s.data.toList) = false) ∧ (∀ v, lookR R s = some v → Maps.has D (.string s.data.toList) = true ∧ ∀ z, D.atKey (.string s.data.toList) z = .held v))
    {x : ByteArray} {c : Value} {kl : Lit} {y : DataW Value × List MemPlace} (hkey : keyOf Tryz.prog 9 (.string x) = some kl) (hh : Maps.has D kl = true) (hR : rdHeld c = some y) (hat : ∀ zd, D.atKey kl zd = y.1) :
    ∃ a, ∃ ha : a < R.length, R[a].t.nm = x ∧ c = .pointer (some ⟨R[a].p, 0, none⟩) ∧ kl = .string x.data.toList := by
  obtain ⟨x', hx, hxs, rfl⟩ := keyS_inv Tryz.underlying9 hkey
  cases hx
  cases hl : lookR R x with
  | none => rw [(hD x hxs).1 hl] at hh; cases hh
  | some u =>
    have h2 := ((hD x hxs).2 u hl).2 (.held c)
    rw [hat] at h2
    unfold rdHeld at hR
    simp only [Option.some.injEq] at hR
    rw [← hR] at h2
    obtain rfl : c = u := DataW.held.inj h2
    unfold lookR at hl
    obtain ⟨a, hfa, hpa⟩ := Option.map_eq_some_iff.1 hl
    obtain ⟨h1, h3⟩ := findT_some hfa
    have ha : a < R.length := by simpa using h1
    rw [ptrR_at ha] at hpa
    exact ⟨a, ha, by simpa using h3, hpa.symm, rfl⟩
end Go.Proofs.YtihdfkcoajpmjaaGreatDoor
