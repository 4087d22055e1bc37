/- What conf.printed and printedValue have written after so many items: plain. And a row of bytes that grows. No program. -/
import Derived.Test.YtejnoedlfbglcaaGreatDoorPaP
import Derived.Test.YtejnoedlfbglcaaGreatDoorApSl
import Derived.Test.YtejnoedlfbglcaaGreatDoorKeV0
namespace Mh
open Go Go.RowKit
set_option linter.unusedVariables false

/-- The items of a list, the first j of them. -/
noncomputable def pvsJ (is : List V) (ind : List UInt8) (j : Nat) : List UInt8 := pvsL (is.take j) ind
theorem pvt_app (ind : List UInt8) (x : V) : ∀ xs : List V, pvtL (xs ++ [x]) ind = pvtL xs ind ++ 32 :: pvL x ind := by
  intro xs
  induction xs with
  | nil => simp [pvtL]
  | cons y xs ih => rw [List.cons_append, pvtL, ih, pvtL]; simp
theorem pvs_take {is : List V} {ind : List UInt8} {j : Nat} (h : j < is.length) : pvsJ is ind (j + 1) = pvsJ is ind j ++ ((if 0 < j then [32] else []) ++ pvL is[j] ind) := by
  unfold pvsJ
  rw [List.take_succ_eq_append_getElem h]
  cases is with
  | nil => simp at h
  | cons y ys =>
    cases j with
    | zero => simp [pvsL, pvtL]
    | succ j =>
      rw [if_pos (by omega), List.take_succ_cons, List.cons_append, pvsL, pvsL, pvt_app, List.append_assoc]
      rfl
theorem pvs_all (is : List V) (ind : List UInt8) : pvsJ is ind is.length = pvsL is ind := by unfold pvsJ; rw [List.take_length]
/-- The lines of a table, the first j of them. -/
noncomputable def ptJ (is : List V) (ks : List ByteArray) (ind : List UInt8) (j : Nat) : List UInt8 := ptL (is.take j) (ks.take j) ind
theorem pt_app (ind : List UInt8) (x : V) (k : ByteArray) : ∀ (xs : List V) (ks : List ByteArray), ks.length = xs.length → ptL (xs ++ [x]) (ks ++ [k]) ind = ptL xs ks ind ++ (ind ++ (k.data.toList ++ 32 :: (pvL x ind ++ [10]))) := by
  intro xs
  induction xs with
  | nil =>
    intro ks h
    obtain rfl : ks = [] := List.eq_nil_of_length_eq_zero h
    simp [ptL]
  | cons y xs ih =>
    intro ks h
    cases ks with
    | nil => simp at h
    | cons q ks =>
      rw [List.cons_append, List.cons_append, ptL, ptL, ih ks (by simpa using h)]
      simp
theorem pt_take {is : List V} {ks : List ByteArray} {ind : List UInt8} {j : Nat} (hl : ks.length = is.length) (h : j < is.length) : ptJ is ks ind (j + 1) = ptJ is ks ind j ++ (ind ++ ((ks[j]'(by omega)).data.toList ++ 32 :: (pvL is[j] ind ++ [10]))) := by
  unfold ptJ
  rw [List.take_succ_eq_append_getElem h, List.take_succ_eq_append_getElem (show j < ks.length by omega), pt_app _ _ _ _ _ (by rw [List.length_take, List.length_take, hl])]
theorem pt_all (is : List V) (ks : List ByteArray) (ind : List UInt8) (hl : ks.length = is.length) : ptJ is ks ind is.length = ptL is ks ind := by unfold ptJ; rw [List.take_length, ← hl, List.take_length]
theorem pvs_mono (is : List V) (ind : List UInt8) (j : Nat) (h : j ≤ is.length) : (pvsJ is ind j).length ≤ (pvsL is ind).length := by
  have : ∀ d, d ≤ is.length → (pvsJ is ind (is.length - d)).length ≤ (pvsL is ind).length := by
    intro d
    induction d with
    | zero => intro _; rw [Nat.sub_zero, pvs_all]; exact Nat.le_refl _
    | succ d ih =>
      intro hd
      have h1 := pvs_take (is := is) (ind := ind) (j := is.length - (d + 1)) (by omega)
      rw [show is.length - (d + 1) + 1 = is.length - d by omega] at h1
      have := ih (by omega)
      rw [h1, List.length_append] at this
      omega
  have := this (is.length - j) (by omega)
  rwa [show is.length - (is.length - j) = j by omega] at this
theorem pt_mono (is : List V) (ks : List ByteArray) (ind : List UInt8) (hl : ks.length = is.length) (j : Nat) (h : j ≤ is.length) : (ptJ is ks ind j).length ≤ (ptL is ks ind).length := by
  have : ∀ d, d ≤ is.length → (ptJ is ks ind (is.length - d)).length ≤ (ptL is ks ind).length := by
    intro d
    induction d with
    | zero => intro _; rw [Nat.sub_zero, pt_all _ _ _ hl]; exact Nat.le_refl _
    | succ d ih =>
      intro hd
      have h1 := pt_take (is := is) (ks := ks) (ind := ind) (j := is.length - (d + 1)) hl (by omega)
      rw [show is.length - (d + 1) + 1 = is.length - d by omega] at h1
      have := ih (by omega)
      rw [h1, List.length_append] at this
      omega
  have := this (is.length - j) (by omega)
  rwa [show is.length - (is.length - j) = j by omega] at this

/-! A row of bytes that grows. -/
theorem grown_below {a c : World} (h : Below a.heap.size a c) (row : Option Nat) : a.grownBy c row := ⟨h.os, h.tape, h.output, h.size, fun i hi _ => h.block i hi⟩
/-- From w to wr only the row ov has turned; it is the row v with the bytes l. -/
structure BAt (u8 : TypeId) (W0 w : World) (ov : Value) (l : List UInt8) (wr : World) (v : Value) : Prop where
  own : wr.ownsRow W0.heap.size u8 1 v l.length (byteCells l)
  grown : w.grownBy wr ov.ownBlock
  at_ : v.ownBlock = ov.ownBlock ∨ ∃ k, w.heap.size ≤ k ∧ v.ownBlock = some k
theorem BAt.refl {u8 : TypeId} {W0 w : World} {ov : Value} {l : List UInt8} (h : w.ownsRow W0.heap.size u8 1 ov l.length (byteCells l)) : BAt u8 W0 w ov l w ov := ⟨h, ⟨rfl, rfl, rfl, Nat.le_refl _, fun _ _ _ => rfl⟩, .inl rfl⟩
theorem BAt.below {u8 : TypeId} {W0 w wr w2 : World} {ov v : Value} {l : List UInt8} (h : BAt u8 W0 w ov l wr v) (hb : Below wr.heap.size wr w2) : BAt u8 W0 w ov l w2 v :=
  ⟨own_below h.own hb, h.grown.trans (grown_below hb _), h.at_⟩
theorem BAt.step {u8 : TypeId} {W0 w w2 w3 : World} {ov v v' : Value} {l l' : List UInt8} (h : BAt u8 W0 w ov l w2 v) (hown : w3.ownsRow W0.heap.size u8 1 v' l'.length (byteCells l')) (hg : w2.grownBy w3 v.ownBlock)
    (hat : v'.ownBlock = v.ownBlock ∨ ∃ k, w2.heap.size ≤ k ∧ v'.ownBlock = some k) : BAt u8 W0 w ov l' w3 v' := by
  refine ⟨hown, h.grown.andThen hg fun k hk => ?_, ?_⟩
  · rcases h.at_ with e | ⟨q, hq, e⟩
    · right; rw [← e]; exact hk
    · left; rw [e] at hk; cases hk; omega
  · rcases hat with e | ⟨q, hq, e⟩
    · rw [e]; exact h.at_
    · have := h.grown.size; exact .inr ⟨q, by omega, e⟩
theorem BAt.trans {u8 : TypeId} {W0 w w2 w3 : World} {ov v v' : Value} {l l' : List UInt8} (h : BAt u8 W0 w ov l w2 v) (k : BAt u8 W0 w2 v l' w3 v') : BAt u8 W0 w ov l' w3 v' := h.step k.own k.grown k.at_
theorem BAt.low {u8 : TypeId} {W0 w wr : World} {ov v : Value} {l : List UInt8} (h : BAt u8 W0 w ov l wr v) (hb : Below W0.heap.size W0 w) (hlt : ∀ k, ov.ownBlock = some k → W0.heap.size ≤ k) : Below W0.heap.size W0 wr :=
  hb.grown h.grown hb.size hlt
/-- A block that is no row. -/
theorem BAt.block {u8 : TypeId} {W0 w wr : World} {ov v : Value} {l : List UInt8} {q : Nat} {o : Obj} (h : BAt u8 W0 w ov l wr v) (hq : w.heap[q]? = some o) (hne : ov.ownBlock ≠ some q) : wr.heap[q]? = some o ∧ v.ownBlock ≠ some q := by
  have hlt : q < w.heap.size := (Array.getElem?_eq_some_iff.1 hq).1
  refine ⟨(h.grown.block q hlt (fun e => hne e.symm)).trans hq, fun e => ?_⟩
  rcases h.at_ with e' | ⟨k, hk, e'⟩
  · exact hne (e' ▸ e)
  · rw [e'] at e; cases e; omega
theorem BAt.own_ne {u8 : TypeId} {W0 w wr : World} {ov v : Value} {l : List UInt8} (h : BAt u8 W0 w ov l wr v) : v.ownBlock ≠ some wr.heap.size := fun e => absurd (h.own.lt _ e).2 (Nat.lt_irrefl _)
end Mh
