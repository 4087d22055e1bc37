/- What can be an item of a list, what an item has at a route, how items compare: plain functions. No program. -/
import Derived.Test.YtihdfkcoajpmjaaGreatDoorChk
namespace Mh
open Go Go.RowKit
set_option linter.unusedVariables false
mutual
/-- What list.count returns. -/
def V.cntL : V → Int
  | .mk _ _ _ _ is _ => V.cntsL is 1
def V.cntsL : List V → Int → Int
  | [], n => n
  | x :: r, n => if 5000 < n then n else V.cntsL r (wrap64 (n + V.cntL x))
end
/-- A large table by itself. -/
def V.tabOk (X : V) : Prop := (X.bo = false ∧ X.nu = 0 ∧ X.tx.size = 0 ∧ X.kys.length = X.its.length) ∧ keysOk X.kys
def V.withIts (X : V) (k : Int) (is : List V) : V := .mk k X.bo X.nu X.tx is X.kys
/-- What valueFault asks. -/
def V.lf1 (X : V) : Prop :=
  (0 ≤ X.kd ∧ X.kd ≤ 8) ∧
  (if X.kd = 7 ∨ X.kd = 8 then X.its.length = 0 ∧ (X.withIts 3 []).okw
   else if X.kd = 5 then (X.withIts X.kd []).okw
   else if X.kd = 6 then (if 999 < X.its.length then X.tabOk else (X.withIts X.kd (List.replicate X.its.length V.nil)).okw)
   else X.its.length = 0 ∧ X.okw)
mutual
def V.lfOk : V → Prop
  | .mk k b n t is ks => V.lf1 (.mk k b n t is ks) ∧ V.lfsOk is
def V.lfsOk : List V → Prop
  | [] => True
  | x :: xs => V.lfOk x ∧ V.lfsOk xs
end
def V.itemOk (X : V) : Prop := X.cntL ≤ 5000 ∧ X.levW ≤ 10 ∧ X.lfOk
theorem lfOk_iff (X : V) : X.lfOk ↔ X.lf1 ∧ V.lfsOk X.its := by obtain ⟨k, b, n, t, is, ks⟩ := X; exact Iff.rfl
theorem lfsOk_mem : ∀ is, V.lfsOk is ↔ ∀ x ∈ is, V.lfOk x := by
  intro is
  induction is with
  | nil => simp [V.lfsOk]
  | cons x xs ih => simp [V.lfsOk, ih]
theorem lf1_fit {X : V} (h : X.lf1) : X.kd = 6 → X.kys.length = X.its.length := by
  intro h6
  obtain ⟨_, h⟩ := h
  rw [if_neg (by omega), if_neg (by omega), if_pos h6] at h
  split at h
  · exact h.1.2.2.2
  · have := (good_facts h.2.2).2.1 h6
    have e : (X.withIts X.kd (List.replicate X.its.length V.nil)).its = List.replicate X.its.length V.nil := rfl
    rw [e, List.length_replicate] at this
    exact this
mutual
/-- Each table within has as many keys as items. -/
def V.fit : V → Prop
  | .mk k _ _ _ is ks => (k = 6 → ks.length = is.length) ∧ V.fits is
def V.fits : List V → Prop
  | [] => True
  | x :: xs => V.fit x ∧ V.fits xs
end
theorem fit_iff (X : V) : X.fit ↔ (X.kd = 6 → X.kys.length = X.its.length) ∧ V.fits X.its := by obtain ⟨k, b, n, t, is, ks⟩ := X; exact Iff.rfl
theorem fits_mem : ∀ is, V.fits is ↔ ∀ x ∈ is, V.fit x := by
  intro is
  induction is with
  | nil => simp [V.fits]
  | cons x xs ih => simp [V.fits, ih]
theorem fit_nil : V.nil.fit := by unfold V.nil; rw [fit_iff]; exact ⟨fun h => absurd h (by decide), trivial⟩
theorem lfOk_fit : ∀ (M : Nat) (X : V), sizeOf X < M → X.lfOk → X.fit := by
  intro M
  induction M with
  | zero => intro X h; omega
  | succ M ih =>
    intro X hX h
    rw [lfOk_iff] at h
    rw [fit_iff]
    refine ⟨lf1_fit h.1, (fits_mem _).2 fun x hx => ih x ?_ ((lfsOk_mem _).1 h.2 x hx)⟩
    obtain ⟨k, b, n, t, is, ks⟩ := X
    have := size_item (k := k) (b := b) (n := n) (t := t) (ks := ks) (show x ∈ is from hx)
    omega
/-- The item of a key, of the first i keys. -/
def pickL (X : V) (key : ByteArray) : Nat → V
  | 0 => V.nil
  | i + 1 => if X.kys[i]? = some key then X.its.getD i V.nil else pickL X key i
theorem pickL_fit {X : V} (h : X.fit) (key : ByteArray) : ∀ i, (pickL X key i).fit := by
  intro i
  induction i with
  | zero => exact fit_nil
  | succ i ih =>
    unfold pickL
    split
    · rw [fit_iff] at h
      by_cases hi : i < X.its.length
      · rw [List.getD_eq_getElem?_getD, List.getElem?_eq_getElem hi]
        exact (fits_mem _).1 h.2 _ (List.getElem_mem hi)
      · rw [List.getD_eq_getElem?_getD, List.getElem?_eq_none (by omega)]
        exact fit_nil
    · exact ih
/-- What an item has in a part of a route. -/
def V.inL (X : V) (s : St) : V :=
  if s.k0 = false ∧ X.kd = 6 then pickL X s.key X.kys.length
  else if s.k0 = true ∧ X.kd = 5 ∧ s.num < X.its.length then X.its.getD s.num V.nil
  else V.nil
theorem inL_fit {X : V} (h : X.fit) (s : St) : (X.inL s).fit := by
  unfold V.inL
  split
  · exact pickL_fit h _ _
  · split
    · rename_i h2
      rw [fit_iff] at h
      rw [List.getD_eq_getElem?_getD, List.getElem?_eq_getElem h2.2.2]
      exact (fits_mem _).1 h.2 _ (List.getElem_mem h2.2.2)
    · exact fit_nil
def atL (X : V) (l : List St) : V := l.foldl V.inL X
/-- How two items compare. -/
def comesL (a b : V) (down : Bool) : Int :=
  if a.kd = 0 ∨ b.kd = 0 then (if a.kd ≠ 0 then -1 else if b.kd ≠ 0 then 1 else 0)
  else if down = true then - V.cmp a b else V.cmp a b
end Mh
