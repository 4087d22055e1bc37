/- The order of positions by keys: a strict weak order. No program. -/
import Derived.Test.YtgalcdolhnckmaaGreatDoorLsH
import Derived.Test.YtgalcdolhnckmaaGreatDoorSrT
namespace Mh
open Go Go.RowKit
set_option linter.unusedVariables false
structure Ky where
  r : ByteArray
  d : Bool
theorem comes_neg (a b : V) (d : Bool) : comesL b a d = - comesL a b d := by
  have h := (cmp_law a b b).1
  unfold comesL
  by_cases ha : a.kd = 0 <;> by_cases hb : b.kd = 0 <;> cases d <;> simp [ha, hb, h]
theorem comes_tr (a b c : V) (d : Bool) : Tr (comesL a b d) (comesL b c d) (comesL a c d) := by
  have h := cmp_tr _ a (Nat.lt_succ_self _) b c
  unfold comesL
  unfold Tr Tr1 at *
  by_cases ha : a.kd = 0 <;> by_cases hb : b.kd = 0 <;> by_cases hc : c.kd = 0 <;> cases d <;> simp [ha, hb, hc] at h ⊢ <;> first | exact h | (exact ⟨h.2, h.1⟩) | omega
/-- What an item has by a key. -/
def keyV (l : List V) (k : Ky) (p : Nat) : V := atR k.r (l.getD p V.nil)
def cmpK (l : List V) : List Ky → Nat → Nat → Int
  | [], _, _ => 0
  | k :: ks, p, q => lex (comesL (keyV l k p) (keyV l k q) k.d) (cmpK l ks p q)
def lessK (l : List V) (ks : List Ky) (p q : Nat) : Bool := decide (cmpK l ks p q < 0)
theorem cmpK_neg (l : List V) : ∀ (ks : List Ky) (p q : Nat), cmpK l ks q p = - cmpK l ks p q
  | [], _, _ => rfl
  | k :: ks, p, q => by
    unfold cmpK
    rw [comes_neg, cmpK_neg l ks p q, lex_neg]
theorem cmpK_tr (l : List V) : ∀ (ks : List Ky) (p q r : Nat), Tr (cmpK l ks p q) (cmpK l ks q r) (cmpK l ks p r)
  | [], _, _, _ => ⟨fun _ _ => ⟨Int.le_refl _, fun _ => ⟨rfl, rfl⟩⟩, fun _ _ => ⟨Int.le_refl _, fun _ => ⟨rfl, rfl⟩⟩⟩
  | k :: ks, p, q, r => by
    unfold cmpK
    exact (comes_tr _ _ _ _).lex (cmpK_tr l ks p q r)
theorem swo_lessK (l : List V) (ks : List Ky) : Go.Sort.SWO (lessK l ks) := by
  refine ⟨fun x => ?_, fun x y z h1 h2 => ?_, fun x y z h1 h2 => ?_⟩
  · have := cmpK_neg l ks x x
    exact decide_eq_false (by omega)
  · have h := cmpK_tr l ks x y z
    unfold Tr Tr1 at h
    have h1 := of_decide_eq_true h1
    have h2 := of_decide_eq_true h2
    exact decide_eq_true (by have := h.1 (by omega) (by omega); omega)
  · have h := cmpK_tr l ks x y z
    unfold Tr Tr1 at h
    have h1 := of_decide_eq_false h1
    have h2 := of_decide_eq_false h2
    exact decide_eq_false (by have := h.2 (by omega) (by omega); omega)
/-- The positions in the order of the keys. -/
def sortK (l : List V) (ks : List Ky) : List Nat := (List.range l.length).mergeSort fun x y => !lessK l ks y x
theorem sortK_perm (l : List V) (ks : List Ky) : (sortK l ks).Perm (List.range l.length) := List.mergeSort_perm _ _
theorem sortK_len (l : List V) (ks : List Ky) : (sortK l ks).length = l.length := by rw [(sortK_perm l ks).length_eq, List.length_range]
theorem le_trans_K (l : List V) (ks : List Ky) (a b c : Nat) (h1 : (!lessK l ks b a) = true) (h2 : (!lessK l ks c b) = true) : (!lessK l ks c a) = true := by
  have e1 : lessK l ks b a = false := by simpa using h1
  have e2 : lessK l ks c b = false := by simpa using h2
  have := (swo_lessK l ks).3 c b a e2 e1
  rw [this]; rfl
theorem le_total_K (l : List V) (ks : List Ky) (a b : Nat) : ((!lessK l ks b a) || (!lessK l ks a b)) = true := by
  cases h1 : lessK l ks b a with
  | false => rfl
  | true =>
    cases h2 : lessK l ks a b with
    | false => rfl
    | true =>
      have := (swo_lessK l ks).2 b a b h1 h2
      rw [(swo_lessK l ks).1 b] at this; cases this
theorem sortK_sorted (l : List V) (ks : List Ky) : (sortK l ks).Pairwise fun x y => (!lessK l ks y x) = true :=
  List.pairwise_mergeSort (fun a b c => le_trans_K l ks a b c) (fun a b => le_total_K l ks a b) _
/-- The items in their order, sorted again: as they are. -/
theorem sort_again (l : List V) (ks : List Ky) : sortK ((sortK l ks).map fun p => l.getD p V.nil) ks = List.range l.length := by
  have hl : ((sortK l ks).map fun p => l.getD p V.nil).length = l.length := by rw [List.length_map, sortK_len]
  unfold sortK
  rw [show (List.map (fun p => l.getD p V.nil) (List.mergeSort (List.range l.length) fun x y => !lessK l ks y x)) = (sortK l ks).map fun p => l.getD p V.nil from rfl, hl]
  refine List.mergeSort_of_pairwise (List.pairwise_iff_getElem.2 fun i j hi hj hij => ?_)
  rw [List.getElem_range, List.getElem_range]
  rw [List.length_range] at hi hj
  have hs := List.pairwise_iff_getElem.1 (sortK_sorted l ks) i j (by rw [sortK_len]; exact hi) (by rw [sortK_len]; exact hj) hij
  have hg : ∀ i (h : i < l.length), ((sortK l ks).map fun p => l.getD p V.nil).getD i V.nil = l.getD ((sortK l ks)[i]'(by rw [sortK_len]; exact h)) V.nil := fun i h => by
    rw [List.getD_eq_getElem?_getD, List.getElem?_map, List.getElem?_eq_getElem (by rw [sortK_len]; exact h)]; rfl
  have hk : ∀ (kk : List Ky), cmpK ((sortK l ks).map fun p => l.getD p V.nil) kk j i = cmpK l kk ((sortK l ks)[j]'(by rw [sortK_len]; exact hj)) ((sortK l ks)[i]'(by rw [sortK_len]; exact hi)) := by
    intro kk
    induction kk with
    | nil => rfl
    | cons k kk ih =>
      unfold cmpK
      rw [ih]
      unfold keyV
      rw [hg j hj, hg i hi]
  unfold lessK at hs ⊢
  rw [hk ks]
  exact hs
end Mh
