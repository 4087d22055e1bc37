/- The plain law of sort's stable sort, last part: a sorted permutation in which equals keep their order is mergeSort's list. No program. -/
import Derived.Test.YtgalcdolhnckmaaGreatDoorSrS
namespace Mh
open Go.Sort
set_option linter.unusedVariables false
theorem bef_irr {γ : Type} {lt : γ → γ → Bool} {tag : γ → Nat} {x y : γ} (h1 : Bef lt tag x y) (h2 : Bef lt tag y x) : False := by
  have := h1.2 h2.1
  have := h2.2 h1.1
  omega
/-- The tagged list. -/
def tagged {α : Type} (d : List α) : Array (α × Nat) := d.zipIdx.toArray
theorem tagged_get {α : Type} [Inhabited α] (d : List α) (i : Nat) (h : i < d.length) : (tagged d)[i]! = (d[i], i) := by
  unfold tagged
  rw [getElem!_pos _ i (by simpa using h)]
  simp
theorem tagged_fst {α : Type} (d : List α) : (tagged d).toList.map (·.1) = d := by
  unfold tagged
  simp
theorem tagged_size {α : Type} (d : List α) : (tagged d).size = d.length := by unfold tagged; simp
theorem tagged_inc {α : Type} [Inhabited α] (d : List α) : Inc (fun p : α × Nat => p.2) d.length (tagged d) := fun x y h1 h2 => by
  rw [tagged_get d x (by omega), tagged_get d y h2]; exact h1
theorem swo_fst {α : Type} {lt : α → α → Bool} (h : SWO lt) : SWO (fun (x y : α × Nat) => lt x.1 y.1) :=
  ⟨fun x => h.irrefl _, fun x y z => h.trans _ _ _, fun x y z => h.ntrans _ _ _⟩
theorem stable_unique {α : Type} [Inhabited α] {lt : α → α → Bool} (hO : SWO lt) (d : List α) {D : Array (α × Nat)} (h : Mrg (fun (x y : α × Nat) => lt x.1 y.1) (fun p => p.2) 0 d.length (tagged d) D) :
    D.toList.map (·.1) = d.mergeSort (fun x y => !lt y x) := by
  have le_trans : ∀ a b c : α, (!lt b a) = true → (!lt c b) = true → (!lt c a) = true := fun a b c h1 h2 => by
    rw [Bool.not_eq_true'] at h1 h2 ⊢
    exact hO.ntrans _ _ _ h2 h1
  have le_total : ∀ a b : α, ((!lt b a) || (!lt a b)) = true := fun a b => by
    cases e : lt b a with
    | false => rfl
    | true =>
      cases e2 : lt a b with
      | false => rfl
      | true => have := hO.trans _ _ _ e e2; rw [hO.irrefl] at this; cases this
  rw [← List.mergeSort_zipIdx (le := fun x y => !lt y x)]
  congr 1
  have hsz : D.size = d.length := by rw [h.1.1, tagged_size]
  have hperm : D.toList.Perm d.zipIdx := by
    have hp := h.1.2.2
    have e1 : (D.extract 0 d.length).toList = D.toList := by rw [← hsz]; simp
    have e2 : ((tagged d).extract 0 d.length).toList = d.zipIdx := by
      rw [← tagged_size d, Array.extract_size]; rfl
    rw [e1, e2] at hp
    exact hp
  have hpw : D.toList.Pairwise (fun x y => List.zipIdxLE (fun x y => !lt y x) x y = true) := by
    rw [List.pairwise_iff_getElem]
    intro i j hi hj hij
    have hi' : i < D.size := by simpa using hi
    have hj' : j < D.size := by simpa using hj
    have hb := h.2 i j (Nat.zero_le _) hij (by omega)
    rw [getElem!_pos D i hi', getElem!_pos D j hj'] at hb
    rw [Array.getElem_toList, Array.getElem_toList]
    obtain ⟨b1, b2⟩ := hb
    unfold List.zipIdxLE
    simp only at b1 b2
    show (if (!lt D[j].1 D[i].1) = true then (if (!lt D[i].1 D[j].1) = true then decide (D[i].2 ≤ D[j].2) else true) else false) = true
    rw [b1]
    cases e : lt D[i].1 D[j].1 with
    | true => rfl
    | false => simpa using Nat.le_of_lt (b2 e)
  refine List.Perm.eq_of_pairwise ?_ hpw (List.pairwise_mergeSort (List.zipIdxLE_trans le_trans) (List.zipIdxLE_total le_total) d.zipIdx) (hperm.trans (List.mergeSort_perm _ _).symm)
  intro x y hx hy h1 h2
  have hx' := hperm.subset hx
  have hy' := (List.mergeSort_perm _ _).subset hy
  obtain ⟨x1, x2⟩ := x
  obtain ⟨y1, y2⟩ := y
  rw [List.mem_zipIdx_iff_getElem?] at hx' hy'
  unfold List.zipIdxLE at h1 h2
  simp only at h1 h2 hx' hy'
  have e : x2 = y2 := by
    cases a : lt y1 x1 with
    | true => rw [a] at h1; simp at h1
    | false =>
      cases b : lt x1 y1 with
      | true => rw [b] at h2; simp at h2
      | false =>
        rw [a, b] at h1 h2
        simp at h1 h2
        omega
  subst e
  rw [hx'] at hy'
  cases hy'
  rfl
end Mh
