/- The plain law of keeping, second part: measures of a value (nodes, count, levels); the routes of a right value lead somewhere. No program. -/
import Derived.Test.YtbnlcnaccainhaaGreatDoorKeP
namespace Mh
open Go
set_option linter.unusedVariables false

mutual
def V.nodes : V → Nat
  | .mk k b n t is ks => V.nodess is + 1
def V.nodess : List V → Nat
  | [] => 0
  | x :: xs => V.nodes x + V.nodess xs
end
mutual
def V.cnt : V → Nat
  | .mk k b n t is ks => V.cnts is 1
def V.cnts : List V → Nat → Nat
  | [], m => m
  | x :: xs, m => if 1000 < m then m else V.cnts xs (m + V.cnt x)
end
mutual
def V.lev : V → Nat
  | .mk k b n t is ks => V.levs is 0 + 1
def V.levs : List V → Nat → Nat
  | [], m => m
  | x :: xs, m => V.levs xs (max m (V.lev x))
end
theorem nodes_pos (v : V) : 1 ≤ v.nodes := by cases v; simp only [V.nodes]; omega
theorem nodess_mem : ∀ is, ∀ x ∈ is, V.nodes x ≤ V.nodess is := by
  intro is
  induction is with
  | nil => intro x hx; simp at hx
  | cons y ys ih =>
    intro x hx
    simp only [V.nodess]
    rcases List.mem_cons.1 hx with rfl | hx
    · omega
    · have := ih x hx; omega
theorem nodess_len : ∀ is : List V, is.length ≤ V.nodess is := by
  intro is
  induction is with
  | nil => simp
  | cons y ys ih => simp only [V.nodess, List.length_cons]; have := nodes_pos y; omega
theorem nodess_app : ∀ a b, V.nodess (a ++ b) = V.nodess a + V.nodess b := by
  intro a b
  induction a with
  | nil => simp [V.nodess]
  | cons x xs ih => simp only [List.cons_append, V.nodess, ih]; omega
theorem nodess_take (is : List V) (i : Nat) : V.nodess (is.take i) ≤ V.nodess is := by
  conv => rhs; rw [← List.take_append_drop i is, nodess_app]
  omega
theorem nodess_drop (is : List V) (i : Nat) : V.nodess (is.drop i) ≤ V.nodess is := by
  conv => rhs; rw [← List.take_append_drop i is, nodess_app]
  omega
theorem nodess_cut (is : List V) (i j : Nat) (h : i ≤ j) : V.nodess (is.take i) + V.nodess (is.drop j) ≤ V.nodess is := by
  conv => rhs; rw [← List.take_append_drop i is, nodess_app]
  obtain ⟨d, rfl⟩ : ∃ d, j = i + d := ⟨j - i, by omega⟩
  rw [← List.drop_drop]
  have := nodess_drop (is.drop i) d
  omega
theorem cnts_le : ∀ (N : Nat) (v : V), sizeOf v < N → v.cnt ≤ v.nodes := by
  intro N
  induction N with
  | zero => intro v h; omega
  | succ N ih =>
    rintro ⟨k, b, n, t, is, ks⟩ h
    have hm : ∀ x ∈ is, x.cnt ≤ x.nodes := fun x hx => ih x (by have := size_item (k := k) (b := b) (n := n) (t := t) (ks := ks) hx; omega)
    simp only [V.cnt, V.nodes]
    have gen : ∀ (l : List V), (∀ x ∈ l, x.cnt ≤ x.nodes) → ∀ m, V.cnts l m ≤ V.nodess l + m := by
      intro l
      induction l with
      | nil => intro _ m; simp [V.cnts, V.nodess]
      | cons y ys ihy =>
        intro hl m
        simp only [V.cnts, V.nodess]
        have h1 := hl y (by simp)
        have h2 := ihy (fun x hx => hl x (by simp [hx])) (m + y.cnt)
        split <;> omega
    exact gen is hm 1
theorem cnt_nodes (v : V) : v.cnt ≤ v.nodes := cnts_le _ v (Nat.lt_succ_self _)
theorem levs_le : ∀ (N : Nat) (v : V), sizeOf v < N → v.lev ≤ v.nodes := by
  intro N
  induction N with
  | zero => intro v h; omega
  | succ N ih =>
    rintro ⟨k, b, n, t, is, ks⟩ h
    have hm : ∀ x ∈ is, x.lev ≤ x.nodes := fun x hx => ih x (by have := size_item (k := k) (b := b) (n := n) (t := t) (ks := ks) hx; omega)
    simp only [V.lev, V.nodes]
    have gen : ∀ (l : List V), (∀ x ∈ l, x.lev ≤ x.nodes) → ∀ m, V.levs l m ≤ V.nodess l + m := by
      intro l
      induction l with
      | nil => intro _ m; simp [V.levs, V.nodess]
      | cons y ys ihy =>
        intro hl m
        simp only [V.levs, V.nodess]
        have h1 := hl y (by simp)
        have h2 := ihy (fun x hx => hl x (by simp [hx])) (max m y.lev)
        omega
    have := gen is hm 0
    omega
theorem lev_nodes (v : V) : v.lev ≤ v.nodes := levs_le _ v (Nat.lt_succ_self _)
theorem cnt_pos (v : V) : 1 ≤ v.cnt := by
  cases v with
  | mk k b n t is ks =>
    simp only [V.cnt]
    have gen : ∀ (l : List V) (m : Nat), m ≤ V.cnts l m := by
      intro l
      induction l with
      | nil => intro m; simp [V.cnts]
      | cons y ys ih => intro m; simp only [V.cnts]; split; omega; have := ih (m + y.cnt); omega
    exact gen is 1
theorem cnts_ge : ∀ (l : List V) (m : Nat), m ≤ V.cnts l m := by
  intro l
  induction l with
  | nil => intro m; simp [V.cnts]
  | cons y ys ih => intro m; simp only [V.cnts]; split; omega; have := ih (m + y.cnt); omega
theorem cnts_len : ∀ (l : List V) (m : Nat), V.cnts l m ≤ 1000 → m + l.length ≤ 1000 ∧ ∀ x ∈ l, x.cnt ≤ 1000 := by
  intro l
  induction l with
  | nil => intro m h; simp [V.cnts] at h; simp [h]
  | cons y ys ih =>
    intro m h
    simp only [V.cnts] at h
    split at h
    · omega
    · have h1 := ih _ h
      have h2 := cnts_ge ys (m + y.cnt)
      have h3 := cnt_pos y
      refine ⟨by simp; omega, fun x hx => ?_⟩
      rcases List.mem_cons.1 hx with rfl | hx
      · omega
      · exact h1.2 x hx
theorem cnt_facts {v : V} (h : v.cnt ≤ 1000) : v.its.length ≤ 999 ∧ ∀ x ∈ v.its, x.cnt ≤ 1000 := by
  cases v with
  | mk k b n t is ks =>
    simp only [V.cnt] at h
    have := cnts_len is 1 h
    exact ⟨by show is.length ≤ 999; omega, this.2⟩
theorem levs_ge : ∀ (l : List V) (m : Nat), m ≤ V.levs l m := by
  intro l
  induction l with
  | nil => intro m; simp [V.levs]
  | cons y ys ih => intro m; simp only [V.levs]; have := ih (max m y.lev); omega
theorem levs_mem : ∀ (l : List V) (m : Nat), ∀ x ∈ l, x.lev ≤ V.levs l m := by
  intro l
  induction l with
  | nil => intro m x hx; simp at hx
  | cons y ys ih =>
    intro m x hx
    simp only [V.levs]
    rcases List.mem_cons.1 hx with rfl | hx
    · have := levs_ge ys (max m x.lev); omega
    · exact ih _ x hx
theorem lev_item {v x : V} (h : x ∈ v.its) : x.lev < v.lev := by
  cases v with
  | mk k b n t is ks =>
    simp only [V.lev]
    have := levs_mem is 0 x h
    omega
theorem nodes_item {v x : V} (h : x ∈ v.its) : x.nodes < v.nodes := by
  cases v with
  | mk k b n t is ks =>
    simp only [V.nodes]
    have := nodess_mem is x h
    omega
theorem follow_mem {v x : V} {s : St} (hf : followV v s = some x) : x ∈ v.its := by
  unfold followV at hf
  split at hf
  · split at hf
    · exact List.mem_of_getElem? hf
    · cases hf
  · split at hf
    · split at hf
      · exact List.mem_of_getElem? hf
      · cases hf
    · cases hf
theorem setIn_nodes (v : V) (s : St) : (setIn v s).nodes ≤ v.nodes := by
  unfold setIn; split
  · have := nodes_pos v; simp only [V.nodes, V.nodess]; omega
  · exact Nat.le_refl _
theorem nodes_its (v : V) : V.nodess v.its + 1 = v.nodes := by cases v; simp only [V.nodes, V.its]
theorem nodess_set : ∀ (l : List V) (i : Nat) (y : V), V.nodess (l.set i y) ≤ V.nodess l + y.nodes := by
  intro l
  induction l with
  | nil => intro i y; simp [V.nodess]
  | cons a l ih =>
    intro i y
    cases i with
    | zero => simp only [List.set_cons_zero, V.nodess]; omega
    | succ i => simp only [List.set_cons_succ, V.nodess]; have := ih i y; omega
/-- What is set is not much larger. -/
theorem set_nodes : ∀ (l : List St) (v x s : V), setV v l x = some s → s.nodes ≤ (l.length + 1) * (v.nodes + 1) + x.nodes := by
  intro l
  induction l with
  | nil => intro v x s h; simp only [setV, Option.some.injEq] at h; subst h; omega
  | cons a l ih =>
    intro v x s h
    have hv := setIn_nodes v a
    unfold setV at h
    generalize setIn v a = v' at *
    split at h
    · cases h
    split at h
    · cases h
    cases hs : setV ((followV v' a).getD V.nil) l x with
    | none => rw [hs] at h; cases h
    | some y =>
      rw [hs] at h
      have hi := ih _ x y hs
      simp only at h
      have ho : ((followV v' a).getD V.nil).nodes ≤ v.nodes := by
        cases hf : followV v' a with
        | none => simp only [Option.getD_none]; have := nodes_pos v; simp only [V.nil, V.nodes, V.nodess]; omega
        | some z => simp only [Option.getD_some]; have := nodes_item (follow_mem hf); omega
      have hm : (l.length + 1) * (((followV v' a).getD V.nil).nodes + 1) ≤ (l.length + 1) * (v.nodes + 1) := Nat.mul_le_mul_left _ (by omega)
      have hy : y.nodes ≤ (l.length + 1) * (v.nodes + 1) + x.nodes := by omega
      have goal : s.nodes ≤ v'.nodes + y.nodes := by
        have hn := nodes_its v'
        split at h
        · cases h
          have := nodess_cut v'.its (low a.key v'.kys) (putAt a.key v'.kys) (by unfold putAt; omega)
          simp only [putV, V.nodes, nodess_app, V.nodess]
          omega
        · split at h
          · cases h
            simp only [V.nodes, nodess_app, V.nodess]
            omega
          · cases h
            have := nodess_set v'.its a.num y
            simp only [V.nodes]
            omega
      have e : (l.length + 1 + 1) * (v.nodes + 1) = (l.length + 1) * (v.nodes + 1) + (v.nodes + 1) := Nat.succ_mul _ _
      simp only [List.length_cons]
      omega
end Mh
