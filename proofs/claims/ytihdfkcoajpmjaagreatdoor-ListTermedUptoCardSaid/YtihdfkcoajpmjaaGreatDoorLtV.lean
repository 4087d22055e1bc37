/- Terms, plain: what the law asks of them. -/
import Derived.Test.YtihdfkcoajpmjaaGreatDoorLtU
namespace Mh
open Go Go.RowKit
set_option linter.unusedVariables false
theorem addT_ti {q s : ByteArray} {i : Nat} {T : List Tm} : ∀ t ∈ addT q s i T, t.ti = s ∨ ∃ t' ∈ T, t.ti = t'.ti := by
  intro t ht
  cases hf : findT q T with
  | none =>
    rw [addT_none hf] at ht
    rcases List.mem_append.1 ht with h | h
    · exact .inr ⟨t, h, rfl⟩
    · simp only [List.mem_singleton] at h; subst h; exact .inl rfl
  | some j =>
    obtain ⟨hj, _⟩ := findT_some hf
    by_cases hl : T[j].it.getLast? = some i
    · rw [addT_old hf hj hl] at ht; exact .inr ⟨t, ht, rfl⟩
    · rw [addT_new hf hj hl] at ht
      obtain ⟨k, hk, rfl⟩ := List.mem_iff_getElem.1 ht
      rw [List.getElem_set]
      split
      · exact .inr ⟨T[j], List.getElem_mem hj, rfl⟩
      · exact .inr ⟨_, List.getElem_mem (by simpa using hk), rfl⟩
theorem stpT_ti {g : ByteArray → ByteArray} {i : Nat} (l : List ByteArray) : ∀ {T : List Tm}, ∀ t ∈ stpT g i T l, t.ti ∈ l ∨ ∃ t' ∈ T, t.ti = t'.ti := by
  induction l with
  | nil => intro T t ht; exact .inr ⟨t, ht, rfl⟩
  | cons s l ih =>
    intro T t ht
    rcases ih t ht with h | ⟨t', h1, h2⟩
    · exact .inl (List.mem_cons_of_mem _ h)
    · rcases addT_ti t' h1 with h | ⟨t2, h3, h4⟩
      · rw [h2, h]; exact .inl (List.mem_cons_self)
      · exact .inr ⟨t2, h3, h2.trans h4⟩
theorem termsT_ti {g : ByteArray → ByteArray} (N : List (List ByteArray)) : ∀ (i : Nat) (T : List Tm), ∀ t ∈ termsT g i T N, (∃ n ∈ N, t.ti ∈ n) ∨ ∃ t' ∈ T, t.ti = t'.ti := by
  induction N with
  | nil => intro i T t ht; exact .inr ⟨t, ht, rfl⟩
  | cons n N ih =>
    intro i T t ht
    rcases ih (i + 1) (stpT g i T n) t ht with ⟨n', h1, h2⟩ | ⟨t', h1, h2⟩
    · exact .inl ⟨n', List.mem_cons_of_mem _ h1, h2⟩
    · rcases stpT_ti n t' h1 with h | ⟨t2, h3, h4⟩
      · rw [h2]; exact .inl ⟨n, List.mem_cons_self, h⟩
      · exact .inr ⟨t2, h3, h2.trans h4⟩
theorem stpT_len {g : ByteArray → ByteArray} {i : Nat} (l : List ByteArray) : ∀ T : List Tm, (stpT g i T l).length ≤ T.length + l.length := by
  induction l with
  | nil => intro T; exact Nat.le_refl _
  | cons s l ih =>
    intro T
    have h1 := ih (addT (g s) s i T)
    have h2 := addT_len (g s) s i T
    show (stpT g i (addT (g s) s i T) l).length ≤ _
    simp only [List.length_cons]
    omega
theorem termsT_len {g : ByteArray → ByteArray} {m : Nat} (N : List (List ByteArray)) : ∀ (i : Nat) (T : List Tm), (∀ n ∈ N, n.length ≤ m) → (termsT g i T N).length ≤ T.length + N.length * m := by
  induction N with
  | nil => intro i T _; simp [termsT]
  | cons n N ih =>
    intro i T h
    have h1 := ih (i + 1) (stpT g i T n) (fun x hx => h x (List.mem_cons_of_mem _ hx))
    have h2 := stpT_len (g := g) (i := i) n T
    have h3 := h n List.mem_cons_self
    show (termsT g (i + 1) (stpT g i T n) N).length ≤ _
    simp only [List.length_cons, Nat.add_mul, Nat.one_mul]
    omega
theorem cntT_le {T : List Tm} {m : Nat} (h : ∀ t ∈ T, t.it.length ≤ m) : cntT T ≤ T.length * m := by
  induction T with
  | nil => simp [cntT]
  | cons t T ih =>
    have h1 := h t List.mem_cons_self
    have h2 := ih (fun x hx => h x (List.mem_cons_of_mem _ hx))
    simp only [cntT, List.map_cons, List.sum_cons, List.length_cons] at h2 ⊢
    rw [Nat.add_mul, Nat.one_mul]
    omega
theorem cntT_perm {T U : List Tm} (h : T.Perm U) : cntT T = cntT U := (h.map _).sum_nat
/-- All that the law asks of the terms in order. -/
structure LawT (L1 : List TmR) : Prop where
  own : ∀ k (h : k < L1.length), L1[k].t.nm = slugB L1[k].t.ti ∧ L1[k].t.it ≠ [] ∧ L1[k].t.it.Pairwise (· < ·) ∧ L1[k].t.it.length ≤ 2001 ∧ L1[k].t.ti.size ≤ 5000
  lt : ∀ k (h : k + 1 < L1.length), klT (L1[k]'(by omega)).t.nm L1[k + 1].t.nm = true
  len : L1.length ≤ 2097152000
end Mh
namespace Go.Proofs.YtihdfkcoajpmjaaGreatDoor
open Go.RowKit Mh
set_option linter.unusedVariables false
theorem law_terms {r : ByteArray} {l : List V} {L1 : List TmR} (hl : l.length ≤ 2000) (hN : ∀ X ∈ l, (nsOf r X).length ≤ 1048576 ∧ ∀ s ∈ nsOf r X, s.size ≤ 5000) (hp : (L1.map TmR.t).Perm (termsT slugB 0 [] (l.map (nsOf r)))) (hs : L1.Pairwise fun x y => klR y x = false) : LawT L1 := by
  have hok := terms_own (g := slugB) (l.map (nsOf r))
  rw [List.length_map] at hok
  have hmem : ∀ k (h : k < L1.length), ∃ j, ∃ hj : j < (termsT slugB 0 [] (l.map (nsOf r))).length, (termsT slugB 0 [] (l.map (nsOf r)))[j] = L1[k].t := fun k h =>
    List.mem_iff_getElem.1 (hp.mem_iff.1 (List.mem_map.2 ⟨L1[k], List.getElem_mem h, rfl⟩))
  have hnd : (L1.map fun x => x.t.nm).Nodup := by
    have h1 := (hp.map (fun t : Tm => t.nm)).nodup_iff.2 hok.nd
    rwa [List.map_map] at h1
  refine ⟨fun k h => ?_, fun k h => ?_, ?_⟩
  · obtain ⟨j, hj, e⟩ := hmem k h
    obtain ⟨h1, h2, h3, h4⟩ := hok.own j hj
    rw [e] at h1 h2 h3 h4
    refine ⟨h1, h2, h3, by have := asc_len h3 h4; omega, ?_⟩
    rcases termsT_ti (g := slugB) (l.map (nsOf r)) 0 [] L1[k].t (by rw [← e]; exact List.getElem_mem hj) with ⟨n, h5, h6⟩ | ⟨t', h5, _⟩
    · obtain ⟨X, hX, rfl⟩ := List.mem_map.1 h5
      exact (hN X hX).2 _ h6
    · simp at h5
  · have h1 := List.pairwise_iff_getElem.1 hs k (k + 1) (by omega) h (by omega)
    have h2 := List.pairwise_iff_getElem.1 hnd k (k + 1) (by simp; omega) (by simpa using h) (by omega)
    simp only [List.getElem_map] at h2
    cases h3 : klT (L1[k]'(by omega)).t.nm L1[k + 1].t.nm with
    | true => rfl
    | false => exact absurd (klT_total h3 h1) h2
  · have h1 := hp.length_eq
    rw [List.length_map] at h1
    have h2 := termsT_len (g := slugB) (m := 1048576) (l.map (nsOf r)) 0 [] (fun n hn => by obtain ⟨X, hX, rfl⟩ := List.mem_map.1 hn; exact (hN X hX).1)
    rw [List.length_map, List.length_nil] at h2
    omega
/-- Many and want. -/
theorem law_count {r : ByteArray} {l : List V} {L1 : List TmR} (hp : (L1.map TmR.t).Perm (termsT slugB 0 [] (l.map (nsOf r)))) : cntT (L1.map TmR.t) = (l.map fun X => (termsT slugB 0 [] [nsOf r X]).length).sum := by
  rw [cntT_perm hp, terms_cnt, List.map_map]; rfl
end Go.Proofs.YtihdfkcoajpmjaaGreatDoor
