/- Terms of items, plain: names in a list, each with its items; how many of them there are. No program. -/
import Derived.Test.YtihdfkcoajpmjaaGreatDoorBase
namespace Mh
open Go
set_option linter.unusedVariables false
/-- A term. -/
structure Tm where
  nm : ByteArray
  ti : ByteArray
  it : List Nat
instance inhTm : Inhabited Tm := ⟨⟨⟨#[]⟩, ⟨#[]⟩, []⟩⟩
/-- Where a name stands. -/
def findT (q : ByteArray) : List Tm → Option Nat
  | [] => none
  | t :: r => if t.nm = q then some 0 else (findT q r).map (· + 1)
theorem findT_none {q : ByteArray} : ∀ {T : List Tm}, findT q T = none ↔ ∀ t ∈ T, t.nm ≠ q
  | [] => by simp [findT]
  | t :: r => by
    unfold findT
    by_cases h : t.nm = q
    · rw [if_pos h]; simp [h]
    · rw [if_neg h]; simp [h, findT_none (T := r)]
theorem findT_some {q : ByteArray} : ∀ {T : List Tm} {j : Nat}, findT q T = some j → ∃ h : j < T.length, T[j].nm = q
  | [], _, h => by simp [findT] at h
  | t :: r, j, h => by
    unfold findT at h
    by_cases e : t.nm = q
    · rw [if_pos e] at h; cases h; exact ⟨by simp, e⟩
    · rw [if_neg e] at h
      obtain ⟨k, hk, rfl⟩ := Option.map_eq_some_iff.1 h
      obtain ⟨h1, h2⟩ := findT_some hk
      exact ⟨by simp; omega, by simpa using h2⟩
def nodupT (T : List Tm) : Prop := (T.map (·.nm)).Nodup
theorem nodupT_inj {T : List Tm} (h : nodupT T) {i j : Nat} (hi : i < T.length) (hj : j < T.length) (e : T[i].nm = T[j].nm) : i = j := by
  have hp := List.pairwise_iff_getElem.1 h
  rcases Nat.lt_trichotomy i j with g | g | g
  · have := hp i j (by simpa using hi) (by simpa using hj) g
    simp only [List.getElem_map] at this
    exact absurd e this
  · exact g
  · have := hp j i (by simpa using hj) (by simpa using hi) g
    simp only [List.getElem_map] at this
    exact absurd e.symm this
theorem findT_at {T : List Tm} (h : nodupT T) {j : Nat} (hj : j < T.length) : findT T[j].nm T = some j := by
  cases hf : findT T[j].nm T with
  | none => exact absurd rfl (findT_none.1 hf _ (List.getElem_mem hj))
  | some i =>
    obtain ⟨h1, h2⟩ := findT_some hf
    rw [nodupT_inj h h1 hj h2]
/-- Item i has a string s whose name is q. -/
def addT (q s : ByteArray) (i : Nat) (T : List Tm) : List Tm :=
  match findT q T with
  | none => T ++ [⟨q, s, [i]⟩]
  | some j => if (T.getD j default).it.getLast? = some i then T else T.set j ⟨(T.getD j default).nm, (T.getD j default).ti, (T.getD j default).it ++ [i]⟩
theorem addT_none {q s : ByteArray} {i : Nat} {T : List Tm} (h : findT q T = none) : addT q s i T = T ++ [⟨q, s, [i]⟩] := by unfold addT; rw [h]
theorem addT_old {q s : ByteArray} {i j : Nat} {T : List Tm} (h : findT q T = some j) (hj : j < T.length) (hl : T[j].it.getLast? = some i) : addT q s i T = T := by
  unfold addT; rw [h]; simp only [List.getD_eq_getElem?_getD, List.getElem?_eq_getElem hj, Option.getD_some]; rw [if_pos hl]
theorem addT_new {q s : ByteArray} {i j : Nat} {T : List Tm} (h : findT q T = some j) (hj : j < T.length) (hl : T[j].it.getLast? ≠ some i) : addT q s i T = T.set j ⟨T[j].nm, T[j].ti, T[j].it ++ [i]⟩ := by
  unfold addT; rw [h]; simp only [List.getD_eq_getElem?_getD, List.getElem?_eq_getElem hj, Option.getD_some]; rw [if_neg hl]
/-- How many items all terms have. -/
def cntT (T : List Tm) : Nat := (T.map (·.it.length)).sum
theorem cntT_snoc (T : List Tm) (t : Tm) : cntT (T ++ [t]) = cntT T + t.it.length := by simp [cntT]
theorem cntT_set {T : List Tm} {j : Nat} (hj : j < T.length) (t : Tm) : cntT (T.set j t) + T[j].it.length = cntT T + t.it.length := by
  induction T generalizing j with
  | nil => simp at hj
  | cons x r ih =>
    cases j with
    | zero => simp [cntT]; omega
    | succ j =>
      have := ih (j := j) (by simpa using hj)
      simp only [cntT, List.set_cons_succ, List.map_cons, List.sum_cons, List.getElem_cons_succ] at this ⊢
      omega
/-- What holds of the terms while item i is read (i + 1 items at most). -/
structure TOk (g : ByteArray → ByteArray) (i : Nat) (T : List Tm) : Prop where
  nd : nodupT T
  own : ∀ j (h : j < T.length), T[j].nm = g T[j].ti ∧ T[j].it ≠ [] ∧ T[j].it.Pairwise (· < ·) ∧ ∀ x ∈ T[j].it, x ≤ i
theorem TOk.nil (g : ByteArray → ByteArray) (i : Nat) : TOk g i [] := ⟨List.nodup_nil, fun j h => by simp at h⟩
theorem TOk.mono {g : ByteArray → ByteArray} {i k : Nat} {T : List Tm} (h : TOk g i T) (hk : i ≤ k) : TOk g k T :=
  ⟨h.nd, fun j hj => ⟨(h.own j hj).1, (h.own j hj).2.1, (h.own j hj).2.2.1, fun x hx => by have := (h.own j hj).2.2.2 x hx; omega⟩⟩
theorem map_nm_set {T : List Tm} {j : Nat} (hj : j < T.length) {t : Tm} (ht : t.nm = T[j].nm) : (T.set j t).map (·.nm) = T.map (·.nm) := by
  rw [List.map_set]
  apply List.ext_getElem (by simp)
  intro k h1 h2
  rw [List.getElem_set]
  split
  · rename_i e; subst e; simp [ht]
  · rfl
theorem last_lt {l : List Nat} {i : Nat} (hp : l.Pairwise (· < ·)) (hb : ∀ x ∈ l, x ≤ i) (hl : l.getLast? ≠ some i) : ∀ x ∈ l, x < i := by
  intro x hx
  have hxi := hb x hx
  rcases Nat.lt_or_ge x i with h | h
  · exact h
  · exfalso
    have e : x = i := by omega
    subst e
    apply hl
    obtain ⟨k, hk, hkx⟩ := List.mem_iff_getElem.1 hx
    have hlast : k = l.length - 1 := by
      rcases Nat.lt_or_ge k (l.length - 1) with g | g
      · have h1 := List.pairwise_iff_getElem.1 hp k (l.length - 1) hk (by omega) g
        have h2 := hb (l[l.length - 1]'(by omega)) (List.getElem_mem _)
        rw [hkx] at h1
        omega
      · omega
    rw [List.getLast?_eq_getElem?, ← hlast, List.getElem?_eq_getElem hk, hkx]
theorem TOk.add {g : ByteArray → ByteArray} {i : Nat} {T : List Tm} (h : TOk g i T) (s : ByteArray) : TOk g i (addT (g s) s i T) := by
  cases hf : findT (g s) T with
  | none =>
    rw [addT_none hf]
    refine ⟨?_, fun j hj => ?_⟩
    · unfold nodupT
      rw [List.map_append, List.nodup_append]
      refine ⟨h.nd, by simp, fun a ha b hb => ?_⟩
      simp only [List.map_cons, List.map_nil, List.mem_singleton] at hb
      subst hb
      obtain ⟨t, ht, rfl⟩ := List.mem_map.1 ha
      exact findT_none.1 hf t ht
    · rw [List.getElem_append]
      split
      · exact h.own j _
      · simp
  | some j =>
    obtain ⟨hj, hnm⟩ := findT_some hf
    by_cases hl : T[j].it.getLast? = some i
    · rw [addT_old hf hj hl]; exact h
    · rw [addT_new hf hj hl]
      refine ⟨?_, fun k hk => ?_⟩
      · unfold nodupT
        rw [map_nm_set hj (t := ⟨T[j].nm, T[j].ti, T[j].it ++ [i]⟩) rfl]; exact h.nd
      · have hk' : k < T.length := by simpa using hk
        rw [List.getElem_set]
        split
        · rename_i e
          subst e
          obtain ⟨h1, h2, h3, h4⟩ := h.own j hj
          have h5 := last_lt h3 h4 hl
          refine ⟨h1, by simp, ?_, fun x hx => ?_⟩
          · rw [List.pairwise_append]
            refine ⟨h3, by simp, fun a ha b hb => ?_⟩
            simp only [List.mem_singleton] at hb
            subst hb
            exact h5 a ha
          · rcases List.mem_append.1 hx with hx | hx
            · exact h4 x hx
            · simp only [List.mem_singleton] at hx; omega
        · exact h.own k hk'
/-- T (where item i is being read) and U (the same item read by itself) have the same names. -/
def LinkT (i : Nat) (T U : List Tm) : Prop := ∀ q, (findT q U).isSome = true ↔ ∃ j, ∃ h : j < T.length, T[j].nm = q ∧ T[j].it.getLast? = some i
theorem link_nil {g : ByteArray → ByteArray} {i : Nat} {T : List Tm} (h : ∀ j (h : j < T.length), ∀ x ∈ T[j].it, x < i) : LinkT i T [] := fun q => by
  refine ⟨fun e => by simp [findT] at e, fun ⟨j, hj, _, hl⟩ => ?_⟩
  have := h j hj i (List.mem_of_getLast? hl)
  omega
theorem last0 {l : List Nat} (h1 : l ≠ []) (h2 : ∀ x ∈ l, x ≤ 0) : l.getLast? = some 0 := by
  rw [List.getLast?_eq_some_getLast h1]
  have := h2 _ (List.getLast_mem h1)
  congr 1
  omega
theorem link_add {g : ByteArray → ByteArray} {i : Nat} {T U : List Tm} (hT : TOk g i T) (hU : TOk g 0 U) (hL : LinkT i T U) (s : ByteArray) :
    LinkT i (addT (g s) s i T) (addT (g s) s 0 U) ∧ cntT (addT (g s) s i T) + U.length = cntT T + (addT (g s) s 0 U).length := by
  cases hu : findT (g s) U with
  | some k =>
    obtain ⟨hk, hkn⟩ := findT_some hu
    obtain ⟨_, o2, _, o4⟩ := hU.own k hk
    rw [addT_old hu hk (last0 o2 o4)]
    obtain ⟨j, hj, hjn, hjl⟩ := (hL (g s)).1 (by rw [hu]; rfl)
    have hf : findT (g s) T = some j := by rw [← hjn]; exact findT_at hT.nd hj
    rw [addT_old hf hj hjl]
    exact ⟨hL, rfl⟩
  | none =>
    rw [addT_none hu]
    have hno : ¬ ∃ j, ∃ h : j < T.length, T[j].nm = g s ∧ T[j].it.getLast? = some i := fun h => by have := (hL (g s)).2 h; rw [hu] at this; cases this
    have hUn : ∀ q, (findT q (U ++ [⟨g s, s, [0]⟩])).isSome = true ↔ (findT q U).isSome = true ∨ q = g s := fun q => by
      constructor
      · intro h
        by_cases e : q = g s
        · exact .inr e
        · refine .inl ?_
          cases hq : findT q U with
          | some _ => rfl
          | none =>
            exfalso
            have : findT q (U ++ [⟨g s, s, [0]⟩]) = none := findT_none.2 fun t ht => by
              rcases List.mem_append.1 ht with ht | ht
              · exact findT_none.1 hq t ht
              · simp only [List.mem_singleton] at ht; subst ht; exact fun e2 => e e2.symm
            rw [this] at h; cases h
      · intro h
        cases hq : findT q (U ++ [⟨g s, s, [0]⟩]) with
        | some _ => rfl
        | none =>
          exfalso
          have hn := findT_none.1 hq
          rcases h with h | rfl
          · cases hq2 : findT q U with
            | none => rw [hq2] at h; cases h
            | some m =>
              obtain ⟨hm, hmn⟩ := findT_some hq2
              exact hn _ (List.mem_append_left _ (List.getElem_mem hm)) hmn
          · exact hn ⟨g s, s, [0]⟩ (by simp) rfl
    cases hf : findT (g s) T with
    | none =>
      rw [addT_none hf]
      refine ⟨fun q => ?_, by rw [cntT_snoc]; simp; omega⟩
      rw [hUn q, hL q]
      constructor
      · rintro (⟨j, hj, h1, h2⟩ | rfl)
        · exact ⟨j, by simp; omega, by rw [List.getElem_append_left hj]; exact ⟨h1, h2⟩⟩
        · exact ⟨T.length, by simp, by simp⟩
      · rintro ⟨j, hj, h1, h2⟩
        by_cases e : j < T.length
        · rw [List.getElem_append_left e] at h1 h2
          exact .inl ⟨j, e, h1, h2⟩
        · rw [List.getElem_append_right (by omega)] at h1
          simp only [List.length_append, List.length_singleton] at hj
          have : j - T.length = 0 := by omega
          simp only [this, List.getElem_cons_zero] at h1
          exact .inr h1.symm
    | some j =>
      obtain ⟨hj, hjn⟩ := findT_some hf
      have hl : T[j].it.getLast? ≠ some i := fun e => hno ⟨j, hj, hjn, e⟩
      rw [addT_new hf hj hl]
      refine ⟨fun q => ?_, ?_⟩
      · rw [hUn q, hL q]
        constructor
        · rintro (⟨k, hk, h1, h2⟩ | rfl)
          · have hkj : j ≠ k := fun e => by subst e; exact hl h2
            exact ⟨k, by simpa using hk, by rw [List.getElem_set_ne hkj]; exact ⟨h1, h2⟩⟩
          · exact ⟨j, by simpa using hj, by rw [List.getElem_set_self]; exact ⟨hjn, by simp⟩⟩
        · rintro ⟨k, hk, h1, h2⟩
          have hk' : k < T.length := by simpa using hk
          by_cases e : j = k
          · subst e
            rw [List.getElem_set_self] at h1
            exact .inr (h1.symm.trans hjn)
          · rw [List.getElem_set_ne e] at h1 h2
            exact .inl ⟨k, hk', h1, h2⟩
      · have := cntT_set hj ⟨T[j].nm, T[j].ti, T[j].it ++ [i]⟩
        simp only [List.length_append, List.length_singleton] at this ⊢
        omega
/-- All strings of item i. -/
def stpT (g : ByteArray → ByteArray) (i : Nat) : List Tm → List ByteArray → List Tm
  | T, [] => T
  | T, s :: r => stpT g i (addT (g s) s i T) r
theorem stpT_snoc (g : ByteArray → ByteArray) (i : Nat) (l : List ByteArray) (s : ByteArray) : ∀ T, stpT g i T (l ++ [s]) = addT (g s) s i (stpT g i T l) := by
  induction l with
  | nil => intro T; rfl
  | cons x l ih => intro T; exact ih _
theorem stpT_ok {g : ByteArray → ByteArray} {i : Nat} (l : List ByteArray) : ∀ {T : List Tm}, TOk g i T → TOk g i (stpT g i T l) := by
  induction l with
  | nil => intro T h; exact h
  | cons s l ih => intro T h; exact ih (h.add s)
theorem stpT_cnt {g : ByteArray → ByteArray} {i : Nat} (l : List ByteArray) : ∀ {T U : List Tm}, TOk g i T → TOk g 0 U → LinkT i T U → cntT (stpT g i T l) + U.length = cntT T + (stpT g 0 U l).length := by
  induction l with
  | nil => intro T U _ _ _; rfl
  | cons s l ih =>
    intro T U hT hU hL
    obtain ⟨h1, h2⟩ := link_add hT hU hL s
    have h3 := ih (hT.add s) (hU.add s) h1
    show cntT (stpT g i (addT (g s) s i T) l) + U.length = cntT T + (stpT g 0 (addT (g s) s 0 U) l).length
    omega
/-- All items, from the i-th on. -/
def termsT (g : ByteArray → ByteArray) : Nat → List Tm → List (List ByteArray) → List Tm
  | _, T, [] => T
  | i, T, n :: r => termsT g (i + 1) (stpT g i T n) r
theorem termsT_snoc (g : ByteArray → ByteArray) (l : List (List ByteArray)) (n : List ByteArray) : ∀ i T, termsT g i T (l ++ [n]) = stpT g (i + l.length) (termsT g i T l) n := by
  induction l with
  | nil => intro i T; rfl
  | cons x l ih =>
    intro i T
    show termsT g (i + 1) (stpT g i T x) (l ++ [n]) = _
    rw [ih]
    simp only [List.length_cons]
    rw [show i + 1 + l.length = i + (l.length + 1) by omega]
    rfl
theorem termsT_all {g : ByteArray → ByteArray} (N : List (List ByteArray)) : ∀ (i : Nat) (T : List Tm), TOk g i T → (∀ j (h : j < T.length), ∀ x ∈ T[j].it, x < i) →
    TOk g (i + N.length) (termsT g i T N) ∧ cntT (termsT g i T N) = cntT T + (N.map fun n => (stpT g 0 [] n).length).sum := by
  induction N with
  | nil => intro i T h _; exact ⟨h, by simp [termsT]⟩
  | cons n N ih =>
    intro i T h hlt
    have h1 := stpT_ok n h
    obtain ⟨h2, h3⟩ := ih (i + 1) (stpT g i T n) (h1.mono (Nat.le_succ i)) (fun j hj x hx => by have := (h1.own j hj).2.2.2 x hx; omega)
    have h4 := stpT_cnt n h (TOk.nil g 0) (link_nil (g := g) hlt)
    refine ⟨?_, ?_⟩
    · show TOk g (i + (N.length + 1)) (termsT g (i + 1) (stpT g i T n) N)
      rw [show i + (N.length + 1) = i + 1 + N.length by omega]; exact h2
    · show cntT (termsT g (i + 1) (stpT g i T n) N) = _
      rw [h3]
      simp only [List.length_nil, Nat.add_zero, List.map_cons, List.sum_cons] at h4 ⊢
      omega
theorem terms_own {g : ByteArray → ByteArray} (N : List (List ByteArray)) : TOk g N.length (termsT g 0 [] N) := by
  have := (termsT_all N 0 [] (TOk.nil g 0) (fun j h => by simp at h)).1
  rwa [Nat.zero_add] at this
theorem terms_cnt {g : ByteArray → ByteArray} (N : List (List ByteArray)) : cntT (termsT g 0 [] N) = (N.map fun n => (termsT g 0 [] [n]).length).sum := by
  have := (termsT_all (g := g) N 0 [] (TOk.nil g 0) (fun j h => by simp at h)).2
  rw [this]
  show cntT [] + _ = (N.map fun n => (stpT g 0 [] n).length).sum
  simp [cntT]
theorem addT_len (q s : ByteArray) (i : Nat) (T : List Tm) : (addT q s i T).length ≤ T.length + 1 := by
  unfold addT
  split
  · simp
  · split <;> simp
theorem addT_mono (q s : ByteArray) (i : Nat) (T : List Tm) : T.length ≤ (addT q s i T).length := by
  unfold addT
  split
  · simp
  · split <;> simp
end Mh
