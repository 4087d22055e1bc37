/- Redirects: what Moved makes of them, as plain functions; the law of TopMoved. No program. -/
import Derived.Test.YtdjcificgilimaaDoorShQ
import Derived.Sort.LotA
namespace Mh
open Go Go.RowKit
set_option linter.unusedVariables false
def trimS (l : List UInt8) : List UInt8 := Lib.trimSuffix l [47]
/-- The key of an address. -/
def keyL (a : List UInt8) : Option (List UInt8) := (pathOfL a).map fun p => trimS (addrL p)
def keyB (a : ByteArray) : Option ByteArray := (keyL a.data.toList).map fun k => ⟨k.toArray⟩
def key0 (a : ByteArray) : ByteArray := (keyB a).getD ⟨#[]⟩
def idxE (a : ByteArray) : Bool := idxL.isSuffixOf a.data.toList
def RedOk (r : O) : Prop := (keyB r.p).isSome = true ∧ (keyB r.b).isSome = true ∧ idxE r.p = false ∧ idxE r.b = false
/-- The redirects that Moved takes. -/
def MovOk (rs : List O) : Prop := rs.length ≤ 60 ∧ (∀ r ∈ rs, RedOk r) ∧ rs.Pairwise (fun r q => key0 r.p ≠ key0 q.p)
/-- Where a key leads. -/
def nextF (rs : List O) : ByteArray → Option ByteArray := bodF (rs.map fun r => ⟨key0 r.p, key0 r.b⟩)
def adBP (o : O) : ByteArray := ⟨(adO o).toArray⟩
def tkB (o : O) : ByteArray := ⟨(trimS (adO o)).toArray⟩
/-- The address of the output of a key. -/
def outF (l : List O) : ByteArray → Option ByteArray := bodF (l.map fun o => ⟨tkB o, adBP o⟩)
def goR (nx ou : ByteArray → Option ByteArray) : Nat → ByteArray → Option ByteArray
  | 0, _ => none
  | n + 1, k => match nx k with
    | none => none
    | some k' => match ou k' with
      | some to => some to
      | none => goR nx ou n k'
def resR (rs l : List O) (r : O) : Option ByteArray := if (outF l (key0 r.p)).isSome then none else goR (nextF rs) (outF l) (rs.length + 1) (key0 r.p)
def goodOf (rs l : List O) (r : O) : Option O := (resR rs l r).map fun to => ⟨r.p, to⟩
def goodR (rs l : List O) : List O := rs.filterMap (goodOf rs l)
def leftR (rs l : List O) : List O := rs.filter fun r => (resR rs l r).isNone
def sortR (rs l : List O) : List O := (goodR rs l).mergeSort fun x y => !kl y.p x.p
theorem nextF_snoc (rs : List O) (r : O) (k : ByteArray) : nextF (rs ++ [r]) k = if k = key0 r.p then some (key0 r.b) else nextF rs k := by
  unfold nextF; rw [List.map_append]; exact bodF_app _ _ _
theorem outF_snoc (l : List O) (o : O) (k : ByteArray) : outF (l ++ [o]) k = if k = tkB o then some (adBP o) else outF l k := by
  unfold outF; rw [List.map_append]; exact bodF_app _ _ _
theorem outF_some {l : List O} {k a : ByteArray} (h : outF l k = some a) : ∃ o ∈ l, tkB o = k ∧ adBP o = a := by
  obtain ⟨x, hx, h1, h2⟩ := bodF_mem h
  obtain ⟨o, ho, rfl⟩ := List.mem_map.1 hx
  exact ⟨o, ho, h1, h2⟩
theorem outF_none {l : List O} {k : ByteArray} (h : outF l k = none) : ∀ o ∈ l, tkB o ≠ k := fun o ho =>
  bodF_none h ⟨tkB o, adBP o⟩ (List.mem_map.2 ⟨o, ho, rfl⟩)
theorem goR_out {nx ou : ByteArray → Option ByteArray} : ∀ {n : Nat} {k a : ByteArray}, goR nx ou n k = some a → ∃ k', ou k' = some a
  | 0, k, a, h => by cases h
  | n + 1, k, a, h => by
    unfold goR at h
    split at h
    · cases h
    · rename_i k' _
      split at h
      · rename_i to he
        cases h
        exact ⟨k', he⟩
      · exact goR_out h
/-- A resolved redirect leads from a key that is no output's to an output's address. -/
theorem res_some {rs l : List O} {r : O} {a : ByteArray} (h : resR rs l r = some a) : outF l (key0 r.p) = none ∧ ∃ o ∈ l, adBP o = a := by
  unfold resR at h
  split at h
  · cases h
  · rename_i hn
    obtain ⟨k', hk⟩ := goR_out h
    obtain ⟨o, ho, _, e⟩ := outF_some hk
    refine ⟨?_, o, ho, e⟩
    cases he : outF l (key0 r.p) with
    | none => rfl
    | some x => rw [he] at hn; exact absurd rfl hn
theorem good_mem {rs l : List O} {q : O} (h : q ∈ goodR rs l) : ∃ r ∈ rs, q.p = r.p ∧ resR rs l r = some q.b := by
  unfold goodR at h
  obtain ⟨r, hr, he⟩ := List.mem_filterMap.1 h
  unfold goodOf at he
  obtain ⟨a, h1, rfl⟩ := Option.map_eq_some_iff.1 he
  exact ⟨r, hr, rfl, h1⟩
theorem sort_mem {rs l : List O} {q : O} : q ∈ sortR rs l ↔ q ∈ goodR rs l := (List.mergeSort_perm _ _).mem_iff
theorem sort_len (rs l : List O) : (sortR rs l).length = (goodR rs l).length := (List.mergeSort_perm _ _).length_eq
theorem good_left (rs0 l : List O) : ∀ rs : List O, (rs.filterMap (goodOf rs0 l)).length + (rs.filter fun r => (resR rs0 l r).isNone).length = rs.length := by
  intro rs
  induction rs with
  | nil => rfl
  | cons r rs ih =>
    rw [List.filterMap_cons, List.filter_cons]
    unfold goodOf
    cases h : resR rs0 l r with
    | none => simp only [Option.map_none, Option.isNone_none, if_true, List.length_cons]; unfold goodOf at ih; omega
    | some a => simp only [Option.map_some, Option.isNone_some, List.length_cons]; unfold goodOf at ih; simp; omega
theorem parts_len (rs l : List O) : (sortR rs l).length + (leftR rs l).length = rs.length := by rw [sort_len]; exact good_left rs l rs
/-- The key of a path. -/
theorem key_some {a k : ByteArray} (h : keyB a = some k) : ∃ p, pathOfL a.data.toList = some p ∧ k.data.toList = trimS (addrL p) := by
  unfold keyB keyL at h
  cases hp : pathOfL a.data.toList with
  | none => rw [hp] at h; cases h
  | some p => rw [hp] at h; cases h; exact ⟨p, rfl, rfl⟩
theorem pathOf_some {a p : List UInt8} (h : pathOfL a = some p) : ∃ s, a = 47 :: s ∧ rawL s = p ∧ pathB p = true := by
  unfold pathOfL at h
  split at h
  · cases h
  · rename_i c s
    split at h
    · rename_i hc
      subst hc
      split at h
      · rename_i hp; cases h; exact ⟨s, rfl, rfl, hp⟩
      · cases h
    · cases h
theorem key0_of {a : ByteArray} (h : (keyB a).isSome = true) : ∃ p, pathOfL a.data.toList = some p ∧ (key0 a).data.toList = trimS (addrL p) := by
  obtain ⟨k, hk⟩ := Option.isSome_iff_exists.1 h
  obtain ⟨p, h1, h2⟩ := key_some hk
  exact ⟨p, h1, by unfold key0; rw [hk]; exact h2⟩
/-- The path of a From that is no output's key is no output. -/
theorem from_no {l : List O} {r : O} {p : List UInt8} (hr : RedOk r) (hp : pathOfL r.p.data.toList = some p) (h : outF l (key0 r.p) = none) : ∀ o ∈ l, o.p.data.toList ≠ p := fun o ho e => by
  obtain ⟨p', h1, h2⟩ := key0_of hr.1
  rw [hp] at h1
  cases h1
  apply outF_none h o ho
  apply bytes_eq
  rw [h2]
  show trimS (adO o) = _
  unfold adO
  rw [e]
/-- .. nor is its directory's index, if the From ends without a slash. -/
theorem from_nodir {l : List O} {r : O} {p : List UInt8} (hr : RedOk r) (hp : pathOfL r.p.data.toList = some p) (h : outF l (key0 r.p) = none) (hs : Lib.hasSuffix r.p.data.toList [47] = false) : ∀ o ∈ l, o.p.data.toList ≠ p ++ idxL := fun o ho e => by
  obtain ⟨p', h1, h2⟩ := key0_of hr.1
  rw [hp] at h1
  cases h1
  obtain ⟨s, e1, e2, e3⟩ := pathOf_some hp
  have hs0 : s ≠ [] ∧ s.getLast? ≠ some 47 := by
    refine ⟨fun hn => ?_, fun hn => ?_⟩
    · subst hn
      rw [e1] at hs
      cases hs
    · obtain ⟨y, hy⟩ := List.getLast?_eq_some_iff.1 hn
      rw [e1, hy] at hs
      have : Lib.hasSuffix (47 :: (y ++ [47])) [47] = true := List.isSuffixOf_iff_suffix.2 ⟨47 :: y, by simp⟩
      rw [this] at hs; cases hs
  have hraw : rawL s = s := by
    unfold rawL
    rw [if_neg (by rintro (q | q); exact hs0.1 q; exact hs0.2 q)]
  rw [hraw] at e2
  subst e2
  have hno : idxL.isSuffixOf (47 :: s) = false := by have := hr.2.2.1; unfold idxE at this; rw [e1] at this; exact this
  have ha : addrL s = 47 :: s := by unfold addrL; rw [hno]; rfl
  have ht : trimS (47 :: s) = 47 :: s := by
    unfold trimS Lib.trimSuffix
    rw [e1] at hs
    rw [if_neg (by rw [hs]; decide)]
  apply outF_none h o ho
  apply bytes_eq
  rw [h2, ha, ht]
  show trimS (adO o) = _
  unfold adO
  rw [e]
  have hyes : idxL.isSuffixOf (47 :: (s ++ idxL)) = true := List.isSuffixOf_iff_suffix.2 ⟨47 :: s, by simp⟩
  have hlen : (47 :: (s ++ idxL)).length = s.length + 12 := by simp [idxL, idxT]
  have ht2 : addrL (s ++ idxL) = 47 :: s ++ [47] := by
    unfold addrL
    rw [if_pos hyes, hlen]
    have : (47 :: (s ++ idxL) : List UInt8) = (47 :: s ++ [47]) ++ idxT := by simp [idxL]
    rw [this, List.take_left' (by simp)]
  rw [ht2]
  unfold trimS Lib.trimSuffix
  rw [if_pos (show Lib.hasSuffix (47 :: s ++ [47]) [47] = true from List.isSuffixOf_iff_suffix.2 ⟨47 :: s, rfl⟩)]
  simp
/-- Bytes of a From. -/
theorem from_bytes {a p : List UInt8} (hp : pathOfL a = some p) {x : UInt8} (hx : x ∈ a) : x = 47 ∨ shB (x.toNat : Int) = true := by
  obtain ⟨s, e1, e2, e3⟩ := pathOf_some hp
  rw [e1] at hx
  rcases List.mem_cons.1 hx with rfl | hx
  · exact .inl rfl
  · have : x ∈ p := by
      rw [← e2]
      unfold rawL
      split
      · exact List.mem_append.2 (.inl hx)
      · exact hx
    exact path_bytes e3 this
/-- Two redirects of one From are one. -/
theorem from_inj {rs : List O} (h : MovOk rs) : rs.Pairwise (fun r q => r.p ≠ q.p) := h.2.2.imp fun hne e => hne (by rw [e])
theorem count_from {α : Type} (f : O → α) [DecidableEq α] : ∀ {rs : List O}, rs.Pairwise (fun r q => f r ≠ f q) → ∀ {r : O}, r ∈ rs → (rs.filter fun q => decide (f q = f r)).length = 1 := by
  intro rs
  induction rs with
  | nil => intro _ r h; simp at h
  | cons a rs ih =>
    intro hp r hr
    obtain ⟨ha, hp⟩ := List.pairwise_cons.1 hp
    rw [List.filter_cons]
    rcases List.mem_cons.1 hr with rfl | hr
    · rw [if_pos (decide_eq_true rfl)]
      have : rs.filter (fun q => decide (f q = f r)) = [] := List.filter_eq_nil_iff.2 fun q hq h => ha q hq (of_decide_eq_true h).symm
      rw [this]; rfl
    · rw [if_neg (by intro h; exact ha r hr (of_decide_eq_true h))]
      exact ih hp hr
theorem count_good (rs0 l : List O) (r : O) (hres : (resR rs0 l r).isSome = true) : ∀ {rs : List O}, rs.Pairwise (fun r q => r.p ≠ q.p) → r ∈ rs → ((rs.filterMap (goodOf rs0 l)).filter fun q => decide (q.p = r.p)).length = 1 := by
  intro rs
  induction rs with
  | nil => intro _ h; simp at h
  | cons a rs ih =>
    intro hp hr
    obtain ⟨ha, hp⟩ := List.pairwise_cons.1 hp
    have hno : a = r → ((rs.filterMap (goodOf rs0 l)).filter fun q => decide (q.p = r.p)) = [] := fun e => by
      subst e
      refine List.filter_eq_nil_iff.2 fun q hq h => ?_
      obtain ⟨x, hx, hg⟩ := List.mem_filterMap.1 hq
      unfold goodOf at hg
      obtain ⟨to, _, rfl⟩ := Option.map_eq_some_iff.1 hg
      exact ha x hx (of_decide_eq_true h).symm
    rw [List.filterMap_cons]
    rcases List.mem_cons.1 hr with rfl | hr
    · obtain ⟨to, hto⟩ := Option.isSome_iff_exists.1 hres
      have hg : goodOf rs0 l r = some ⟨r.p, to⟩ := by unfold goodOf; rw [hto]; rfl
      rw [hg]
      simp only
      rw [List.filter_cons, if_pos (decide_eq_true rfl), hno rfl]; rfl
    · cases hg : goodOf rs0 l a with
      | none => exact ih hp hr
      | some q =>
        simp only
        have hq : q.p = a.p := by
          unfold goodOf at hg
          obtain ⟨to, _, rfl⟩ := Option.map_eq_some_iff.1 hg
          rfl
        rw [List.filter_cons, if_neg (by intro h; have := of_decide_eq_true h; rw [hq] at this; exact ha r hr this)]
        exact ih hp hr
theorem count_good_no (rs0 l : List O) (r : O) (hres : (resR rs0 l r).isSome = false) : ∀ {rs : List O}, rs.Pairwise (fun r q => r.p ≠ q.p) → r ∈ rs → ((rs.filterMap (goodOf rs0 l)).filter fun q => decide (q.p = r.p)).length = 0 := by
  intro rs hp hr
  rw [List.length_eq_zero_iff]
  refine List.filter_eq_nil_iff.2 fun q hq h => ?_
  obtain ⟨x, hx, hg⟩ := List.mem_filterMap.1 hq
  unfold goodOf at hg
  obtain ⟨to, h1, rfl⟩ := Option.map_eq_some_iff.1 hg
  have hxp : x.p = r.p := of_decide_eq_true h
  have : x = r := by
    obtain ⟨i, hi, rfl⟩ := List.mem_iff_getElem.1 hx
    obtain ⟨j, hj, rfl⟩ := List.mem_iff_getElem.1 hr
    rw [List.pairwise_iff_getElem] at hp
    rcases Nat.lt_trichotomy i j with q | q | q
    · exact absurd hxp (hp i j hi hj q)
    · subst q; rfl
    · exact absurd hxp.symm (hp j i hj hi q)
  subst this
  rw [h1] at hres; cases hres
/-- A redirect stands once, among the resolved or among the others. -/
theorem count_law {rs l : List O} (h : MovOk rs) {r : O} (hr : r ∈ rs) :
    ((sortR rs l).filter fun q => decide (q.p = r.p)).length + ((leftR rs l).filter fun q => decide (q.p = r.p ∧ q.b = r.b)).length = 1 := by
  have hp := from_inj h
  have e1 : ((sortR rs l).filter fun q => decide (q.p = r.p)).length = ((goodR rs l).filter fun q => decide (q.p = r.p)).length := ((List.mergeSort_perm _ _).filter _).length_eq
  have e2 : ((leftR rs l).filter fun q => decide (q.p = r.p ∧ q.b = r.b)).length = if (resR rs l r).isNone = true then 1 else 0 := by
    have g : ∀ q ∈ rs, (q.p = r.p ∧ q.b = r.b) ↔ q.p = r.p := fun q hq => ⟨fun h => h.1, fun e => ⟨e, by
      obtain ⟨i, hi, rfl⟩ := List.mem_iff_getElem.1 hq
      obtain ⟨j, hj, rfl⟩ := List.mem_iff_getElem.1 hr
      rw [List.pairwise_iff_getElem] at hp
      rcases Nat.lt_trichotomy i j with q | q | q
      · exact absurd e (hp i j hi hj q)
      · subst q; rfl
      · exact absurd e.symm (hp j i hj hi q)⟩⟩
    unfold leftR
    rw [List.filter_filter]
    by_cases hn : (resR rs l r).isNone = true
    · rw [if_pos hn, ← count_from (fun q : O => q.p) hp hr]
      congr 1
      refine List.filter_congr fun q hq => ?_
      rw [Bool.eq_iff_iff, Bool.and_eq_true, decide_eq_true_iff, decide_eq_true_iff, g q hq]
      refine ⟨fun x => x.1, fun x => ⟨x, ?_⟩⟩
      have : q = r := by
        obtain ⟨i, hi, rfl⟩ := List.mem_iff_getElem.1 hq
        obtain ⟨j, hj, rfl⟩ := List.mem_iff_getElem.1 hr
        rw [List.pairwise_iff_getElem] at hp
        rcases Nat.lt_trichotomy i j with q | q | q
        · exact absurd x (hp i j hi hj q)
        · subst q; rfl
        · exact absurd x.symm (hp j i hj hi q)
      rw [this]; exact hn
    · rw [if_neg hn, List.length_eq_zero_iff]
      refine List.filter_eq_nil_iff.2 fun q hq x => ?_
      rw [Bool.and_eq_true, decide_eq_true_iff, g q hq] at x
      have : q = r := by
        obtain ⟨i, hi, rfl⟩ := List.mem_iff_getElem.1 hq
        obtain ⟨j, hj, rfl⟩ := List.mem_iff_getElem.1 hr
        rw [List.pairwise_iff_getElem] at hp
        rcases Nat.lt_trichotomy i j with q | q | q
        · exact absurd x.1 (hp i j hi hj q)
        · subst q; rfl
        · exact absurd x.1.symm (hp j i hj hi q)
      rw [this] at x
      exact hn x.2
  rw [e1, e2]
  unfold goodR
  cases hs : resR rs l r with
  | none => rw [count_good_no rs l r (by rw [hs]; rfl) hp hr]; rfl
  | some a => rw [count_good rs l r (by rw [hs]; rfl) hp hr]; rfl
end Mh
