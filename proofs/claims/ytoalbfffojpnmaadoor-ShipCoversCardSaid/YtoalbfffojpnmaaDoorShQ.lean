/- Outputs of a site: paths, addresses, what is valid, what differs. No program. -/
import Derived.Test.YtoalbfffojpnmaaDoorTxt
import Derived.Shelf.SlSorted.Search
namespace Mh
open Go Go.RowKit
set_option linter.unusedVariables false

/-- Strings in their order. -/
def kl (a b : ByteArray) : Bool := decide (a.data.toList < b.data.toList)
theorem kl_irrefl (a : ByteArray) : kl a a = false := decide_eq_false (List.lt_irrefl _)
theorem kl_trans {a b c : ByteArray} (h : kl a b = true) (h2 : kl b c = true) : kl a c = true :=
  decide_eq_true (List.lt_trans (of_decide_eq_true h) (of_decide_eq_true h2))
theorem kl_total {a b : ByteArray} (h : kl a b = false) (h2 : kl b a = false) : a = b := by
  have h3 : a.data.toList = b.data.toList := List.le_antisymm (List.not_lt.1 (of_decide_eq_false h2)) (List.not_lt.1 (of_decide_eq_false h))
  cases a; cases b
  simpa [Array.toList_inj] using h3
theorem lt_cases (a b : ByteArray) : (kl b a = true ∧ Op.bytesLess a.toList b.toList = false ∧ (a.toList == b.toList) = false) ∨ (kl b a = false ∧ Op.bytesLess a.toList b.toList = true) ∨ (kl b a = false ∧ Op.bytesLess a.toList b.toList = false ∧ (a.toList == b.toList) = true) := by
  rw [Go.Proofs.bytesLess_eq, Lib.toList_data, Lib.toList_data]
  show (kl b a = true ∧ kl a b = false ∧ _) ∨ (kl b a = false ∧ kl a b = true) ∨ (kl b a = false ∧ kl a b = false ∧ _)
  cases h1 : kl b a with
  | true =>
    refine .inl ⟨rfl, ?_, ?_⟩
    · cases h2 : kl a b with
      | false => rfl
      | true => have := kl_trans h1 h2; rw [kl_irrefl] at this; cases this
    · rw [beq_eq_false_iff_ne]
      intro e
      have h3 : a = b := by cases a; cases b; simpa [Array.toList_inj] using e
      rw [h3, kl_irrefl] at h1; cases h1
  | false =>
    cases h2 : kl a b with
    | true => exact .inr (.inl ⟨rfl, rfl⟩)
    | false => exact .inr (.inr ⟨rfl, rfl, by rw [kl_total h2 h1]; simp⟩)
theorem bytes_eq {a b : ByteArray} (h : a.data.toList = b.data.toList) : a = b := by cases a; cases b; simpa [Array.toList_inj] using h

/-- A byte of a part of a path. -/
def shB (n : Int) : Bool := (decide (97 ≤ n) && decide (n ≤ 122)) || (decide (48 ≤ n) && decide (n ≤ 57)) || (n == 45) || (n == 95) || (n == 46)
def partB (l : List UInt8) : Bool := decide (1 ≤ l.length) && decide (l.length ≤ 40) && !(l == [46]) && !(l == [46, 46]) && l.all fun c => shB (c.toNat : Int)
def pathB (l : List UInt8) : Bool := decide (l.length ≤ 200) && (spl 47 l).all partB
theorem spl_mem {c : UInt8} : ∀ {l : List UInt8} {x : UInt8}, x ∈ l → x = c ∨ ∃ p ∈ spl c l, x ∈ p := by
  intro l
  induction l with
  | nil => intro x h; simp at h
  | cons b l ih =>
    intro x h
    unfold spl
    by_cases hb : b = c
    · rw [if_pos hb]
      rcases List.mem_cons.1 h with rfl | h
      · exact .inl hb
      · rcases ih h with h | ⟨p, hp, hx⟩
        · exact .inl h
        · exact .inr ⟨p, by simp [hp], hx⟩
    · rw [if_neg hb]
      have hne := spl_ne c l
      rcases List.mem_cons.1 h with rfl | h
      · exact .inr ⟨_, List.mem_cons_self, by simp⟩
      · rcases ih h with h | ⟨p, hp, hx⟩
        · exact .inl h
        · obtain ⟨q, t, hq⟩ : ∃ q t, spl c l = q :: t := by
            cases hs : spl c l with
            | nil => exact absurd hs hne
            | cons q t => exact ⟨q, t, rfl⟩
          rw [hq] at hp ⊢
          simp only [List.headD_cons, List.tail_cons]
          rcases List.mem_cons.1 hp with rfl | hp
          · exact .inr ⟨_, List.mem_cons_self, by simp [hx]⟩
          · exact .inr ⟨p, by simp [hp], hx⟩
theorem spl_last (c : UInt8) : ∀ y : List UInt8, ∃ l, l ≠ [] ∧ spl c (y ++ [c]) = l ++ [[]] := by
  intro y
  induction y with
  | nil => exact ⟨[[]], by simp, by simp [spl]⟩
  | cons b y ih =>
    obtain ⟨l, hl, h⟩ := ih
    obtain ⟨q, t, rfl⟩ : ∃ q t, l = q :: t := by cases l with
      | nil => exact absurd rfl hl
      | cons q t => exact ⟨q, t, rfl⟩
    simp only [List.cons_append]
    unfold spl
    rw [h]
    by_cases hb : b = c
    · rw [if_pos hb]; exact ⟨[] :: q :: t, by simp, by simp⟩
    · rw [if_neg hb]; exact ⟨(b :: q) :: t, by simp, by simp⟩
theorem path_nil : pathB [] = false := rfl
theorem path_end (y : List UInt8) : pathB (y ++ [47]) = false := by
  obtain ⟨l, _, h⟩ := spl_last 47 y
  unfold pathB
  rw [h, List.all_append]
  have : ([([] : List UInt8)].all partB) = false := rfl
  rw [this]; simp
theorem path_bytes {l : List UInt8} (h : pathB l = true) {x : UInt8} (hx : x ∈ l) : x = 47 ∨ shB (x.toNat : Int) = true := by
  unfold pathB at h
  rw [Bool.and_eq_true] at h
  rcases spl_mem (c := 47) hx with e | ⟨p, hp, hxp⟩
  · exact .inl e
  · have h1 := List.all_eq_true.1 h.2 p hp
    unfold partB at h1
    simp only [Bool.and_eq_true] at h1
    exact .inr (List.all_eq_true.1 h1.2 x hxp)
theorem path_len {l : List UInt8} (h : pathB l = true) : l.length ≤ 200 := by
  unfold pathB at h
  rw [Bool.and_eq_true] at h
  exact of_decide_eq_true h.1
def idxT : List UInt8 := [105, 110, 100, 101, 120, 46, 104, 116, 109, 108]
def idxL : List UInt8 := 47 :: idxT
/-- A path's address. -/
def addrL (p : List UInt8) : List UInt8 := if idxL.isSuffixOf (47 :: p) = true then (47 :: p).take ((47 :: p).length - 10) else 47 :: p
/-- An address's path. -/
def rawL (s : List UInt8) : List UInt8 := if s = [] ∨ s.getLast? = some 47 then s ++ idxT else s
def pathOfL : List UInt8 → Option (List UInt8)
  | [] => none
  | c :: s => if c = 47 then (if pathB (rawL s) = true then some (rawL s) else none) else none
theorem path_addr {p : List UInt8} (h : pathB p = true) : ∃ s, addrL p = 47 :: s ∧ rawL s = p := by
  unfold addrL
  by_cases hs : idxL.isSuffixOf (47 :: p) = true
  · rw [if_pos hs]
    obtain ⟨x, hx⟩ := List.isSuffixOf_iff_suffix.1 hs
    have hl : (47 :: p).length - 10 = x.length + 1 := by rw [← hx]; simp [idxL, idxT]
    rw [hl, ← hx]
    have e1 : (x ++ idxL).take (x.length + 1) = x ++ [47] := by
      rw [List.take_append, List.take_of_length_le (by omega)]
      have : x.length + 1 - x.length = 1 := by omega
      rw [this]; rfl
    rw [e1]
    cases x with
    | nil =>
      refine ⟨[], rfl, ?_⟩
      have : p = idxT := by simpa [idxL] using hx.symm
      rw [this]; rfl
    | cons c x =>
      simp only [List.cons_append, List.cons.injEq] at hx
      obtain ⟨rfl, hx⟩ := hx
      refine ⟨x ++ [47], rfl, ?_⟩
      unfold rawL
      rw [if_pos (.inr (by simp))]
      rw [← hx]; simp [idxL]
  · rw [if_neg hs]
    refine ⟨p, rfl, ?_⟩
    unfold rawL
    rw [if_neg]
    rintro (rfl | h1)
    · rw [path_nil] at h; cases h
    · obtain ⟨y, hy⟩ := List.getLast?_eq_some_iff.1 h1
      rw [hy, path_end] at h; cases h
theorem pathOf_addr {p : List UInt8} (h : pathB p = true) : pathOfL (addrL p) = some p := by
  obtain ⟨s, h1, h2⟩ := path_addr h
  rw [h1]
  show (if (47 : UInt8) = 47 then (if pathB (rawL s) = true then some (rawL s) else none) else none) = some p
  rw [if_pos rfl, h2, if_pos h]
theorem addr_inj {p q : List UInt8} (hp : pathB p = true) (hq : pathB q = true) (h : addrL p = addrL q) : p = q := by
  have h1 := pathOf_addr hp
  rw [h, pathOf_addr hq] at h1
  exact (Option.some.inj h1).symm
theorem addr_len (p : List UInt8) : (addrL p).length ≤ p.length + 1 := by
  unfold addrL
  split
  · rw [List.length_take]; simp; omega
  · simp
theorem addr_bytes {p : List UInt8} (h : pathB p = true) {x : UInt8} (hx : x ∈ addrL p) : x = 47 ∨ shB (x.toNat : Int) = true := by
  have h1 : x ∈ 47 :: p := by
    unfold addrL at hx
    split at hx
    · exact List.mem_of_mem_take hx
    · exact hx
  rcases List.mem_cons.1 h1 with h1 | h1
  · exact .inl h1
  · exact path_bytes h h1

/-- An output. -/
structure O where
  p : ByteArray
  b : ByteArray
def preB (q p : ByteArray) : Bool := Lib.hasPrefix p.data.toList (q ++ ⟨#[47]⟩).data.toList
def OutAt (l : List O) (i : Nat) (h : i < l.length) : Prop := pathB l[i].p.data.toList = true ∧ (∀ h0 : 0 < i, kl (l[i - 1]'(by omega)).p l[i].p = true) ∧ (∀ j (hj : j < l.length), i < j → preB l[i].p l[j].p = false) ∧ l[i].b.size ≤ 200000
/-- What CheckOuts lets pass. -/
def Outs (l : List O) : Prop := l.length ≤ 480 ∧ ∀ i (h : i < l.length), OutAt l i h
theorem Outs.path {l : List O} (h : Outs l) {o : O} (ho : o ∈ l) : pathB o.p.data.toList = true := by
  obtain ⟨i, hi, rfl⟩ := List.mem_iff_getElem.1 ho
  exact (h.2 i hi).1
theorem Outs.asc {l : List O} (h : Outs l) : ∀ (d i : Nat) (hi : i + d + 1 < l.length), kl (l[i]'(by omega)).p l[i + d + 1].p = true := by
  intro d
  induction d with
  | zero => intro i hi; have := (h.2 (i + 0 + 1) hi).2.1 (by omega); simpa using this
  | succ d ih =>
    intro i hi
    have h1 := ih i (by omega)
    have h2 := (h.2 (i + (d + 1) + 1) hi).2.1 (by omega)
    refine kl_trans h1 ?_
    have e : i + (d + 1) + 1 - 1 = i + d + 1 := by omega
    simpa only [e] using h2
theorem Outs.lt {l : List O} (h : Outs l) {i j : Nat} (hi : i < j) (hj : j < l.length) : kl (l[i]'(by omega)).p l[j].p = true := by
  have := h.asc (j - i - 1) i (by omega)
  have e : i + (j - i - 1) + 1 = j := by omega
  simpa [e] using this
/-- The body of a path. -/
def lookO (l : List O) (s : ByteArray) : Option ByteArray := (l.find? fun o => decide (o.p = s)).map O.b
theorem look_none {l : List O} {s : ByteArray} : lookO l s = none ↔ ∀ o ∈ l, o.p ≠ s := by
  unfold lookO
  rw [Option.map_eq_none_iff, List.find?_eq_none]
  simp
theorem Outs.look_at {l : List O} (h : Outs l) {i : Nat} (hi : i < l.length) : lookO l l[i].p = some l[i].b := by
  unfold lookO
  have : (l.find? fun o => decide (o.p = l[i].p)) = some l[i] := by
    rw [List.find?_eq_some_iff_getElem]
    refine ⟨by simp, i, hi, rfl, fun j hj => ?_⟩
    have h1 := h.lt hj hi
    simp only [Bool.not_eq_true', decide_eq_false_iff_not]
    intro e
    rw [e, kl_irrefl] at h1; cases h1
  rw [this]; rfl
theorem Outs.look_mem {l : List O} (h : Outs l) {o : O} (ho : o ∈ l) : lookO l o.p = some o.b := by
  obtain ⟨i, hi, rfl⟩ := List.mem_iff_getElem.1 ho
  exact h.look_at hi
theorem look_some {l : List O} {s b : ByteArray} (h : lookO l s = some b) : ∃ o ∈ l, o.p = s ∧ o.b = b := by
  unfold lookO at h
  obtain ⟨o, h1, rfl⟩ := Option.map_eq_some_iff.1 h
  exact ⟨o, List.mem_of_find?_eq_some h1, by simpa using List.find?_some h1, rfl⟩
/-- The bodies as a map has them: the last of each path. -/
def bodF : List O → ByteArray → Option ByteArray
  | [], _ => none
  | o :: l, s => (bodF l s).or (if s = o.p then some o.b else none)
theorem bodF_app (a : List O) (o : O) (s : ByteArray) : bodF (a ++ [o]) s = if s = o.p then some o.b else bodF a s := by
  induction a with
  | nil => simp [bodF]
  | cons x a ih =>
    simp only [List.cons_append, bodF, ih]
    split <;> simp
theorem bodF_mem {l : List O} {s b : ByteArray} (h : bodF l s = some b) : ∃ o ∈ l, o.p = s ∧ o.b = b := by
  induction l with
  | nil => cases h
  | cons x l ih =>
    simp only [bodF] at h
    cases hb : bodF l s with
    | some c =>
      rw [hb] at h
      have h : some c = some b := h
      simp only [Option.some.injEq] at h
      obtain ⟨o, h1, h2, h3⟩ := ih (by rw [hb, h])
      exact ⟨o, by simp [h1], h2, h3⟩
    | none =>
      rw [hb] at h
      simp only [Option.none_or] at h
      split at h
      · rename_i e
        cases h
        exact ⟨x, by simp, e.symm, rfl⟩
      · cases h
theorem bodF_none {l : List O} {s : ByteArray} (h : bodF l s = none) : ∀ o ∈ l, o.p ≠ s := by
  induction l with
  | nil => simp
  | cons x l ih =>
    simp only [bodF, Option.or_eq_none_iff] at h
    intro o ho e
    rcases List.mem_cons.1 ho with rfl | ho
    · rw [if_pos e.symm] at h; cases h.2
    · exact ih h.1 o ho e
theorem Outs.bod {l : List O} (h : Outs l) (s : ByteArray) : bodF l s = lookO l s := by
  cases hb : bodF l s with
  | none => exact (look_none.2 (bodF_none hb)).symm
  | some b =>
    obtain ⟨o, h1, rfl, rfl⟩ := bodF_mem hb
    exact (h.look_mem h1).symm
/-- The addresses that Events returns, before they are sorted. -/
def evOld (new : List O) (o : O) : Bool := decide (lookO new o.p ≠ some o.b)
def evNew (old : List O) (o : O) : Bool := decide (lookO old o.p = none)
def adO (o : O) : List UInt8 := addrL o.p.data.toList
def evL (old new : List O) : List (List UInt8) := (old.filter (evOld new)).map adO ++ (new.filter (evNew old)).map adO
theorem ev_has {old new : List O} (ho : Outs old) (hn : Outs new) {x : O} (hx : x ∈ old ++ new) : adO x ∈ evL old new ↔ lookO old x.p ≠ lookO new x.p := by
  have hpx : pathB x.p.data.toList = true := by
    rcases List.mem_append.1 hx with h | h
    · exact ho.path h
    · exact hn.path h
  unfold evL
  rw [List.mem_append, List.mem_map, List.mem_map]
  constructor
  · rintro (⟨o, h1, h2⟩ | ⟨o, h1, h2⟩)
    · obtain ⟨h1, h3⟩ := List.mem_filter.1 h1
      have e : o.p = x.p := bytes_eq (addr_inj (ho.path h1) hpx h2)
      have h4 := ho.look_mem h1
      have h5 := of_decide_eq_true h3
      rw [e] at h4 h5
      rw [h4]
      exact fun h => h5 h.symm
    · obtain ⟨h1, h3⟩ := List.mem_filter.1 h1
      have e : o.p = x.p := bytes_eq (addr_inj (hn.path h1) hpx h2)
      have h4 := hn.look_mem h1
      have h5 : lookO old o.p = none := of_decide_eq_true h3
      rw [e] at h4 h5
      rw [h4, h5]
      exact fun h => by cases h
  · intro h
    cases hl : lookO old x.p with
    | some b =>
      obtain ⟨o, h1, h2, rfl⟩ := look_some hl
      refine .inl ⟨o, List.mem_filter.2 ⟨h1, decide_eq_true ?_⟩, by unfold adO; rw [h2]⟩
      rw [h2]
      intro h3
      rw [hl, h3] at h
      exact h rfl
    | none =>
      cases hl2 : lookO new x.p with
      | none => rw [hl, hl2] at h; exact absurd rfl h
      | some b =>
        obtain ⟨o, h1, h2, rfl⟩ := look_some hl2
        refine .inr ⟨o, List.mem_filter.2 ⟨h1, decide_eq_true ?_⟩, by unfold adO; rw [h2]⟩
        rw [h2]; exact hl
/-- As the law's own walk says it: a body and whether there is one. -/
theorem ev_law {old new : List O} (ho : Outs old) (hn : Outs new) {x : O} (hx : x ∈ old ++ new) :
    decide (adO x ∈ evL old new) = (((lookO old x.p).isSome != (lookO new x.p).isSome) || decide ((lookO old x.p).getD ⟨#[]⟩ ≠ (lookO new x.p).getD ⟨#[]⟩)) := by
  rw [Bool.eq_iff_iff, decide_eq_true_eq, ev_has ho hn hx]
  cases h1 : lookO old x.p <;> cases h2 : lookO new x.p <;> simp
end Mh
