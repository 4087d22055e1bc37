/- The parser's steps, plain: tokens and their numbers; how much a value takes of what is to be read. · (*parser).list: what it reads. Conditions: what value reads one level deeper. -/
import Derived.Test.YtejnoedlfbglcaaGreatDoorPsH
import Derived.Test.YtejnoedlfbglcaaGreatDoorWvB
import Derived.Test.YtejnoedlfbglcaaGreatDoorKeV0
import Derived.Deep.RegionLaw
import Derived.Deep.CutRange
namespace Mh
open Go Go.RowKit
set_option linter.unusedVariables false

/-- A sign is no number of another token. -/
def Tk.fit : Tk → Prop
  | .sign c => 10 ≤ c.toNat
  | _ => True
theorem nextF_fit (lines : Bool) : ∀ (l : List UInt8) (cm : Bool) (t : Tk) (r : List UInt8), nextF lines cm l = some (t, r) → t.fit := by
  intro l
  induction l with
  | nil => intro cm t r h; simp only [nextF, Option.some.injEq, Prod.mk.injEq] at h; obtain ⟨rfl, rfl⟩ := h; trivial
  | cons c l ih =>
    intro cm t r h
    unfold nextF at h
    split at h
    · cases h
    split at h
    · rename_i h10
      split at h
      · exact ih _ _ _ h
      · cases h; show 10 ≤ c.toNat; omega
    split at h
    · exact ih _ _ _ h
    split at h
    · exact ih _ _ _ h
    split at h
    · cases h; trivial
    split at h
    · cases ht : textF l with
      | none => rw [ht] at h; cases h
      | some p => obtain ⟨o, r'⟩ := p; rw [ht] at h; cases h; trivial
    split at h
    · rename_i hs
      cases h
      show 10 ≤ c.toNat
      unfold signB at hs
      simp only [Bool.or_eq_true, decide_eq_true_eq] at hs
      omega
    · cases h
theorem textF_out : ∀ (n : Nat) (l o r : List UInt8), l.length ≤ n → textF l = some (o, r) → o.length ≤ l.length := by
  intro n
  induction n with
  | zero => intro l o r hl h; cases l with
    | nil => simp [textF] at h
    | cons a l => simp at hl
  | succ n ih =>
    intro l o r hl h
    cases l with
    | nil => simp [textF] at h
    | cons c l =>
      rw [textF_cons] at h
      split at h
      · cases h; simp
      split at h
      · cases h
      split at h
      · cases h
      split at h
      · cases l with
        | nil => simp at h
        | cons d l' =>
          simp only at h
          cases he : escB d with
          | none => rw [he] at h; cases h
          | some e =>
            rw [he] at h
            cases ht : textF l' with
            | none => rw [ht] at h; cases h
            | some p =>
              obtain ⟨o', r'⟩ := p
              rw [ht] at h
              cases h
              have := ih l' _ _ (by simp at hl; omega) ht
              simp; omega
      · cases ht : textF l with
        | none => rw [ht] at h; cases h
        | some p =>
          obtain ⟨o', r'⟩ := p
          rw [ht] at h
          cases h
          have := ih l _ _ (by simpa using hl) ht
          simp; omega
theorem tkT_len (l : List UInt8) : (⟨l.toArray⟩ : ByteArray).size = l.length := by show l.toArray.size = _; simp
theorem nextF_size (lines : Bool) : ∀ (l : List UInt8) (cm : Bool) (t : Tk) (r : List UInt8), nextF lines cm l = some (t, r) → (tkT t).size ≤ l.length := by
  intro l
  induction l with
  | nil => intro cm t r h; simp only [nextF, Option.some.injEq, Prod.mk.injEq] at h; obtain ⟨rfl, rfl⟩ := h; exact Nat.zero_le _
  | cons c l ih =>
    intro cm t r h
    unfold nextF at h
    split at h
    · cases h
    split at h
    · split at h
      · have := ih _ _ _ h; simp; omega
      · cases h; exact Nat.zero_le _
    split at h
    · have := ih _ _ _ h; simp; omega
    split at h
    · have := ih _ _ _ h; simp; omega
    split at h
    · cases h; show (⟨((c :: l).takeWhile wordB).toArray⟩ : ByteArray).size ≤ _; rw [tkT_len]; exact (List.takeWhile_prefix _).length_le
    split at h
    · cases ht : textF l with
      | none => rw [ht] at h; cases h
      | some p => obtain ⟨o, r'⟩ := p; rw [ht] at h; cases h; show (⟨o.toArray⟩ : ByteArray).size ≤ _; rw [tkT_len]; have := textF_out _ _ _ _ (Nat.le_refl _) ht; simp; omega
    split at h
    · cases h; exact Nat.zero_le _
    · cases h
theorem tk_line {t : Tk} (h : t.fit) : t.line = ((tkK t == 10) || (tkK t == 59)) := by
  cases t with
  | sign c =>
    show (decide (c.toNat = 10) || decide (c.toNat = 59)) = _
    congr 1 <;> (rw [Bool.eq_iff_iff]; simp only [decide_eq_true_eq, beq_iff_eq, tkK]; omega)
  | _ => rfl
theorem tk_shut {t : Tk} (h : t.fit) : t.shut = (tkK t == 93) := by
  cases t with
  | sign c =>
    show decide (c.toNat = 93) = _
    rw [Bool.eq_iff_iff]; simp only [decide_eq_true_eq, beq_iff_eq, tkK]; omega
  | _ => rfl
def endI (brace : Bool) : Int := if brace = true then 125 else 0
theorem tk_ends {t : Tk} (brace : Bool) (h : t.fit) : t.ends brace = (tkK t == endI brace) := by
  cases t with
  | fin => cases brace <;> rfl
  | word s => cases brace <;> rfl
  | text s => cases brace <;> rfl
  | sign c =>
    have hc : 10 ≤ c.toNat := h
    cases brace with
    | true => show (true && decide (c.toNat = 125)) = _; rw [Bool.eq_iff_iff]; simp only [Bool.true_and, decide_eq_true_eq, beq_iff_eq, tkK, endI, if_true]; omega
    | false =>
      show (false && decide (c.toNat = 125)) = _
      have : (tkK (.sign c) == endI false) = false := by rw [beq_eq_false_iff_ne]; show (c.toNat : Int) ≠ 0; omega
      rw [this]; rfl
theorem tk_word {t : Tk} (h : t.fit) : (tkK t = 1) ↔ ∃ w, t = .word w := by
  cases t with
  | fin => simp [tkK]
  | word s => simp [tkK]
  | text s => simp [tkK]
  | sign c => have hc : 10 ≤ c.toNat := h; simp only [tkK]; constructor; omega; rintro ⟨w, h⟩; cases h
theorem tk_text {t : Tk} (h : t.fit) : (tkK t = 2) ↔ ∃ w, t = .text w := by
  cases t with
  | fin => simp [tkK]
  | word s => simp [tkK]
  | text s => simp [tkK]
  | sign c => have hc : 10 ≤ c.toNat := h; simp only [tkK]; constructor; omega; rintro ⟨w, h⟩; cases h
theorem tk_fin {t : Tk} (h : t.fit) : (tkK t = 0) ↔ t = .fin := by
  cases t with
  | fin => simp [tkK]
  | word s => simp [tkK]
  | text s => simp [tkK]
  | sign c => have hc : 10 ≤ c.toNat := h; simp only [tkK]; constructor; omega; intro h; cases h
/-- The list behind its next token. -/
def listG (val : Tk → List UInt8 → Nat → Option (V × List UInt8 × Nat)) (n : Nat) (tok : Tk) (r : List UInt8) (k : Nat) (is : List V) : Option (List V × List UInt8 × Nat) :=
  if tok.shut = true then some (is, r, k)
  else match val tok r k with
    | none => none
    | some (x, r3, k3) => listF val n r3 k3 (is ++ [x])
theorem listF_succ (val : Tk → List UInt8 → Nat → Option (V × List UInt8 × Nat)) (n : Nat) (r : List UInt8) (k : Nat) (is : List V) : listF val (n + 1) r k is = match nextF true false r with
    | none => none
    | some (tok, r2) => listG val n tok r2 k is := rfl
/-- What a reader of values takes: at least its token, and it counts its values. -/
def Takes (val : Tk → List UInt8 → Nat → Option (V × List UInt8 × Nat)) : Prop := ∀ tok r k x r3 k3, val tok r k = some (x, r3, k3) → tok ≠ .fin ∧ tok.shut = false ∧ r3.length ≤ r.length ∧ k < k3 ∧ k3 ≤ 1000
theorem takes_list {val : Tk → List UInt8 → Nat → Option (V × List UInt8 × Nat)} (h : Takes val) : ∀ (n : Nat) (r : List UInt8) (k : Nat) (is is' : List V) (r' : List UInt8) (k' : Nat), k ≤ 1000 → listF val n r k is = some (is', r', k') → r'.length ≤ r.length ∧ k ≤ k' ∧ k' ≤ 1000 := by
  intro n
  induction n with
  | zero => intro r k is is' r' k' hk e; cases e
  | succ n ih =>
    intro r k is is' r' k' hk e
    rw [listF_succ] at e
    cases hn : nextF true false r with
    | none => rw [hn] at e; cases e
    | some p =>
      obtain ⟨tok, r2⟩ := p
      rw [hn] at e
      simp only [listG] at e
      have hl := (nextF_len true r false tok r2 hn).1
      split at e
      · cases e; exact ⟨hl, Nat.le_refl _, hk⟩
      · cases hv : val tok r2 k with
        | none => rw [hv] at e; cases e
        | some p =>
          obtain ⟨x, r3, k3⟩ := p
          rw [hv] at e
          obtain ⟨_, _, h3, h4, h5⟩ := h _ _ _ _ _ _ hv
          have := ih _ _ _ _ _ _ h5 e
          omega
theorem skip_len : ∀ (n : Nat) (t : Tk) (r : List UInt8) (t' : Tk) (r' : List UInt8), skipF n t r = some (t', r') → r'.length ≤ r.length := by
  intro n
  induction n with
  | zero => intro t r t' r' e; cases e
  | succ n ih =>
    intro t r t' r' e
    unfold skipF at e
    split at e
    · cases hn : nextF false false r with
      | none => rw [hn] at e; cases e
      | some p =>
        obtain ⟨t2, r2⟩ := p
        rw [hn] at e
        have := (nextF_len false r false t2 r2 hn).1
        have := ih _ _ _ _ e
        omega
    · cases e; exact Nat.le_refl _
theorem takes_ent {val : Tk → List UInt8 → Nat → Option (V × List UInt8 × Nat)} (h : Takes val) (brace : Bool) : ∀ (n : Nat) (tok : Tk) (r : List UInt8) (k : Nat) (t t' : V) (r' : List UInt8) (k' : Nat), k ≤ 1000 → entriesF val brace n tok r k t = some (t', r', k') → r'.length ≤ r.length ∧ k ≤ k' ∧ k' ≤ 1000 := by
  intro n
  induction n with
  | zero => intro tok r k t t' r' k' hk e; cases e
  | succ n ih =>
    intro tok r k t t' r' k' hk e
    unfold entriesF at e
    cases hs : skipF (r.length + 2) tok r with
    | none => rw [hs] at e; cases e
    | some p =>
      obtain ⟨tok1, r1⟩ := p
      rw [hs] at e
      simp only at e
      have h1 := skip_len _ _ _ _ _ hs
      split at e
      · cases e; exact ⟨h1, Nat.le_refl _, hk⟩
      · cases tok1 with
        | word w =>
          simp only at e
          split at e
          · cases e
          split at e
          · cases e
          cases hn : nextF false false r1 with
          | none => rw [hn] at e; cases e
          | some p =>
            obtain ⟨tok2, r2⟩ := p
            rw [hn] at e
            simp only at e
            have h2 := (nextF_len false r1 false tok2 r2 hn).1
            cases hv : val tok2 r2 k with
            | none => rw [hv] at e; cases e
            | some p =>
              obtain ⟨x, r3, k3⟩ := p
              rw [hv] at e
              simp only at e
              obtain ⟨_, _, h3, h4, h5⟩ := h _ _ _ _ _ _ hv
              cases hn4 : nextF false false r3 with
              | none => rw [hn4] at e; cases e
              | some p =>
                obtain ⟨tok4, r4⟩ := p
                rw [hn4] at e
                simp only at e
                have h6 := (nextF_len false r3 false tok4 r4 hn4).1
                split at e
                · have := ih _ _ _ _ _ _ _ h5 e
                  omega
                · cases e
        | _ => simp at e
theorem takes_value : ∀ d, Takes (valueF d) := by
  intro d
  induction d with
  | zero => intro tok r k x r3 k3 h; cases h
  | succ d ih =>
    intro tok r k x r3 k3 h
    unfold valueF at h
    split at h
    · cases h
    · rename_i hk
      cases tok with
      | fin => cases h
      | word w =>
        simp only at h
        cases hw : wordF w with
        | none => rw [hw] at h; cases h
        | some v => rw [hw] at h; cases h; exact ⟨by simp, rfl, Nat.le_refl _, by omega, by omega⟩
      | text s =>
        simp only at h
        split at h
        · cases h
        · cases h; exact ⟨by simp, rfl, Nat.le_refl _, by omega, by omega⟩
      | sign c =>
        simp only at h
        split at h
        · rename_i h91
          cases hl : listF (valueF d) (r.length + 1) r (k + 1) [] with
          | none => rw [hl] at h; cases h
          | some p =>
            obtain ⟨is, r2, k2⟩ := p
            rw [hl] at h; cases h
            have := takes_list ih _ _ _ _ _ _ _ (by omega) hl
            exact ⟨by simp, by show decide (c.toNat = 93) = false; exact decide_eq_false (by omega), by omega, by omega, by omega⟩
        · split at h
          · rename_i h123
            cases hn : nextF false false r with
            | none => rw [hn] at h; cases h
            | some p =>
              obtain ⟨t, r2⟩ := p
              rw [hn] at h
              have h1 := (nextF_len false r false t r2 hn).1
              have := takes_ent ih true _ _ _ _ _ _ _ _ (by omega) h
              exact ⟨by simp, by show decide (c.toNat = 93) = false; exact decide_eq_false (by omega), by omega, by omega, by omega⟩
          · cases h
end Mh
namespace Go.Proofs.YtejnoedlfbglcaaGreatDoor
open Go.RowKit Mh
set_option linter.unusedVariables false
/-- The parser's token. -/
def TkOf (s : ByteArray) (q : Ps) (t : Tk) : Prop := q.k = tkK t ∧ q.tx = tkT t ∧ (0 ≤ q.ta ∧ q.ta ≤ s.size) ∧ t.fit ∧ q.tx.size ≤ s.size
theorem drop_len (s : ByteArray) (i : Nat) : (s.data.toList.drop i).length = s.size - i := by rw [List.length_drop, Array.length_toList]; rfl
theorem Scan.ok {s : ByteArray} {q q' : Ps} {lines cm : Bool} {l : List UInt8} {t : Tk} {r : List UInt8} (hl : l.length ≤ s.size) (h : Scan s q q' (nextF lines cm l)) (hn : nextF lines cm l = some (t, r)) :
    q'.e = 0 ∧ q'.vs = q.vs ∧ q'.i ≤ s.size ∧ TkOf s q' t ∧ s.data.toList.drop q'.i = r := by
  rw [hn] at h
  obtain ⟨h1, h2, h3, h4, h5, h6, h7, h8⟩ := h
  exact ⟨h3, h1, h2, ⟨h5, h6, h7, nextF_fit _ _ _ _ _ hn, by rw [h6]; exact Nat.le_trans (nextF_size _ _ _ _ _ hn) hl⟩, h8⟩
theorem Scan.bad {s : ByteArray} {q q' : Ps} {lines cm : Bool} {l : List UInt8} (h : Scan s q q' (nextF lines cm l)) (hn : nextF lines cm l = none) : q'.e ≠ 0 ∧ q'.vs = q.vs ∧ (0 ≤ q'.at_ ∧ q'.at_ ≤ s.size) := by
  rw [hn] at h
  exact ⟨h.2.2.1, h.1, h.2.2.2.1, h.2.2.2.2⟩
/-- How much is left to be done, in the parser's state. -/
def muP (s : ByteArray) (q : Ps) : Nat := if q.e ≠ 0 then 0 else 1 + 2 * (s.size - q.i) + (if q.k = 0 then 0 else 1)
def muW (Q : Nat) (s : ByteArray) (w : World) : Nat := match w.heap[Q]? with
  | some (.cells cs _ _) => match cs.toList with
    | [_, .int _ i, .int _ k, _, _, _, .int _ e, _] => if e ≠ 0 then 0 else 1 + 2 * (s.size - i.toNat) + (if k = 0 then 0 else 1)
    | _ => 0
  | _ => 0
theorem PsAt.mu {Q T : Nat} {s : ByteArray} {q : Ps} {w : World} (h : PsAt Q T s q w) : muW Q s w = muP s q := by
  unfold muW
  rw [h]
  simp only [Ps.row, muP, Int.toNat_natCast]
theorem mu_ok {s : ByteArray} {q : Ps} (h : q.e = 0) : muP s q = 1 + 2 * (s.size - q.i) + (if q.k = 0 then 0 else 1) := by unfold muP; rw [if_neg (by rw [h]; simp)]
theorem mu_bad {s : ByteArray} {q : Ps} (h : q.e ≠ 0) : muP s q = 0 := by unfold muP; rw [if_pos h]
theorem Scan.mu {s : ByteArray} {q q0 q' : Ps} {lines cm : Bool} (h : Scan s q q' (nextF lines cm (s.data.toList.drop q.i))) (hi : q0.i ≤ q.i) (he : q0.e = 0) (hq : q.i ≤ s.size) (hk : q0.k ≠ 0) : muP s q' < muP s q0 := by
  rw [mu_ok he, if_neg hk]
  cases hn : nextF lines cm (s.data.toList.drop q.i) with
  | none => rw [mu_bad (h.bad hn).1]; omega
  | some p =>
    obtain ⟨t, r⟩ := p
    obtain ⟨h1, h2, h3, h4, h5⟩ := h.ok (by rw [drop_len]; omega) hn
    have hl := nextF_len lines _ cm t r hn
    rw [← h5, drop_len, drop_len] at hl
    rw [mu_ok h1]
    by_cases hf : t = .fin
    · subst hf
      have hk0 : q'.k = 0 := h4.1
      rw [if_pos hk0]; omega
    · have := hl.2 hf
      split <;> omega
end Go.Proofs.YtejnoedlfbglcaaGreatDoor
namespace Go.Proofs.YtejnoedlfbglcaaGreatDoor
open Go.RowKit Mh
set_option linter.unusedVariables false

theorem Ps.eta (q : Ps) : ({ q with i := q.i } : Ps) = q := rfl
/-- What a reader of values leaves. -/
def Answer (s : ByteArray) (q' : Ps) (X : V) (o : Option (V × List UInt8 × Nat)) : Prop := match o with
  | some (v, r, k) => q'.e = 0 ∧ q'.i ≤ s.size ∧ s.data.toList.drop q'.i = r ∧ q'.vs = (k : Int) ∧ X = v
  | none => q'.e ≠ 0 ∧ 0 ≤ q'.at_ ∧ q'.at_ ≤ s.size
def oldS (w : World) (k : Nat) : Bool := decide (k < w.heap.size)
theorem oldS_ge (w : World) (k : Nat) (h : w.heap.size ≤ k) : oldS w k = false := by unfold oldS; exact decide_eq_false (by omega)
def ValP (T : Nat) (s : ByteArray) (o : Option (V × List UInt8 × Nat)) (Q : Nat) (w : World) (en : Ending) (w' : World) : Prop :=
  ∃ (q' : Ps) (X : V) (cs : List Value), en = .returned (.agg cs.toArray) ∧ PsAt Q T s q' w' ∧ Kept [Q] w w' ∧ VAt (veil (oldS w) w') X cs ∧ Answer s q' X o
def ValueOk (d : Nat) : Prop := ∀ (Q T : Nat) (s : ByteArray) (q : Ps) (tok : Tk) (k : Nat) (w : World), PsAt Q T s q w → q.e = 0 → q.i ≤ s.size → TkOf s q tok → q.vs = (k : Int) → k ≤ 1000 → s.size ≤ 1000000000 → EvAt w → 3 < Q →
  Calls Tryz.prog 50 #[.pointer (some ⟨Q, 0, none⟩), .int .i64 (9 - (d : Int))] w (ValP T s (valueF d tok (s.data.toList.drop q.i) k) Q w)
def listV (p : List V × List UInt8 × Nat) : V × List UInt8 × Nat := (.mk 5 false 0 ⟨#[]⟩ p.1 [], p.2.1, p.2.2)
def ListOk (d : Nat) : Prop := ∀ (Q T : Nat) (s : ByteArray) (q : Ps) (k : Nat) (w : World), PsAt Q T s q w → q.e = 0 → q.i ≤ s.size → q.vs = (k : Int) → k ≤ 1000 → s.size ≤ 1000000000 → EvAt w → 3 < Q →
  Calls Tryz.prog 68 #[.pointer (some ⟨Q, 0, none⟩), .int .i64 (8 - (d : Int))] w (ValP T s ((listF (valueF d) ((s.data.toList.drop q.i).length + 1) (s.data.toList.drop q.i) k []).map listV) Q w)
/-- Where list's loop stands. -/
def LiSt (d : Nat) (s : ByteArray) (o : Option (List V × List UInt8 × Nat)) (q : Ps) (xs : List V) : Prop :=
  (q.e ≠ 0 ∧ o = none ∧ 0 ≤ q.at_ ∧ q.at_ ≤ s.size) ∨
  (q.e = 0 ∧ ∃ (tok : Tk) (n k : Nat), TkOf s q tok ∧ q.i ≤ s.size ∧ q.vs = (k : Int) ∧ k ≤ 1000 ∧ xs.length ≤ k ∧ (tok ≠ .fin → s.size - q.i + 1 ≤ n) ∧ o = listG (valueF d) n tok (s.data.toList.drop q.i) k xs)
theorem LiSt.next {d : Nat} {s : ByteArray} {o : Option (List V × List UInt8 × Nat)} {q q' : Ps} {xs : List V} {n k : Nat} (h : Scan s q q' (nextF true false (s.data.toList.drop q.i))) (hvs : q.vs = (k : Int)) (hk : k ≤ 1000) (hx : xs.length ≤ k) (hn : s.size - q.i + 1 ≤ n)
    (ho : o = listF (valueF d) n (s.data.toList.drop q.i) k xs) : LiSt d s o q' xs := by
  obtain ⟨n, rfl⟩ : ∃ m, n = m + 1 := ⟨n - 1, by omega⟩
  rw [listF_succ] at ho
  cases hnx : nextF true false (s.data.toList.drop q.i) with
  | none =>
    rw [hnx] at ho
    obtain ⟨h1, h2, h3, h4⟩ := h.bad hnx
    exact .inl ⟨h1, ho, h3, h4⟩
  | some p =>
    obtain ⟨t, r⟩ := p
    rw [hnx] at ho
    obtain ⟨h1, h2, h3, h4, h5⟩ := h.ok (by rw [drop_len]; omega) hnx
    have hl := nextF_len true _ false t r hnx
    rw [← h5, drop_len, drop_len] at hl
    refine .inr ⟨h1, t, n, k, h4, h3, h2.trans hvs, hk, hx, fun hf => by have := hl.2 hf; omega, ?_⟩
    rw [h5]; exact ho
/-- What stands in memory in list's loop. -/
structure LiIn (Q T : Nat) (s : ByteArray) (w wr : World) (q : Ps) (v : Value) (xs : List V) (rows : List Value) : Prop where
  p : PsAt Q T s q wr
  kept : Kept [Q] w wr
  own : wr.ownsRow (w.heap.size + 2) 29 6 v xs.length rows
  at_ : VsAt (veil (own1 (lowS w 2) v) wr) xs rows
  bx : wr.heap[w.heap.size + 1]? = some (.cells #[.int .i64 5, .bool false, .int .i64 0, .string ⟨#[]⟩, v, .slice none 0 0] 29 (0, 0))
  b0 : wr.heap[w.heap.size]? = some box0
  size : w.heap.size + 2 ≤ wr.heap.size
/-- The parser goes on: its own block turned, new blocks were made. -/
theorem LiIn.on {Q T : Nat} {s : ByteArray} {w wr w2 : World} {q q' : Ps} {v : Value} {xs : List V} {rows : List Value} (h : LiIn Q T s w wr q v xs rows) (hQ : Q < w.heap.size) (hp : PsAt Q T s q' w2) (hk : Kept [Q] wr w2) : LiIn Q T s w w2 q' v xs rows := by
  have hz := h.size
  have hol := h.own.lt
  have hn : ∀ k, w.heap.size ≤ k → k ∉ [Q] := fun k hk hm => by simp at hm; omega
  refine ⟨hp, h.kept.trans hk, ?_, h.at_.keeps (Keeps.kept hk fun b hb => ?_), (hk.block _ (by omega) (hn _ (by omega))).trans h.bx, (hk.block _ (by omega) (hn _ (by omega))).trans h.b0, Nat.le_trans hz hk.size⟩
  · refine ⟨h.own.1, ?_⟩
    rcases h.own.2 with e | ⟨g, cap, cur, rfl, hbg, hg, h6⟩
    · exact .inl e
    · exact .inr ⟨g, cap, cur, rfl, hbg, (hk.block g (Array.getElem?_eq_some_iff.1 hg).1 (hn _ (by omega))).trans hg, h6⟩
  · simp at hb
    subst hb
    simp [own1, lowS]; omega
/-- An item more. -/
theorem LiIn.more {Q T : Nat} {s : ByteArray} {w wr w2 w3 : World} {q q' : Ps} {v v' : Value} {xs : List V} {rows cs : List Value} {X : V} {ob : Obj} (h : LiIn Q T s w wr q v xs rows) (hQ : Q < w.heap.size) (hp : PsAt Q T s q' w2) (hk : Kept [Q] wr w2)
    (hX : VAt (veil (oldS wr) w2) X cs) (hown : w3.ownsRow (w.heap.size + 2) 29 6 v' (xs.length + 1) (rows ++ cs)) (hg : (w2.alloc ob).grownBy w3 v.ownBlock) (hat : v'.ownBlock = v.ownBlock ∨ v'.ownBlock = some (w2.alloc ob).heap.size) :
    LiIn Q T s w (w3.setCell ⟨w.heap.size + 1, 4, none⟩ v') q' v' (xs ++ [X]) (rows ++ cs) := by
  have h2 := h.on hQ hp hk
  have hz := h2.size
  have hzr := h.size
  have hol := h2.own.lt
  have holr := h.own.lt
  have hsk := hk.size
  have hne : ∀ k, k < w.heap.size + 2 → some k ≠ v.ownBlock := fun k hk e => by have := (hol k e.symm).1; omega
  have hold : ∀ k, k < w.heap.size + 2 → w3.heap[k]? = w2.heap[k]? := fun k hk => (hg.block k (by simp; omega) (hne k hk)).trans (heap_alloc_old _ _ (by omega))
  have hv' : ∀ b, v'.ownBlock = some b → w.heap.size + 2 ≤ b := fun b e => (hown.lt b e).1
  have hK : Keeps (veil (own1 (lowS w 2) v) w2) (veil (own1 (lowS w 2) v') (w3.setCell ⟨w.heap.size + 1, 4, none⟩ v')) :=
    ((Keeps.belows ((Below.refl _ w2).alloc (Nat.le_refl _) ob)).trans (Keeps.grown hg hat)).trans (Keeps.veils (by simp) fun k hk1 hs => ⟨hs, heap_setCell_other _ _ _ _ (by
      intro e
      subst e
      rw [own1_false] at hs
      have := hs.1
      simp [lowS] at this)⟩)
  refine ⟨?_, ?_, ?_, ?_, ?_, ?_, ?_⟩
  · exact ((heap_setCell_other _ _ _ _ (by simp; omega)).trans (hold Q (by omega))).trans hp
  · have k3 : Kept [Q] w w3 := by
      refine ⟨hg.os.trans h2.kept.os, hg.tape.trans h2.kept.tape, hg.output.trans h2.kept.output, ?_, fun k hk1 hs => (hold k (by omega)).trans (h2.kept.block k hk1 hs)⟩
      have := hg.size; simp at this; have := h2.kept.size; omega
    exact k3.setNew _ 4 (by omega) _
  · have := own_setLow (b := w.heap.size + 1) (o := 4) (u := v') hown (by omega)
    rwa [List.length_append]
  · refine VsAt.append (h2.at_.keeps hK) (VsAt.one (hX.keeps (Keeps.trans (Keeps.veils (w' := w2) (S' := own1 (lowS w 2) v) (Nat.le_refl _) fun k hk1 hs => ⟨?_, rfl⟩) hK)))
    unfold oldS at hs
    have hs := of_decide_eq_false hs
    rw [own1_false]
    exact ⟨by simp [lowS]; omega, fun e => by have := (holr k e).2; omega⟩
  · have hb3 := (hold (w.heap.size + 1) (by omega)).trans h2.bx
    rw [heap_setCell_same _ _ 4 _ _ _ hb3]; rfl
  · exact ((heap_setCell_other _ _ _ _ (by simp)).trans (hold _ (by omega))).trans h2.b0
  · have := hg.size; simp at this ⊢; omega
end Go.Proofs.YtejnoedlfbglcaaGreatDoor
