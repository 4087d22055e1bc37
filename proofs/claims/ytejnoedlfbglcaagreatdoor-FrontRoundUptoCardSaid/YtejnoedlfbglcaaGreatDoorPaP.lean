/- The language of settings: what is printed, and the reader as functions of lists of bytes. No program. · The plain law of reading: what is printed of a right table is read to the same table. No program. · The plain law of reading, second part: values, lists and tables; what is printed of a right table is read to the same table. No program. -/
import Derived.Test.YtejnoedlfbglcaaGreatDoorKeVm
import Derived.Test.YtejnoedlfbglcaaGreatDoorDayS
import Derived.Test.YtejnoedlfbglcaaGreatDoorCal
namespace Mh
open Go Cal
set_option linter.unusedVariables false

/-- A token. -/
inductive Tk where
  | fin
  | word (s : List UInt8)
  | text (s : List UInt8)
  | sign (c : UInt8)
def ctlB (c : UInt8) : Bool := decide (c.toNat < 32) && (!decide (c.toNat = 9) && !decide (c.toNat = 10))
def upB (c : UInt8) : Bool := decide (65 ≤ c.toNat ∧ c.toNat ≤ 90)
def wordB (c : UInt8) : Bool := smallB c || upB c || digB c || decide (c.toNat = 45) || decide (c.toNat = 95) || decide (128 ≤ c.toNat)
def signB (c : UInt8) : Bool := decide (c.toNat = 91) || decide (c.toNat = 93) || decide (c.toNat = 123) || decide (c.toNat = 125) || decide (c.toNat = 59)
def escB (c : UInt8) : Option UInt8 := if c.toNat = 110 then some 10 else if c.toNat = 116 then some 9 else if c.toNat = 34 then some 34 else if c.toNat = 92 then some 92 else none
/-- A string's text behind its first quote, and what follows. -/
def textF : List UInt8 → Option (List UInt8 × List UInt8)
  | [] => none
  | c :: l =>
    if c.toNat = 34 then some ([], l)
    else if c.toNat = 10 then none
    else if ctlB c = true then none
    else if c.toNat = 92 then
      match l with
      | [] => none
      | d :: l' => match escB d with
        | none => none
        | some e => match textF l' with
          | none => none
          | some (o, r) => some (e :: o, r)
    else match textF l with
      | none => none
      | some (o, r) => some (c :: o, r)
/-- The next token. -/
def nextF (lines : Bool) : Bool → List UInt8 → Option (Tk × List UInt8)
  | _, [] => some (.fin, [])
  | cm, c :: l =>
    if ctlB c = true then none
    else if c.toNat = 10 then (if lines = true then nextF lines false l else some (.sign c, l))
    else if (cm || decide (c.toNat = 32) || decide (c.toNat = 9)) = true then nextF lines cm l
    else if c.toNat = 35 then nextF lines true l
    else if wordB c = true then some (.word ((c :: l).takeWhile wordB), (c :: l).dropWhile wordB)
    else if c.toNat = 34 then (match textF l with
      | none => none
      | some (t, r) => some (.text t, r))
    else if signB c = true then some (.sign c, l)
    else none
theorem textF_len : ∀ (n : Nat) (l o r : List UInt8), l.length ≤ n → textF l = some (o, r) → r.length < l.length := by
  intro n
  induction n with
  | zero => intro l o r hl h; cases l with
    | nil => simp [textF] at h
    | cons a l => simp at hl
  | succ n ih =>
    intro l o r hl h
    cases l with
    | nil => simp [textF] at h
    | cons c l =>
      unfold textF at h
      split at h
      · cases h; simp
      split at h
      · cases h
      split at h
      · cases h
      split at h
      · cases l with
        | nil => simp at h
        | cons d l' =>
          simp only at h
          cases he : escB d with
          | none => rw [he] at h; cases h
          | some e =>
            rw [he] at h
            cases ht : textF l' with
            | none => rw [ht] at h; cases h
            | some p =>
              obtain ⟨o', r'⟩ := p
              rw [ht] at h
              cases h
              have := ih l' _ _ (by simp at hl; omega) ht
              simp; omega
      · cases ht : textF l with
        | none => rw [ht] at h; cases h
        | some p =>
          obtain ⟨o', r'⟩ := p
          rw [ht] at h
          cases h
          have := ih l _ _ (by simpa using hl) ht
          simp; omega
theorem nextF_len (lines : Bool) : ∀ (l : List UInt8) (cm : Bool) (t : Tk) (r : List UInt8), nextF lines cm l = some (t, r) → r.length ≤ l.length ∧ (t ≠ .fin → r.length < l.length) := by
  intro l
  induction l with
  | nil => intro cm t r h; simp only [nextF, Option.some.injEq, Prod.mk.injEq] at h; obtain ⟨rfl, rfl⟩ := h; exact ⟨Nat.le_refl _, fun h => absurd rfl h⟩
  | cons c l ih =>
    intro cm t r h
    have up : ∀ (P : Prop), (r.length ≤ l.length ∧ P) → r.length ≤ (c :: l).length ∧ (t ≠ .fin → r.length < (c :: l).length) := fun P hp => ⟨by have := hp.1; simp; omega, fun _ => by have := hp.1; simp; omega⟩
    unfold nextF at h
    split at h
    · cases h
    split at h
    · split at h
      · exact up _ (ih _ _ _ h)
      · cases h; exact up True ⟨Nat.le_refl _, trivial⟩
    split at h
    · exact up _ (ih _ _ _ h)
    split at h
    · exact up _ (ih _ _ _ h)
    split at h
    · rename_i hw
      cases h
      refine up True ⟨?_, trivial⟩
      rw [List.dropWhile_cons_of_pos hw]
      have := (List.dropWhile_suffix wordB (l := l)).length_le
      exact this
    split at h
    · cases ht : textF l with
      | none => rw [ht] at h; cases h
      | some p =>
        obtain ⟨o, r'⟩ := p
        rw [ht] at h
        cases h
        exact up True ⟨Nat.le_of_lt (textF_len _ _ _ _ (Nat.le_refl _) ht), trivial⟩
    split at h
    · cases h; exact up True ⟨Nat.le_refl _, trivial⟩
    · cases h

/-! Days. -/
def dg (c : UInt8) : Nat := c.toNat - 48
def dayF (l : List UInt8) : Option Int :=
  match l with
  | [a, b, c, d, s1, e, f, s2, g, h] =>
    if s1.toNat = 45 ∧ s2.toNat = 45 ∧ (digB a && digB b && digB c && digB d && digB e && digB f && digB g && digB h) = true then
      let y := 1000 * dg a + 100 * dg b + 10 * dg c + dg d
      let m := 10 * dg e + dg f
      let n := 10 * dg g + dg h
      if 1970 ≤ y ∧ y ≤ 2199 ∧ 1 ≤ m ∧ m ≤ 12 ∧ 1 ≤ n ∧ (n : Int) ≤ md y m then some (bef y + cum y m + n - 1) else none
    else none
  | _ => none
/-- The value of a word. -/
def wordF (w : List UInt8) : Option V :=
  if w = [110, 105, 108] then some V.nil
  else if w = [121, 101, 115] then some (.mk 1 true 0 ⟨#[]⟩ [] [])
  else if w = [110, 111] then some (.mk 1 false 0 ⟨#[]⟩ [] [])
  else if isIntL w = true then
    if (Lib.trimPrefix w [45]).head? = some 48 ∧ w ≠ [48] then none
    else match Lib.atoi w with
      | none => none
      | some n => if -9223372036854775808 ≤ n ∧ n ≤ 9223372036854775807 then some (.mk 2 false n ⟨#[]⟩ [] []) else none
  else match dayF w with
    | none => none
    | some n => some (.mk 4 false n ⟨#[]⟩ [] [])
def Tk.line : Tk → Bool
  | .sign c => decide (c.toNat = 10) || decide (c.toNat = 59)
  | _ => false
/-- The sign that ends entries: a brace, or the end of the text. -/
def Tk.ends (brace : Bool) : Tk → Bool
  | .fin => !brace
  | .sign c => brace && decide (c.toNat = 125)
  | _ => false
def Tk.shut : Tk → Bool
  | .sign c => decide (c.toNat = 93)
  | _ => false
def skipF : Nat → Tk → List UInt8 → Option (Tk × List UInt8)
  | 0, _, _ => none
  | n + 1, t, r =>
    if t.line = true then match nextF false false r with
      | none => none
      | some (t', r') => skipF n t' r'
    else some (t, r)
def entriesF (val : Tk → List UInt8 → Nat → Option (V × List UInt8 × Nat)) (brace : Bool) : Nat → Tk → List UInt8 → Nat → V → Option (V × List UInt8 × Nat)
  | 0, _, _, _, _ => none
  | n + 1, tok, r, k, t =>
    match skipF (r.length + 2) tok r with
    | none => none
    | some (tok, r) =>
      if tok.ends brace = true then some (t, r, k)
      else match tok with
        | .word w =>
          if isKeyL w = false then none
          else if hit ⟨w.toArray⟩ t.kys = true then none
          else match nextF false false r with
            | none => none
            | some (tok2, r2) => match val tok2 r2 k with
              | none => none
              | some (x, r3, k3) => match nextF false false r3 with
                | none => none
                | some (tok4, r4) => if (tok4.line || tok4.ends brace) = true then entriesF val brace n tok4 r4 k3 (putV t ⟨w.toArray⟩ x) else none
        | _ => none
def listF (val : Tk → List UInt8 → Nat → Option (V × List UInt8 × Nat)) : Nat → List UInt8 → Nat → List V → Option (List V × List UInt8 × Nat)
  | 0, _, _, _ => none
  | n + 1, r, k, is =>
    match nextF true false r with
    | none => none
    | some (tok, r2) =>
      if tok.shut = true then some (is, r2, k)
      else match val tok r2 k with
        | none => none
        | some (x, r3, k3) => listF val n r3 k3 (is ++ [x])
/-- The value that begins with a token; so many levels are left. -/
def valueF : Nat → Tk → List UInt8 → Nat → Option (V × List UInt8 × Nat)
  | 0, _, _, _ => none
  | d + 1, tok, r, k =>
    if 1000 < k + 1 then none
    else match tok with
      | .fin => none
      | .word w => match wordF w with
        | none => none
        | some v => some (v, r, k + 1)
      | .text s => if 5000 < s.length then none else some (.mk 3 false 0 ⟨s.toArray⟩ [] [], r, k + 1)
      | .sign c =>
        if c.toNat = 91 then match listF (valueF d) (r.length + 1) r (k + 1) [] with
          | none => none
          | some (is, r2, k2) => some (.mk 5 false 0 ⟨#[]⟩ is [], r2, k2)
        else if c.toNat = 123 then match nextF false false r with
          | none => none
          | some (t, r2) => entriesF (valueF d) true (r2.length + 1) t r2 (k + 1) (.mk 6 false 0 ⟨#[]⟩ [] [])
        else none
/-- The reader. -/
def parseF (l : List UInt8) : Option V :=
  if 50000 < l.length then none
  else match nextF false false l with
    | none => none
    | some (t, r) => match entriesF (valueF 7) false (r.length + 1) t r 1 (.mk 6 false 0 ⟨#[]⟩ [] []) with
      | none => none
      | some (v, _, _) => some v

/-! What is printed. -/
def escL (c : UInt8) : List UInt8 := if c.toNat = 10 then [92, 110] else if c.toNat = 9 then [92, 116] else if c.toNat = 34 then [92, 34] else if c.toNat = 92 then [92, 92] else [c]
def quoteL (l : List UInt8) : List UInt8 := 34 :: (l.flatMap escL ++ [34])
/-- Days are of one year, month and number. -/
theorem cum_up (y : Int) (m : Nat) (h : 1 ≤ m) : ∀ k, cum y m + md y m ≤ cum y (m + 1 + k) := by
  intro k
  induction k with
  | zero => rw [Nat.add_zero, cum_succ y m h]; exact Int.le_refl _
  | succ k ih =>
    rw [← Nat.add_assoc, cum_succ y (m + 1 + k) (by omega)]
    have := md_bd y ((m + 1 + k : Nat) : Int)
    omega
theorem ymd_next {n y d : Int} {m : Nat} (h : Ymd n y m d) : bef y ≤ n ∧ n < bef (y + 1) := by
  have h1 := cum_bd y m
  have h2 := h.d0
  have h3 := h.eq
  rw [bef_succ]
  have h4 : cum y m + md y m ≤ yd y := by
    rw [← cum_13]
    have := cum_up y m h.m0 (12 - m)
    have e := h.m1
    rwa [show m + 1 + (12 - m) = 13 by omega] at this
  have h5 := h.d1
  omega
theorem ymd_unique {n y y' d d' : Int} {m m' : Nat} (h : Ymd n y m d) (h' : Ymd n y' m' d') : y = y' ∧ m = m' ∧ d = d' := by
  have a := ymd_next h
  have b := ymd_next h'
  have e : y = y' := by
    rcases Int.lt_trichotomy y y' with hl | hl | hl
    · have := bef_mono (y + 1) y' (by omega); omega
    · exact hl
    · have := bef_mono (y' + 1) y (by omega); omega
  subst e
  have c1 := h.eq
  have c2 := h'.eq
  have d1 := h.d1
  have d2 := h'.d1
  have e0 := h.d0
  have e1 := h'.d0
  have em : m = m' := by
    rcases Nat.lt_trichotomy m m' with hl | hl | hl
    · have := cum_up y m h.m0 (m' - m - 1)
      rw [show m + 1 + (m' - m - 1) = m' by omega] at this
      omega
    · exact hl
    · have := cum_up y m' h'.m0 (m - m' - 1)
      rw [show m' + 1 + (m - m' - 1) = m by omega] at this
      omega
  subst em
  exact ⟨rfl, rfl, by omega⟩
open Classical in
/-- A day's ten bytes. -/
noncomputable def dayT (n : Int) : List UInt8 := if h : ∃ p : Nat × Nat × Nat, Ymd n p.1 p.2.1 p.2.2 then dayL h.choose.1 h.choose.2.1 h.choose.2.2 else []
theorem dayT_eq {n : Int} {y m d : Nat} (h : Ymd n y m d) : dayT n = dayL y m d := by
  unfold dayT
  rw [dif_pos ⟨(y, m, d), h⟩]
  have hs := (⟨(y, m, d), h⟩ : ∃ p : Nat × Nat × Nat, Ymd n p.1 p.2.1 p.2.2).choose_spec
  obtain ⟨h1, h2, h3⟩ := ymd_unique hs h
  rw [show (⟨(y, m, d), h⟩ : ∃ p : Nat × Nat × Nat, Ymd n p.1 p.2.1 p.2.2).choose.1 = y by omega, h2, show (⟨(y, m, d), h⟩ : ∃ p : Nat × Nat × Nat, Ymd n p.1 p.2.1 p.2.2).choose.2.2 = d by omega]
/-- A word. -/
noncomputable def wordL (k : Int) (b : Bool) (n : Int) : List UInt8 := if k = 1 then (if b = true then [121, 101, 115] else [110, 111]) else if k = 2 then Lib.itoa n else if k = 4 then dayT n else [110, 105, 108]
mutual
noncomputable def pvL : V → List UInt8 → List UInt8
  | .mk k b n t is ks, ind =>
    if k = 3 then quoteL t.data.toList
    else if k = 5 then 91 :: (pvsL is ind ++ [93])
    else if k = 6 then (if ks = [] then [123, 125] else 123 :: 10 :: (ptL is ks (ind ++ [32, 32]) ++ (ind ++ [125])))
    else wordL k b n
noncomputable def pvsL : List V → List UInt8 → List UInt8
  | [], _ => []
  | x :: is, ind => pvL x ind ++ pvtL is ind
noncomputable def pvtL : List V → List UInt8 → List UInt8
  | [], _ => []
  | x :: is, ind => 32 :: (pvL x ind ++ pvtL is ind)
noncomputable def ptL : List V → List ByteArray → List UInt8 → List UInt8
  | [], _, _ => []
  | x :: is, ks, ind => match ks with
    | [] => []
    | k :: ks => ind ++ (k.data.toList ++ 32 :: (pvL x ind ++ 10 :: ptL is ks ind))
end
/-- What is printed of a table. -/
noncomputable def printF (v : V) : List UInt8 := ptL v.its v.kys []
end Mh
namespace Mh
open Go Cal
set_option linter.unusedVariables false

/-- Numbers of 64 bits, at any depth. -/
def okN (n : Int) : Prop := -9223372036854775808 ≤ n ∧ n ≤ 9223372036854775807
mutual
def V.rng : V → Prop
  | .mk k b n t is ks => okN n ∧ V.rngs is
def V.rngs : List V → Prop
  | [] => True
  | x :: xs => V.rng x ∧ V.rngs xs
end
theorem empty_eq {t : ByteArray} (h : t.size = 0) : t = ⟨#[]⟩ := by
  cases t with
  | mk d => congr 1; exact Array.eq_empty_of_size_eq_zero h
theorem u8_eq {c : UInt8} {n : Nat} (hn : n < 256) (h : c.toNat = n) : c = UInt8.ofNat n := by
  rw [← h]; exact (UInt8.ofNat_toNat).symm
theorem wordB_facts {c : UInt8} (h : wordB c = true) : ctlB c = false ∧ c.toNat ≠ 10 ∧ c.toNat ≠ 32 ∧ c.toNat ≠ 9 ∧ c.toNat ≠ 35 := by
  simp only [wordB, smallB, upB, digB, Bool.or_eq_true, decide_eq_true_eq] at h
  refine ⟨?_, by omega, by omega, by omega, by omega⟩
  unfold ctlB
  rw [decide_eq_false (by omega)]
  rfl
theorem nextF_space (lines cm : Bool) (l : List UInt8) : nextF lines cm (32 :: l) = nextF lines cm l := by
  conv => lhs; unfold nextF
  rw [if_neg (by decide), if_neg (by decide), if_pos (by simp)]
theorem nextF_spaces (lines : Bool) (l : List UInt8) : ∀ ind : List UInt8, (∀ c ∈ ind, c = 32) → nextF lines false (ind ++ l) = nextF lines false l := by
  intro ind
  induction ind with
  | nil => intro _; rfl
  | cons a ind ih =>
    intro h
    rw [show a = 32 from h a (by simp), List.cons_append, nextF_space]
    exact ih fun c hc => h c (by simp [hc])
theorem nextF_lf (l : List UInt8) : nextF false false (10 :: l) = some (.sign 10, l) := by
  unfold nextF
  rw [if_neg (by decide), if_pos (by decide), if_neg (by decide)]
theorem nextF_sign (lines : Bool) (c : UInt8) (l : List UInt8) (h : signB c = true) : nextF lines false (c :: l) = some (.sign c, l) := by
  have h2 : c.toNat = 91 ∨ c.toNat = 93 ∨ c.toNat = 123 ∨ c.toNat = 125 ∨ c.toNat = 59 := by
    simp only [signB, Bool.or_eq_true, decide_eq_true_eq] at h; omega
  have hw : wordB c = false := by
    simp only [wordB, smallB, upB, digB, Bool.or_eq_false_iff, decide_eq_false_iff_not]; omega
  unfold nextF
  rw [if_neg (by unfold ctlB; rw [decide_eq_false (by omega)]; simp), if_neg (by omega), if_neg (by rw [decide_eq_false (by omega), decide_eq_false (by omega)]; simp), if_neg (by omega), if_neg (by rw [hw]; simp), if_neg (by omega), if_pos h]
/-- What follows a word. -/
def endsW (r : List UInt8) : Prop := ∀ c, r.head? = some c → wordB c = false
theorem takeW (w r : List UInt8) (hw : ∀ c ∈ w, wordB c = true) (hr : endsW r) : (w ++ r).takeWhile wordB = w ∧ (w ++ r).dropWhile wordB = r := by
  induction w with
  | nil =>
    cases r with
    | nil => exact ⟨rfl, rfl⟩
    | cons a r =>
      have ha := hr a rfl
      exact ⟨by rw [List.nil_append, List.takeWhile_cons_of_neg (by rw [ha]; simp)], by rw [List.nil_append, List.dropWhile_cons_of_neg (by rw [ha]; simp)]⟩
  | cons a w ih =>
    obtain ⟨h1, h2⟩ := ih fun c hc => hw c (by simp [hc])
    have ha := hw a (by simp)
    exact ⟨by rw [List.cons_append, List.takeWhile_cons_of_pos ha, h1], by rw [List.cons_append, List.dropWhile_cons_of_pos ha, h2]⟩
theorem nextF_word (lines : Bool) (w r : List UInt8) (h0 : w ≠ []) (hw : ∀ c ∈ w, wordB c = true) (hr : endsW r) : nextF lines false (w ++ r) = some (.word w, r) := by
  obtain ⟨h1, h2⟩ := takeW w r hw hr
  cases w with
  | nil => exact absurd rfl h0
  | cons a w =>
    have ha := hw a (by simp)
    obtain ⟨f1, f2, f3, f4, f5⟩ := wordB_facts ha
    rw [List.cons_append] at h1 h2 ⊢
    unfold nextF
    rw [if_neg (by rw [f1]; simp), if_neg f2, if_neg (by rw [decide_eq_false f3, decide_eq_false f4]; simp), if_neg f5, if_pos ha, h1, h2]
theorem text_quote : ∀ (l r : List UInt8), badL l = false → textF (l.flatMap escL ++ 34 :: r) = some (l, r) := by
  intro l
  induction l with
  | nil => intro r _; rw [List.flatMap_nil, List.nil_append]; unfold textF; rw [if_pos (by decide)]
  | cons c l ih =>
    intro r h
    have h1 : ctlB c = false ∧ badL l = false := by
      unfold badL at h
      rw [List.any_cons, Bool.or_eq_false_iff] at h
      exact ⟨h.1, h.2⟩
    have hi := ih r h1.2
    rw [List.flatMap_cons, List.append_assoc]
    unfold escL
    split
    · rename_i hc
      rw [u8_eq (by omega) hc]
      show textF (92 :: 110 :: (l.flatMap escL ++ 34 :: r)) = _
      unfold textF
      rw [if_neg (by decide), if_neg (by decide), if_neg (by decide), if_pos (by decide)]
      dsimp only
      rw [show escB 110 = some 10 by decide]
      dsimp only
      rw [hi]
      rfl
    split
    · rename_i hc
      rw [u8_eq (by omega) hc]
      show textF (92 :: 116 :: (l.flatMap escL ++ 34 :: r)) = _
      unfold textF
      rw [if_neg (by decide), if_neg (by decide), if_neg (by decide), if_pos (by decide)]
      dsimp only
      rw [show escB 116 = some 9 by decide]
      dsimp only
      rw [hi]
      rfl
    split
    · rename_i hc
      rw [u8_eq (by omega) hc]
      show textF (92 :: 34 :: (l.flatMap escL ++ 34 :: r)) = _
      unfold textF
      rw [if_neg (by decide), if_neg (by decide), if_neg (by decide), if_pos (by decide)]
      dsimp only
      rw [show escB 34 = some 34 by decide]
      dsimp only
      rw [hi]
      rfl
    split
    · rename_i hc
      rw [u8_eq (by omega) hc]
      show textF (92 :: 92 :: (l.flatMap escL ++ 34 :: r)) = _
      unfold textF
      rw [if_neg (by decide), if_neg (by decide), if_neg (by decide), if_pos (by decide)]
      dsimp only
      rw [show escB 92 = some 92 by decide]
      dsimp only
      rw [hi]
      rfl
    · rename_i n1 n2 n3 n4
      show textF (c :: (l.flatMap escL ++ 34 :: r)) = _
      unfold textF
      rw [if_neg n3, if_neg n1, if_neg (by rw [h1.1]; simp), if_neg n4, hi]
theorem nextF_quote (lines : Bool) (l r : List UInt8) (h : badL l = false) : nextF lines false (quoteL l ++ r) = some (.text l, r) := by
  unfold quoteL
  rw [List.cons_append, List.append_assoc, List.singleton_append]
  unfold nextF
  rw [if_neg (by decide), if_neg (by decide), if_neg (by decide), if_neg (by decide), if_neg (by decide), if_pos (by decide), text_quote l r h]

/-! Words. -/
theorem itoa_word (n : Int) : Lib.itoa n ≠ [] ∧ (∀ c ∈ Lib.itoa n, wordB c = true) ∧ isIntL (Lib.itoa n) = true ∧ Lib.atoi (Lib.itoa n) = some n ∧ ¬ ((Lib.trimPrefix (Lib.itoa n) [45]).head? = some 48 ∧ Lib.itoa n ≠ [48]) := by
  have hd : ∀ c : UInt8, 48 ≤ c.toNat ∧ c.toNat ≤ 57 → wordB c = true := by
    intro c h
    simp only [wordB, smallB, upB, digB, Bool.or_eq_true, decide_eq_true_eq]; omega
  have hdig : ∀ m : Nat, (Lib.decDigits m).all digB = true := by
    intro m
    rw [List.all_eq_true]
    intro c hc
    exact decide_eq_true (dec_digit m c hc)
  unfold Lib.itoa
  by_cases hn : n < 0
  · rw [if_pos hn]
    refine ⟨by simp, ?_, ?_, ?_, ?_⟩
    · intro c hc
      rcases List.mem_cons.1 hc with rfl | hc
      · decide
      · exact hd c (dec_digit _ c hc)
    · unfold isIntL
      simp only
      rw [if_pos (by decide), hdig]
      have := dec_ne n.natAbs
      cases h : Lib.decDigits n.natAbs with
      | nil => exact absurd h this
      | cons a l => rfl
    · have h1 := atoi_dec n.natAbs
      have h2 : Lib.decNat (Lib.decDigits n.natAbs) = some n.natAbs := by
        have h3 := dec_ne n.natAbs
        cases h : Lib.decDigits n.natAbs with
        | nil => exact absurd h h3
        | cons a l =>
          have ha := dec_digit n.natAbs a (by rw [h]; simp)
          rw [h] at h1
          unfold Lib.atoi at h1
          dsimp only at h1
          rw [if_neg (by rw [beq_iff_eq]; intro e; subst e; exact absurd ha (by decide)), if_neg (by rw [beq_iff_eq]; intro e; subst e; exact absurd ha (by decide))] at h1
          obtain ⟨m, hm, he⟩ := Option.map_eq_some_iff.1 h1
          rw [hm]
          congr 1
          omega
      show Lib.atoi (45 :: Lib.decDigits n.natAbs) = _
      unfold Lib.atoi
      dsimp only
      rw [if_pos (by decide), h2]
      simp only [Option.map_some, Option.some.injEq]
      omega
    · rintro ⟨h, _⟩
      have e : Lib.trimPrefix (45 :: Lib.decDigits n.natAbs) [45] = Lib.decDigits n.natAbs := by
        unfold Lib.trimPrefix
        rw [if_pos (by unfold Lib.hasPrefix; simp)]
        rfl
      rw [e] at h
      exact dec_head n.natAbs (by omega) h
  · rw [if_neg hn]
    refine ⟨dec_ne _, fun c hc => hd c (dec_digit _ c hc), ?_, ?_, ?_⟩
    · have h3 := dec_ne n.toNat
      cases h : Lib.decDigits n.toNat with
      | nil => exact absurd h h3
      | cons a l =>
        have ha := dec_digit n.toNat a (by rw [h]; simp)
        have hall := hdig n.toNat
        rw [h, List.all_cons] at hall
        unfold isIntL
        simp only
        rw [if_neg (by omega)]
        exact hall
    · rw [atoi_dec]
      congr 1
      omega
    · rintro ⟨h, hne⟩
      have e : Lib.trimPrefix (Lib.decDigits n.toNat) [45] = Lib.decDigits n.toNat := by
        unfold Lib.trimPrefix
        rw [if_neg]
        unfold Lib.hasPrefix
        have h3 := dec_ne n.toNat
        cases hh : Lib.decDigits n.toNat with
        | nil => exact absurd hh h3
        | cons a l =>
          have ha := dec_digit n.toNat a (by rw [hh]; simp)
          simp
          intro e
          subst e
          exact absurd ha (by decide)
      rw [e] at h
      by_cases h0 : n.toNat = 0
      · rw [h0] at hne
        exact hne (by rw [decDigits_small (by omega)]; rfl)
      · exact dec_head n.toNat (by omega) h
theorem dayL_word {n : Int} {y m d : Nat} (h : Ymd n y m d) : (∀ c ∈ dayL y m d, wordB c = true) ∧ isIntL (dayL y m d) = false ∧ dayF (dayL y m d) = some n := by
  have hy0 := h.y0
  have hy1 := h.y1
  have hm0 := h.m0
  have hm1 := h.m1
  have hd0 := h.d0
  have hd1 := h.d1
  have hmd := md_bd (y : Int) (m : Int)
  have he := h.eq
  have hk : ∀ k : Nat, (UInt8.ofNat (48 + k % 10)).toNat = 48 + k % 10 := fun k => ofNat_toNat (k % 10) (by omega)
  have hdg : ∀ k : Nat, digB (UInt8.ofNat (48 + k % 10)) = true := fun k => decide_eq_true (by rw [hk]; omega)
  have hw : ∀ k : Nat, wordB (UInt8.ofNat (48 + k % 10)) = true := fun k => by unfold wordB; rw [hdg]; simp
  rw [dayL_eq]
  refine ⟨?_, ?_, ?_⟩
  · intro c hc
    simp only [List.mem_cons, List.not_mem_nil, or_false] at hc
    rcases hc with rfl | rfl | rfl | rfl | rfl | rfl | rfl | rfl | rfl | rfl <;> first | exact hw _ | decide
  · unfold isIntL
    simp only
    rw [if_neg (by rw [hk]; omega)]
    simp only [List.all_cons, show digB 45 = false by decide, Bool.false_and, Bool.and_false]
  · unfold dayF
    simp only
    rw [if_pos ⟨by decide, by decide, by simp only [hdg, Bool.and_self]⟩]
    simp only [dg, hk, Nat.add_sub_cancel_left]
    rw [show 1000 * (y / 1000 % 10) + 100 * (y / 100 % 10) + 10 * (y / 10 % 10) + y % 10 = y by omega, show 10 * (m / 10 % 10) + m % 10 = m by omega, show 10 * (d / 10 % 10) + d % 10 = d by omega]
    rw [if_pos ⟨by omega, by omega, by omega, by omega, by omega, hd1⟩, he]
theorem ymd_is (n : Int) (h0 : 0 ≤ n) (h1 : n ≤ 84005) : ∃ y m d : Nat, Ymd n y m d := by
  have hy : ∀ k : Nat, bef 1970 ≤ n → n < bef (1970 + k) → ∃ j : Nat, bef (1970 + j) ≤ n ∧ n < bef (1970 + j + 1) ∧ j < k := by
    intro k
    induction k with
    | zero => intro a b; simp at b; omega
    | succ k ih =>
      intro a b
      by_cases hk : n < bef (1970 + k)
      · obtain ⟨j, h2, h3, h4⟩ := ih a hk
        exact ⟨j, h2, h3, by omega⟩
      · exact ⟨k, by omega, by rw [show (1970 : Int) + k + 1 = 1970 + (k + 1 : Nat) by omega]; exact b, by omega⟩
  obtain ⟨j, hj1, hj2, hj3⟩ := hy 230 (by rw [bef_1970]; exact h0) (by rw [show (1970 : Int) + (230 : Nat) = 2200 by rfl, bef_2200]; omega)
  have hm : ∀ k : Nat, n - bef (1970 + j) < cum (1970 + j) (1 + k) → ∃ i : Nat, 1 ≤ i ∧ i ≤ k ∧ cum (1970 + j) i ≤ n - bef (1970 + j) ∧ n - bef (1970 + j) < cum (1970 + j) (i + 1) := by
    intro k
    induction k with
    | zero => intro b; rw [show 1 + 0 = 1 from rfl, cum_one] at b; omega
    | succ k ih =>
      intro b
      by_cases hk : n - bef (1970 + j) < cum (1970 + j) (1 + k)
      · obtain ⟨i, a1, a2, a3, a4⟩ := ih hk
        exact ⟨i, a1, by omega, a3, a4⟩
      · exact ⟨1 + k, by omega, by omega, by omega, by rw [show 1 + k + 1 = 1 + (k + 1) by omega]; exact b⟩
  rw [bef_succ] at hj2
  obtain ⟨i, a1, a2, a3, a4⟩ := hm 12 (by rw [show 1 + 12 = 13 from rfl, cum_13]; omega)
  rw [cum_succ _ i a1] at a4
  refine ⟨1970 + j, i, (n - bef (1970 + j) - cum (1970 + j) i + 1).toNat, ?_⟩
  have e1 : ((1970 + j : Nat) : Int) = 1970 + (j : Int) := by omega
  have e2 : (((n - bef (1970 + j) - cum (1970 + j) i + 1).toNat : Nat) : Int) = n - bef (1970 + j) - cum (1970 + j) i + 1 := by omega
  exact ⟨by omega, by omega, a1, by omega, by rw [e2]; omega, by rw [e2, e1]; omega, by rw [e2, e1]; omega⟩
/-- A right value that is a word. -/
theorem word_ok {k : Int} {b : Bool} {n : Int} {t : ByteArray} {is : List V} {ks : List ByteArray} (h : (V.mk k b n t is ks).good) (hr : okN n) (h3 : k ≠ 3) (h5 : k ≠ 5) (h6 : k ≠ 6) :
    wordL k b n ≠ [] ∧ (∀ c ∈ wordL k b n, wordB c = true) ∧ wordF (wordL k b n) = some (V.mk k b n t is ks) ∧ V.nodess is = 0 := by
  simp only [V.good, V.good1] at h
  obtain ⟨⟨hk, hu, hday, ht, hb, hks⟩, hg⟩ := h
  simp only [unusedV, Bool.or_eq_false_iff, Bool.and_eq_false_iff, Bool.not_eq_false', decide_eq_true_eq, decide_eq_false_iff_not] at hu
  obtain ⟨⟨⟨⟨⟨u1, u2⟩, u3⟩, u4⟩, u5⟩, u6⟩ := hu
  have hte : t = ⟨#[]⟩ := by
    rcases u3 with e | e
    · exact empty_eq e
    · exact absurd e h3
  have hie : is = [] := by
    rcases u4 with e | e
    · exact List.length_eq_zero_iff.1 (by omega)
    · exact absurd e (by omega)
  have hke : ks = [] := by
    rcases u5 with e | e
    · exact List.length_eq_zero_iff.1 (by omega)
    · exact absurd e h6
  subst hte hie hke
  refine (fun (x : wordL k b n ≠ [] ∧ (∀ c ∈ wordL k b n, wordB c = true) ∧ wordF (wordL k b n) = some (V.mk k b n ⟨#[]⟩ [] [])) => ⟨x.1, x.2.1, x.2.2, rfl⟩) ?_
  unfold wordL
  by_cases h1 : k = 1
  · subst h1
    have hn : n = 0 := by rcases u2 with e | e | e <;> omega
    subst hn
    rw [if_pos rfl]
    cases b
    · exact ⟨by decide, by decide, by unfold wordF; rfl⟩
    · exact ⟨by decide, by decide, by unfold wordF; rfl⟩
  have hbf : b = false := by rcases u1 with e | e; exact e; exact absurd e h1
  subst hbf
  rw [if_neg h1]
  by_cases h2 : k = 2
  · subst h2
    rw [if_pos rfl]
    obtain ⟨w1, w2, w3, w4, w5⟩ := itoa_word n
    refine ⟨w1, w2, ?_⟩
    have hne : ∀ l : List UInt8, isIntL l = false → Lib.itoa n ≠ l := fun l hl e => by rw [e, hl] at w3; cases w3
    unfold wordF
    rw [if_neg (hne _ (by decide)), if_neg (hne _ (by decide)), if_neg (hne _ (by decide)), if_pos w3, if_neg w5, w4]
    simp only
    rw [if_pos (show -9223372036854775808 ≤ n ∧ n ≤ 9223372036854775807 from hr)]
  rw [if_neg h2]
  by_cases h4 : k = 4
  · subst h4
    rw [if_pos rfl]
    have hnr : 0 ≤ n ∧ n ≤ 84005 := by
      have := hday
      simp only [true_and] at this
      omega
    obtain ⟨y, m, d, hY⟩ := ymd_is n hnr.1 hnr.2
    rw [dayT_eq hY]
    obtain ⟨w1, w2, w3⟩ := dayL_word hY
    have hl := dayL_length y m d
    have hne : ∀ l : List UInt8, l.length ≠ 10 → dayL y m d ≠ l := fun l hl2 e => hl2 (by rw [← e]; exact hl)
    refine ⟨hne _ (by decide), w1, ?_⟩
    unfold wordF
    rw [if_neg (hne _ (by decide)), if_neg (hne _ (by decide)), if_neg (hne _ (by decide)), if_neg (by rw [w2]; simp), w3]
  rw [if_neg h4]
  have hk0 : k = 0 := by omega
  have hn : n = 0 := by rcases u2 with e | e | e <;> omega
  subst hk0 hn
  exact ⟨by decide, by decide, by unfold wordF; rfl⟩
end Mh
namespace Mh
open Go Cal
set_option linter.unusedVariables false

theorem skip_not {t : Tk} {r : List UInt8} (h : t.line = false) (n : Nat) : skipF (n + 1) t r = some (t, r) := by
  unfold skipF; rw [if_neg (by rw [h]; simp)]
theorem skip_sign {r r' : List UInt8} {t' : Tk} (h : nextF false false r = some (t', r')) (hl : t'.line = false) (n : Nat) : skipF (n + 2) (.sign 10) r = some (t', r') := by
  unfold skipF
  rw [if_pos (by decide), h]
  exact skip_not hl n
theorem key_word {w : List UInt8} (h : isKeyL w = true) : w ≠ [] ∧ ∀ c ∈ w, wordB c = true := by
  cases w with
  | nil => cases h
  | cons a w =>
    refine ⟨by simp, fun c hc => ?_⟩
    simp only [isKeyL, Bool.and_eq_true, decide_eq_true_eq, List.all_eq_true] at h
    rcases List.mem_cons.1 hc with rfl | hc
    · unfold wordB; rw [h.1.2]; rfl
    · have := h.2 c hc
      simp only [keyB, Bool.or_eq_true, decide_eq_true_eq] at this
      unfold wordB
      rcases this with ((h1 | h1) | h1) | h1
      · rw [h1]; simp
      · rw [h1]; simp
      · rw [decide_eq_true h1]; simp
      · rw [decide_eq_true h1]; simp
theorem low_all {k : ByteArray} : ∀ ks : List ByteArray, (∀ x ∈ ks, kl x k = true) → low k ks = ks.length := by
  intro ks h
  unfold low
  rw [List.countP_eq_length]
  exact h
theorem put_last {k : ByteArray} {ks0 ks : List ByteArray} (h : Asc (ks0 ++ k :: ks)) (is0 : List V) (hl : ks0.length = is0.length) (x : V) :
    hit k ks0 = false ∧ putV (.mk 6 false 0 ⟨#[]⟩ is0 ks0) k x = .mk 6 false 0 ⟨#[]⟩ (is0 ++ [x]) (ks0 ++ [k]) := by
  have hb : ∀ y ∈ ks0, kl y k = true := fun y hy => (List.pairwise_append.1 h).2.2 y hy k (by simp)
  have h1 := low_all ks0 hb
  have h2 : hit k ks0 = false := by unfold hit; rw [h1]; exact decide_eq_false (by simp)
  refine ⟨h2, ?_⟩
  have h3 : putAt k ks0 = ks0.length := by unfold putAt; rw [h1, if_neg (by rw [h2]; simp)]; rfl
  show V.mk 6 false 0 ⟨#[]⟩ (is0.take (low k ks0) ++ x :: is0.drop (putAt k ks0)) (ks0.take (low k ks0) ++ k :: ks0.drop (putAt k ks0)) = _
  rw [h1, h3, List.take_length, List.drop_length, hl, List.take_length, List.drop_length]
def ValP (d : Nat) (v : V) : Prop := ∀ (ind r : List UInt8) (k : Nat) (lines : Bool), (∀ c ∈ ind, c = 32) → endsW r → k + v.nodes ≤ 1000 →
  ∃ tok r', nextF lines false (pvL v ind ++ r) = some (tok, r') ∧ tok.shut = false ∧ valueF d tok r' k = some (v, r, k + v.nodes)
theorem ends93 (r : List UInt8) : endsW (93 :: r) := fun c h => by simp at h; subst h; decide
theorem ends10 (r : List UInt8) : endsW (10 :: r) := fun c h => by simp at h; subst h; decide
theorem ends32 (r : List UInt8) : endsW (32 :: r) := fun c h => by simp at h; subst h; decide
theorem listP {d : Nat} : ∀ (is : List V), (∀ x ∈ is, ValP d x) → ∀ (ind r L : List UInt8) (k : Nat) (acc : List V) (n : Nat), (∀ c ∈ ind, c = 32) → k + V.nodess is ≤ 1000 →
    nextF true false L = nextF true false (pvsL is ind ++ 93 :: r) → is.length < n → listF (valueF d) n L k acc = some (acc ++ is, r, k + V.nodess is) := by
  intro is
  induction is with
  | nil =>
    intro _ ind r L k acc n _ _ hL hn
    obtain ⟨n, rfl⟩ : ∃ m, n = m + 1 := ⟨n - 1, by simp at hn; omega⟩
    unfold listF
    rw [hL, show pvsL [] ind ++ 93 :: r = 93 :: r by simp [pvsL], nextF_sign true 93 r (by decide)]
    simp [Tk.shut, V.nodess]
  | cons x is ih =>
    intro hP ind r L k acc n hind hk hL hn
    obtain ⟨n, rfl⟩ : ∃ m, n = m + 1 := ⟨n - 1, by simp at hn; omega⟩
    have hns : V.nodess (x :: is) = x.nodes + V.nodess is := by simp [V.nodess]
    have hend : endsW (pvtL is ind ++ 93 :: r) := by
      cases is with
      | nil => simp only [pvtL, List.nil_append]; exact ends93 r
      | cons y ys => simp only [pvtL, List.cons_append]; exact ends32 _
    obtain ⟨tok, r', h1, h2, h3⟩ := hP x (by simp) ind (pvtL is ind ++ 93 :: r) k true hind hend (by omega)
    have e : pvsL (x :: is) ind ++ 93 :: r = pvL x ind ++ (pvtL is ind ++ 93 :: r) := by simp [pvsL]
    unfold listF
    rw [hL, e, h1]
    simp only
    rw [if_neg (by rw [h2]; simp), h3]
    simp only
    rw [ih (fun y hy => hP y (by simp [hy])) ind r (pvtL is ind ++ 93 :: r) (k + x.nodes) (acc ++ [x]) n hind (by omega) ?_ (by simp at hn; omega)]
    · rw [hns]
      simp [Nat.add_assoc]
    · cases is with
      | nil => rfl
      | cons y ys => simp only [pvtL, pvsL, List.cons_append]; exact nextF_space true false _
/-- The first token of entries. -/
theorem nextEnt (is : List V) (ks : List ByteArray) (ind tail r : List UInt8) (et : Tk) (brace : Bool) (hlen : is.length = ks.length) (hind : ∀ c ∈ ind, c = 32) (hk : ∀ q ∈ ks, isKeyL q.data.toList = true)
    (he : nextF false false tail = some (et, r)) (hen : et.ends brace = true) :
    ∃ t' r', nextF false false (ptL is ks ind ++ tail) = some (t', r') ∧ t'.line = false := by
  cases is with
  | nil =>
    refine ⟨et, r, by simpa [ptL] using he, ?_⟩
    cases et with
    | fin => rfl
    | word s => simp [Tk.ends] at hen
    | text s => simp [Tk.ends] at hen
    | sign c =>
      simp only [Tk.ends, Bool.and_eq_true, decide_eq_true_eq] at hen
      show (decide (c.toNat = 10) || decide (c.toNat = 59)) = false
      rw [decide_eq_false (by omega), decide_eq_false (by omega)]
      rfl
  | cons x is =>
    cases ks with
    | nil => simp at hlen
    | cons q ks =>
      obtain ⟨h0, hw⟩ := key_word (hk q (by simp))
      refine ⟨.word q.data.toList, 32 :: (pvL x ind ++ 10 :: (ptL is ks ind ++ tail)), ?_, rfl⟩
      simp only [ptL, List.append_assoc, List.cons_append]
      rw [nextF_spaces false _ ind hind, nextF_word false _ _ h0 hw (ends32 _)]
theorem entP {d : Nat} {brace : Bool} {ind tail r : List UInt8} {et : Tk} (hind : ∀ c ∈ ind, c = 32) (he : nextF false false tail = some (et, r)) (hen : et.ends brace = true) :
    ∀ (is : List V), (∀ x ∈ is, ValP d x) → ∀ (ks : List ByteArray) (is0 : List V) (ks0 : List ByteArray) (k n : Nat) (tok : Tk) (rest : List UInt8), is.length = ks.length → ks0.length = is0.length → Asc (ks0 ++ ks) → (∀ q ∈ ks, isKeyL q.data.toList = true) →
    k + V.nodess is ≤ 1000 → skipF (rest.length + 2) tok rest = nextF false false (ptL is ks ind ++ tail) → is.length < n →
    entriesF (valueF d) brace n tok rest k (.mk 6 false 0 ⟨#[]⟩ is0 ks0) = some (.mk 6 false 0 ⟨#[]⟩ (is0 ++ is) (ks0 ++ ks), r, k + V.nodess is) := by
  intro is
  induction is with
  | nil =>
    intro _ ks is0 ks0 k n tok rest hlen _ _ _ _ hs hn
    obtain ⟨n, rfl⟩ : ∃ m, n = m + 1 := ⟨n - 1, by simp at hn; omega⟩
    have hks : ks = [] := List.length_eq_zero_iff.1 (by simpa using hlen.symm)
    subst hks
    unfold entriesF
    rw [hs, show ptL [] [] ind ++ tail = tail by simp [ptL], he]
    simp only
    rw [if_pos hen]
    simp [V.nodess]
  | cons x is ih =>
    intro hP ks is0 ks0 k n tok rest hlen hl0 hA hK hk hs hn
    obtain ⟨n, rfl⟩ : ∃ m, n = m + 1 := ⟨n - 1, by simp at hn; omega⟩
    cases ks with
    | nil => simp at hlen
    | cons q ks =>
      have hns : V.nodess (x :: is) = x.nodes + V.nodess is := by simp [V.nodess]
      have hq := hK q (by simp)
      obtain ⟨h0, hw⟩ := key_word hq
      obtain ⟨hhit, hput⟩ := put_last hA is0 hl0 x
      have hqa : (⟨q.data.toList.toArray⟩ : ByteArray) = q := rfl
      have e1 : nextF false false (ptL (x :: is) (q :: ks) ind ++ tail) = some (.word q.data.toList, 32 :: (pvL x ind ++ 10 :: (ptL is ks ind ++ tail))) := by
        simp only [ptL, List.append_assoc, List.cons_append]
        rw [nextF_spaces false _ ind hind, nextF_word false _ _ h0 hw (ends32 _)]
      obtain ⟨tok2, r2, h1, _, h3⟩ := hP x (by simp) ind (10 :: (ptL is ks ind ++ tail)) k false hind (ends10 _) (by omega)
      obtain ⟨t', r', n1, n2⟩ := nextEnt is ks ind tail r et brace (by simpa using hlen) hind (fun y hy => hK y (by simp [hy])) he hen
      unfold entriesF
      rw [hs, e1]
      simp only
      rw [if_neg (by simp [Tk.ends]), if_neg (by rw [hq]; simp), hqa, show (V.mk 6 false 0 ⟨#[]⟩ is0 ks0).kys = ks0 from rfl, if_neg (by rw [hhit]; simp), nextF_space, h1]
      simp only
      rw [h3]
      simp only
      rw [nextF_lf]
      simp only
      rw [if_pos (by simp [Tk.line]), hput, ih (fun y hy => hP y (by simp [hy])) ks (is0 ++ [x]) (ks0 ++ [q]) (k + x.nodes) n (.sign 10) (ptL is ks ind ++ tail) (by simpa using hlen) (by simp [hl0]) (by simpa using hA) (fun y hy => hK y (by simp [hy])) (by omega) ((skip_sign n1 n2 _).trans n1.symm) (by simp at hn; omega)]
      rw [hns]
      simp [Nat.add_assoc]
theorem ptL_len : ∀ (is : List V) (ks : List ByteArray) (ind : List UInt8), is.length = ks.length → is.length ≤ (ptL is ks ind).length := by
  intro is
  induction is with
  | nil => intro ks ind _; simp
  | cons x is ih =>
    intro ks ind h
    cases ks with
    | nil => simp at h
    | cons q ks =>
      have := ih ks ind (by simpa using h)
      simp only [ptL, List.length_append, List.length_cons]
      omega
theorem pvtL_len : ∀ (is : List V) (ind : List UInt8), is.length ≤ (pvtL is ind).length := by
  intro is
  induction is with
  | nil => intro ind; simp
  | cons x is ih => intro ind; have := ih ind; simp only [pvtL, List.length_append, List.length_cons]; omega
/-- What the kinds leave unused. -/
theorem good_zero {k : Int} {b : Bool} {n : Int} {t : ByteArray} {is : List V} {ks : List ByteArray} (h : (V.mk k b n t is ks).good) :
    (k = 3 → b = false ∧ n = 0 ∧ is = [] ∧ ks = []) ∧ (k = 5 → b = false ∧ n = 0 ∧ t = ⟨#[]⟩ ∧ ks = []) ∧ (k = 6 → b = false ∧ n = 0 ∧ t = ⟨#[]⟩ ∧ ks.length = is.length) ∧ t.size ≤ 5000 ∧ badL t.data.toList = false ∧ Asc ks ∧ (∀ q ∈ ks, isKeyL q.data.toList = true) ∧ ∀ x ∈ is, x.good := by
  have hf := good_facts h
  simp only [V.good, V.good1] at h
  obtain ⟨⟨hk, hu, hday, ht, hb, hks⟩, hg⟩ := h
  simp only [unusedV, Bool.or_eq_false_iff, Bool.and_eq_false_iff, Bool.not_eq_false', decide_eq_true_eq, decide_eq_false_iff_not] at hu
  obtain ⟨⟨⟨⟨⟨u1, u2⟩, u3⟩, u4⟩, u5⟩, u6⟩ := hu
  have z1 : k ≠ 1 → b = false := fun hk => by rcases u1 with e | e; exact e; exact absurd e hk
  have z2 : k ≠ 2 → k ≠ 4 → n = 0 := fun h1 h2 => by rcases u2 with e | e | e; exact e; exact absurd e h1; exact absurd e h2
  have z3 : k ≠ 3 → t = ⟨#[]⟩ := fun hk => by rcases u3 with e | e; exact empty_eq e; exact absurd e hk
  have z4 : k ≠ 5 → k ≠ 6 → is = [] := fun h1 h2 => by
    rcases u4 with e | e | e
    · exact List.length_eq_zero_iff.1 (by omega)
    · exact absurd e h1
    · exact absurd e h2
  have z5 : k ≠ 6 → ks = [] := fun hk => by
    rcases u5 with e | e
    · exact List.length_eq_zero_iff.1 (by omega)
    · exact absurd e hk
  refine ⟨fun e => ⟨z1 (by omega), z2 (by omega) (by omega), z4 (by omega) (by omega), z5 (by omega)⟩, fun e => ⟨z1 (by omega), z2 (by omega) (by omega), z3 (by omega), z5 (by omega)⟩, fun e => ⟨z1 (by omega), z2 (by omega) (by omega), z3 (by omega), ?_⟩, ht, hb, hf.1, hf.2.2.2.2, hf.2.2.2.1⟩
  rcases u6 with e1 | e1
  · exact absurd e e1
  · exact e1
theorem valP : ∀ (N : Nat) (v : V), sizeOf v < N → v.good → v.rng → ∀ d, v.lev ≤ d → ValP d v := by
  intro N
  induction N with
  | zero => intro v h; omega
  | succ N ih =>
    intro v hN hg hr d hd
    obtain ⟨k, b, n, t, is, ks⟩ := v
    obtain ⟨g3, g5, g6, gt, gb, gA, gK, gI⟩ := good_zero hg
    have hl1 : 1 ≤ (V.mk k b n t is ks).lev := by simp only [V.lev]; omega
    obtain ⟨d, rfl⟩ : ∃ m, d = m + 1 := ⟨d - 1, by omega⟩
    simp only [V.rng] at hr
    have hrm : ∀ l : List V, V.rngs l → ∀ x ∈ l, x.rng := by
      intro l
      induction l with
      | nil => intro _ x hx; simp at hx
      | cons a l ihl =>
        intro h x hx
        simp only [V.rngs] at h
        rcases List.mem_cons.1 hx with rfl | hx
        · exact h.1
        · exact ihl h.2 x hx
    have hI : ∀ x ∈ is, ValP d x := by
      intro x hx
      have hs := size_item (k := k) (b := b) (n := n) (t := t) (ks := ks) (show x ∈ is from hx)
      have hlv : x.lev < (V.mk k b n t is ks).lev := lev_item (v := V.mk k b n t is ks) (show x ∈ (V.mk k b n t is ks).its from hx)
      exact ih x (by omega) (gI x hx) (hrm is hr.2 x hx) d (by omega)
    have hnd : (V.mk k b n t is ks).nodes = V.nodess is + 1 := by simp only [V.nodes]
    intro ind r c lines hind hend hc
    rw [hnd] at hc ⊢
    have hval : ∀ tok rr, valueF (d + 1) tok rr c = (match tok with
      | .fin => none
      | .word w => match wordF w with
        | none => none
        | some v => some (v, rr, c + 1)
      | .text s => if 5000 < s.length then none else some (.mk 3 false 0 ⟨s.toArray⟩ [] [], rr, c + 1)
      | .sign q =>
        if q.toNat = 91 then match listF (valueF d) (rr.length + 1) rr (c + 1) [] with
          | none => none
          | some (is, r2, k2) => some (.mk 5 false 0 ⟨#[]⟩ is [], r2, k2)
        else if q.toNat = 123 then match nextF false false rr with
          | none => none
          | some (t, r2) => entriesF (valueF d) true (r2.length + 1) t r2 (c + 1) (.mk 6 false 0 ⟨#[]⟩ [] [])
        else none) := by
      intro tok rr
      conv => lhs; unfold valueF
      rw [if_neg (by omega)]
      all_goals (cases tok <;> rfl)
    by_cases h3 : k = 3
    · subst h3
      obtain ⟨rfl, rfl, rfl, rfl⟩ := g3 rfl
      refine ⟨.text t.data.toList, r, ?_, rfl, ?_⟩
      · unfold pvL; rw [if_pos rfl]; exact nextF_quote lines _ r gb
      · rw [hval]
        simp only
        rw [if_neg (by have : t.data.toList.length = t.size := rfl; omega)]
        simp [V.nodess]
    by_cases h5 : k = 5
    · subst h5
      obtain ⟨rfl, rfl, rfl, rfl⟩ := g5 rfl
      refine ⟨.sign 91, pvsL is ind ++ 93 :: r, ?_, rfl, ?_⟩
      · unfold pvL
        rw [if_neg (by decide), if_pos rfl, List.cons_append, List.append_assoc, List.singleton_append]
        exact nextF_sign lines 91 _ (by decide)
      · rw [hval]
        simp only
        rw [if_pos (by decide), listP is hI ind r _ (c + 1) [] _ hind (by omega) rfl ?_]
        · simp; omega
        · have : is.length ≤ (pvsL is ind ++ 93 :: r).length := by
            cases is with
            | nil => simp
            | cons x is => have := pvtL_len is ind; simp only [pvsL, List.length_append, List.length_cons]; omega
          omega
    by_cases h6 : k = 6
    · subst h6
      obtain ⟨rfl, rfl, rfl, hlen⟩ := g6 rfl
      by_cases hks : ks = []
      · subst hks
        have his : is = [] := List.length_eq_zero_iff.1 (by simpa using hlen.symm)
        subst his
        refine ⟨.sign 123, 125 :: r, ?_, rfl, ?_⟩
        · unfold pvL
          rw [if_neg (by decide), if_neg (by decide), if_pos rfl, if_pos rfl]
          exact nextF_sign lines 123 _ (by decide)
        · rw [hval]
          simp only
          rw [if_neg (by decide), if_pos (by decide), nextF_sign false 125 r (by decide)]
          simp only
          unfold entriesF
          rw [skip_not (by decide)]
          simp [Tk.ends, V.nodess]
      · refine ⟨.sign 123, 10 :: (ptL is ks (ind ++ [32, 32]) ++ (ind ++ 125 :: r)), ?_, rfl, ?_⟩
        · unfold pvL
          rw [if_neg (by decide), if_neg (by decide), if_pos rfl, if_neg hks]
          simp only [List.cons_append, List.append_assoc, List.nil_append]
          exact nextF_sign lines 123 _ (by decide)
        · rw [hval]
          simp only
          rw [if_neg (by decide), if_pos (by decide), nextF_lf]
          simp only
          have hind2 : ∀ c ∈ ind ++ [32, 32], c = 32 := by
            intro c hc
            rcases List.mem_append.1 hc with hc | hc
            · exact hind c hc
            · simp at hc; exact hc
          have he : nextF false false (ind ++ 125 :: r) = some (.sign 125, r) := by rw [nextF_spaces false _ ind hind]; exact nextF_sign false 125 r (by decide)
          obtain ⟨t', r', n1, n2⟩ := nextEnt is ks (ind ++ [32, 32]) (ind ++ 125 :: r) r (.sign 125) true hlen.symm hind2 gK he (by decide)
          rw [entP hind2 he (by decide) is hI ks [] [] (c + 1) _ (.sign 10) _ hlen.symm rfl (by simpa using gA) gK (by omega) ((skip_sign n1 n2 _).trans n1.symm) ?_]
          · simp; omega
          · have := ptL_len is ks (ind ++ [32, 32]) hlen.symm
            simp only [List.length_append]; omega
    · obtain ⟨w1, w2, w3, w4⟩ := word_ok hg hr.1 h3 h5 h6
      refine ⟨.word (wordL k b n), r, ?_, rfl, ?_⟩
      · unfold pvL
        rw [if_neg h3, if_neg h5, if_neg h6]
        exact nextF_word lines _ r w1 w2 hend
      · rw [hval]
        simp only
        rw [w3, w4]
/-- What is printed of a right table is read to it. -/
theorem parse_print (v : V) (h : v.okc) (h6 : v.kd = 6) (hr : v.rng) (hl : (printF v).length ≤ 50000) : parseF (printF v) = some v := by
  have hn := h.nodes
  obtain ⟨k, b, n, t, is, ks⟩ := v
  simp only [V.kd] at h6
  subst h6
  obtain ⟨_, _, g6, _, _, gA, gK, gI⟩ := good_zero h.2.2
  obtain ⟨rfl, rfl, rfl, hlen⟩ := g6 rfl
  have hI : ∀ x ∈ is, ValP 7 x := by
    intro x hx
    have hlv : x.lev < (V.mk 6 false 0 ⟨#[]⟩ is ks).lev := lev_item (v := V.mk 6 false 0 ⟨#[]⟩ is ks) (show x ∈ (V.mk 6 false 0 ⟨#[]⟩ is ks).its from hx)
    have hl8 := h.2.1
    simp only [V.rng] at hr
    have hrm : ∀ l : List V, V.rngs l → ∀ x ∈ l, x.rng := by
      intro l
      induction l with
      | nil => intro _ x hx; simp at hx
      | cons a l ihl =>
        intro h x hx
        simp only [V.rngs] at h
        rcases List.mem_cons.1 hx with rfl | hx
        · exact h.1
        · exact ihl h.2 x hx
    exact valP _ x (Nat.lt_succ_self _) (gI x hx) (hrm is hr.2 x hx) 7 (by omega)
  have hnd : (V.mk 6 false 0 ⟨#[]⟩ is ks).nodes = V.nodess is + 1 := by simp only [V.nodes]
  rw [hnd] at hn
  have e0 : printF (V.mk 6 false 0 ⟨#[]⟩ is ks) = ptL is ks [] := rfl
  rw [e0] at hl ⊢
  unfold parseF
  rw [if_neg (by omega)]
  obtain ⟨t', r', n1, n2⟩ := nextEnt is ks [] [] [] .fin false hlen.symm (by simp) gK (by simp [nextF]) (by rfl)
  rw [List.append_nil] at n1
  rw [n1]
  simp only
  have hrl : is.length ≤ r'.length := by
    cases is with
    | nil => simp
    | cons x is =>
      cases ks with
      | nil => simp at hlen
      | cons q ks =>
        obtain ⟨h0, hw⟩ := key_word (gK q (by simp))
        simp only [ptL, List.nil_append] at n1
        rw [nextF_word false _ _ h0 hw (ends32 _)] at n1
        cases n1
        have := ptL_len is ks [] (by simpa using hlen.symm)
        simp only [List.length_cons, List.length_append]; omega
  rw [entP (ind := []) (tail := []) (r := []) (et := .fin) (by simp) (by simp [nextF]) (by rfl) is hI ks [] [] 1 _ t' r' hlen.symm rfl (by simpa using gA) gK (by omega) ?_ (by omega)]
  · simp
  · rw [List.append_nil, n1]
    exact skip_not n2 _
end Mh
