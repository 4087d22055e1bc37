/- Styles and scripts in tokens, and what may be left out: plain lists. No program. -/
import Derived.Test.YtckinhebbhflgaaBase
import Derived.Lib.SplitLaws
namespace Mh
open Go
set_option linter.unusedVariables false

/-- A token: its kind (1 a word, 2 a string, 3 a mark, 4 a blank) and its text. -/
structure Tk where
  kind : Int
  text : List UInt8
def bad (c : UInt8) : Bool := (decide (c < 32) && !(c == 9) && !(c == 10)) || c == 127
def blk (c : UInt8) : Bool := c == 32 || c == 9 || c == 10
def swd (c : UInt8) : Bool := (decide (97 ≤ c) && decide (c ≤ 122)) || (decide (65 ≤ c) && decide (c ≤ 90)) || (decide (48 ≤ c) && decide (c ≤ 57)) || c == 95 || c == 36 || decide (128 ≤ c)
def sMarks : List UInt8 := [123, 125, 40, 41, 91, 93, 59, 58, 44, 62]
def mrk (sc : Bool) (c : UInt8) : Bool := if sc then !(swd c) else sMarks.contains c
/-- What a comment that begins here takes: none: none does, some none: it has no end. -/
def cm (sc : Bool) (r : List UInt8) : Option (Option Nat) :=
  if Lib.hasPrefix r [47, 42] then (if Lib.index (r.drop 2) [42, 47] < 0 then some none else some (some (2 + (Lib.index (r.drop 2) [42, 47]).toNat + 2)))
  else if sc && Lib.hasPrefix r [47, 47] then (if Lib.indexByte r 10 < 0 then some (some r.length) else some (some (Lib.indexByte r 10).toNat))
  else none
/-- What a blank that begins here takes. -/
def bend (sc : Bool) : Nat → List UInt8 → Option Nat
  | 0, _ => none
  | _ + 1, [] => some 0
  | n + 1, c :: t =>
    if blk c then (bend sc n t).map (· + 1)
    else match cm sc (c :: t) with
      | none => some 0
      | some none => none
      | some (some k) => if ((c :: t).take k).any bad then none else (bend sc n ((c :: t).drop k)).map (· + k)
/-- What the rest of a string takes, behind its first quote. -/
def strE (q : UInt8) : List UInt8 → Option Nat
  | [] => none
  | [c] => if c = 10 then none else if c = q then some 1 else none
  | c :: d :: t => if c = 10 then none else if c = q then some 1 else if c = 92 then (if d = 10 then none else (strE q t).map (· + 2)) else (strE q (d :: t)).map (· + 1)
def begins (sc : Bool) (c : UInt8) (t : List UInt8) : Bool := blk c || c == 34 || c == 39 || mrk sc c || (cm sc (c :: t)).isSome || bad c
def wend (sc : Bool) : List UInt8 → Nat
  | [] => 0
  | c :: t => if begins sc c t then 0 else wend sc t + 1
def toks (sc : Bool) : Nat → List UInt8 → Option (List Tk)
  | _, [] => some []
  | 0, _ :: _ => none
  | n + 1, c :: t =>
    if bad c then none
    else if blk c || (cm sc (c :: t)).isSome then
      match bend sc (t.length + 2) (c :: t) with
      | none => none
      | some k => (toks sc n ((c :: t).drop k)).map (⟨4, [32]⟩ :: ·)
    else if c == 34 || c == 39 then
      match strE c t with
      | none => none
      | some k => if (t.take k).any bad then none else (toks sc n (t.drop k)).map (⟨2, c :: t.take k⟩ :: ·)
    else if mrk sc c then (toks sc n t).map (⟨3, [c]⟩ :: ·)
    else (toks sc n (t.drop (wend sc t))).map (⟨1, c :: t.take (wend sc t)⟩ :: ·)
def cat : List Tk → List UInt8
  | [] => []
  | t :: l => t.text ++ cat l
/-- Is a token one of some marks? -/
def am (t : Tk) (ms : List UInt8) : Bool := decide (t.kind = 3) && (match t.text with
  | [c] => ms.contains c
  | _ => false)
def S1 : List UInt8 := [123, 125, 59, 58, 44, 62]
def S2 : List UInt8 := [123, 125, 59, 44, 62]
def needd (kind : Int) : Option Tk → Option Tk → Bool
  | some a, some b => if kind = 1 then !(am a S1) && !(am b S2) else decide (a.kind = b.kind) && (decide (a.kind = 1) || decide (a.kind = 3))
  | _, _ => false
theorem needd_style (a b : Tk) : needd 1 (some a) (some b) = (!(am a S1) && !(am b S2)) := rfl
theorem needd_script (a b : Tk) : needd 2 (some a) (some b) = (decide (a.kind = b.kind) && (decide (a.kind = 1) || decide (a.kind = 3))) := rfl
def ends : List Tk → Bool
  | [] => true
  | t :: l => if t.kind = 4 then ends l else if am t [59] then ends l else am t [125]
def keep (kind : Int) (p : Option Tk) (t : Tk) (l : List Tk) : Bool := if t.kind = 4 then needd kind p l.head? else !(decide (kind = 1) && am t [59] && ends l)
def sm (kind : Int) (p : Option Tk) : List Tk → List Tk
  | [] => []
  | t :: l => if keep kind p t l then t :: sm kind (some t) l else sm kind (some t) l

def wok (sc : Bool) : List UInt8 → Bool
  | [] => true
  | c :: t => !(blk c) && !(c == 34) && !(c == 39) && !(mrk sc c) && !(bad c) && !(Lib.hasPrefix (c :: t) [47, 42]) && wok sc t
/-- A token that the scanner can have made. -/
def goodT (sc : Bool) (t : Tk) : Prop :=
  (t.kind = 1 ∧ t.text ≠ [] ∧ wok sc t.text = true) ∨ (t.kind = 2 ∧ ∃ q b, t.text = q :: b ∧ (q = 34 ∨ q = 39) ∧ strE q b = some b.length ∧ b.any bad = false) ∨
  (t.kind = 3 ∧ ∃ c, t.text = [c] ∧ bad c = false ∧ blk c = false ∧ c ≠ 34 ∧ c ≠ 39 ∧ mrk sc c = true) ∨ (t.kind = 4 ∧ t.text = [32])
def adj (a b : Tk) : Prop := ¬ (a.kind = 1 ∧ b.kind = 1) ∧ ¬ (a.kind = 4 ∧ b.kind = 4) ∧ ¬ (a.kind = 3 ∧ a.text = [47] ∧ b.kind = 3 ∧ (b.text = [47] ∨ b.text = [42]))
def chn (sc : Bool) (p : Option Tk) : List Tk → Prop
  | [] => True
  | t :: l => (∀ x, p = some x → adj x t) ∧ goodT sc t ∧ chn sc (some t) l

theorem ends_sm (kind : Int) : ∀ (l : List Tk) (p : Option Tk), ends (sm kind p l) = ends l
  | [], _ => rfl
  | t :: l, p => by
    have ih := ends_sm kind l (some t)
    unfold sm
    split
    · rename_i hk
      simp only [ends, ih]
    · rename_i hk
      rw [ih]
      unfold keep at hk
      simp only [ends]
      split
      · rfl
      · rename_i h4
        rw [if_neg h4] at hk
        simp only [Bool.not_eq_true', Bool.not_eq_false, Bool.and_eq_true] at hk
        rw [if_pos hk.1.2]

/-- Where the last token that was kept stands to the last one. -/
def St (kind : Int) (p last : Option Tk) (l : List Tk) : Prop :=
  last = p ∨ ((∃ q, p = some q ∧ q.kind = 4) ∧ (∀ x, last = some x → x.kind ≠ 4) ∧ ∀ b l', l = b :: l' → needd kind last (some b) = false) ∨
  (kind = 1 ∧ ends l = true ∧ ∃ q, p = some q ∧ (am q [59] = true ∨ q.kind = 4))
theorem am_kind {t : Tk} {ms : List UInt8} (h : am t ms = true) : t.kind = 3 := by
  unfold am at h
  simp only [Bool.and_eq_true, decide_eq_true_eq] at h
  exact h.1
theorem am_text {t : Tk} {ms : List UInt8} (h : am t ms = true) : ∃ c, t.text = [c] ∧ c ∈ ms := by
  unfold am at h
  simp only [Bool.and_eq_true] at h
  split at h
  · rename_i c e
    exact ⟨c, e, by simpa using h.2⟩
  · simp at h
theorem am_sub {t : Tk} {ms ns : List UInt8} (hs : ∀ c ∈ ms, c ∈ ns) (h : am t ms = true) : am t ns = true := by
  obtain ⟨c, e, hc⟩ := am_text h
  have hk := am_kind h
  unfold am
  rw [e]
  simp [hk, hs c hc]
theorem mark_style {t : Tk} (h : goodT false t) (h3 : t.kind = 3) : t.text ≠ [47] ∧ t.text ≠ [42] := by
  rcases h with h | h | ⟨_, c, e, _, _, _, _, hm⟩ | h
  · omega
  · omega
  · rw [e]
    constructor
    · intro e2
      injection e2 with e2
      subst e2
      exact absurd hm (by decide)
    · intro e2
      injection e2 with e2
      subst e2
      exact absurd hm (by decide)
  · omega

theorem sm_law (kind : Int) (sc : Bool) (hk : (kind = 1 ∧ sc = false) ∨ (kind = 2 ∧ sc = true)) : ∀ (l : List Tk) (p last : Option Tk), chn sc p l → St kind p last l →
    chn sc last (sm kind p l) ∧ sm kind last (sm kind p l) = sm kind p l
  | [], p, last, _, _ => ⟨trivial, rfl⟩
  | t :: l, p, last, hc, hs => by
    obtain ⟨hadj, hg, hc'⟩ := hc
    have ihA := sm_law kind sc hk l (some t) (some t) hc' (.inl rfl)
    have nb : ∀ q, p = some q → q.kind = 4 → t.kind ≠ 4 := fun q hq h4 h => (hadj q hq).2.1 ⟨h4, h⟩
    -- a token that is left out
    have drop : keep kind p t l = false → St kind (some t) last l → chn sc last (sm kind p (t :: l)) ∧ sm kind last (sm kind p (t :: l)) = sm kind p (t :: l) := by
      intro h1 h2
      have e : sm kind p (t :: l) = sm kind (some t) l := by rw [sm, h1]; rfl
      rw [e]
      exact sm_law kind sc hk l (some t) last hc' h2
    -- one that is kept
    have stay : keep kind p t l = true → (∀ x, last = some x → adj x t) → keep kind last t (sm kind (some t) l) = true → chn sc last (sm kind p (t :: l)) ∧ sm kind last (sm kind p (t :: l)) = sm kind p (t :: l) := by
      intro h1 h2 h3
      have e : sm kind p (t :: l) = t :: sm kind (some t) l := by rw [sm, h1]; rfl
      rw [e]
      refine ⟨⟨h2, hg, ihA.1⟩, ?_⟩
      rw [sm, h3]
      rw [if_pos rfl, ihA.2]
    have sem : t.kind ≠ 4 → keep kind last t (sm kind (some t) l) = keep kind p t l := by
      intro h4
      unfold keep
      rw [if_neg h4, if_neg h4, ends_sm]
    have gone : t.kind ≠ 4 → keep kind p t l = false → St kind (some t) last l := by
      intro h4 h
      unfold keep at h
      rw [if_neg h4] at h
      simp only [Bool.not_eq_false', Bool.and_eq_true, decide_eq_true_eq] at h
      exact .inr (.inr ⟨h.1.1, h.2, t, rfl, .inl h.1.2⟩)
    rcases hs with rfl | ⟨⟨q, hq, hq4⟩, hl4, hn⟩ | ⟨hk1, he, q, hq, hq2⟩
    · by_cases h4 : t.kind = 4
      · cases hkp : keep kind last t l with
        | false =>
          refine drop hkp (.inr (.inl ⟨⟨t, rfl, h4⟩, fun x hx h => (hadj x hx).2.1 ⟨h, h4⟩, fun b l' e => ?_⟩))
          unfold keep at hkp
          rw [if_pos h4, e] at hkp
          exact hkp
        | true =>
          refine stay hkp hadj ?_
          have h1 := hkp
          unfold keep at h1 ⊢
          rw [if_pos h4] at h1 ⊢
          match l, hc', h1 with
          | [], _, h1 => cases last <;> simp [needd] at h1
          | b :: l', hc', h1 =>
          have hb4 : b.kind ≠ 4 := fun h => (hc'.1 t rfl).2.1 ⟨h4, h⟩
          have hkb : keep kind (some t) b l' = true := by
            unfold keep
            rw [if_neg hb4]
            rcases hk with ⟨rfl, _⟩ | ⟨rfl, _⟩
            · cases last with
              | none => simp [needd] at h1
              | some a =>
                simp only [List.head?_cons, needd, if_true, Bool.and_eq_true, Bool.not_eq_true'] at h1
                have : am b [59] = false := by
                  cases e : am b [59] with
                  | false => rfl
                  | true => rw [am_sub (ns := S2) (by decide) e] at h1; simp at h1
                rw [this]
                rfl
            · rfl
          have : (sm kind (some t) (b :: l')).head? = some b := by rw [sm, hkb]; rfl
          rw [this]
          exact h1
      · cases hkp : keep kind last t l with
        | false => exact drop hkp (gone h4 hkp)
        | true => exact stay hkp hadj (by rw [sem h4]; exact hkp)
    · have h4 := nb q hq hq4
      cases hkp : keep kind p t l with
      | false => exact drop hkp (gone h4 hkp)
      | true =>
        refine stay hkp (fun x hx => ?_) (by rw [sem h4]; exact hkp)
        have h1 := hn t l rfl
        rw [hx] at h1
        rcases hk with ⟨rfl, rfl⟩ | ⟨rfl, _⟩
        · simp only [needd_style, Bool.and_eq_false_iff, Bool.not_eq_false'] at h1
          refine ⟨fun h => ?_, fun h => h4 h.2, fun h => ?_⟩
          · rcases h1 with h1 | h1
            · have := am_kind h1; omega
            · have := am_kind h1; omega
          · have := mark_style hg h.2.2.1
            rcases h.2.2.2 with e | e
            · exact this.1 e
            · exact this.2 e
        · simp only [needd_script, Bool.and_eq_false_iff, Bool.or_eq_false_iff, decide_eq_false_iff_not] at h1
          refine ⟨fun h => ?_, fun h => h4 h.2, fun h => ?_⟩
          · rcases h1 with h1 | h1
            · exact h1 (by rw [h.1, h.2])
            · exact h1.1 h.1
          · rcases h1 with h1 | h1
            · exact h1 (by rw [h.1, h.2.2.1])
            · exact h1.2 h.1
    · subst hk1
      have hsc : sc = false := by rcases hk with h | h; exact h.2; exact absurd h.1 (by decide)
      subst hsc
      by_cases h4 : t.kind = 4
      · have hq3 : am q [59] = true := by
          rcases hq2 with h | h
          · exact h
          · exact absurd h4 (nb q hq h)
        have hkp : keep 1 p t l = false := by
          unfold keep
          rw [if_pos h4, hq]
          cases hh : l.head? with
          | none => rfl
          | some b =>
            rw [needd_style, am_sub (ns := S1) (by decide) hq3]
            rfl
        refine drop hkp (.inr (.inr ⟨rfl, ?_, t, rfl, .inr h4⟩))
        rw [ends, if_pos h4] at he
        exact he
      · rw [ends, if_neg h4] at he
        cases h59 : am t [59] with
        | true =>
          rw [h59, if_pos rfl] at he
          have hkp : keep 1 p t l = false := by
            unfold keep
            rw [if_neg h4, h59, he]
            rfl
          exact drop hkp (.inr (.inr ⟨rfl, he, t, rfl, .inl h59⟩))
        | false =>
          rw [h59, if_neg (by decide)] at he
          have hkp : keep 1 p t l = true := by
            unfold keep
            rw [if_neg h4, h59]
            simp
          refine stay hkp (fun x hx => ?_) (by rw [sem h4]; exact hkp)
          have h3 := am_kind he
          have hm := mark_style hg h3
          refine ⟨fun h => by omega, fun h => h4 h.2, fun h => ?_⟩
          rcases h.2.2.2 with e | e
          · exact hm.1 e
          · exact hm.2 e
end Mh
