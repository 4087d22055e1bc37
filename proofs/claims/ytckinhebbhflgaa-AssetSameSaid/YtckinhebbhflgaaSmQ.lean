/- What is made smaller is divided into just the tokens that were kept: plain lists. No program. -/
import Derived.Test.YtckinhebbhflgaaSmP
namespace Mh
open Go
set_option linter.unusedVariables false

theorem cat_cons (t : Tk) (l : List Tk) : cat (t :: l) = t.text ++ cat l := rfl
theorem hp_nil (a b : UInt8) : Lib.hasPrefix [] [a, b] = false := rfl
theorem hp_one (a b c : UInt8) : Lib.hasPrefix [c] [a, b] = false := by simp [Lib.hasPrefix, List.isPrefixOf]
theorem hp_two (a b c d : UInt8) (t : List UInt8) : Lib.hasPrefix (c :: d :: t) [a, b] = ((a == c) && (b == d)) := by simp [Lib.hasPrefix, List.isPrefixOf]
theorem hp_ne (a b c : UInt8) (t : List UInt8) (h : c ≠ a) : Lib.hasPrefix (c :: t) [a, b] = false := by
  cases t with
  | nil => exact hp_one a b c
  | cons d t => rw [hp_two, beq_eq_false_iff_ne.2 (fun e => h e.symm)]; rfl
theorem hp_take {a b c : UInt8} {t : List UInt8} (k : Nat) (h : Lib.hasPrefix (c :: t) [a, b] = false) : Lib.hasPrefix (c :: t.take k) [a, b] = false := by
  cases t with
  | nil => rw [List.take_nil]; exact h
  | cons d t =>
    cases k with
    | zero => exact hp_one a b c
    | succ k => rw [List.take_succ_cons, hp_two]; rw [hp_two] at h; exact h
theorem cm_ne (sc : Bool) (c : UInt8) (t : List UInt8) (h : c ≠ 47) : cm sc (c :: t) = none := by
  unfold cm
  rw [hp_ne 47 42 c t h, hp_ne 47 47 c t h]
  simp
theorem cm_nil (sc : Bool) : cm sc [] = none := by
  unfold cm
  rw [hp_nil, hp_nil]
  simp
theorem cm_slash (sc : Bool) (R : List UInt8) (h : ∀ d T, R = d :: T → d ≠ 42 ∧ (sc = true → d ≠ 47)) : cm sc (47 :: R) = none := by
  cases R with
  | nil => unfold cm; rw [hp_one, hp_one]; simp
  | cons d T =>
    obtain ⟨h1, h2⟩ := h d T rfl
    unfold cm
    rw [hp_two, hp_two, beq_eq_false_iff_ne.2 (fun e => h1 e.symm)]
    cases sc with
    | false => simp
    | true => rw [beq_eq_false_iff_ne.2 (fun e => h2 rfl e.symm)]; simp
theorem cm_none {sc : Bool} {r : List UInt8} (h : cm sc r = none) : Lib.hasPrefix r [47, 42] = false ∧ (sc = true → Lib.hasPrefix r [47, 47] = false) := by
  unfold cm at h
  split at h
  · split at h <;> cases h
  · rename_i h1
    split at h
    · split at h <;> cases h
    · rename_i h2
      refine ⟨by simpa using h1, fun hs => ?_⟩
      subst hs
      simpa using h2
theorem cm_pos {sc : Bool} {r : List UInt8} {k : Nat} (h : cm sc r = some (some k)) : 1 ≤ k := by
  unfold cm at h
  split at h
  · split at h
    · cases h
    · injection h with h; injection h with h; omega
  · split at h
    · rename_i h2
      simp only [Bool.and_eq_true] at h2
      match r, h2.2, h with
      | c :: d :: t, h3, h =>
      rw [hp_two] at h3
      simp only [Bool.and_eq_true, beq_iff_eq] at h3
      obtain ⟨rfl, rfl⟩ := h3
      split at h
      · injection h with h; injection h with h; subst h; simp
      · rename_i h5
        injection h with h; injection h with h; subst h
        have e : Lib.indexByte (47 :: 47 :: t) 10 = if Lib.indexByte (47 :: t) 10 == -1 then -1 else Lib.indexByte (47 :: t) 10 + 1 := rfl
        have hg := Lib.indexByte_ge (47 :: t) 10
        rw [e] at h5 ⊢
        split
        · rename_i h6; rw [if_pos h6] at h5; omega
        · rename_i h6
          have : Lib.indexByte (47 :: t) 10 ≠ -1 := by simpa using h6
          omega
    · cases h

theorem bend_end (sc : Bool) : ∀ (n : Nat) (r : List UInt8) (k : Nat), bend sc n r = some k → ∀ c t, r.drop k = c :: t → blk c = false ∧ cm sc (c :: t) = none
  | 0, r, k, h, _, _, _ => by unfold bend at h; cases h
  | n + 1, [], k, h, c, t, e => by rw [List.drop_nil] at e; cases e
  | n + 1, c0 :: t0, k, h, c, t, e => by
    unfold bend at h
    split at h
    · rename_i h1
      obtain ⟨k', h2, rfl⟩ := Option.map_eq_some_iff.1 h
      exact bend_end sc n t0 k' h2 c t e
    · rename_i h1
      split at h
      · rename_i h2
        injection h with h
        subst h
        rw [List.drop_zero] at e
        injection e with e1 e2
        subst e1 e2
        exact ⟨by simpa using h1, h2⟩
      · cases h
      · rename_i k0 h2
        split at h
        · cases h
        · obtain ⟨k', h3, rfl⟩ := Option.map_eq_some_iff.1 h
          refine bend_end sc n _ k' h3 c t ?_
          rw [List.drop_drop, Nat.add_comm]
          exact e
theorem bend_pos (sc : Bool) (n : Nat) (c : UInt8) (t : List UInt8) (k : Nat) (h : bend sc n (c :: t) = some k) (h2 : (blk c || (cm sc (c :: t)).isSome) = true) : 1 ≤ k := by
  cases n with
  | zero => unfold bend at h; cases h
  | succ n =>
    unfold bend at h
    split at h
    · obtain ⟨k', _, rfl⟩ := Option.map_eq_some_iff.1 h
      omega
    · rename_i h1
      have h3 : (cm sc (c :: t)).isSome = true := by
        rcases Bool.or_eq_true_iff.1 h2 with h3 | h3
        · exact absurd h3 h1
        · exact h3
      split at h
      · rename_i h4; rw [h4] at h3; cases h3
      · cases h
      · rename_i k0 h4
        have := cm_pos h4
        split at h
        · cases h
        · obtain ⟨k', _, rfl⟩ := Option.map_eq_some_iff.1 h
          omega
theorem strE_take (q : UInt8) : ∀ (t : List UInt8) (k : Nat), strE q t = some k → 1 ≤ k ∧ k ≤ t.length ∧ ∀ R, strE q (t.take k ++ R) = some k
  | [], k, h => by simp [strE] at h
  | [c], k, h => by
    unfold strE at h
    split at h
    · cases h
    · split at h
      · rename_i h1 h2
        injection h with h
        subst h
        refine ⟨Nat.le_refl _, by simp, fun R => ?_⟩
        subst h2
        cases R with
        | nil => simp [strE, h1]
        | cons d R => simp [strE, h1]
      · cases h
  | c :: d :: t, k, h => by
    unfold strE at h
    split at h
    · cases h
    · rename_i h1
      split at h
      · rename_i h2
        injection h with h
        subst h2 h
        refine ⟨Nat.le_refl _, by simp, fun R => ?_⟩
        cases R with
        | nil => simp [strE, h1]
        | cons d R => simp [strE, h1]
      · rename_i h2
        split at h
        · rename_i h3
          split at h
          · cases h
          · rename_i h4
            obtain ⟨k', h5, rfl⟩ := Option.map_eq_some_iff.1 h
            obtain ⟨a1, a2, a3⟩ := strE_take q t k' h5
            refine ⟨by omega, by simp only [List.length_cons]; omega, fun R => ?_⟩
            simp only [List.take_succ_cons, List.cons_append]
            rw [strE, if_neg h1, if_neg h2, if_pos h3, if_neg h4, a3 R]
            rfl
        · rename_i h3
          obtain ⟨k', h5, rfl⟩ := Option.map_eq_some_iff.1 h
          obtain ⟨a1, a2, a3⟩ := strE_take q (d :: t) k' h5
          refine ⟨by omega, by simp only [List.length_cons] at a2 ⊢; omega, fun R => ?_⟩
          obtain ⟨m, rfl⟩ : ∃ m, k' = m + 1 := ⟨k' - 1, by omega⟩
          have a4 := a3 R
          simp only [List.take_succ_cons, List.cons_append] at a4 ⊢
          rw [strE, if_neg h1, if_neg h2, if_neg h3, a4]
          rfl
theorem begins_not {sc : Bool} {c : UInt8} {t : List UInt8} (h : begins sc c t = false) : blk c = false ∧ (c == 34) = false ∧ (c == 39) = false ∧ mrk sc c = false ∧ cm sc (c :: t) = none ∧ bad c = false := by
  unfold begins at h
  simp only [Bool.or_eq_false_iff] at h
  obtain ⟨⟨⟨⟨⟨h1, h2⟩, h3⟩, h4⟩, h5⟩, h6⟩ := h
  exact ⟨h1, h2, h3, h4, Option.not_isSome_iff_eq_none.1 (by rw [h5]; decide), h6⟩
theorem wok_cons {sc : Bool} {c : UInt8} {t : List UInt8} (h1 : begins sc c t = false) (k : Nat) (h2 : wok sc (t.take k) = true) : wok sc (c :: t.take k) = true := by
  obtain ⟨a1, a2, a3, a4, a5, a6⟩ := begins_not h1
  unfold wok
  rw [a1, a2, a3, a4, a6, hp_take k (cm_none a5).1, h2]
  rfl
theorem wend_take (sc : Bool) : ∀ t : List UInt8, wend sc t ≤ t.length ∧ wok sc (t.take (wend sc t)) = true ∧ ∀ c' t', t.drop (wend sc t) = c' :: t' → begins sc c' t' = true
  | [] => ⟨Nat.le_refl _, rfl, fun _ _ e => by cases e⟩
  | c :: t => by
    unfold wend
    obtain ⟨a1, a2, a3⟩ := wend_take sc t
    cases hb : begins sc c t with
    | true =>
      rw [if_pos rfl]
      refine ⟨Nat.zero_le _, rfl, fun c' t' e => ?_⟩
      rw [List.drop_zero] at e
      injection e with e1 e2
      subst e1 e2
      exact hb
    | false =>
      rw [if_neg (by decide)]
      refine ⟨by simp only [List.length_cons]; omega, ?_, ?_⟩
      · rw [List.take_succ_cons]
        exact wok_cons hb _ a2
      · intro c' t' e
        exact a3 c' t' e

def hd (sc : Bool) (p : Option Tk) (r : List UInt8) : Prop := ∀ x, p = some x → (x.kind = 1 → ∀ c t, r = c :: t → begins sc c t = true) ∧ (x.kind = 4 → ∀ c t, r = c :: t → blk c = false ∧ cm sc (c :: t) = none) ∧
  (x.kind = 3 → x.text = [47] → ∀ d t, r = d :: t → d ≠ 42 ∧ d ≠ 47)
theorem toks_law (sc : Bool) : ∀ (n : Nat) (r : List UInt8) (l : List Tk), toks sc n r = some l → (∀ p, hd sc p r → chn sc p l) ∧ (cat l).length ≤ r.length
  | n, [], l, h => by
    have : l = [] := by cases n <;> (unfold toks at h; injection h with h; exact h.symm)
    subst this
    exact ⟨fun _ _ => trivial, Nat.le_refl _⟩
  | 0, c :: t, l, h => by unfold toks at h; cases h
  | n + 1, c :: t, l, h => by
    unfold toks at h
    split at h
    · cases h
    rename_i hbad
    have hbad : bad c = false := by simpa using hbad
    split at h
    · rename_i hb
      split at h
      · cases h
      rename_i k hk
      obtain ⟨l', h', rfl⟩ := Option.map_eq_some_iff.1 h
      obtain ⟨ih1, ih2⟩ := toks_law sc n _ l' h'
      have hk1 := bend_pos sc _ c t k hk hb
      refine ⟨fun p hp => ⟨fun x hx => ⟨fun h => by simp at h, fun h => ?_, fun h => by simp at h⟩, .inr (.inr (.inr ⟨rfl, rfl⟩)), ih1 _ ?_⟩, ?_⟩
      · have := (hp x hx).2.1 h.1 c t rfl
        rw [this.1, this.2] at hb
        cases hb
      · intro x hx
        injection hx with hx
        subst hx
        exact ⟨fun h => by simp at h, fun _ c' t' e => bend_end sc _ _ k hk c' t' e, fun h => by simp at h⟩
      · simp only [cat, List.length_append, List.length_cons, List.length_nil, List.length_drop] at ih2 ⊢
        omega
    rename_i hb
    have hb : blk c = false ∧ cm sc (c :: t) = none := by
      simp only [Bool.or_eq_true, not_or, Bool.not_eq_true] at hb
      exact ⟨hb.1, Option.not_isSome_iff_eq_none.1 (by rw [hb.2]; decide)⟩
    split at h
    · rename_i hq
      split at h
      · cases h
      rename_i k hk
      split at h
      · cases h
      rename_i hany
      obtain ⟨l', h', rfl⟩ := Option.map_eq_some_iff.1 h
      obtain ⟨ih1, ih2⟩ := toks_law sc n _ l' h'
      obtain ⟨k1, k2, k3⟩ := strE_take c t k hk
      refine ⟨fun p hp => ⟨fun x hx => ⟨fun h => by simp at h, fun h => by simp at h, fun h => by simp at h⟩, .inr (.inl ⟨rfl, c, t.take k, rfl, by simpa using hq, ?_, by simpa using hany⟩), ih1 _ ?_⟩, ?_⟩
      · have := k3 []
        rw [List.append_nil] at this
        rw [this, List.length_take, Nat.min_eq_left k2]
      · intro x hx
        injection hx with hx
        subst hx
        exact ⟨fun h => by simp at h, fun h => by simp at h, fun h => by simp at h⟩
      · simp only [cat, List.length_append, List.length_cons, List.length_drop, List.length_take] at ih2 ⊢
        omega
    rename_i hq
    have hq : c ≠ 34 ∧ c ≠ 39 := by simpa using hq
    split at h
    · rename_i hm
      obtain ⟨l', h', rfl⟩ := Option.map_eq_some_iff.1 h
      obtain ⟨ih1, ih2⟩ := toks_law sc n _ l' h'
      refine ⟨fun p hp => ⟨fun x hx => ⟨fun h => by simp at h, fun h => by simp at h, fun h => ?_⟩, .inr (.inr (.inl ⟨rfl, c, rfl, hbad, hb.1, hq.1, hq.2, hm⟩)), ih1 _ ?_⟩, ?_⟩
      · have := (hp x hx).2.2 h.1 h.2.1 c t rfl
        rcases h.2.2.2 with e | e
        · injection e with e; exact this.2 e
        · injection e with e; exact this.1 e
      · intro x hx
        injection hx with hx
        subst hx
        refine ⟨fun h => by simp at h, fun h => by simp at h, fun _ e d t' e2 => ?_⟩
        injection e with e
        subst e e2
        have hsc : sc = true := by
          cases sc with
          | true => rfl
          | false => exact absurd hm (by decide)
        obtain ⟨h1, h2⟩ := cm_none hb.2
        have h2 := h2 hsc
        rw [hp_two] at h1 h2
        refine ⟨fun e => ?_, fun e => ?_⟩
        · subst e; simp at h1
        · subst e; simp at h2
      · simp only [cat, List.length_append, List.length_cons, List.length_nil] at ih2 ⊢
        omega
    · rename_i hm
      obtain ⟨l', h', rfl⟩ := Option.map_eq_some_iff.1 h
      obtain ⟨ih1, ih2⟩ := toks_law sc n _ l' h'
      obtain ⟨w1, w2, w3⟩ := wend_take sc t
      have hbg : begins sc c t = false := by
        unfold begins
        rw [hb.1, hb.2, hbad, beq_eq_false_iff_ne.2 hq.1, beq_eq_false_iff_ne.2 hq.2]
        simpa using hm
      refine ⟨fun p hp => ⟨fun x hx => ⟨fun h => ?_, fun h => by simp at h, fun h => by simp at h⟩, .inl ⟨rfl, by simp, wok_cons hbg _ w2⟩, ih1 _ ?_⟩, ?_⟩
      · have := (hp x hx).1 h.1 c t rfl
        rw [hbg] at this
        cases this
      · intro x hx
        injection hx with hx
        subst hx
        exact ⟨fun _ c' t' e => w3 c' t' e, fun h => by simp at h, fun h => by simp at h⟩
      · simp only [cat, List.length_append, List.length_cons, List.length_drop, List.length_take] at ih2 ⊢
        omega

theorem wok_head {sc : Bool} {c : UInt8} {t : List UInt8} (h : wok sc (c :: t) = true) : blk c = false ∧ c ≠ 34 ∧ c ≠ 39 ∧ mrk sc c = false ∧ bad c = false ∧ Lib.hasPrefix (c :: t) [47, 42] = false ∧ wok sc t = true := by
  unfold wok at h
  simp only [Bool.and_eq_true, Bool.not_eq_true', beq_eq_false_iff_ne] at h
  obtain ⟨⟨⟨⟨⟨⟨h1, h2⟩, h3⟩, h4⟩, h5⟩, h6⟩, h7⟩ := h
  exact ⟨h1, h2, h3, h4, h5, h6, h7⟩
/-- What may follow a word. -/
def wNext (sc : Bool) (R : List UInt8) : Prop := ∀ d T, R = d :: T → begins sc d T = true ∧ (sc = false → d ≠ 42)
theorem word_cm {sc : Bool} {c : UInt8} {t R : List UInt8} (h : wok sc (c :: t) = true) (hR : wNext sc R) : cm sc (c :: (t ++ R)) = none := by
  obtain ⟨_, _, _, hm, _, hp, _⟩ := wok_head h
  by_cases hc : c = 47
  · subst hc
    have hsc : sc = false := by
      cases sc with
      | false => rfl
      | true => exact absurd hm (by decide)
    subst hsc
    refine cm_slash false _ fun d T e => ⟨?_, fun h => by cases h⟩
    cases t with
    | nil => exact (hR d T e).2 rfl
    | cons d' t =>
      injection e with e1 e2
      subst e1
      rw [hp_two] at hp
      intro e
      subst e
      simp at hp
  · exact cm_ne sc c _ hc
theorem wend_cat {sc : Bool} {R : List UInt8} (hR : wNext sc R) : ∀ t : List UInt8, wok sc t = true → wend sc (t ++ R) = t.length
  | [], _ => by
    cases R with
    | nil => rfl
    | cons d T => rw [List.nil_append, wend, (hR d T rfl).1]; rfl
  | c :: t, h => by
    obtain ⟨h1, h2, h3, h4, h5, h6, h7⟩ := wok_head h
    have hb : begins sc c (t ++ R) = false := by
      unfold begins
      rw [h1, h4, h5, word_cm h hR, beq_eq_false_iff_ne.2 h2, beq_eq_false_iff_ne.2 h3]
      rfl
    rw [List.cons_append, wend, hb, if_neg (by decide), wend_cat hR t h7]
    rfl
/-- A token's first byte. -/
theorem tk_head {sc : Bool} {t : Tk} (h : goodT sc t) : ∃ d D, t.text = d :: D := by
  rcases h with ⟨_, h, _⟩ | ⟨_, q, b, h, _⟩ | ⟨_, c, h, _⟩ | ⟨_, h⟩
  · cases e : t.text with
    | nil => exact absurd e h
    | cons d D => exact ⟨d, D, rfl⟩
  · exact ⟨q, b, h⟩
  · exact ⟨c, [], h⟩
  · exact ⟨32, [], h⟩
theorem chn_wNext {sc : Bool} {x : Tk} (hx : x.kind = 1) : ∀ o : List Tk, chn sc (some x) o → wNext sc (cat o)
  | [], _ => fun d T e => by cases e
  | t :: o, h => by
    intro d T e
    obtain ⟨ha, hg, _⟩ := h
    have h1 : t.kind ≠ 1 := fun h => (ha x rfl).1 ⟨hx, h⟩
    rcases hg with ⟨h, _⟩ | ⟨_, q, b, h, hq, _⟩ | ⟨_, c, h, _, _, _, _, hm⟩ | ⟨_, h⟩
    · exact absurd h h1
    · rw [cat_cons] at e
      rw [h] at e
      injection e with e1 e2
      subst e1
      refine ⟨?_, fun _ => ?_⟩
      · unfold begins
        rcases hq with rfl | rfl <;> simp
      · rcases hq with rfl | rfl <;> decide
    · rw [cat_cons] at e
      rw [h] at e
      injection e with e1 e2
      subst e1
      refine ⟨?_, fun hs => ?_⟩
      · unfold begins
        rw [hm]
        simp
      · subst hs
        intro e
        subst e
        exact absurd hm (by decide)
    · rw [cat_cons] at e
      rw [h] at e
      injection e with e1 e2
      subst e1
      exact ⟨by unfold begins; rfl, fun _ => by decide⟩
theorem chn_head {sc : Bool} {p : Option Tk} {t : Tk} {o : List Tk} (h : chn sc p (t :: o)) (h4 : t.kind ≠ 4) : ∃ c T, cat (t :: o) = c :: T ∧ blk c = false ∧ bad c = false ∧ cm sc (c :: T) = none := by
  obtain ⟨_, hg, ho⟩ := h
  rcases hg with ⟨h1, hn, hw⟩ | ⟨_, q, b, h, hq, _⟩ | ⟨h3, c, h, hb, hbl, _, _, hm⟩ | ⟨h, _⟩
  · have hR := chn_wNext h1 o ho
    cases e : t.text with
    | nil => exact absurd e hn
    | cons c w =>
      rw [e] at hw
      obtain ⟨a1, _, _, _, a5, _, _⟩ := wok_head hw
      exact ⟨c, w ++ cat o, by rw [cat_cons, e]; rfl, a1, a5, word_cm hw hR⟩
  · refine ⟨q, b ++ cat o, by rw [cat_cons, h]; rfl, ?_, ?_, ?_⟩
    · rcases hq with rfl | rfl <;> rfl
    · rcases hq with rfl | rfl <;> rfl
    · exact cm_ne sc q _ (by rcases hq with rfl | rfl <;> decide)
  · refine ⟨c, cat o, by rw [cat_cons, h]; rfl, hbl, hb, ?_⟩
    by_cases hc : c = 47
    · subst hc
      have hsc : sc = true := by
        cases sc with
        | true => rfl
        | false => exact absurd hm (by decide)
      subst hsc
      refine cm_slash true _ fun d T e => ?_
      cases o with
      | nil => cases e
      | cons t2 o2 =>
      obtain ⟨ha, hg2, _⟩ := ho
      rcases hg2 with ⟨_, hn, hw⟩ | ⟨_, q, b, h2, hq, _⟩ | ⟨k3, c2, h2, _⟩ | ⟨_, h2⟩
      · cases e2 : t2.text with
        | nil => exact absurd e2 hn
        | cons c2 w =>
          rw [cat_cons] at e
          rw [e2] at e hw
          injection e with e1 _
          subst e1
          have := (wok_head hw).2.2.2.1
          refine ⟨fun e => ?_, fun _ e => ?_⟩
          · subst e; exact absurd this (by decide)
          · subst e; exact absurd this (by decide)
      · rw [cat_cons] at e
        rw [h2] at e
        injection e with e1 _
        subst e1
        rcases hq with rfl | rfl <;> exact ⟨by decide, fun _ => by decide⟩
      · rw [cat_cons] at e
        rw [h2] at e
        injection e with e1 _
        subst e1
        have := (ha t rfl).2.2
        refine ⟨fun e => ?_, fun _ e => ?_⟩
        · subst e; exact this ⟨h3, h, k3, .inr h2⟩
        · subst e; exact this ⟨h3, h, k3, .inl h2⟩
      · rw [cat_cons] at e
        rw [h2] at e
        injection e with e1 _
        subst e1
        exact ⟨by decide, fun _ => by decide⟩
    · exact cm_ne sc c _ hc
  · exact absurd h h4
theorem toks_cat (sc : Bool) : ∀ (o : List Tk) (p : Option Tk) (n : Nat), chn sc p o → (cat o).length ≤ n → toks sc n (cat o) = some o
  | [], p, n, _, _ => by cases n <;> rfl
  | t :: o, p, n, h, hn => by
    have hall := h
    obtain ⟨ha, hg, ho⟩ := h
    have hl : (cat (t :: o)).length = t.text.length + (cat o).length := by simp [cat]
    obtain ⟨d0, D0, hd0⟩ := tk_head hg
    obtain ⟨n', rfl⟩ : ∃ n', n = n' + 1 := ⟨n - 1, by rw [hl, hd0] at hn; simp only [List.length_cons] at hn; omega⟩
    have ih := toks_cat sc o (some t) n' ho (by rw [hl, hd0] at hn; simp only [List.length_cons] at hn; omega)
    have hlt := hn
    rw [hl] at hlt
    by_cases h4 : t.kind = 4
    · have ht : t.text = [32] := by
        rcases hg with ⟨h, _⟩ | ⟨h, _⟩ | ⟨h, _⟩ | ⟨_, h⟩
        · omega
        · omega
        · omega
        · exact h
      have hc : cat (t :: o) = 32 :: cat o := by rw [cat_cons, ht]; rfl
      rw [hc, toks, if_neg (by decide), if_pos (by simp [blk])]
      have hb : bend sc ((cat o).length + 2) (32 :: cat o) = some 1 := by
        rw [bend, if_pos (by decide)]
        have : bend sc ((cat o).length + 1) (cat o) = some 0 := by
          cases o with
          | nil => rfl
          | cons t2 o2 =>
            have h2 : t2.kind ≠ 4 := fun h => (ho.1 t rfl).2.1 ⟨h4, h⟩
            obtain ⟨c, T, e, e1, _, e3⟩ := chn_head ho h2
            rw [e, bend, if_neg (by rw [e1]; decide), e3]
        rw [this]
        rfl
      rw [hb]
      show (toks sc n' (cat o)).map _ = _
      rw [ih]
      obtain ⟨k, x⟩ := t
      simp only at h4 ht
      subst h4 ht
      rfl
    · obtain ⟨c, T, e, e1, e2, e3⟩ := chn_head hall h4
      have hbc : (blk c || (cm sc (c :: T)).isSome) = false := by rw [e1, e3]; rfl
      rw [e, toks, if_neg (by rw [e2]; decide), if_neg (by rw [hbc]; decide)]
      rcases hg with ⟨h1, hnn, hw⟩ | ⟨h2, q, b, h, hq, hs, hb⟩ | ⟨h3, m, h, hb, hbl, hq1, hq2, hm⟩ | ⟨h, _⟩
      · have hR := chn_wNext h1 o ho
        cases et : t.text with
        | nil => exact absurd et hnn
        | cons c' w =>
          rw [et] at hw
          have ee := e
          rw [cat_cons, et, List.cons_append] at ee
          injection ee with x1 x2
          subst x1 x2
          obtain ⟨_, a2, a3, a4, _, _, a7⟩ := wok_head hw
          rw [if_neg (by simp [a2, a3]), if_neg (by rw [a4]; decide), wend_cat hR w a7, List.drop_left, List.take_left, ih]
          obtain ⟨k, x⟩ := t
          simp only at h1 et
          subst h1 et
          rfl
      · have ee := e
        rw [cat_cons, h, List.cons_append] at ee
        (try rw [List.nil_append] at ee)
        injection ee with x1 x2
        subst x1 x2
        have hs' : strE q (b ++ cat o) = some b.length := by
          have := (strE_take q b b.length hs).2.2 (cat o)
          rwa [List.take_length] at this
        rw [if_pos (by rcases hq with rfl | rfl <;> rfl), hs']
        simp only [List.drop_left, List.take_left, hb]
        rw [if_neg (by decide), ih]
        obtain ⟨k, x⟩ := t
        simp only at h2 h
        subst h2 h
        rfl
      · have ee := e
        rw [cat_cons, h, List.cons_append] at ee
        (try rw [List.nil_append] at ee)
        injection ee with x1 x2
        subst x1 x2
        rw [if_neg (by simp [hq1, hq2]), if_pos hm]
        show (toks sc n' (cat o)).map _ = _
        rw [ih]
        obtain ⟨k, x⟩ := t
        simp only at h3 h
        subst h3 h
        rfl
      · exact absurd h h4
theorem sm_len (kind : Int) : ∀ (l : List Tk) (p : Option Tk), (cat (sm kind p l)).length ≤ (cat l).length
  | [], _ => Nat.le_refl _
  | t :: l, p => by
    have ih := sm_len kind l (some t)
    unfold sm
    split
    · simp only [cat, List.length_append]; omega
    · simp only [cat, List.length_append]; omega
theorem chn_len {sc : Bool} : ∀ (l : List Tk) (p : Option Tk), chn sc p l → l.length ≤ (cat l).length
  | [], _, _ => Nat.le_refl _
  | t :: l, p, h => by
    have ih := chn_len l _ h.2.2
    obtain ⟨d, D, e⟩ := tk_head h.2.1
    simp only [cat, List.length_append, List.length_cons, e]
    omega
/-- The law: what is kept of a text's tokens is what its own text is divided into, is made no smaller, and is no longer. -/
theorem small_law (kind : Int) (sc : Bool) (hk : (kind = 1 ∧ sc = false) ∨ (kind = 2 ∧ sc = true)) (n : Nat) (s : List UInt8) (l : List Tk) (h : toks sc n s = some l) :
    chn sc none l ∧ l.length ≤ s.length ∧ (cat l).length ≤ s.length ∧ chn sc none (sm kind none l) ∧ sm kind none (sm kind none l) = sm kind none l ∧ (cat (sm kind none l)).length ≤ s.length ∧ ∀ m, (cat (sm kind none l)).length ≤ m → toks sc m (cat (sm kind none l)) = some (sm kind none l) := by
  obtain ⟨h1, h2⟩ := toks_law sc n s l h
  have hc := h1 none (fun x hx => by cases hx)
  obtain ⟨h3, h4⟩ := sm_law kind sc hk l none none hc (.inl rfl)
  have h5 := sm_len kind l none
  have h6 := chn_len l none hc
  exact ⟨hc, by omega, h2, h3, h4, by omega, fun m hm => toks_cat sc _ none m h3 hm⟩
end Mh
