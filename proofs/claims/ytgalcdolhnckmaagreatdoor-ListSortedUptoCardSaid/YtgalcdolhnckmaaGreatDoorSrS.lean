/- The plain law of sort's stable sort, third part: insertion, blocks and passes; the whole is mergeSort. No program. -/
import Derived.Test.YtgalcdolhnckmaaGreatDoorSrQ
namespace Mh
open Go.Sort
set_option linter.unusedVariables false
variable {β : Type} [Inhabited β] {lt : β → β → Bool} {tag : β → Nat}
/-- Tags below place c are less than those from c on. -/
def Sep (tag : β → Nat) (n c : Nat) (d : Array β) : Prop := ∀ x y, x < c → c ≤ y → y < n → tag d[x]! < tag d[y]!
theorem Sep.perm {n c a b : Nat} {d d' : Array β} (h : Sep tag n c d) (hp : PermIn a b d d') (hab : a ≤ b) (hb : b ≤ n) (hn : n ≤ d.size) (hc : c ≤ a ∨ b ≤ c) : Sep tag n c d' := by
  have hout : ∀ i, i < a ∨ b ≤ i → d'[i]! = d[i]! := hp.2.1
  intro x y hx hy hyn
  rcases hc with hc | hc
  · rw [hout x (.inl (by omega))]
    by_cases hy2 : y < a ∨ b ≤ y
    · rw [hout y hy2]; exact h x y hx hy hyn
    · exact permIn_all d d' a b (fun z => tag d[x]! < tag z) (by omega) hp (fun i h1 h2 => h x i hx (by omega) (by omega)) y (by omega) (by omega)
  · rw [hout y (.inr (by omega))]
    by_cases hx2 : x < a ∨ b ≤ x
    · rw [hout x hx2]; exact h x y hx hy hyn
    · exact permIn_all d d' a b (fun z => tag z < tag d[y]!) (by omega) hp (fun i h1 h2 => h i y (by omega) hy hyn) x (by omega) (by omega)
theorem Stb.perm {a b a' b' : Nat} {d d' : Array β} (h : Stb lt tag a b d) (hp : PermIn a' b' d d') (hd : b ≤ a' ∨ b' ≤ a) : Stb lt tag a b d' := by
  intro i j h1 h2 h3
  rw [hp.2.1 i (by omega), hp.2.1 j (by omega)]
  exact h i j h1 h2 h3
/-- Insertion, outer loop: [a, i) is in order; from i on nothing has been touched. -/
structure InsO (lt : β → β → Bool) (tag : β → Nat) (a b i : Nat) (d d' : Array β) : Prop where
  perm : PermIn a i d d'
  stb : Stb lt tag a i d'
theorem InsO.start (a : Nat) (b : Nat) (d : Array β) : InsO lt tag a b (a + 1) d d := ⟨permIn_refl _ _ _, fun i j h1 h2 h3 => by omega⟩
theorem InsO.pre {a b i : Nat} {d d' : Array β} (h : InsO lt tag a b i d d') (ht : ∀ x y, a ≤ x → x < y → y < b → tag d[x]! < tag d[y]!) (hai : a < i) (hib : i < b) (hb : b ≤ d.size) : Pre lt tag a i (i + 1) d' := by
  refine ⟨h.stb, fun x y h1 h2 h3 => by omega, fun x y h1 h2 h3 h4 => ?_⟩
  rw [h.perm.2.1 y (.inr h3)]
  exact permIn_all d d' a i (fun z => tag z < tag d[y]!) (by omega) h.perm (fun k h5 h6 => ht k y h5 (by omega) (by omega)) x h1 h2
theorem InsO.step (hO : SWO lt) {a b i j : Nat} {d d1 d2 : Array β} (h : InsO lt tag a b i d d1) (ht : ∀ x y, a ≤ x → x < y → y < b → tag d[x]! < tag d[y]!) (hai : a < i) (hib : i < b) (hb : b ≤ d.size)
    (hR : Rot j i (i + 1) d1 d2) (haj : a ≤ j) (hji : j ≤ i) (g1 : j = i ∨ lt d1[i]! d1[j]! = true) (g2 : j = a ∨ lt d2[j]! d2[j - 1]! = false) : InsO lt tag a b (i + 1) d d2 := by
  have hs : d1.size = d.size := h.perm.1
  have q : j = a ∨ lt d1[i]! d1[j - 1]! = false := by
    rcases g2 with g | g
    · exact .inl g
    · by_cases e : j = a
      · exact .inl e
      · rw [hR.lo j (Nat.le_refl _) (by omega), hR.out (j - 1) (.inl (by omega)), show j + (i - j) = i by omega] at g
        exact .inr g
  obtain ⟨p, s⟩ := one_right hO (h.pre ht hai hib hb) haj hji (by omega) q g1 hR
  exact ⟨permIn_trans _ _ _ _ _ (permIn_mono d d1 a i a (i + 1) (Nat.le_refl _) (Nat.le_succ _) (by omega) h.perm) p, s⟩
/-- Tags as they stand ahead of all. -/
def Inc (tag : β → Nat) (n : Nat) (d : Array β) : Prop := ∀ x y, x < y → y < n → tag d[x]! < tag d[y]!
/-- The blocks of bs ahead of a are in order; from a on nothing has been touched. -/
structure InsB (lt : β → β → Bool) (tag : β → Nat) (n bs a : Nat) (d d' : Array β) : Prop where
  perm : PermIn 0 n d d'
  stb : ∀ k, (k + 1) * bs ≤ a → Stb lt tag (k * bs) ((k + 1) * bs) d'
  sep : ∀ k, Sep tag n (k * bs) d'
  out : ∀ x, a ≤ x → d'[x]! = d[x]!
theorem InsB.start {n bs : Nat} {d : Array β} (hbs : 0 < bs) (hi : Inc tag n d) : InsB lt tag n bs 0 d d :=
  ⟨permIn_refl _ _ _, fun k h => by have : bs ≤ (k + 1) * bs := Nat.le_mul_of_pos_left _ (Nat.succ_pos _); omega, fun k x y h1 h2 h3 => hi x y (by omega) h3, fun x _ => rfl⟩
theorem mul_apart {bs k a : Nat} (hbs : 0 < bs) (j : Nat) : k * bs ≤ j * bs ∨ (j + 1) * bs ≤ k * bs := by
  rcases Nat.lt_or_ge j k with h | h
  · exact .inr (Nat.mul_le_mul_right _ h)
  · exact .inl (Nat.mul_le_mul_right _ h)
/-- One block more (the last one may be short: then b = n). -/
theorem InsB.step {n bs j b : Nat} {d d1 d2 : Array β} (hbs : 0 < bs) (h : InsB lt tag n bs (j * bs) d d1) (hn : n ≤ d.size) (hb : b = (j + 1) * bs) (hbn : b ≤ n) (hm : Mrg lt tag (j * bs) b d1 d2) : InsB lt tag n bs b d d2 := by
  have hs : d1.size = d.size := h.perm.1
  have hab : j * bs ≤ b := by subst hb; exact Nat.mul_le_mul_right _ (Nat.le_succ _)
  refine ⟨permIn_trans _ _ _ _ _ h.perm (permIn_mono d1 d2 (j * bs) b 0 n (Nat.zero_le _) hbn (by omega) hm.1), fun k hk => ?_, fun k => ?_, fun x hx => ?_⟩
  · rcases mul_apart (a := 0) hbs (k := k) j with q | q
    · by_cases e : k = j
      · subst e; rw [← hb]; exact hm.2
      · have q2 : (k + 1) * bs ≤ j * bs := Nat.mul_le_mul_right _ (by
          have : k ≤ j := Nat.le_of_mul_le_mul_right q hbs
          omega)
        exact (h.stb k q2).perm hm.1 (.inl q2)
    · have : (k + 1) * bs = k * bs + bs := Nat.succ_mul _ _
      subst hb; omega
  · refine (h.sep k).perm hm.1 hab hbn (by omega) ?_
    subst hb
    exact mul_apart (a := 0) hbs j
  · rw [hm.1.2.1 x (.inr hx)]; exact h.out x (by omega)
/-- All blocks of bs are in order. -/
structure Blks (lt : β → β → Bool) (tag : β → Nat) (n bs : Nat) (d d' : Array β) : Prop where
  perm : PermIn 0 n d d'
  stb : ∀ k, Stb lt tag (k * bs) (min ((k + 1) * bs) n) d'
  sep : ∀ k, Sep tag n (k * bs) d'
theorem InsB.done {n bs j : Nat} {d d1 d2 : Array β} (hbs : 0 < bs) (h : InsB lt tag n bs (j * bs) d d1) (hn : n ≤ d.size) (hj : j * bs ≤ n) (hb : n < (j + 1) * bs) (hm : Mrg lt tag (j * bs) n d1 d2) : Blks lt tag n bs d d2 := by
  have hs : d1.size = d.size := h.perm.1
  refine ⟨permIn_trans _ _ _ _ _ h.perm (permIn_mono d1 d2 (j * bs) n 0 n (Nat.zero_le _) (Nat.le_refl _) (by omega) hm.1), fun k => ?_, fun k => ?_⟩
  · rcases Nat.lt_trichotomy k j with q | q | q
    · have q2 : (k + 1) * bs ≤ j * bs := Nat.mul_le_mul_right _ q
      rw [Nat.min_eq_left (by omega)]
      exact (h.stb k q2).perm hm.1 (.inl q2)
    · subst q
      rw [Nat.min_eq_right (by omega)]; exact hm.2
    · have : (j + 1) * bs ≤ k * bs := Nat.mul_le_mul_right _ q
      intro x y h1 h2 h3
      have := Nat.min_le_right ((k + 1) * bs) n
      omega
  · rcases Nat.lt_or_ge j k with q | q
    · have : (j + 1) * bs ≤ k * bs := Nat.mul_le_mul_right _ q
      intro x y h1 h2 h3; omega
    · exact (h.sep k).perm hm.1 hj (Nat.le_refl _) (by omega) (.inl (Nat.mul_le_mul_right _ q))
/-- One pass: up to a blocks are of 2 * bs, from a on of bs. -/
structure Pass (lt : β → β → Bool) (tag : β → Nat) (n bs j : Nat) (d d' : Array β) : Prop where
  perm : PermIn 0 n d d'
  done : ∀ k, k < j → Stb lt tag (k * (2 * bs)) ((k + 1) * (2 * bs)) d'
  stb : ∀ k, 2 * j ≤ k → Stb lt tag (k * bs) (min ((k + 1) * bs) n) d'
  sep : ∀ k, 2 * j ≤ k ∨ k % 2 = 0 → Sep tag n (k * bs) d'
theorem Blks.pass {n bs : Nat} {d d' : Array β} (h : Blks lt tag n bs d d') : Pass lt tag n bs 0 d d' := ⟨h.perm, fun k hk => by omega, fun k _ => h.stb k, fun k _ => h.sep k⟩
theorem two_mul_bs (j bs : Nat) : j * (2 * bs) = 2 * j * bs := by rw [Nat.mul_comm 2 j, Nat.mul_assoc]
theorem Pass.pre {n bs j b : Nat} {d d1 : Array β} (hbs : 0 < bs) (h : Pass lt tag n bs j d d1) (hm : j * (2 * bs) + bs < n) (hb : b = min ((j + 1) * (2 * bs)) n) : Pre lt tag (j * (2 * bs)) (j * (2 * bs) + bs) b d1 := by
  have e0 : j * (2 * bs) = 2 * j * bs := two_mul_bs j bs
  have e1 : (2 * j + 1) * bs = j * (2 * bs) + bs := by rw [e0, Nat.succ_mul]
  have e2 : (2 * j + 1 + 1) * bs = (j + 1) * (2 * bs) := by rw [two_mul_bs, show 2 * (j + 1) = 2 * j + 1 + 1 by omega]
  refine ⟨?_, ?_, ?_⟩
  · have := h.stb (2 * j) (Nat.le_refl _)
    rw [← e0, e1, Nat.min_eq_left (by omega)] at this; exact this
  · have := h.stb (2 * j + 1) (by omega)
    rw [e1, e2, ← hb] at this; exact this
  · have := h.sep (2 * j + 1) (.inl (by omega))
    rw [e1] at this
    intro x y h1 h2 h3 h4
    exact this x y h2 h3 (by have := Nat.min_le_right ((j + 1) * (2 * bs)) n; omega)
theorem Pass.step {n bs j b : Nat} {d d1 d2 : Array β} (hbs : 0 < bs) (h : Pass lt tag n bs j d d1) (hn : n ≤ d.size) (hb : b = (j + 1) * (2 * bs)) (hbn : b ≤ n) (hm : Mrg lt tag (j * (2 * bs)) b d1 d2) : Pass lt tag n bs (j + 1) d d2 := by
  have hs : d1.size = d.size := h.perm.1
  have e0 : j * (2 * bs) = 2 * j * bs := two_mul_bs j bs
  have e2 : (j + 1) * (2 * bs) = 2 * (j + 1) * bs := two_mul_bs (j + 1) bs
  have hab : j * (2 * bs) ≤ b := by subst hb; exact Nat.mul_le_mul_right _ (Nat.le_succ _)
  refine ⟨permIn_trans _ _ _ _ _ h.perm (permIn_mono d1 d2 (j * (2 * bs)) b 0 n (Nat.zero_le _) hbn (by omega) hm.1), fun k hk => ?_, fun k hk => ?_, fun k hk => ?_⟩
  · by_cases e : k = j
    · subst e; rw [← hb]; exact hm.2
    · have q : (k + 1) * (2 * bs) ≤ j * (2 * bs) := Nat.mul_le_mul_right _ (by omega)
      exact (h.done k (by omega)).perm hm.1 (.inl q)
  · have q : b ≤ k * bs := by rw [hb, e2]; exact Nat.mul_le_mul_right _ hk
    exact (h.stb k (by omega)).perm hm.1 (.inr q)
  · refine (h.sep k (by omega)).perm hm.1 hab hbn (by omega) ?_
    rcases Nat.lt_or_ge k (2 * (j + 1)) with q | q
    · left; rw [e0]; exact Nat.mul_le_mul_right _ (by omega)
    · right; rw [hb, e2]; exact Nat.mul_le_mul_right _ q
theorem Pass.blks {n bs j : Nat} {d d1 : Array β} (h : Pass lt tag n bs j d d1) (hj : j * (2 * bs) ≤ n) (hb : n < (j + 1) * (2 * bs)) (hlast : Stb lt tag (j * (2 * bs)) n d1) (hsep : ∀ k, k ≤ j → Sep tag n (k * (2 * bs)) d1) : Blks lt tag n (2 * bs) d d1 := by
  refine ⟨h.perm, fun k => ?_, fun k => ?_⟩
  · rcases Nat.lt_trichotomy k j with q | q | q
    · have q2 : (k + 1) * (2 * bs) ≤ j * (2 * bs) := Nat.mul_le_mul_right _ q
      rw [Nat.min_eq_left (by omega)]; exact h.done k q
    · subst q; rw [Nat.min_eq_right (by omega)]; exact hlast
    · have : (j + 1) * (2 * bs) ≤ k * (2 * bs) := Nat.mul_le_mul_right _ q
      intro x y h1 h2 h3
      have := Nat.min_le_right ((k + 1) * (2 * bs)) n
      omega
  · rcases Nat.lt_or_ge j k with q | q
    · have : (j + 1) * (2 * bs) ≤ k * (2 * bs) := Nat.mul_le_mul_right _ q
      intro x y h1 h2 h3; omega
    · exact hsep k q
/-- The end of a pass, where a last merge was made. -/
theorem Pass.last {n bs j : Nat} {d d1 d2 : Array β} (hbs : 0 < bs) (h : Pass lt tag n bs j d d1) (hn : n ≤ d.size) (hj : j * (2 * bs) ≤ n) (hb : n < (j + 1) * (2 * bs)) (hm : Mrg lt tag (j * (2 * bs)) n d1 d2) : Blks lt tag n (2 * bs) d d2 := by
  have hs : d1.size = d.size := h.perm.1
  refine ⟨permIn_trans _ _ _ _ _ h.perm (permIn_mono d1 d2 (j * (2 * bs)) n 0 n (Nat.zero_le _) (Nat.le_refl _) (by omega) hm.1), fun k => ?_, fun k => ?_⟩
  · rcases Nat.lt_trichotomy k j with q | q | q
    · have q2 : (k + 1) * (2 * bs) ≤ j * (2 * bs) := Nat.mul_le_mul_right _ q
      rw [Nat.min_eq_left (by omega)]; exact (h.done k q).perm hm.1 (.inl q2)
    · subst q; rw [Nat.min_eq_right (by omega)]; exact hm.2
    · have : (j + 1) * (2 * bs) ≤ k * (2 * bs) := Nat.mul_le_mul_right _ q
      intro x y h1 h2 h3
      have := Nat.min_le_right ((k + 1) * (2 * bs)) n
      omega
  · rcases Nat.lt_or_ge j k with q | q
    · have : (j + 1) * (2 * bs) ≤ k * (2 * bs) := Nat.mul_le_mul_right _ q
      intro x y h1 h2 h3; omega
    · have := (h.sep (2 * k) (.inr (by omega))).perm hm.1 hj (Nat.le_refl _) (by omega) (.inl (by rw [two_mul_bs]; exact Nat.mul_le_mul_right _ (by omega)))
      rw [two_mul_bs]; exact this
/-- .. and where none was: the last block is single. -/
theorem Pass.lone {n bs j : Nat} {d d1 : Array β} (hbs : 0 < bs) (h : Pass lt tag n bs j d d1) (hj : j * (2 * bs) ≤ n) (hb : n < (j + 1) * (2 * bs)) (hm : ¬ j * (2 * bs) + bs < n) : Blks lt tag n (2 * bs) d d1 := by
  have e0 : j * (2 * bs) = 2 * j * bs := two_mul_bs j bs
  have e1 : (2 * j + 1) * bs = j * (2 * bs) + bs := by rw [e0, Nat.succ_mul]
  refine h.blks hj hb ?_ fun k hk => ?_
  · have := h.stb (2 * j) (Nat.le_refl _)
    rw [← e0, e1, Nat.min_eq_right (by omega)] at this; exact this
  · have := h.sep (2 * k) (.inr (by omega))
    rw [two_mul_bs]; exact this
theorem Blks.whole {n bs : Nat} {d d' : Array β} (h : Blks lt tag n bs d d') (hn : n ≤ bs) : Mrg lt tag 0 n d d' := by
  refine ⟨h.perm, ?_⟩
  have := h.stb 0
  rw [Nat.zero_mul, Nat.zero_add, Nat.one_mul, Nat.min_eq_right hn] at this
  exact this
end Mh
