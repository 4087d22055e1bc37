/- The plain law of a body's front: lines, borders; no line of what is printed is a border. No program. -/
import Derived.Test.YtejnoedlfbglcaaGreatDoorPaP
import Derived.Lib.CutLaws
namespace Mh
open Go Cal
set_option linter.unusedVariables false

/-- The first line, and what follows it. -/
def lineL : List UInt8 → List UInt8 × List UInt8
  | [] => ([], [])
  | c :: l => if c = 10 then ([], l) else (c :: (lineL l).1, (lineL l).2)
theorem index_ten (c : UInt8) (l : List UInt8) : Lib.index (c :: l) [10] = if c = 10 then 0 else if Lib.index l [10] == -1 then -1 else Lib.index l [10] + 1 := by
  conv => lhs; unfold Lib.index
  by_cases h : c = 10
  · subst h; simp
  · rw [if_neg h, if_neg (by simp only [List.isPrefixOf, Bool.and_true, beq_iff_eq]; exact fun e => h e.symm)]
theorem cut_line (l : List UInt8) : (Lib.cut l [10]).1 = (lineL l).1 ∧ (Lib.cut l [10]).2.1 = (lineL l).2 := by
  induction l with
  | nil => exact ⟨by decide, by decide⟩
  | cons c l ih =>
    have hi := index_ten c l
    have hge := Lib.index_ge l [10]
    unfold Lib.cut at ih ⊢
    rw [hi]
    by_cases h : c = 10
    · subst h
      simp [lineL]
    · rw [if_neg h]
      by_cases h1 : Lib.index l [10] = -1
      · rw [h1] at ih ⊢
        simp only [lineL, if_neg h]
        simp only [show ¬ (0 : Int) ≤ -1 by omega, if_false] at ih
        simp [← ih.1, ← ih.2]
      · have h0 : 0 ≤ Lib.index l [10] := by omega
        rw [if_pos h0] at ih
        have hb : (Lib.index l [10] == -1) = false := by rw [beq_eq_false_iff_ne]; exact h1
        rw [hb]
        have e : (Lib.index l [10] + 1).toNat = (Lib.index l [10]).toNat + 1 := by omega
        simp only [Bool.false_eq_true, if_false]
        rw [if_pos (by omega)]
        simp only [lineL, if_neg h]
        rw [e, ← ih.1, ← ih.2]
        refine ⟨by simp, ?_⟩
        show List.drop ((Lib.index l [10]).toNat + 1 + 1) (c :: l) = List.drop ((Lib.index l [10]).toNat + 1) l
        simp
theorem lineL_len (l : List UInt8) : (lineL l).1.length + (lineL l).2.length ≤ l.length ∧ (l ≠ [] → (lineL l).2.length < l.length) := by
  induction l with
  | nil => simp [lineL]
  | cons c l ih =>
    unfold lineL
    by_cases h : c = 10
    · simp [h]
    · simp only [if_neg h, List.length_cons]
      refine ⟨by omega, fun _ => by omega⟩
theorem lineL_app : ∀ (a b : List UInt8), (10 : UInt8) ∉ a → lineL (a ++ 10 :: b) = (a, b) := by
  intro a b
  induction a with
  | nil => intro _; simp [lineL]
  | cons c a ih =>
    intro h
    have hc : c ≠ 10 := fun e => h (by simp [e])
    simp only [List.cons_append, lineL, if_neg hc, ih (fun hm => h (by simp [hm]))]
/-- Lines, each ended, none a border. -/
inductive NoB : List UInt8 → Prop
  | nil : NoB []
  | line (a b : List UInt8) : (10 : UInt8) ∉ a → a ≠ [37, 37, 37] → NoB b → NoB (a ++ 10 :: b)
/-- No line begins with a sign of a border; p: a line begins here. -/
def nb : Bool → List UInt8 → Bool
  | _, [] => true
  | p, c :: l => !(p && decide (c = 37)) && nb (decide (c = 10)) l
/-- Does a line begin behind this? -/
def st : Bool → List UInt8 → Bool
  | p, [] => p
  | _, c :: l => st (decide (c = 10)) l
theorem nb_app : ∀ (a b : List UInt8) (p : Bool), nb p (a ++ b) = (nb p a && nb (st p a) b) := by
  intro a b
  induction a with
  | nil => intro p; simp [nb, st]
  | cons c a ih => intro p; simp only [List.cons_append, nb, st, ih, Bool.and_assoc]
theorem st_app : ∀ (a b : List UInt8) (p : Bool), st p (a ++ b) = st (st p a) b := by
  intro a b
  induction a with
  | nil => intro p; simp [st]
  | cons c a ih => intro p; simp only [List.cons_append, st, ih]
/-- Without line feeds. -/
theorem nb_plain : ∀ (a : List UInt8), (10 : UInt8) ∉ a → nb false a = true ∧ st false a = false := by
  intro a
  induction a with
  | nil => intro _; simp [nb, st]
  | cons c a ih =>
    intro h
    have hc : c ≠ 10 := fun e => h (by simp [e])
    obtain ⟨h1, h2⟩ := ih (fun hm => h (by simp [hm]))
    simp [nb, st, hc, h1, h2]
theorem noB_of : ∀ (n : Nat) (l : List UInt8), l.length ≤ n → nb true l = true → st true l = true → NoB l := by
  intro n
  induction n with
  | zero => intro l hl _ _; cases l with
    | nil => exact .nil
    | cons c l => simp at hl
  | succ n ih =>
    intro l hl h1 h2
    have split : ∀ (l : List UInt8) (p : Bool), st p l = true → (p = false ∨ l ≠ []) → ∃ a b, l = a ++ 10 :: b ∧ (10 : UInt8) ∉ a := by
      intro l
      induction l with
      | nil => intro p h1 h2; rcases h2 with rfl | h2; simp [st] at h1; exact absurd rfl h2
      | cons c l ihl =>
        intro p h1 _
        simp only [st] at h1
        by_cases hc : c = 10
        · exact ⟨[], l, by rw [hc]; rfl, by simp⟩
        · rw [decide_eq_false hc] at h1
          obtain ⟨a, b, rfl, hn⟩ := ihl false h1 (.inl rfl)
          exact ⟨c :: a, b, rfl, by simp only [List.mem_cons, not_or]; exact ⟨fun e => hc e.symm, hn⟩⟩
    by_cases hne : l = []
    · subst hne; exact .nil
    · obtain ⟨a, b, rfl, hn⟩ := split l true h2 (.inr hne)
      rw [nb_app] at h1
      rw [st_app] at h2
      simp only [nb, st, Bool.and_eq_true] at h1 h2
      refine .line a b hn (fun e => ?_) (ih b (by simp at hl; omega) (by simpa using h1.2.2) (by simpa using h2))
      have := h1.1
      subst e
      simp [nb] at this
theorem ten_word {c : UInt8} (h : wordB c = true) : c ≠ 10 := fun e => (wordB_facts h).2.1 (by rw [e]; rfl)
theorem ten_quote (l : List UInt8) : (10 : UInt8) ∉ quoteL l := by
  have he : ∀ c : UInt8, (10 : UInt8) ∉ escL c := by
    intro c h
    unfold escL at h
    split at h
    · simp at h
    split at h
    · simp at h
    split at h
    · simp at h
    split at h
    · simp at h
    · rename_i h1 _ _ _
      simp only [List.mem_singleton] at h
      exact h1 (by rw [← h]; rfl)
  unfold quoteL
  intro h
  rcases List.mem_cons.1 h with h | h
  · simp at h
  rcases List.mem_append.1 h with h | h
  · obtain ⟨c, _, hc⟩ := List.mem_flatMap.1 h
    exact he c hc
  · simp at h
theorem nb_word {l : List UInt8} (hw : ∀ c ∈ l, wordB c = true) : nb false l = true ∧ st false l = false := nb_plain l fun h => ten_word (hw _ h) rfl
theorem nb_ind (p : Bool) : ∀ (ind : List UInt8), (∀ c ∈ ind, c = 32) → nb p ind = true ∧ (ind ≠ [] → st p ind = false) := by
  intro ind
  induction ind generalizing p with
  | nil => intro _; simp [nb]
  | cons c ind ih =>
    intro h
    have hc : c = 32 := h c (by simp)
    subst hc
    obtain ⟨h1, h2⟩ := ih false (fun c hc => h c (by simp [hc]))
    simp only [nb, st]
    refine ⟨by simp [h1], fun _ => ?_⟩
    cases ind with
    | nil => rfl
    | cons a l => exact h2 (by simp)
/-- Blanks, and behind them a byte that is no sign of a border. -/
theorem nb_start (ind l : List UInt8) (c : UInt8) (hi : ∀ c ∈ ind, c = 32) (hc : c ≠ 37) : ∀ p, nb p (ind ++ c :: l) = nb (decide (c = 10)) l ∧ st p (ind ++ c :: l) = st (decide (c = 10)) l := by
  intro p
  rw [nb_app, st_app]
  simp only [nb, st]
  rw [(nb_ind p ind hi).1]
  refine ⟨by simp [hc], trivial⟩
/-- A value: in the middle of a line. -/
def NbV (x : V) : Prop := ∀ ind : List UInt8, (∀ c ∈ ind, c = 32) → nb false (pvL x ind) = true ∧ st false (pvL x ind) = false
theorem nb_pt : ∀ (is : List V) (ks : List ByteArray), (∀ x ∈ is, NbV x) → (∀ q ∈ ks, isKeyL q.data.toList = true) → ∀ ind : List UInt8, (∀ c ∈ ind, c = 32) → nb true (ptL is ks ind) = true ∧ st true (ptL is ks ind) = true := by
  intro is
  induction is with
  | nil => intro ks _ _ ind _; simp [ptL, nb, st]
  | cons x is ih =>
    intro ks hx hk ind hi
    cases ks with
    | nil => simp [ptL, nb, st]
    | cons k ks =>
      simp only [ptL]
      obtain ⟨g1, g2⟩ := ih ks (fun y hy => hx y (by simp [hy])) (fun q hq => hk q (by simp [hq])) ind hi
      obtain ⟨h1, h2⟩ := hx x (by simp) ind hi
      obtain ⟨hne, hw⟩ := key_word (hk k (by simp))
      obtain ⟨c, kl, hkl⟩ : ∃ c l, k.data.toList = c :: l := by
        cases h : k.data.toList with
        | nil => exact absurd h hne
        | cons c l => exact ⟨c, l, rfl⟩
      rw [hkl] at hw
      have hc : c ≠ 37 := fun e => by
        have := hw c (by simp)
        rw [e] at this
        revert this; decide
      have hc10 : c ≠ 10 := ten_word (hw c (by simp))
      obtain ⟨k1, k2⟩ := nb_word (l := kl) fun c hc => hw c (by simp [hc])
      rw [hkl]
      show nb true (ind ++ c :: (kl ++ 32 :: (pvL x ind ++ 10 :: ptL is ks ind))) = true ∧ st true (ind ++ c :: (kl ++ 32 :: (pvL x ind ++ 10 :: ptL is ks ind))) = true
      obtain ⟨s1, s2⟩ := nb_start ind (kl ++ 32 :: (pvL x ind ++ 10 :: ptL is ks ind)) c hi hc true
      rw [s1, s2, decide_eq_false hc10, nb_app, st_app, k1, k2]
      simp only [nb, st, nb_app, st_app]
      simp [h1, h2, g1, g2]
theorem nb_pvt : ∀ (is : List V), (∀ x ∈ is, NbV x) → ∀ ind : List UInt8, (∀ c ∈ ind, c = 32) → nb false (pvtL is ind) = true ∧ st false (pvtL is ind) = false := by
  intro is
  induction is with
  | nil => intro _ ind _; simp [pvtL, nb, st]
  | cons x is ih =>
    intro hx ind hi
    simp only [pvtL]
    obtain ⟨g1, g2⟩ := ih (fun y hy => hx y (by simp [hy])) ind hi
    obtain ⟨h1, h2⟩ := hx x (by simp) ind hi
    simp only [nb, st, nb_app, st_app]
    simp [h1, h2, g1, g2]
theorem nb_pvs (is : List V) (hx : ∀ x ∈ is, NbV x) (ind : List UInt8) (hi : ∀ c ∈ ind, c = 32) : nb false (pvsL is ind) = true ∧ st false (pvsL is ind) = false := by
  cases is with
  | nil => simp [pvsL, nb, st]
  | cons x is =>
    simp only [pvsL]
    obtain ⟨g1, g2⟩ := nb_pvt is (fun y hy => hx y (by simp [hy])) ind hi
    obtain ⟨h1, h2⟩ := hx x (by simp) ind hi
    simp only [nb_app, st_app]
    simp [h1, h2, g1, g2]
theorem nb_v : ∀ (N : Nat) (v : V), sizeOf v < N → v.good → v.rng → NbV v := by
  intro N
  induction N with
  | zero => intro v h; omega
  | succ N ih =>
    intro v h hg hr
    obtain ⟨k, b, n, t, is, ks⟩ := v
    have hgd := good_facts hg
    simp only [V.rng] at hr
    have hrm : ∀ l : List V, V.rngs l → ∀ x ∈ l, x.rng := by
      intro l
      induction l with
      | nil => intro _ x hx; simp at hx
      | cons a l ihl =>
        intro h x hx
        simp only [V.rngs] at h
        rcases List.mem_cons.1 hx with rfl | hx
        · exact h.1
        · exact ihl h.2 x hx
    have hit : ∀ x ∈ is, NbV x := fun x hx => ih x (by
      have := size_item (k := k) (b := b) (n := n) (t := t) (ks := ks) hx
      omega) (hgd.2.2.2.1 x hx) (hrm is hr.2 x hx)
    intro ind hi
    by_cases h3 : k = 3
    · subst h3
      simp only [pvL, if_true]
      exact nb_plain _ (ten_quote _)
    by_cases h5 : k = 5
    · subst h5
      simp only [pvL, if_true]
      rw [if_neg (by omega)]
      obtain ⟨h1, h2⟩ := nb_pvs is hit ind hi
      simp only [nb, st, nb_app, st_app]
      simp [h1, h2]
    by_cases h6 : k = 6
    · subst h6
      simp only [pvL]
      rw [if_neg (by omega), if_neg (by omega), if_pos trivial]
      by_cases hk : ks = []
      · rw [if_pos hk]; exact ⟨by decide, by decide⟩
      · rw [if_neg hk]
        obtain ⟨h1, h2⟩ := nb_pt is ks hit hgd.2.2.2.2 (ind ++ [32, 32]) (by
          intro c hc
          rcases List.mem_append.1 hc with hc | hc
          · exact hi c hc
          · simp at hc; exact hc)
        obtain ⟨s1, s2⟩ := nb_start ind [] 125 hi (by decide) true
        simp only [nb, st, nb_app, st_app] at s1 s2 ⊢
        simp [h1, h2]
        simp at s1 s2
        exact s1
    · obtain ⟨_, hw, _⟩ := word_ok hg hr.1 h3 h5 h6
      simp only [pvL]
      rw [if_neg h3, if_neg h5, if_neg h6]
      exact nb_word hw
/-- No line of a printed table is a border. -/
theorem print_noB {v : V} (hg : v.good) (hr : v.rng) : NoB (printF v) := by
  have hgd := good_facts hg
  have hit : ∀ x ∈ v.its, NbV x := by
    obtain ⟨k, b, n, t, is, ks⟩ := v
    simp only [V.rng] at hr
    have hrm : ∀ l : List V, V.rngs l → ∀ x ∈ l, x.rng := by
      intro l
      induction l with
      | nil => intro _ x hx; simp at hx
      | cons a l ihl =>
        intro h x hx
        simp only [V.rngs] at h
        rcases List.mem_cons.1 hx with rfl | hx
        · exact h.1
        · exact ihl h.2 x hx
    exact fun x hx => nb_v _ x (Nat.lt_succ_self _) (hgd.2.2.2.1 x hx) (hrm is hr.2 x hx)
  obtain ⟨h1, h2⟩ := nb_pt v.its v.kys hit hgd.2.2.2.2 [] (by simp)
  exact noB_of _ _ (Nat.le_refl _) h1 h2
/-- A table without keys. -/
theorem bare_table {v : V} (hg : v.good) (h6 : v.kd = 6) (hk : v.kys = []) : v = .mk 6 false 0 ⟨#[]⟩ [] [] := by
  obtain ⟨k, b, n, t, is, ks⟩ := v
  simp only [V.kd] at h6
  simp only [V.kys] at hk
  subst h6 hk
  have hl := (good_facts hg).2.1 rfl
  have his : is = [] := List.length_eq_zero_iff.1 hl.symm
  subst his
  have := good_zero hg
  simp only [V.good, V.good1] at hg
  obtain ⟨⟨_, hu, _⟩, _⟩ := hg
  simp only [unusedV, Bool.or_eq_false_iff, Bool.and_eq_false_iff, Bool.not_eq_false', decide_eq_true_eq, decide_eq_false_iff_not] at hu
  obtain ⟨⟨⟨⟨⟨u1, u2⟩, u3⟩, u4⟩, u5⟩, u6⟩ := hu
  have hb : b = false := by rcases u1 with e | e; exact e; exact absurd e (by decide)
  have hn : n = 0 := by rcases u2 with e | e | e; exact e; exact absurd e (by decide); exact absurd e (by decide)
  have ht : t = ⟨#[]⟩ := by rcases u3 with e | e; exact empty_eq e; exact absurd e (by decide)
  rw [hb, hn, ht]
end Mh
