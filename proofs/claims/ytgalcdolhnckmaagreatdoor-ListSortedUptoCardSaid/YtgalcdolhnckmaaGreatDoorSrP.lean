/- The plain law of sort's stable sort: blocks sorted by insertion, merged by rotations (symMerge): a sorted permutation in which equals keep their order. No program. -/
import Derived.Sort.LotA
import Derived.Sort.Lot0
namespace Mh
open Go.Sort
set_option linter.unusedVariables false
section
variable {γ : Type} (lt : γ → γ → Bool) (tag : γ → Nat)
/-- x stands before y. -/
def Bef (x y : γ) : Prop := lt y x = false ∧ (lt x y = false → tag x < tag y)
variable {lt tag}
theorem Bef.trans (hO : SWO lt) {x y z : γ} (h1 : Bef lt tag x y) (h2 : Bef lt tag y z) : Bef lt tag x z := by
  refine ⟨hO.ntrans _ _ _ h2.1 h1.1, fun h => ?_⟩
  have hxy : lt x y = false := by
    cases e : lt x y with
    | false => rfl
    | true =>
      have : lt x z = true := by
        cases e2 : lt y z with
        | true => exact hO.trans _ _ _ e e2
        | false =>
          cases e3 : lt x z with
          | true => rfl
          | false => have := hO.ntrans _ _ _ e3 h2.1; rw [e] at this; cases this
      rw [h] at this; cases this
  have hyz : lt y z = false := by
    cases e : lt y z with
    | false => rfl
    | true =>
      have : lt x z = true := by
        cases e3 : lt x z with
        | true => rfl
        | false => have := hO.ntrans _ _ _ h1.1 e3; rw [e] at this; cases this
      rw [h] at this; cases this
  exact Nat.lt_trans (h1.2 hxy) (h2.2 hyz)
theorem Bef.of_left {x y : γ} (ht : tag x < tag y) (h : lt y x = false) : Bef lt tag x y := ⟨h, fun _ => ht⟩
theorem Bef.of_right (hO : SWO lt) {x y : γ} (h : lt x y = true) : Bef lt tag x y := by
  refine ⟨?_, fun g => by rw [h] at g; cases g⟩
  cases e : lt y x with
  | false => rfl
  | true => have := hO.trans _ _ _ h e; rw [hO.irrefl] at this; cases this
end
variable {β : Type} [Inhabited β]
/-- The parts [s, m) and [m, e) have changed places. -/
structure Rot (s m e : Nat) (d d' : Array β) : Prop where
  size : d'.size = d.size
  lo : ∀ k, s ≤ k → k < s + (e - m) → d'[k]! = d[k + (m - s)]!
  hi : ∀ k, s + (e - m) ≤ k → k < e → d'[k]! = d[k - (e - m)]!
  out : ∀ k, k < s ∨ e ≤ k → d'[k]! = d[k]!
  perm : PermIn s e d d'
/-- The first i places of [a, a + n) and [b, b + n) have been exchanged. -/
structure SwR (a b i : Nat) (d d' : Array β) : Prop where
  size : d'.size = d.size
  lo : ∀ k, a ≤ k → k < a + i → d'[k]! = d[k - a + b]!
  hi : ∀ k, b ≤ k → k < b + i → d'[k]! = d[k - b + a]!
  out : ∀ k, (k < a ∨ a + i ≤ k) → (k < b ∨ b + i ≤ k) → d'[k]! = d[k]!
  perm : PermIn a (b + i) d d'
theorem SwR.zero (a b : Nat) (d : Array β) : SwR a b 0 d d := ⟨rfl, fun k h1 h2 => by omega, fun k h1 h2 => by omega, fun k _ _ => rfl, permIn_refl _ _ _⟩
theorem SwR.step {a b i n : Nat} {d d' : Array β} (h : SwR a b i d d') (hi : i < n) (hab : a + n ≤ b) (hb : b + n ≤ d.size) : SwR a b (i + 1) d (swp d' (a + i) (b + i)) := by
  have hs := h.size
  refine ⟨by rw [size_swp]; exact hs, fun k h1 h2 => ?_, fun k h1 h2 => ?_, fun k h1 h2 => ?_, ?_⟩
  · by_cases e : k = a + i
    · subst e
      rw [swp_left _ _ _ (by omega) (by omega), h.out _ (by omega) (by omega)]
      congr 1; omega
    · rw [swp_other _ _ _ _ e (by omega), h.lo k h1 (by omega)]
  · by_cases e : k = b + i
    · subst e
      rw [swp_right _ _ _ (by omega), h.out _ (by omega) (by omega)]
      congr 1; omega
    · rw [swp_other _ _ _ _ (by omega) e, h.hi k h1 (by omega)]
  · rw [swp_other _ _ _ _ (by omega) (by omega), h.out k (by omega) (by omega)]
  · have h1 : PermIn a (b + (i + 1)) d d' := permIn_mono d d' a (b + i) a (b + (i + 1)) (Nat.le_refl _) (by omega) (by omega) h.perm
    exact permIn_trans _ _ _ _ _ h1 (swp_permIn d' a (b + (i + 1)) (a + i) (b + i) (by omega) (by omega) (by omega) (by omega) (by omega))
/-- Both parts are of one length: one exchange makes the rotation. -/
theorem Rot.even {m i : Nat} {d d' : Array β} (him : i ≤ m) (h : SwR (m - i) m i d d') : Rot (m - i) m (m + i) d d' := by
  refine ⟨h.size, fun k h1 h2 => ?_, fun k h1 h2 => ?_, fun k h1 => h.out k (by omega) (by omega), h.perm⟩
  · rw [h.lo k h1 (by omega)]; congr 1; omega
  · rw [h.hi k (by omega) (by omega)]; congr 1; omega
theorem Rot.left {m i j : Nat} {d d1 d' : Array β} (him : i ≤ m) (hij : j < i) (hm : m + j ≤ d.size) (h : SwR (m - i) m j d d1) (h2 : Rot (m - (i - j)) m (m + j) d1 d') : Rot (m - i) m (m + j) d d' := by
  refine ⟨h2.size.trans h.size, fun k a b => ?_, fun k a b => ?_, fun k a => ?_, ?_⟩
  · rw [h2.out k (by omega), h.lo k (by omega) (by omega)]; congr 1; omega
  · by_cases c : k < m - (i - j) + j
    · rw [h2.lo k (by omega) (by omega), h.hi _ (by omega) (by omega)]; congr 1; omega
    · rw [h2.hi k (by omega) (by omega), h.out _ (by omega) (by omega)]
  · rw [h2.out k (by omega), h.out k (by omega) (by omega)]
  · exact permIn_trans _ _ _ _ _ h.perm (permIn_mono d1 d' (m - (i - j)) (m + j) (m - i) (m + j) (by omega) (Nat.le_refl _) (by rw [h.size]; exact hm) h2.perm)
theorem Rot.right {m i j : Nat} {d d1 d' : Array β} (him : i ≤ m) (hij : i < j) (hm : m + j ≤ d.size) (h : SwR (m - i) (m + j - i) i d d1) (h2 : Rot (m - i) m (m + (j - i)) d1 d') : Rot (m - i) m (m + j) d d' := by
  refine ⟨h2.size.trans h.size, fun k a b => ?_, fun k a b => ?_, fun k a => ?_, ?_⟩
  · by_cases c : k < m - i + (j - i)
    · rw [h2.lo k (by omega) (by omega), h.out _ (by omega) (by omega)]
    · rw [h2.hi k (by omega) (by omega), h.lo _ (by omega) (by omega)]; congr 1; omega
  · rw [h2.out k (by omega), h.hi k (by omega) (by omega)]; congr 1; omega
  · rw [h2.out k (by omega), h.out k (by omega) (by omega)]
  · have e : m + j - i + i = m + j := by omega
    have hp := h.perm
    rw [e] at hp
    exact permIn_trans _ _ _ _ _ hp (permIn_mono d1 d' (m - i) (m + (j - i)) (m - i) (m + j) (Nat.le_refl _) (by omega) (by rw [h.size]; exact hm) h2.perm)
/-- One element carried up by exchanges: from a to k. -/
theorem Rot.one (a : Nat) (d : Array β) : Rot a (a + 1) (a + 1) d d :=
  ⟨rfl, fun k h1 h2 => by omega, fun k h1 h2 => by rw [show a + 1 - (a + 1) = 0 by omega, Nat.sub_zero], fun k _ => rfl, permIn_refl _ _ _⟩
theorem Rot.up {a k : Nat} {d d' : Array β} (h : Rot a (a + 1) (k + 1) d d') (hak : a ≤ k) (hk : k + 1 < d.size) : Rot a (a + 1) (k + 2) d (swp d' k (k + 1)) := by
  have hs := h.size
  have key : d'[k]! = d[a]! := by rw [h.hi k (by omega) (by omega)]; congr 1; omega
  refine ⟨by rw [size_swp]; exact hs, fun x h1 h2 => ?_, fun x h1 h2 => ?_, fun x h1 => ?_, ?_⟩
  · by_cases e : x = k
    · subst e
      rw [swp_left _ _ _ (by omega) (by omega), h.out _ (by omega)]; congr 1; omega
    · rw [swp_other _ _ _ _ e (by omega), h.lo x h1 (by omega)]
  · have e : x = k + 1 := by omega
    subst e
    rw [swp_right _ _ _ (by omega), key]; congr 1; omega
  · rw [swp_other _ _ _ _ (by omega) (by omega), h.out x (by omega)]
  · exact permIn_trans _ _ _ _ _ (permIn_mono d d' a (k + 1) a (k + 2) (Nat.le_refl _) (by omega) (by omega) h.perm) (swp_permIn d' a (k + 2) k (k + 1) (by omega) (by omega) (by omega) (by omega) (by omega))
/-- One element carried down by exchanges: from m to k. -/
theorem Rot.one' (m : Nat) (d : Array β) : Rot m m (m + 1) d d :=
  ⟨rfl, fun k h1 h2 => by rw [Nat.sub_self, Nat.add_zero], fun k h1 h2 => by omega, fun k _ => rfl, permIn_refl _ _ _⟩
theorem Rot.down {m k : Nat} {d d' : Array β} (h : Rot (k + 1) m (m + 1) d d') (hkm : k + 1 ≤ m) (hm : m + 1 ≤ d.size) : Rot k m (m + 1) d (swp d' (k + 1) k) := by
  have hs := h.size
  have key : d'[k + 1]! = d[m]! := by rw [h.lo (k + 1) (by omega) (by omega)]; congr 1; omega
  refine ⟨by rw [size_swp]; exact hs, fun x h1 h2 => ?_, fun x h1 h2 => ?_, fun x h1 => ?_, ?_⟩
  · have e : x = k := by omega
    subst e
    rw [swp_right _ _ _ (by omega), key]; congr 1; omega
  · by_cases e : x = k + 1
    · subst e
      rw [swp_left _ _ _ (by omega) (by omega), h.out _ (by omega)]; congr 1; omega
    · rw [swp_other _ _ _ _ e (by omega), h.hi x (by omega) (by omega)]
  · rw [swp_other _ _ _ _ (by omega) (by omega), h.out x (by omega)]
  · exact permIn_trans _ _ _ _ _ (permIn_mono d d' (k + 1) (m + 1) k (m + 1) (by omega) (Nat.le_refl _) hm h.perm) (swp_permIn d' k (m + 1) (k + 1) k (by omega) (by omega) (by omega) (by omega) (by omega))
section
variable (lt : β → β → Bool) (tag : β → Nat)
/-- [a, b) is in order, equals in the order of their tags. -/
def Stb (a b : Nat) (d : Array β) : Prop := ∀ i j, a ≤ i → i < j → j < b → Bef lt tag d[i]! d[j]!
/-- All tags of [a, m) are less than those of [m, b). -/
def Tgs (a m b : Nat) (d : Array β) : Prop := ∀ i j, a ≤ i → i < m → m ≤ j → j < b → tag d[i]! < tag d[j]!
structure Pre (a m b : Nat) (d : Array β) : Prop where
  left : Stb lt tag a m d
  right : Stb lt tag m b d
  tags : Tgs tag a m b d
variable {lt tag}
/-- What a rotation makes of two runs that are cut well. -/
theorem merge_rot (hO : SWO lt) {a m b s e : Nat} {d d' : Array β} (hP : Pre lt tag a m b d) (h1 : a ≤ s) (h2 : s ≤ m) (h3 : m ≤ e) (h4 : e ≤ b) (hb : b ≤ d.size)
    (f1 : ∀ x y, a ≤ x → x < s → e ≤ y → y < b → lt d[y]! d[x]! = false) (f2 : ∀ x y, m ≤ x → x < e → s ≤ y → y < m → lt d[x]! d[y]! = true) (hR : Rot s m e d d') :
    Pre lt tag a s (s + (e - m)) d' ∧ Pre lt tag (s + (e - m)) e b d' ∧ ∀ x y, a ≤ x → x < s + (e - m) → s + (e - m) ≤ y → y < b → Bef lt tag d'[x]! d'[y]! := by
  have hlo : ∀ x, a ≤ x → x < s → d'[x]! = d[x]! := fun x _ h => hR.out x (.inl h)
  have hmi : ∀ x, s ≤ x → x < s + (e - m) → d'[x]! = d[x + (m - s)]! := hR.lo
  have hmj : ∀ x, s + (e - m) ≤ x → x < e → d'[x]! = d[x - (e - m)]! := hR.hi
  have hhi : ∀ x, e ≤ x → d'[x]! = d[x]! := fun x h => hR.out x (.inr h)
  refine ⟨⟨fun i j g1 g2 g3 => ?_, fun i j g1 g2 g3 => ?_, fun i j g1 g2 g3 g4 => ?_⟩, ⟨fun i j g1 g2 g3 => ?_, fun i j g1 g2 g3 => ?_, fun i j g1 g2 g3 g4 => ?_⟩, fun x y g1 g2 g3 g4 => ?_⟩
  · rw [hlo i (by omega) (by omega), hlo j (by omega) (by omega)]; exact hP.left i j (by omega) g2 (by omega)
  · rw [hmi i g1 (by omega), hmi j (by omega) g3]; exact hP.right _ _ (by omega) (by omega) (by omega)
  · rw [hlo i g1 g2, hmi j g3 g4]; exact hP.tags _ _ (by omega) (by omega) (by omega) (by omega)
  · rw [hmj i g1 (by omega), hmj j (by omega) g3]; exact hP.left _ _ (by omega) (by omega) (by omega)
  · rw [hhi i g1, hhi j (by omega)]; exact hP.right _ _ (by omega) g2 (by omega)
  · rw [hmj i g1 g2, hhi j g3]; exact hP.tags _ _ (by omega) (by omega) (by omega) (by omega)
  · by_cases c1 : x < s
    · rw [hlo x g1 c1]
      by_cases c2 : y < e
      · rw [hmj y g3 c2]; exact hP.left _ _ (by omega) (by omega) (by omega)
      · rw [hhi y (by omega)]; exact Bef.of_left (hP.tags _ _ (by omega) (by omega) (by omega) (by omega)) (f1 _ _ g1 c1 (by omega) g4)
    · rw [hmi x (by omega) g2]
      by_cases c2 : y < e
      · rw [hmj y g3 c2]; exact Bef.of_right hO (f2 _ _ (by omega) (by omega) (by omega) (by omega))
      · rw [hhi y (by omega)]; exact hP.right _ _ (by omega) (by omega) (by omega)
/-- Two parts put in order, each element of the first before each of the second. -/
theorem stb_join {a k b : Nat} {d d' : Array β} (hk : a ≤ k) (hkb : k ≤ b) (hb : b ≤ d.size) (hx : ∀ x y, a ≤ x → x < k → k ≤ y → y < b → Bef lt tag d[x]! d[y]!) {d1 : Array β} (p1 : PermIn a k d d1) (s1 : Stb lt tag a k d1) (p2 : PermIn k b d1 d') (s2 : Stb lt tag k b d') : Stb lt tag a b d' := by
  have e1 : ∀ i, i < k → d'[i]! = d1[i]! := fun i h => p2.2.1 i (.inl h)
  have e2 : ∀ i, k ≤ i → d1[i]! = d[i]! := fun i h => p1.2.1 i (.inr h)
  have hb1 : b ≤ d1.size := by rw [p1.1]; exact hb
  intro i j g1 g2 g3
  by_cases c1 : j < k
  · rw [e1 i (by omega), e1 j c1]; exact s1 i j g1 g2 c1
  · by_cases c2 : i < k
    · have q1 : ∀ y, k ≤ y → y < b → Bef lt tag d1[i]! d[y]! := fun y h1 h2 => permIn_all d d1 a k (fun x => Bef lt tag x d[y]!) (by omega) p1 (fun x h3 h4 => hx x y h3 h4 h1 h2) i g1 c2
      rw [e1 i c2]
      exact permIn_all d1 d' k b (fun y => Bef lt tag d1[i]! y) hb1 p2 (fun y h1 h2 => by rw [e2 y h1]; exact q1 y h1 h2) j (by omega) g3
    · exact s2 i j (by omega) g2 g3
theorem Pre.nil_left {a b : Nat} {d : Array β} (h : Pre lt tag a a b d) : Stb lt tag a b d := h.right
theorem Pre.nil_right {a b : Nat} {d : Array β} (h : Pre lt tag a b b d) : Stb lt tag a b d := h.left
end
end Mh
