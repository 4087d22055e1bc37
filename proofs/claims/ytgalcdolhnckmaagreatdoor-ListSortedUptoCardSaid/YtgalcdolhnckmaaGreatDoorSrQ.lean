/- The plain law of sort's stable sort, second part: the cuts that symMerge finds; tags; the sorted list is mergeSort's. No program. -/
import Derived.Test.YtgalcdolhnckmaaGreatDoorSrP
namespace Mh
open Go.Sort
set_option linter.unusedVariables false
variable {β : Type} [Inhabited β]
theorem Rot.triv {s m e : Nat} (h : s = m ∨ m = e) (hs : s ≤ m) (he : m ≤ e) (d : Array β) : Rot s m e d d :=
  ⟨rfl, fun k h1 h2 => by rw [show k + (m - s) = k by omega], fun k h1 h2 => by rw [show k - (e - m) = k by omega], fun k _ => rfl, permIn_refl _ _ _⟩
variable {lt : β → β → Bool} {tag : β → Nat}
theorem Stb.le (hO : SWO lt) {a b : Nat} {d : Array β} (h : Stb lt tag a b d) {i j : Nat} (h1 : a ≤ i) (h2 : i ≤ j) (h3 : j < b) : lt d[j]! d[i]! = false := by
  by_cases e : i = j
  · subst e; exact hO.irrefl _
  · exact (h i j h1 (by omega) h3).1
theorem pre_stb {a m b : Nat} {d : Array β} (h : Pre lt tag a m b d) (hx : ∀ x y, a ≤ x → x < m → m ≤ y → y < b → lt d[y]! d[x]! = false) : Stb lt tag a b d := by
  intro i j g1 g2 g3
  by_cases c1 : j < m
  · exact h.left i j g1 g2 c1
  · by_cases c2 : i < m
    · exact Bef.of_left (h.tags i j g1 c2 (by omega) g3) (hx i j g1 c2 (by omega) g3)
    · exact h.right i j (by omega) g2 g3
/-- One element before a run. -/
theorem one_left (hO : SWO lt) {a b i : Nat} {d d' : Array β} (hP : Pre lt tag a (a + 1) b d) (h1 : a + 1 ≤ i) (h2 : i ≤ b) (hb : b ≤ d.size) (g1 : i = a + 1 ∨ lt d[i - 1]! d[a]! = true) (g2 : i = b ∨ lt d[i]! d[a]! = false) (hR : Rot a (a + 1) i d d') :
    PermIn a b d d' ∧ Stb lt tag a b d' := by
  have f2 : ∀ x y, a + 1 ≤ x → x < i → a ≤ y → y < a + 1 → lt d[x]! d[y]! = true := fun x y q1 q2 q3 q4 => by
    obtain rfl : y = a := by omega
    rcases g1 with g | g
    · omega
    · cases e : lt d[x]! d[y]! with
      | true => rfl
      | false =>
        have := hO.ntrans _ _ _ (hP.right.le hO (i := x) (j := i - 1) q1 (by omega) (by omega)) e
        rw [g] at this; cases this
  obtain ⟨r1, r2, r3⟩ := merge_rot hO hP (Nat.le_refl a) (by omega) (by omega) h2 hb (fun x y q1 q2 => by omega) f2 hR
  have s1 := r1.nil_left
  have s2 := pre_stb r2 fun x y q1 q2 q3 q4 => by
    rw [hR.hi x q1 q2, hR.out y (.inr q3), show x - (i - (a + 1)) = a by omega]
    rcases g2 with g | g
    · omega
    · exact hO.ntrans _ _ _ (hP.right.le hO (i := i) (j := y) (by omega) q3 q4) g
  have hd' : b ≤ d'.size := by rw [hR.size]; exact hb
  exact ⟨permIn_mono d d' a i a b (Nat.le_refl _) h2 hb hR.perm, stb_join (d1 := d') (by omega) (by omega) hd' r3 (permIn_refl _ _ _) s1 (permIn_refl _ _ _) s2⟩
/-- One element behind a run. -/
theorem one_right (hO : SWO lt) {a m i : Nat} {d d' : Array β} (hP : Pre lt tag a m (m + 1) d) (h1 : a ≤ i) (h2 : i ≤ m) (hb : m + 1 ≤ d.size) (g1 : i = a ∨ lt d[m]! d[i - 1]! = false) (g2 : i = m ∨ lt d[m]! d[i]! = true) (hR : Rot i m (m + 1) d d') :
    PermIn a (m + 1) d d' ∧ Stb lt tag a (m + 1) d' := by
  have f2 : ∀ x y, m ≤ x → x < m + 1 → i ≤ y → y < m → lt d[x]! d[y]! = true := fun x y q1 q2 q3 q4 => by
    obtain rfl : x = m := by omega
    rcases g2 with g | g
    · omega
    · cases e : lt d[x]! d[y]! with
      | true => rfl
      | false =>
        have := hO.ntrans _ _ _ e (hP.left.le hO (i := i) (j := y) h1 q3 q4)
        rw [g] at this; cases this
  obtain ⟨r1, r2, r3⟩ := merge_rot hO hP h1 h2 (by omega) (Nat.le_refl _) hb (fun x y q1 q2 q3 q4 => by omega) f2 hR
  have s2 := r2.nil_right
  have s1 := pre_stb r1 fun x y q1 q2 q3 q4 => by
    rw [hR.out x (.inl q2), hR.lo y q3 q4, show y + (m - i) = m by omega]
    rcases g1 with g | g
    · omega
    · exact hO.ntrans _ _ _ g (hP.left.le hO (i := x) (j := i - 1) q1 (by omega) (by omega))
  have hd' : m + 1 ≤ d'.size := by rw [hR.size]; exact hb
  exact ⟨permIn_mono d d' i (m + 1) a (m + 1) h1 (Nat.le_refl _) hb hR.perm, stb_join (d1 := d') (by omega) (by omega) hd' r3 (permIn_refl _ _ _) s1 (permIn_refl _ _ _) s2⟩
/-- The cut that the search finds. -/
structure Cut (lt : β → β → Bool) (a m b st : Nat) (d : Array β) : Prop where
  mid : ∃ mid, mid = (a + b) / 2 ∧ ((mid < m ∧ mid + m - b ≤ st ∧ st ≤ mid ∧ (st = mid + m - b ∨ lt d[mid + m - st]! d[st - 1]! = false) ∧ (st = mid ∨ lt d[mid + m - 1 - st]! d[st]! = true)) ∨
    (m ≤ mid ∧ a ≤ st ∧ st ≤ m ∧ (st = a ∨ lt d[mid + m - st]! d[st - 1]! = false) ∧ (st = m ∨ lt d[mid + m - 1 - st]! d[st]! = true)))
theorem Cut.facts (hO : SWO lt) {a m b st mid : Nat} {d : Array β} (hP : Pre lt tag a m b d) (ham : a < m) (hmb : m < b) (hmid : mid = (a + b) / 2) (h : Cut lt a m b st d) :
    a ≤ st ∧ st ≤ m ∧ m ≤ mid + m - st ∧ mid + m - st ≤ b ∧ st + (mid + m - st - m) = mid ∧ st ≤ mid + m ∧
    (∀ x y, a ≤ x → x < st → mid + m - st ≤ y → y < b → lt d[y]! d[x]! = false) ∧ (∀ x y, m ≤ x → x < mid + m - st → st ≤ y → y < m → lt d[x]! d[y]! = true) := by
  obtain ⟨mid', e, h⟩ := h.mid
  obtain rfl : mid' = mid := by omega
  have fA : lt d[mid' + m - st]! d[st - 1]! = false → 1 ≤ st → m ≤ mid' + m - st → st ≤ m → ∀ x y, a ≤ x → x < st → mid' + m - st ≤ y → y < b → lt d[y]! d[x]! = false := fun g q0 q1 q2 x y q3 q4 q5 q6 =>
    hO.ntrans _ _ _ (hO.ntrans _ _ _ (hP.right.le hO (i := mid' + m - st) (j := y) q1 q5 q6) g) (hP.left.le hO (i := x) (j := st - 1) q3 (by omega) (by omega))
  have fB : lt d[mid' + m - 1 - st]! d[st]! = true → mid' + m - st ≤ b → a ≤ st → ∀ x y, m ≤ x → x < mid' + m - st → st ≤ y → y < m → lt d[x]! d[y]! = true := fun g q1 q2 x y q3 q4 q5 q6 => by
    cases e : lt d[x]! d[y]! with
    | true => rfl
    | false =>
      have := hO.ntrans _ _ _ (hO.ntrans _ _ _ (hP.right.le hO (i := x) (j := mid' + m - 1 - st) q3 (by omega) (by omega)) e) (hP.left.le hO (i := st) (j := y) q2 q5 q6)
      rw [g] at this; cases this
  rcases h with ⟨c, h1, h2, h3, h4⟩ | ⟨c, h1, h2, h3, h4⟩
  · refine ⟨by omega, by omega, by omega, by omega, by omega, by omega, ?_, ?_⟩
    · rcases h3 with g | g
      · intro x y q1 q2 q3 q4; omega
      · by_cases z : st = 0
        · intro x y q1 q2; omega
        · exact fA g (by omega) (by omega) (by omega)
    · rcases h4 with g | g
      · intro x y q1 q2 q3 q4; omega
      · exact fB g (by omega) (by omega)
  · refine ⟨by omega, by omega, by omega, by omega, by omega, by omega, ?_, ?_⟩
    · rcases h3 with g | g
      · intro x y q1 q2; omega
      · by_cases z : st = 0
        · intro x y q1 q2; omega
        · exact fA g (by omega) (by omega) (by omega)
    · rcases h4 with g | g
      · intro x y q1 q2 q3 q4; omega
      · exact fB g (by omega) (by omega)
/-- What a merge makes. -/
def Mrg (lt : β → β → Bool) (tag : β → Nat) (a b : Nat) (d d' : Array β) : Prop := PermIn a b d d' ∧ Stb lt tag a b d'
theorem sym_step (hO : SWO lt) {a m b st mid : Nat} {d d1 d2 d3 : Array β} (hP : Pre lt tag a m b d) (ham : a < m) (hmb : m < b) (hb : b ≤ d.size) (hmid : mid = (a + b) / 2) (h : Cut lt a m b st d) (hR : Rot st m (mid + m - st) d d1)
    (h2 : (a < st ∧ st < mid ∧ (Pre lt tag a st mid d1 → Mrg lt tag a mid d1 d2)) ∨ (¬ (a < st ∧ st < mid) ∧ d2 = d1))
    (h3 : (mid < mid + m - st ∧ mid + m - st < b ∧ (Pre lt tag mid (mid + m - st) b d2 → Mrg lt tag mid b d2 d3)) ∨ (¬ (mid < mid + m - st ∧ mid + m - st < b) ∧ d3 = d2)) : Mrg lt tag a b d d3 := by
  obtain ⟨c1, c2, c3, c4, c5, c6, f1, f2⟩ := h.facts hO hP ham hmb hmid
  obtain ⟨r1, r2, r3⟩ := merge_rot hO hP c1 c2 c3 c4 hb f1 f2 hR
  rw [c5] at r1 r2 r3
  have hd1 : b ≤ d1.size := by rw [hR.size]; exact hb
  have ham' : a ≤ mid := by omega
  have hmb' : mid ≤ b := by omega
  have m2 : Mrg lt tag a mid d1 d2 := by
    rcases h2 with ⟨_, _, h⟩ | ⟨n, rfl⟩
    · exact h r1
    · refine ⟨permIn_refl _ _ _, ?_⟩
      by_cases z : st = a
      · subst z; exact r1.nil_left
      · have : st = mid := by omega
        subst this; exact r1.nil_right
  have hd2 : b ≤ d2.size := by rw [m2.1.1]; exact hd1
  have r2' : Pre lt tag mid (mid + m - st) b d2 := by
    have e : ∀ i, mid ≤ i → d2[i]! = d1[i]! := fun i hi => m2.1.2.1 i (.inr hi)
    refine ⟨fun i j q1 q2 q3 => ?_, fun i j q1 q2 q3 => ?_, fun i j q1 q2 q3 q4 => ?_⟩
    · rw [e i q1, e j (by omega)]; exact r2.left i j q1 q2 q3
    · rw [e i (by omega), e j (by omega)]; exact r2.right i j q1 q2 q3
    · rw [e i q1, e j (by omega)]; exact r2.tags i j q1 q2 q3 q4
  have m3 : Mrg lt tag mid b d2 d3 := by
    rcases h3 with ⟨_, _, h⟩ | ⟨n, rfl⟩
    · exact h r2'
    · refine ⟨permIn_refl _ _ _, ?_⟩
      by_cases z : mid + m - st = mid
      · rw [z] at r2'; exact r2'.nil_left
      · have : mid + m - st = b := by omega
        rw [this] at r2'; exact r2'.nil_right
  refine ⟨?_, stb_join ham' hmb' hd1 r3 m2.1 m2.2 m3.1 m3.2⟩
  exact permIn_trans _ _ _ _ _ (permIn_mono d d1 st (mid + m - st) a b c1 c4 hb hR.perm) (permIn_trans _ _ _ _ _ (permIn_mono d1 d2 a mid a b (Nat.le_refl _) hmb' hd1 m2.1) (permIn_mono d2 d3 mid b a b ham' (Nat.le_refl _) hd2 m3.1))
end Mh
