/- ship's tokens: what lies between and behind them (plain). -/
import Derived.Test.YtoalbfffojpnmaaDoorTnC
import Derived.Test.YtoalbfffojpnmaaDoorTnD
namespace Go.Proofs.YtoalbfffojpnmaaDoor
open Go.RowKit Mh
set_option linter.unusedVariables false

theorem below_drewN {B : Nat} {w w' : World} (h : Below B w w') (n : Nat) : Below B w (w'.drewN n) := ⟨h.os, h.tape, h.output, h.size, h.block⟩
theorem chars_none (X fr en : Nat) (w : World) (h : ¬ fr < en) : Calls Tryd.prog 9 #[ptr X, .int .i64 (fr : Int), .int .i64 (en : Int)] w fun e w' => e = .returned (.tuple #[]) ∧ w' = w := by
  have hd : decide ((fr : Int) < en) = false := decide_eq_false (by omega)
  go_enter Tryd.func9, Tryd.ntmps9
  go_wp2_with fail
  go_end0
  exact ⟨rfl, rfl⟩
theorem St.move {b0 X : Nat} {s : ByteArray} {i i' : Nat} {l : List Tk} {v : Value} {w w' : World} (h : St b0 X s i l w) (hv : Scn s X i v w) (hs : Scn s X i' v w') (hk : Kept [X] w w') : St b0 X s i' l w' := by
  obtain ⟨v2, h1, h2, h3⟩ := h.ex
  have e : v2 = v := by
    have a := h1.cells.2.2.1
    have b := hv.cells.2.2.1
    rw [a] at b
    exact Option.some.inj b
  subst e
  exact ⟨⟨v2, hs, own_kept h2 hk (fun g hg => by simp; rintro rfl; exact h3 hg), h3⟩, h.lo, h.okc⟩
theorem St.low {b0 X : Nat} {s : ByteArray} {i : Nat} {l : List Tk} {w w' : World} (h : St b0 X s i l w) (hk : Kept [X] w w') : Below b0 w w' := by
  obtain ⟨v2, h1, h2, h3⟩ := h.ex
  have := h1.lt
  have := h.lo
  exact hk.below (by omega) (by simpa using h.lo)
/-- What a token is by itself. -/
def Own1 (s : ByteArray) (t : Tk) : Prop := t.a < s.size ∧ (t.k ≠ 1 → byteAt s t.a = 60) ∧ (t.k = 1 → 0 < t.tx.size ∧ t.a + t.tx.size ≤ s.size ∧ t.tx = s.extract t.a (t.a + t.tx.size))
/-- What two that follow each other are. -/
def Pair2 (u t : Tk) : Prop := u.a < t.a ∧ (u.k = 1 → t.k ≠ 1 ∧ t.a = u.a + u.tx.size)
structure Good (s : ByteArray) (l : List Tk) : Prop where
  own : ∀ j (h : j < l.length), Own1 s l[j]
  pair : ∀ j (h : j + 1 < l.length), Pair2 (l[j]'(by omega)) l[j + 1]
/-- Where the next one may begin. -/
structure End1 (s : ByteArray) (l : List Tk) (i : Nat) : Prop where
  lt : ∀ (h : 0 < l.length), (l[l.length - 1]'(by omega)).a < i
  ch : ∀ (h : 0 < l.length), (l[l.length - 1]'(by omega)).k = 1 → i = (l[l.length - 1]'(by omega)).a + (l[l.length - 1]'(by omega)).tx.size
  rw_ : ∀ (h : 0 < l.length), (l[l.length - 1]'(by omega)).k = 1 → (i = s.size ∨ begB s i = true)
theorem Good.nil (s : ByteArray) : Good s [] := ⟨fun j h => by simp at h, fun j h => by simp at h⟩
theorem End1.nil (s : ByteArray) (i : Nat) : End1 s [] i := ⟨fun h => by simp at h, fun h => by simp at h, fun h => by simp at h⟩
theorem Good.snoc {s : ByteArray} {l : List Tk} {i : Nat} {t : Tk} (h : Good s l) (he : End1 s l i) (hi : t.a = i) (ho : Own1 s t) (hc : t.k = 1 → ∀ (h : 0 < l.length), (l[l.length - 1]'(by omega)).k ≠ 1) : Good s (l ++ [t]) := by
  refine ⟨fun j hj => ?_, fun j hj => ?_⟩
  · by_cases e : j < l.length
    · rw [List.getElem_append_left e]; exact h.own j e
    · rw [List.getElem_append_right (by omega)]
      simp only [List.length_append, List.length_singleton] at hj
      have : j - l.length = 0 := by omega
      simp only [this, List.getElem_cons_zero]; exact ho
  · simp only [List.length_append, List.length_singleton] at hj
    by_cases e : j + 1 < l.length
    · rw [List.getElem_append_left e, List.getElem_append_left (by omega)]; exact h.pair j e
    · have e2 : j + 1 = l.length := by omega
      have hl : 0 < l.length := by omega
      rw [List.getElem_append_left (by omega : j < l.length), List.getElem_append_right (by omega)]
      have e3 : j + 1 - l.length = 0 := by omega
      simp only [e3, List.getElem_cons_zero]
      have e4 : j = l.length - 1 := by omega
      subst e4
      refine ⟨by rw [hi]; exact he.lt hl, fun hk => ⟨fun h1 => hc h1 hl hk, by rw [hi]; exact he.ch hl hk⟩⟩
theorem End1.snoc {s : ByteArray} {l : List Tk} {i : Nat} {t : Tk} (h1 : t.a < i) (h2 : t.k = 1 → i = t.a + t.tx.size ∧ (i = s.size ∨ begB s i = true)) : End1 s (l ++ [t]) i := by
  have e : ∀ (h : 0 < (l ++ [t]).length), (l ++ [t])[(l ++ [t]).length - 1]'(by omega) = t := by
    intro h
    have : (l ++ [t]).length - 1 = l.length := by simp
    simp only [this, List.getElem_append_right (Nat.le_refl _), Nat.sub_self, List.getElem_cons_zero]
  exact ⟨fun h => by rw [e h]; exact h1, fun h hk => by rw [e h] at hk ⊢; exact (h2 hk).1, fun h hk => by rw [e h] at hk; exact (h2 hk).2⟩
/-- A token of characters. -/
def chTk (s : ByteArray) (i i' : Nat) : Tk := ⟨1, i, ⟨#[]⟩, s.extract i i', .slice none 0 0⟩
theorem own_ch {s : ByteArray} {i i' : Nat} (h : i < i') (hz : i' ≤ s.size) : Own1 s (chTk s i i') := by
  have e : (s.extract i i').size = i' - i := by simp; omega
  refine ⟨by show i < s.size; omega, fun hk => absurd rfl hk, fun _ => ⟨by show 0 < (s.extract i i').size; omega, by show i + (s.extract i i').size ≤ _; omega, ?_⟩⟩
  show s.extract i i' = s.extract i (i + (s.extract i i').size)
  rw [e, show i + (i' - i) = i' by omega]
theorem ch_end {s : ByteArray} {i i' : Nat} (h : i < i') (hz : i' ≤ s.size) : i' = (chTk s i i').a + (chTk s i i').tx.size := by
  show i' = i + (s.extract i i').size
  have e : (s.extract i i').size = i' - i := by simp; omega
  omega
end Go.Proofs.YtoalbfffojpnmaaDoor
