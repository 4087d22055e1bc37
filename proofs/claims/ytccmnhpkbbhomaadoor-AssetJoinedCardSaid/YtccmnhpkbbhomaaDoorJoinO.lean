/- Files as they lie in memory: 'Fs w v L': v is a slice whose files are L. No program but in the last law. -/
import Derived.Test.YtccmnhpkbbhomaaDoorVAt
namespace Mh
open Go Go.RowKit Go.ChangeShapes Go.WideShapes Go.Deep
set_option linter.unusedVariables false

def flB (L : List (ByteArray × ByteArray)) : List Value := L.flatMap fun x => [.string x.1, .string x.2]
theorem flB_len (L : List (ByteArray × ByteArray)) : (flB L).length = L.length * 2 := by
  induction L with
  | nil => rfl
  | cons a L ih => simp [flB] at ih ⊢; omega
theorem flB_get (L : List (ByteArray × ByteArray)) : ∀ i (h : i < L.length), (flB L)[i * 2]? = some (.string L[i].1) ∧ (flB L)[i * 2 + 1]? = some (.string L[i].2) := by
  induction L with
  | nil => intro i h; simp at h
  | cons a L ih =>
    intro i h
    cases i with
    | zero => exact ⟨rfl, rfl⟩
    | succ i =>
      have e1 : (i + 1) * 2 = i * 2 + 1 + 1 := by omega
      have := ih i (by simpa using h)
      have e2 : flB (a :: L) = .string a.1 :: .string a.2 :: flB L := rfl
      rw [e2, e1]
      simpa using this
def Fs (w : World) (v : Value) (L : List (ByteArray × ByteArray)) : Prop := Sl 2 w v L.length (flB L) ∧ ∀ x ∈ L, x.1.size ≤ maxLen ∧ x.2.size ≤ maxLen
theorem Fs.below {w w' : World} {v : Value} {L : List (ByteArray × ByteArray)} (h : Fs w v L) (hb : Below w.heap.size w w') : Fs w' v L := ⟨h.1.below hb, h.2⟩

section
variable {H : Type} {enc : TypeId × Value → H} {P : Program} {w : World}
set_option maxRecDepth 100000 in
/-- A slice of files that was read. -/
theorem open_fs {t tv tx : TypeId} {o0 o1 : Field} {fuel : Nat} {held : Bool} {u : Value} {x : DataW H × List MemPlace} (ht : P.underlying t = some (.slice tv)) (hv : P.underlying tv = some (.struct #[o0, o1]))
    (f0 : o0.type = tx) (f1 : o1.type = tx) (g0 : o0.offset = 0) (g1 : o1.offset = 1) (htx : P.underlying tx = some .string) (cx : P.cellsOf tx = 1) (cv : P.cellsOf tv = 2)
    (h : DataW.trod enc P w 0 (fun _ => true) held fuel t [u] = some x) : ∃ L : List (ByteArray × ByteArray), Fs w u L := by
  obtain ⟨len, n, g, y, hS, _, hg⟩ := open_sl_rows ht cv (by decide) h
  have hx : ∀ i, ∃ s : ByteArray × ByteArray, i < len → g i = [.string s.1, .string s.2] ∧ s.1.size ≤ maxLen ∧ s.2.size ≤ maxLen := by
    intro i
    by_cases hi : i < len
    · obtain ⟨hgl, hgt⟩ := hg i hi
      generalize g i = l at *
      obtain ⟨xs, n', hfu, _, hlen, hxl, hf⟩ := DataW.trod_struct hv hgt
      match l, hgl with
      | [c0, c1], _ =>
      match xs, hxl with
      | [x0, x1], _ =>
      have h0 := hf 0 o0 rfl
      have h1 := hf 1 o1 rfl
      rw [f0, g0, cx] at h0
      rw [f1, g1, cx] at h1
      obtain ⟨a0, e0, _, w0⟩ := DataW.trod_string htx h0
      obtain ⟨a1, e1, _, w1⟩ := DataW.trod_string htx h1
      simp only [List.drop_zero, List.take_succ_cons, List.take_zero, List.cons.injEq, and_true] at e0
      simp only [List.drop_succ_cons, List.drop_zero, List.take_succ_cons, List.take_zero, List.cons.injEq, and_true] at e1
      subst e0 e1
      exact ⟨(a0, a1), fun _ => ⟨rfl, w0, w1⟩⟩
    · exact ⟨(⟨#[]⟩, ⟨#[]⟩), fun h => absurd h hi⟩
  have e1 : (List.range len).flatMap g = flB ((List.range len).map fun i => (hx i).choose) := by
    unfold flB
    rw [List.flatMap_map]
    have : ∀ l : List Nat, (∀ i ∈ l, i < len) → l.flatMap g = l.flatMap fun i => [Value.string (hx i).choose.1, .string (hx i).choose.2] := by
      intro l
      induction l with
      | nil => intro _; rfl
      | cons a l ih =>
        intro hl
        have e9 := ((hx a).choose_spec (hl a (by simp))).1
        rw [List.flatMap_cons, List.flatMap_cons, ih (fun i hi => hl i (by simp [hi]))]
        exact congrArg (· ++ _) e9
    exact this _ (fun i hi => List.mem_range.1 hi)
  refine ⟨(List.range len).map fun i => (hx i).choose, ?_, ?_⟩
  · rw [e1] at hS
    simpa using hS
  · intro s hs
    obtain ⟨i, hi, rfl⟩ := List.mem_map.1 hs
    exact ((hx i).choose_spec (List.mem_range.1 hi)).2
end
end Mh
