/- What stands in the scanner's loop; plain. -/
import Derived.Test.YtckinhebbhflgaaTkA
namespace Go.Proofs.Ytckinhebbhflgaa
open Go.RowKit Mh
set_option linter.unusedVariables false

theorem bx {a b : ByteArray} (h : a.data.toList = b.data.toList) : a = b := by
  cases a with
  | mk a => cases b with
    | mk b => simp at h; rw [h]
abbrev PT := Tk × Nat × Nat
def rowP (p : PT) : List Value := [.int .i64 p.1.kind, .string ⟨p.1.text.toArray⟩, .int .i64 p.2.1, .int .i64 p.2.2]
def rowsP (P : List PT) : List Value := P.flatMap rowP
theorem rowsP_snoc (P : List PT) (p : PT) : rowsP (P ++ [p]) = rowsP P ++ rowP p := by simp [rowsP]
theorem tk_bad {sc : Bool} {m : Nat} {c : UInt8} {t : List UInt8} (h : bad c = true) : toks sc (m + 1) (c :: t) = none := by rw [toks, if_pos h]
theorem tk_blank0 {sc : Bool} {m : Nat} {c : UInt8} {t : List UInt8} (h : bad c = false) (h2 : (blk c || (cm sc (c :: t)).isSome) = true) (h3 : bend sc (t.length + 2) (c :: t) = none) : toks sc (m + 1) (c :: t) = none := by
  rw [toks, if_neg (by rw [h]; decide), if_pos h2, h3]
theorem tk_blank {sc : Bool} {m k : Nat} {c : UInt8} {t : List UInt8} (h : bad c = false) (h2 : (blk c || (cm sc (c :: t)).isSome) = true) (h3 : bend sc (t.length + 2) (c :: t) = some k) : toks sc (m + 1) (c :: t) = (toks sc m ((c :: t).drop k)).map (⟨4, [32]⟩ :: ·) := by
  rw [toks, if_neg (by rw [h]; decide), if_pos h2, h3]
theorem tk_str0 {sc : Bool} {m : Nat} {c : UInt8} {t : List UInt8} (h : bad c = false) (h2 : (blk c || (cm sc (c :: t)).isSome) = false) (h3 : (c == 34 || c == 39) = true) (h4 : strE c t = none) : toks sc (m + 1) (c :: t) = none := by
  rw [toks, if_neg (by rw [h]; decide), if_neg (by rw [h2]; decide), if_pos h3, h4]
theorem tk_strB {sc : Bool} {m k : Nat} {c : UInt8} {t : List UInt8} (h : bad c = false) (h2 : (blk c || (cm sc (c :: t)).isSome) = false) (h3 : (c == 34 || c == 39) = true) (h4 : strE c t = some k) (h5 : (t.take k).any bad = true) : toks sc (m + 1) (c :: t) = none := by
  rw [toks, if_neg (by rw [h]; decide), if_neg (by rw [h2]; decide), if_pos h3, h4]
  simp only [h5, if_true]
theorem tk_str {sc : Bool} {m k : Nat} {c : UInt8} {t : List UInt8} (h : bad c = false) (h2 : (blk c || (cm sc (c :: t)).isSome) = false) (h3 : (c == 34 || c == 39) = true) (h4 : strE c t = some k) (h5 : (t.take k).any bad = false) :
    toks sc (m + 1) (c :: t) = (toks sc m (t.drop k)).map (⟨2, c :: t.take k⟩ :: ·) := by
  rw [toks, if_neg (by rw [h]; decide), if_neg (by rw [h2]; decide), if_pos h3, h4]
  simp only [h5]
  rfl
theorem tk_mark {sc : Bool} {m : Nat} {c : UInt8} {t : List UInt8} (h : bad c = false) (h2 : (blk c || (cm sc (c :: t)).isSome) = false) (h3 : (c == 34 || c == 39) = false) (h4 : mrk sc c = true) : toks sc (m + 1) (c :: t) = (toks sc m t).map (⟨3, [c]⟩ :: ·) := by
  rw [toks, if_neg (by rw [h]; decide), if_neg (by rw [h2]; decide), if_neg (by rw [h3]; decide), if_pos h4]
theorem tk_word {sc : Bool} {m : Nat} {c : UInt8} {t : List UInt8} (h : bad c = false) (h2 : (blk c || (cm sc (c :: t)).isSome) = false) (h3 : (c == 34 || c == 39) = false) (h4 : mrk sc c = false) :
    toks sc (m + 1) (c :: t) = (toks sc m (t.drop (wend sc t))).map (⟨1, c :: t.take (wend sc t)⟩ :: ·) := by
  rw [toks, if_neg (by rw [h]; decide), if_neg (by rw [h2]; decide), if_neg (by rw [h3]; decide), if_neg (by rw [h4]; decide)]
/-- What stands in divided's loop at j, P being found. -/
def DvIn (s : ByteArray) (sc : Bool) (P : List PT) (j : Nat) : Prop := P.length ≤ j ∧ j ≤ s.size ∧ ∃ m, s.size - j ≤ m ∧ toks sc s.size s.data.toList = (toks sc m (s.data.toList.drop j)).map (P.map (·.1) ++ ·)
theorem DvIn.start (s : ByteArray) (sc : Bool) : DvIn s sc [] 0 := ⟨Nat.le_refl _, Nat.zero_le _, s.size, by omega, by simp⟩
theorem DvIn.next {s : ByteArray} {sc : Bool} {P : List PT} {j k : Nat} {x : Tk} (h : DvIn s sc P j) (hj : j < s.size) (hk : 1 ≤ k) (hks : j + k ≤ s.size) (f t : Nat) (hs : ∀ m, toks sc (m + 1) (s.data.toList.drop j) = (toks sc m (s.data.toList.drop (j + k))).map (x :: ·)) :
    DvIn s sc (P ++ [(x, f, t)]) (j + k) := by
  obtain ⟨h1, h2, m, hm, he⟩ := h
  obtain ⟨m', rfl⟩ : ∃ m', m = m' + 1 := ⟨m - 1, by omega⟩
  refine ⟨by simp only [List.length_append, List.length_cons, List.length_nil]; omega, hks, m', by omega, ?_⟩
  rw [he, hs, Option.map_map]
  congr 1
  funext y
  simp
theorem DvIn.none {s : ByteArray} {sc : Bool} {P : List PT} {j : Nat} (h : DvIn s sc P j) (hj : j < s.size) (hs : ∀ m, toks sc (m + 1) (s.data.toList.drop j) = none) : toks sc s.size s.data.toList = none := by
  obtain ⟨h1, h2, m, hm, he⟩ := h
  obtain ⟨m', rfl⟩ : ∃ m', m = m' + 1 := ⟨m - 1, by omega⟩
  rw [he, hs]
  rfl
theorem DvIn.done {s : ByteArray} {sc : Bool} {P : List PT} {j : Nat} (h : DvIn s sc P j) (hj : ¬ j < s.size) : toks sc s.size s.data.toList = some (P.map (·.1)) := by
  obtain ⟨h1, h2, m, hm, he⟩ := h
  rw [he, List.drop_eq_nil_of_le (by simp; omega)]
  cases m <;> simp [toks]
theorem ext_take (s : ByteArray) (f t : Nat) (h : f ≤ t) (ht : t ≤ s.size) : (s.extract f t) = ⟨((s.data.toList.drop f).take (t - f)).toArray⟩ := by
  refine bx ?_
  simp only [ByteArray.data_extract, Array.toList_extract, List.extract_eq_take_drop]
theorem wend_stop {sc : Bool} {c : UInt8} {t : List UInt8} (h : begins sc c t = true) : wend sc (c :: t) = 0 := by rw [wend, if_pos h]
theorem wend_go {sc : Bool} {c : UInt8} {t : List UInt8} (h : begins sc c t = false) : wend sc (c :: t) = wend sc t + 1 := by rw [wend, if_neg (by rw [h]; decide)]
/-- What divided returns. -/
def DvR (s : ByteArray) (sc : Bool) (w : World) (e : Ending) (w' : World) : Prop :=
  ∃ (v : Value) (Y Z : Int), e = .returned (.tuple #[v, .int .i64 Y, .int .i64 Z]) ∧ Below w.heap.size w w' ∧
    ((Z ≠ 0 ∧ v = .slice none 0 0 ∧ toks sc s.size s.data.toList = none) ∨ (Z = 0 ∧ Y = 0 ∧ ∃ P : List PT, toks sc s.size s.data.toList = some (P.map (·.1)) ∧ w'.ownsRow w.heap.size 72 4 v P.length (rowsP P)))
end Go.Proofs.Ytckinhebbhflgaa
