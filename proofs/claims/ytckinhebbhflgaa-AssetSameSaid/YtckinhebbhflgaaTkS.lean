/- asset's scanner: checked, isMark. Conditions: where the scanner lies; bounds. -/
import Derived.Test.YtckinhebbhflgaaTkB
import Derived.Test.YtckinhebbhflgaaShelf
namespace Go.Proofs.Ytckinhebbhflgaa
open Go.RowKit Mh
set_option linter.unusedVariables false

/-- A scanner of s in block b, what it has found in o. -/
def Sc (b : Nat) (s : ByteArray) (sc : Bool) (o : Value) (w : World) : Prop := w.heap[b]? = some (.cells #[.string s, .bool sc, o] 50 (0, 0))
theorem Sc.s {b : Nat} {s : ByteArray} {sc : Bool} {o : Value} {w : World} (h : Sc b s sc o w) : w.cell? ⟨b, 0, none⟩ = some (.string s) := cellT h rfl
theorem Sc.sc {b : Nat} {s : ByteArray} {sc : Bool} {o : Value} {w : World} (h : Sc b s sc o w) : w.cell? ⟨b, 1, none⟩ = some (.bool sc) := cellT h rfl
theorem Sc.o {b : Nat} {s : ByteArray} {sc : Bool} {o : Value} {w : World} (h : Sc b s sc o w) : w.cell? ⟨b, 2, none⟩ = some o := cellT h rfl
theorem Sc.lt {b : Nat} {s : ByteArray} {sc : Bool} {o : Value} {w : World} (h : Sc b s sc o w) : b < w.heap.size := (Array.getElem?_eq_some_iff.1 h).1
theorem drop_at (s : ByteArray) (i : Nat) (h : i < s.size) : s.data.toList.drop i = s[i] :: s.data.toList.drop (i + 1) := by
  rw [List.drop_eq_getElem_cons (by simpa using h)]
  rfl
theorem take_next (s : ByteArray) {a j : Nat} (h : a ≤ j) (hj : j < s.size) : (s.data.toList.drop a).take (j + 1 - a) = (s.data.toList.drop a).take (j - a) ++ [s[j]] := by
  rw [show j + 1 - a = (j - a) + 1 by omega, List.take_succ_eq_append_getElem (by simp; omega)]
  congr 2
  rw [List.getElem_drop]
  have e : a + (j - a) = j := by omega
  show s.data.toList[a + (j - a)]'_ = s.data.toList[j]'_
  simp only [e]

set_option maxHeartbeats 1000000 in
theorem checked_any (b : Nat) (s : ByteArray) (sc : Bool) (o : Value) (w : World) (h : Sc b s sc o w) (f t : Nat) (hf : f ≤ t) (ht : t ≤ s.size) (hs : s.size ≤ 1000000) :
    Calls Try.prog 24 #[.pointer (some ⟨b, 0, none⟩), .int .i64 f, .int .i64 t] w fun e w' => ∃ r : Int, e = .returned (.int .i64 r) ∧ (0 ≤ r ↔ ((s.data.toList.drop f).take (t - f)).any bad = true) ∧ w = w' := by
  have c0 := h.s
  clear h
  go_enter Try.func24, Try.ntmps24
  go_wp2_with fail
  go_loopw [7] (fun i wr => ∃ j : Nat, f ≤ j ∧ j ≤ t ∧ i = .int .i64 j ∧ w = wr ∧ Hid (((s.data.toList.drop f).take (j - f)).any bad = false)) (fun i _ => t - (intOf i).toNat)
  case atStart => exact ⟨f, Nat.le_refl _, hf, rfl, rfl, by show _ = _; simp⟩
  case round =>
    obtain ⟨j, hfj, hjt, rfl, rfl, HA⟩ := hrel
    by_cases hj : j < t
    · have hjs : j < s.size := by omega
      have HB := Lib.hid (fun w' => badByte_any s[j] w')
      have HN := Lib.hid (take_next s hfj hjs)
      obtain ⟨B, hB⟩ : ∃ B, B = bad s[j] := ⟨_, rfl⟩
      rw [← hB] at HB
      have HBB := Lib.hid hB
      clear hB
      cases B with
      | true =>
        go_wp2_with (go_at_call 18; refine (HB.out _).mono ?_; rintro e w' ⟨rfl, rfl⟩)
        go_ret
        refine ⟨j, rfl, ⟨fun _ => ?_, fun _ => by omega⟩, rfl⟩
        rw [List.any_eq_true]
        refine ⟨s[j], ?_, HBB.out.symm⟩
        have hm : s[j] ∈ (s.data.toList.drop f).take (j + 1 - f) := by rw [HN.out]; simp
        exact (List.take_subset_take_left _ (by omega)) hm
      | false =>
        go_wp2_with (go_at_call 18; refine (HB.out _).mono ?_; rintro e w' ⟨rfl, rfl⟩)
        go_roundw
        case rel =>
          refine ⟨j + 1, by omega, by omega, by go_num, trivial, ?_⟩
          show _ = _
          rw [HN.out, List.any_append, HA.out, List.any_cons, ← HBB.out]
          rfl
        case measure => simp [intOf]; omega
    · obtain rfl : j = t := by omega
      go_wp2_with fail
      go_ret
      refine ⟨-1, rfl, ⟨fun h => by omega, fun h => ?_⟩, rfl⟩
      rw [HA.out] at h
      cases h
theorem idx_contains (c : UInt8) : ∀ l : List UInt8, decide (0 ≤ Lib.indexByte l c) = l.contains c
  | [] => by simp [Lib.indexByte]
  | a :: l => by
    have ih := idx_contains c l
    have hg := Lib.indexByte_ge l c
    unfold Lib.indexByte
    by_cases e : a = c
    · subst e; simp
    · rw [if_neg (by simpa using e)]
      rw [List.contains_cons, beq_eq_false_iff_ne.2 (fun h => e h.symm), Bool.false_or, ← ih]
      by_cases h1 : Lib.indexByte l c = -1
      · rw [h1]; rfl
      · rw [if_neg (by simpa using h1)]
        rw [Bool.eq_iff_iff]
        simp only [decide_eq_true_eq]
        omega
theorem isMark_any (b : Nat) (s : ByteArray) (sc : Bool) (o : Value) (w : World) (h : Sc b s sc o w) (c : UInt8) :
    Calls Try.prog 25 #[.pointer (some ⟨b, 0, none⟩), .int .u8 (c.toNat : Int)] w fun e w' => e = .returned (.bool (mrk sc c)) ∧ w = w' := by
  have c1 := h.sc
  have HS := Lib.hid (fun w' => isSword_any c w')
  have HI := Lib.hid (fun w' => Try.strings_IndexByte ⟨#[123, 125, 40, 41, 91, 93, 59, 58, 44, 62]⟩ (c.toNat : Int) w')
  have HM : Hid (mrk sc c = if sc then !(swd c) else sMarks.contains c) := rfl
  clear h
  cases sc with
  | true =>
    generalize swd c = B at *
    generalize (c.toNat : Int) = n at *
    go_enter Try.func25, Try.ntmps25
    go_wp2_with (go_at_call 35; refine (HS.out _).mono ?_; rintro e w' ⟨rfl, rfl⟩)
    go_ret
    exact ⟨by rw [HM.out]; rfl, rfl⟩
  | false =>
    have HX : Hid (decide (0 ≤ Lib.indexByte sMarks c) = sMarks.contains c) := idx_contains c sMarks
    have HI2 : Hid (∀ w', Calls Try.prog 34 #[.string ⟨#[123, 125, 40, 41, 91, 93, 59, 58, 44, 62]⟩, .int .u8 (c.toNat : Int)] w' fun e w2 => e = .returned (.int .i64 (Lib.indexByte sMarks c)) ∧ w' = w2) := by
      intro w'
      refine (HI.out w').mono ?_
      rintro e w2 ⟨rfl, rfl⟩
      refine ⟨?_, rfl⟩
      have e1 : ((c.toNat : Int)).toNat.toUInt8 = c := by rw [Int.toNat_natCast]; exact UInt8.ofNat_toNat
      rw [e1]
      rfl
    generalize Lib.indexByte sMarks c = k at *
    generalize (c.toNat : Int) = n at *
    clear HI HS
    go_enter Try.func25, Try.ntmps25
    go_wp2_with (go_at_call 34; refine (HI2.out _).mono ?_; rintro e w' ⟨rfl, rfl⟩)
    go_ret
    exact ⟨by rw [HM.out, ← HX.out]; rfl, rfl⟩
end Go.Proofs.Ytckinhebbhflgaa
