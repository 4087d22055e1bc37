/- asset's scanner: comment, text. Conditions: where the scanner lies; bounds; the library's variable MaxLen holds an integer. -/
import Derived.Test.YtckinhebbhflgaaTkS
import Derived.Test.YtckinhebbhflgaaTxt
namespace Go.Proofs.Ytckinhebbhflgaa
open Go.RowKit Mh
set_option linter.unusedVariables false

/-- What comment returns at i. -/
def cmI (s : ByteArray) (sc : Bool) (i : Nat) : Int :=
  match cm sc (s.data.toList.drop i) with
  | none => -1
  | some none => (s.size : Int) + 1
  | some (some k) => (i : Int) + k
theorem ext_drop (s : ByteArray) (i : Nat) : (s.extract i s.size).data.toList = s.data.toList.drop i := by
  simp only [ByteArray.data_extract, Array.toList_extract, List.extract_eq_take_drop]
  exact List.take_of_length_le (by simp)
theorem hp_len {a b : UInt8} {r : List UInt8} (h : Lib.hasPrefix r [a, b] = true) : 2 ≤ r.length := by
  match r, h with
  | [c], h => rw [hp_one] at h; cases h
  | c :: d :: t, _ => simp
set_option maxHeartbeats 1000000 in
theorem comment_any (b : Nat) (s : ByteArray) (sc : Bool) (o : Value) (w : World) (h : Sc b s sc o w) (i : Nat) (hi : i ≤ s.size) (hs : s.size ≤ 1000000) (hml : ML 0 w) :
    Calls Try.prog 20 #[.pointer (some ⟨b, 0, none⟩), .int .i64 i] w fun e w' => e = .returned (.int .i64 (cmI s sc i)) ∧ w = w' := by
  have c0 := h.s
  have c1 := h.sc
  obtain ⟨m, hm⟩ := hml
  obtain ⟨R, hR⟩ : ∃ R, R = s.extract i s.size := ⟨_, rfl⟩
  have hRl : R.data.toList = s.data.toList.drop i := by rw [hR]; exact ext_drop s i
  have hRz : R.size = s.size - i := by rw [hR, ByteArray.size_extract]; omega
  have hsl : ∀ w, (Instr.slice 9 (.string s) (some (.int .i64 (i : Int))) none none).run Try.prog w = .ok (.string R) w := by
    intro w
    have := run_slice_string_l (P := Try.prog) w 9 s Try.underlying9 .i64 (i : Int) (by omega) (by omega)
    rw [hR]; simpa using this
  have HP := Lib.hid (fun p w' => Try.strings_HasPrefix R p w')
  have HC : Hid (cmI s sc i = match cm sc R.data.toList with | none => -1 | some none => (s.size : Int) + 1 | some (some k) => (i : Int) + k) := by
    show _ = _
    rw [hRl]; rfl
  generalize hX : cmI s sc i = X at *
  clear h hX hR
  cases hp : Lib.hasPrefix R.data.toList [47, 42] with
  | true =>
    have h2 : 2 ≤ R.size := by
      have := hp_len hp
      simpa using this
    obtain ⟨R2, hR2⟩ : ∃ R2, R2 = R.extract 2 R.size := ⟨_, rfl⟩
    have hR2l : R2.data.toList = R.data.toList.drop 2 := by rw [hR2]; exact ext_drop R 2
    have hR2z : R2.size ≤ s.size := by rw [hR2, ByteArray.size_extract]; omega
    have hsl2 : ∀ w, (Instr.slice 9 (.string R) (some (.int .i64 2)) none none).run Try.prog w = .ok (.string R2) w := by
      intro w
      have := run_slice_string_l (P := Try.prog) w 9 R Try.underlying9 .i64 2 (by omega) (by omega)
      rw [hR2]; simpa using this
    have HPP : Hid (∀ w', Calls Try.prog 32 #[.string R, .string ⟨#[47, 42]⟩] w' fun e w2 => e = .returned (.bool true) ∧ w' = w2) := fun w' => (HP.out ⟨#[47, 42]⟩ w').mono fun e w2 h => ⟨by rw [h.1]; exact congrArg (fun x => Ending.returned (Value.bool x)) hp, h.2.symm⟩
    obtain ⟨k, hk⟩ : ∃ k, k = Lib.index (R.data.toList.drop 2) [42, 47] := ⟨_, rfl⟩
    have hk1 : k ≤ R2.size := by rw [hk, ← hR2l]; have := Lib.index_le R2.data.toList [42, 47]; simpa using this
    have hk0 : -1 ≤ k := by rw [hk]; exact Lib.index_ge _ _
    have HIX : Hid (Calls Try.prog 33 #[.string R2, .string ⟨#[42, 47]⟩] w fun e w2 => e = .returned (.int .i64 k) ∧ w = w2) := (Try.strings_Index R2 ⟨#[42, 47]⟩ m w (by omega) hm).mono fun e w2 h => ⟨by rw [h.1, hR2l, hk], h.2.symm⟩
    have HV : Hid (cm sc R.data.toList = if k < 0 then some none else some (some (2 + k.toNat + 2))) := by
      show _ = _
      unfold cm
      rw [if_pos hp, hk]
    clear hp HP hR2 hR2l hRl hk hm
    by_cases hneg : k < 0
    · have q : decide (k < 0) = true := decide_eq_true hneg
      have HX : Hid (X = (s.size : Int) + 1) := by show _ = _; rw [HC.out, HV.out, if_pos hneg]
      go_enter Try.func20, Try.ntmps20
      go_wp2_with (first | (go_at_call 32; refine (HPP.out _).mono ?_; rintro e w' ⟨rfl, rfl⟩) | (go_at_call 33; refine HIX.out.mono ?_; rintro e w' ⟨rfl, rfl⟩))
      go_ret
      exact ⟨by rw [HX.out]; rfl, rfl⟩
    · have q : decide (k < 0) = false := decide_eq_false hneg
      have HX : Hid (X = (i : Int) + 2 + k + 2) := by show _ = _; rw [HC.out, HV.out, if_neg hneg]; show (i : Int) + ((2 + k.toNat + 2 : Nat) : Int) = _; omega
      go_enter Try.func20, Try.ntmps20
      go_wp2_with (first | (go_at_call 32; refine (HPP.out _).mono ?_; rintro e w' ⟨rfl, rfl⟩) | (go_at_call 33; refine HIX.out.mono ?_; rintro e w' ⟨rfl, rfl⟩))
      go_ret
      exact ⟨by rw [HX.out]; rfl, rfl⟩
  | false =>
    have HPP : Hid (∀ w', Calls Try.prog 32 #[.string R, .string ⟨#[47, 42]⟩] w' fun e w2 => e = .returned (.bool false) ∧ w' = w2) := fun w' => (HP.out ⟨#[47, 42]⟩ w').mono fun e w2 h => ⟨by rw [h.1]; exact congrArg (fun x => Ending.returned (Value.bool x)) hp, h.2.symm⟩
    cases sc with
    | false =>
      have HX : Hid (X = -1) := by
        show _ = _
        rw [HC.out]
        unfold cm
        rw [if_neg (by rw [hp]; decide), if_neg (by simp)]
      clear hp HP hRl hm
      go_enter Try.func20, Try.ntmps20
      go_wp2_with (go_at_call 32; refine (HPP.out _).mono ?_; rintro e w' ⟨rfl, rfl⟩)
      go_ret
      exact ⟨by rw [HX.out]; rfl, rfl⟩
    | true =>
      cases hq : Lib.hasPrefix R.data.toList [47, 47] with
      | false =>
        have HQQ : Hid (∀ w', Calls Try.prog 32 #[.string R, .string ⟨#[47, 47]⟩] w' fun e w2 => e = .returned (.bool false) ∧ w' = w2) := fun w' => (HP.out ⟨#[47, 47]⟩ w').mono fun e w2 h => ⟨by rw [h.1]; exact congrArg (fun x => Ending.returned (Value.bool x)) hq, h.2.symm⟩
        have HX : Hid (X = -1) := by
          show _ = _
          rw [HC.out]
          unfold cm
          rw [if_neg (by rw [hp]; decide), hq, if_neg (by simp)]
        clear hp hq HP hRl hm
        go_enter Try.func20, Try.ntmps20
        go_wp2_with (go_at_call 32; first | (with_reducible refine (HPP.out _).mono ?_; rintro e w' ⟨rfl, rfl⟩) | (with_reducible refine (HQQ.out _).mono ?_; rintro e w' ⟨rfl, rfl⟩))
        go_ret
        exact ⟨by rw [HX.out]; rfl, rfl⟩
      | true =>
        have HQQ : Hid (∀ w', Calls Try.prog 32 #[.string R, .string ⟨#[47, 47]⟩] w' fun e w2 => e = .returned (.bool true) ∧ w' = w2) := fun w' => (HP.out ⟨#[47, 47]⟩ w').mono fun e w2 h => ⟨by rw [h.1]; exact congrArg (fun x => Ending.returned (Value.bool x)) hq, h.2.symm⟩
        obtain ⟨k, hk⟩ : ∃ k, k = Lib.indexByte R.data.toList 10 := ⟨_, rfl⟩
        have hk0 : -1 ≤ k := by rw [hk]; exact Lib.indexByte_ge _ _
        have hk1 : k ≤ R.size := by
          rw [hk, ← Lib.index_one]; have := Lib.index_le R.data.toList [10]; simpa using this
        have HIB : Hid (∀ w', Calls Try.prog 34 #[.string R, .int .u8 10] w' fun e w2 => e = .returned (.int .i64 k) ∧ w' = w2) := fun w' => (Try.strings_IndexByte R 10 w').mono fun e w2 h => ⟨by rw [h.1, hk]; rfl, h.2.symm⟩
        have HV : Hid (cm true R.data.toList = if k < 0 then some (some R.data.toList.length) else some (some k.toNat)) := by
          show _ = _
          unfold cm
          rw [if_neg (by rw [hp]; decide), hq, if_pos (by simp), hk]
        have hRz2 : R.data.toList.length = s.size - i := by rw [← hRz]; simp
        clear hp hq HP hRl hm hk
        by_cases hneg : k < 0
        · have q : decide (k < 0) = true := decide_eq_true hneg
          have HX : Hid (X = (s.size : Int)) := by show _ = _; rw [HC.out, HV.out, if_pos hneg]; show (i : Int) + ((R.data.toList.length : Nat) : Int) = _; omega
          clear hRz2
          go_enter Try.func20, Try.ntmps20
          go_wp2_with (first | (go_at_call 32; first | (with_reducible refine (HPP.out _).mono ?_; rintro e w' ⟨rfl, rfl⟩) | (with_reducible refine (HQQ.out _).mono ?_; rintro e w' ⟨rfl, rfl⟩)) | (go_at_call 34; refine (HIB.out _).mono ?_; rintro e w' ⟨rfl, rfl⟩))
          go_ret
          exact ⟨by rw [HX.out]; rfl, rfl⟩
        · have q : decide (k < 0) = false := decide_eq_false hneg
          have HX : Hid (X = (i : Int) + k) := by show _ = _; rw [HC.out, HV.out, if_neg hneg]; show (i : Int) + ((k.toNat : Nat) : Int) = _; omega
          clear hRz2
          go_enter Try.func20, Try.ntmps20
          go_wp2_with (first | (go_at_call 32; first | (with_reducible refine (HPP.out _).mono ?_; rintro e w' ⟨rfl, rfl⟩) | (with_reducible refine (HQQ.out _).mono ?_; rintro e w' ⟨rfl, rfl⟩)) | (go_at_call 34; refine (HIB.out _).mono ?_; rintro e w' ⟨rfl, rfl⟩))
          go_ret
          exact ⟨by rw [HX.out]; rfl, rfl⟩
theorem comment_isSome (s : ByteArray) (sc : Bool) (i : Nat) : decide (0 ≤ cmI s sc i) = (cm sc (s.data.toList.drop i)).isSome := by
  unfold cmI
  split
  · rename_i h; rw [h]; rfl
  · rename_i h; rw [h]; exact decide_eq_true (by omega)
  · rename_i h; rw [h]; exact decide_eq_true (by omega)
end Go.Proofs.Ytckinhebbhflgaa
