/- asset's scanner: begins. Conditions: where the scanner lies; bounds; the library's variable MaxLen holds an integer. -/
import Derived.Test.YtckinhebbhflgaaTkT
namespace Go.Proofs.Ytckinhebbhflgaa
open Go.RowKit Mh
set_option linter.unusedVariables false

theorem u8_beq (c d : UInt8) : ((c.toNat : Int) == (d.toNat : Int)) = (c == d) := by
  rw [Bool.eq_iff_iff, beq_iff_eq, beq_iff_eq, u8_int]
set_option maxRecDepth 100000 in
set_option maxHeartbeats 2000000 in
theorem begins_any (b : Nat) (s : ByteArray) (sc : Bool) (o : Value) (w : World) (h : Sc b s sc o w) (i : Nat) (hi : i < s.size) (hs : s.size ≤ 1000000) (hml : ML 0 w) :
    Calls Try.prog 26 #[.pointer (some ⟨b, 0, none⟩), .int .i64 i] w fun e w' => e = .returned (.bool (begins sc s[i] (s.data.toList.drop (i + 1)))) ∧ w = w' := by
  have c0 := h.s
  have HB := Lib.hid (fun w' => isBlank_any s[i] w')
  have HM := Lib.hid (isMark_any b s sc o w h s[i])
  have HC := Lib.hid (comment_any b s sc o w h i (by omega) hs hml)
  have HD := Lib.hid (fun w' => badByte_any s[i] w')
  have t2 : ((s[i].toNat : Int) == 34) = (s[i] == 34) := u8_beq s[i] 34
  have t3 : ((s[i].toNat : Int) == 39) = (s[i] == 39) := u8_beq s[i] 39
  have t5 := comment_isSome s sc i
  have HX : Hid (begins sc s[i] (s.data.toList.drop (i + 1)) = (blk s[i] || s[i] == 34 || s[i] == 39 || mrk sc s[i] || (cm sc (s.data.toList.drop i)).isSome || bad s[i])) := by
    show _ = _
    rw [drop_at s i hi]
    rfl
  generalize begins sc s[i] (s.data.toList.drop (i + 1)) = X at *
  generalize blk s[i] = B1 at *
  generalize (s[i] == 34) = B2 at *
  generalize (s[i] == 39) = B3 at *
  generalize mrk sc s[i] = B4 at *
  generalize (cm sc (s.data.toList.drop i)).isSome = B5 at *
  generalize bad s[i] = B6 at *
  generalize cmI s sc i = k at *
  clear h hml
  cases B1 with
  | true =>
    go_enter Try.func26, Try.ntmps26
    go_wp2_with (go_at_call 19; refine (HB.out _).mono ?_; rintro e w' ⟨rfl, rfl⟩)
    go_ret
    exact ⟨by rw [HX.out]; rfl, rfl⟩
  | false =>
  cases B2 with
  | true =>
    go_enter Try.func26, Try.ntmps26
    go_wp2_with (go_at_call 19; refine (HB.out _).mono ?_; rintro e w' ⟨rfl, rfl⟩)
    go_ret
    exact ⟨by rw [HX.out]; rfl, rfl⟩
  | false =>
  cases B3 with
  | true =>
    go_enter Try.func26, Try.ntmps26
    go_wp2_with (go_at_call 19; refine (HB.out _).mono ?_; rintro e w' ⟨rfl, rfl⟩)
    go_ret
    exact ⟨by rw [HX.out]; rfl, rfl⟩
  | false =>
  cases B4 with
  | true =>
    go_enter Try.func26, Try.ntmps26
    go_wp2_with (first | (go_at_call 19; refine (HB.out _).mono ?_; rintro e w' ⟨rfl, rfl⟩) | (go_at_call 25; refine HM.out.mono ?_; rintro e w' ⟨rfl, rfl⟩))
    go_ret
    exact ⟨by rw [HX.out]; rfl, rfl⟩
  | false =>
  cases B5 with
  | true =>
    go_enter Try.func26, Try.ntmps26
    go_wp2_with (first | (go_at_call 19; refine (HB.out _).mono ?_; rintro e w' ⟨rfl, rfl⟩) | (go_at_call 25; refine HM.out.mono ?_; rintro e w' ⟨rfl, rfl⟩) | (go_at_call 20; refine HC.out.mono ?_; rintro e w' ⟨rfl, rfl⟩))
    go_ret
    exact ⟨by rw [HX.out]; rfl, rfl⟩
  | false =>
    go_enter Try.func26, Try.ntmps26
    go_wp2_with (first | (go_at_call 19; refine (HB.out _).mono ?_; rintro e w' ⟨rfl, rfl⟩) | (go_at_call 25; refine HM.out.mono ?_; rintro e w' ⟨rfl, rfl⟩) | (go_at_call 20; refine HC.out.mono ?_; rintro e w' ⟨rfl, rfl⟩) | (go_at_call 18; refine (HD.out _).mono ?_; rintro e w' ⟨rfl, rfl⟩))
    go_ret
    exact ⟨by rw [HX.out]; rfl, rfl⟩
end Go.Proofs.Ytckinhebbhflgaa
