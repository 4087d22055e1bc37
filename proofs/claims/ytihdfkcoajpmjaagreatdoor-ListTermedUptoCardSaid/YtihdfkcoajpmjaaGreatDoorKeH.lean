/- conf.unused: what it returns. Conditions: the value's kind is one of the seven. Printed by wip/gen_unused.py. -/
import Derived.Test.YtihdfkcoajpmjaaGreatDoorKeG
namespace Go.Proofs.YtihdfkcoajpmjaaGreatDoor
open Go.RowKit Mh
set_option linter.unusedVariables false

theorem empty_of {t : ByteArray} (h : t.size = 0) : t.toList.isEmpty = true := by
  rw [ByteArray.toList_eq]
  have : t.data.toList.length = 0 := by simpa using h
  rw [List.eq_nil_of_length_eq_zero this]; rfl
theorem empty_not {t : ByteArray} (h : ¬ t.size = 0) : t.toList.isEmpty = false := by
  rw [ByteArray.toList_eq]
  have : t.data.toList.length ≠ 0 := by simpa using h
  cases hc : t.data.toList with
  | nil => rw [hc] at this; exact absurd rfl this
  | cons a l => rfl
set_option maxHeartbeats 16000000 in
theorem unused_0 (b p1 p2 p3 p4 p5 R : Bool) (n : Int) (t : ByteArray) (is : List V) (ks : List ByteArray) (ia ka : Option Addr) (ic kc : Nat) (w : World) (hi : is.length ≤ 2 ^ 63 - 1) (hl : ks.length ≤ 2 ^ 63 - 1)
    (N1 : (n != 0) = p1) (N2 : t.toList.isEmpty = p2) (N3 : decide (0 < (is.length : Int)) = p3) (M3 : decide (0 < is.length) = p3) (N4 : decide (0 < (ks.length : Int)) = p4) (M4 : decide (0 < ks.length) = p4) (N5 : ((ks.length : Int) != (is.length : Int)) = p5) (M5 : (ks.length != is.length) = p5)
    (HR : Hid (R = ((b && !decide ((0 : Int) = 1)) || (p1 && (!decide ((0 : Int) = 2) && !decide ((0 : Int) = 4))) || (!p2 && !decide ((0 : Int) = 3)) || (p3 && (!decide ((0 : Int) = 5) && !decide ((0 : Int) = 6))) || (p4 && !decide ((0 : Int) = 6)) || (decide ((0 : Int) = 6) && p5))))
    (HB : Hid (Below w.heap.size w (w.alloc (.cells #[.int .i64 0, .bool b, .int .i64 n, .string t, .slice ia is.length ic, .slice ka ks.length kc] 35)))) :
    Calls Tryz.prog 102 #[.agg #[.int .i64 0, .bool b, .int .i64 n, .string t, .slice ia is.length ic, .slice ka ks.length kc]] w fun e w' => e = .returned (.bool R) ∧ Below w.heap.size w w' := by
  cases b
  · cases p1
    · cases p2
      · go_enter Tryz.func102, Tryz.ntmps102
        go_wp2_with fail
        go_ret
        exact ⟨by rw [HR.out]; rfl, HB.out⟩
      · cases p3
        · cases p4
          · go_enter Tryz.func102, Tryz.ntmps102
            go_wp2_with fail
            go_ret
            exact ⟨by rw [HR.out]; rfl, HB.out⟩
          · go_enter Tryz.func102, Tryz.ntmps102
            go_wp2_with fail
            go_ret
            exact ⟨by rw [HR.out]; rfl, HB.out⟩
        · go_enter Tryz.func102, Tryz.ntmps102
          go_wp2_with fail
          go_ret
          exact ⟨by rw [HR.out]; rfl, HB.out⟩
    · go_enter Tryz.func102, Tryz.ntmps102
      go_wp2_with fail
      go_ret
      exact ⟨by rw [HR.out]; rfl, HB.out⟩
  · go_enter Tryz.func102, Tryz.ntmps102
    go_wp2_with fail
    go_ret
    exact ⟨by rw [HR.out]; rfl, HB.out⟩
set_option maxHeartbeats 16000000 in
theorem unused_1 (b p1 p2 p3 p4 p5 R : Bool) (n : Int) (t : ByteArray) (is : List V) (ks : List ByteArray) (ia ka : Option Addr) (ic kc : Nat) (w : World) (hi : is.length ≤ 2 ^ 63 - 1) (hl : ks.length ≤ 2 ^ 63 - 1)
    (N1 : (n != 0) = p1) (N2 : t.toList.isEmpty = p2) (N3 : decide (0 < (is.length : Int)) = p3) (M3 : decide (0 < is.length) = p3) (N4 : decide (0 < (ks.length : Int)) = p4) (M4 : decide (0 < ks.length) = p4) (N5 : ((ks.length : Int) != (is.length : Int)) = p5) (M5 : (ks.length != is.length) = p5)
    (HR : Hid (R = ((b && !decide ((1 : Int) = 1)) || (p1 && (!decide ((1 : Int) = 2) && !decide ((1 : Int) = 4))) || (!p2 && !decide ((1 : Int) = 3)) || (p3 && (!decide ((1 : Int) = 5) && !decide ((1 : Int) = 6))) || (p4 && !decide ((1 : Int) = 6)) || (decide ((1 : Int) = 6) && p5))))
    (HB : Hid (Below w.heap.size w (w.alloc (.cells #[.int .i64 1, .bool b, .int .i64 n, .string t, .slice ia is.length ic, .slice ka ks.length kc] 35)))) :
    Calls Tryz.prog 102 #[.agg #[.int .i64 1, .bool b, .int .i64 n, .string t, .slice ia is.length ic, .slice ka ks.length kc]] w fun e w' => e = .returned (.bool R) ∧ Below w.heap.size w w' := by
  cases b
  · cases p1
    · cases p2
      · go_enter Tryz.func102, Tryz.ntmps102
        go_wp2_with fail
        go_ret
        exact ⟨by rw [HR.out]; rfl, HB.out⟩
      · cases p3
        · cases p4
          · go_enter Tryz.func102, Tryz.ntmps102
            go_wp2_with fail
            go_ret
            exact ⟨by rw [HR.out]; rfl, HB.out⟩
          · go_enter Tryz.func102, Tryz.ntmps102
            go_wp2_with fail
            go_ret
            exact ⟨by rw [HR.out]; rfl, HB.out⟩
        · go_enter Tryz.func102, Tryz.ntmps102
          go_wp2_with fail
          go_ret
          exact ⟨by rw [HR.out]; rfl, HB.out⟩
    · go_enter Tryz.func102, Tryz.ntmps102
      go_wp2_with fail
      go_ret
      exact ⟨by rw [HR.out]; rfl, HB.out⟩
  · cases p1
    · cases p2
      · go_enter Tryz.func102, Tryz.ntmps102
        go_wp2_with fail
        go_ret
        exact ⟨by rw [HR.out]; rfl, HB.out⟩
      · cases p3
        · cases p4
          · go_enter Tryz.func102, Tryz.ntmps102
            go_wp2_with fail
            go_ret
            exact ⟨by rw [HR.out]; rfl, HB.out⟩
          · go_enter Tryz.func102, Tryz.ntmps102
            go_wp2_with fail
            go_ret
            exact ⟨by rw [HR.out]; rfl, HB.out⟩
        · go_enter Tryz.func102, Tryz.ntmps102
          go_wp2_with fail
          go_ret
          exact ⟨by rw [HR.out]; rfl, HB.out⟩
    · go_enter Tryz.func102, Tryz.ntmps102
      go_wp2_with fail
      go_ret
      exact ⟨by rw [HR.out]; rfl, HB.out⟩
set_option maxHeartbeats 16000000 in
theorem unused_2 (b p1 p2 p3 p4 p5 R : Bool) (n : Int) (t : ByteArray) (is : List V) (ks : List ByteArray) (ia ka : Option Addr) (ic kc : Nat) (w : World) (hi : is.length ≤ 2 ^ 63 - 1) (hl : ks.length ≤ 2 ^ 63 - 1)
    (N1 : (n != 0) = p1) (N2 : t.toList.isEmpty = p2) (N3 : decide (0 < (is.length : Int)) = p3) (M3 : decide (0 < is.length) = p3) (N4 : decide (0 < (ks.length : Int)) = p4) (M4 : decide (0 < ks.length) = p4) (N5 : ((ks.length : Int) != (is.length : Int)) = p5) (M5 : (ks.length != is.length) = p5)
    (HR : Hid (R = ((b && !decide ((2 : Int) = 1)) || (p1 && (!decide ((2 : Int) = 2) && !decide ((2 : Int) = 4))) || (!p2 && !decide ((2 : Int) = 3)) || (p3 && (!decide ((2 : Int) = 5) && !decide ((2 : Int) = 6))) || (p4 && !decide ((2 : Int) = 6)) || (decide ((2 : Int) = 6) && p5))))
    (HB : Hid (Below w.heap.size w (w.alloc (.cells #[.int .i64 2, .bool b, .int .i64 n, .string t, .slice ia is.length ic, .slice ka ks.length kc] 35)))) :
    Calls Tryz.prog 102 #[.agg #[.int .i64 2, .bool b, .int .i64 n, .string t, .slice ia is.length ic, .slice ka ks.length kc]] w fun e w' => e = .returned (.bool R) ∧ Below w.heap.size w w' := by
  cases b
  · cases p1
    · cases p2
      · go_enter Tryz.func102, Tryz.ntmps102
        go_wp2_with fail
        go_ret
        exact ⟨by rw [HR.out]; rfl, HB.out⟩
      · cases p3
        · cases p4
          · go_enter Tryz.func102, Tryz.ntmps102
            go_wp2_with fail
            go_ret
            exact ⟨by rw [HR.out]; rfl, HB.out⟩
          · go_enter Tryz.func102, Tryz.ntmps102
            go_wp2_with fail
            go_ret
            exact ⟨by rw [HR.out]; rfl, HB.out⟩
        · go_enter Tryz.func102, Tryz.ntmps102
          go_wp2_with fail
          go_ret
          exact ⟨by rw [HR.out]; rfl, HB.out⟩
    · cases p2
      · go_enter Tryz.func102, Tryz.ntmps102
        go_wp2_with fail
        go_ret
        exact ⟨by rw [HR.out]; rfl, HB.out⟩
      · cases p3
        · cases p4
          · go_enter Tryz.func102, Tryz.ntmps102
            go_wp2_with fail
            go_ret
            exact ⟨by rw [HR.out]; rfl, HB.out⟩
          · go_enter Tryz.func102, Tryz.ntmps102
            go_wp2_with fail
            go_ret
            exact ⟨by rw [HR.out]; rfl, HB.out⟩
        · go_enter Tryz.func102, Tryz.ntmps102
          go_wp2_with fail
          go_ret
          exact ⟨by rw [HR.out]; rfl, HB.out⟩
  · go_enter Tryz.func102, Tryz.ntmps102
    go_wp2_with fail
    go_ret
    exact ⟨by rw [HR.out]; rfl, HB.out⟩
set_option maxHeartbeats 16000000 in
theorem unused_3 (b p1 p2 p3 p4 p5 R : Bool) (n : Int) (t : ByteArray) (is : List V) (ks : List ByteArray) (ia ka : Option Addr) (ic kc : Nat) (w : World) (hi : is.length ≤ 2 ^ 63 - 1) (hl : ks.length ≤ 2 ^ 63 - 1)
    (N1 : (n != 0) = p1) (N2 : t.toList.isEmpty = p2) (N3 : decide (0 < (is.length : Int)) = p3) (M3 : decide (0 < is.length) = p3) (N4 : decide (0 < (ks.length : Int)) = p4) (M4 : decide (0 < ks.length) = p4) (N5 : ((ks.length : Int) != (is.length : Int)) = p5) (M5 : (ks.length != is.length) = p5)
    (HR : Hid (R = ((b && !decide ((3 : Int) = 1)) || (p1 && (!decide ((3 : Int) = 2) && !decide ((3 : Int) = 4))) || (!p2 && !decide ((3 : Int) = 3)) || (p3 && (!decide ((3 : Int) = 5) && !decide ((3 : Int) = 6))) || (p4 && !decide ((3 : Int) = 6)) || (decide ((3 : Int) = 6) && p5))))
    (HB : Hid (Below w.heap.size w (w.alloc (.cells #[.int .i64 3, .bool b, .int .i64 n, .string t, .slice ia is.length ic, .slice ka ks.length kc] 35)))) :
    Calls Tryz.prog 102 #[.agg #[.int .i64 3, .bool b, .int .i64 n, .string t, .slice ia is.length ic, .slice ka ks.length kc]] w fun e w' => e = .returned (.bool R) ∧ Below w.heap.size w w' := by
  cases b
  · cases p1
    · cases p2
      · cases p3
        · cases p4
          · go_enter Tryz.func102, Tryz.ntmps102
            go_wp2_with fail
            go_ret
            exact ⟨by rw [HR.out]; rfl, HB.out⟩
          · go_enter Tryz.func102, Tryz.ntmps102
            go_wp2_with fail
            go_ret
            exact ⟨by rw [HR.out]; rfl, HB.out⟩
        · go_enter Tryz.func102, Tryz.ntmps102
          go_wp2_with fail
          go_ret
          exact ⟨by rw [HR.out]; rfl, HB.out⟩
      · cases p3
        · cases p4
          · go_enter Tryz.func102, Tryz.ntmps102
            go_wp2_with fail
            go_ret
            exact ⟨by rw [HR.out]; rfl, HB.out⟩
          · go_enter Tryz.func102, Tryz.ntmps102
            go_wp2_with fail
            go_ret
            exact ⟨by rw [HR.out]; rfl, HB.out⟩
        · go_enter Tryz.func102, Tryz.ntmps102
          go_wp2_with fail
          go_ret
          exact ⟨by rw [HR.out]; rfl, HB.out⟩
    · go_enter Tryz.func102, Tryz.ntmps102
      go_wp2_with fail
      go_ret
      exact ⟨by rw [HR.out]; rfl, HB.out⟩
  · go_enter Tryz.func102, Tryz.ntmps102
    go_wp2_with fail
    go_ret
    exact ⟨by rw [HR.out]; rfl, HB.out⟩
set_option maxHeartbeats 16000000 in
theorem unused_4 (b p1 p2 p3 p4 p5 R : Bool) (n : Int) (t : ByteArray) (is : List V) (ks : List ByteArray) (ia ka : Option Addr) (ic kc : Nat) (w : World) (hi : is.length ≤ 2 ^ 63 - 1) (hl : ks.length ≤ 2 ^ 63 - 1)
    (N1 : (n != 0) = p1) (N2 : t.toList.isEmpty = p2) (N3 : decide (0 < (is.length : Int)) = p3) (M3 : decide (0 < is.length) = p3) (N4 : decide (0 < (ks.length : Int)) = p4) (M4 : decide (0 < ks.length) = p4) (N5 : ((ks.length : Int) != (is.length : Int)) = p5) (M5 : (ks.length != is.length) = p5)
    (HR : Hid (R = ((b && !decide ((4 : Int) = 1)) || (p1 && (!decide ((4 : Int) = 2) && !decide ((4 : Int) = 4))) || (!p2 && !decide ((4 : Int) = 3)) || (p3 && (!decide ((4 : Int) = 5) && !decide ((4 : Int) = 6))) || (p4 && !decide ((4 : Int) = 6)) || (decide ((4 : Int) = 6) && p5))))
    (HB : Hid (Below w.heap.size w (w.alloc (.cells #[.int .i64 4, .bool b, .int .i64 n, .string t, .slice ia is.length ic, .slice ka ks.length kc] 35)))) :
    Calls Tryz.prog 102 #[.agg #[.int .i64 4, .bool b, .int .i64 n, .string t, .slice ia is.length ic, .slice ka ks.length kc]] w fun e w' => e = .returned (.bool R) ∧ Below w.heap.size w w' := by
  cases b
  · cases p1
    · cases p2
      · go_enter Tryz.func102, Tryz.ntmps102
        go_wp2_with fail
        go_ret
        exact ⟨by rw [HR.out]; rfl, HB.out⟩
      · cases p3
        · cases p4
          · go_enter Tryz.func102, Tryz.ntmps102
            go_wp2_with fail
            go_ret
            exact ⟨by rw [HR.out]; rfl, HB.out⟩
          · go_enter Tryz.func102, Tryz.ntmps102
            go_wp2_with fail
            go_ret
            exact ⟨by rw [HR.out]; rfl, HB.out⟩
        · go_enter Tryz.func102, Tryz.ntmps102
          go_wp2_with fail
          go_ret
          exact ⟨by rw [HR.out]; rfl, HB.out⟩
    · cases p2
      · go_enter Tryz.func102, Tryz.ntmps102
        go_wp2_with fail
        go_ret
        exact ⟨by rw [HR.out]; rfl, HB.out⟩
      · cases p3
        · cases p4
          · go_enter Tryz.func102, Tryz.ntmps102
            go_wp2_with fail
            go_ret
            exact ⟨by rw [HR.out]; rfl, HB.out⟩
          · go_enter Tryz.func102, Tryz.ntmps102
            go_wp2_with fail
            go_ret
            exact ⟨by rw [HR.out]; rfl, HB.out⟩
        · go_enter Tryz.func102, Tryz.ntmps102
          go_wp2_with fail
          go_ret
          exact ⟨by rw [HR.out]; rfl, HB.out⟩
  · go_enter Tryz.func102, Tryz.ntmps102
    go_wp2_with fail
    go_ret
    exact ⟨by rw [HR.out]; rfl, HB.out⟩
set_option maxHeartbeats 16000000 in
theorem unused_5 (b p1 p2 p3 p4 p5 R : Bool) (n : Int) (t : ByteArray) (is : List V) (ks : List ByteArray) (ia ka : Option Addr) (ic kc : Nat) (w : World) (hi : is.length ≤ 2 ^ 63 - 1) (hl : ks.length ≤ 2 ^ 63 - 1)
    (N1 : (n != 0) = p1) (N2 : t.toList.isEmpty = p2) (N3 : decide (0 < (is.length : Int)) = p3) (M3 : decide (0 < is.length) = p3) (N4 : decide (0 < (ks.length : Int)) = p4) (M4 : decide (0 < ks.length) = p4) (N5 : ((ks.length : Int) != (is.length : Int)) = p5) (M5 : (ks.length != is.length) = p5)
    (HR : Hid (R = ((b && !decide ((5 : Int) = 1)) || (p1 && (!decide ((5 : Int) = 2) && !decide ((5 : Int) = 4))) || (!p2 && !decide ((5 : Int) = 3)) || (p3 && (!decide ((5 : Int) = 5) && !decide ((5 : Int) = 6))) || (p4 && !decide ((5 : Int) = 6)) || (decide ((5 : Int) = 6) && p5))))
    (HB : Hid (Below w.heap.size w (w.alloc (.cells #[.int .i64 5, .bool b, .int .i64 n, .string t, .slice ia is.length ic, .slice ka ks.length kc] 35)))) :
    Calls Tryz.prog 102 #[.agg #[.int .i64 5, .bool b, .int .i64 n, .string t, .slice ia is.length ic, .slice ka ks.length kc]] w fun e w' => e = .returned (.bool R) ∧ Below w.heap.size w w' := by
  cases b
  · cases p1
    · cases p2
      · go_enter Tryz.func102, Tryz.ntmps102
        go_wp2_with fail
        go_ret
        exact ⟨by rw [HR.out]; rfl, HB.out⟩
      · cases p3
        · cases p4
          · go_enter Tryz.func102, Tryz.ntmps102
            go_wp2_with fail
            go_ret
            exact ⟨by rw [HR.out]; rfl, HB.out⟩
          · go_enter Tryz.func102, Tryz.ntmps102
            go_wp2_with fail
            go_ret
            exact ⟨by rw [HR.out]; rfl, HB.out⟩
        · cases p4
          · go_enter Tryz.func102, Tryz.ntmps102
            go_wp2_with fail
            go_ret
            exact ⟨by rw [HR.out]; rfl, HB.out⟩
          · go_enter Tryz.func102, Tryz.ntmps102
            go_wp2_with fail
            go_ret
            exact ⟨by rw [HR.out]; rfl, HB.out⟩
    · go_enter Tryz.func102, Tryz.ntmps102
      go_wp2_with fail
      go_ret
      exact ⟨by rw [HR.out]; rfl, HB.out⟩
  · go_enter Tryz.func102, Tryz.ntmps102
    go_wp2_with fail
    go_ret
    exact ⟨by rw [HR.out]; rfl, HB.out⟩
set_option maxHeartbeats 16000000 in
theorem unused_6 (b p1 p2 p3 p4 p5 R : Bool) (n : Int) (t : ByteArray) (is : List V) (ks : List ByteArray) (ia ka : Option Addr) (ic kc : Nat) (w : World) (hi : is.length ≤ 2 ^ 63 - 1) (hl : ks.length ≤ 2 ^ 63 - 1)
    (N1 : (n != 0) = p1) (N2 : t.toList.isEmpty = p2) (N3 : decide (0 < (is.length : Int)) = p3) (M3 : decide (0 < is.length) = p3) (N4 : decide (0 < (ks.length : Int)) = p4) (M4 : decide (0 < ks.length) = p4) (N5 : ((ks.length : Int) != (is.length : Int)) = p5) (M5 : (ks.length != is.length) = p5)
    (HR : Hid (R = ((b && !decide ((6 : Int) = 1)) || (p1 && (!decide ((6 : Int) = 2) && !decide ((6 : Int) = 4))) || (!p2 && !decide ((6 : Int) = 3)) || (p3 && (!decide ((6 : Int) = 5) && !decide ((6 : Int) = 6))) || (p4 && !decide ((6 : Int) = 6)) || (decide ((6 : Int) = 6) && p5))))
    (HB : Hid (Below w.heap.size w (w.alloc (.cells #[.int .i64 6, .bool b, .int .i64 n, .string t, .slice ia is.length ic, .slice ka ks.length kc] 35)))) :
    Calls Tryz.prog 102 #[.agg #[.int .i64 6, .bool b, .int .i64 n, .string t, .slice ia is.length ic, .slice ka ks.length kc]] w fun e w' => e = .returned (.bool R) ∧ Below w.heap.size w w' := by
  cases b
  · cases p1
    · cases p2
      · go_enter Tryz.func102, Tryz.ntmps102
        go_wp2_with fail
        go_ret
        exact ⟨by rw [HR.out]; rfl, HB.out⟩
      · cases p3
        · cases p4
          · cases p5
            · go_enter Tryz.func102, Tryz.ntmps102
              go_wp2_with fail
              go_ret
              exact ⟨by rw [HR.out]; rfl, HB.out⟩
            · go_enter Tryz.func102, Tryz.ntmps102
              go_wp2_with fail
              go_ret
              exact ⟨by rw [HR.out]; rfl, HB.out⟩
          · cases p5
            · go_enter Tryz.func102, Tryz.ntmps102
              go_wp2_with fail
              go_ret
              exact ⟨by rw [HR.out]; rfl, HB.out⟩
            · go_enter Tryz.func102, Tryz.ntmps102
              go_wp2_with fail
              go_ret
              exact ⟨by rw [HR.out]; rfl, HB.out⟩
        · cases p4
          · cases p5
            · go_enter Tryz.func102, Tryz.ntmps102
              go_wp2_with fail
              go_ret
              exact ⟨by rw [HR.out]; rfl, HB.out⟩
            · go_enter Tryz.func102, Tryz.ntmps102
              go_wp2_with fail
              go_ret
              exact ⟨by rw [HR.out]; rfl, HB.out⟩
          · cases p5
            · go_enter Tryz.func102, Tryz.ntmps102
              go_wp2_with fail
              go_ret
              exact ⟨by rw [HR.out]; rfl, HB.out⟩
            · go_enter Tryz.func102, Tryz.ntmps102
              go_wp2_with fail
              go_ret
              exact ⟨by rw [HR.out]; rfl, HB.out⟩
    · go_enter Tryz.func102, Tryz.ntmps102
      go_wp2_with fail
      go_ret
      exact ⟨by rw [HR.out]; rfl, HB.out⟩
  · go_enter Tryz.func102, Tryz.ntmps102
    go_wp2_with fail
    go_ret
    exact ⟨by rw [HR.out]; rfl, HB.out⟩
theorem unused_any (k : Int) (b : Bool) (n : Int) (t : ByteArray) (is : List V) (ks : List ByteArray) (ia ka : Option Addr) (ic kc : Nat) (w : World) (hk : 0 ≤ k ∧ k ≤ 6) (hi : is.length ≤ maxLen) (hl : ks.length ≤ maxLen) :
    Calls Tryz.prog 102 #[.agg #[.int .i64 k, .bool b, .int .i64 n, .string t, .slice ia is.length ic, .slice ka ks.length kc]] w fun e w' => e = .returned (.bool (unusedV (.mk k b n t is ks))) ∧ Below w.heap.size w w' := by
  have hk7 : k = 0 ∨ k = 1 ∨ k = 2 ∨ k = 3 ∨ k = 4 ∨ k = 5 ∨ k = 6 := by omega
  unfold maxLen at hi hl
  obtain ⟨R, hR⟩ : ∃ R, R = unusedV (.mk k b n t is ks) := ⟨_, rfl⟩
  rw [← hR]
  simp only [unusedV] at hR
  have e1 : (!decide (n = 0)) = (n != 0) := by by_cases h : n = 0 <;> simp [h]
  have e2 : (!decide (t.size = 0)) = !t.toList.isEmpty := by
    by_cases h : t.size = 0
    · rw [decide_eq_true h, empty_of h]
    · rw [decide_eq_false h, empty_not h]
  have e3 : decide (0 < is.length) = decide (0 < (is.length : Int)) := decide_eq_decide.2 (by omega)
  have e4 : decide (0 < ks.length) = decide (0 < (ks.length : Int)) := decide_eq_decide.2 (by omega)
  have e5 : (ks.length != is.length) = ((ks.length : Int) != (is.length : Int)) := by
    by_cases h : ks.length = is.length
    · rw [h]; simp
    · rw [bne_iff_ne.2 h]; symm; rw [bne_iff_ne]; omega
  have e6 : (!decide (ks.length = is.length)) = (ks.length != is.length) := by
    by_cases h : ks.length = is.length
    · rw [h]; simp
    · rw [decide_eq_false h, bne_iff_ne.2 h]; rfl
  rw [e1, e2, e6] at hR
  have HB : Hid (Below w.heap.size w (w.alloc (.cells #[.int .i64 k, .bool b, .int .i64 n, .string t, .slice ia is.length ic, .slice ka ks.length kc] 35))) := (Below.refl w.heap.size w).alloc (Nat.le_refl _) _
  rcases hk7 with rfl | rfl | rfl | rfl | rfl | rfl | rfl
  · exact unused_0 b _ _ _ _ _ R n t is ks ia ka ic kc w hi hl rfl rfl e3.symm rfl e4.symm rfl e5.symm rfl hR HB
  · exact unused_1 b _ _ _ _ _ R n t is ks ia ka ic kc w hi hl rfl rfl e3.symm rfl e4.symm rfl e5.symm rfl hR HB
  · exact unused_2 b _ _ _ _ _ R n t is ks ia ka ic kc w hi hl rfl rfl e3.symm rfl e4.symm rfl e5.symm rfl hR HB
  · exact unused_3 b _ _ _ _ _ R n t is ks ia ka ic kc w hi hl rfl rfl e3.symm rfl e4.symm rfl e5.symm rfl hR HB
  · exact unused_4 b _ _ _ _ _ R n t is ks ia ka ic kc w hi hl rfl rfl e3.symm rfl e4.symm rfl e5.symm rfl hR HB
  · exact unused_5 b _ _ _ _ _ R n t is ks ia ka ic kc w hi hl rfl rfl e3.symm rfl e4.symm rfl e5.symm rfl hR HB
  · exact unused_6 b _ _ _ _ _ R n t is ks ia ka ic kc w hi hl rfl rfl e3.symm rfl e4.symm rfl e5.symm rfl hR HB
end Go.Proofs.YtihdfkcoajpmjaaGreatDoor
