/- conf's calendar: leap, monthDays, yearDays, before, date, dayOf. Conditions: years 1970 to 2200. · conf.date and conf.dayOf: each other's inverse. Conditions: days of 1970 to 2199. · conf.digits at widths 4 and 2; dayString, DayString. Conditions: the number is at most 9999. · conf.badDay, dayString at right days. -/
import Derived.Test.YtejnoedlfbglcaaGreatDoorProg
import Derived.Test.YtejnoedlfbglcaaGreatDoorDayS
import Derived.Outline
import Derived.RegionTactic
import Derived.ChangeAlike
namespace Go.Proofs.YtejnoedlfbglcaaGreatDoor
open Go.RowKit Mh Mh.Cal
set_option linter.unusedVariables false

theorem leap_any (y : Int) (w : World) (h0 : 0 ≤ y) (h1 : y ≤ 10000) : Calls Tryz.prog 135 #[.int .i64 y] w fun e w' => e = .returned (.bool (leapB y)) ∧ w = w' := by
  have key : ∀ b, leapB y = b → Calls Tryz.prog 135 #[.int .i64 y] w fun e w' => e = .returned (.bool b) ∧ w = w' := by
    intro b hb
    by_cases h4 : y % 4 = 0
    · have q4 : (y % 4 == 0) = true := by rw [beq_iff_eq]; exact h4
      by_cases h100 : y % 100 = 0
      · have q100 : (y % 100 != 0) = false := by rw [bne_eq_false_iff_eq]; exact h100
        by_cases h400 : y % 400 = 0
        · have q400 : (y % 400 == 0) = true := by rw [beq_iff_eq]; exact h400
          obtain rfl : b = true := by rw [← hb]; unfold leapB; simp [h4, h400]
          clear hb h4 h100 h400
          go_enter Tryz.func135, Tryz.ntmps135
          go_wp2_with fail
          go_ret
          exact ⟨rfl, rfl⟩
        · have q400 : (y % 400 == 0) = false := by rw [beq_eq_false_iff_ne]; exact h400
          obtain rfl : b = false := by rw [← hb]; unfold leapB; simp [h100, h400]
          clear hb h4 h100 h400
          go_enter Tryz.func135, Tryz.ntmps135
          go_wp2_with fail
          go_ret
          exact ⟨rfl, rfl⟩
      · have q100 : (y % 100 != 0) = true := by rw [bne_iff_ne]; exact h100
        obtain rfl : b = true := by rw [← hb]; unfold leapB; simp [h4, h100]
        clear hb h4 h100
        go_enter Tryz.func135, Tryz.ntmps135
        go_wp2_with fail
        go_ret
        exact ⟨rfl, rfl⟩
    · have q4 : (y % 4 == 0) = false := by rw [beq_eq_false_iff_ne]; exact h4
      obtain rfl : b = false := by rw [← hb]; unfold leapB; simp [h4]
      clear hb h4
      go_enter Tryz.func135, Tryz.ntmps135
      go_wp2_with fail
      go_ret
      exact ⟨rfl, rfl⟩
  exact key _ rfl

theorem yearDays_any (y : Int) (w : World) (h0 : 0 ≤ y) (h1 : y ≤ 10000) : Calls Tryz.prog 116 #[.int .i64 y] w fun e w' => e = .returned (.int .i64 (yd y)) ∧ w = w' := by
  have HL := Lib.hid (leap_any y w h0 h1)
  unfold yd
  cases hl : leapB y with
  | true =>
    rw [hl] at HL
    clear hl
    go_enter Tryz.func116, Tryz.ntmps116
    go_wp2_with (go_at_call 135; refine HL.out.mono ?_; rintro e w' ⟨rfl, rfl⟩)
    go_ret
    exact ⟨rfl, rfl⟩
  | false =>
    rw [hl] at HL
    clear hl
    go_enter Tryz.func116, Tryz.ntmps116
    go_wp2_with (go_at_call 135; refine HL.out.mono ?_; rintro e w' ⟨rfl, rfl⟩)
    go_ret
    exact ⟨rfl, rfl⟩

theorem ret_i64 {a b : Int} (h : a = b) : Ending.returned (.int .i64 a) = .returned (.int .i64 b) := by rw [h]
theorem before_any (y : Int) (w : World) (h0 : 1970 ≤ y) (h1 : y ≤ 10000) : Calls Tryz.prog 115 #[.int .i64 y] w fun e w' => e = .returned (.int .i64 (bef y)) ∧ w = w' := by
  go_enter Tryz.func115, Tryz.ntmps115
  go_wp2_with fail
  go_ret
  exact ⟨ret_i64 (by unfold bef; omega), rfl⟩

theorem monthDays_any (y m : Int) (w : World) (h0 : 0 ≤ y) (h1 : y ≤ 10000) : Calls Tryz.prog 117 #[.int .i64 y, .int .i64 m] w fun e w' => e = .returned (.int .i64 (md y m)) ∧ w = w' := by
  have HL := Lib.hid (leap_any y w h0 h1)
  have key : ∀ n, md y m = n → Calls Tryz.prog 117 #[.int .i64 y, .int .i64 m] w fun e w' => e = .returned (.int .i64 n) ∧ w = w' := by
    intro n hn
    unfold md at hn
    by_cases h2 : m = 2
    · subst h2
      simp only [if_true] at hn
      cases hl : leapB y with
      | true =>
        rw [hl] at HL hn
        obtain rfl : n = 29 := by simpa using hn.symm
        clear hl hn
        go_enter Tryz.func117, Tryz.ntmps117
        go_wp2_with (go_at_call 135; refine HL.out.mono ?_; rintro e w' ⟨rfl, rfl⟩)
        go_ret
        exact ⟨rfl, rfl⟩
      | false =>
        rw [hl] at HL hn
        obtain rfl : n = 28 := by simpa using hn.symm
        clear hl hn
        go_enter Tryz.func117, Tryz.ntmps117
        go_wp2_with (go_at_call 135; refine HL.out.mono ?_; rintro e w' ⟨rfl, rfl⟩)
        go_ret
        exact ⟨rfl, rfl⟩
    · rw [if_neg h2] at hn
      have q2 : (m == 2) = false := by rw [beq_eq_false_iff_ne]; exact h2
      by_cases h : m = 4 ∨ m = 6 ∨ m = 9 ∨ m = 11
      · rw [if_pos h] at hn
        subst hn
        clear h2 q2 HL
        rcases h with rfl | rfl | rfl | rfl
        all_goals
          go_enter Tryz.func117, Tryz.ntmps117
          go_wp2_with fail
          go_ret
          exact ⟨rfl, rfl⟩
      · rw [if_neg h] at hn
        subst hn
        have q4 : (m == 4) = false := by rw [beq_eq_false_iff_ne]; omega
        have q6 : (m == 6) = false := by rw [beq_eq_false_iff_ne]; omega
        have q9 : (m == 9) = false := by rw [beq_eq_false_iff_ne]; omega
        have q11 : (m == 11) = false := by rw [beq_eq_false_iff_ne]; omega
        clear h h2 HL
        go_enter Tryz.func117, Tryz.ntmps117
        go_wp2_with fail
        go_ret
        exact ⟨rfl, rfl⟩
  exact key _ rfl
end Go.Proofs.YtejnoedlfbglcaaGreatDoor
namespace Go.Proofs.YtejnoedlfbglcaaGreatDoor
open Go.RowKit Mh Mh.Cal
set_option linter.unusedVariables false

def DateP (n : Int) (w : World) (e : Ending) (w' : World) : Prop := ∃ (y : Int) (m : Nat) (d : Int), Ymd n y m d ∧ e = .returned (.tuple #[.int .i64 y, .int .i64 m, .int .i64 d]) ∧ w = w'

set_option maxHeartbeats 1000000 in
theorem date_any (n : Int) (w : World) (h0 : 0 ≤ n) (h1 : n ≤ 84005) : Calls Tryz.prog 97 #[.int .i64 n] w (DateP n w) := by
  have g := bef_guess n h0 h1
  have hq : 0 ≤ n / 366 := Int.ediv_nonneg h0 (by omega)
  go_enter Tryz.func97, Tryz.ntmps97
  go_wp2_with fail
  go_loop [2] (fun t => ∃ y : Int, 1970 ≤ y ∧ y ≤ 2199 ∧ bef y ≤ n ∧ t = .int .i64 y) (fun t => (2200 - intOf t).toNat)
  case atStart => exact ⟨1970 + n / 366, by omega, g.2, g.1, rfl⟩
  case round =>
    clear g hq
    obtain ⟨y, hy0, hy1, hb, rfl⟩ := hrel
    have hs := bef_succ y
    have hbb := bef_bd y hy0 (by omega)
    have hyb := yd_bd y
    by_cases hc : bef y + yd y ≤ n
    · have hy2 : y + 1 ≤ 2199 := by
        by_cases e : y = 2199
        · exfalso
          rw [e] at hs hc
          have h2 : bef (2199 + 1) = 84006 := by decide
          omega
        · omega
      clear hs
      go_wp2_with (first | (go_at_call 115; refine (before_any _ _ hy0 (by omega)).mono ?_; rintro e w' ⟨rfl, rfl⟩) | (go_at_call 116; refine (yearDays_any _ _ (by omega) (by omega)).mono ?_; rintro e w' ⟨rfl, rfl⟩))
      go_round
      case rel => exact ⟨y + 1, by omega, by omega, by have := bef_succ y; omega, rfl⟩
      case measure => simp [intOf]; omega
    · have hc2 : n < bef y + yd y := by omega
      clear hs hc
      go_wp2_with (first | (go_at_call 115; refine (before_any _ _ hy0 (by omega)).mono ?_; rintro e w' ⟨rfl, rfl⟩) | (go_at_call 116; refine (yearDays_any _ _ (by omega) (by omega)).mono ?_; rintro e w' ⟨rfl, rfl⟩))
      go_loop [0, 3] (fun r t => ∃ m : Nat, 1 ≤ m ∧ m ≤ 12 ∧ t = .int .i64 m ∧ 0 ≤ n - bef y - cum y m ∧ r = .int .i64 (n - bef y - cum y m)) (fun _ t => (13 - intOf t).toNat)
      case atStart => exact ⟨1, by omega, by omega, rfl, by rw [cum_one]; omega, by rw [cum_one]; simp⟩
      case round =>
        obtain ⟨m, hm0, hm1, rfl, hr, rfl⟩ := hrel
        have hmb := md_bd y m
        have hcb := cum_bd y m
        by_cases hd : md y m ≤ n - bef y - cum y m
        · have hm2 : m + 1 ≤ 12 := by
            by_cases e : m = 12
            · exfalso
              subst e
              have h13 := cum_13 y
              have hs12 := cum_succ y 12 (by omega)
              have : cum y (12 + 1) = cum y 13 := rfl
              omega
            · omega
          go_wp2_with (go_at_call 117; refine (monthDays_any _ _ _ (by omega) (by omega)).mono ?_; rintro e w' ⟨rfl, rfl⟩)
          go_round
          case rel => exact ⟨m + 1, by omega, hm2, by go_num, by rw [cum_succ y m hm0]; omega, by rw [cum_succ y m hm0]; go_num⟩
          case measure => simp [intOf]; omega
        · have hd2 : n - bef y - cum y m < md y m := by omega
          clear hd
          go_wp2_with (go_at_call 117; refine (monthDays_any _ _ _ (by omega) (by omega)).mono ?_; rintro e w' ⟨rfl, rfl⟩)
          go_ret3
          exact ⟨y, m, n - bef y - cum y m + 1, ⟨hy0, hy1, hm0, hm1, by omega, by omega, by omega⟩, rfl, rfl⟩

set_option maxHeartbeats 1000000 in
theorem dayOf_ok (n y : Int) (m : Nat) (d : Int) (w : World) (h : Ymd n y m d) :
    Calls Tryz.prog 119 #[.int .i64 y, .int .i64 m, .int .i64 d] w fun e w' => e = .returned (.tuple #[.int .i64 n, .bool true]) ∧ w = w' := by
  obtain ⟨hy0, hy1, hm0, hm1, hd0, hd1, he⟩ := h
  have hb := bef_bd y hy0 (by omega)
  have hmb := md_bd y m
  have HE := Lib.hid he
  clear he
  go_enter Tryz.func119, Tryz.ntmps119
  go_wp2_with (first | (go_at_call 117; refine (monthDays_any _ _ _ (by omega) (by omega)).mono ?_; rintro e w' ⟨rfl, rfl⟩) | (go_at_call 115; refine (before_any _ _ hy0 (by omega)).mono ?_; rintro e w' ⟨rfl, rfl⟩))
  go_loop [8, 9] (fun s t => ∃ k : Nat, 1 ≤ k ∧ k ≤ m ∧ t = .int .i64 k ∧ s = .int .i64 (bef y + d - 1 + cum y k)) (fun _ t => (m - (intOf t).toNat))
  case atStart => exact ⟨1, by omega, hm0, rfl, by rw [cum_one]; simp⟩
  case round =>
    obtain ⟨k, hk0, hk1, rfl, rfl⟩ := hrel
    have hkb := md_bd y k
    have hcb := cum_bd y k
    by_cases hkm : k < m
    · go_wp2_with (go_at_call 117; refine (monthDays_any _ _ _ (by omega) (by omega)).mono ?_; rintro e w' ⟨rfl, rfl⟩)
      go_round
      case rel => exact ⟨k + 1, by omega, by omega, by go_num, by rw [cum_succ y k hk0]; go_num⟩
      case measure => simp [intOf]; omega
    · obtain rfl : k = m := by omega
      go_wp2_with fail
      go_ret2
      refine ⟨?_, rfl⟩
      have h2 : bef y + d - 1 + cum y k = n := by have := HE.out; omega
      show Ending.returned (.tuple #[.int .i64 (bef y + d - 1 + cum y k), .bool true]) = _
      rw [h2]
end Go.Proofs.YtejnoedlfbglcaaGreatDoor
namespace Go.Proofs.YtejnoedlfbglcaaGreatDoor
open Go.RowKit Mh Mh.Cal
set_option linter.unusedVariables false

theorem byteI (k : Nat) (z : Int) (h : z = k) : UInt8.ofNat z.toNat = UInt8.ofNat k := by subst h; rfl
theorem digs2_nums (y : Nat) : strOfNums [48 + (y : Int) / 10 % 10, 48 + (y : Int) % 10] = ⟨(digs y 2).toArray⟩ := by
  rw [digs2]
  simp only [strOfNums, List.map_cons, List.map_nil]
  rw [← byteI (48 + y / 10 % 10) (48 + (y : Int) / 10 % 10) rfl, ← byteI (48 + y % 10) (48 + (y : Int) % 10) rfl]
theorem digs4_nums (y : Nat) : strOfNums [48 + (y : Int) / 10 / 10 / 10 % 10, 48 + (y : Int) / 10 / 10 % 10, 48 + (y : Int) / 10 % 10, 48 + (y : Int) % 10] = ⟨(digs y 4).toArray⟩ := by
  have e : digs y 4 = [UInt8.ofNat (48 + y / 10 / 10 / 10 % 10), UInt8.ofNat (48 + y / 10 / 10 % 10), UInt8.ofNat (48 + y / 10 % 10), UInt8.ofNat (48 + y % 10)] := rfl
  rw [e]
  simp only [strOfNums, List.map_cons, List.map_nil]
  rw [← byteI (48 + y / 10 / 10 / 10 % 10) (48 + (y : Int) / 10 / 10 / 10 % 10) rfl, ← byteI (48 + y / 10 / 10 % 10) (48 + (y : Int) / 10 / 10 % 10) rfl, ← byteI (48 + y / 10 % 10) (48 + (y : Int) / 10 % 10) rfl, ← byteI (48 + y % 10) (48 + (y : Int) % 10) rfl]
theorem four_cells (a b c d : Int) (k : Nat) (h : k < 4) : (#[Value.int .u8 a, .int .u8 b, .int .u8 c, .int .u8 d] : Array Value)[k]? = some (.int .u8 ([a, b, c, d].getD k 0)) := by
  match k, h with
  | 0, _ => rfl
  | 1, _ => rfl
  | 2, _ => rfl
  | 3, _ => rfl

set_option maxRecDepth 100000 in
theorem digits2 (y : Nat) (w : World) (h : y ≤ 9999) : Calls Tryz.prog 98 #[.int .i64 y, .int .i64 2] w fun e w' => e = .returned (.string ⟨(digs y 2).toArray⟩) ∧ Below w.heap.size w w' := by
  have hmk : ∀ w : World, (Instr.makeSlice 63 (.int .i64 2) (.int .i64 2)).run Tryz.prog w = .ok (.slice (some ⟨w.heap.size, 0, none⟩) 2 2) (w.alloc (.cells #[.int .u8 0, .int .u8 0] 5)) := fun _ => by kernel_rfl
  have hcv := run_convert_bytes_arg (P := Tryz.prog) (w.alloc (.cells #[.int .u8 (48 + (y : Int) / 10 % 10), .int .u8 (48 + (y : Int) % 10)] 5)) 63 5 Tryz.underlying63 Tryz.underlying5 w.heap.size 0 2 2 [48 + (y : Int) / 10 % 10, 48 + (y : Int) % 10] rfl
    (fun i hi => by rw [Nat.zero_add]; match i, hi with | 0, _ => exact cellT (heap_alloc_new _ _) rfl | 1, _ => exact cellT (heap_alloc_new _ _) rfl) 9 Tryz.underlying9
  rw [digs2_nums] at hcv
  generalize (⟨(digs y 2).toArray⟩ : ByteArray) = S at *
  go_enter Tryz.func98, Tryz.ntmps98
  go_wp2_with fail
  refine wp_loop_rounds 3 ?_
  rw [rounds_succ]
  go_wp2_with fail
  rw [rounds_succ]
  go_wp2_with fail
  rw [rounds_succ]
  go_wp2_with fail
  go_ret
  exact ⟨rfl, (Below.refl _ _).alloc (Nat.le_refl _) _⟩

set_option maxRecDepth 100000 in
theorem digits4 (y : Nat) (w : World) (h : y ≤ 9999) : Calls Tryz.prog 98 #[.int .i64 y, .int .i64 4] w fun e w' => e = .returned (.string ⟨(digs y 4).toArray⟩) ∧ Below w.heap.size w w' := by
  have hmk : ∀ w : World, (Instr.makeSlice 63 (.int .i64 4) (.int .i64 4)).run Tryz.prog w = .ok (.slice (some ⟨w.heap.size, 0, none⟩) 4 4) (w.alloc (.cells #[.int .u8 0, .int .u8 0, .int .u8 0, .int .u8 0] 5)) := fun _ => by kernel_rfl
  have hcv := run_convert_bytes_arg (P := Tryz.prog) (w.alloc (.cells #[.int .u8 (48 + (y : Int) / 10 / 10 / 10 % 10), .int .u8 (48 + (y : Int) / 10 / 10 % 10), .int .u8 (48 + (y : Int) / 10 % 10), .int .u8 (48 + (y : Int) % 10)] 5)) 63 5 Tryz.underlying63 Tryz.underlying5 w.heap.size 0 4 4 [48 + (y : Int) / 10 / 10 / 10 % 10, 48 + (y : Int) / 10 / 10 % 10, 48 + (y : Int) / 10 % 10, 48 + (y : Int) % 10] rfl
    (fun i hi => by rw [Nat.zero_add]; match i, hi with | 0, _ => exact cellT (heap_alloc_new _ _) rfl | 1, _ => exact cellT (heap_alloc_new _ _) rfl | 2, _ => exact cellT (heap_alloc_new _ _) rfl | 3, _ => exact cellT (heap_alloc_new _ _) rfl) 9 Tryz.underlying9
  rw [digs4_nums] at hcv
  generalize (⟨(digs y 4).toArray⟩ : ByteArray) = S at *
  go_enter Tryz.func98, Tryz.ntmps98
  go_wp2_with fail
  refine wp_loop_rounds 5 ?_
  rw [rounds_succ]
  go_wp2_with fail
  rw [rounds_succ]
  go_wp2_with fail
  rw [rounds_succ]
  go_wp2_with fail
  rw [rounds_succ]
  go_wp2_with fail
  rw [rounds_succ]
  go_wp2_with fail
  go_ret
  exact ⟨rfl, (Below.refl _ _).alloc (Nat.le_refl _) _⟩
end Go.Proofs.YtejnoedlfbglcaaGreatDoor
namespace Go.Proofs.YtejnoedlfbglcaaGreatDoor
open Go.RowKit Mh Mh.Cal
set_option linter.unusedVariables false

theorem badDay_no (n : Int) (w : World) (h0 : 0 ≤ n) (h1 : n ≤ 84005) : Calls Tryz.prog 74 #[.int .i64 n] w fun e w' => e = .returned (.bool false) ∧ w = w' := by
  have q1 : decide (n < 0) = false := decide_eq_false (by omega)
  have q2 : decide (84005 < n) = false := decide_eq_false (by omega)
  go_enter Tryz.func74, Tryz.ntmps74
  go_wp2_with fail
  go_ret
  exact ⟨rfl, rfl⟩
theorem badDay_yes (n : Int) (w : World) (h : n < 0 ∨ 84005 < n) : Calls Tryz.prog 74 #[.int .i64 n] w fun e w' => e = .returned (.bool true) ∧ w = w' := by
  by_cases h0 : n < 0
  · have q1 : decide (n < 0) = true := decide_eq_true h0
    clear h
    go_enter Tryz.func74, Tryz.ntmps74
    go_wp2_with fail
    go_ret
    exact ⟨rfl, rfl⟩
  · have q1 : decide (n < 0) = false := decide_eq_false h0
    have q2 : decide (84005 < n) = true := decide_eq_true (by omega)
    clear h
    go_enter Tryz.func74, Tryz.ntmps74
    go_wp2_with fail
    go_ret
    exact ⟨rfl, rfl⟩

def dayB (y m d : Nat) : ByteArray := ⟨(dayL y m d).toArray⟩
def DayStrP (n : Int) (w : World) (e : Ending) (w' : World) : Prop := ∃ y m d : Nat, Ymd n y m d ∧ e = .returned (.string (dayB y m d)) ∧ Below w.heap.size w w'
theorem dig_size (y k : Nat) : (⟨(digs y k).toArray⟩ : ByteArray).size = k := by
  show (digs y k).toArray.size = k
  simp [digs_length]

set_option maxHeartbeats 1000000 in
theorem dayString_any (n : Int) (w : World) (h0 : 0 ≤ n) (h1 : n ≤ 84005) : Calls Tryz.prog 85 #[.int .i64 n] w (DayStrP n w) := by
  have HD := Lib.hid (date_any n w h0 h1)
  go_enter Tryz.func85, Tryz.ntmps85
  go_wp2_with fail
  refine HD.out.mono ?_
  rintro e w' ⟨y, m, d, hY, rfl, rfl⟩
  obtain ⟨yn, rfl⟩ : ∃ k : Nat, y = k := ⟨y.toNat, by have := hY.y0; omega⟩
  obtain ⟨dn, rfl⟩ : ∃ k : Nat, d = k := ⟨d.toNat, by have := hY.d0; omega⟩
  have hyb : yn ≤ 9999 := by have := hY.y1; omega
  have hmb : m ≤ 9999 := by have := hY.m1; omega
  have hdb : dn ≤ 9999 := by have := hY.d1; have := md_bd yn m; omega
  have HY := Lib.hid hY
  have C4 := Lib.hid (fun w => digits4 yn w hyb)
  have C2 := Lib.hid (fun w => digits2 m w hmb)
  have D2 := Lib.hid (fun w => digits2 dn w hdb)
  have HS : Hid ((⟨(digs yn 4).toArray⟩ : ByteArray) ++ ⟨#[45]⟩ ++ ⟨(digs m 2).toArray⟩ ++ ⟨#[45]⟩ ++ ⟨(digs dn 2).toArray⟩ = dayB yn m dn) := by
    show _ = _
    unfold dayB dayL
    apply ByteArray.ext
    simp
  have z4 : (⟨(digs yn 4).toArray⟩ : ByteArray).size ≤ 4 := Nat.le_of_eq (dig_size _ _)
  have z2 : (⟨(digs m 2).toArray⟩ : ByteArray).size ≤ 2 := Nat.le_of_eq (dig_size _ _)
  have z3 : (⟨(digs dn 2).toArray⟩ : ByteArray).size ≤ 2 := Nat.le_of_eq (dig_size _ _)
  generalize (⟨(digs yn 4).toArray⟩ : ByteArray) = Y at *
  generalize (⟨(digs m 2).toArray⟩ : ByteArray) = M at *
  generalize (⟨(digs dn 2).toArray⟩ : ByteArray) = D at *
  have s1 := fun w => run_string_add_sum (P := Tryz.prog) (w := w) Y ⟨#[45]⟩ (by rw [show (⟨#[45]⟩ : ByteArray).size = 1 from rfl]; omega)
  have s2 := fun w => run_string_add_sum (P := Tryz.prog) (w := w) (Y ++ ⟨#[45]⟩) M (by rw [ByteArray.size_append, show (⟨#[45]⟩ : ByteArray).size = 1 from rfl]; omega)
  have s3 := fun w => run_string_add_sum (P := Tryz.prog) (w := w) (Y ++ ⟨#[45]⟩ ++ M) ⟨#[45]⟩ (by rw [ByteArray.size_append, ByteArray.size_append, show (⟨#[45]⟩ : ByteArray).size = 1 from rfl]; omega)
  have s4 := fun w => run_string_add_sum (P := Tryz.prog) (w := w) (Y ++ ⟨#[45]⟩ ++ M ++ ⟨#[45]⟩) D (by rw [ByteArray.size_append, ByteArray.size_append, ByteArray.size_append, show (⟨#[45]⟩ : ByteArray).size = 1 from rfl]; omega)
  clear hY HD
  go_wp2_with fail
  refine (C4.out _).mono ?_
  rintro e w1 ⟨rfl, hb1⟩
  go_wp2_with fail
  refine (C2.out _).mono ?_
  rintro e w2 ⟨rfl, hb2⟩
  have HB2 := Lib.hid (hb1.trans (hb2.mono hb1.size))
  clear hb1 hb2
  go_wp2_with fail
  refine (D2.out _).mono ?_
  rintro e w3 ⟨rfl, hb3⟩
  have HB3 := Lib.hid (HB2.out.trans (hb3.mono HB2.out.size))
  clear hb3
  go_wp2_with fail
  go_ret
  refine ⟨yn, m, dn, HY.out, ?_, HB3.out⟩
  rw [← HS.out]
  rfl
end Go.Proofs.YtejnoedlfbglcaaGreatDoor
