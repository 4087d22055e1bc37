/- conf.dayString, DayString, ReadDay, Date, DayOf, Weekday at right days. -/
import Derived.Test.YtkcbnmhdaaokhaaDoorDigs
import Derived.RegionTactic
import Derived.ChangeAlike
import Derived.Outline
namespace Go.Proofs.YtkcbnmhdaaokhaaDoor
open Go.RowKit Mh Mh.Cal
set_option linter.unusedVariables false

theorem badDay_no (n : Int) (w : World) (h0 : 0 ≤ n) (h1 : n ≤ 84005) : Calls Tryd.prog 46 #[.int .i64 n] w fun e w' => e = .returned (.bool false) ∧ w = w' := by
  have q1 : decide (n < 0) = false := decide_eq_false (by omega)
  have q2 : decide (84005 < n) = false := decide_eq_false (by omega)
  go_enter Tryd.func46, Tryd.ntmps46
  go_wp2_with fail
  go_ret
  exact ⟨rfl, rfl⟩
theorem badDay_yes (n : Int) (w : World) (h : n < 0 ∨ 84005 < n) : Calls Tryd.prog 46 #[.int .i64 n] w fun e w' => e = .returned (.bool true) ∧ w = w' := by
  by_cases h0 : n < 0
  · have q1 : decide (n < 0) = true := decide_eq_true h0
    clear h
    go_enter Tryd.func46, Tryd.ntmps46
    go_wp2_with fail
    go_ret
    exact ⟨rfl, rfl⟩
  · have q1 : decide (n < 0) = false := decide_eq_false h0
    have q2 : decide (84005 < n) = true := decide_eq_true (by omega)
    clear h
    go_enter Tryd.func46, Tryd.ntmps46
    go_wp2_with fail
    go_ret
    exact ⟨rfl, rfl⟩

def dayB (y m d : Nat) : ByteArray := ⟨(dayL y m d).toArray⟩
def DayStrP (n : Int) (w : World) (e : Ending) (w' : World) : Prop := ∃ y m d : Nat, Ymd n y m d ∧ e = .returned (.string (dayB y m d)) ∧ Below w.heap.size w w'
theorem dig_size (y k : Nat) : (⟨(digs y k).toArray⟩ : ByteArray).size = k := by
  show (digs y k).toArray.size = k
  simp [digs_length]

set_option maxHeartbeats 1000000 in
theorem dayString_any (n : Int) (w : World) (h0 : 0 ≤ n) (h1 : n ≤ 84005) : Calls Tryd.prog 47 #[.int .i64 n] w (DayStrP n w) := by
  have HD := Lib.hid (date_any n w h0 h1)
  go_enter Tryd.func47, Tryd.ntmps47
  go_wp2_with fail
  refine HD.out.mono ?_
  rintro e w' ⟨y, m, d, hY, rfl, rfl⟩
  obtain ⟨yn, rfl⟩ : ∃ k : Nat, y = k := ⟨y.toNat, by have := hY.y0; omega⟩
  obtain ⟨dn, rfl⟩ : ∃ k : Nat, d = k := ⟨d.toNat, by have := hY.d0; omega⟩
  have hyb : yn ≤ 9999 := by have := hY.y1; omega
  have hmb : m ≤ 9999 := by have := hY.m1; omega
  have hdb : dn ≤ 9999 := by have := hY.d1; have := md_bd yn m; omega
  have HY := Lib.hid hY
  have C4 := Lib.hid (fun w => digits4 yn w hyb)
  have C2 := Lib.hid (fun w => digits2 m w hmb)
  have D2 := Lib.hid (fun w => digits2 dn w hdb)
  have HS : Hid ((⟨(digs yn 4).toArray⟩ : ByteArray) ++ ⟨#[45]⟩ ++ ⟨(digs m 2).toArray⟩ ++ ⟨#[45]⟩ ++ ⟨(digs dn 2).toArray⟩ = dayB yn m dn) := by
    show _ = _
    unfold dayB dayL
    apply ByteArray.ext
    simp
  have z4 : (⟨(digs yn 4).toArray⟩ : ByteArray).size ≤ 4 := Nat.le_of_eq (dig_size _ _)
  have z2 : (⟨(digs m 2).toArray⟩ : ByteArray).size ≤ 2 := Nat.le_of_eq (dig_size _ _)
  have z3 : (⟨(digs dn 2).toArray⟩ : ByteArray).size ≤ 2 := Nat.le_of_eq (dig_size _ _)
  generalize (⟨(digs yn 4).toArray⟩ : ByteArray) = Y at *
  generalize (⟨(digs m 2).toArray⟩ : ByteArray) = M at *
  generalize (⟨(digs dn 2).toArray⟩ : ByteArray) = D at *
  have s1 := fun w => run_string_add_sum (P := Tryd.prog) (w := w) Y ⟨#[45]⟩ (by rw [show (⟨#[45]⟩ : ByteArray).size = 1 from rfl]; omega)
  have s2 := fun w => run_string_add_sum (P := Tryd.prog) (w := w) (Y ++ ⟨#[45]⟩) M (by rw [ByteArray.size_append, show (⟨#[45]⟩ : ByteArray).size = 1 from rfl]; omega)
  have s3 := fun w => run_string_add_sum (P := Tryd.prog) (w := w) (Y ++ ⟨#[45]⟩ ++ M) ⟨#[45]⟩ (by rw [ByteArray.size_append, ByteArray.size_append, show (⟨#[45]⟩ : ByteArray).size = 1 from rfl]; omega)
  have s4 := fun w => run_string_add_sum (P := Tryd.prog) (w := w) (Y ++ ⟨#[45]⟩ ++ M ++ ⟨#[45]⟩) D (by rw [ByteArray.size_append, ByteArray.size_append, ByteArray.size_append, show (⟨#[45]⟩ : ByteArray).size = 1 from rfl]; omega)
  clear hY HD
  go_wp2_with fail
  refine (C4.out _).mono ?_
  rintro e w1 ⟨rfl, hb1⟩
  go_wp2_with fail
  refine (C2.out _).mono ?_
  rintro e w2 ⟨rfl, hb2⟩
  have HB2 := Lib.hid (hb1.trans (hb2.mono hb1.size))
  clear hb1 hb2
  go_wp2_with fail
  refine (D2.out _).mono ?_
  rintro e w3 ⟨rfl, hb3⟩
  have HB3 := Lib.hid (HB2.out.trans (hb3.mono HB2.out.size))
  clear hb3
  go_wp2_with fail
  go_ret
  refine ⟨yn, m, dn, HY.out, ?_, HB3.out⟩
  rw [← HS.out]
  rfl

theorem DayString_any (n : Int) (w : World) (h0 : 0 ≤ n) (h1 : n ≤ 84005) : Calls Tryd.prog 19 #[.int .i64 n] w fun e w' => ∃ y m d : Nat, Ymd n y m d ∧ e = .returned (.tuple #[.string (dayB y m d), .int .i64 0]) ∧ Below w.heap.size w w' := by
  have HD := Lib.hid (dayString_any n w h0 h1)
  go_enter Tryd.func19, Tryd.ntmps19
  go_wp2_with (go_at_call 46; refine (badDay_no _ _ h0 h1).mono ?_; rintro e w' ⟨rfl, rfl⟩)
  refine HD.out.mono ?_
  rintro e w1 ⟨y, m, d, hY, rfl, hb⟩
  have HY := Lib.hid hY
  have HB := Lib.hid hb
  clear hY hb HD
  go_wp2_with fail
  go_ret2
  exact ⟨y, m, d, HY.out, rfl, HB.out⟩
theorem DayString_bad (n : Int) (w : World) (h : n < 0 ∨ 84005 < n) : Calls Tryd.prog 19 #[.int .i64 n] w fun e w' => e = .returned (.tuple #[.string ⟨#[]⟩, .int .i64 2]) ∧ w = w' := by
  have HD := Lib.hid (fun w => badDay_yes n w h)
  clear h
  go_enter Tryd.func19, Tryd.ntmps19
  go_wp2_with (go_at_call 46; refine (HD.out _).mono ?_; rintro e w' ⟨rfl, rfl⟩)
  go_ret2
  exact ⟨rfl, rfl⟩
theorem Date_any (n : Int) (w : World) (h0 : 0 ≤ n) (h1 : n ≤ 84005) : Calls Tryd.prog 21 #[.int .i64 n] w fun e w' => ∃ (y : Int) (m : Nat) (d : Int), Ymd n y m d ∧ e = .returned (.tuple #[.int .i64 y, .int .i64 m, .int .i64 d, .int .i64 0]) ∧ w = w' := by
  have HD := Lib.hid (date_any n w h0 h1)
  go_enter Tryd.func21, Tryd.ntmps21
  go_wp2_with (go_at_call 46; refine (badDay_no _ _ h0 h1).mono ?_; rintro e w' ⟨rfl, rfl⟩)
  refine HD.out.mono ?_
  rintro e w1 ⟨y, m, d, hY, rfl, rfl⟩
  have HY := Lib.hid hY
  clear hY HD
  go_wp2_with fail
  refine bodyPost_ret (v := .tuple #[.int .i64 y, .int .i64 m, .int .i64 d, .int .i64 0]) (by simp [results, Tryd.results21, go_sem]) rfl ?_
  exact ⟨y, m, d, HY.out, rfl, rfl⟩
theorem DayOf_ok (n y : Int) (m : Nat) (d a b c : Int) (w : World) (h : Ymd n y m d) (ha : a = y) (hb : b = m) (hc : c = d) :
    Calls Tryd.prog 22 #[.int .i64 a, .int .i64 b, .int .i64 c] w fun e w' => e = .returned (.tuple #[.int .i64 n, .int .i64 0]) ∧ w = w' := by
  subst ha hb hc
  have HD := Lib.hid (dayOf_ok n a m c w h)
  clear h
  go_enter Tryd.func22, Tryd.ntmps22
  go_wp2_with (go_at_call 50; refine HD.out.mono ?_; rintro e w' ⟨rfl, rfl⟩)
  go_ret2
  exact ⟨rfl, rfl⟩
theorem Weekday_any (n : Int) (w : World) (h0 : 0 ≤ n) (h1 : n ≤ 84005) : Calls Tryd.prog 23 #[.int .i64 n] w fun e w' => e = .returned (.tuple #[.int .i64 ((n + 3) % 7), .int .i64 0]) ∧ w = w' := by
  go_enter Tryd.func23, Tryd.ntmps23
  go_wp2_with (go_at_call 46; refine (badDay_no _ _ h0 h1).mono ?_; rintro e w' ⟨rfl, rfl⟩)
  go_ret2
  exact ⟨rfl, rfl⟩
end Go.Proofs.YtkcbnmhdaaokhaaDoor
