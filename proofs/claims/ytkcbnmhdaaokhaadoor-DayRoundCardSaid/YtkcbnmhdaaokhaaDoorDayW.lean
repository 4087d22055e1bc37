/- DayRound: the walk. Conditions: none. -/
import Derived.Test.YtkcbnmhdaaokhaaDoorReadDay
import Derived.Test.YtkcbnmhdaaokhaaDoorAwC3
import Derived.Outline
namespace Go.Proofs.YtkcbnmhdaaokhaaDoor.LDay
open Go.ChangeShapes Go.WideShapes Go.ChangeAt Go.RowKit Mh Mh.Cal
open Go.ChangeMaps (open_string shut_string)
set_option linter.unusedVariables false


theorem walk_bad (n : Int) (w : World) (h : n < 0 ∨ 84005 < n) :
    Calls Tryd.prog 6 #[.int .i64 n] w fun e w' => e = .returned (.bool true) ∧ Below w.heap.size w w' := by
  have HP := Lib.hid (fun w' => DayString_bad n w' h)
  have q : decide (n < 0) = true ∨ (decide (n < 0) = false ∧ decide (84005 < n) = true) := by
    by_cases h0 : n < 0
    · exact .inl (decide_eq_true h0)
    · exact .inr ⟨decide_eq_false h0, decide_eq_true (by omega)⟩
  clear h
  rcases q with q | ⟨q, q2⟩
  all_goals
    go_enter Tryd.func6, Tryd.ntmps6
    go_wp2_with fail
    refine (awakeConf_any _).mono ?_
    rintro e w1 ⟨rfl, hb1⟩
    go_wp2_with fail
    refine (HP.out _).mono ?_
    rintro e w2 ⟨rfl, rfl⟩
    go_wp2_with fail
    go_ret
    exact ⟨rfl, hb1⟩

set_option maxRecDepth 100000 in
set_option maxHeartbeats 1000000 in
theorem walk_ok (n : Int) (w : World) (h0 : 0 ≤ n) (h1 : n ≤ 84005) :
    Calls Tryd.prog 6 #[.int .i64 n] w fun e w' => e = .returned (.bool true) ∧ Below w.heap.size w w' := by
  have HS := Lib.hid (fun w' => DayString_any n w' h0 h1)
  have HD := Lib.hid (fun w' => Date_any n w' h0 h1)
  have HW := Lib.hid (fun w' => Weekday_any n w' h0 h1)
  have q : (n == n) = true := by simp
  go_enter Tryd.func6, Tryd.ntmps6
  go_wp2_with fail
  refine (awakeConf_any _).mono ?_
  rintro e w1 ⟨rfl, hb1⟩
  go_wp2_with fail
  refine (HS.out _).mono ?_
  rintro e w2 ⟨y, m, d, hY, rfl, hb2⟩
  have HR := Lib.hid (fun w' => readDay_ok n y m d w' hY)
  have HB2 := Lib.hid (hb1.trans (hb2.mono hb1.size))
  clear hY hb1 hb2
  generalize dayB y m d = s at *
  go_wp2_with fail
  refine (HR.out _).mono ?_
  rintro e w3 ⟨rfl, hb3⟩
  have HB3 := Lib.hid (HB2.out.trans (hb3.mono HB2.out.size))
  clear hb3
  go_wp2_with fail
  refine (HD.out _).mono ?_
  rintro e w4 ⟨y2, m2, d2, hY2, rfl, rfl⟩
  have HO := Lib.hid (fun w' => DayOf_ok n y2 m2 d2 _ _ _ w' hY2 rfl rfl rfl)
  clear hY2
  go_wp2_with fail
  refine (HO.out _).mono ?_
  rintro e w5 ⟨rfl, rfl⟩
  go_wp2_with fail
  refine (HW.out _).mono ?_
  rintro e w6 ⟨rfl, rfl⟩
  have q2 : ((n + 3) % 7 == (n + 3) % 7) = true := by simp
  go_wp2_with fail
  go_ret
  exact ⟨rfl, HB3.out⟩

theorem walk (n : Int) (w : World) : Calls Tryd.prog 6 #[.int .i64 n] w fun e w' => e = .returned (.bool true) ∧ Below w.heap.size w w' := by
  by_cases h : n < 0 ∨ 84005 < n
  · exact walk_bad n w h
  · exact walk_ok n w (by omega) (by omega)

end Go.Proofs.YtkcbnmhdaaokhaaDoor.LDay
