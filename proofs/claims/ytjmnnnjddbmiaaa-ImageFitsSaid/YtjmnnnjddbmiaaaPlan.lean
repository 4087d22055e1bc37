/- asset.Plan where it succeeds. No conditions beyond those named. -/
import Derived.Test.YtjmnnnjddbmiaaaPlanE
import Derived.RegionTactic
import Derived.BigRegion
namespace Go.Proofs.Ytjmnnnjddbmiaaa
open Go.RowKit Mh
set_option linter.unusedVariables false

theorem plan_g2 (W H ww wh : Int) (w : World) (h0 : sideB W = true) (h1 : sideB H = true) (h2 : sideB ww = true) (h3 : sideB wh = true) :
    Calls Try.prog 9 #[.int .i64 W, .int .i64 H, .agg #[.int .i64 2, .int .i64 ww, .int .i64 wh]] w (PlanPost W H w) := by
  have bW := sideB_yes h0
  have bH := sideB_yes h1
  have bw := sideB_yes h2
  have bh := sideB_yes h3
  have pb := mul_bd bH.1 bH.2 (show 0 ≤ min ww W by omega) (by omega)
  go_enter Try.func9, Try.ntmps9
  go_wp2_with (go_at_call 22; refine (isSide_any _ _).mono ?_; rintro e w' ⟨rfl, rfl⟩)
  go_region
  all_goals go_wp2_with fail
  refine (rounded_any _ _ _ pb.1 pb.2 bW.1 bW.2).mono ?_
  rintro e w1 ⟨rfl, rfl⟩
  go_wp2_with fail
  refine (filled_any _ _ _ _ _ bW.1 bW.2 bH.1 bH.2 (by omega) (by omega) (by omega) (by omega)).mono ?_
  rintro e w2 ⟨X, Y, cw, ch, rfl, hb, hok⟩
  obtain ⟨hc, hf⟩ := bcell hb
  have hz := hb.size
  simp at hz
  have HB := Lib.hid hb
  have HOK := Lib.hid hok
  clear hok hb
  unfold cutV
  go_wp2_with fail
  refine bodyPost_ret (v := .tuple #[cutV X Y cw ch (min ww W) (min wh H), .int .i64 0]) ?_ rfl ⟨X, Y, cw, ch, _, _, 0, rfl, ?_, .inr ⟨rfl, HOK.out⟩⟩
  · simp [results, Try.results9, go_sem, cutV, hc]
  · refine Below.setCell (Below.setCell (Below.setCell (Below.setCell (Below.setCell (Below.setCell ?_ ?_ _) ?_ _) ?_ _) ?_ _) ?_ _) ?_ _
    · exact Below.trans (by go_grown) (HB.out.mono (by simp; omega))
    all_goals simp

theorem rounded_le {a h b : Int} (ha : 1 ≤ a) (h0 : 0 ≤ h) (hb : h ≤ b) (hb1 : 1 ≤ b) : 1 ≤ roundedI (a * h) b ∧ roundedI (a * h) b ≤ a := by
  have h1 : a * h ≤ a * b := Int.mul_le_mul_of_nonneg_left hb (by omega)
  have h2 : (2 * (a * h) + b) / (2 * b) < a + 1 := by
    apply Int.ediv_lt_of_lt_mul (by omega)
    have e : a * (2 * b) = 2 * (a * b) := Int.mul_left_comm _ _ _
    rw [Int.add_mul, Int.one_mul, e]
    omega
  unfold roundedI
  omega

theorem plan_g1a (W H ww wh : Int) (w : World) (h0 : sideB W = true) (h1 : sideB H = true) (h2 : sideB ww = true) (h3 : sideB wh = true) (h4 : roundedI (H * min ww W) W ≤ min wh H) :
    Calls Try.prog 9 #[.int .i64 W, .int .i64 H, .agg #[.int .i64 1, .int .i64 ww, .int .i64 wh]] w (PlanPost W H w) := by
  have bW := sideB_yes h0
  have bH := sideB_yes h1
  have bw := sideB_yes h2
  have bh := sideB_yes h3
  have pb := mul_bd bH.1 bH.2 (show 0 ≤ min ww W by omega) (by omega)
  have qb := mul_bd bW.1 bW.2 (show 0 ≤ min wh H by omega) (by omega)
  have r := rounded_le bH.1 (show 0 ≤ min ww W by omega) (show min ww W ≤ W by omega) bW.1
  have hd : decide (roundedI (H * min ww W) W ≤ min wh H) = true := by simpa using h4
  have HOK : Hid (CutOk W H 0 0 W H (min ww W) (roundedI (H * min ww W) W)) := ⟨bW.1, bW.2, bH.1, bH.2, by omega, by omega, by omega, by omega, by omega, by omega, r.1, r.2⟩
  go_enter Try.func9, Try.ntmps9
  go_wp2_with (go_at_call 22; refine (isSide_any _ _).mono ?_; rintro e w' ⟨rfl, rfl⟩)
  go_region
  all_goals go_wp2_with fail
  refine (rounded_any _ _ _ pb.1 pb.2 bW.1 bW.2).mono ?_
  rintro e w1 ⟨rfl, rfl⟩
  go_wp2_with fail
  refine bodyPost_ret (v := .tuple #[cutV 0 0 W H (min ww W) (roundedI (H * min ww W) W), .int .i64 0]) ?_ rfl ⟨_, _, _, _, _, _, 0, rfl, ?_, .inr ⟨rfl, HOK.out⟩⟩
  · simp [results, Try.results9, go_sem, cutV]
  · go_grown

theorem plan_g1b (W H ww wh : Int) (w : World) (h0 : sideB W = true) (h1 : sideB H = true) (h2 : sideB ww = true) (h3 : sideB wh = true) (h4 : ¬ roundedI (H * min ww W) W ≤ min wh H) :
    Calls Try.prog 9 #[.int .i64 W, .int .i64 H, .agg #[.int .i64 1, .int .i64 ww, .int .i64 wh]] w (PlanPost W H w) := by
  have bW := sideB_yes h0
  have bH := sideB_yes h1
  have bw := sideB_yes h2
  have bh := sideB_yes h3
  have pb := mul_bd bH.1 bH.2 (show 0 ≤ min ww W by omega) (by omega)
  have qb := mul_bd bW.1 bW.2 (show 0 ≤ min wh H by omega) (by omega)
  have r := rounded_le bW.1 (show 0 ≤ min wh H by omega) (show min wh H ≤ H by omega) bH.1
  have hd : decide (roundedI (H * min ww W) W ≤ min wh H) = false := by simpa using h4
  have HOK : Hid (CutOk W H 0 0 W H (roundedI (W * min wh H) H) (min wh H)) := ⟨bW.1, bW.2, bH.1, bH.2, by omega, by omega, by omega, by omega, r.1, r.2, by omega, by omega⟩
  go_enter Try.func9, Try.ntmps9
  go_wp2_with (go_at_call 22; refine (isSide_any _ _).mono ?_; rintro e w' ⟨rfl, rfl⟩)
  go_region
  all_goals go_wp2_with fail
  refine (rounded_any _ _ _ pb.1 pb.2 bW.1 bW.2).mono ?_
  rintro e w1 ⟨rfl, rfl⟩
  go_wp2_with fail
  refine (rounded_any _ _ _ qb.1 qb.2 bH.1 bH.2).mono ?_
  rintro e w1 ⟨rfl, rfl⟩
  go_wp2_with fail
  refine bodyPost_ret (v := .tuple #[cutV 0 0 W H (roundedI (W * min wh H) H) (min wh H), .int .i64 0]) ?_ rfl ⟨_, _, _, _, _, _, 0, rfl, ?_, .inr ⟨rfl, HOK.out⟩⟩
  · simp [results, Try.results9, go_sem, cutV]
  · go_grown

theorem plan_g3 (W H ww wh : Int) (w : World) (h0 : sideB W = true) (h1 : sideB H = true) (h2 : sideB ww = true) (h3 : (wh != 0) = false) :
    Calls Try.prog 9 #[.int .i64 W, .int .i64 H, .agg #[.int .i64 3, .int .i64 ww, .int .i64 wh]] w (PlanPost W H w) := by
  have bW := sideB_yes h0
  have bH := sideB_yes h1
  have bw := sideB_yes h2
  have pb := mul_bd bH.1 bH.2 (show 0 ≤ min ww W by omega) (by omega)
  have r := rounded_le bH.1 (show 0 ≤ min ww W by omega) (show min ww W ≤ W by omega) bW.1
  have HOK : Hid (CutOk W H 0 0 W H (min ww W) (roundedI (H * min ww W) W)) := ⟨bW.1, bW.2, bH.1, bH.2, by omega, by omega, by omega, by omega, by omega, by omega, r.1, r.2⟩
  go_enter Try.func9, Try.ntmps9
  go_wp2_with (go_at_call 22; refine (isSide_any _ _).mono ?_; rintro e w' ⟨rfl, rfl⟩)
  go_region
  all_goals go_wp2_with fail
  refine (rounded_any _ _ _ pb.1 pb.2 bW.1 bW.2).mono ?_
  rintro e w1 ⟨rfl, rfl⟩
  go_wp2_with fail
  refine bodyPost_ret (v := .tuple #[cutV 0 0 W H (min ww W) (roundedI (H * min ww W) W), .int .i64 0]) ?_ rfl ⟨_, _, _, _, _, _, 0, rfl, ?_, .inr ⟨rfl, HOK.out⟩⟩
  · simp [results, Try.results9, go_sem, cutV]
  · go_grown

theorem plan_g4 (W H ww wh : Int) (w : World) (h0 : sideB W = true) (h1 : sideB H = true) (h2 : sideB wh = true) (h3 : (ww != 0) = false) :
    Calls Try.prog 9 #[.int .i64 W, .int .i64 H, .agg #[.int .i64 4, .int .i64 ww, .int .i64 wh]] w (PlanPost W H w) := by
  have bW := sideB_yes h0
  have bH := sideB_yes h1
  have bh := sideB_yes h2
  have hz : 0 ≤ ww ∧ ww ≤ 0 := by simp at h3; omega
  have pb := mul_bd bH.1 bH.2 (show 0 ≤ min ww W by omega) (by omega)
  have qb := mul_bd bW.1 bW.2 (show 0 ≤ min wh H by omega) (by omega)
  have r := rounded_le bW.1 (show 0 ≤ min wh H by omega) (show min wh H ≤ H by omega) bH.1
  have HOK : Hid (CutOk W H 0 0 W H (roundedI (W * min wh H) H) (min wh H)) := ⟨bW.1, bW.2, bH.1, bH.2, by omega, by omega, by omega, by omega, r.1, r.2, by omega, by omega⟩
  go_enter Try.func9, Try.ntmps9
  go_wp2_with (go_at_call 22; refine (isSide_any _ _).mono ?_; rintro e w' ⟨rfl, rfl⟩)
  go_region
  all_goals go_wp2_with fail
  refine (rounded_any _ _ _ pb.1 pb.2 bW.1 bW.2).mono ?_
  rintro e w1 ⟨rfl, rfl⟩
  go_wp2_with fail
  refine (rounded_any _ _ _ qb.1 qb.2 bH.1 bH.2).mono ?_
  rintro e w1 ⟨rfl, rfl⟩
  go_wp2_with fail
  refine bodyPost_ret (v := .tuple #[cutV 0 0 W H (roundedI (W * min wh H) H) (min wh H), .int .i64 0]) ?_ rfl ⟨_, _, _, _, _, _, 0, rfl, ?_, .inr ⟨rfl, HOK.out⟩⟩
  · simp [results, Try.results9, go_sem, cutV]
  · go_grown

theorem plan_any (W H way ww wh : Int) (w : World) :
    Calls Try.prog 9 #[.int .i64 W, .int .i64 H, .agg #[.int .i64 way, .int .i64 ww, .int .i64 wh]] w (PlanPost W H w) := by
  cases h0 : sideB W with
  | false => exact plan_a W H way ww wh w h0
  | true =>
  cases h1 : sideB H with
  | false => exact plan_b W H way ww wh w h0 h1
  | true =>
  by_cases g1 : way < 1
  · exact plan_c W H way ww wh w h0 h1 g1
  by_cases g2 : 4 < way
  · exact plan_d W H way ww wh w h0 h1 g2
  rcases (show way = 1 ∨ way = 2 ∨ way = 3 ∨ way = 4 by omega) with rfl | rfl | rfl | rfl
  · cases h2 : sideB ww with
    | false => exact plan_e1 W H ww wh w h0 h1 h2
    | true =>
    cases h3 : sideB wh with
    | false => exact plan_f1 W H ww wh w h0 h1 h2 h3
    | true =>
    by_cases h4 : roundedI (H * min ww W) W ≤ min wh H
    · exact plan_g1a W H ww wh w h0 h1 h2 h3 h4
    · exact plan_g1b W H ww wh w h0 h1 h2 h3 h4
  · cases h2 : sideB ww with
    | false => exact plan_e2 W H ww wh w h0 h1 h2
    | true =>
    cases h3 : sideB wh with
    | false => exact plan_f2 W H ww wh w h0 h1 h2 h3
    | true => exact plan_g2 W H ww wh w h0 h1 h2 h3
  · cases h2 : sideB ww with
    | false => exact plan_e3 W H ww wh w h0 h1 h2
    | true =>
    cases h3 : (wh != 0) with
    | true => exact plan_f3 W H ww wh w h0 h1 h2 h3
    | false => exact plan_g3 W H ww wh w h0 h1 h2 h3
  · cases h2 : sideB wh with
    | false => exact plan_e4 W H ww wh w h0 h1 h2
    | true =>
    cases h3 : (ww != 0) with
    | true => exact plan_f4 W H ww wh w h0 h1 h2 h3
    | false => exact plan_g4 W H ww wh w h0 h1 h2 h3
end Go.Proofs.Ytjmnnnjddbmiaaa
