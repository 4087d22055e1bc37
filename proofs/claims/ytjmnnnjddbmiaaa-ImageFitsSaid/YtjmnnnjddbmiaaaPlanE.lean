/- asset.Plan: an error and the empty cut, or no error and a cut that lies within the image and can be rendered. No conditions. -/
import Derived.Test.YtjmnnnjddbmiaaaImg
import Derived.Deep.QuietTactic
import Derived.BigQuiet
namespace Go.Proofs.Ytjmnnnjddbmiaaa
open Go.RowKit Mh
set_option linter.unusedVariables false

/-- A cut that lies within an image and can be rendered. -/
structure CutOk (W H X Y cw ch tw th : Int) : Prop where
  w1 : 1 ≤ W
  w2 : W ≤ 64
  h1 : 1 ≤ H
  h2 : H ≤ 64
  x0 : 0 ≤ X
  y0 : 0 ≤ Y
  x1 : X + cw ≤ W
  y1 : Y + ch ≤ H
  t0 : 1 ≤ tw
  t1 : tw ≤ cw
  s0 : 1 ≤ th
  s1 : th ≤ ch

def cutV (X Y cw ch tw th : Int) : Value := .agg #[.int .i64 X, .int .i64 Y, .int .i64 cw, .int .i64 ch, .int .i64 tw, .int .i64 th]
def PlanPost (W H : Int) (w : World) (e : Ending) (w' : World) : Prop :=
  ∃ X Y cw ch tw th code : Int, e = .returned (.tuple #[cutV X Y cw ch tw th, .int .i64 code]) ∧ Below w.heap.size w w' ∧
    ((code ≠ 0 ∧ X = 0 ∧ Y = 0 ∧ cw = 0 ∧ ch = 0 ∧ tw = 0 ∧ th = 0) ∨ (code = 0 ∧ CutOk W H X Y cw ch tw th))


theorem mul_bd {a b : Int} (h1 : 1 ≤ a) (h2 : a ≤ 64) (h3 : 0 ≤ b) (h4 : b ≤ 64) : 0 ≤ a * b ∧ a * b ≤ 4096 := by
  constructor
  · exact Int.mul_nonneg (by omega) h3
  · have : a * b ≤ 64 * 64 := Int.mul_le_mul h2 h4 h3 (by omega)
    omega

def FillPost (W H t u : Int) (w : World) (e : Ending) (w' : World) : Prop :=
  ∃ X Y cw ch : Int, e = .returned (cutV X Y cw ch t u) ∧ Below w.heap.size w w' ∧ CutOk W H X Y cw ch t u

theorem filled_wide (W H t u : Int) (w : World) (hW : 1 ≤ W) (hW2 : W ≤ 64) (hH : 1 ≤ H) (hH2 : H ≤ 64) (ht : 1 ≤ t) (ht2 : t ≤ W) (hu : 1 ≤ u) (hu2 : u ≤ H) (hlt : H * t < W * u) :
    Calls Try.prog 24 #[.int .i64 W, .int .i64 H, .int .i64 t, .int .i64 u] w (FillPost W H t u w) := by
  have p1 := mul_bd hW hW2 (show 0 ≤ u by omega) (by omega)
  have p2 := mul_bd hH hH2 (show 0 ≤ t by omega) (by omega)
  have q1 : t ≤ H * t / u := by
    apply Int.le_ediv_of_mul_le (by omega)
    rw [Int.mul_comm t u]
    exact Int.mul_le_mul_of_nonneg_right hu2 (by omega)
  have q2 : H * t / u < W := Int.ediv_lt_of_lt_mul (by omega) hlt
  have HK : Hid (CutOk W H ((W - max 1 (H * t / u)) / 2) ((H - H) / 2) (max 1 (H * t / u)) H t u) := ⟨hW, hW2, hH, hH2, by omega, by omega, by omega, by omega, ht, by omega, hu, hu2⟩
  go_enter Try.func24, Try.ntmps24
  go_wp2_with fail
  refine bodyPost_ret (v := cutV _ _ _ _ _ _) (by simp [results, Try.results24, go_sem, cutV]) rfl ⟨_, _, _, _, rfl, ?_, HK.out⟩
  go_grown

theorem filled_high (W H t u : Int) (w : World) (hW : 1 ≤ W) (hW2 : W ≤ 64) (hH : 1 ≤ H) (hH2 : H ≤ 64) (ht : 1 ≤ t) (ht2 : t ≤ W) (hu : 1 ≤ u) (hu2 : u ≤ H) (hlt : ¬ H * t < W * u) :
    Calls Try.prog 24 #[.int .i64 W, .int .i64 H, .int .i64 t, .int .i64 u] w (FillPost W H t u w) := by
  have p1 := mul_bd hW hW2 (show 0 ≤ u by omega) (by omega)
  have p2 := mul_bd hH hH2 (show 0 ≤ t by omega) (by omega)
  have q1 : u ≤ W * u / t := by
    apply Int.le_ediv_of_mul_le (by omega)
    rw [Int.mul_comm u t]
    exact Int.mul_le_mul_of_nonneg_right ht2 (by omega)
  have q2 : W * u / t ≤ H := by
    have h2 : W * u / t * t ≤ W * u := Int.ediv_mul_le _ (by omega)
    have h3 : W * u / t * t ≤ H * t := by omega
    exact Int.le_of_mul_le_mul_right h3 (by omega)
  have HK : Hid (CutOk W H ((W - W) / 2) ((H - max 1 (W * u / t)) / 2) W (max 1 (W * u / t)) t u) := ⟨hW, hW2, hH, hH2, by omega, by omega, by omega, by omega, ht, ht2, hu, by omega⟩
  go_enter Try.func24, Try.ntmps24
  go_wp2_with fail
  refine bodyPost_ret (v := cutV _ _ _ _ _ _) (by simp [results, Try.results24, go_sem, cutV]) rfl ⟨_, _, _, _, rfl, ?_, HK.out⟩
  go_grown
theorem filled_any (W H t u : Int) (w : World) (hW : 1 ≤ W) (hW2 : W ≤ 64) (hH : 1 ≤ H) (hH2 : H ≤ 64) (ht : 1 ≤ t) (ht2 : t ≤ W) (hu : 1 ≤ u) (hu2 : u ≤ H) :
    Calls Try.prog 24 #[.int .i64 W, .int .i64 H, .int .i64 t, .int .i64 u] w (FillPost W H t u w) := by
  by_cases h : H * t < W * u
  · exact filled_wide W H t u w hW hW2 hH hH2 ht ht2 hu hu2 h
  · exact filled_high W H t u w hW hW2 hH hH2 ht ht2 hu hu2 h

theorem plan_a (W H way ww wh : Int) (w : World) (h : sideB W = false) :
    Calls Try.prog 9 #[.int .i64 W, .int .i64 H, .agg #[.int .i64 way, .int .i64 ww, .int .i64 wh]] w (PlanPost W H w) := by
  go_enter Try.func9, Try.ntmps9
  go_wp2_with (go_at_call 22; refine (isSide_any _ _).mono ?_; rintro e w' ⟨rfl, rfl⟩)
  refine bodyPost_ret (v := .tuple #[cutV 0 0 0 0 0 0, .int .i64 2]) (by simp [results, Try.results9, go_sem, cutV]) rfl ⟨0, 0, 0, 0, 0, 0, 2, rfl, ?_, .inl ⟨by decide, rfl, rfl, rfl, rfl, rfl, rfl⟩⟩
  go_grown

theorem plan_b (W H way ww wh : Int) (w : World) (h0 : sideB W = true) (h : sideB H = false) :
    Calls Try.prog 9 #[.int .i64 W, .int .i64 H, .agg #[.int .i64 way, .int .i64 ww, .int .i64 wh]] w (PlanPost W H w) := by
  go_enter Try.func9, Try.ntmps9
  go_wp2_with (go_at_call 22; refine (isSide_any _ _).mono ?_; rintro e w' ⟨rfl, rfl⟩)
  refine bodyPost_ret (v := .tuple #[cutV 0 0 0 0 0 0, .int .i64 2]) (by simp [results, Try.results9, go_sem, cutV]) rfl ⟨0, 0, 0, 0, 0, 0, 2, rfl, ?_, .inl ⟨by decide, rfl, rfl, rfl, rfl, rfl, rfl⟩⟩
  go_grown

theorem plan_c (W H way ww wh : Int) (w : World) (h0 : sideB W = true) (h1 : sideB H = true) (h : way < 1) :
    Calls Try.prog 9 #[.int .i64 W, .int .i64 H, .agg #[.int .i64 way, .int .i64 ww, .int .i64 wh]] w (PlanPost W H w) := by
  go_enter Try.func9, Try.ntmps9
  go_wp2_with (go_at_call 22; refine (isSide_any _ _).mono ?_; rintro e w' ⟨rfl, rfl⟩)
  refine bodyPost_ret (v := .tuple #[cutV 0 0 0 0 0 0, .int .i64 1]) (by simp [results, Try.results9, go_sem, cutV]) rfl ⟨0, 0, 0, 0, 0, 0, 1, rfl, ?_, .inl ⟨by decide, rfl, rfl, rfl, rfl, rfl, rfl⟩⟩
  go_grown

theorem plan_d (W H way ww wh : Int) (w : World) (h0 : sideB W = true) (h1 : sideB H = true) (h : 4 < way) :
    Calls Try.prog 9 #[.int .i64 W, .int .i64 H, .agg #[.int .i64 way, .int .i64 ww, .int .i64 wh]] w (PlanPost W H w) := by
  go_enter Try.func9, Try.ntmps9
  go_wp2_with (go_at_call 22; refine (isSide_any _ _).mono ?_; rintro e w' ⟨rfl, rfl⟩)
  refine bodyPost_ret (v := .tuple #[cutV 0 0 0 0 0 0, .int .i64 1]) (by simp [results, Try.results9, go_sem, cutV]) rfl ⟨0, 0, 0, 0, 0, 0, 1, rfl, ?_, .inl ⟨by decide, rfl, rfl, rfl, rfl, rfl, rfl⟩⟩
  go_grown

theorem plan_e1 (W H ww wh : Int) (w : World) (h0 : sideB W = true) (h1 : sideB H = true) (h : sideB ww = false) :
    Calls Try.prog 9 #[.int .i64 W, .int .i64 H, .agg #[.int .i64 1, .int .i64 ww, .int .i64 wh]] w (PlanPost W H w) := by
  go_enter Try.func9, Try.ntmps9
  go_wp2_with (go_at_call 22; refine (isSide_any _ _).mono ?_; rintro e w' ⟨rfl, rfl⟩)
  refine bodyPost_ret (v := .tuple #[cutV 0 0 0 0 0 0, .int .i64 2]) (by simp [results, Try.results9, go_sem, cutV]) rfl ⟨0, 0, 0, 0, 0, 0, 2, rfl, ?_, .inl ⟨by decide, rfl, rfl, rfl, rfl, rfl, rfl⟩⟩
  go_grown

theorem plan_f1 (W H ww wh : Int) (w : World) (h0 : sideB W = true) (h1 : sideB H = true) (h2 : sideB ww = true) (h : sideB wh = false) :
    Calls Try.prog 9 #[.int .i64 W, .int .i64 H, .agg #[.int .i64 1, .int .i64 ww, .int .i64 wh]] w (PlanPost W H w) := by
  go_enter Try.func9, Try.ntmps9
  go_wp2_with (go_at_call 22; refine (isSide_any _ _).mono ?_; rintro e w' ⟨rfl, rfl⟩)
  refine bodyPost_ret (v := .tuple #[cutV 0 0 0 0 0 0, .int .i64 2]) (by simp [results, Try.results9, go_sem, cutV]) rfl ⟨0, 0, 0, 0, 0, 0, 2, rfl, ?_, .inl ⟨by decide, rfl, rfl, rfl, rfl, rfl, rfl⟩⟩
  go_grown

theorem plan_e2 (W H ww wh : Int) (w : World) (h0 : sideB W = true) (h1 : sideB H = true) (h : sideB ww = false) :
    Calls Try.prog 9 #[.int .i64 W, .int .i64 H, .agg #[.int .i64 2, .int .i64 ww, .int .i64 wh]] w (PlanPost W H w) := by
  go_enter Try.func9, Try.ntmps9
  go_wp2_with (go_at_call 22; refine (isSide_any _ _).mono ?_; rintro e w' ⟨rfl, rfl⟩)
  refine bodyPost_ret (v := .tuple #[cutV 0 0 0 0 0 0, .int .i64 2]) (by simp [results, Try.results9, go_sem, cutV]) rfl ⟨0, 0, 0, 0, 0, 0, 2, rfl, ?_, .inl ⟨by decide, rfl, rfl, rfl, rfl, rfl, rfl⟩⟩
  go_grown

theorem plan_f2 (W H ww wh : Int) (w : World) (h0 : sideB W = true) (h1 : sideB H = true) (h2 : sideB ww = true) (h : sideB wh = false) :
    Calls Try.prog 9 #[.int .i64 W, .int .i64 H, .agg #[.int .i64 2, .int .i64 ww, .int .i64 wh]] w (PlanPost W H w) := by
  go_enter Try.func9, Try.ntmps9
  go_wp2_with (go_at_call 22; refine (isSide_any _ _).mono ?_; rintro e w' ⟨rfl, rfl⟩)
  refine bodyPost_ret (v := .tuple #[cutV 0 0 0 0 0 0, .int .i64 2]) (by simp [results, Try.results9, go_sem, cutV]) rfl ⟨0, 0, 0, 0, 0, 0, 2, rfl, ?_, .inl ⟨by decide, rfl, rfl, rfl, rfl, rfl, rfl⟩⟩
  go_grown

theorem plan_e3 (W H ww wh : Int) (w : World) (h0 : sideB W = true) (h1 : sideB H = true) (h : sideB ww = false) :
    Calls Try.prog 9 #[.int .i64 W, .int .i64 H, .agg #[.int .i64 3, .int .i64 ww, .int .i64 wh]] w (PlanPost W H w) := by
  go_enter Try.func9, Try.ntmps9
  go_wp2_with (go_at_call 22; refine (isSide_any _ _).mono ?_; rintro e w' ⟨rfl, rfl⟩)
  refine bodyPost_ret (v := .tuple #[cutV 0 0 0 0 0 0, .int .i64 2]) (by simp [results, Try.results9, go_sem, cutV]) rfl ⟨0, 0, 0, 0, 0, 0, 2, rfl, ?_, .inl ⟨by decide, rfl, rfl, rfl, rfl, rfl, rfl⟩⟩
  go_grown

theorem plan_f3 (W H ww wh : Int) (w : World) (h0 : sideB W = true) (h1 : sideB H = true) (h2 : sideB ww = true) (h : (wh != 0) = true) :
    Calls Try.prog 9 #[.int .i64 W, .int .i64 H, .agg #[.int .i64 3, .int .i64 ww, .int .i64 wh]] w (PlanPost W H w) := by
  go_enter Try.func9, Try.ntmps9
  go_wp2_with (go_at_call 22; refine (isSide_any _ _).mono ?_; rintro e w' ⟨rfl, rfl⟩)
  refine bodyPost_ret (v := .tuple #[cutV 0 0 0 0 0 0, .int .i64 1]) (by simp [results, Try.results9, go_sem, cutV]) rfl ⟨0, 0, 0, 0, 0, 0, 1, rfl, ?_, .inl ⟨by decide, rfl, rfl, rfl, rfl, rfl, rfl⟩⟩
  go_grown

theorem plan_e4 (W H ww wh : Int) (w : World) (h0 : sideB W = true) (h1 : sideB H = true) (h : sideB wh = false) :
    Calls Try.prog 9 #[.int .i64 W, .int .i64 H, .agg #[.int .i64 4, .int .i64 ww, .int .i64 wh]] w (PlanPost W H w) := by
  go_enter Try.func9, Try.ntmps9
  go_wp2_with (go_at_call 22; refine (isSide_any _ _).mono ?_; rintro e w' ⟨rfl, rfl⟩)
  refine bodyPost_ret (v := .tuple #[cutV 0 0 0 0 0 0, .int .i64 2]) (by simp [results, Try.results9, go_sem, cutV]) rfl ⟨0, 0, 0, 0, 0, 0, 2, rfl, ?_, .inl ⟨by decide, rfl, rfl, rfl, rfl, rfl, rfl⟩⟩
  go_grown

theorem plan_f4 (W H ww wh : Int) (w : World) (h0 : sideB W = true) (h1 : sideB H = true) (h2 : sideB wh = true) (h : (ww != 0) = true) :
    Calls Try.prog 9 #[.int .i64 W, .int .i64 H, .agg #[.int .i64 4, .int .i64 ww, .int .i64 wh]] w (PlanPost W H w) := by
  go_enter Try.func9, Try.ntmps9
  go_wp2_with (go_at_call 22; refine (isSide_any _ _).mono ?_; rintro e w' ⟨rfl, rfl⟩)
  refine bodyPost_ret (v := .tuple #[cutV 0 0 0 0 0 0, .int .i64 1]) (by simp [results, Try.results9, go_sem, cutV]) rfl ⟨0, 0, 0, 0, 0, 0, 1, rfl, ?_, .inl ⟨by decide, rfl, rfl, rfl, rfl, rfl, rfl⟩⟩
  go_grown
end Go.Proofs.Ytjmnnnjddbmiaaa
