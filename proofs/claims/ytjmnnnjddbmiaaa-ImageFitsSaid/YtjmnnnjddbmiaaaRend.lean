/- asset.Render at a cut that lies within the image: an image of the wanted sides whose levels are means. Conditions: the cut's. -/
import Derived.Test.YtjmnnnjddbmiaaaPlanE
import Derived.Test.YtjmnnnjddbmiaaaMean
import Derived.RegionTactic
import Derived.BigRegion
import Derived.Deep.RegionLaw
namespace Go.Proofs.Ytjmnnnjddbmiaaa
open Go.RowKit Mh
set_option linter.unusedVariables false

def imgV (W H : Int) (lv : Value) : Value := .agg #[.int .i64 W, .int .i64 H, lv]
def RendBad (k : Int) (w : World) (e : Ending) (w' : World) : Prop := e = .returned (.tuple #[imgV 0 0 (.slice none 0 0), .int .i64 k]) ∧ Below w.heap.size w w'

set_option maxRecDepth 100000 in
set_option maxHeartbeats 1000000 in
theorem render_bad (W H X Y cw ch tw th : Int) (lv : Value) (L : List Int) (w : World) (hl : Sl 1 w lv L.length (L.map (Value.int .i64))) (hk : chk W H L ≠ 0) :
    Calls Try.prog 10 #[imgV W H lv, cutV X Y cw ch tw th] w (RendBad (chk W H L) w) := by
  have hne : (chk W H L != 0) = true := by rw [bne_iff_ne]; exact hk
  have HC := Lib.hid (fun w' hb => check_any W H lv L w' (hl.below hb))
  generalize chk W H L = k at *
  obtain ⟨a, n, c, rfl⟩ : ∃ a n c, lv = .slice a n c := by
    rcases hl.2 with ⟨_, a, c, rfl⟩ | ⟨b, off, c, rfl, _⟩
    · exact ⟨_, _, _, rfl⟩
    · exact ⟨_, _, _, rfl⟩
  clear hk hl
  unfold imgV cutV
  go_enter Try.func10, Try.ntmps10
  go_wp2_with fail
  refine (HC.out _ (by go_grown)).mono ?_
  rintro e w1 ⟨rfl, hb⟩
  obtain ⟨hc, hf⟩ := bcell hb
  have hz := hb.size
  simp at hz
  have HB := Lib.hid hb
  clear hb
  go_wp2_with fail
  refine bodyPost_ret (v := .tuple #[imgV 0 0 (.slice none 0 0), .int .i64 k]) ?_ rfl ⟨rfl, ?_⟩
  · simp [results, Try.results10, go_sem, imgV, hc]
  · refine Below.setCell (Below.setCell (Below.setCell ?_ ?_ _) ?_ _) ?_ _
    · exact Below.trans (by go_grown) (HB.out.mono (by simp; omega))
    all_goals (simp; try omega)

theorem infoInt : (Try.prog.info? 3).map (fun i => (i.zero, i.size, i.bytes)) = some (some (.int .i64 0), 1, 8) := by kernel_rfl
def lvl (L : List Int) (W X Y v u : Int) : Int := L.getD ((Y + v) * W + X + u).toNat 0
theorem lvl_bd {L : List Int} (h : ∀ i, i < L.length → 0 ≤ L.getD i 0 ∧ L.getD i 0 ≤ 15) (W X Y v u : Int) : 0 ≤ lvl L W X Y v u ∧ lvl L W X Y v u ≤ 15 := by
  unfold lvl
  by_cases hi : ((Y + v) * W + X + u).toNat < L.length
  · exact h _ hi
  · rw [List.getD, List.getElem?_eq_none (by omega)]
    decide
theorem overlap_ov (c t x v : Int) (w : World) (ha : 0 ≤ v * t) (hb : (v + 1) * t ≤ 10000) (hv : v * t ≤ (v + 1) * t) (hc : 0 ≤ x * c) (hd : (x + 1) * c ≤ 10000) (hx : x * c ≤ (x + 1) * c) :
    Calls Try.prog 25 #[.int .i64 (v * t), .int .i64 ((v + 1) * t), .int .i64 (x * c), .int .i64 ((x + 1) * c)] w fun e w' => e = .returned (.int .i64 (ov c t x v)) ∧ w = w' :=
  overlap_any _ _ _ _ w ha (by omega) (by omega) hb hc (by omega) (by omega) hd
/-- Products of small numbers. -/
theorem pbd {a b : Int} (h1 : 0 ≤ a) (h2 : a ≤ 64) (h3 : 0 ≤ b) (h4 : b ≤ 64) : 0 ≤ a * b ∧ a * b ≤ 4096 ∧ (a + 1) * b ≤ 4160 ∧ a * b ≤ (a + 1) * b := by
  have h5 := Int.mul_nonneg h1 h3
  have h6 : a * b ≤ 64 * 64 := Int.mul_le_mul h2 h4 h3 (by omega)
  rw [Int.add_mul, Int.one_mul]
  omega
/-- The place of a point in the list of levels. -/
theorem idx_bd {W H X Y cw ch v u : Int} (hW : 1 ≤ W) (hW2 : W ≤ 64) (hH2 : H ≤ 64) (x0 : 0 ≤ X) (y0 : 0 ≤ Y) (x1 : X + cw ≤ W) (y1 : Y + ch ≤ H) (hv : 0 ≤ v) (hv2 : v < ch) (hu : 0 ≤ u) (hu2 : u < cw) :
    0 ≤ (Y + v) * W ∧ (Y + v) * W ≤ 4096 ∧ (Y + v) * W + X + u < W * H := by
  have h1 : 0 ≤ (Y + v) * W := Int.mul_nonneg (by omega) (by omega)
  have h2 : (Y + v) * W ≤ 64 * 64 := Int.mul_le_mul (by omega) hW2 (by omega) (by omega)
  have h3 : (Y + v + 1) * W ≤ H * W := Int.mul_le_mul_of_nonneg_right (by omega) (by omega)
  rw [Int.add_mul _ 1 W, Int.one_mul, Int.mul_comm H W] at h3
  omega
theorem pbd2 {a b : Int} (h1 : 0 ≤ a) (h2 : a ≤ 64) (h3 : 0 ≤ b) (h4 : b ≤ 64) : 0 ≤ a * b ∧ a * b ≤ 4096 := by
  refine ⟨Int.mul_nonneg h1 h3, ?_⟩
  have h6 : a * b ≤ 64 * 64 := Int.mul_le_mul h2 h4 h3 (by omega)
  omega
theorem pbd3 {a z : Int} (h1 : 0 ≤ a) (h2 : a ≤ 4096) (h3 : 0 ≤ z) (h4 : z ≤ 15) : 0 ≤ a * z ∧ a * z ≤ 61440 := by
  refine ⟨Int.mul_nonneg h1 h3, ?_⟩
  have h6 : a * z ≤ 4096 * 15 := Int.mul_le_mul h2 h4 h3 (by omega)
  omega
/-- The boxes of the arguments, as Render reads them. -/
structure Boxes (w : World) (N : Nat) (W H : Int) (lv : Value) (X Y cw ch tw th : Int) : Prop where
  a0 : w.cell? ⟨N, 0, none⟩ = some (.int .i64 W)
  a1 : w.cell? ⟨N, 1, none⟩ = some (.int .i64 H)
  a2 : w.cell? ⟨N, 2, none⟩ = some lv
  b0 : w.cell? ⟨N + 1, 0, none⟩ = some (.int .i64 X)
  b1 : w.cell? ⟨N + 1, 1, none⟩ = some (.int .i64 Y)
  b2 : w.cell? ⟨N + 1, 2, none⟩ = some (.int .i64 cw)
  b3 : w.cell? ⟨N + 1, 3, none⟩ = some (.int .i64 ch)
  b4 : w.cell? ⟨N + 1, 4, none⟩ = some (.int .i64 tw)
  b5 : w.cell? ⟨N + 1, 5, none⟩ = some (.int .i64 th)
theorem Boxes.below {w w' : World} {N B : Nat} {W H : Int} {lv : Value} {X Y cw ch tw th : Int} (h : Boxes w N W H lv X Y cw ch tw th) (hb : Below B w w') (hB : N + 1 < B) : Boxes w' N W H lv X Y cw ch tw th := by
  have e : ∀ o, w'.cell? ⟨N, o, none⟩ = w.cell? ⟨N, o, none⟩ := fun o => hb.cell (p := ⟨N, o, none⟩) (show N < B by omega)
  have e1 : ∀ o, w'.cell? ⟨N + 1, o, none⟩ = w.cell? ⟨N + 1, o, none⟩ := fun o => hb.cell (p := ⟨N + 1, o, none⟩) hB
  exact ⟨(e 0).trans h.a0, (e 1).trans h.a1, (e 2).trans h.a2, (e1 0).trans h.b0, (e1 1).trans h.b1, (e1 2).trans h.b2, (e1 3).trans h.b3, (e1 4).trans h.b4, (e1 5).trans h.b5⟩
theorem boxes_made (w : World) (W H : Int) (lv : Value) (X Y cw ch tw th : Int) (R : Obj) (T1 T2 : TypeId) :
    Boxes (((w.alloc (.cells #[.int .i64 W, .int .i64 H, lv] T1)).alloc (.cells #[.int .i64 X, .int .i64 Y, .int .i64 cw, .int .i64 ch, .int .i64 tw, .int .i64 th] T2)).alloc R) w.heap.size W H lv X Y cw ch tw th := by
  have e0 : (((w.alloc (.cells #[.int .i64 W, .int .i64 H, lv] T1)).alloc (.cells #[.int .i64 X, .int .i64 Y, .int .i64 cw, .int .i64 ch, .int .i64 tw, .int .i64 th] T2)).alloc R).heap[w.heap.size]? = some (.cells #[.int .i64 W, .int .i64 H, lv] T1) := by
    rw [heap_alloc_old _ _ (by simp; omega), heap_alloc2_old]
  have e1 : (((w.alloc (.cells #[.int .i64 W, .int .i64 H, lv] T1)).alloc (.cells #[.int .i64 X, .int .i64 Y, .int .i64 cw, .int .i64 ch, .int .i64 tw, .int .i64 th] T2)).alloc R).heap[w.heap.size + 1]? = some (.cells #[.int .i64 X, .int .i64 Y, .int .i64 cw, .int .i64 ch, .int .i64 tw, .int .i64 th] T2) := by
    rw [heap_alloc_old _ _ (by simp), heap_alloc2_new]
  exact ⟨cell_of_row _ _ _ _ _ _ e0, cell_of_row _ _ _ _ _ _ e0, cell_of_row _ _ _ _ _ _ e0, cell_of_row _ _ _ _ _ _ e1, cell_of_row _ _ _ _ _ _ e1, cell_of_row _ _ _ _ _ _ e1, cell_of_row _ _ _ _ _ _ e1, cell_of_row _ _ _ _ _ _ e1, cell_of_row _ _ _ _ _ _ e1⟩

/-- What Render leaves at a cut that lies within the image. -/
def RendOk (W X Y cw ch : Int) (tn hn : Nat) (L : List Int) (w : World) (e : Ending) (w' : World) : Prop :=
  ∃ (lv : Value) (M : List Int), e = .returned (.tuple #[imgV tn hn lv, .int .i64 0]) ∧ Below w.heap.size w w' ∧ Sl 1 w' lv M.length (M.map (Value.int .i64)) ∧ M.length = hn * tn ∧ Means (lvl L W X Y) cw ch tn hn M
theorem x_next {wa w' : World} {W X Y cw ch out : Int} {tn hn y x T e : Nat} {L M : List Int} {v0 v' : Value} (hx : x < tn) (hsz : wa.heap.size + 1 ≤ w'.heap.size) (hT : w'.heap[wa.heap.size]? = some (.cells #[.int .i64 tn, .int .i64 hn, v0] T (0, 0)))
    (hown : w'.ownsRow (wa.heap.size + 1) e 1 v' (M.length + 1) (M.map (Value.int .i64) ++ [.int .i64 out])) (HM : M.length = y * tn + x ∧ Means (lvl L W X Y) cw ch tn hn M) (ho : Mean (lvl L W X Y) cw ch tn hn x y out) :
    ∃ (lv : Value) (M : List Int), Hid ((w'.setCell ⟨wa.heap.size, 2, none⟩ v').heap[wa.heap.size]? = some (.cells #[.int .i64 tn, .int .i64 hn, lv] T (0, 0))) ∧
          (w'.setCell ⟨wa.heap.size, 2, none⟩ v').ownsRow (wa.heap.size + 1) e 1 lv M.length (M.map (Value.int .i64)) ∧ Hid (M.length = y * tn + (x + 1) ∧ Means (lvl L W X Y) cw ch tn hn M) := by
  refine ⟨v', M ++ [out], heap_setCell_same _ _ 2 _ _ _ hT, ?_, ?_, HM.2.snoc x y hx HM.1 out ho⟩
  · have := ownsRow_setCell_below hown (a := ⟨wa.heap.size, 2, none⟩) (Nat.lt_succ_self _) v'
    simpa using this
  · rw [List.length_append, List.length_singleton, HM.1]
    omega

set_option maxRecDepth 100000 in
set_option maxHeartbeats 4000000 in
theorem render_ok (W H X Y cw ch : Int) (tn hn b off c : Nat) (L : List Int) (w : World) (hk : chk W H L = 0) (hln : (L.length : Int) = W * H) (hL : ∀ i, i < L.length → 0 ≤ L.getD i 0 ∧ L.getD i 0 ≤ 15)
    (hsl : Sl 1 w (.slice (some ⟨b, off, none⟩) L.length c) L.length (L.map (Value.int .i64))) (hlt : b < w.heap.size)
    (hcell : ∀ i, i < L.length → w.cell? ⟨b, off + i, none⟩ = some (.int .i64 (L.getD i 0))) (cut : CutOk W H X Y cw ch tn hn) :
    Calls Try.prog 10 #[imgV W H (.slice (some ⟨b, off, none⟩) L.length c), cutV X Y cw ch tn hn] w (RendOk W X Y cw ch tn hn L w) := by
  have HC := Lib.hid (fun w' hb => check_any W H _ L w' (hsl.below hb))
  rw [hk] at HC
  obtain ⟨w1, w2, h1, h2, x0, y0, x1, y1, t0, t1, s0, s1⟩ := cut
  have HN := Lib.hid hln
  have HL := Lib.hid hL
  have HCE := Lib.hid hcell
  clear hk hln hL hcell hsl
  unfold imgV cutV
  go_enter Try.func10, Try.ntmps10
  go_wp2_with fail
  refine (HC.out _ (by go_grown)).mono ?_
  rintro e wa ⟨rfl, hb⟩
  have hz := hb.size
  simp only [World.size_alloc] at hz
  have HBox : Hid (Boxes wa w.heap.size W H (.slice (some ⟨b, off, none⟩) L.length c) X Y cw ch tn hn) := by
    refine Boxes.below (boxes_made w W H (.slice (some ⟨b, off, none⟩) L.length c) X Y cw ch tn hn _ _ _) hb ?_
    simp only [World.size_alloc]
    omega
  have HR : Hid (wa.heap[w.heap.size + 1 + 1]? = some (.cells #[.int .i64 0, .int .i64 0, .slice none 0 0] 29 (0, 0))) := by
    show _ = _
    rw [hb.block _ (by simp only [World.size_alloc]; omega)]
    rw [show w.heap.size + 1 + 1 = ((w.alloc (.cells #[.int .i64 W, .int .i64 H, .slice (some ⟨b, off, none⟩) L.length c] 29)).alloc (.cells #[.int .i64 X, .int .i64 Y, .int .i64 cw, .int .i64 ch, .int .i64 tn, .int .i64 hn] 33)).heap.size from by simp only [World.size_alloc]]
    exact heap_alloc_new _ _
  have HW : Hid (Below w.heap.size w wa) := Below.trans (by go_grown) (hb.mono (by simp only [World.size_alloc]; omega))
  clear hb
  obtain ⟨a0, a1, a2, b0, b1, b2, b3, b4, b5⟩ := HBox.out
  have z0 : w.heap.size < wa.heap.size := by omega
  have z1 : w.heap.size + 1 < wa.heap.size := by omega
  have z2 : w.heap.size + 1 + 1 < wa.heap.size := by omega
  have HS := Lib.hid w2
  have pa := pbd (show 0 ≤ cw by omega) (by omega) (show 0 ≤ ch by omega) (by omega)
  go_wp2_with fail
  have HA : Hid (w.heap.size + 1 + 1 < wa.heap.size) := z2
  clear a0 a1 a2 b0 b1 b2 b3 b4 b5 z0 z1 z2 hz
  go_loopw [108] (fun i wr => ∃ y : Nat, y ≤ hn ∧ i = .int .i64 y ∧ Below wa.heap.size wa wr ∧ wa.heap.size + 1 ≤ wr.heap.size ∧ ∃ (lv : Value) (M : List Int), Hid (wr.heap[wa.heap.size]? = some (.cells #[.int .i64 tn, .int .i64 hn, lv] 29 (0, 0))) ∧
      wr.ownsRow (wa.heap.size + 1) 3 1 lv M.length (M.map (Value.int .i64)) ∧ Hid (M.length = y * tn ∧ Means (lvl L W X Y) cw ch tn hn M))
    (fun i _ => hn - (intOf i).toNat)
  case atStart =>
    exact ⟨0, by omega, rfl, by go_grown, by simp, .slice none 0 0, [], heap_alloc_new _ _, World.ownsRow_nil _ _ _ _, by simp, Means.nil _ _ _ _ _⟩
  case round =>
    obtain ⟨y, hy, rfl, hbel, hsz, lv, M, HT, hown, HM⟩ := hrel
    have bx := HBox.out.below hbel (by have := HA.out; omega)
    by_cases hyt : y < hn
    · obtain ⟨a0, a1, a2, b0, b1, b2, b3, b4, b5⟩ := bx
      have hdy : decide ((y : Int) < (hn : Int)) = true := by simp; omega
      go_wp2_with fail
      clear a0 a1 a2 b0 b1 b2 b3 b4 b5
      obtain ⟨wo, hwo⟩ : ∃ wo : World, wo = wr := ⟨_, rfl⟩
      rw [← hwo] at hbel hsz HT hown ⊢
      clear hwo
      go_loopw [113] (fun i wr => ∃ x : Nat, x ≤ tn ∧ i = .int .i64 x ∧ Below wa.heap.size wa wr ∧ wa.heap.size + 1 ≤ wr.heap.size ∧ ∃ (lv : Value) (M : List Int), Hid (wr.heap[wa.heap.size]? = some (.cells #[.int .i64 tn, .int .i64 hn, lv] 29 (0, 0))) ∧
          wr.ownsRow (wa.heap.size + 1) 3 1 lv M.length (M.map (Value.int .i64)) ∧ Hid (M.length = y * tn + x ∧ Means (lvl L W X Y) cw ch tn hn M))
        (fun i _ => tn - (intOf i).toNat)
      case atStart => exact ⟨0, by omega, rfl, hbel, hsz, lv, M, HT, hown, HM⟩
      case round =>
        clear hbel hsz HT hown HM
        obtain ⟨x, hx, rfl, hbel, hsz, lv, M, HT, hown, HM⟩ := hrel
        obtain ⟨a0, a1, a2, b0, b1, b2, b3, b4, b5⟩ := HBox.out.below hbel (by have := HA.out; omega)
        by_cases hxt : x < tn
        · have hdx : decide ((x : Int) < (tn : Int)) = true := by simp; omega
          have py := pbd (show 0 ≤ (y : Int) by omega) (by omega) (show 0 ≤ ch by omega) (by omega)
          have px := pbd (show 0 ≤ (x : Int) by omega) (by omega) (show 0 ≤ cw by omega) (by omega)
          go_wp2_with fail
          have hy0 := start_bd (show 0 ≤ (y : Int) by omega) (show (y : Int) < hn by omega) (show 0 ≤ ch by omega)
          have hx0 := start_bd (show 0 ≤ (x : Int) by omega) (show (x : Int) < tn by omega) (show 0 ≤ cw by omega)
          have HRB : Hid (RB (lvl L W X Y) cw ch tn hn x y 0 15) := fun v u _ _ => lvl_bd HL.out W X Y v u
          go_loop [11, 12] (fun us uv => ∃ v s : Int, us = .int .i64 s ∧ uv = .int .i64 v ∧ (y : Int) * ch / hn ≤ v ∧ v ≤ ch ∧ Hid (SumI (lvl L W X Y) cw ch tn hn x y v s)) (fun _ uv => (ch - intOf uv).toNat)
          case atStart => exact ⟨_, _, rfl, rfl, Int.le_refl _, hy0.2, sum_start _ _ _ _ _ _ _ (by omega)⟩
          case round =>
            obtain ⟨v, s, rfl, rfl, hv0, hv1, HSI⟩ := hrel
            have hs := sum_bd2 _ cw ch tn hn x y v s (by omega) (by omega) (by omega) (by omega) HRB.out HSI.out
            have pv := pbd (show 0 ≤ v by omega) (by omega) (show 0 ≤ (hn : Int) by omega) (by omega)
            by_cases hv : v < ch ∧ v * hn < ((y : Int) + 1) * ch
            · have hdv := hv.1
              have hdv2 := hv.2
              have HV : Hid (inR ch hn y v) := ⟨hv0, hv.1, hv.2⟩
              have hvd : decide (v < ch) = true := by simpa using hv.1
              have hvd2 : decide (v * hn < ((y : Int) + 1) * ch) = true := by simpa using hv.2
              clear hv
              go_wp2_with fail
              refine (overlap_ov ch hn y v _ (by omega) (by omega) (by omega) (by omega) (by omega) (by omega)).mono ?_
              rintro e w' ⟨rfl, rfl⟩
              have ho := ov_nonneg ch hn y v
              have ho2 := ov_le ch hn y v (by omega) (by omega)
              go_wp2_with fail
              go_loop [11, 14] (fun us uu => ∃ u s : Int, us = .int .i64 s ∧ uu = .int .i64 u ∧ (x : Int) * cw / tn ≤ u ∧ u ≤ cw ∧ Hid (SumJ (lvl L W X Y) cw ch tn hn x y v u s)) (fun _ uu => (cw - intOf uu).toNat)
              case atStart => exact ⟨_, _, rfl, rfl, Int.le_refl _, hx0.2, sum_line _ _ _ _ _ _ _ _ _ (by omega) HSI.out⟩
              case round =>
                clear hs
                obtain ⟨u, t, rfl, rfl, hu0, hu1, HSJ⟩ := hrel
                have ht := sum_bd _ cw ch tn hn x y v u t (by omega) (by omega) (by omega) (by omega) (by omega) HRB.out HSJ.out
                have pu := pbd (show 0 ≤ u by omega) (by omega) (show 0 ≤ (tn : Int) by omega) (by omega)
                by_cases hu : u < cw ∧ u * tn < ((x : Int) + 1) * cw
                · have hdu := hu.1
                  have hdu2 := hu.2
                  have HU : Hid (inR cw tn x u) := ⟨hu0, hu.1, hu.2⟩
                  have hud : decide (u < cw) = true := by simpa using hu.1
                  have hud2 : decide (u * tn < ((x : Int) + 1) * cw) = true := by simpa using hu.2
                  clear hu
                  have hix := idx_bd (H := H) w1 HS.out h2 x0 y0 x1 y1 (show 0 ≤ v by omega) hdv (show 0 ≤ u by omega) hdu
                  have hil : ((Y + v) * W + X + u) < (L.length : Int) := by rw [HN.out]; exact hix.2.2
                  have hcx : wr.cell? ⟨b, off + ((Y + v) * W + X + u).toNat, none⟩ = some (.int .i64 (lvl L W X Y v u)) := by
                    have h1 := HCE.out ((Y + v) * W + X + u).toNat (by omega)
                    have h2 := (HW.out.trans (hbel.mono HW.out.size)).cell (p := ⟨b, off + ((Y + v) * W + X + u).toNat, none⟩) hlt
                    rw [h2, h1]
                    rfl
                  have hix1 := hix.1
                  have hix2 := hix.2.1
                  have hlv := lvl_bd HL.out W X Y v u
                  have ho3 := ov_nonneg cw tn x u
                  have ho4 := ov_le cw tn x u (by omega) (by omega)
                  have po := pbd2 ho (by omega) ho3 (by omega)
                  have po2 := pbd3 po.1 po.2 hlv.1 hlv.2
                  clear hix
                  go_wp2_with fail
                  refine (overlap_ov cw tn x u _ (by omega) (by omega) (by omega) (by omega) (by omega) (by omega)).mono ?_
                  rintro e w' ⟨rfl, rfl⟩
                  go_wp2_with fail
                  go_round
                  case rel => exact ⟨u + 1, _, rfl, rfl, by omega, by omega, sum_step _ _ _ _ _ _ _ _ _ _ (by omega) (by omega) HV.out HU.out HSJ.out⟩
                  case measure => simp [intOf]; omega
                · have HSD : Hid (SumI (lvl L W X Y) cw ch tn hn x y (v + 1) t) := sum_done _ _ _ _ _ _ _ _ _ _ (by omega) (by omega) (by omega) (by omega) (by omega) hu HSJ.out
                  go_wp2_with fail
                  all_goals go_round
                  all_goals first
                    | exact ⟨v + 1, t, rfl, rfl, by omega, by omega, HSD⟩
                    | (simp [intOf]; omega)
            · have HSD : Hid (Mean (lvl L W X Y) cw ch tn hn x y ((2 * s + cw * ch) / (2 * (cw * ch)))) := sum_mean _ _ _ _ _ _ _ _ _ (by omega) (by omega) (by omega) (by omega) hv HSI.out
              have hML := HM.out.1
              have hMl : M.length ≤ 4096 := by
                have h1 : (y + 1) * tn ≤ 64 * 64 := Nat.mul_le_mul (by omega) (by omega)
                rw [Nat.add_mul] at h1
                omega
              clear hML
              have ha1 : 1 ≤ cw * ch := by
                have : 1 * 1 ≤ cw * ch := Int.mul_le_mul (by omega) (by omega) (by omega) (by omega)
                omega
              obtain ⟨la, lc, rfl⟩ := ownsRow_form hown
              have hltT : wa.heap.size < wr.heap.size := hsz
              have cT : wr.cell? ⟨wa.heap.size, 2, none⟩ = some (.slice la M.length lc) := by simp [World.cell?, HT.out]
              obtain ⟨ii, hi, hz0, hz1, hz2⟩ := info_parts infoInt
              go_wp2_with fail
              all_goals
                have hq := HSD.out 0 15 HRB.out
                have e1 : IntKind.i64.wrap (2 * s) = 2 * s := IntWalk.i64_in _ (by omega)
                have e2 : IntKind.i64.wrap (2 * s + cw * ch) = 2 * s + cw * ch := IntWalk.i64_in _ (by omega)
                have e3 : IntKind.i64.wrap (2 * (cw * ch)) = 2 * (cw * ch) := IntWalk.i64_in _ (by omega)
                have e4 : (2 * (cw * ch) == 0) = false := by rw [beq_eq_false_iff_ne]; omega
                have e5 : (2 * s + cw * ch).tdiv (2 * (cw * ch)) = (2 * s + cw * ch) / (2 * (cw * ch)) := Int.tdiv_eq_ediv_of_nonneg (by omega)
                have e6 : IntKind.i64.wrap ((2 * s + cw * ch) / (2 * (cw * ch))) = (2 * s + cw * ch) / (2 * (cw * ch)) := IntWalk.i64_in _ (by omega)
                have e7 : ¬ 2 * (cw * ch) = 0 := by omega
                clear hq
                go_region_law (refine step_append1 (w0 := wr.drew) (base := wa.heap.size + 1) (B := wa.heap.size) (W := wa) (val := .int .i64 ((2 * s + cw * ch) / (2 * (cw * ch)))) (e := 3) rfl hbel.drew rfl (.tmp 227) (.tmp 235) 27 rfl ii (.int .i64 0) 8 Try.underlying27 hi hz0 hz1 hz2 rfl _ M.length (M.map (Value.int .i64)) rfl hown rfl rfl (by unfold maxLen; omega) (by omega) (by omega) hsz ?_; intro g cap w' hown' hbel' hsz' hblk; have hT' := (hblk wa.heap.size (Nat.lt_succ_self _)).trans HT.out; have cT' : w'.cell? ⟨wa.heap.size, 2, none⟩ = some (.slice la M.length lc) := cellT hT' rfl; have fT' : w'.frozen? ⟨wa.heap.size, 2, none⟩ = false := frozenT hT')
              all_goals go_wp2_with fail
              all_goals go_roundw
              all_goals first
                | exact ⟨x + 1, by omega, by go_num, hbel'.setCell (Nat.le_refl _) _, by simpa using hsz', x_next hxt hsz' hT' hown' HM.out HSD.out⟩
                | (simp [intOf]; omega)
        · have hME : Hid (M.length = (y + 1) * tn ∧ Means (lvl L W X Y) cw ch tn hn M) := by
            have h1 := HM.out
            refine ⟨?_, h1.2⟩
            rw [h1.1, Nat.add_mul]
            omega
          go_wp2_with fail
          go_roundw
          case rel => exact ⟨y + 1, by omega, by go_num, hbel, hsz, lv, M, HT, hown, hME⟩
          case measure => simp [intOf]; omega
    · have eh : y = hn := by omega
      have hME : Hid (M.length = hn * tn ∧ Means (lvl L W X Y) cw ch tn hn M) := ⟨by rw [← eh]; exact HM.out.1, HM.out.2⟩
      clear eh
      obtain ⟨la, lc, rfl⟩ := ownsRow_form hown
      have hltT : wa.heap.size < wr.heap.size := hsz
      have cT0 : wr.cell? ⟨wa.heap.size, 0, none⟩ = some (.int .i64 tn) := cellT HT.out rfl
      have cT1 : wr.cell? ⟨wa.heap.size, 1, none⟩ = some (.int .i64 hn) := cellT HT.out rfl
      have cT2 : wr.cell? ⟨wa.heap.size, 2, none⟩ = some (.slice la M.length lc) := cellT HT.out rfl
      have HRr : wr.heap[w.heap.size + 1 + 1]? = some (.cells #[.int .i64 0, .int .i64 0, .slice none 0 0] 29 (0, 0)) := (hbel.block _ HA.out).trans HR.out
      have r0 : wr.cell? ⟨w.heap.size + 1 + 1, 0, none⟩ = some (.int .i64 0) := cellT HRr rfl
      have r1 : wr.cell? ⟨w.heap.size + 1 + 1, 1, none⟩ = some (.int .i64 0) := cellT HRr rfl
      have r2 : wr.cell? ⟨w.heap.size + 1 + 1, 2, none⟩ = some (.slice none 0 0) := cellT HRr rfl
      have f0 : wr.frozen? ⟨w.heap.size + 1 + 1, 0, none⟩ = false := frozenT HRr
      have f1 : wr.frozen? ⟨w.heap.size + 1 + 1, 1, none⟩ = false := frozenT HRr
      have f2 : wr.frozen? ⟨w.heap.size + 1 + 1, 2, none⟩ = false := frozenT HRr
      have HRR := Lib.hid HRr
      clear HRr
      go_wp2_with fail
      refine bodyPost_ret (v := .tuple #[imgV tn hn (.slice la M.length lc), .int .i64 0]) ?_ rfl ⟨_, M, rfl, ?_, ?_, hME.out⟩
      · simp [results, Try.results10, go_sem, imgV, r0, r1, r2]
      · refine Below.setCell (Below.setCell (Below.setCell ?_ ?_ _) ?_ _) ?_ _
        · exact HW.out.trans (hbel.mono HW.out.size)
        all_goals (simp; try omega)
      · refine Sl.of_own (ownsRow_setCell_below (ownsRow_setCell_below (ownsRow_setCell_below hown ?_ _) ?_ _) ?_ _) (by decide)
        all_goals (have := HA.out; simp; omega)
end Go.Proofs.Ytjmnnnjddbmiaaa
