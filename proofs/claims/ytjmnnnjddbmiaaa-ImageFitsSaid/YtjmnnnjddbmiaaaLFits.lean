/- ImageFits holds for every input: what is planned fits, is within the image and can be rendered. No conditions. -/
import Derived.Test.YtjmnnnjddbmiaaaRows
import Derived.Test.YtjmnnnjddbmiaaaAwake
import Derived.Test.YtjmnnnjddbmiaaaPlan
import Derived.Test.YtjmnnnjddbmiaaaRend
import Derived.Test.YtjmnnnjddbmiaaaFitP
import Derived.Test.YtjmnnnjddbmiaaaShelf
import Derived.Test.YtjmnnnjddbmiaaaLawKit
import Derived.Lib.SmallJoins
import Derived.Deep.QuietTactic
import Derived.BigQuiet
namespace Go.Proofs.Ytjmnnnjddbmiaaa.LFits
open Go.ChangeShapes Go.WideShapes Go.ChangeAt Go.RowKit Mh
set_option linter.unusedVariables false

theorem own : ownKnob Try.prog.godebug = none := by kernel_rfl

/-- The boxes of the law's arguments. -/
structure Bx (w : World) (N : Nat) (W H : Int) (lv : Value) (way ww wh : Int) : Prop where
  a0 : w.cell? ⟨N, 0, none⟩ = some (.int .i64 W)
  a1 : w.cell? ⟨N, 1, none⟩ = some (.int .i64 H)
  a2 : w.cell? ⟨N, 2, none⟩ = some lv
  b0 : w.cell? ⟨N + 1, 0, none⟩ = some (.int .i64 way)
  b1 : w.cell? ⟨N + 1, 1, none⟩ = some (.int .i64 ww)
  b2 : w.cell? ⟨N + 1, 2, none⟩ = some (.int .i64 wh)
theorem Bx.below {w w' : World} {N B : Nat} {W H : Int} {lv : Value} {way ww wh : Int} (h : Bx w N W H lv way ww wh) (hb : Below B w w') (hB : N + 1 < B) : Bx w' N W H lv way ww wh := by
  have e : ∀ o, w'.cell? ⟨N, o, none⟩ = w.cell? ⟨N, o, none⟩ := fun o => hb.cell (p := ⟨N, o, none⟩) (show N < B by omega)
  have e1 : ∀ o, w'.cell? ⟨N + 1, o, none⟩ = w.cell? ⟨N + 1, o, none⟩ := fun o => hb.cell (p := ⟨N + 1, o, none⟩) hB
  exact ⟨(e 0).trans h.a0, (e 1).trans h.a1, (e 2).trans h.a2, (e1 0).trans h.b0, (e1 1).trans h.b1, (e1 2).trans h.b2⟩
theorem bx_made (w : World) (W H : Int) (lv : Value) (way ww wh : Int) (T1 T2 : TypeId) :
    Bx ((w.alloc (.cells #[.int .i64 W, .int .i64 H, lv] T1)).alloc (.cells #[.int .i64 way, .int .i64 ww, .int .i64 wh] T2)) w.heap.size W H lv way ww wh := by
  have e0 := heap_alloc2_old w (.cells #[.int .i64 W, .int .i64 H, lv] T1) (.cells #[.int .i64 way, .int .i64 ww, .int .i64 wh] T2)
  have e1 := heap_alloc2_new w (.cells #[.int .i64 W, .int .i64 H, lv] T1) (.cells #[.int .i64 way, .int .i64 ww, .int .i64 wh] T2)
  exact ⟨cellT e0 rfl, cellT e0 rfl, cellT e0 rfl, cellT e1 rfl, cellT e1 rfl, cellT e1 rfl⟩

set_option maxRecDepth 100000 in
set_option maxHeartbeats 4000000 in
theorem walk (W H : Int) (lv : Value) (L : List Int) (way ww wh : Int) (w : World) (hl : Sl 1 w lv L.length (L.map (Value.int .i64))) :
    Calls Try.prog 4 #[.agg #[.int .i64 W, .int .i64 H, lv], .agg #[.int .i64 way, .int .i64 ww, .int .i64 wh]] w fun e w' => e = .returned (.bool true) ∧ Below w.heap.size w w' := by
  obtain ⟨la, ln, lc, hlv⟩ : ∃ a n c, lv = .slice a n c := by
    rcases hl.2 with ⟨_, a, c, rfl⟩ | ⟨b, off, c, rfl, _⟩
    · exact ⟨_, _, _, rfl⟩
    · exact ⟨_, _, _, rfl⟩
  have HL := Lib.hid hl
  clear hl
  subst hlv
  go_enter Try.func4, Try.ntmps4
  go_wp2_with fail
  refine (awake_any _).mono ?_
  rintro e w1 ⟨rfl, hb⟩
  have hz := hb.size
  simp only [World.size_alloc] at hz
  have HB : Hid (Bx w1 w.heap.size W H (.slice la ln lc) way ww wh) := (bx_made w W H _ way ww wh _ _).below hb (by simp only [World.size_alloc]; omega)
  have HW : Hid (Below w.heap.size w w1) := Below.trans (by go_grown) (hb.mono (by simp only [World.size_alloc]; omega))
  clear hb
  obtain ⟨a0, a1, a2, b0, b1, b2⟩ := HB.out
  go_wp2_with fail
  refine (plan_any W H way ww wh w1).mono ?_
  rintro e w2 ⟨X, Y, cw, ch, tw, th, code, rfl, hb, hcase⟩
  have hz2 := hb.size
  have HB2 : Hid (Bx w2 w.heap.size W H (.slice la ln lc) way ww wh) := HB.out.below hb (by omega)
  have HW2 : Hid (Below w.heap.size w w2) := HW.out.trans (hb.mono HW.out.size)
  have HC := Lib.hid hcase
  clear hb hcase a0 a1 a2 b0 b1 b2 HB HW
  obtain ⟨a0, a1, a2, b0, b1, b2⟩ := HB2.out
  unfold cutV
  rcases HC.out with ⟨hcode, rfl, rfl, rfl, rfl, rfl, rfl⟩ | ⟨rfl, hcut⟩
  · have hne : (code != 0) = true := by rw [bne_iff_ne]; exact hcode
    clear hcode HC
    go_wp2_with fail
    go_ret
    exact ⟨rfl, HW2.out.alloc HW2.out.size _⟩
  · have z0 : w.heap.size < w2.heap.size := by omega
    have z1 : w.heap.size + 1 < w2.heap.size := by omega
    obtain ⟨tn, rfl⟩ : ∃ tn : Nat, tw = tn := ⟨tw.toNat, by have := hcut.t0; omega⟩
    obtain ⟨hn, rfl⟩ : ∃ hn : Nat, th = hn := ⟨th.toNat, by have := hcut.s0; omega⟩
    have HCut := Lib.hid hcut
    clear hcut HC
    go_wp2_with fail
    by_cases hk : chk W H L = 0
    · have hok := chk_ok hk
      obtain ⟨hsW, hsH, hln, hLv⟩ := hok
      have bW := sideB_yes hsW
      have bH := sideB_yes hsH
      have hWH : 1 * 1 ≤ W * H := Int.mul_le_mul bW.1 bH.1 (by omega) (by omega)
      have hWH2 : W * H ≤ 64 * 64 := Int.mul_le_mul bW.2 bH.2 (by omega) (by omega)
      have hL1 : 1 ≤ L.length := by omega
      have hL2 : L.length ≤ 4096 := by omega
      rcases HL.out.2 with ⟨h0, _⟩ | ⟨b, off, c, hsv, hn0, hlc, hcm, hlt, hcell⟩
      · omega
      obtain ⟨rfl, rfl, rfl⟩ : la = some ⟨b, off, none⟩ ∧ ln = L.length ∧ lc = c := by simpa using hsv
      clear hsv hn0
      have HN := Lib.hid hln
      have HLv := Lib.hid hLv
      have HCE := Lib.hid (ints_cell hcell)
      have hcut := HCut.out
      have HB3 : Hid (Below w.heap.size w (w2.alloc (.cells #[.int .i64 X, .int .i64 Y, .int .i64 cw, .int .i64 ch, .int .i64 tn, .int .i64 hn] 33))) := HW2.out.alloc HW2.out.size _
      refine (render_ok W H X Y cw ch tn hn b off lc L _ hk hln hLv (HL.out.below HB3.out) (Nat.lt_of_lt_of_le hlt HB3.out.size) (fun i hi => (HB3.out.cell (p := ⟨b, off + i, none⟩) hlt).trans (HCE.out i hi)) hcut).mono ?_
      clear hln hLv hcell
      rintro e w4 ⟨lvM, M, rfl, hb, hslM, hMl, hMM⟩
      have HB4 : Bx w4 w.heap.size W H (.slice (some ⟨b, off, none⟩) L.length lc) way ww wh := HB2.out.below ((Below.refl w2.heap.size w2).alloc (Nat.le_refl _) _ |>.trans (hb.mono (by simp))) z1
      have HW4 : Hid (Below w.heap.size w w4) := HB3.out.trans (hb.mono (by simp; omega))
      have hz4 := hb.size
      simp only [World.size_alloc] at hz4
      have hC4 : w4.heap[w2.heap.size]? = some (.cells #[.int .i64 X, .int .i64 Y, .int .i64 cw, .int .i64 ch, .int .i64 tn, .int .i64 hn] 33 (0, 0)) := (hb.block _ (by simp)).trans (heap_alloc_new w2 _)
      have z40 : w.heap.size < w4.heap.size := by omega
      have z41 : w.heap.size + 1 < w4.heap.size := by omega
      have z42 : w2.heap.size < w4.heap.size := by omega
      clear hb a0 a1 a2 b0 b1 b2
      obtain ⟨a0, a1, a2, b0, b1, b2⟩ := HB4
      have c4 : w4.cell? ⟨w2.heap.size, 4, none⟩ = some (.int .i64 tn) := cellT hC4 rfl
      have c5 : w4.cell? ⟨w2.heap.size, 5, none⟩ = some (.int .i64 hn) := cellT hC4 rfl
      clear hC4
      -- what the means are
      have ht1 : 1 ≤ tn := by have := hcut.t0; omega
      have hh1 : 1 ≤ hn := by have := hcut.s0; omega
      have ht2 : tn ≤ 64 := by have := hcut.t1; have := hcut.x1; have := hcut.x0; omega
      have hh2 : hn ≤ 64 := by have := hcut.s1; have := hcut.y1; have := hcut.y0; omega
      have hcw1 : 1 ≤ cw := by have := hcut.t1; have := hcut.t0; omega
      have hch1 : 1 ≤ ch := by have := hcut.s1; have := hcut.s0; omega
      have hmb := fun lo hi (h : ∀ z ∈ L, lo ≤ z ∧ z ≤ hi) => means_bd HN.out bW.1 bW.2 bH.2 hcut.x0 hcut.y0 hcut.x1 hcut.y1 ht1 hh1 hcw1 hch1 (lvl L W X Y) (fun _ _ => rfl) hMM lo hi h
      have hM1 : 1 * 1 ≤ hn * tn := Nat.mul_le_mul hh1 ht1
      have hM2 : hn * tn ≤ 64 * 64 := Nat.mul_le_mul hh2 ht2
      have hL15 : ∀ z ∈ L, 0 ≤ z ∧ z ≤ 15 := by
        intro z hz
        obtain ⟨i, hi, rfl⟩ := List.mem_iff_getElem.1 hz
        have := HLv.out i hi
        rwa [List.getD, List.getElem?_eq_getElem hi] at this
      have HCM : Hid (chk tn hn M = 0) := chk_means ht1 ht2 hh1 hh2 hMl (hmb 0 15 hL15)
      have HMB := Lib.hid hmb
      have HMM := Lib.hid (And.intro hMl hMM)
      have hm1 : 1 ≤ M.length := by omega
      have hm2 : M.length ≤ 4096 := by omega
      have hmz : ((M.length : Int) == 0) = false := by rw [beq_eq_false_iff_ne]; omega
      have hlz : ((L.length : Int) == 0) = false := by rw [beq_eq_false_iff_ne]; omega
      have HSM := Lib.hid hslM
      rcases hslM.2 with ⟨h0, _⟩ | ⟨bm, om, cm, rfl, _, _, _, hltm, hcellm⟩
      · omega
      have HCEM := Lib.hid (ints_cell hcellm)
      have HK0 := Lib.hid hk
      have HCK := Lib.hid (fun wx (h : Below w.heap.size w wx) => check_any W H _ L wx (HL.out.below h))
      rw [hk] at HCK
      clear hk hmb hMM hMl hL15 hslM hcellm hWH hWH2 hM1 hM2 hcut
      unfold imgV
      go_wp2_with fail
      refine (HCK.out _ (HW4.out.alloc HW4.out.size _)).mono ?_
      rintro e w5 ⟨rfl, hb⟩
      have HW5 : Hid (Below w.heap.size w w5) := (HW4.out.alloc HW4.out.size _).trans (hb.mono (by simp; omega))
      have HX5 : Hid (Below w4.heap.size w4 w5) := (Below.refl w4.heap.size w4).alloc (Nat.le_refl _) _ |>.trans (hb.mono (by simp))
      have hI5 : w5.heap[w4.heap.size]? = some (.cells #[.int .i64 tn, .int .i64 hn, .slice (some ⟨bm, om, none⟩) M.length cm] 29 (0, 0)) := (hb.block _ (by simp)).trans (heap_alloc_new w4 _)
      have HB5 : Bx w5 w.heap.size W H (.slice (some ⟨b, off, none⟩) L.length lc) way ww wh := Bx.below ⟨a0, a1, a2, b0, b1, b2⟩ HX5.out z41
      have c45 := (HX5.out.cell (p := ⟨w2.heap.size, 4, none⟩) z42).trans c4
      have c55 := (HX5.out.cell (p := ⟨w2.heap.size, 5, none⟩) z42).trans c5
      have i0 : w5.cell? ⟨w4.heap.size, 0, none⟩ = some (.int .i64 tn) := cellT hI5 rfl
      have i1 : w5.cell? ⟨w4.heap.size, 1, none⟩ = some (.int .i64 hn) := cellT hI5 rfl
      have i2 : w5.cell? ⟨w4.heap.size, 2, none⟩ = some (.slice (some ⟨bm, om, none⟩) M.length cm) := cellT hI5 rfl
      have z5 : w4.heap.size < w5.heap.size := by have := hb.size; simp only [World.size_alloc] at this; omega
      clear hb a0 a1 a2 b0 b1 b2 c4 c5 hI5
      obtain ⟨a0, a1, a2, b0, b1, b2⟩ := HB5
      go_wp2_with fail
      refine (check_any tn hn _ M w5 (HSM.out.below HX5.out)).mono ?_
      rintro e w6 ⟨rfl, hb⟩
      rw [HCM.out]
      have HW6 : Hid (Below w.heap.size w w6) := HW5.out.trans (hb.mono HW5.out.size)
      have HX6 : Hid (Below w4.heap.size w4 w6) := HX5.out.trans (hb.mono HX5.out.size)
      have HB6 : Bx w6 w.heap.size W H (.slice (some ⟨b, off, none⟩) L.length lc) way ww wh := Bx.below ⟨a0, a1, a2, b0, b1, b2⟩ hb (by omega)
      have c46 := (hb.cell (p := ⟨w2.heap.size, 4, none⟩) (show w2.heap.size < w5.heap.size by omega)).trans c45
      have c56 := (hb.cell (p := ⟨w2.heap.size, 5, none⟩) (show w2.heap.size < w5.heap.size by omega)).trans c55
      have j0 := (hb.cell (p := ⟨w4.heap.size, 0, none⟩) z5).trans i0
      have j1 := (hb.cell (p := ⟨w4.heap.size, 1, none⟩) z5).trans i1
      have j2 := (hb.cell (p := ⟨w4.heap.size, 2, none⟩) z5).trans i2
      clear hb a0 a1 a2 b0 b1 b2 c45 c55 i0 i1 i2
      obtain ⟨a0, a1, a2, b0, b1, b2⟩ := HB6
      have hxL : ∀ i, i < L.length → w6.cell? ⟨b, off + i, none⟩ = some (.int .i64 (L.getD i 0)) := fun i hi => (HW6.out.cell (p := ⟨b, off + i, none⟩) hlt).trans (HCE.out i hi)
      have hxM : ∀ i, i < M.length → w6.cell? ⟨bm, om + i, none⟩ = some (.int .i64 (M.getD i 0)) := fun i hi => (HX6.out.cell (p := ⟨bm, om + i, none⟩) hltm).trans (HCEM.out i hi)
      have HXL := Lib.hid hxL
      have HXM := Lib.hid hxM
      clear hxL hxM
      by_cases hs : (tn : Int) = W ∧ (hn : Int) = H
      · have hs1 : ((tn : Int) == W) = true := by rw [beq_iff_eq]; exact hs.1
        have hs2 : ((hn : Int) == H) = true := by rw [beq_iff_eq]; exact hs.2
        have hXY : X = 0 ∧ Y = 0 ∧ cw = W ∧ ch = H := by
          have h := HCut.out
          have := h.t1; have := h.x1; have := h.x0; have := h.s1; have := h.y1; have := h.y0
          omega
        have hME : M = L := by
          have h := HMM.out
          obtain ⟨rfl, rfl, rfl, rfl⟩ := hXY
          exact means_same hs.1.symm hs.2.symm HN.out h.1 ht1 hh1 _ (fun _ _ => rfl) h.2
        have hEQ : Hid ((M.take M.length == L.take L.length) = true) := by rw [hME]; exact beq_self_eq_true _
        clear hs hXY hME
        go_wp2_with fail
        refine (Try.slices_Equal_int bm om M.length cm b off L.length lc M L w6 (Nat.le_refl _) (Nat.le_refl _) (by omega) (by omega) HXM.out HXL.out).mono ?_
        rintro e w7 ⟨rfl, q, rfl⟩
        rw [hEQ.out]
        go_wp2_with fail
        go_ret
        exact ⟨rfl, HW6.out.trans ⟨rfl, rfl, rfl, Nat.le_refl _, fun _ _ => rfl⟩⟩
      · have hne1 : M ≠ [] := fun h => by rw [h] at hm1; simp at hm1
        have hne2 : L ≠ [] := fun h => by rw [h] at hL1; simp at hL1
        have mL := maxOf_mem L hne2
        have nL := minOf_mem L hne2
        have hM := HMB.out (Lib.minOf L) (Lib.maxOf L) (fun z hz => ⟨nL.1 z hz, mL.1 z hz⟩)
        have hAB0 : Lib.maxOf M ≤ Lib.maxOf L := (hM _ (maxOf_mem M hne1).2).2
        have hCD0 : Lib.minOf L ≤ Lib.minOf M := (hM _ (minOf_mem M hne1).2).1
        have CA : Hid (∀ n, Calls Try.prog 13 #[.slice (some ⟨bm, om, none⟩) M.length cm] (w6.drewN n) fun e w' => e = .returned (.int .i64 (Lib.maxOf M)) ∧ w' = w6.drewN n) := fun n => by
          have := Try.slices_Max_int bm om M.length cm M (w6.drewN n) (by omega) (Nat.le_refl _) (by omega) HXM.out
          rwa [List.take_length] at this
        have CB : Hid (∀ n, Calls Try.prog 13 #[.slice (some ⟨b, off, none⟩) L.length lc] (w6.drewN n) fun e w' => e = .returned (.int .i64 (Lib.maxOf L)) ∧ w' = w6.drewN n) := fun n => by
          have := Try.slices_Max_int b off L.length lc L (w6.drewN n) (by omega) (Nat.le_refl _) (by omega) HXL.out
          rwa [List.take_length] at this
        have CC : Hid (∀ n, Calls Try.prog 14 #[.slice (some ⟨bm, om, none⟩) M.length cm] (w6.drewN n) fun e w' => e = .returned (.int .i64 (Lib.minOf M)) ∧ w' = w6.drewN n) := fun n => by
          have := Try.slices_Min_int bm om M.length cm M (w6.drewN n) (by omega) (Nat.le_refl _) (by omega) HXM.out
          rwa [List.take_length] at this
        have CD : Hid (∀ n, Calls Try.prog 14 #[.slice (some ⟨b, off, none⟩) L.length lc] (w6.drewN n) fun e w' => e = .returned (.int .i64 (Lib.minOf L)) ∧ w' = w6.drewN n) := fun n => by
          have := Try.slices_Min_int b off L.length lc L (w6.drewN n) (by omega) (Nat.le_refl _) (by omega) HXL.out
          rwa [List.take_length] at this
        clear mL nL hM hne1 hne2
        generalize Lib.maxOf M = qA at *
        generalize Lib.maxOf L = qB at *
        generalize Lib.minOf M = qC at *
        generalize Lib.minOf L = qD at *
        have hAB : decide (qA ≤ qB) = true := by simpa using hAB0
        have hCD : decide (qD ≤ qC) = true := by simpa using hCD0
        have tests : ((tn : Int) == W) = false ∨ (((tn : Int) == W) = true ∧ ((hn : Int) == H) = false) := by
          by_cases h1 : (tn : Int) = W
          · right
            rw [beq_iff_eq, beq_eq_false_iff_ne]
            exact ⟨h1, fun h2 => hs ⟨h1, h2⟩⟩
          · left
            rw [beq_eq_false_iff_ne]
            exact h1
        clear hs
        rcases tests with hs1 | ⟨hs1, hs2⟩
        all_goals
          go_wp2_with fail
          go_quiet ((first | (go_at_call 13; first | (with_reducible exact Calls.quiet_of_same (CA.out _)) | (with_reducible exact Calls.quiet_of_same (CB.out _))) | (go_at_call 14; first | (with_reducible exact Calls.quiet_of_same (CC.out _)) | (with_reducible exact Calls.quiet_of_same (CD.out _)))))
          go_wp2_with fail
          go_ret
          exact ⟨rfl, HW6.out.trans ⟨rfl, rfl, rfl, Nat.le_refl _, fun _ _ => rfl⟩⟩
    · have hne : (chk W H L != 0) = true := by rw [bne_iff_ne]; exact hk
      have HL3 := HL.out.below (HW2.out.alloc HW2.out.size (.cells #[.int .i64 X, .int .i64 Y, .int .i64 cw, .int .i64 ch, .int .i64 tn, .int .i64 hn] 33))
      refine (render_bad W H X Y cw ch tn hn _ L _ HL3 hk).mono ?_
      rintro e w4 ⟨rfl, hb⟩
      have HB4 : Bx w4 w.heap.size W H (.slice la ln lc) way ww wh := HB2.out.below ((Below.refl w2.heap.size w2).alloc (Nat.le_refl _) _ |>.trans (hb.mono (by simp))) z1
      have HW4 : Hid (Below w.heap.size w w4) := (HW2.out.alloc HW2.out.size _).trans (hb.mono (by simp; omega))
      have hz4 := hb.size
      simp only [World.size_alloc] at hz4
      have z40 : w.heap.size < w4.heap.size := by omega
      have z41 : w.heap.size + 1 < w4.heap.size := by omega
      clear hb a0 a1 a2 b0 b1 b2
      obtain ⟨a0, a1, a2, b0, b1, b2⟩ := HB4
      have hkk : (chk W H L == chk W H L) = true := by simp
      have HCK := Lib.hid (fun wx (h : Below w.heap.size w wx) => check_any W H _ L wx (HL.out.below h))
      generalize chk W H L = k at *
      unfold imgV
      go_wp2_with fail
      refine (HCK.out _ (HW4.out.alloc HW4.out.size _)).mono ?_
      rintro e w5 ⟨rfl, hb⟩
      have HW5 : Hid (Below w.heap.size w w5) := (HW4.out.alloc HW4.out.size _).trans (hb.mono (by simp; omega))
      have HB5 : Bx w5 w.heap.size W H (.slice la ln lc) way ww wh := Bx.below ⟨a0, a1, a2, b0, b1, b2⟩ ((Below.refl w4.heap.size w4).alloc (Nat.le_refl _) _ |>.trans (hb.mono (by simp))) z41
      clear hb a0 a1 a2 b0 b1 b2
      obtain ⟨a0, a1, a2, b0, b1, b2⟩ := HB5
      go_wp2_with fail
      refine (HCK.out _ HW5.out).mono ?_
      rintro e w6 ⟨rfl, hb⟩
      go_wp2_with fail
      go_ret
      exact ⟨by rw [← hkk]; rfl, HW5.out.trans (hb.mono HW5.out.size)⟩

theorem open_image {H : Type} {enc : TypeId × Value → H} {W : World} {base : Nat} {v : Value} {d : DataW H} {p : List MemPlace} (hv : Value.okWide Try.prog W .any base 29 v) (h : DataW.Trod enc Try.prog W 0 (fun _ => true) true 29 v d p) :
    ∃ (Wd Hg : Int) (lv : Value) (L : List Int), v = .agg #[.int .i64 Wd, .int .i64 Hg, lv] ∧ Sl 1 W lv L.length (L.map (Value.int .i64)) := by
  obtain ⟨c0, c1, c2, y0, y1, y2, m, rfl, _, _, h0, h1, h2⟩ := Joins.open_agg3 Try.underlying29 (by kernel_rfl) (show Try.prog.cellsOf 29 = 3 by kernel_rfl) hv h
  obtain ⟨a, e0, _⟩ := DataW.trod_int Try.underlying3 h0
  obtain ⟨b, e1, _⟩ := DataW.trod_int Try.underlying3 h1
  obtain ⟨L, hL, _⟩ := open_sl_ints Try.underlying27 Try.underlying3 (by kernel_rfl) h2
  simp only [List.cons.injEq, and_true] at e0 e1
  subst e0 e1
  exact ⟨a, b, c2, L, rfl, hL⟩
theorem open_want {H : Type} {enc : TypeId × Value → H} {W : World} {base : Nat} {v : Value} {d : DataW H} {p : List MemPlace} (hv : Value.okWide Try.prog W .any base 31 v) (h : DataW.Trod enc Try.prog W 0 (fun _ => true) true 31 v d p) :
    ∃ (x y z : Int), v = .agg #[.int .i64 x, .int .i64 y, .int .i64 z] := by
  obtain ⟨c0, c1, c2, y0, y1, y2, m, rfl, _, _, h0, h1, h2⟩ := Joins.open_agg3 Try.underlying31 (by kernel_rfl) (show Try.prog.cellsOf 31 = 3 by kernel_rfl) hv h
  obtain ⟨a, e0, _⟩ := DataW.trod_int Try.underlying3 h0
  obtain ⟨b, e1, _⟩ := DataW.trod_int Try.underlying3 h1
  obtain ⟨c, e2, _⟩ := DataW.trod_int Try.underlying3 h2
  simp only [List.cons.injEq, and_true] at e0 e1 e2
  subst e0 e1 e2
  exact ⟨a, b, c, rfl⟩

set_option maxRecDepth 100000 in
theorem lifted (os : Os) (started : os.Started) (H : Type) (enc : TypeId × Value → H) :
    ReturnsInHanded {} Try.checked os 4 .any (Rows.imageFitsSpec.pre6 enc Try.prog Try.f4 Rows.imageFitsRow.domain false) (Rows.imageFitsSpec.post enc Try.prog Try.f4 false true false false) := by
  refine returnsInHanded_of_change (C := Try.checked) own started (by kernel_rfl) Try.func4
    (ChangeSpec.witness6 (enc := enc) (C := Try.checked) false ⟨#[], #[.agg #[.int .i64 0, .int .i64 0, .slice none 0 0], .agg #[.int .i64 0, .int .i64 0, .int .i64 0]], []⟩ 8 (by kernel_rfl) (by kernel_rfl) (by kernel_rfl) (by kernel_rfl)) ?_
  intro W base args ds gs before hval0 hW hcnd _
  have hval : ∀ (j : Nat) t v, Try.f4.params[j]? = some t → args[j]? = some v → Value.okWide Try.prog W .any base t v := hval0
  have hW' := hW
  obtain ⟨p, q, hA0, hV, rfl, hfz, hnd⟩ := hW
  have hA : DataW.TrodAll enc Try.prog W 0 (fun _ => true) true Try.f4.params.toList args.toList ds p := hA0
  rw [Try.params4] at hA hval
  obtain ⟨v0, vs0, d0, ds0, p0, q0, hargs, rfl, rfl, h0, r0⟩ := trodAll_cons hA
  obtain ⟨v1, vs1, d1, ds1, p1, q1, rfl, rfl, rfl, h1, r1⟩ := trodAll_cons r0
  obtain ⟨rfl, rfl, rfl⟩ := trodAll_nil r1
  obtain rfl : args = #[v0, v1] := by cases args; simp_all
  obtain ⟨rfl, rfl⟩ := trodVars_none hV
  obtain ⟨Wd, Hg, lv, L, rfl, hL⟩ := open_image (hval 0 29 v0 rfl rfl) h0
  obtain ⟨x, y, z, rfl⟩ := open_want (hval 1 31 v1 rfl rfl) h1
  clear hA0 hval0
  simp only [List.append_nil] at hW'
  refine (walk Wd Hg lv L x y z W hL).mono fun e W' ⟨he, hg⟩ => ?_
  subst he
  exact ⟨_, rfl, law_post (tb := 4) (by kernel_rfl) (by kernel_rfl) rfl (by kernel_rfl) Try.underlying4 (by simpa using hW') rfl rfl rfl hg⟩

theorem over : Rows.imageFitsRow.holds Try.pinned (OpenSpec.ofChange Rows.imageFitsSpec) :=
  OpenClaim.holds_of_wide 4 Try.f4 rfl rfl rfl rfl rfl rfl rfl ⟨rfl, rfl, rfl, rfl, rfl⟩ rfl rfl rfl rfl rfl (by kernel_rfl) Try.func4 (by kernel_rfl)
    (of_decide_eq_true (by kernel_rfl)) (by unfold Func.isWrapper; first | (rw [if_pos (by decide +kernel)]; kernel_rfl) | (rw [if_neg (by decide +kernel)]; exact ⟨rfl, rfl⟩))
    (fun os started H enc _ => lifted os started H enc)

/-- The statement. -/
theorem proved : Rows.ImageFitsSaid :=
  over
#print axioms proved
end Go.Proofs.Ytjmnnnjddbmiaaa.LFits
