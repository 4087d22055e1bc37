/- ConfRound: the walk. Conditions: how many values the value has; the cells of strconv.ErrRange and of the powers of ten. -/
import Derived.Test.YtejnoedlfbglcaaGreatDoorPsP
import Derived.Test.YtejnoedlfbglcaaGreatDoorPrH
import Derived.Test.YtejnoedlfbglcaaGreatDoorPaP
import Derived.Test.YtejnoedlfbglcaaGreatDoorCmp
import Derived.Test.YtejnoedlfbglcaaGreatDoorAwC
namespace Mh
open Go Go.RowKit
set_option linter.unusedVariables false
theorem wf_okN {n : Int} (h : (Lit.int .i64 n).wf = true) : okN n := by
  unfold okN
  simpa [Lit.wf, IntKind.min, IntKind.max, IntKind.signed, IntKind.bits] using h
theorem VAt.rng1 {w : World} : ∀ (N : Nat) (X : V), sizeOf X < N → ∀ cs, VAt w X cs → X.rng := by
  intro N
  induction N with
  | zero => intro X h; omega
  | succ N ih =>
    rintro ⟨k, b, n, t, is, ks⟩ hX cs h
    unfold VAt at h
    obtain ⟨iv, kv, rfl, h1, h2, h3, h4, rows, h5, h6⟩ := h
    have hm : ∀ x ∈ is, sizeOf x < N := fun x hx => by have := size_item (k := k) (b := b) (n := n) (t := t) (ks := ks) hx; omega
    simp only [V.rng]
    refine ⟨wf_okN h2, ?_⟩
    clear h5 hX
    induction is generalizing rows with
    | nil => simp [V.rngs]
    | cons x xs ihx =>
      unfold VsAt at h6
      obtain ⟨c, r, rfl, hc, hx, hr⟩ := h6
      simp only [V.rngs]
      exact ⟨ih x (hm x (by simp)) c hx, ihx r hr (fun y hy => hm y (by simp [hy]))⟩
theorem VAt.rng {w : World} {X : V} {cs : List Value} (h : VAt w X cs) : X.rng := VAt.rng1 _ X (Nat.lt_succ_self _) cs h
end Mh
namespace Go.Proofs.YtejnoedlfbglcaaGreatDoor
open Go.RowKit Mh
set_option linter.unusedVariables false

theorem below_alloc (w : World) (o : Obj) : Below w.heap.size w (w.alloc o) := (Below.refl _ w).alloc (Nat.le_refl _) _
theorem cmp_same (X : V) : (V.cmp X X == 0) = true := by rw [cmp_self _ X (Nat.lt_succ_self _)]; rfl
set_option maxRecDepth 100000 in
set_option maxHeartbeats 16000000 in
theorem round_walk (X : V) (cs : List Value) (w : World) (hev : EvAt w) (ht : Tab10 w) (hX : VAt w X cs) (hn : X.nodes ≤ 2097152) :
    Calls Tryz.prog 4 #[.agg cs.toArray] w fun e w' => e = .returned (.bool true) ∧ Below w.heap.size w w' := by
  have h3 := hev.size
  have HA := Lib.hid (fun w' => awakeConf_any w')
  have C1 := Lib.hid (fun w' (hb : Below w.heap.size w w') => print_any X (by omega) hX.rng cs w' (hX.keep hb) (ht.next hb))
  have C2 := Lib.hid (fun (s : ByteArray) (hs : s.size ≤ maxLen) w' (hb : Below w.heap.size w w') => parse_any s hs w' (hev.keep hb h3))
  have CM := Lib.hid (fun (Y : V) (es fs' : List Value) w' (hY : VAt w' Y es) (hZ : VAt w' Y fs') => same_any Y Y es fs' w' hY hZ)
  simp only [cmp_same] at CM
  have HRN := Lib.hid hX.rng
  obtain ⟨xa, xc, xk, xkc, rfl, _⟩ := hX.opened
  have HB0 : Hid (Below w.heap.size w (w.alloc (box6 X xa xc xk xkc))) := below_alloc _ _
  have HX0 : Hid ((w.alloc (box6 X xa xc xk xkc)).heap[w.heap.size]? = some (box6 X xa xc xk xkc)) := heap_alloc_new _ _
  have HV0 := Lib.hid (hX.keep HB0.out)
  unfold box6 at HB0 HX0 HV0
  simp only [vcs_arr] at C1 ⊢
  clear hX hev ht
  go_enter Tryz.func4, Tryz.ntmps4
  go_wp2_with fail
  refine (HA.out _).mono ?_
  rintro e w1 ⟨rfl, hb1⟩
  have hX1 := (hb1.block _ (by simp)).trans HX0.out
  have HB1 : Hid (Below w.heap.size w w1) := HB0.out.trans (hb1.mono (by simp))
  have hz1 : w.heap.size < w1.heap.size := by have := hb1.size; simp at this; omega
  have HV1 := Lib.hid (HV0.out.keep hb1)
  obtain ⟨q0, q1, q2, q3, q4, q5⟩ := six_of_block hX1
  have HX1 := Lib.hid hX1
  clear hb1 hX1 HX0 HB0 HV0 HA
  go_wp2_with fail
  refine (C1.out _ HB1.out).mono ?_
  rintro e w2 ⟨⟨s, r, rfl, hway⟩, hb2⟩
  have HB2 : Hid (Below w.heap.size w w2) := HB1.out.trans (hb2.mono (by omega))
  have HX2 := Lib.hid ((hb2.block _ hz1).trans HX1.out)
  have HV2 := Lib.hid (HV1.out.keep hb2)
  have hz2 : w.heap.size < w2.heap.size := by have := hb2.size; omega
  clear q0 q1 q2 q3 q4 q5 hb2 C1 HB1 HX1 HV1 hz1
  rcases hway with ⟨rfl, hok, h6, hlen, hs⟩ | ⟨hr, rfl, _⟩
  · have hsz : s.size ≤ 50000 := by rw [← hs, Array.length_toList] at hlen; exact hlen
    have hpp := parse_print X hok h6 HRN.out hlen
    rw [← hs] at hpp
    have HP := Lib.hid (C2.out s (by unfold maxLen; omega) w2 HB2.out)
    rw [hpp] at HP
    clear hs hlen hpp hok h6 C2
    go_wp2_with fail
    refine HP.out.mono ?_
    rintro e w3 ⟨Y, ds, l, c, z, rfl, hb3, hv3, rfl, rfl, rfl, rfl⟩
    replace hv3 := hv3.keeps (Keeps.bare _ _)
    obtain ⟨ya, yc, yk, ykc, rfl, _⟩ := hv3.opened
    rw [vcs_arr]
    have hz3 : w.heap.size < w3.heap.size := by have := hb3.size; omega
    have hb4 : Below w3.heap.size w3 ((w3.alloc (box6 Y ya yc yk ykc)).alloc (.cells #[.int .i64 0, .int .i64 0] 40)) := (below_alloc _ _).alloc (by simp) _
    have hb24 : Below w2.heap.size w2 ((w3.alloc (box6 Y ya yc yk ykc)).alloc (.cells #[.int .i64 0, .int .i64 0] 40)) := hb3.trans (hb4.mono hb3.size)
    have HB4 : Hid (Below w.heap.size w ((w3.alloc (box6 Y ya yc yk ykc)).alloc (.cells #[.int .i64 0, .int .i64 0] 40))) := HB2.out.trans (hb24.mono (by omega))
    have HX4 := Lib.hid ((hb24.block _ hz2).trans HX2.out)
    have HY4 : Hid (((w3.alloc (box6 Y ya yc yk ykc)).alloc (.cells #[.int .i64 0, .int .i64 0] 40)).heap[w3.heap.size]? = some (box6 Y ya yc yk ykc)) := (heap_alloc_old _ _ (by simp)).trans (heap_alloc_new _ _)
    have HP4 : Hid (((w3.alloc (box6 Y ya yc yk ykc)).alloc (.cells #[.int .i64 0, .int .i64 0] 40)).heap[w3.heap.size + 1]? = some (.cells #[.int .i64 0, .int .i64 0] 40 (0, 0))) := heap_new_at (by simp)
    have CM4 := Lib.hid (CM.out Y _ _ _ (hv3.keep hb4) (HV2.out.keep hb24))
    unfold box6 at HB4 HY4 HP4 CM4 HX4
    rw [vcs_arr, vcs_arr] at CM4
    obtain ⟨r0, r1, r2, r3, r4, r5⟩ := six_of_block HX4.out
    obtain ⟨t0, t1, t2, t3, t4, t5⟩ := six_of_block HY4.out
    obtain ⟨p0, p1, _, _⟩ := two_open HP4.out
    clear hb3 hv3 hb4 hb24 HP HB2 HX2 HV2 CM
    go_wp2_with fail
    refine CM4.out.mono ?_
    rintro e w8 ⟨rfl, hb8⟩
    have HB8 : Hid (Below w.heap.size w w8) := HB4.out.trans (hb8.mono HB4.out.size)
    clear hb8 HB4 CM4 r0 r1 r2 r3 r4 r5 t0 t1 t2 t3 t4 t5 p0 p1
    go_wp2_with fail
    go_ret
    exact ⟨rfl, HB8.out⟩
  · have hq : (r != 0) = true := by rw [bne_iff_ne]; exact hr
    clear hr C2 CM
    go_wp2_with fail
    go_ret
    exact ⟨rfl, HB2.out⟩
end Go.Proofs.YtejnoedlfbglcaaGreatDoor
