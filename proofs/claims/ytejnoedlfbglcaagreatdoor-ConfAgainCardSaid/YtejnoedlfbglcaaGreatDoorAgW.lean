/- ConfAgain: the walk. Conditions: the cells of strconv.ErrRange and of the powers of ten. -/
import Derived.Test.YtejnoedlfbglcaaGreatDoorRoW
import Derived.Test.YtejnoedlfbglcaaGreatDoorPaS
namespace Go.Proofs.YtejnoedlfbglcaaGreatDoor
open Go.RowKit Mh
set_option linter.unusedVariables false
set_option maxRecDepth 100000 in
set_option maxHeartbeats 16000000 in
theorem again_walk (s : ByteArray) (hs : s.size ≤ maxLen) (w : World) (hev : EvAt w) (ht : Tab10 w) :
    Calls Tryz.prog 5 #[.string s] w fun e w' => e = .returned (.bool true) ∧ Below w.heap.size w w' := by
  have h3 := hev.size
  have HA := Lib.hid (fun w' => awakeConf_any w')
  have C1 := Lib.hid (fun (s : ByteArray) (hs : s.size ≤ maxLen) w' (hb : Below w.heap.size w w') => parse_any s hs w' (hev.keep hb h3))
  have C2 := Lib.hid (fun (X : V) (hn : X.nodes ≤ 1099511627776) (hr : X.rng) (cs : List Value) w' (hb : Below w.heap.size w w') (hX : VAt w' X cs) => print_any X hn hr cs w' hX (ht.next hb))
  have CK := Lib.hid (fun (X : V) (hn : X.nodes ≤ 1099511627776) (cs : List Value) w' (hX : VAt w' X cs) => check_any X hn cs w' hX)
  have CM := Lib.hid (fun (Y : V) (es fs' : List Value) w' (hY : VAt w' Y es) (hZ : VAt w' Y fs') => same_any Y Y es fs' w' hY hZ)
  have CZ := Lib.hid (fun (es : List Value) w' (hX : VAt w' V.nil es) => same_any V.nil V.nil es zv w' hX (zv_at _))
  simp only [cmp_same] at CM CZ
  clear hev ht
  go_enter Tryz.func5, Tryz.ntmps5
  go_wp2_with fail
  refine (HA.out _).mono ?_
  rintro e w1 ⟨rfl, hb1⟩
  have HB1 : Hid (Below w.heap.size w w1) := hb1
  clear hb1 HA
  have HP := Lib.hid (C1.out s hs w1 HB1.out)
  have HOK : Hid (∀ v, parseF s.data.toList = some v → v.okc ∧ v.kd = 6 ∧ v.rng) := fun v h => parse_ok h
  generalize parseF s.data.toList = o at HP HOK
  go_wp2_with fail
  refine HP.out.mono ?_
  rintro e w2 ⟨X, cs, l, c, z, rfl, hb2, hv2, hway⟩
  replace hv2 := hv2.keeps (Keeps.bare _ _)
  obtain ⟨xa, xc, xk, xkc, rfl, _⟩ := hv2.opened
  rw [vcs_arr]
  have hb3 : Below w2.heap.size w2 ((w2.alloc (box6 X xa xc xk xkc)).alloc (.cells #[.int .i64 l, .int .i64 c] 40)) := (below_alloc _ _).alloc (by simp) _
  have hb13 : Below w1.heap.size w1 ((w2.alloc (box6 X xa xc xk xkc)).alloc (.cells #[.int .i64 l, .int .i64 c] 40)) := hb2.trans (hb3.mono hb2.size)
  have HB3 : Hid (Below w.heap.size w ((w2.alloc (box6 X xa xc xk xkc)).alloc (.cells #[.int .i64 l, .int .i64 c] 40))) := HB1.out.trans (hb13.mono HB1.out.size)
  have HX3 : Hid (((w2.alloc (box6 X xa xc xk xkc)).alloc (.cells #[.int .i64 l, .int .i64 c] 40)).heap[w2.heap.size]? = some (box6 X xa xc xk xkc)) := (heap_alloc_old _ _ (by simp)).trans (heap_alloc_new _ _)
  have HV3 := Lib.hid (hv2.keep hb3)
  have HS3 : Hid (((w2.alloc (box6 X xa xc xk xkc)).alloc (.cells #[.int .i64 l, .int .i64 c] 40)).heap.size = w2.heap.size + 2) := by show _ = _; simp
  unfold box6 at HB3 HX3 HV3 HS3
  obtain ⟨r0, r1, r2, r3, r4, r5⟩ := six_of_block HX3.out
  clear hb2 hb3 hb13 hv2 HP HB1
  cases o with
  | none =>
    obtain ⟨hz, rfl⟩ := hway
    have hq : (z != 0) = true := by rw [bne_iff_ne]; exact hz
    have CZ3 := Lib.hid (CZ.out _ _ HV3.out)
    rw [vcs_arr] at CZ3
    unfold zv at CZ3
    clear hz C1 C2 CK CM CZ HOK
    go_wp2_with fail
    refine CZ3.out.mono ?_
    rintro e w4 ⟨rfl, hb4⟩
    have HB4 : Hid (Below w.heap.size w w4) := HB3.out.trans (hb4.mono HB3.out.size)
    clear hb4 HB3 CZ3 r0 r1 r2 r3 r4 r5
    go_wp2_with fail
    go_ret
    exact ⟨rfl, HB4.out⟩
  | some v =>
    obtain ⟨rfl, rfl, rfl, rfl⟩ := hway
    obtain ⟨hok, h6, hr⟩ := HOK.out X rfl
    have hn := hok.nodes
    have b6 : (X.kd != 6) = false := by rw [h6]; rfl
    have HK3 := Lib.hid ((CK.out X (by omega) _ _ HV3.out).mono (R' := fun e w' => e = .returned (.int .i64 0) ∧ Below ((w2.alloc (.cells #[.int .i64 X.kd, .bool X.bo, .int .i64 X.nu, .string X.tx, .slice xa X.its.length xc, .slice xk X.kys.length xkc] 29)).alloc (.cells #[.int .i64 0, .int .i64 0] 40)).heap.size ((w2.alloc (.cells #[.int .i64 X.kd, .bool X.bo, .int .i64 X.nu, .string X.tx, .slice xa X.its.length xc, .slice xk X.kys.length xkc] 29)).alloc (.cells #[.int .i64 0, .int .i64 0] 40)) w') fun e w' ⟨r, he, hr, hb⟩ => ⟨by rw [he, hr.2 hok], hb⟩)
    have HOK1 := Lib.hid (And.intro hok (And.intro h6 hr))
    rw [vcs_arr] at HK3
    clear hok h6 hr HOK CZ CK
    go_wp2_with (go_at_call 13; refine HK3.out.mono ?_; rintro e w4 ⟨rfl, hb4⟩; have HX4 := Lib.hid ((hb4.block _ (by rw [HS3.out]; omega)).trans HX3.out); obtain ⟨s0, s1, s2, s3, s4, s5⟩ := six_of_block HX4.out)
    have HB4 : Hid (Below w.heap.size w w4) := HB3.out.trans (hb4.mono HB3.out.size)
    have HV4 := Lib.hid (HV3.out.keep hb4)
    have hz4 : w2.heap.size + 2 ≤ w4.heap.size := by have := hb4.size; rw [HS3.out] at this; exact this
    have HPR := Lib.hid (C2.out X (by omega) HOK1.out.2.2 _ w4 HB4.out HV4.out)
    rw [vcs_arr] at HPR
    clear hb4 HB3 HX3 HV3 HS3 HK3 C2 r0 r1 r2 r3 r4 r5
    refine HPR.out.mono ?_
    rintro e w5 ⟨⟨t, r, rfl, hway⟩, hb5⟩
    have HB5 : Hid (Below w.heap.size w w5) := HB4.out.trans (hb5.mono HB4.out.size)
    have HX5 := Lib.hid ((hb5.block _ (by omega)).trans HX4.out)
    have HV5 := Lib.hid (HV4.out.keep hb5)
    have hz5 : w2.heap.size + 2 ≤ w5.heap.size := by have := hb5.size; omega
    clear hb5 HB4 HX4 HV4 HPR s0 s1 s2 s3 s4 s5 hz4
    rcases hway with ⟨rfl, hok, h6, hlen, hts⟩ | ⟨hr, rfl, h4⟩
    · have htz : t.size ≤ 50000 := by rw [← hts, Array.length_toList] at hlen; exact hlen
      have hpp := parse_print X hok h6 HOK1.out.2.2 hlen
      rw [← hts] at hpp
      have HP := Lib.hid (C1.out t (by unfold maxLen; omega) w5 HB5.out)
      rw [hpp] at HP
      clear hts hlen hpp hok h6 C1 HOK1 b6
      go_wp2_with fail
      refine HP.out.mono ?_
      rintro e w6 ⟨Y, ds, l, c, z, rfl, hb6, hv6, rfl, rfl, rfl, rfl⟩
      replace hv6 := hv6.keeps (Keeps.bare _ _)
      obtain ⟨ya, yc, yk, ykc, rfl, _⟩ := hv6.opened
      rw [vcs_arr]
      have hb7 : Below w6.heap.size w6 ((w6.alloc (box6 Y ya yc yk ykc)).alloc (.cells #[.int .i64 0, .int .i64 0] 40)) := (below_alloc _ _).alloc (by simp) _
      have hb57 : Below w5.heap.size w5 ((w6.alloc (box6 Y ya yc yk ykc)).alloc (.cells #[.int .i64 0, .int .i64 0] 40)) := hb6.trans (hb7.mono hb6.size)
      have HB7 : Hid (Below w.heap.size w ((w6.alloc (box6 Y ya yc yk ykc)).alloc (.cells #[.int .i64 0, .int .i64 0] 40))) := HB5.out.trans (hb57.mono HB5.out.size)
      have HX7 := Lib.hid ((hb57.block _ (by omega)).trans HX5.out)
      have HY7 : Hid (((w6.alloc (box6 Y ya yc yk ykc)).alloc (.cells #[.int .i64 0, .int .i64 0] 40)).heap[w6.heap.size]? = some (box6 Y ya yc yk ykc)) := (heap_alloc_old _ _ (by simp)).trans (heap_alloc_new _ _)
      have CM7 := Lib.hid (CM.out Y _ _ _ (hv6.keep hb7) (HV5.out.keep hb57))
      unfold box6 at HB7 HY7 CM7 HX7
      rw [vcs_arr, vcs_arr] at CM7
      obtain ⟨r0, r1, r2, r3, r4, r5⟩ := six_of_block HX7.out
      obtain ⟨t0, t1, t2, t3, t4, t5⟩ := six_of_block HY7.out
      clear hb6 hv6 hb7 hb57 HP HB5 HX5 HV5 CM
      go_wp2_with fail
      refine CM7.out.mono ?_
      rintro e w8 ⟨rfl, hb8⟩
      have HB8 : Hid (Below w.heap.size w w8) := HB7.out.trans (hb8.mono HB7.out.size)
      clear hb8 HB7 CM7 r0 r1 r2 r3 r4 r5 t0 t1 t2 t3 t4 t5
      go_wp2_with fail
      go_ret
      exact ⟨rfl, HB8.out⟩
    · obtain rfl : r = 4 := h4 HOK1.out.1 HOK1.out.2.1
      clear hr h4 HOK1 C1 CM b6
      go_wp2_with fail
      go_ret
      exact ⟨rfl, HB5.out⟩
end Go.Proofs.YtejnoedlfbglcaaGreatDoor
