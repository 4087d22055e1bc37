/- ConfFills: the walk. Conditions: at most 2^20 values in the value and in each default; the cell of MaxLen. -/
import Derived.Test.YtekknckdeedjnaaGreatDoorFlD
import Derived.Test.YtekknckdeedjnaaGreatDoorFlG
import Derived.Test.YtekknckdeedjnaaGreatDoorKeO
import Derived.Test.YtekknckdeedjnaaGreatDoorAwC3
namespace Go.Proofs.YtekknckdeedjnaaGreatDoor
open Go.RowKit Mh
set_option linter.unusedVariables false

theorem cmp_same (X : V) : (V.cmp X X == 0) = true := by rw [cmp_self _ X (Nat.lt_succ_self _)]; rfl
set_option maxRecDepth 100000 in
set_option maxHeartbeats 16000000 in
theorem fills_walk (fs : List Mh.Fd) (fv : Value) (sb : Bool) (X : V) (cs : List Value) (w : World) (m : Int) (hm : w.cell? ⟨1, 0, none⟩ = some (.int .i64 m)) (hF : FsAt w fv fs) (hX : VAt w X cs) (hn : ∀ f ∈ fs, f.dv.nodes ≤ 2097152) (nX : X.nodes ≤ 2097152) :
    Calls Tryz.prog 4 #[.agg #[fv, .bool sb], .agg cs.toArray] w fun e w' => e = .returned (.bool true) ∧ Below w.heap.size w w' := by
  have HML : Hid (∀ w', Below w.heap.size w w' → w'.cell? ⟨1, 0, none⟩ = some (.int .i64 m)) := fun w' hb => (hb.cell (World.block_lt_of_cell? w _ hm)).trans hm
  have HA := Lib.hid (fun w' => awakeConf_any w')
  have CF := Lib.hid (fun (Y : V) (es : List Value) w' (hb : Below w.heap.size w w') (hY : VAt w' Y es) (nY : Y.nodes ≤ 2097152) => fill_any fs fv sb Y es w' m (HML.out w' hb) (hF.keep hb) hY hn nY)
  have CG := Lib.hid (fun (Y : V) (es : List Value) (r : ByteArray) w' (hb : Below w.heap.size w w') (hY : VAt w' Y es) (hok : Y.okc) (hr : r.size ≤ maxLen) => get_route Y es r w' m (HML.out w' hb) hr hY hok (by have := hok.nodes; omega))
  have CM := Lib.hid (fun (Y : V) (es fs' : List Value) w' (hY : VAt w' Y es) (hZ : VAt w' Y fs') => same_any Y Y es fs' w' hY hZ)
  have CZ := Lib.hid (fun w' => same_any V.nil V.nil zv zv w' (zv_at _) (zv_at _))
  rw [cmp_same] at CZ
  simp only [cmp_same] at CM
  unfold zv at CZ
  obtain ⟨ao, ac, rfl, hlm, hfield⟩ := hF.field
  have CF1 := Lib.hid (fun w' (hb : Below w.heap.size w w') => CF.out X cs w' hb (hX.keep hb) nX)
  obtain ⟨xa, xc, xk, xkc, rfl, _⟩ := hX.opened
  rw [vcs_arr] at CF1
  rw [vcs_arr]
  have HC := Lib.hid hfield
  have HB0 : Hid (Below w.heap.size w ((w.alloc (.cells #[.slice ao fs.length ac, .bool sb] 36)).alloc (box6 X xa xc xk xkc))) := ((Below.refl w.heap.size w).alloc (Nat.le_refl _) _).alloc (by simp) _
  have HS0 : Hid (((w.alloc (.cells #[.slice ao fs.length ac, .bool sb] 36)).alloc (box6 X xa xc xk xkc)).heap[w.heap.size]? = some (.cells #[.slice ao fs.length ac, .bool sb] 36)) := (heap_alloc_old _ _ (by simp)).trans (heap_alloc_new _ _)
  have HX0 : Hid (((w.alloc (.cells #[.slice ao fs.length ac, .bool sb] 36)).alloc (box6 X xa xc xk xkc)).heap[w.heap.size + 1]? = some (box6 X xa xc xk xkc)) := heap_new_at (by simp)
  unfold box6 at HB0 HS0 HX0
  unfold maxLen at hlm
  clear hfield hF hX hm hn nX
  go_enter Tryz.func4, Tryz.ntmps4
  go_wp2_with fail
  refine (HA.out _).mono ?_
  rintro e w1 ⟨rfl, hb1⟩
  have HS1 := Lib.hid ((hb1.block _ (by simp <;> omega)).trans HS0.out)
  have HX1 := Lib.hid ((hb1.block _ (by simp <;> omega)).trans HX0.out)
  have HB1 : Hid (Below w.heap.size w w1) := HB0.out.trans (hb1.mono (by simp <;> omega))
  have hz1 : w.heap.size + 2 ≤ w1.heap.size := by have := hb1.size; simp at this; omega
  obtain ⟨x0, x1, x2, x3, x4, x5⟩ := six_of_block HX1.out
  have q0 := cellT HS1.out (i := 0) rfl
  have q1 := cellT HS1.out (i := 1) rfl
  have CF2 := Lib.hid (CF1.out w1 HB1.out)
  clear hb1 HS0 HX0 HB0 HA CF1
  go_wp2_with fail
  refine CF2.out.mono ?_
  rintro e w2 ⟨ds, c, x, rfl, hb2, hfo, hway⟩
  have HB2 : Hid (Below w.heap.size w w2) := HB1.out.trans (hb2.mono (by omega))
  have HS2 := Lib.hid ((hb2.block _ (by omega)).trans HS1.out)
  have hz2 : w.heap.size + 2 ≤ w2.heap.size := by have := hb2.size; omega
  have HFO := Lib.hid hfo
  clear x0 x1 x2 x3 x4 x5 q0 q1 HS1 HX1 HB1 CF2 hb2 hfo
  rcases hway with ⟨hc, rfl⟩ | ⟨rfl, hx⟩
  · have hq : (c != 0) = true := by rw [bne_iff_ne]; exact hc
    have HB3 : Hid (Below w.heap.size w (w2.alloc box0)) := HB2.out.alloc (by omega) _
    unfold box0 at HB3
    unfold zv
    clear hc CM CG CF HS2 HML HFO HC
    go_wp2_with fail
    refine (CZ.out _).mono ?_
    rintro e w3 ⟨rfl, hb3⟩
    have HB4 : Hid (Below w.heap.size w w3) := HB3.out.trans (hb3.mono HB3.out.size)
    clear hb3 HB3 CZ
    go_wp2_with fail
    go_ret
    exact ⟨rfl, HB4.out⟩
  · obtain ⟨hfo1, hXo, hxo, hfa⟩ := HFO.out.1 rfl
    obtain ⟨sa, sc, sk, skc, rfl, _⟩ := hx.opened
    have hB3 : Below w2.heap.size w2 (w2.alloc (box6 x sa sc sk skc)) := (Below.refl _ w2).alloc (Nat.le_refl _) _
    have HB3 : Hid (Below w.heap.size w (w2.alloc (box6 x sa sc sk skc))) := HB2.out.trans (hB3.mono (by omega))
    have HD3 := Lib.hid (hx.keep hB3)
    have CF3 := Lib.hid (CF.out x (vcs x sa sc sk skc) _ HB3.out HD3.out (by have := hxo.nodes; omega))
    have HS3 := Lib.hid ((hB3.block _ (by omega)).trans HS2.out)
    have HX3 : Hid ((w2.alloc (box6 x sa sc sk skc)).heap[w2.heap.size]? = some (box6 x sa sc sk skc)) := heap_alloc_new _ _
    have HF1 := Lib.hid hfo1
    have HXO := Lib.hid hxo
    have HFA := Lib.hid hfa
    unfold box6 at HB3 HD3 CF3 HS3 HX3
    rw [vcs_arr] at CF3
    rw [vcs_arr]
    have q0 := cellT HS3.out (i := 0) rfl
    have q1 := cellT HS3.out (i := 1) rfl
    clear hB3 hx hfo1 hXo hxo hfa HS2 HFO CF CZ HB2
    go_wp2_with fail
    refine CF3.out.mono ?_
    rintro e w4 ⟨es, c, y, rfl, hb4, hfo, hway⟩
    obtain ⟨rfl, rfl⟩ := hfo.2 HF1.out HXO.out HFA.out
    rcases hway with ⟨hc, _⟩ | ⟨_, hy⟩
    · exact absurd rfl hc
    obtain ⟨ya, yc, yk, ykc, rfl, _⟩ := hy.opened
    have hz4 : w2.heap.size + 1 ≤ w4.heap.size := by have := hb4.size; simp at this; omega
    have hB5 : Below w4.heap.size w4 (w4.alloc (box6 y ya yc yk ykc)) := (Below.refl _ w4).alloc (Nat.le_refl _) _
    have HB5 : Hid (Below w.heap.size w (w4.alloc (box6 y ya yc yk ykc))) := (HB3.out.trans (hb4.mono HB3.out.size)).trans (hB5.mono (by omega))
    have HS5 := Lib.hid ((hB5.block _ (by omega)).trans ((hb4.block _ (by simp <;> omega)).trans HS3.out))
    have HX5 := Lib.hid ((hB5.block _ (by omega)).trans ((hb4.block _ (by simp <;> omega)).trans HX3.out))
    have HD5 := Lib.hid ((HD3.out.keep hb4).keep hB5)
    have CM5 := Lib.hid (CM.out y _ _ _ HD5.out (hy.keep hB5))
    unfold box6 at HB5 HS5 HX5 HD5 CM5
    rw [vcs_arr, vcs_arr] at CM5
    rw [vcs_arr]
    obtain ⟨x0, x1, x2, x3, x4, x5⟩ := six_of_block HX5.out
    clear hb4 hB5 hfo hy HB3 HD3 HS3 HX3 CF3 CM q0 q1
    go_wp2_with fail
    refine CM5.out.mono ?_
    rintro e w6 ⟨rfl, hb6⟩
    have hz6 : w4.heap.size + 1 ≤ w6.heap.size := by have := hb6.size; simp at this; omega
    have HB6 : Hid (Below w.heap.size w w6) := HB5.out.trans (hb6.mono HB5.out.size)
    have HS6 := Lib.hid ((hb6.block _ (by simp <;> omega)).trans HS5.out)
    have HX6 := Lib.hid ((hb6.block _ (by simp <;> omega)).trans HX5.out)
    have HD6 := Lib.hid (HD5.out.keep hb6)
    have q0 := cellT HS6.out (i := 0) rfl
    have q1 := cellT HS6.out (i := 1) rfl
    clear x0 x1 x2 x3 x4 x5 hb6 HB5 HS5 HX5 HD5 CM5
    go_wp2_with fail
    go_loopw [42] (fun i wr => ∃ j : Nat, i = .int .i64 j ∧ Hid (j ≤ fs.length ∧ Below w6.heap.size w6 wr)) (fun i _ => fs.length - (intOf i).toNat)
    case atStart => exact ⟨0, rfl, ⟨Nat.zero_le _, Below.refl _ _⟩⟩
    case round =>
      obtain ⟨j, rfl, HJ⟩ := hrel
      have hjl := HJ.out.1
      have hzr := HJ.out.2.size
      by_cases hj : j < fs.length
      · have HBW : Hid (Below w.heap.size w wr) := HB6.out.trans (HJ.out.2.mono HB6.out.size)
        obtain ⟨bb, off, oa, oc, ia, ic, ka, kc, rfl, hlt, hfd, hcl⟩ := HC.out j hj
        obtain ⟨y0, y1, y2, y3, y4, y5, y6, y7, y8, y9, y10, y11, y12⟩ := thirteen_later HBW.out hlt hcl
        have HFJ := Lib.hid (HFA.out fs[j] (List.getElem_mem hj))
        have hrz := hfd.rt
        generalize fs[j] = f at *
        have hB7 : Below wr.heap.size wr (wr.alloc (box13 f oa oc ia ic ka kc 39)) := (Below.refl _ wr).alloc (Nat.le_refl _) _
        have HB7 := Lib.hid (HJ.out.2.trans (hB7.mono HJ.out.2.size))
        have HBW7 := Lib.hid (HBW.out.trans (hB7.mono HBW.out.size))
        have HF7 : Hid ((wr.alloc (box13 f oa oc ia ic ka kc 39)).heap[wr.heap.size]? = some (box13 f oa oc ia ic ka kc 39)) := heap_alloc_new _ _
        have HX7 := Lib.hid ((hB7.block _ (by omega)).trans ((HJ.out.2.block _ (by omega)).trans HX6.out))
        have CG7 := Lib.hid (CG.out y _ f.route _ HBW7.out ((HD6.out.keep HJ.out.2).keep hB7) HXO.out hrz)
        unfold box13 at HB7 HBW7 HF7 HX7 CG7
        rw [fcs_arr] at HB7 HBW7 HF7 HX7 CG7
        rw [vcs_arr] at CG7
        obtain ⟨x0, x1, x2, x3, x4, x5⟩ := six_of_block HX7.out
        clear hlt hcl hfd hB7 HC HBW
        go_wp2_with fail
        refine CG7.out.mono ?_
        rintro e w8 ⟨gs, c, rfl, ⟨z, za, zc, zk, zkc, rfl⟩, hb8, hc8⟩
        rw [vcs_arr]
        have hz8 : wr.heap.size + 1 ≤ w8.heap.size := by have := hb8.size; simp at this; omega
        have hB9 : Below w8.heap.size w8 (w8.alloc (box6 z za zc zk zkc)) := (Below.refl _ w8).alloc (Nat.le_refl _) _
        have HB9 : Hid (Below w6.heap.size w6 (w8.alloc (box6 z za zc zk zkc))) := (HB7.out.trans (hb8.mono HB7.out.size)).trans (hB9.mono (by have := HB7.out.size; simp at this; omega))
        have HF9 := Lib.hid ((hB9.block _ (by omega)).trans ((hb8.block _ (by simp)).trans HF7.out))
        have HJ2 : Hid (j + 1 ≤ fs.length ∧ _) := ⟨hj, HB9.out⟩
        unfold box6 at HF9 HJ2
        obtain ⟨y0, y1, y2, y3, y4, y5, y6, y7, y8, y9, y10, y11, y12⟩ := thirteen_of_block HF9.out
        have HC8 : Hid (f.dv.kd ≠ 0 → c = 0) := fun h => hc8 (HFJ.out h)
        clear hb8 hc8 hB9 HB9 HF9 HB7 HBW7 HF7 HX7 CG7 HFJ x0 x1 x2 x3 x4 x5
        by_cases hd : f.dv.kd = 0
        · have hq : (f.dv.kd != 0) = false := by rw [hd]; rfl
          clear hd HC8
          go_wp2_with fail
          go_roundw
          case rel => exact ⟨j + 1, by go_num, HJ2⟩
          case measure => simp [intOf]; omega
        · have hq : (f.dv.kd != 0) = true := by rw [bne_iff_ne]; exact hd
          obtain rfl : c = 0 := HC8.out hd
          clear hd HC8
          go_wp2_with fail
          go_roundw
          case rel => exact ⟨j + 1, by go_num, HJ2⟩
          case measure => simp [intOf]; omega
      · obtain rfl : j = fs.length := by omega
        have HBF : Hid (Below w.heap.size w wr) := HB6.out.trans (HJ.out.2.mono HB6.out.size)
        clear HC HFA HJ
        go_wp2_with fail
        go_ret
        exact ⟨rfl, HBF.out⟩
end Go.Proofs.YtekknckdeedjnaaGreatDoor
