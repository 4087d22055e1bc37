/- conf.Routes, and ConfKeeps: the walk. Conditions: at most 2^21 values in each argument; the cell of MaxLen; the library's table of powers of ten is laid. -/
import Derived.Test.YtbnlcnaccainhaaGreatDoorRts
import Derived.Test.YtbnlcnaccainhaaGreatDoorKeY
import Derived.Test.YtbnlcnaccainhaaGreatDoorKeO
import Derived.Test.YtbnlcnaccainhaaGreatDoorAwC3
namespace Go.Proofs.YtbnlcnaccainhaaGreatDoor
open Go.RowKit Mh
set_option linter.unusedVariables false

set_option maxRecDepth 100000 in
set_option maxHeartbeats 8000000 in
theorem routesX_any (X : V) (cs : List Value) (w : World) (hX : VAt w X cs) (hok : X.okc) (hn : X.nodes ≤ 1099511627776) (ht : Tab10 w) :
    Calls Tryz.prog 8 #[.agg cs.toArray] w fun e w' => ∃ v, e = .returned (.tuple #[v, .int .i64 0]) ∧ Sl 1 w' v (V.rts X ⟨#[]⟩).length ((V.rts X ⟨#[]⟩).map Value.string) ∧ Below w.heap.size w w' := by
  have C1 := Lib.hid (fun w' (hb : Below w.heap.size w w') => check_any X hn cs w' (hX.keep hb))
  have C2 := Lib.hid (fun w' (hb : Below w.heap.size w w') => routes_any _ X (Nat.lt_succ_self _) hok.mid cs ⟨#[]⟩ [] (.slice none 0 0) w' w' (hX.keep hb) (ht.next hb) (Below.refl _ _) (World.ownsRow_nil _ _ _ _) (by have := hok.2.1; have : (⟨#[]⟩ : ByteArray).size = 0 := rfl; omega) (by simpa using hn))
  have HO := Lib.hid hok
  obtain ⟨xa, xc, xk, xkc, rfl, _⟩ := hX.opened
  rw [vcs_arr] at C1 C2
  rw [vcs_arr]
  have HB0 : Hid (Below w.heap.size w (w.alloc (box6 X xa xc xk xkc))) := (Below.refl w.heap.size w).alloc (Nat.le_refl _) _
  have HX0 : Hid ((w.alloc (box6 X xa xc xk xkc)).heap[w.heap.size]? = some (box6 X xa xc xk xkc)) := heap_alloc_new _ _
  unfold box6 at HB0 HX0
  clear hX hok hn ht
  go_enter Tryz.func8, Tryz.ntmps8
  go_wp2_with fail
  refine (C1.out _ HB0.out).mono ?_
  rintro e w1 ⟨c, rfl, hc, hb1⟩
  obtain rfl : c = 0 := hc.2 HO.out
  have HX1 := Lib.hid ((hb1.block _ (by simp)).trans HX0.out)
  have HB1 : Hid (Below w.heap.size w w1) := HB0.out.trans (hb1.mono (by simp))
  have C21 := Lib.hid (C2.out _ HB1.out)
  obtain ⟨x0, x1, x2, x3, x4, x5⟩ := six_of_block HX1.out
  clear hc hb1 HX0 HB0 C1 C2
  go_wp2_with fail
  refine C21.out.mono ?_
  rintro e w2 ⟨v, rfl, hown, hg, _⟩
  have HB2 : Hid (Below w.heap.size w w2) := HB1.out.grown hg HB1.out.size (fun k hk => by simp [Value.ownBlock] at hk)
  have HS := Lib.hid (Sl.of_own hown (by decide))
  clear hown hg x0 x1 x2 x3 x4 x5 HX1 C21
  go_wp2_with fail
  go_ret2
  exact ⟨v, rfl, by simpa using HS.out, HB2.out⟩
theorem cmp_same (X : V) : (V.cmp X X == 0) = true := by rw [cmp_self _ X (Nat.lt_succ_self _)]; rfl
theorem set_size {X Y s : V} {l : List St} {r : ByteArray} (nX : X.nodes ≤ 2097152) (nY : Y.nodes ≤ 2097152) (hl : stepsB r = some l) (hs : setV X l Y = some s) : s.nodes ≤ 1073741824 := by
  have h1 := set_nodes l X Y s hs
  have h2 := steps_len hl
  have h3 : (l.length + 1) * (X.nodes + 1) ≤ 402 * 2097153 := Nat.mul_le_mul (by omega) (by omega)
  omega
theorem steps_short {q : ByteArray} {l : List St} (h : stepsB q = some l) : q.size ≤ maxLen := by
  unfold stepsB at h
  split at h
  · cases h
  · unfold maxLen; omega
set_option maxRecDepth 100000 in
set_option maxHeartbeats 8000000 in
theorem keeps_walk (X Y : V) (cs ds : List Value) (r : ByteArray) (w : World) (m : Int) (hm : w.cell? ⟨0, 0, none⟩ = some (.int .i64 m)) (hr : r.size ≤ maxLen) (hX : VAt w X cs) (hY : VAt w Y ds) (nX : X.nodes ≤ 2097152) (nY : Y.nodes ≤ 2097152) (ht : Tab10 w) :
    Calls Tryz.prog 3 #[.agg cs.toArray, .string r, .agg ds.toArray] w fun e w' => e = .returned (.bool true) ∧ Below w.heap.size w w' := by
  have HML : Hid (∀ w', Below w.heap.size w w' → w'.cell? ⟨0, 0, none⟩ = some (.int .i64 m)) := fun w' hb => (hb.cell (World.block_lt_of_cell? w _ hm)).trans hm
  have HA := Lib.hid (fun w' => awakeConf_any w')
  have CS := Lib.hid (fun w' (hb : Below w.heap.size w w') => setX_any X Y cs ds r w' m (HML.out w' hb) hr (hX.keep hb) (hY.keep hb) nX nY)
  have CG : Hid (∀ (s y : V) (q : ByteArray) (l : List St) (es : List Value) w', Below w.heap.size w w' → VAt w' s es → s.okc → s.nodes ≤ 1073741824 → stepsB q = some l → getV s l = some y →
      Calls Tryz.prog 7 #[.agg es.toArray, .string q] w' fun e w'' => ∃ ds : List Value, e = .returned (.tuple #[.agg ds.toArray, .int .i64 0]) ∧ VAt w'' y ds ∧ Below w'.heap.size w' w'') :=
    fun s y q l es w' hb hs hok hn hst hy => get_found s y es q l w' m (HML.out w' hb) (steps_short hst) hs hok (by omega) hst hy
  have CM := Lib.hid (fun (es : List Value) w' (hb : Below w.heap.size w w') (hes : VAt w' Y es) => same_any Y Y ds es w' (hY.keep hb) hes)
  have CR := Lib.hid (fun (s : V) (es : List Value) w' (hb : Below w.heap.size w w') (hs : VAt w' s es) (hok : s.okc) (hn : s.nodes ≤ 1073741824) => routesX_any s es w' hs hok (by omega) (ht.next hb))
  have CZ := Lib.hid (fun w' => same_any V.nil V.nil zv zv w' (zv_at _) (zv_at _))
  have NX := Lib.hid nX
  have NY := Lib.hid nY
  obtain ⟨xa, xc, xk, xkc, rfl, _⟩ := hX.opened
  obtain ⟨ya, yc, yk, ykc, rfl, _⟩ := hY.opened
  rw [vcs_arr, vcs_arr] at CS
  rw [cmp_same] at CZ
  simp only [cmp_same, vcs_arr] at CM
  rw [vcs_arr, vcs_arr]
  unfold zv at CZ
  have HB0 : Hid (Below w.heap.size w ((w.alloc (box6 X xa xc xk xkc)).alloc (box6 Y ya yc yk ykc))) := ((Below.refl w.heap.size w).alloc (Nat.le_refl _) _).alloc (by simp) _
  have HX0 : Hid (((w.alloc (box6 X xa xc xk xkc)).alloc (box6 Y ya yc yk ykc)).heap[w.heap.size]? = some (box6 X xa xc xk xkc)) := (heap_alloc_old _ _ (by simp)).trans (heap_alloc_new _ _)
  have HY0 : Hid (((w.alloc (box6 X xa xc xk xkc)).alloc (box6 Y ya yc yk ykc)).heap[w.heap.size + 1]? = some (box6 Y ya yc yk ykc)) := heap_new_at (by simp)
  unfold box6 at HB0 HX0 HY0
  clear hX hY hm nX nY hr ht
  go_enter Tryz.func3, Tryz.ntmps3
  go_wp2_with fail
  refine (HA.out _).mono ?_
  rintro e w1 ⟨rfl, hb1⟩
  have HX1 := Lib.hid ((hb1.block _ (by simp <;> omega)).trans HX0.out)
  have HY1 := Lib.hid ((hb1.block _ (by simp <;> omega)).trans HY0.out)
  have HB1 : Hid (Below w.heap.size w w1) := HB0.out.trans (hb1.mono (by simp <;> omega))
  have CS1 := Lib.hid (CS.out _ HB1.out)
  have hz1 : w.heap.size + 2 ≤ w1.heap.size := by have := hb1.size; simp at this; omega
  obtain ⟨x0, x1, x2, x3, x4, x5⟩ := six_of_block HX1.out
  obtain ⟨y0, y1, y2, y3, y4, y5⟩ := six_of_block HY1.out
  clear hb1 HX0 HY0 HB0 CS HA
  go_wp2_with fail
  refine CS1.out.mono ?_
  rintro e w2 ⟨es, c, rfl, hb2, hway⟩
  have HB2 : Hid (Below w.heap.size w w2) := HB1.out.trans (hb2.mono (by omega))
  have HY2 := Lib.hid ((hb2.block _ (by omega)).trans HY1.out)
  have hz2 : w.heap.size + 2 ≤ w2.heap.size := by have := hb2.size; omega
  clear x0 x1 x2 x3 x4 x5 y0 y1 y2 y3 y4 y5 HX1 HY1 hb2 CS1 HB1
  rcases hway with ⟨hc, rfl⟩ | ⟨rfl, l, s, hst, hXo, hYo, hset, hso, hs⟩
  · have hq : (c != 0) = true := by rw [bne_iff_ne]; exact hc
    have HB3 : Hid (Below w.heap.size w (w2.alloc box0)) := HB2.out.alloc (by omega) _
    unfold box0 at HB3
    unfold zv
    clear hc CM CG CR HY2 HML
    go_wp2_with fail
    refine (CZ.out _).mono ?_
    rintro e w3 ⟨rfl, hb3⟩
    have HB4 : Hid (Below w.heap.size w w3) := HB3.out.trans (hb3.mono HB3.out.size)
    clear hb3 HB3 CZ
    go_wp2_with fail
    go_ret
    exact ⟨rfl, HB4.out⟩
  · have hgy := set_get l X Y s hXo.2.2 hset
    have hsn := set_size NX.out NY.out hst hset
    have HRF := Lib.hid (routes_found hso)
    obtain ⟨sa, sc, sk, skc, rfl, _⟩ := hs.opened
    have hB3 : Below w2.heap.size w2 (w2.alloc (box6 s sa sc sk skc)) := (Below.refl _ w2).alloc (Nat.le_refl _) _
    have HB3 : Hid (Below w.heap.size w (w2.alloc (box6 s sa sc sk skc))) := HB2.out.trans (hB3.mono HB2.out.size)
    have HD3 := Lib.hid (hs.keep hB3)
    have CG3 := Lib.hid (CG.out s Y r l _ _ HB3.out HD3.out hso hsn hst hgy)
    have HY3 := Lib.hid ((hB3.block _ (by omega)).trans HY2.out)
    have HS3 : Hid ((w2.alloc (box6 s sa sc sk skc)).heap[w2.heap.size]? = some (box6 s sa sc sk skc)) := heap_alloc_new _ _
    have CGL := Lib.hid (fun (y : V) q l' (es : List Value) w' hb hs' hst' hy' => CG.out s y q l' es w' hb hs' hso hsn hst' hy')
    have CRL := Lib.hid (fun w' hb hs' => CR.out s (vcs s sa sc sk skc) w' hb hs' hso hsn)
    unfold box6 at HB3 HD3 CG3 HY3 HS3
    rw [vcs_arr] at CG3 CRL
    rw [vcs_arr]
    clear hB3 hgy hsn hst hXo hYo hset hs HY2 CG CR CZ HML NX NY hso
    go_wp2_with fail
    refine CG3.out.mono ?_
    rintro e w3 ⟨fs, rfl, hfs, hb3⟩
    obtain ⟨fa, fc, fk, fkc, rfl, _⟩ := hfs.opened
    have hz3 : w2.heap.size + 1 ≤ w3.heap.size := by have := hb3.size; simp at this; omega
    have hb4 : Below w3.heap.size w3 (w3.alloc (box6 Y fa fc fk fkc)) := (Below.refl _ w3).alloc (Nat.le_refl _) _
    have HB4 : Hid (Below w.heap.size w (w3.alloc (box6 Y fa fc fk fkc))) := (HB3.out.trans (hb3.mono HB3.out.size)).trans (hb4.mono (by omega))
    have HS4 := Lib.hid ((hb4.block _ (by omega)).trans ((hb3.block _ (by simp <;> omega)).trans HS3.out))
    have HY4 := Lib.hid ((hb4.block _ (by omega)).trans ((hb3.block _ (by simp <;> omega)).trans HY3.out))
    have HD4 := Lib.hid ((HD3.out.keep hb3).keep hb4)
    have CM4 := Lib.hid (CM.out _ _ HB4.out (hfs.keep hb4))
    unfold box6 at HB4 HS4 HY4 HD4 CM4
    rw [vcs_arr] at CM4
    rw [vcs_arr]
    obtain ⟨y0, y1, y2, y3, y4, y5⟩ := six_of_block HY4.out
    clear hb3 hb4 hfs HB3 HD3 HS3 HY3 CG3 CM
    go_wp2_with fail
    refine CM4.out.mono ?_
    rintro e w5 ⟨rfl, hb5⟩
    have hz5 : w3.heap.size + 1 ≤ w5.heap.size := by have := hb5.size; simp at this; omega
    have HB5 : Hid (Below w.heap.size w w5) := HB4.out.trans (hb5.mono HB4.out.size)
    have HS5 := Lib.hid ((hb5.block _ (by simp <;> omega)).trans HS4.out)
    have HD5 := Lib.hid (HD4.out.keep hb5)
    have CR5 := Lib.hid (CRL.out _ HB5.out HD5.out)
    obtain ⟨x0, x1, x2, x3, x4, x5⟩ := six_of_block HS5.out
    clear y0 y1 y2 y3 y4 y5 hb5 HB4 HS4 HY4 HD4 CM4 CRL
    go_wp2_with fail
    refine CR5.out.mono ?_
    rintro e w6 ⟨v, rfl, hsl, hb6⟩
    have HB6 : Hid (Below w.heap.size w w6) := HB5.out.trans (hb6.mono HB5.out.size)
    have HS6 := Lib.hid ((hb6.block _ (by omega)).trans HS5.out)
    have HD6 := Lib.hid (HD5.out.keep hb6)
    have hz6 : w3.heap.size + 1 ≤ w6.heap.size := by have := hb6.size; omega
    obtain ⟨ao, vc, rfl, hvl, hcell⟩ := Sl.shp hsl
    have HC := Lib.hid hcell
    generalize hL : V.rts s ⟨#[]⟩ = L at *
    clear x0 x1 x2 x3 x4 x5 hb6 hsl hcell HB5 HS5 HD5 CR5 hL
    go_wp2_with fail
    go_loopw [52] (fun i wr => ∃ j : Nat, i = .int .i64 j ∧ Hid (j ≤ L.length ∧ Below w6.heap.size w6 wr)) (fun i _ => L.length - (intOf i).toNat)
    case atStart => exact ⟨0, rfl, ⟨Nat.zero_le _, Below.refl _ _⟩⟩
    case round =>
      obtain ⟨j, rfl, HJ⟩ := hrel
      have hjl := HJ.out.1
      unfold maxLen at hvl
      by_cases hj : j < L.length
      · obtain ⟨b, off, rfl, _, _, hlt, hcl⟩ := HC.out (by omega)
        have hcj := hcl j (.string L[j]) (by simp [hj])
        have c0 : wr.cell? ⟨b, off + j, none⟩ = some (.string L[j]) := (HJ.out.2.cell (p := ⟨b, off + j, none⟩) hlt).trans hcj
        obtain ⟨lj, hst, hsome⟩ := HRF.out L[j] (List.getElem_mem hj)
        obtain ⟨y, hy⟩ := Option.isSome_iff_exists.1 hsome
        have CGJ := Lib.hid (CGL.out y L[j] lj _ wr (HB6.out.trans (HJ.out.2.mono HB6.out.size)) (HD6.out.keep HJ.out.2) hst hy)
        obtain ⟨x0, x1, x2, x3, x4, x5⟩ := six_of_block ((HJ.out.2.block _ (by omega)).trans HS6.out)
        rw [vcs_arr] at CGJ
        clear hlt hcl hcj hst hsome hy HC HRF
        go_wp2_with fail
        refine CGJ.out.mono ?_
        rintro e w7 ⟨gs, rfl, hgs, hb7⟩
        obtain ⟨ga, gc, gk, gkc, rfl, _⟩ := hgs.opened
        have HB7 : Hid (Below w6.heap.size w6 (w7.alloc (box6 y ga gc gk gkc))) := (HJ.out.2.trans (hb7.mono HJ.out.2.size)).alloc (HJ.out.2.trans (hb7.mono HJ.out.2.size)).size _
        unfold box6 at HB7
        have HJ2 : Hid (j + 1 ≤ L.length ∧ _) := ⟨hj, HB7.out⟩
        rw [vcs_arr]
        clear hgs hb7 x0 x1 x2 x3 x4 x5 c0 CGJ
        go_wp2_with fail
        go_roundw
        case rel => exact ⟨j + 1, by go_num, HJ2⟩
        case measure => simp [intOf]; omega
      · obtain rfl : j = L.length := by omega
        have HBF : Hid (Below w.heap.size w wr) := HB6.out.trans (HJ.out.2.mono HB6.out.size)
        clear HC HRF HJ
        go_wp2_with fail
        go_ret
        exact ⟨rfl, HBF.out⟩
end Go.Proofs.YtbnlcnaccainhaaGreatDoor
