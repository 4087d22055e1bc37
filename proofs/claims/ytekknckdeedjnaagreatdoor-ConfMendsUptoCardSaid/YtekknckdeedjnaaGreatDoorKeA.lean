/- conf.Get where a route leads somewhere. Conditions: the value is right, the route's steps lead to a value; the cell of MaxLen. -/
import Derived.Test.YtekknckdeedjnaaGreatDoorKeV
import Derived.Test.YtekknckdeedjnaaGreatDoorKeS
namespace Go.Proofs.YtekknckdeedjnaaGreatDoor
open Go.RowKit Mh
set_option linter.unusedVariables false

set_option maxRecDepth 100000 in
set_option maxHeartbeats 8000000 in
theorem get_found (X y : V) (cs : List Value) (r : ByteArray) (l : List St) (w : World) (m : Int) (hm : w.cell? ⟨1, 0, none⟩ = some (.int .i64 m)) (hr : r.size ≤ maxLen) (h : VAt w X cs) (hok : X.okc) (hn : X.nodes ≤ 1099511627776) (hst : stepsB r = some l) (hy : getV X l = some y) :
    Calls Tryz.prog 11 #[.agg cs.toArray, .string r] w fun e w' => ∃ ds : List Value, e = .returned (.tuple #[.agg ds.toArray, .int .i64 0]) ∧ VAt w' y ds ∧ Below w.heap.size w w' := by
  have hlen : l.length ≤ 401 := steps_len hst
  have C1 := Lib.hid (fun w' (hb : Below w.heap.size w w') => check_any X hn cs w' (h.keep hb))
  have C2 := Lib.hid (fun w' (hb : Below w.heap.size w w') => steps_any r w' m ((hb.cell (World.block_lt_of_cell? w _ hm)).trans hm) hr)
  have C3 := Lib.hid (fun w' v (hb : Below w.heap.size w w') (hv : StAt w' v l) => get_any X cs v l w' hok.mid (h.keep hb) hv (by omega))
  have C4 := Lib.hid (fun w' ds (hds : VAt w' y ds) => clone_any _ y (Nat.lt_succ_self _) (mid_get l hok.mid hy) ds w' hds)
  obtain ⟨ia, ic, ka, kc, rfl, _⟩ := h.opened
  rw [vcs_arr] at C1 C3
  rw [vcs_arr]
  rw [hst] at C2
  rw [hy] at C3
  simp only [Option.isSome_some, Option.getD_some] at C2 C3
  have HO := Lib.hid hok
  have HB0 : Hid (Below w.heap.size w ((w.alloc (box6 X ia ic ka kc)).alloc box0)) := ((Below.refl w.heap.size w).alloc (Nat.le_refl _) _).alloc (by simp) _
  have hbx0 : ((w.alloc (box6 X ia ic ka kc)).alloc box0).heap[w.heap.size]? = some (box6 X ia ic ka kc) := (heap_alloc_old _ _ (by simp)).trans (heap_alloc_new _ _)
  have hb00 : ((w.alloc (box6 X ia ic ka kc)).alloc box0).heap[w.heap.size + 1]? = some box0 := heap_new_at (by simp)
  have HX0 := Lib.hid hbx0
  have HZ0 := Lib.hid hb00
  unfold box6 at HB0 HX0 HZ0
  unfold box0 at HB0 HX0 HZ0
  clear h hok hm hst hy hbx0 hb00
  go_enter Tryz.func11, Tryz.ntmps11
  go_wp2_with fail
  refine (C1.out _ HB0.out).mono ?_
  rintro e w1 ⟨c, rfl, hc, hb1⟩
  obtain rfl : c = 0 := hc.2 HO.out
  have HX1 := Lib.hid ((hb1.block _ (by simp <;> omega)).trans HX0.out)
  have HZ1 := Lib.hid ((hb1.block _ (by simp <;> omega)).trans HZ0.out)
  have HB1 : Hid (Below w.heap.size w w1) := HB0.out.trans (hb1.mono (by simp <;> omega))
  have hz1 : w.heap.size + 2 ≤ w1.heap.size := by have := hb1.size; simp at this; omega
  clear hc hb1 HX0 HZ0 HB0 C1
  go_wp2_with fail
  refine (C2.out _ HB1.out).mono ?_
  rintro e w2 ⟨v, rfl, hv, hb2⟩
  have HX2 := Lib.hid ((hb2.block _ (by omega)).trans HX1.out)
  have HZ2 := Lib.hid ((hb2.block _ (by omega)).trans HZ1.out)
  have HB2 : Hid (Below w.heap.size w w2) := HB1.out.trans (hb2.mono (by omega))
  have hz2 : w.heap.size + 2 ≤ w2.heap.size := by have := hb2.size; omega
  have HV := Lib.hid hv
  clear hb2 HX1 HZ1 HB1 C2 hz1 hv
  obtain ⟨r0, r1, r2, r3, r4, r5⟩ := six_of_block HX2.out
  go_wp2_with fail
  refine (C3.out _ _ HB2.out HV.out).mono ?_
  rintro e w3 ⟨ds, rfl, hds, hb3⟩
  obtain ⟨ya, yc, yk, ykc, rfl, _⟩ := hds.opened
  have HZ3 := Lib.hid ((hb3.block _ (by omega)).trans HZ2.out)
  have HB3 : Hid (Below w.heap.size w w3) := HB2.out.trans (hb3.mono (by omega))
  have hz3 : w.heap.size + 2 ≤ w3.heap.size := by have := hb3.size; omega
  have HDS := Lib.hid (C4.out (w3.alloc (box6 y ya yc yk ykc)) _ (hds.keep ((Below.refl _ w3).alloc (Nat.le_refl _) _)))
  unfold box6 at HDS
  rw [vcs_arr] at HDS
  rw [vcs_arr]
  clear hb3 hds r0 r1 r2 r3 r4 r5 HX2 HZ2 C3 C4 hz2 HV
  go_wp2_with fail
  refine HDS.out.mono ?_
  rintro e w4 ⟨es, rfl, hes, hb4⟩
  obtain ⟨za, zc, zk, zkc, rfl, _⟩ := hes.opened
  have HZ4 := Lib.hid ((hb4.block (w.heap.size + 1) (by simp; omega)).trans ((heap_alloc_old w3 _ (by omega)).trans HZ3.out))
  have HB4 : Hid (Below w.heap.size w w4) := (HB3.out.alloc (by omega) _).trans (hb4.mono (by simp; omega))
  have HES := Lib.hid hes
  obtain ⟨g0, g1, g2, g3, g4, g5⟩ := six_open HZ4.out
  obtain ⟨t0, t1, t2, t3, t4, t5⟩ := six_of_block HZ4.out
  rw [vcs_arr]
  clear hes hb4 HDS HZ3 HB3
  go_wp2_with fail
  have hput := put6_at (a := .int .i64 y.kd) (b := .bool y.bo) (c := .int .i64 y.nu) (d := .string y.tx) (e := .slice za y.its.length zc) (f := .slice zk y.kys.length zkc) rfl HZ4.out
  have hbel := put6_below (a := .int .i64 y.kd) (b := .bool y.bo) (c := .int .i64 y.nu) (d := .string y.tx) (e := .slice za y.its.length zc) (f := .slice zk y.kys.length zkc) HB4.out (Nat.le_succ w.heap.size)
  have hat : VAt (put6 w4 (w.heap.size + 1) (.int .i64 y.kd) (.bool y.bo) (.int .i64 y.nu) (.string y.tx) (.slice za y.its.length zc) (.slice zk y.kys.length zkc)) y (vcs y za zc zk zkc) :=
    (HES.out.keeps (Keeps.veils (S' := fun _ => false) (by rw [put6_size]; exact Nat.le_refl _) fun k hk hs => ⟨rfl, put6_other (by simp at hs; omega)⟩)).keeps (Keeps.bare _ _)
  unfold put6 at hput hbel hat
  generalize hwf : World.setCell _ _ _ = wf at hput hbel hat ⊢
  clear hwf g0 g1 g2 g3 g4 g5 t0 t1 t2 t3 t4 t5
  obtain ⟨s0, s1, s2, s3, s4, s5⟩ := six_of_block hput
  refine bodyPost_ret (v := .tuple #[.agg (vcs y za zc zk zkc).toArray, .int .i64 0]) (by simp [results, Tryz.results11, go_sem, vcs, s0, s1, s2, s3, s4, s5] <;> rfl) rfl ⟨_, rfl, hat, hbel⟩
end Go.Proofs.YtekknckdeedjnaaGreatDoor
