/- conf.Get with whatever route: it returns; with no error where the route leads somewhere. Conditions: the value is right; the cell of MaxLen. -/
import Derived.Test.YtekknckdeedjnaaGreatDoorKeA
namespace Go.Proofs.YtekknckdeedjnaaGreatDoor
open Go.RowKit Mh
set_option linter.unusedVariables false

set_option maxRecDepth 100000 in
set_option maxHeartbeats 8000000 in
theorem get_nopath (X : V) (cs : List Value) (r : ByteArray) (w : World) (m : Int) (hm : w.cell? ⟨1, 0, none⟩ = some (.int .i64 m)) (hr : r.size ≤ maxLen) (h : VAt w X cs) (hok : X.okc) (hn : X.nodes ≤ 1099511627776) (hst : stepsB r = none) :
    Calls Tryz.prog 11 #[.agg cs.toArray, .string r] w fun e w' => ∃ ds : List Value, e = .returned (.tuple #[.agg ds.toArray, .int .i64 3]) ∧ (∃ y ia ic ka kc, ds = vcs y ia ic ka kc) ∧ Below w.heap.size w w' := by
  have C1 := Lib.hid (fun w' (hb : Below w.heap.size w w') => check_any X hn cs w' (h.keep hb))
  have C2 := Lib.hid (fun w' (hb : Below w.heap.size w w') => steps_any r w' m ((hb.cell (World.block_lt_of_cell? w _ hm)).trans hm) hr)
  obtain ⟨ia, ic, ka, kc, rfl, _⟩ := h.opened
  rw [vcs_arr] at C1
  rw [vcs_arr]
  rw [hst] at C2
  simp only [Option.isSome_none, Option.getD_none] at C2
  have HO := Lib.hid hok
  have HB0 : Hid (Below w.heap.size w ((w.alloc (box6 X ia ic ka kc)).alloc box0)) := ((Below.refl w.heap.size w).alloc (Nat.le_refl _) _).alloc (by simp) _
  have hb00 : ((w.alloc (box6 X ia ic ka kc)).alloc box0).heap[w.heap.size + 1]? = some box0 := heap_new_at (by simp)
  have HZ0 := Lib.hid hb00
  unfold box6 at HB0 HZ0
  unfold box0 at HB0 HZ0
  clear h hok hm hst hb00
  go_enter Tryz.func11, Tryz.ntmps11
  go_wp2_with fail
  refine (C1.out _ HB0.out).mono ?_
  rintro e w1 ⟨c, rfl, hc, hb1⟩
  obtain rfl : c = 0 := hc.2 HO.out
  have HZ1 := Lib.hid ((hb1.block _ (by simp <;> omega)).trans HZ0.out)
  have HB1 : Hid (Below w.heap.size w w1) := HB0.out.trans (hb1.mono (by simp <;> omega))
  have hz1 : w.heap.size + 2 ≤ w1.heap.size := by have := hb1.size; simp at this; omega
  clear hc hb1 HZ0 HB0 C1
  go_wp2_with fail
  refine (C2.out _ HB1.out).mono ?_
  rintro e w2 ⟨v, rfl, hv, hb2⟩
  have HZ2 := Lib.hid ((hb2.block _ (by omega)).trans HZ1.out)
  have HB2 : Hid (Below w.heap.size w w2) := HB1.out.trans (hb2.mono (by omega))
  clear hb2 HZ1 HB1 C2 hz1 hv
  obtain ⟨g0, g1, g2, g3, g4, g5⟩ := six_open HZ2.out
  obtain ⟨t0, t1, t2, t3, t4, t5⟩ := six_of_block HZ2.out
  go_wp2_with fail
  have hput := put6_at (a := .int .i64 0) (b := .bool false) (c := .int .i64 0) (d := .string ⟨#[]⟩) (e := .slice none 0 0) (f := .slice none 0 0) rfl HZ2.out
  have hbel := put6_below (a := .int .i64 0) (b := .bool false) (c := .int .i64 0) (d := .string ⟨#[]⟩) (e := .slice none 0 0) (f := .slice none 0 0) HB2.out (Nat.le_succ w.heap.size)
  unfold put6 at hput hbel
  generalize hwf : World.setCell _ _ _ = wf at hput hbel ⊢
  clear hwf g0 g1 g2 g3 g4 g5 t0 t1 t2 t3 t4 t5
  obtain ⟨s0, s1, s2, s3, s4, s5⟩ := six_of_block hput
  refine bodyPost_ret (v := .tuple #[.agg zv.toArray, .int .i64 3]) (by simp [results, Tryz.results11, go_sem, zv, s0, s1, s2, s3, s4, s5] <;> rfl) rfl ⟨_, rfl, ⟨V.nil, none, 0, none, 0, rfl⟩, hbel⟩
set_option maxRecDepth 100000 in
set_option maxHeartbeats 8000000 in
theorem get_nowhere (X : V) (cs : List Value) (r : ByteArray) (l : List St) (w : World) (m : Int) (hm : w.cell? ⟨1, 0, none⟩ = some (.int .i64 m)) (hr : r.size ≤ maxLen) (h : VAt w X cs) (hok : X.okc) (hn : X.nodes ≤ 1099511627776) (hst : stepsB r = some l) (hy : getV X l = none) :
    Calls Tryz.prog 11 #[.agg cs.toArray, .string r] w fun e w' => ∃ ds : List Value, e = .returned (.tuple #[.agg ds.toArray, .int .i64 7]) ∧ (∃ y ia ic ka kc, ds = vcs y ia ic ka kc) ∧ Below w.heap.size w w' := by
  have hlen : l.length ≤ 401 := steps_len hst
  have C1 := Lib.hid (fun w' (hb : Below w.heap.size w w') => check_any X hn cs w' (h.keep hb))
  have C2 := Lib.hid (fun w' (hb : Below w.heap.size w w') => steps_any r w' m ((hb.cell (World.block_lt_of_cell? w _ hm)).trans hm) hr)
  have C3 := Lib.hid (fun w' v (hb : Below w.heap.size w w') (hv : StAt w' v l) => get_any X cs v l w' hok.mid (h.keep hb) hv (by omega))
  obtain ⟨ia, ic, ka, kc, rfl, _⟩ := h.opened
  rw [vcs_arr] at C1 C3
  rw [vcs_arr]
  rw [hst] at C2
  rw [hy] at C3
  simp only [Option.isSome_some, Option.getD_some] at C2
  simp only [Option.isSome_none, Option.getD_none] at C3
  have HO := Lib.hid hok
  have HB0 : Hid (Below w.heap.size w ((w.alloc (box6 X ia ic ka kc)).alloc box0)) := ((Below.refl w.heap.size w).alloc (Nat.le_refl _) _).alloc (by simp) _
  have hbx0 : ((w.alloc (box6 X ia ic ka kc)).alloc box0).heap[w.heap.size]? = some (box6 X ia ic ka kc) := (heap_alloc_old _ _ (by simp)).trans (heap_alloc_new _ _)
  have hb00 : ((w.alloc (box6 X ia ic ka kc)).alloc box0).heap[w.heap.size + 1]? = some box0 := heap_new_at (by simp)
  have HX0 := Lib.hid hbx0
  have HZ0 := Lib.hid hb00
  unfold box6 at HB0 HX0 HZ0
  unfold box0 at HB0 HX0 HZ0
  clear h hok hm hst hy hbx0 hb00
  go_enter Tryz.func11, Tryz.ntmps11
  go_wp2_with fail
  refine (C1.out _ HB0.out).mono ?_
  rintro e w1 ⟨c, rfl, hc, hb1⟩
  obtain rfl : c = 0 := hc.2 HO.out
  have HX1 := Lib.hid ((hb1.block _ (by simp <;> omega)).trans HX0.out)
  have HZ1 := Lib.hid ((hb1.block _ (by simp <;> omega)).trans HZ0.out)
  have HB1 : Hid (Below w.heap.size w w1) := HB0.out.trans (hb1.mono (by simp <;> omega))
  have hz1 : w.heap.size + 2 ≤ w1.heap.size := by have := hb1.size; simp at this; omega
  clear hc hb1 HX0 HZ0 HB0 C1
  go_wp2_with fail
  refine (C2.out _ HB1.out).mono ?_
  rintro e w2 ⟨v, rfl, hv, hb2⟩
  have HX2 := Lib.hid ((hb2.block _ (by omega)).trans HX1.out)
  have HZ2 := Lib.hid ((hb2.block _ (by omega)).trans HZ1.out)
  have HB2 : Hid (Below w.heap.size w w2) := HB1.out.trans (hb2.mono (by omega))
  have hz2 : w.heap.size + 2 ≤ w2.heap.size := by have := hb2.size; omega
  have HV := Lib.hid hv
  clear hb2 HX1 HZ1 HB1 C2 hz1 hv
  obtain ⟨r0, r1, r2, r3, r4, r5⟩ := six_of_block HX2.out
  go_wp2_with fail
  refine (C3.out _ _ HB2.out HV.out).mono ?_
  rintro e w3 ⟨ds, rfl, hds, hb3⟩
  obtain ⟨ya, yc, yk, ykc, rfl, _⟩ := hds.opened
  have HZ3 := Lib.hid ((heap_alloc_old w3 (box6 V.nil ya yc yk ykc) (by have := hb3.size; omega)).trans ((hb3.block _ (by omega)).trans HZ2.out))
  have HB3 : Hid (Below w.heap.size w (w3.alloc (box6 V.nil ya yc yk ykc))) := (HB2.out.trans (hb3.mono (by omega))).alloc (by have := hb3.size; omega) _
  unfold box6 at HB3 HZ3
  rw [vcs_arr]
  clear hb3 hds r0 r1 r2 r3 r4 r5 HX2 HZ2 C3 hz2 HV HB2
  obtain ⟨g0, g1, g2, g3, g4, g5⟩ := six_open HZ3.out
  obtain ⟨t0, t1, t2, t3, t4, t5⟩ := six_of_block HZ3.out
  go_wp2_with fail
  have hput := put6_at (a := .int .i64 0) (b := .bool false) (c := .int .i64 0) (d := .string ⟨#[]⟩) (e := .slice none 0 0) (f := .slice none 0 0) rfl HZ3.out
  have hbel := put6_below (a := .int .i64 0) (b := .bool false) (c := .int .i64 0) (d := .string ⟨#[]⟩) (e := .slice none 0 0) (f := .slice none 0 0) HB3.out (Nat.le_succ w.heap.size)
  unfold put6 at hput hbel
  generalize hwf : World.setCell _ _ _ = wf at hput hbel ⊢
  clear hwf g0 g1 g2 g3 g4 g5 t0 t1 t2 t3 t4 t5
  obtain ⟨s0, s1, s2, s3, s4, s5⟩ := six_of_block hput
  refine bodyPost_ret (v := .tuple #[.agg zv.toArray, .int .i64 7]) (by simp [results, Tryz.results11, go_sem, zv, s0, s1, s2, s3, s4, s5] <;> rfl) rfl ⟨_, rfl, ⟨V.nil, none, 0, none, 0, rfl⟩, hbel⟩
theorem get_route (X : V) (cs : List Value) (r : ByteArray) (w : World) (m : Int) (hm : w.cell? ⟨1, 0, none⟩ = some (.int .i64 m)) (hr : r.size ≤ maxLen) (h : VAt w X cs) (hok : X.okc) (hn : X.nodes ≤ 1099511627776) :
    Calls Tryz.prog 11 #[.agg cs.toArray, .string r] w fun e w' => ∃ (ds : List Value) (c : Int), e = .returned (.tuple #[.agg ds.toArray, .int .i64 c]) ∧ (∃ y ia ic ka kc, ds = vcs y ia ic ka kc) ∧ Below w.heap.size w w' ∧ ((∃ l, stepsB r = some l ∧ (getV X l).isSome = true) → c = 0) := by
  cases hst : stepsB r with
  | none =>
    refine (get_nopath X cs r w m hm hr h hok hn hst).mono ?_
    rintro e w' ⟨ds, rfl, h1, h2⟩
    exact ⟨ds, 3, rfl, h1, h2, fun ⟨l, h3, _⟩ => by cases h3⟩
  | some l =>
    cases hy : getV X l with
    | none =>
      refine (get_nowhere X cs r l w m hm hr h hok hn hst hy).mono ?_
      rintro e w' ⟨ds, rfl, h1, h2⟩
      exact ⟨ds, 7, rfl, h1, h2, fun ⟨l', h3, h4⟩ => by cases h3; rw [hy] at h4; cases h4⟩
    | some y =>
      refine (get_found X y cs r l w m hm hr h hok hn hst hy).mono ?_
      rintro e w' ⟨ds, rfl, h1, h2⟩
      obtain ⟨ia, ic, ka, kc, h3, _⟩ := h1.opened
      exact ⟨ds, 0, rfl, ⟨y, ia, ic, ka, kc, h3⟩, h2, fun _ => rfl⟩
end Go.Proofs.YtekknckdeedjnaaGreatDoor
