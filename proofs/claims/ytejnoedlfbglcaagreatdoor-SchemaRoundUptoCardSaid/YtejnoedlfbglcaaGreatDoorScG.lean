/- conf.ReadSchema at what SchemaValue has written: it reads the same schema. Conditions: the fields are right; the cells of MaxLen and kindNames. -/
import Derived.Test.YtejnoedlfbglcaaGreatDoorScE
import Derived.Test.YtejnoedlfbglcaaGreatDoorScF
import Derived.Test.YtejnoedlfbglcaaGreatDoorScB
namespace Go.Proofs.YtejnoedlfbglcaaGreatDoor
open Go.RowKit Mh
set_option linter.unusedVariables false

theorem infoField : (Tryz.prog.info? 52).map (fun i => (i.zero, i.size, i.bytes)) = some (some (.agg #[.string ⟨#[]⟩, .int .i64 0, .bool false, .bool false, .int .i64 0, .int .i64 0, .slice none 0 0, .int .i64 0, .bool false, .int .i64 0, .string ⟨#[]⟩, .slice none 0 0, .slice none 0 0]), 13, 160) := by kernel_rfl
theorem _root_.Mh.FdIn.keeps {w w' : World} {f : Mh.Fd} {oa ia ka : Option Addr} {oc ic kc : Nat} (h : FdIn w f oa oc ia ic ka kc) (hk : Keeps w w') : FdIn w' f oa oc ia ic ka kc :=
  ⟨h.rt, h.kd, h.mn, h.mx, h.one.keeps hk, h.dv.keeps hk⟩
theorem _root_.Mh.FdAt.keeps {w w' : World} {f : Mh.Fd} {cs : List Value} (h : FdAt w f cs) (hk : Keeps w w') : FdAt w' f cs := by
  obtain ⟨oa, oc, ia, ic, ka, kc, h1, h2⟩ := h
  exact ⟨oa, oc, ia, ic, ka, kc, h1, h2.keeps hk⟩
/-- The schema's fields as they are read, in the box at D. -/
structure RsIn (fs : List Mh.Fd) (sb : Bool) (w : World) (D : Nat) (wr : World) (j : Nat) (v : Value) (rows : List Value) : Prop where
  le : j ≤ fs.length
  own : wr.ownsRow (D + 1) 52 13 v j rows
  at_ : ∀ i (h : i < fs.length), i < j → ∃ cs, FdAt (veil (own1 (svS D) v) wr) fs[i] cs ∧ ∀ q, q < 13 → rows[i * 13 + q]? = cs[q]?
  b9 : wr.heap[D]? = some (.cells #[v, .bool sb] 24 (0, 0))
  b2 : wr.heap[w.heap.size + 1]? = some (.cells #[.slice none 0 0, .bool false] 24 (0, 0))
  below : Below w.heap.size w wr
  lo : w.heap.size + 2 ≤ D
  hi : D < wr.heap.size
theorem RsIn.next {fs : List Mh.Fd} {sb : Bool} {w wr w1 w2 w3 : World} {D j : Nat} {v v' : Value} {rows : List Value} {ob : Obj} {oa ia ka : Option Addr} {oc ic kc : Nat} (h : RsIn fs sb w D wr j v rows) (hj : j < fs.length)
    (h1 : Below wr.heap.size wr w1) (h2 : Below w1.heap.size w1 w2) (hds : FdIn (veil (fun k => decide (k < w1.heap.size)) w2) fs[j] oa oc ia ic ka kc)
    (hown : w3.ownsRow (D + 1) 52 13 v' (j + 1) (rows ++ fcs fs[j] oa oc ia ic ka kc)) (hgr : (w2.alloc ob).grownBy w3 v.ownBlock) (hat : v'.ownBlock = v.ownBlock ∨ v'.ownBlock = some (w2.alloc ob).heap.size) :
    RsIn fs sb w D (w3.setCell ⟨D, 0, none⟩ v') (j + 1) v' (rows ++ fcs fs[j] oa oc ia ic ka kc) := by
  have hol := h.own.lt
  have hlo := h.lo
  have hhi := h.hi
  have hs1 := h1.size
  have hs2 := h2.size
  have hb2 : Below wr.heap.size wr (w2.alloc ob) := (h1.trans (h2.mono hs1)).alloc (by omega) _
  have hne : ∀ k, k < D + 1 → some k ≠ v.ownBlock := fun k hk e => by have := (hol k e.symm).1; omega
  have hK0 : Keeps (veil (own1 (svS D) v') w3) (veil (own1 (svS D) v') (w3.setCell ⟨D, 0, none⟩ v')) := by
    refine Keeps.veils (by simp) fun k hk hs => ⟨hs, heap_setCell_other _ _ _ _ ?_⟩
    have := (own1_false.1 hs).1
    simp [svS] at this
    simp; omega
  have hK : Keeps (veil (own1 (svS D) v) wr) (veil (own1 (svS D) v') (w3.setCell ⟨D, 0, none⟩ v')) := ((Keeps.belows hb2).trans (Keeps.grown hgr hat)).trans hK0
  have hw3 : (w2.alloc ob).heap.size ≤ w3.heap.size := hgr.size
  simp at hw3
  have hrl : rows.length = j * 13 := h.own.1
  refine ⟨by omega, own_setLow hown (by omega), ?_, heap_setCell_same _ _ 0 #[v, .bool sb] _ _ ?_, ?_, ?_, hlo, by simp; omega⟩
  · intro i hi hij
    by_cases e : i = j
    · subst e
      refine ⟨_, (FdAt.keeps (cs := fcs fs[i] oa oc ia ic ka kc) ⟨oa, oc, ia, ic, ka, kc, rfl, hds⟩ ((Keeps.trans (Keeps.veils (w' := w2.alloc ob) (S' := own1 (svS D) v) (by simp) fun k hk hs => ⟨?_, heap_alloc_old _ _ hk⟩) (Keeps.grown hgr hat)).trans hK0)), fun q hq => ?_⟩
      · simp at hs
        rw [own1_false]
        exact ⟨by simp [svS]; omega, fun e => by have := (hol k e).2; omega⟩
      · rw [List.getElem?_append_right (by omega), hrl]
        congr 1; omega
    · obtain ⟨cs, h3, h4⟩ := h.at_ i hi (by omega)
      refine ⟨cs, h3.keeps hK, fun q hq => ?_⟩
      rw [List.getElem?_append_left (by omega)]
      exact h4 q hq
  · rw [hgr.block _ (by simp; omega) (hne _ (by omega)), hb2.block _ (by omega)]; exact h.b9
  · rw [heap_setCell_other _ _ _ _ (by simp; omega), hgr.block _ (by simp; omega) (hne _ (by omega)), hb2.block _ (by omega)]; exact h.b2
  · exact ((h.below.trans (hb2.mono (by omega))).grown hgr (by simp; omega) fun k hk => by have := (hol k hk).1; omega).setCell (by show w.heap.size ≤ D; omega) _
theorem _root_.Mh.FsAt.keeps {w w' : World} {v : Value} {fs : List Mh.Fd} (h : FsAt w v fs) (hk : Keeps w w') : FsAt w' v fs := by
  obtain ⟨rows, h1, h2⟩ := h
  refine ⟨rows, h1.keeps hk, fun i hi => ?_⟩
  obtain ⟨cs, h3, h4⟩ := h2 i hi
  exact ⟨cs, h3.keeps hk, h4⟩
theorem listV_arr (fs : List Mh.Fd) (fa : Option Addr) (fc : Nat) (fk : Option Addr) (fkc : Nat) : (vcs (listV (fs.map fieldV)) fa fc fk fkc).toArray = #[.int .i64 5, .bool false, .int .i64 0, .string ⟨#[]⟩, .slice fa fs.length fc, .slice fk 0 fkc] := by
  simp [vcs, listV, V.kd, V.bo, V.nu, V.tx, V.its, V.kys]
theorem RsIn.fields {fs : List Mh.Fd} {sb : Bool} {w wr : World} {D : Nat} {v : Value} {rows : List Value} (h : RsIn fs sb w D wr fs.length v rows) : FsAt (veil (svS D) wr) v fs := by
  refine ⟨rows, Sl.of_own_veil h.own (by decide) fun b hb => by simp [svS]; omega, fun i hi => ?_⟩
  obtain ⟨cs, h3, h4⟩ := h.at_ i hi hi
  exact ⟨cs, h3.keeps (Keeps.own1 wr), h4⟩
/-- What is asked of a field's numbers and strings. -/
def FdWf (f : Mh.Fd) : Prop := f.route.size ≤ maxLen ∧ (Lit.int .i64 f.kind).wf = true ∧ (Lit.int .i64 f.mn).wf = true ∧ (Lit.int .i64 f.mx).wf = true ∧ ∀ s ∈ f.one, s.size ≤ maxLen
set_option maxRecDepth 100000 in
set_option maxHeartbeats 16000000 in
theorem readSchema_any (fs : List Mh.Fd) (sb : Bool) (hok : fdsOk fs) (hwf : ∀ f ∈ fs, FdWf f) (hoc : (schemaV fs sb).okc) (cs : List Value) (w : World) (m : Int) (hm : w.cell? ⟨1, 0, none⟩ = some (.int .i64 m)) (hK : KNames w) (h : VAt w (schemaV fs sb) cs) :
    Calls Tryz.prog 10 #[.agg cs.toArray] w fun e w' => ∃ fv : Value, e = .returned (.tuple #[.agg #[fv, .bool sb], .int .i64 0]) ∧ FsAt w' fv fs ∧ Below w.heap.size w w' := by
  have hso := schema_ok fs sb hoc hok
  have C0 := Lib.hid (fun w' (hb : Below w.heap.size w w') => check_any (schemaV fs sb) (by have := hoc.nodes; omega) cs w' (h.keep hb))
  have C1 := Lib.hid (fun w' (hb : Below w.heap.size w w') => wrongKinds_ok (schemaV fs sb) cs w' (h.keep hb) hso)
  have C2 := Lib.hid (fun w' (hb : Below w.heap.size w w') => wrongNames_ok (schemaV fs sb) cs w' (h.keep hb) hso (hK.keep hb))
  have C3 := Lib.hid (fun w' (hb : Below w.heap.size w w') => item_any (schemaV fs sb) cs qStrict w' (h.keep hb) hso.asc hso.len (by have := hso.small; omega))
  have C4 := Lib.hid (fun w' (hb : Below w.heap.size w w') => item_any (schemaV fs sb) cs qFields w' (h.keep hb) hso.asc hso.len (by have := hso.small; omega))
  obtain ⟨e1, e2, e3, e4⟩ := schema_items fs sb
  rw [e1, e2] at C3
  rw [e3, e4] at C4
  have HOC := Lib.hid hoc
  have HKN : Hid (∀ w', Below w.heap.size w w' → KNames w') := fun w' hb => hK.keep hb
  have HML : Hid (∀ w', Below w.heap.size w w' → w'.cell? ⟨1, 0, none⟩ = some (.int .i64 m)) := fun w' hb => (hb.cell (World.block_lt_of_cell? w _ hm)).trans hm
  have HFM : Hid (∀ f ∈ fs, (fieldV f).mid) := by
    have hF : (listV (fs.map fieldV)).mid := hoc.mid.item _ (by rw [schemaV_eq, tab_its]; simp)
    exact fun f hf => hF.item _ (show fieldV f ∈ fs.map fieldV from List.mem_map.2 ⟨f, hf, rfl⟩)
  have HWF := Lib.hid hwf
  have HOK := Lib.hid hok
  have h100 := hok.1
  have hvf := h
  obtain ⟨xa, xc, xk, xkc, rfl, _⟩ := h.opened
  generalize schemaV fs sb = X at *
  rw [vcs_arr] at C0 C1 C2 C3 C4
  rw [vcs_arr]
  have HB0 : Hid (Below w.heap.size w ((w.alloc (box6 X xa xc xk xkc)).alloc (.cells #[.slice none 0 0, .bool false] 24))) := ((Below.refl w.heap.size w).alloc (Nat.le_refl _) _).alloc (by simp) _
  have HX0 : Hid (((w.alloc (box6 X xa xc xk xkc)).alloc (.cells #[.slice none 0 0, .bool false] 24)).heap[w.heap.size]? = some (box6 X xa xc xk xkc)) := (heap_alloc_old _ _ (by simp)).trans (heap_alloc_new _ _)
  have HZ0 : Hid (((w.alloc (box6 X xa xc xk xkc)).alloc (.cells #[.slice none 0 0, .bool false] 24)).heap[w.heap.size + 1]? = some (.cells #[.slice none 0 0, .bool false] 24)) := heap_new_at (by simp)
  unfold box6 at HB0 HX0 HZ0
  clear h hm hK hok hwf hoc hso e1 e2 e3 e4 hvf
  go_enter Tryz.func10, Tryz.ntmps10
  go_wp2_with fail
  refine (C0.out _ HB0.out).mono ?_
  rintro e w1 ⟨c, rfl, hc, hb1⟩
  obtain rfl : c = 0 := hc.2 HOC.out
  have HX1 := Lib.hid ((hb1.block _ (by simp <;> omega)).trans HX0.out)
  have HZ1 := Lib.hid ((hb1.block _ (by simp)).trans HZ0.out)
  have HB1 : Hid (Below w.heap.size w w1) := HB0.out.trans (hb1.mono (by simp <;> omega))
  have hz1 : w.heap.size + 2 ≤ w1.heap.size := by have := hb1.size; simp at this; omega
  obtain ⟨r0, r1, r2, r3, r4, r5⟩ := six_of_block HX1.out
  clear hb1 hc HX0 HZ0 HB0 C0 HOC
  go_wp2_with fail
  refine (C1.out _ HB1.out).mono ?_
  rintro e w2 ⟨rfl, hb2⟩
  have HX2 := Lib.hid ((hb2.block _ (by omega)).trans HX1.out)
  have HZ2 := Lib.hid ((hb2.block _ (by omega)).trans HZ1.out)
  have HB2 : Hid (Below w.heap.size w w2) := HB1.out.trans (hb2.mono (by omega))
  have hz2 : w.heap.size + 2 ≤ w2.heap.size := by have := hb2.size; omega
  clear r0 r1 r2 r3 r4 r5 hb2 HX1 HZ1 HB1 C1 hz1
  obtain ⟨r0, r1, r2, r3, r4, r5⟩ := six_of_block HX2.out
  go_wp2_with fail
  refine (C2.out _ HB2.out).mono ?_
  rintro e w3 ⟨rfl, hb3⟩
  have HX3 := Lib.hid ((hb3.block _ (by omega)).trans HX2.out)
  have HZ3 := Lib.hid ((hb3.block _ (by omega)).trans HZ2.out)
  have HB3 : Hid (Below w.heap.size w w3) := HB2.out.trans (hb3.mono (by omega))
  have hz3 : w.heap.size + 2 ≤ w3.heap.size := by have := hb3.size; omega
  clear r0 r1 r2 r3 r4 r5 hb3 HX2 HZ2 HB2 C2 hz2
  obtain ⟨r0, r1, r2, r3, r4, r5⟩ := six_of_block HX3.out
  go_wp2_with fail
  refine (C3.out _ HB3.out).mono ?_
  rintro e w4 ⟨ds, rfl, hds, hb4⟩
  obtain ⟨ya, yc, yk, ykc, rfl, _⟩ := hds.opened
  have hX4 := (hb4.block _ (by omega)).trans HX3.out
  have hZ4 := (hb4.block _ (by omega)).trans HZ3.out
  have hB4 : Below w.heap.size w w4 := HB3.out.trans (hb4.mono (by omega))
  have hz4 : w.heap.size + 2 ≤ w4.heap.size := by have := hb4.size; omega
  have HX5 := Lib.hid ((heap_alloc_old w4 (box6 (yesV sb) ya yc yk ykc) (by omega)).trans hX4)
  have HZ5 := Lib.hid ((heap_alloc_old w4 (box6 (yesV sb) ya yc yk ykc) (by omega)).trans hZ4)
  have HB5 : Hid (Below w.heap.size w (w4.alloc (box6 (yesV sb) ya yc yk ykc))) := hB4.alloc (by omega) _
  have HS5 : Hid ((w4.alloc (box6 (yesV sb) ya yc yk ykc)).heap[w4.heap.size]? = some (box6 (yesV sb) ya yc yk ykc)) := heap_alloc_new _ _
  have HN5 : Hid ((w4.alloc (box6 (yesV sb) ya yc yk ykc)).heap.size = w4.heap.size + 1) := by show _ = _; simp
  unfold box6 at HX5 HZ5 HB5 HS5 HN5
  rw [vcs_arr]
  clear r0 r1 r2 r3 r4 r5 hb4 HX3 HZ3 HB3 C3 hz3 hX4 hZ4 hB4 hds
  obtain ⟨r0, r1, r2, r3, r4, r5⟩ := six_of_block HX5.out
  go_wp2_with fail
  refine (C4.out _ HB5.out).mono ?_
  rintro e w6 ⟨es, rfl, hes, hb6⟩
  obtain ⟨fa, fc, fk, fkc, rfl, _⟩ := hes.opened
  obtain ⟨_, rows, hS, hT⟩ := hes.inside
  obtain ⟨a1, c1, hsl, hk⟩ := VsAt.item hS hT
  simp only [Value.slice.injEq] at hsl
  obtain ⟨ea, _, ec⟩ := hsl
  rw [← ea] at hk
  clear ea ec
  have hz6 : w4.heap.size + 1 ≤ w6.heap.size := by have := hb6.size; rw [HN5.out] at this; omega
  have hB6 : Below w.heap.size w w6 := HB5.out.trans (hb6.mono (by rw [HN5.out]; omega))
  have hZ6 := (hb6.block _ (by rw [HN5.out]; omega)).trans HZ5.out
  have hS6 := (hb6.block _ (by rw [HN5.out]; omega)).trans HS5.out
  have HK6 : Hid (∀ k (h : k < fs.length), ∃ b off ia ic ka kc, fa = some ⟨b, off, none⟩ ∧ b < w6.heap.size ∧ VAt w6 (fieldV fs[k]) (vcs (fieldV fs[k]) ia ic ka kc) ∧ ∀ j (hj : j < 6), w6.cell? ⟨b, off + k * 6 + j, none⟩ = some ((vcs (fieldV fs[k]) ia ic ka kc)[j]'hj)) := by
    intro k hkl
    obtain ⟨b, off, ia, ic, ka, kc, h1, h2, h3, h4⟩ := hk k (by show k < (fs.map fieldV).length; rw [List.length_map]; exact hkl)
    generalize hx : (listV (fs.map fieldV)).its[k]'(by show k < (fs.map fieldV).length; rw [List.length_map]; exact hkl) = x at h3 h4
    have hx2 : x = fieldV fs[k] := by rw [← hx]; show (fs.map fieldV)[k]'_ = _; rw [List.getElem_map]
    subst hx2
    exact ⟨b, off, ia, ic, ka, kc, h1, h2, h3, h4⟩
  have hy1 : w6.cell? ⟨w4.heap.size, 1, none⟩ = some (.bool sb) := cellT hS6 rfl
  have HI0 : Hid (RsIn fs sb w (w6.heap.size + 1) ((w6.alloc (.cells #[.int .i64 5, .bool false, .int .i64 0, .string ⟨#[]⟩, .slice fa fs.length fc, .slice fk 0 fkc] 29)).alloc (.cells #[.slice none 0 0, .bool sb] 24)) 0 (.slice none 0 0) []) := by
    refine ⟨Nat.zero_le _, World.ownsRow_nil _ _ _ _, fun i hi h => by omega, heap_new_at (by simp), ?_, ((hB6.alloc (by omega) _).alloc (by simp; omega) _), by omega, by simp⟩
    rw [heap_alloc_old _ _ (by simp; omega), heap_alloc_old _ _ (by omega)]
    exact hZ6
  have HB7 : Hid (Below w6.heap.size w6 ((w6.alloc (.cells #[.int .i64 5, .bool false, .int .i64 0, .string ⟨#[]⟩, .slice fa fs.length fc, .slice fk 0 fkc] 29)).alloc (.cells #[.slice none 0 0, .bool sb] 24))) := ((Below.refl _ w6).alloc (Nat.le_refl _) _).alloc (by simp) _
  have HB6 := Lib.hid hB6
  have y1 : (w6.alloc (.cells #[.int .i64 5, .bool false, .int .i64 0, .string ⟨#[]⟩, .slice fa fs.length fc, .slice fk 0 fkc] 29)).cell? ⟨w4.heap.size, 1, none⟩ = some (.bool sb) := (((Below.refl w6.heap.size w6).alloc (Nat.le_refl _) _).cell (p := ⟨w4.heap.size, 1, none⟩) (by show w4.heap.size < _; omega)).trans hy1
  rw [listV_arr]
  obtain ⟨fi, hfi, hf0, hf1, hf2⟩ := info_parts infoField
  clear r0 r1 r2 r3 r4 r5 hb6 HX5 HZ5 HB5 HS5 HN5 C4 hes hS hT hk hZ6 hS6 hB6 hy1 hz4
  go_wp2_with fail
  obtain ⟨D, hD⟩ : ∃ D, D = w6.heap.size + 1 := ⟨_, rfl⟩
  rw [← hD] at HI0
  go_loopw [41] (fun i wr => ∃ (j : Nat) (v : Value) (rows : List Value), i = .int .i64 j ∧ Hid (RsIn fs sb w D wr j v rows ∧ Below w6.heap.size w6 wr)) (fun i _ => fs.length - (intOf i).toNat)
  case atStart => exact ⟨0, _, [], rfl, ⟨HI0.out, HB7.out⟩⟩
  case round =>
    clear HI0 HB7 y1
    obtain ⟨j, v, rws, rfl, HJ⟩ := hrel
    obtain ⟨va, vc, rfl⟩ := ownsRow_form HJ.out.1.own
    have hle := HJ.out.1.le
    have HI := Lib.hid HJ.out.1
    have HB8 := Lib.hid HJ.out.2
    have hhi := HI.out.hi
    have hlo := HI.out.lo
    have hDw : w6.heap.size ≤ D := by omega
    rw [← hD]
    clear HJ hD
    by_cases hj : j < fs.length
    · obtain ⟨b, off, ta, tc, tk, tkc, rfl, hlt, hat, hc6⟩ := HK6.out j hj
      obtain ⟨d0, d1, d2, d3, d4, d5⟩ := six_later HB8.out hlt hc6
      have hfj := HWF.out fs[j] (List.getElem_mem hj)
      have hmj := HFM.out fs[j] (List.getElem_mem hj)
      have hoj := (HOK.out.2 j hj).1
      have HNX : Hid (∀ (w1 w2 w3 : World) (v' : Value) (ob : Obj) (oa ia ka : Option Addr) (oc ic kc : Nat), Below wr.heap.size wr w1 → Below w1.heap.size w1 w2 → FdIn (veil (fun k => decide (k < w1.heap.size)) w2) fs[j] oa oc ia ic ka kc → w3.ownsRow (D + 1) 52 13 v' (j + 1) (rws ++ fcs fs[j] oa oc ia ic ka kc) → (w2.alloc ob).grownBy w3 (Value.slice va j vc).ownBlock → (v'.ownBlock = (Value.slice va j vc).ownBlock ∨ v'.ownBlock = some (w2.alloc ob).heap.size) → RsIn fs sb w D (w3.setCell ⟨D, 0, none⟩ v') (j + 1) v' (rws ++ fcs fs[j] oa oc ia ic ka kc) ∧ Below w6.heap.size w6 (w3.setCell ⟨D, 0, none⟩ v')) := by
        intro w1 w2 w3 v' ob oa ia ka oc ic kc h1 h2 h3 h4 h5 h6
        have hs1 := h1.size
        have hs2 := h2.size
        have hol := HI.out.own.lt
        refine ⟨HI.out.next hj h1 h2 h3 h4 h5 h6, ((HB8.out.trans (((h1.trans (h2.mono hs1)).alloc (by omega) ob).mono HB8.out.size)).grown h5 (by have := HB8.out.size; simp; omega) fun k hk => ?_).setCell (by show w6.heap.size ≤ D; omega) _⟩
        have := (hol k hk).1; omega
      have HAT := Lib.hid (hat.keep HB8.out)
      have HWR : Hid (Below w.heap.size w wr) := HI.out.below
      generalize fs[j] = f at *
      have CL : Hid (∀ w', Below wr.heap.size wr w' → Calls Tryz.prog 27 #[.agg #[.int .i64 (fieldV f).kd, .bool (fieldV f).bo, .int .i64 (fieldV f).nu, .string (fieldV f).tx, .slice ta (fieldV f).its.length tc, .slice tk (fieldV f).kys.length tkc]] w' fun e w'' => e = .returned (.bool false) ∧ Below w'.heap.size w' w'') := by
        intro w' hb
        have hk := keys_has f
        have htop := hmj.top
        exact lacking_ok (fieldV f) (vcs (fieldV f) ta tc tk tkc) w' (HAT.out.keep hb) htop.1 (htop.2.1 (fv_kd f).2.2.2.2.2.2) (by have := htop.2.2.1.1; omega) (by rw [fieldV_eq, tab_kys]; exact hk.1) (by rw [fieldV_eq, tab_kys]; exact hk.2.1) (by rw [fieldV_eq, tab_kys, hk.2.2.1, hk.2.2.2])
      have CRF : Hid (∀ w', Below wr.heap.size wr w' → Calls Tryz.prog 28 #[.agg #[.int .i64 (fieldV f).kd, .bool (fieldV f).bo, .int .i64 (fieldV f).nu, .string (fieldV f).tx, .slice ta (fieldV f).its.length tc, .slice tk (fieldV f).kys.length tkc]] w' fun e w'' => ∃ ds : List Value, e = .returned (.agg ds.toArray) ∧ FdAt (veil (fun k => decide (k < w'.heap.size)) w'') f ds ∧ Below w'.heap.size w' w'') := by
        intro w' hb
        exact readField_any f hoj hfj.1 hfj.2.1 hfj.2.2.1 hfj.2.2.2.1 hfj.2.2.2.2 hmj (vcs (fieldV f) ta tc tk tkc) w' (HAT.out.keep hb) (HKN.out w' (HWR.out.trans (hb.mono HWR.out.size)))
      have HBA : Hid (Below wr.heap.size wr (wr.alloc (box6 (fieldV f) ta tc tk tkc))) := below_alloc _ _
      have HXA : Hid ((wr.alloc (box6 (fieldV f) ta tc tk tkc)).heap[wr.heap.size]? = some (box6 (fieldV f) ta tc tk tkc)) := heap_alloc_new _ _
      have HNA : Hid ((wr.alloc (box6 (fieldV f) ta tc tk tkc)).heap.size = wr.heap.size + 1) := by show _ = _; simp
      unfold box6 at HBA HXA HNA
      clear hlt hat hc6 hfj hmj hoj HK6 HWF HFM HOK
      generalize hV : fieldV f = Tv at *
      clear hV
      go_wp2_with fail
      refine (CL.out _ HBA.out).mono ?_
      rintro e wl ⟨rfl, hbl⟩
      have HBL : Hid (Below wr.heap.size wr wl) := HBA.out.trans (hbl.mono (by rw [HNA.out]; omega))
      have hXL := (hbl.block wr.heap.size (by rw [HNA.out]; omega)).trans HXA.out
      obtain ⟨r0, r1, r2, r3, r4, r5⟩ := six_of_block hXL
      have hDL : wl.heap[D]? = some (.cells #[.slice va j vc, .bool sb] 24 (0, 0)) := (HBL.out.block _ hhi).trans HI.out.b9
      have s0 : wl.cell? ⟨D, 0, none⟩ = some (.slice va j vc) := cellT hDL rfl
      have hDl : D < wl.heap.size := by have := HBL.out.size; omega
      have CR : Hid (Calls Tryz.prog 28 #[.agg #[.int .i64 Tv.kd, .bool Tv.bo, .int .i64 Tv.nu, .string Tv.tx, .slice ta Tv.its.length tc, .slice tk Tv.kys.length tkc]] wl.drew fun e w' => ∃ (oa : Option Addr) (oc : Nat) (ia : Option Addr) (ic : Nat) (ka : Option Addr) (kc : Nat), e = .returned (.agg #[.string f.route, .int .i64 f.kind, .bool f.need, .bool f.bnd, .int .i64 f.mn, .int .i64 f.mx, .slice oa f.one.length oc, .int .i64 f.dv.kd, .bool f.dv.bo, .int .i64 f.dv.nu, .string f.dv.tx, .slice ia f.dv.its.length ic, .slice ka f.dv.kys.length kc]) ∧ Hid (FdIn (veil (fun k => decide (k < wl.heap.size)) w') f oa oc ia ic ka kc) ∧ Hid (Below wl.heap.size wl w') ∧ w'.cell? ⟨D, 0, none⟩ = some (.slice va j vc) ∧ (w'.alloc (.cells #[.string f.route, .int .i64 f.kind, .bool f.need, .bool f.bnd, .int .i64 f.mn, .int .i64 f.mx, .slice oa f.one.length oc, .int .i64 f.dv.kd, .bool f.dv.bo, .int .i64 f.dv.nu, .string f.dv.tx, .slice ia f.dv.its.length ic, .slice ka f.dv.kys.length kc] 52)).cell? ⟨D, 0, none⟩ = some (.slice va j vc) ∧ Hid ((w'.alloc (.cells #[.string f.route, .int .i64 f.kind, .bool f.need, .bool f.bnd, .int .i64 f.mn, .int .i64 f.mx, .slice oa f.one.length oc, .int .i64 f.dv.kd, .bool f.dv.bo, .int .i64 f.dv.nu, .string f.dv.tx, .slice ia f.dv.its.length ic, .slice ka f.dv.kys.length kc] 52)).ownsRow (D + 1) 52 13 (.slice va j vc) j rws) ∧ Hid (Sl 13 (w'.alloc (.cells #[.string f.route, .int .i64 f.kind, .bool f.need, .bool f.bnd, .int .i64 f.mn, .int .i64 f.mx, .slice oa f.one.length oc, .int .i64 f.dv.kd, .bool f.dv.bo, .int .i64 f.dv.nu, .string f.dv.tx, .slice ia f.dv.its.length ic, .slice ka f.dv.kys.length kc] 52)) (.slice (some ⟨w'.heap.size, 0, none⟩) 1 1) 1 (fcs f oa oc ia ic ka kc)) ∧ Hid (D + 1 ≤ (w'.alloc (.cells #[.string f.route, .int .i64 f.kind, .bool f.need, .bool f.bnd, .int .i64 f.mn, .int .i64 f.mx, .slice oa f.one.length oc, .int .i64 f.dv.kd, .bool f.dv.bo, .int .i64 f.dv.nu, .string f.dv.tx, .slice ia f.dv.its.length ic, .slice ka f.dv.kys.length kc] 52)).heap.size)) := by
        refine (CRF.out _ HBL.out.drew).mono fun e w' hh => ?_
        obtain ⟨ds, rfl, ⟨oa, oc, ia, ic, ka, kc, rfl, hin⟩, hb⟩ := hh
        have hbl' : Below wl.heap.size wl w' := (Below.refl _ wl).drew.trans hb
        have hb2 := hbl'.alloc hbl'.size (.cells #[.string f.route, .int .i64 f.kind, .bool f.need, .bool f.bnd, .int .i64 f.mn, .int .i64 f.mx, .slice oa f.one.length oc, .int .i64 f.dv.kd, .bool f.dv.bo, .int .i64 f.dv.nu, .string f.dv.tx, .slice ia f.dv.its.length ic, .slice ka f.dv.kys.length kc] 52)
        refine ⟨oa, oc, ia, ic, ka, kc, by rw [fcs_arr], hin, hbl', (hbl'.cell (p := ⟨D, 0, none⟩) hDl).trans s0, (hb2.cell (p := ⟨D, 0, none⟩) hDl).trans s0, own_below (own_below HI.out.own HBL.out) hb2, Sl.lit w' (fcs f oa oc ia ic ka kc) 52 13 rfl, by show _ ≤ _; have := hb2.size; omega⟩
      have HKW : Hid (∀ (w' w3 : World) (ob : Obj), Below wl.heap.size wl w' → (w'.alloc ob).grownBy w3 (Value.slice va j vc).ownBlock → w3.cell? ⟨D, 0, none⟩ = some (.slice va j vc) ∧ w3.frozen? ⟨D, 0, none⟩ = false) := by
        intro w' w3 ob hb hg
        have hb2 := hb.alloc hb.size ob
        have hne : some D ≠ (Value.slice va j vc).ownBlock := fun e => by have := (HI.out.own.lt _ e.symm).1; omega
        have h3 := (hg.block _ (by have := hb2.size; omega) hne).trans ((hb2.block _ hDl).trans hDL)
        exact ⟨cellT h3 rfl, frozenT h3⟩
      have HJ2 := Lib.hid (fun w2 w3 v' ob oa ia ka oc ic kc (h2 : Below wl.heap.size wl w2) h3 h4 h5 h6 => HNX.out wl w2 w3 v' ob oa ia ka oc ic kc HBL.out h2 h3 h4 h5 h6)
      have hj100 : j < 100 := by omega
      have HDL := Lib.hid hDL
      clear hXL HXA HBA HNA hbl CL CRF HNX HI HB8 HAT HWR hDL d0 d1 d2 d3 d4 d5
      go_wp2_with fail
      go_region_law (first | (go_simp; go_at_call 28; (with_reducible refine CR.out.mono ?_); rintro e w' ⟨oa, oc, ia, ic, ka, kc, rfl, HIN, HQ, c0, c1, HROW, HNEW, HBS⟩) | (refine step_append_sl _ rfl _ _ 22 rfl (D + 1) 52 fi (.agg #[.string ⟨#[]⟩, .int .i64 0, .bool false, .bool false, .int .i64 0, .int .i64 0, .slice none 0 0, .int .i64 0, .bool false, .int .i64 0, .string ⟨#[]⟩, .slice none 0 0, .slice none 0 0]) 13 160 Tryz.underlying22 hfi hf0 hf1 hf2 rfl (by decide) (.slice va j vc) j rws rfl HROW.out _ 1 _ rfl HNEW.out (by simp [fcs, Value.oneCell']) (by unfold maxLen; omega) (by omega) HBS.out ?_; intro v3 w3 hown3 hgr3 hat3; obtain ⟨a3, c3, rfl⟩ := ownsRow_form hown3; obtain ⟨g4, g5⟩ := HKW.out _ _ _ HQ.out hgr3; have HS2 := Lib.hid (HJ2.out _ _ _ _ _ _ _ _ _ _ HQ.out HIN.out hown3 hgr3 hat3)))
      all_goals
        clear HROW HNEW hown3 hgr3 hat3 HKW HJ2 CR HIN
        go_wp2_with fail
        go_roundw
        case rel => exact ⟨j + 1, _, _, by go_num, HS2⟩
        case measure => simp [intOf]; omega
    · obtain rfl : j = fs.length := by omega
      have HB : Hid (Below w.heap.size w wr) := HI.out.below
      have HFS : Hid (FsAt (veil (svS D) wr) (.slice va fs.length vc) fs) := HI.out.fields
      have C6 := Lib.hid (checkSchema_any fs (.slice va fs.length vc) sb wr m (HML.out wr HB.out) (HFS.out.keeps (Keeps.bare _ _)) (fun f hf => by obtain ⟨i, hi, rfl⟩ := List.mem_iff_getElem.1 hf; obtain ⟨l, _, _, _, _, _, _, _, hd, _⟩ := (HOK.out.2 i hi).1; have := hd.nodes; omega))
      have hb9 := HI.out.b9
      have p0 : wr.cell? ⟨D, 0, none⟩ = some (.slice va fs.length vc) := cellT hb9 rfl
      have p1 : wr.cell? ⟨D, 1, none⟩ = some (.bool sb) := cellT hb9 rfl
      have HB9 := Lib.hid hb9
      have HZ9 := Lib.hid HI.out.b2
      have HCO := Lib.hid HOK.out
      clear hb9 HI HB8 HK6 HWF HFM HOK HKN HML
      go_wp2_with fail
      refine C6.out.mono ?_
      rintro e we ⟨c, rfl, hc, hbe⟩
      obtain rfl : c = 0 := hc.2 HCO.out
      have h9 := (hbe.block _ hhi).trans HB9.out
      have hz := (hbe.block _ (by omega)).trans HZ9.out
      have HZE := Lib.hid hz
      have HFE := Lib.hid (HFS.out.keeps (Keeps.belows hbe))
      have HBE : Hid (Below w.heap.size w we) := HB.out.trans (hbe.mono HB.out.size)
      clear p0 p1 hbe hc C6 HB9 HZ9 HFS HB
      have p0 : we.cell? ⟨D, 0, none⟩ = some (.slice va fs.length vc) := cellT h9 rfl
      have p1 : we.cell? ⟨D, 1, none⟩ = some (.bool sb) := cellT h9 rfl
      have q0 : we.cell? ⟨w.heap.size + 1, 0, none⟩ = some (.slice none 0 0) := cellT hz rfl
      have q1 : we.cell? ⟨w.heap.size + 1, 1, none⟩ = some (.bool false) := cellT hz rfl
      have f0 : we.frozen? ⟨w.heap.size + 1, 0, none⟩ = false := frozenT hz
      have f1 : we.frozen? ⟨w.heap.size + 1, 1, none⟩ = false := frozenT hz
      clear h9 hz
      go_wp2_with fail
      have HPUT : Hid (((we.setCell ⟨w.heap.size + 1, 0, none⟩ (.slice va fs.length vc)).setCell ⟨w.heap.size + 1, 1, none⟩ (.bool sb)).heap[w.heap.size + 1]? = some (.cells #[.slice va fs.length vc, .bool sb] 24 (0, 0))) := heap_setCell_same _ _ 1 #[.slice va fs.length vc, .bool false] _ _ (heap_setCell_same _ _ 0 #[.slice none 0 0, .bool false] _ _ HZE.out)
      have HBF : Hid (Below w.heap.size w ((we.setCell ⟨w.heap.size + 1, 0, none⟩ (.slice va fs.length vc)).setCell ⟨w.heap.size + 1, 1, none⟩ (.bool sb))) := (HBE.out.setCell (by show w.heap.size ≤ w.heap.size + 1; omega) _).setCell (by show w.heap.size ≤ w.heap.size + 1; omega) _
      have HFF : Hid (FsAt ((we.setCell ⟨w.heap.size + 1, 0, none⟩ (.slice va fs.length vc)).setCell ⟨w.heap.size + 1, 1, none⟩ (.bool sb)) (.slice va fs.length vc) fs) := (HFE.out.keeps (Keeps.veils (S' := fun _ => false) (by simp) fun k hk hs => ⟨rfl, by simp [svS] at hs; rw [heap_setCell_other _ _ _ _ (by simp; omega), heap_setCell_other _ _ _ _ (by simp; omega)]⟩)).keeps (Keeps.bare _ _)
      generalize hwf : World.setCell _ _ _ = wf at HPUT HBF HFF ⊢
      clear hwf p0 p1 q0 q1 f0 f1
      have s0 : wf.cell? ⟨w.heap.size + 1, 0, none⟩ = some (.slice va fs.length vc) := cellT HPUT.out rfl
      have s1 : wf.cell? ⟨w.heap.size + 1, 1, none⟩ = some (.bool sb) := cellT HPUT.out rfl
      refine bodyPost_ret (v := .tuple #[.agg #[.slice va fs.length vc, .bool sb], .int .i64 0]) (by simp [results, Tryz.results10, go_sem, s0, s1] <;> rfl) rfl ⟨_, rfl, HFF.out, HBF.out⟩
end Go.Proofs.YtejnoedlfbglcaaGreatDoor
