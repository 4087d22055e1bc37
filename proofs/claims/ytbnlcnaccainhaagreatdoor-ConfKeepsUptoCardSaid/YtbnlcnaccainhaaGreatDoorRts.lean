/- conf.routes: the routes to all values without items, appended to a row. Conditions: the value is right and of at most 1000 values; sizes; the library's table of powers of ten is laid. -/
import Derived.Test.YtbnlcnaccainhaaGreatDoorKeB
import Derived.Test.YtbnlcnaccainhaaGreatDoorKeZ
import Derived.Test.YtbnlcnaccainhaaGreatDoorKeV
import Derived.Test.YtbnlcnaccainhaaGreatDoorKeS
import Derived.Deep.RegionHeld3
import Derived.Maps.Range
namespace Go.Proofs.YtbnlcnaccainhaaGreatDoor
open Go.RowKit Mh
set_option linter.unusedVariables false

theorem _root_.Mh.rtss_app (k : Int) (ks : List ByteArray) (r : ByteArray) : ∀ (xs ys : List V) (i : Nat), V.rtss k ks (xs ++ ys) i r = V.rtss k ks xs i r ++ V.rtss k ks ys (i + xs.length) r := by
  intro xs
  induction xs with
  | nil => intro ys i; simp [V.rtss]
  | cons x xs ih =>
    intro ys i
    simp only [List.cons_append, V.rtss, List.length_cons]
    rw [ih, List.append_assoc, show i + 1 + xs.length = i + (xs.length + 1) by omega]
theorem _root_.Mh.rtss_take (k : Int) (ks : List ByteArray) (r : ByteArray) (is : List V) (j : Nat) (h : j < is.length) : V.rtss k ks (is.take (j + 1)) 0 r = V.rtss k ks (is.take j) 0 r ++ V.rts is[j] (joinR r (partB k ks j)) := by
  rw [List.take_succ_eq_append_getElem h, rtss_app, List.length_take, Nat.min_eq_left (by omega), Nat.zero_add]
  simp [V.rtss]
theorem _root_.Mh.rts_items {X : V} (h : 0 < X.its.length) (r : ByteArray) : V.rts X r = V.rtss X.kd X.kys X.its 0 r := by
  cases X with
  | mk k b n t is ks =>
    cases is with
    | nil => simp [V.its] at h
    | cons x xs => simp only [V.rts, V.kd, V.kys, V.its]
theorem _root_.Mh.rts_none {X : V} (h : X.its.length = 0) (r : ByteArray) : V.rts X r = [r] := by
  cases X with
  | mk k b n t is ks =>
    cases is with
    | nil => simp only [V.rts]
    | cons x xs => simp [V.its] at h
theorem _root_.Mh.rtss_len (k : Int) (ks : List ByteArray) (r : ByteArray) : ∀ (xs : List V) (i : Nat), (V.rtss k ks xs i r).length ≤ V.nodess xs := by
  intro xs
  induction xs with
  | nil => intro i; simp [V.rtss]
  | cons x xs ih =>
    intro i
    simp only [V.rtss, V.nodess, List.length_append]
    have := rts_len x (joinR r (partB k ks i))
    have := ih (i + 1)
    omega
theorem _root_.Mh.grown_of_below {a c : World} (h : Below a.heap.size a c) (row : Option Nat) : a.grownBy c row := ⟨h.os, h.tape, h.output, h.size, fun i hi _ => h.block i hi⟩
/-- What routes returns. -/
def RtsOk (W0 : World) (ov : Value) (l : List ByteArray) (w : World) (e : Ending) (w' : World) : Prop :=
  ∃ v', e = .returned v' ∧ w'.ownsRow W0.heap.size 9 1 v' l.length (l.map Value.string) ∧ w.grownBy w' ov.ownBlock ∧ (v'.ownBlock = ov.ownBlock ∨ ∃ k, w.heap.size ≤ k ∧ v'.ownBlock = some k)
/-- What stands in its loop. -/
structure RtsIn (X : V) (W0 w : World) (ov : Value) (l : List ByteArray) (r : ByteArray) (bx : Obj) (wr : World) (j : Nat) (v : Value) : Prop where
  le : j ≤ X.its.length
  own : wr.ownsRow W0.heap.size 9 1 v (l ++ V.rtss X.kd X.kys (X.its.take j) 0 r).length ((l ++ V.rtss X.kd X.kys (X.its.take j) 0 r).map Value.string)
  grown : w.grownBy wr ov.ownBlock
  at_ : v.ownBlock = ov.ownBlock ∨ ∃ k, w.heap.size < k ∧ v.ownBlock = some k
  box : wr.heap[w.heap.size]? = some bx
theorem RtsIn.low {X : V} {W0 w wr : World} {ov v : Value} {l : List ByteArray} {r : ByteArray} {bx : Obj} {j : Nat} (h : RtsIn X W0 w ov l r bx wr j v) (hb : Below W0.heap.size W0 w) (hlt : ∀ k, ov.ownBlock = some k → W0.heap.size ≤ k) : Below W0.heap.size W0 wr :=
  hb.grown h.grown hb.size hlt
theorem RtsIn.next {X : V} {W0 w wr w2 w3 : World} {ov v v' : Value} {l : List ByteArray} {r : ByteArray} {bx : Obj} {j : Nat} (h : RtsIn X W0 w ov l r bx wr j v) (hj : j < X.its.length) (hb : Below wr.heap.size wr w2)
    (hown : w3.ownsRow W0.heap.size 9 1 v' ((l ++ V.rtss X.kd X.kys (X.its.take j) 0 r) ++ V.rts X.its[j] (joinR r (partB X.kd X.kys j))).length (((l ++ V.rtss X.kd X.kys (X.its.take j) 0 r) ++ V.rts X.its[j] (joinR r (partB X.kd X.kys j))).map Value.string))
    (hg : w2.grownBy w3 v.ownBlock) (hat : v'.ownBlock = v.ownBlock ∨ ∃ k, w2.heap.size ≤ k ∧ v'.ownBlock = some k) (hlt : ∀ k, ov.ownBlock = some k → k < w.heap.size) : RtsIn X W0 w ov l r bx w3 (j + 1) v' := by
  have hwb : w.heap.size < wr.heap.size := (Array.getElem?_eq_some_iff.1 h.box).1
  have hz := hb.size
  refine ⟨hj, ?_, ?_, ?_, ?_⟩
  · rw [rtss_take _ _ _ _ _ hj, ← List.append_assoc]; exact hown
  · refine (h.grown.trans (grown_of_below hb _)).andThen hg fun k hk => ?_
    rcases h.at_ with e | ⟨q, hq, e⟩
    · right; rw [← e]; exact hk
    · left; rw [e] at hk; cases hk; omega
  · rcases hat with e | ⟨q, hq, e⟩
    · rw [e]; exact h.at_
    · exact .inr ⟨q, by omega, e⟩
  · refine (hg.block _ (by omega) ?_).trans ((hb.block _ hwb).trans h.box)
    intro e
    rcases h.at_ with e' | ⟨q, hq, e'⟩
    · have := hlt w.heap.size (by rw [← e']; exact e.symm); omega
    · rw [e'] at e; cases e; omega
theorem RtsIn.done {X : V} {W0 w wr : World} {ov v : Value} {l : List ByteArray} {r : ByteArray} {bx : Obj} {j : Nat} (h : RtsIn X W0 w ov l r bx wr j v) (hj : j = X.its.length) (h0 : 0 < X.its.length) : RtsOk W0 ov (l ++ V.rts X r) w (.returned v) wr := by
  subst hj
  have ho := h.own
  rw [List.take_length, ← rts_items h0 r] at ho
  refine ⟨v, rfl, ho, h.grown, ?_⟩
  rcases h.at_ with e | ⟨q, hq, e⟩
  · exact .inl e
  · exact .inr ⟨q, by omega, e⟩
set_option maxRecDepth 100000 in
set_option maxHeartbeats 4000000 in
theorem routes_leaf (X : V) (h0 : X.its.length = 0) (cs : List Value) (r : ByteArray) (l : List ByteArray) (ov : Value) (W0 w : World) (hX : VAt W0 X cs) (hb : Below W0.heap.size W0 w) (ho : w.ownsRow W0.heap.size 9 1 ov l.length (l.map Value.string)) (hl : l.length ≤ 1099511627776) :
    Calls Tryz.prog 16 #[ov, .agg cs.toArray, .string r] w (RtsOk W0 ov (l ++ V.rts X r) w) := by
  obtain ⟨ia, ic, ka, kc, rfl, _⟩ := hX.opened
  obtain ⟨va, vc, rfl⟩ := ownsRow_form ho
  obtain ⟨si, hsi, hs0, hs1, hs2⟩ := info_parts infoStr
  rw [vcs_arr, rts_none h0, h0]
  have HG : Hid (w.grownBy ((w.alloc (.cells #[.int .i64 X.kd, .bool X.bo, .int .i64 X.nu, .string X.tx, .slice ia 0 ic, .slice ka X.kys.length kc] 25)).alloc (.cells #[.string r] 9)) (Value.slice va l.length vc).ownBlock) := (World.grownBy_alloc _ _ _).trans (World.grownBy_alloc _ _ _)
  have HROW := Lib.hid ((ho.alloc (.cells #[.int .i64 X.kd, .bool X.bo, .int .i64 X.nu, .string X.tx, .slice ia 0 ic, .slice ka X.kys.length kc] 25)).alloc (.cells #[.string r] 9))
  have HNEW : Hid (Sl 1 ((w.alloc (.cells #[.int .i64 X.kd, .bool X.bo, .int .i64 X.nu, .string X.tx, .slice ia 0 ic, .slice ka X.kys.length kc] 25)).alloc (.cells #[.string r] 9)) (.slice (some ⟨w.heap.size + 1, 0, none⟩) 1 1) 1 [.string r]) := by
    have h1 : (w.alloc (.cells #[.int .i64 X.kd, .bool X.bo, .int .i64 X.nu, .string X.tx, .slice ia 0 ic, .slice ka X.kys.length kc] 25)).heap.size = w.heap.size + 1 := by simp
    have h2 := Sl.lit' (w.alloc (.cells #[.int .i64 X.kd, .bool X.bo, .int .i64 X.nu, .string X.tx, .slice ia 0 ic, .slice ka X.kys.length kc] 25)) [.string r] 9 1 rfl
    rw [h1] at h2
    exact h2
  have HSZ : Hid (W0.heap.size ≤ ((w.alloc (.cells #[.int .i64 X.kd, .bool X.bo, .int .i64 X.nu, .string X.tx, .slice ia 0 ic, .slice ka X.kys.length kc] 25)).alloc (.cells #[.string r] 9)).heap.size) := by have := hb.size; show _ ≤ _; simp; omega
  clear hX h0 hb ho
  go_enter Tryz.func16, Tryz.ntmps16
  go_wp2_with (at_builtin; refine wpList_append_sl _ rfl _ _ 23 rfl W0.heap.size 9 si (.string ⟨#[]⟩) 1 16 Tryz.underlying23 hsi hs0 hs1 hs2 rfl (by decide) (.slice va l.length vc) l.length _ rfl HROW.out _ 1 _ rfl HNEW.out (by simp [Value.oneCell']) (by unfold maxLen; omega) (by omega) HSZ.out ?_; intro v3 w3 hown3 hgr3 hat3)
  go_ret
  refine ⟨v3, rfl, by simpa using hown3, HG.out.trans hgr3, ?_⟩
  rcases hat3 with e | e
  · exact .inl e
  · exact .inr ⟨_, by simp; omega, e⟩
set_option maxRecDepth 100000 in
set_option maxHeartbeats 8000000 in
theorem routes_any : ∀ (M : Nat) (X : V), SizeOf.sizeOf X < M → X.mid → ∀ (cs : List Value) (r : ByteArray) (l : List ByteArray) (ov : Value) (W0 w : World), VAt W0 X cs → Tab10 W0 → Below W0.heap.size W0 w → w.ownsRow W0.heap.size 9 1 ov l.length (l.map Value.string) →
    r.size + 41 * X.lev ≤ 2147483000 → l.length + X.nodes ≤ 1099511627776 → Calls Tryz.prog 16 #[ov, .agg cs.toArray, .string r] w (RtsOk W0 ov (l ++ V.rts X r) w) := by
  intro M
  induction M with
  | zero => intro X h; omega
  | succ M ih =>
    intro X hM hmid cs r l ov W0 w hX ht hb ho hr hl
    by_cases h0 : X.its.length = 0
    · exact routes_leaf X h0 cs r l ov W0 w hX hb ho (by omega)
    have h0' : 0 < X.its.length := by omega
    have hil := hmid.len.1
    have hbx : Below w.heap.size w (w.alloc (.cells cs.toArray 25)) := (Below.refl _ w).alloc (Nat.le_refl _) _
    have H0 : Hid (RtsIn X W0 w ov l r (.cells cs.toArray 25 (0, 0)) (w.alloc (.cells cs.toArray 25)) 0 ov) := ⟨by omega, by simpa [V.rtss] using ho.alloc _, World.grownBy_alloc _ _ _, .inl rfl, heap_alloc_new _ _⟩
    have HLT := Lib.hid (fun k hk => (ho.lt k hk))
    have HB := Lib.hid hb
    have HX := Lib.hid hX
    have HT := Lib.hid ht
    have HP := Lib.hid (fun (j : Nat) (hj : j < X.its.length) (w' : World) (hb : Below W0.heap.size W0 w') => part_any X cs j w' (hX.keep hb) hmid hj (ht.next hb))
    have HPS := Lib.hid (fun j hj => partB_size hmid j hj)
    have HIH : Hid (∀ (j : Nat) (hj : j < X.its.length) (ds : List Value) (v : Value) (wr w2 : World), VAt W0 X.its[j] ds → RtsIn X W0 w ov l r (.cells cs.toArray 25 (0, 0)) wr j v → Below wr.heap.size wr w2 →
        Calls Tryz.prog 16 #[v, .agg ds.toArray, .string (joinR r (partB X.kd X.kys j))] w2 (RtsOk W0 v ((l ++ V.rtss X.kd X.kys (X.its.take j) 0 r) ++ V.rts X.its[j] (joinR r (partB X.kd X.kys j))) w2)) := by
      intro j hj ds v wr w2 hds hin hb2
      have hmem : X.its[j] ∈ X.its := List.getElem_mem hj
      have hlow := hin.low hb fun k hk => (ho.lt k hk).1
      have h1 := lev_item hmem
      have h2 := joinR_size r (partB X.kd X.kys j)
      have h3 := partB_size hmid j hj
      have h4 := rtss_len X.kd X.kys r (X.its.take j) 0
      have h5 : V.nodess (X.its.take j) + X.its[j].nodes ≤ V.nodess X.its := by
        conv => rhs; rw [← List.take_append_drop j X.its, nodess_app, List.drop_eq_getElem_cons hj]
        simp only [V.nodess]; omega
      have h6 := nodes_its X
      refine ih X.its[j] ?_ (hmid.item _ hmem) ds _ _ v W0 w2 hds ht (hlow.trans (hb2.mono hlow.size)) (own_below' hin.own hb2) (by omega) (by rw [List.length_append]; omega)
      cases X with
      | mk k b n t is ks => have := size_item (k := k) (b := b) (n := n) (t := t) (ks := ks) hmem; simp only [V.its] at this ⊢; omega
    obtain ⟨ia, ic, ka, kc, rfl, _, _, _, _, rows, hS, hV⟩ := hX.opened
    obtain ⟨_, _, hsl, hitem⟩ := VsAt.item hS hV
    simp only [Value.slice.injEq] at hsl
    obtain ⟨rfl, _, rfl⟩ := hsl
    have HITEM := Lib.hid hitem
    have HLEV := Lib.hid hr
    rw [vcs_arr] at H0 HIH HP
    rw [vcs_arr]
    have hd0 : ((X.its.length : Int) == 0) = false := by rw [beq_eq_false_iff_ne]; omega
    clear hX ht hb ho hS hV hitem hmid hl hr ih hM hbx h0
    go_enter Tryz.func16, Tryz.ntmps16
    go_wp2_with fail
    go_loopw [0, 20] (fun v i wr => ∃ (j : Nat), i = .int .i64 j ∧ Hid (RtsIn X W0 w ov l r (.cells #[.int .i64 X.kd, .bool X.bo, .int .i64 X.nu, .string X.tx, .slice ia X.its.length ic, .slice ka X.kys.length kc] 25 (0, 0)) wr j v)) (fun _ i _ => X.its.length - (intOf i).toNat)
    case atStart => exact ⟨0, rfl, H0⟩
    case round =>
      clear H0
      obtain ⟨j, rfl, HI⟩ := hrel
      have hle := HI.out.le
      by_cases hj : j < X.its.length
      · obtain ⟨xb, xo, xa, xc, xk, xkc, rfl, hlt, hxat, hcell⟩ := HITEM.out j hj
        have HLOW := Lib.hid (HI.out.low HB.out fun k hk => (HLT.out k hk).1)
        have HXAT := Lib.hid hxat
        obtain ⟨x0, x1, x2, x3, x4, x5⟩ := six_later HLOW.out hlt hcell
        have HNX := Lib.hid (fun w2 w3 v' hb ho hg hat => HI.out.next (w2 := w2) (w3 := w3) (v' := v') hj hb ho hg hat (fun k hk => (HLT.out k hk).2))
        have HRV := Lib.hid (fun ds w2 hds hb => HIH.out j hj ds u0 wr w2 hds HI.out hb)
        have HNE : Hid (u0.ownBlock ≠ some wr.heap.size ∧ u0.ownBlock ≠ some w.heap.size) := by
          refine ⟨fun e => absurd (HI.out.own.lt _ e).2 (Nat.lt_irrefl _), fun e => ?_⟩
          rcases HI.out.at_ with e' | ⟨q, hq, e'⟩
          · exact absurd (HLT.out _ (e'.symm.trans e)).2 (Nat.lt_irrefl _)
          · rw [e'] at e; cases e; omega
        obtain ⟨va, vc, hv⟩ := ownsRow_form HI.out.own
        have HBX := Lib.hid HI.out.box
        obtain ⟨n, hn⟩ : ∃ n, (l ++ V.rtss X.kd X.kys (X.its.take j) 0 r).length = n := ⟨_, rfl⟩
        rw [hn] at hv
        subst hv
        obtain ⟨r0, r1, r2, r3, r4, r5⟩ := six_of_block HBX.out
        have hwr : w.heap.size < wr.heap.size := (Array.getElem?_eq_some_iff.1 HBX.out).1
        clear HITEM hlt hxat hcell HI HIH hn
        go_wp2_with fail
        obtain ⟨W1, hW1⟩ : ∃ W1, W1 = (wr.alloc (.cells #[.int .i64 X.its[j].kd, .bool X.its[j].bo, .int .i64 X.its[j].nu, .string X.its[j].tx, .slice xa X.its[j].its.length xc, .slice xk X.its[j].kys.length xkc] 25)) := ⟨_, rfl⟩
        rw [← hW1]
        have hB1 : Below wr.heap.size wr W1 := by rw [hW1]; exact (Below.refl _ wr).alloc (Nat.le_refl _) _
        have hz1 : wr.heap.size < W1.heap.size := by rw [hW1]; simp
        have hx1 : W1.heap[wr.heap.size]? = some (.cells #[.int .i64 X.its[j].kd, .bool X.its[j].bo, .int .i64 X.its[j].nu, .string X.its[j].tx, .slice xa X.its[j].its.length xc, .slice xk X.its[j].kys.length xkc] 25 (0, 0)) := by rw [hW1]; exact heap_alloc_new _ _
        have hb1 := (hB1.block _ hwr).trans HBX.out
        have HS : Hid (∀ w', Below W1.heap.size W1 w' → (w'.cell? ⟨wr.heap.size, 0, none⟩ = some (.int .i64 X.its[j].kd) ∧ w'.cell? ⟨wr.heap.size, 1, none⟩ = some (.bool X.its[j].bo) ∧ w'.cell? ⟨wr.heap.size, 2, none⟩ = some (.int .i64 X.its[j].nu) ∧ w'.cell? ⟨wr.heap.size, 3, none⟩ = some (.string X.its[j].tx) ∧ w'.cell? ⟨wr.heap.size, 4, none⟩ = some (.slice xa X.its[j].its.length xc) ∧ w'.cell? ⟨wr.heap.size, 5, none⟩ = some (.slice xk X.its[j].kys.length xkc) ∧ w'.cell? ⟨w.heap.size, 0, none⟩ = some (.int .i64 X.kd) ∧ w'.cell? ⟨w.heap.size, 1, none⟩ = some (.bool X.bo) ∧ w'.cell? ⟨w.heap.size, 2, none⟩ = some (.int .i64 X.nu) ∧ w'.cell? ⟨w.heap.size, 3, none⟩ = some (.string X.tx) ∧ w'.cell? ⟨w.heap.size, 4, none⟩ = some (.slice (some ⟨xb, xo, none⟩) X.its.length ic) ∧ w'.cell? ⟨w.heap.size, 5, none⟩ = some (.slice ka X.kys.length kc))) := by
          intro w' h
          have g1 := (h.block _ hz1).trans hx1
          have g2 := (h.block _ (by omega)).trans hb1
          exact ⟨cellT g1 rfl, cellT g1 rfl, cellT g1 rfl, cellT g1 rfl, cellT g1 rfl, cellT g1 rfl, cellT g2 rfl, cellT g2 rfl, cellT g2 rfl, cellT g2 rfl, cellT g2 rfl, cellT g2 rfl⟩
        have HS4 : Hid (∀ w2 w4, Below W1.heap.size W1 w2 → w2.grownBy w4 (Value.slice va n vc).ownBlock → (w4.cell? ⟨wr.heap.size, 0, none⟩ = some (.int .i64 X.its[j].kd) ∧ w4.cell? ⟨wr.heap.size, 1, none⟩ = some (.bool X.its[j].bo) ∧ w4.cell? ⟨wr.heap.size, 2, none⟩ = some (.int .i64 X.its[j].nu) ∧ w4.cell? ⟨wr.heap.size, 3, none⟩ = some (.string X.its[j].tx) ∧ w4.cell? ⟨wr.heap.size, 4, none⟩ = some (.slice xa X.its[j].its.length xc) ∧ w4.cell? ⟨wr.heap.size, 5, none⟩ = some (.slice xk X.its[j].kys.length xkc) ∧ w4.cell? ⟨w.heap.size, 0, none⟩ = some (.int .i64 X.kd) ∧ w4.cell? ⟨w.heap.size, 1, none⟩ = some (.bool X.bo) ∧ w4.cell? ⟨w.heap.size, 2, none⟩ = some (.int .i64 X.nu) ∧ w4.cell? ⟨w.heap.size, 3, none⟩ = some (.string X.tx) ∧ w4.cell? ⟨w.heap.size, 4, none⟩ = some (.slice (some ⟨xb, xo, none⟩) X.its.length ic) ∧ w4.cell? ⟨w.heap.size, 5, none⟩ = some (.slice ka X.kys.length kc))) := by
          intro w2 w4 h hg
          have hz2 := h.size
          have g1 := (hg.block _ (by omega) (fun e => HNE.out.1 e.symm)).trans ((h.block _ hz1).trans hx1)
          have g2 := (hg.block _ (by omega) (fun e => HNE.out.2 e.symm)).trans ((h.block _ (by omega)).trans hb1)
          exact ⟨cellT g1 rfl, cellT g1 rfl, cellT g1 rfl, cellT g1 rfl, cellT g1 rfl, cellT g1 rfl, cellT g2 rfl, cellT g2 rfl, cellT g2 rfl, cellT g2 rfl, cellT g2 rfl, cellT g2 rfl⟩
        have HP1 := Lib.hid (fun w' (h : Below W1.heap.size W1 w') => HP.out j hj w' (HLOW.out.trans ((hB1.trans (h.mono hB1.size)).mono HLOW.out.size)))
        have HJ1 := Lib.hid (fun w' => joined_any r (partB X.kd X.kys j) w' (by have := HLEV.out; have := HPS.out j hj; omega))
        have HR1 := Lib.hid (fun w' (h : Below W1.heap.size W1 w') => HRV.out _ w' HXAT.out (hB1.trans (h.mono hB1.size)))
        have HB1 := Lib.hid hB1
        rw [vcs_arr] at HR1
        clear hW1 hB1 hx1 hb1 x0 x1 x2 x3 x4 x5 r0 r1 r2 r3 r4 r5
        go_region_held3 (fun w' => w'.cell? ⟨wr.heap.size, 0, none⟩ = some (.int .i64 X.its[j].kd) ∧ w'.cell? ⟨wr.heap.size, 1, none⟩ = some (.bool X.its[j].bo) ∧ w'.cell? ⟨wr.heap.size, 2, none⟩ = some (.int .i64 X.its[j].nu) ∧ w'.cell? ⟨wr.heap.size, 3, none⟩ = some (.string X.its[j].tx) ∧ w'.cell? ⟨wr.heap.size, 4, none⟩ = some (.slice xa X.its[j].its.length xc) ∧ w'.cell? ⟨wr.heap.size, 5, none⟩ = some (.slice xk X.its[j].kys.length xkc) ∧ w'.cell? ⟨w.heap.size, 0, none⟩ = some (.int .i64 X.kd) ∧ w'.cell? ⟨w.heap.size, 1, none⟩ = some (.bool X.bo) ∧ w'.cell? ⟨w.heap.size, 2, none⟩ = some (.int .i64 X.nu) ∧ w'.cell? ⟨w.heap.size, 3, none⟩ = some (.string X.tx) ∧ w'.cell? ⟨w.heap.size, 4, none⟩ = some (.slice (some ⟨xb, xo, none⟩) X.its.length ic) ∧ w'.cell? ⟨w.heap.size, 5, none⟩ = some (.slice ka X.kys.length kc)) (first | assumption | exact HS.out _ (Below.refl _ _).drew | exact HS.out _ (Below.refl _ _)) (first | (go_at_call 33; refine (HP1.out _ (Below.refl _ _).drew).mono ?_; rintro e w2 ⟨rfl, hb2⟩; have hq2 : Below W1.heap.size W1 w2 := (Below.refl _ W1).drew.trans hb2; have hs2 := HS.out _ hq2) | (go_at_call 32; refine (HJ1.out _).mono ?_; rintro e w3 ⟨rfl, rfl⟩) | (go_at_call 16; refine (HR1.out _ hq2).mono ?_; rintro e w4 ⟨v4, rfl, ho4, hg4, ha4⟩; have hs4 := HS4.out _ _ hq2 hg4))
        all_goals
          have HI2 := Lib.hid (HNX.out _ _ _ (HB1.out.trans (hq2.mono HB1.out.size)) ho4 hg4 ha4)
          clear ho4 hg4 ha4 hs2 hs4 hq2 HNX HRV HP1 HJ1 HR1 HS HS4 HB1
          go_wp2_with fail
          go_roundw
          case rel => exact ⟨j + 1, by go_num, HI2⟩
          case measure => simp [intOf]; omega
      · obtain rfl : j = X.its.length := by omega
        have HR := Lib.hid (HI.out.done rfl h0')
        clear HLEV HITEM HIH HPS HP HT HX HB HLT HI
        go_wp2_with fail
        go_ret
        exact HR.out
end Go.Proofs.YtbnlcnaccainhaaGreatDoor
