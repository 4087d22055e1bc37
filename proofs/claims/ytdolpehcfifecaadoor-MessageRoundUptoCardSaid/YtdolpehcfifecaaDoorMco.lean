/- lang.writerOf, (hashPiece).write. Conditions: where the row lies. · (argument).write. Conditions: what writeWays leaves. -/
import Derived.Test.YtdolpehcfifecaaDoorMcm
import Derived.RegionTactic
import Derived.Deep.RegionLaw
import Derived.ChangeAlike
import Derived.BigRegion
import Derived.Deep.RegionHeld3
namespace Go.Proofs.YtdolpehcfifecaaDoor
open Go.RowKit Mh
set_option linter.unusedVariables false
/-- The writer of a piece, as an interface's value. -/
def writerV (kd : Int) (tx : ByteArray) (pv : Value) : Value :=
  if kd = 0 then .iface 101 (.agg #[.string tx]) else if kd = 4 then .iface 103 (.agg #[]) else .iface 90 (.agg #[.int .i64 kd, .string tx, pv])
set_option maxHeartbeats 4000000 in
theorem gwriterOf_any (kd : Int) (tx : ByteArray) (a : Option Addr) (n c : Nat) (w : World) : Calls Tryd.prog 46 #[.agg #[.int .i64 kd, .string tx, .slice a n c]] w fun e w' => e = .returned (writerV kd tx (.slice a n c)) ∧ Below w.heap.size w w' := by
  have HB : Hid (Below w.heap.size w (w.alloc (.cells #[.int .i64 kd, .string tx, .slice a n c] 66))) := (Below.refl _ w).alloc (Nat.le_refl _) _
  have HV : Hid (writerV kd tx (.slice a n c) = if kd = 0 then .iface 101 (.agg #[.string tx]) else if kd = 4 then .iface 103 (.agg #[]) else .iface 90 (.agg #[.int .i64 kd, .string tx, .slice a n c])) := rfl
  generalize writerV kd tx (.slice a n c) = V at HV ⊢
  by_cases k0 : kd = 0
  · have q : (kd == 0) = true := by rw [beq_iff_eq]; exact k0
    have HF : Hid (V = .iface 101 (.agg #[.string tx])) := by show _ = _; rw [HV.out, if_pos k0]
    clear HV k0
    go_enter Tryd.func46, Tryd.ntmps46
    go_wp2_with fail
    go_ret
    exact ⟨by rw [HF.out]; rfl, HB.out⟩
  have q0 : (kd == 0) = false := by rw [beq_eq_false_iff_ne]; exact k0
  by_cases k4 : kd = 4
  · have q : (kd == 4) = true := by rw [beq_iff_eq]; exact k4
    have HF : Hid (V = .iface 103 (.agg #[])) := by show _ = _; rw [HV.out, if_neg k0, if_pos k4]
    clear HV k0 k4
    go_enter Tryd.func46, Tryd.ntmps46
    go_wp2_with fail
    go_ret
    exact ⟨by rw [HF.out]; rfl, HB.out⟩
  have q4 : (kd == 4) = false := by rw [beq_eq_false_iff_ne]; exact k4
  have HF : Hid (V = .iface 90 (.agg #[.int .i64 kd, .string tx, .slice a n c])) := by show _ = _; rw [HV.out, if_neg k0, if_neg k4]
  clear HV k0 k4
  go_enter Tryd.func46, Tryd.ntmps46
  go_wp2_with fail
  go_ret
  exact ⟨by rw [HF.out]; rfl, HB.out⟩
set_option maxRecDepth 100000 in
set_option maxHeartbeats 4000000 in
theorem ghashWrite_any (l : List UInt8) (ov : Value) (W0 w : World) (hb : Below W0.heap.size W0 w) (ho : w.ownsRow W0.heap.size 5 1 ov l.length (byteCells l)) (hl : l.length + 1 ≤ 1000000000) :
    Calls Tryd.prog 133 #[.agg #[], ov] w fun e w' => ∃ v', e = .returned v' ∧ BAt 5 W0 w ov (l ++ [35]) w' v' := by
  obtain ⟨bi, hbi, hbz0, hbz1, hbz2⟩ := info_parts infoByte
  obtain ⟨va, vc, hv⟩ := ownsRow_form ho
  have hb1 : Below w.heap.size w ((w.alloc (.cells #[] 103)).alloc (.cells #[.int .u8 35] 5)) := ((Below.refl _ w).alloc (Nat.le_refl _) _).alloc (by simp) _
  have H1 := Lib.hid ((BAt.refl ho).below hb1)
  have HO : Hid (((w.alloc (.cells #[] 103)).alloc (.cells #[.int .u8 35] 5)).heap[w.heap.size + 1]? = some (.cells #[.int .u8 ((35 : UInt8).toNat : Int)] 5 (0, 0))) := by
    show _ = _
    have := heap_alloc_new (w.alloc (.cells #[] 103)) (.cells #[.int .u8 35] 5)
    simpa using this
  have HSZ : Hid (W0.heap.size ≤ ((w.alloc (.cells #[] 103)).alloc (.cells #[.int .u8 35] 5)).heap.size) := by have := hb.size; show _ ≤ _; simp; omega
  subst hv
  clear hb ho hb1
  go_enter Tryd.func133, Tryd.ntmps133
  go_wp2_with (at_builtin; refine wpList_append_chr rfl _ _ 62 rfl W0.heap.size 5 bi Tryd.underlying62 hbi hbz0 hbz1 hbz2 _ l rfl H1.out.own _ 35 rfl HO.out (by omega) HSZ.out ?_; intro v3 w3 hown3 hgr3 hat3; have H3 := Lib.hid (H1.out.step hown3 hgr3 (hat3.imp id fun e => ⟨_, Nat.le_refl _, e⟩)))
  go_ret
  exact ⟨_, rfl, H3.out⟩
end Go.Proofs.YtdolpehcfifecaaDoor
namespace Mh
open Go Go.RowKit Go.Lib
set_option linter.unusedVariables false
section
variable {P : Program} {ops : Array Oper} {o : Oper} {a : Act} {Q : Exit → Act → World → Prop}
theorem step_append_str {E : Prop} {K : Act → World → Prop} (w : World) (hgd : o.guard = none) (sl x : Operand) (t u : TypeId)
    (ho : o.op = .call { callee := .builtin .append, args := #[sl, x], argTypes := #[t, u] })
    (base : Nat) (e : TypeId) (i : TypeInfo) (ht : P.underlying t = some (.slice e)) (hu : P.underlying u = some .string) (hi : P.info? e = some i) (hz : i.zero = some (.int .u8 0))
    (hsize : i.size = 1) (hby : i.bytes = 1)
    (v : Value) (l : List UInt8) (hs : a.eval sl = v) (hown : w.ownsRow base e 1 v l.length (byteCells l)) (s : ByteArray) (hx : a.eval x = .string s)
    (hbytes : l.length + s.size ≤ 140737488355328) (hbase : base ≤ w.heap.size)
    (h : ∀ v' w', w'.ownsRow base e 1 v' (l ++ s.data.toList).length (byteCells (l ++ s.data.toList)) → w.grownBy w' v.ownBlock → (v'.ownBlock = v.ownBlock ∨ v'.ownBlock = some w.heap.size) → K (a.put o.dst v') w') :
    if Region.wanted o (yielded ops a.tmps) = true then Oper.wp P o a w K Q else E := by
  have hw : Region.wanted o (yielded ops a.tmps) = true := by simp [Region.wanted, hgd]
  rw [if_pos hw]
  obtain ⟨v', w', hr, h2, h3, h4⟩ := run_append_str (P := P) w base t u o.type e i ht hu hi hz hsize hby v l hown s hbytes hbase
  unfold Oper.wp execOp
  simp only [ho, resolve, invoke, builtin, Sem.run_bind, Sem.run_pure, Result.andThen_ok, List.map_toArray, List.map_cons, List.map_nil, hs, hx, hr]
  exact h _ _ h2 h3 h4
/-- append of one byte that lies in a block. -/
theorem step_append_chr {E : Prop} {K : Act → World → Prop} (w : World) (hgd : o.guard = none) (sl x : Operand) (t : TypeId)
    (ho : o.op = .call { callee := .builtin .append, args := #[sl, x], argTypes := #[t, t] })
    (base : Nat) (e : TypeId) (i : TypeInfo) (ht : P.underlying t = some (.slice e)) (hi : P.info? e = some i) (hz : i.zero = some (.int .u8 0))
    (hsize : i.size = 1) (hby : i.bytes = 1)
    (v : Value) (l : List UInt8) (hs : a.eval sl = v) (hown : w.ownsRow base e 1 v l.length (byteCells l)) (q : Nat) (c : UInt8) (hx : a.eval x = .slice (some ⟨q, 0, none⟩) 1 1) (hq : w.heap[q]? = some (.cells #[.int .u8 (c.toNat : Int)] e (0, 0)))
    (hbytes : l.length + 1 ≤ 140737488355328) (hbase : base ≤ w.heap.size)
    (h : ∀ v' w', w'.ownsRow base e 1 v' (l ++ [c]).length (byteCells (l ++ [c])) → w.grownBy w' v.ownBlock → (v'.ownBlock = v.ownBlock ∨ v'.ownBlock = some w.heap.size) → K (a.put o.dst v') w') :
    if Region.wanted o (yielded ops a.tmps) = true then Oper.wp P o a w K Q else E := by
  have hlt : q < w.heap.size := (Array.getElem?_eq_some_iff.1 hq).1
  have hsl : Sl 1 w (.slice (some ⟨q, 0, none⟩) 1 1) 1 [.int .u8 (c.toNat : Int)] := ⟨rfl, .inr ⟨q, 0, 1, rfl, by omega, by omega, by unfold maxLen; omega, hlt, fun j u hu => by rw [Nat.zero_add, cell_of_row _ _ _ _ _ _ hq, ← Array.getElem?_toList]; exact hu⟩⟩
  refine step_append_sl w hgd sl x t ho base e i (.int .u8 0) 1 1 ht hi hz hsize hby rfl (by decide) v l.length (byteCells l) hs hown _ 1 _ hx hsl (by simp [Value.oneCell']) (by unfold maxLen; omega) (by omega) hbase ?_
  intro v' w' h1 h2 h3
  refine h v' w' ?_ h2 h3
  have : byteCells (l ++ [c]) = byteCells l ++ [.int .u8 (c.toNat : Int)] := by simp [byteCells]
  rw [this, List.length_append]
  exact h1
end
theorem BAt.drew {u8 : TypeId} {W0 w wr : World} {ov v : Value} {l : List UInt8} (h : BAt u8 W0 w ov l wr v) : BAt u8 W0 w ov l wr.drew v := h.below (Below.refl _ _).drew
end Mh
namespace Go.Proofs.YtdolpehcfifecaaDoor
open Go.RowKit Mh
set_option linter.unusedVariables false
/-- What writeWays does with a piece. -/
def WwC (kd : Int) (tx : ByteArray) (ws : List Wy) (W0 : World) (pv : Value) : Prop := ∀ (l : List UInt8) (ov : Value) (w : World), Below W0.heap.size W0 w → w.ownsRow W0.heap.size 5 1 ov l.length (byteCells l) → l.length + (kindTx kd ++ wrWs kd true ws).length ≤ 1000000000 →
  Calls Tryd.prog 130 #[ov, .agg #[.int .i64 kd, .string tx, pv]] w fun e w' => ∃ v', e = .returned v' ∧ BAt 5 W0 w ov (l ++ (kindTx kd ++ wrWs kd true ws)) w' v'
set_option maxRecDepth 100000 in
set_option maxHeartbeats 8000000 in
theorem gargWrite_any (kd : Int) (tx : ByteArray) (ws : List Wy) (a : Option Addr) (n c : Nat) (W0 : World) (hww : WwC kd tx ws W0 (.slice a n c)) (l : List UInt8) (ov : Value) (w : World) (hb : Below W0.heap.size W0 w) (ho : w.ownsRow W0.heap.size 5 1 ov l.length (byteCells l))
    (hl : l.length + (tx.data.toList ++ (kindTx kd ++ wrWs kd true ws)).length ≤ 1000000000) :
    Calls Tryd.prog 129 #[.agg #[.int .i64 kd, .string tx, .slice a n c], ov] w fun e w' => ∃ v', e = .returned v' ∧ BAt 5 W0 w ov (l ++ (tx.data.toList ++ (kindTx kd ++ wrWs kd true ws))) w' v' := by
  obtain ⟨bi, hbi, hbz0, hbz1, hbz2⟩ := info_parts infoByte
  obtain ⟨va, vc, hv⟩ := ownsRow_form ho
  obtain ⟨W1, hW1⟩ : ∃ W1, W1 = w.alloc (.cells #[.int .i64 kd, .string tx, .slice a n c] 90) := ⟨_, rfl⟩
  have hb1 : Below w.heap.size w W1 := by rw [hW1]; exact (Below.refl _ w).alloc (Nat.le_refl _) _
  have hz1 : w.heap.size < W1.heap.size := by rw [hW1]; simp
  have hbx : W1.heap[w.heap.size]? = some (.cells #[.int .i64 kd, .string tx, .slice a n c] 90 (0, 0)) := by rw [hW1]; exact heap_alloc_new _ _
  have HNE : Hid (ov.ownBlock ≠ some w.heap.size) := fun e => absurd (ho.lt _ e).2 (Nat.lt_irrefl _)
  have HLT := Lib.hid (fun k hk => (ho.lt k hk).1)
  have HB01 : Hid (Below W0.heap.size W0 W1) := hb.trans (hb1.mono hb.size)
  have H1 := Lib.hid (BAt.refl (mown_below ho hb1))
  have HBX := Lib.hid hbx
  have HBB := Lib.hid hb1
  have HSZ : Hid (W0.heap.size ≤ W1.heap.size) := HB01.out.size
  have HWW := Lib.hid hww
  have htl : tx.data.toList.length = tx.size := by simp
  obtain ⟨x0, x1, x2, x3⟩ := three_of_block hbx
  obtain ⟨TX, hTX⟩ : ∃ TX, TX = tx.data.toList := ⟨_, rfl⟩
  obtain ⟨R, hR⟩ : ∃ R, R = kindTx kd ++ wrWs kd true ws := ⟨_, rfl⟩
  unfold WwC at HWW
  rw [← hR] at HWW hl ⊢
  have HE : Hid (l ++ (tx.data.toList ++ R) = (l ++ tx.data.toList) ++ R) := by show _ = _; rw [List.append_assoc]
  have hl1 : l.length + tx.size ≤ 1000000000 := by simp only [List.length_append] at hl; omega
  have HL2 : Hid ((l ++ tx.data.toList).length + R.length ≤ 1000000000) := by show _ ≤ _; simp only [List.length_append] at hl ⊢; omega
  rw [HE.out]
  obtain ⟨L2, hL2⟩ : ∃ L2, L2 = l ++ tx.data.toList := ⟨_, rfl⟩
  rw [← hL2] at HL2 ⊢
  have HLE : Hid (l ++ tx.data.toList = L2) := hL2.symm
  subst hv
  clear hb ho hl hb1 hbx htl hTX hR hww HE hL2
  go_enter Tryd.func129, Tryd.ntmps129
  go_upto_region 1 with fail
  rw [← hW1]
  clear hW1
  obtain ⟨g, hg⟩ : ∃ g : Nat, g = w.heap.size := ⟨_, rfl⟩
  rw [← hg] at x0 x1 x2 x3 HBX HNE hz1 ⊢
  clear hg
  go_region_law (first | (refine step_append_str _ rfl _ _ 62 9 rfl W0.heap.size 5 bi Tryd.underlying62 Tryd.underlying9 hbi hbz0 hbz1 hbz2 _ l rfl H1.out.drew.own tx rfl (by omega) HSZ.out ?_; intro v3 w3 hown3 hgr3 hat3; rw [HLE.out] at hown3; obtain ⟨a3, c3, rfl⟩ := ownsRow_form hown3; have H3 := Lib.hid (H1.out.drew.step hown3 hgr3 (hat3.imp id fun e => ⟨_, Nat.le_refl _, e⟩)); have hgl3 : g < w3.heap.size := (Array.getElem?_eq_some_iff.1 (H3.out.block HBX.out HNE.out).1).1; obtain ⟨y0, y1, y2, y3⟩ := three_of_block (H3.out.block HBX.out HNE.out).1; clear hown3 hgr3 hat3) | (go_simp; go_at_call 130; (with_reducible refine (HWW.out _ _ _ (H3.out.low HB01.out HLT.out) H3.out.own HL2.out).mono ?_); rintro e w4 ⟨v4, rfl, h4⟩; have H4 := Lib.hid (H3.out.trans h4); clear h4))
  all_goals
    go_wp2_with fail
    go_ret
    exact ⟨_, rfl, H4.out.first HBB.out⟩
end Go.Proofs.YtdolpehcfifecaaDoor
