/- lang.wayText, (plainPiece).write, (hashPiece).write. Conditions: the library's table of powers of ten is laid; sizes. -/
import Derived.Test.YtdolpehcfifecaaDoorMck
import Derived.Test.YtdolpehcfifecaaDoorMbc
import Derived.Test.YtdolpehcfifecaaDoorTb10
import Derived.Test.YtdolpehcfifecaaDoorApSl
import Derived.OpenShut
namespace Mh
open Go Go.RowKit
set_option linter.unusedVariables false
theorem grown_below {a c : World} (h : Below a.heap.size a c) (row : Option Nat) : a.grownBy c row := ⟨h.os, h.tape, h.output, h.size, fun i hi _ => h.block i hi⟩
/-- From w to wr only the row ov has turned; it is the row v with the bytes l. -/
structure BAt (u8 : TypeId) (W0 w : World) (ov : Value) (l : List UInt8) (wr : World) (v : Value) : Prop where
  own : wr.ownsRow W0.heap.size u8 1 v l.length (byteCells l)
  grown : w.grownBy wr ov.ownBlock
  at_ : v.ownBlock = ov.ownBlock ∨ ∃ k, w.heap.size ≤ k ∧ v.ownBlock = some k
theorem BAt.refl {u8 : TypeId} {W0 w : World} {ov : Value} {l : List UInt8} (h : w.ownsRow W0.heap.size u8 1 ov l.length (byteCells l)) : BAt u8 W0 w ov l w ov := ⟨h, ⟨rfl, rfl, rfl, Nat.le_refl _, fun _ _ _ => rfl⟩, .inl rfl⟩
theorem BAt.below {u8 : TypeId} {W0 w wr w2 : World} {ov v : Value} {l : List UInt8} (h : BAt u8 W0 w ov l wr v) (hb : Below wr.heap.size wr w2) : BAt u8 W0 w ov l w2 v :=
  ⟨mown_below h.own hb, h.grown.trans (grown_below hb _), h.at_⟩
theorem BAt.step {u8 : TypeId} {W0 w w2 w3 : World} {ov v v' : Value} {l l' : List UInt8} (h : BAt u8 W0 w ov l w2 v) (hown : w3.ownsRow W0.heap.size u8 1 v' l'.length (byteCells l')) (hg : w2.grownBy w3 v.ownBlock)
    (hat : v'.ownBlock = v.ownBlock ∨ ∃ k, w2.heap.size ≤ k ∧ v'.ownBlock = some k) : BAt u8 W0 w ov l' w3 v' := by
  refine ⟨hown, h.grown.andThen hg fun k hk => ?_, ?_⟩
  · rcases h.at_ with e | ⟨q, hq, e⟩
    · right; rw [← e]; exact hk
    · left; rw [e] at hk; cases hk; omega
  · rcases hat with e | ⟨q, hq, e⟩
    · rw [e]; exact h.at_
    · have := h.grown.size; exact .inr ⟨q, by omega, e⟩
theorem BAt.trans {u8 : TypeId} {W0 w w2 w3 : World} {ov v v' : Value} {l l' : List UInt8} (h : BAt u8 W0 w ov l w2 v) (k : BAt u8 W0 w2 v l' w3 v') : BAt u8 W0 w ov l' w3 v' := h.step k.own k.grown k.at_
/-- What came before: only allocated. -/
theorem BAt.first {u8 : TypeId} {W0 w w1 wr : World} {ov v : Value} {l : List UInt8} (hb : Below w.heap.size w w1) (h : BAt u8 W0 w1 ov l wr v) : BAt u8 W0 w ov l wr v :=
  ⟨h.own, (grown_below hb _).trans h.grown, h.at_.imp id fun ⟨k, hk, e⟩ => ⟨k, Nat.le_trans hb.size hk, e⟩⟩
theorem BAt.low {u8 : TypeId} {W0 w wr : World} {ov v : Value} {l : List UInt8} (h : BAt u8 W0 w ov l wr v) (hb : Below W0.heap.size W0 w) (hlt : ∀ k, ov.ownBlock = some k → W0.heap.size ≤ k) : Below W0.heap.size W0 wr :=
  hb.grown h.grown hb.size hlt
/-- A block that is no row. -/
theorem BAt.block {u8 : TypeId} {W0 w wr : World} {ov v : Value} {l : List UInt8} {q : Nat} {o : Obj} (h : BAt u8 W0 w ov l wr v) (hq : w.heap[q]? = some o) (hne : ov.ownBlock ≠ some q) : wr.heap[q]? = some o ∧ v.ownBlock ≠ some q := by
  have hlt : q < w.heap.size := (Array.getElem?_eq_some_iff.1 hq).1
  refine ⟨(h.grown.block q hlt (fun e => hne e.symm)).trans hq, fun e => ?_⟩
  rcases h.at_ with e' | ⟨k, hk, e'⟩
  · exact hne (e' ▸ e)
  · rw [e'] at e; cases e; omega
theorem BAt.own_ne {u8 : TypeId} {W0 w wr : World} {ov v : Value} {l : List UInt8} (h : BAt u8 W0 w ov l wr v) : v.ownBlock ≠ some wr.heap.size := fun e => absurd (h.own.lt _ e).2 (Nat.lt_irrefl _)
theorem esc_len (l : List UInt8) : (escL l).length ≤ 2 * l.length := by
  induction l with
  | nil => exact Nat.le_refl _
  | cons c l ih => rw [escL]; split <;> simp <;> omega
theorem esc_ge (l : List UInt8) : l.length ≤ (escL l).length := by
  induction l with
  | nil => exact Nat.le_refl _
  | cons c l ih => rw [escL]; split <;> simp <;> omega
theorem esc_app (a b : List UInt8) : escL (a ++ b) = escL a ++ escL b := by
  induction a with
  | nil => rfl
  | cons c a ih => rw [List.cons_append, escL, escL, ih]; split <;> rfl
theorem mitoa_len (n : Int) (h0 : -9223372036854775808 ≤ n) (h1 : n ≤ 9223372036854775807) : (Lib.itoa n).length ≤ 20 := by
  unfold Lib.itoa
  split
  · have := dec_len 19 n.natAbs (by omega) (by omega)
    simp only [List.length_cons]; omega
  · have := dec_len 19 n.toNat (by omega) (by omega)
    omega
end Mh
namespace Go.Proofs.YtdolpehcfifecaaDoor
open Go.RowKit Mh
set_option linter.unusedVariables false
set_option maxHeartbeats 4000000 in
theorem gwayText_any (kd : Int) (wd : ByteArray) (ex fm : Int) (a : Option Addr) (n c : Nat) (w : World) (ht : Tab10 w) (hx : (Lit.int .i64 ex).wf = true) (hf : (Lit.int .i64 fm).wf = true) :
    Calls Tryd.prog 131 #[.int .i64 kd, .agg #[.string wd, .int .i64 ex, .int .i64 fm, .slice a n c]] w fun e w' => e = .returned (.string ⟨(wayTx kd (.mk wd ex fm [])).toArray⟩) ∧ Below w.heap.size w w' := by
  obtain ⟨x0, x1⟩ := bounds_i64 hx
  obtain ⟨f0, f1⟩ := bounds_i64 hf
  have HO : Hid (∀ w, Calls Tryd.prog 53 #[.int .i64 kd, .agg #[.string wd, .int .i64 ex, .int .i64 fm, .slice a n c]] w fun e w' => e = .returned (.bool (isOther kd (.mk wd ex fm []))) ∧ Below w.heap.size w w') := fun w => gother_any kd (.mk wd ex fm []) (.slice a n c) w ⟨_, _, _, rfl⟩
  have HIX : Hid (∀ w1, Below w.heap.size w w1 → Calls Tryd.prog 98 #[.int .i64 ex] w1 fun e w' => e = .returned (.string ⟨(Lib.itoa ex).toArray⟩) ∧ Below w1.heap.size w1 w') := fun w1 hb => itoa_int ex x0 x1 w1 (ht.next hb)
  have HIF : Hid (∀ w1, Below w.heap.size w w1 → Calls Tryd.prog 98 #[.int .i64 fm] w1 fun e w' => e = .returned (.string ⟨(Lib.itoa fm).toArray⟩) ∧ Below w1.heap.size w1 w') := fun w1 hb => itoa_int fm f0 f1 w1 (ht.next hb)
  have hlx : (Lib.itoa ex).toArray.size ≤ 20 := by rw [List.size_toArray]; exact mitoa_len ex x0 x1
  have HT : Hid (wayTx kd (.mk wd ex fm []) = if isOther kd (.mk wd ex fm []) = true then otherW.data.toList else if kd = 2 then wd.data.toList else if fm = -1 then 61 :: Lib.itoa ex else Lib.itoa fm) := rfl
  generalize isOther kd (.mk wd ex fm []) = o at HO HT
  obtain ⟨TX, hTX⟩ : ∃ TX, TX = wayTx kd (.mk wd ex fm []) := ⟨_, rfl⟩
  rw [← hTX] at HT ⊢
  obtain ⟨S, hS⟩ : ∃ S : ByteArray, S = ⟨(Lib.itoa ex).toArray⟩ := ⟨_, rfl⟩
  have hss : S.size ≤ 20 := by rw [hS]; exact hlx
  have HSL : Hid (Lib.itoa ex = S.data.toList) := by show _ = _; rw [hS]
  rw [← hS] at HIX
  have HB : Hid (Below w.heap.size w (w.alloc (.cells #[.string wd, .int .i64 ex, .int .i64 fm, .slice a n c] 73))) := (Below.refl _ w).alloc (Nat.le_refl _) _
  have HBOX : Hid ((w.alloc (.cells #[.string wd, .int .i64 ex, .int .i64 fm, .slice a n c] 73)).heap[w.heap.size]? = some (.cells #[.string wd, .int .i64 ex, .int .i64 fm, .slice a n c] 73 (0, 0))) := heap_alloc_new _ _
  clear hTX hS hlx hx hf ht
  cases o with
  | true =>
    have HF : Hid (TX = [111, 116, 104, 101, 114]) := by show _ = _; rw [HT.out, if_pos rfl]; rfl
    go_enter Tryd.func131, Tryd.ntmps131
    go_wp2_with (go_at_call 53; refine (HO.out _).mono ?_; rintro e w2 ⟨rfl, hb2⟩; have HB2 : Hid (Below w.heap.size w w2) := HB.out.trans (hb2.mono HB.out.size); clear hb2)
    go_ret
    exact ⟨by rw [HF.out]; rfl, HB2.out⟩
  | false =>
    by_cases k2 : kd = 2
    · have q : (kd == 2) = true := by rw [beq_iff_eq]; exact k2
      have HF : Hid (TX = wd.data.toList) := by show _ = _; rw [HT.out, if_neg (by simp), if_pos k2]
      clear k2
      go_enter Tryd.func131, Tryd.ntmps131
      go_wp2_with (go_at_call 53; refine (HO.out _).mono ?_; rintro e w2 ⟨rfl, hb2⟩; have HB2 : Hid (Below w.heap.size w w2) := HB.out.trans (hb2.mono HB.out.size); obtain ⟨z0, z1, z2, z3, z4⟩ := four_of_block ((hb2.block w.heap.size (by simp)).trans HBOX.out); clear hb2)
      go_ret
      exact ⟨by rw [HF.out]; simp, HB2.out⟩
    · have q : (kd == 2) = false := by rw [beq_eq_false_iff_ne]; exact k2
      by_cases m1 : fm = -1
      · have qm : (fm == -1) = true := by rw [beq_iff_eq]; exact m1
        have HF : Hid (TX = 61 :: S.data.toList) := by show _ = _; rw [HT.out, if_neg (by simp), if_neg k2, if_pos m1, HSL.out]
        clear k2 m1
        have hsz : ¬ (9223372036854775807 : Int) < 1 + (S.size : Int) := by omega
        have hsz2 : ¬ 9223372036854775807 < 1 + S.size := by omega
        go_enter Tryd.func131, Tryd.ntmps131
        go_wp2_with (first | (go_at_call 53; refine (HO.out _).mono ?_; rintro e w2 ⟨rfl, hb2⟩; have HB2 : Hid (Below w.heap.size w w2) := HB.out.trans (hb2.mono HB.out.size); obtain ⟨z0, z1, z2, z3, z4⟩ := four_of_block ((hb2.block w.heap.size (by simp)).trans HBOX.out); clear hb2) | (go_at_call 98; refine (HIX.out _ HB2.out).mono ?_; rintro e w3 ⟨rfl, hb3⟩))
        go_ret
        exact ⟨by rw [HF.out]; simp [ByteArray.ext_iff, ByteArray.data_append], HB2.out.trans (hb3.mono HB2.out.size)⟩
      · have qm : (fm == -1) = false := by rw [beq_eq_false_iff_ne]; exact m1
        have HF : Hid (TX = Lib.itoa fm) := by show _ = _; rw [HT.out, if_neg (by simp), if_neg k2, if_neg m1]
        clear k2 m1
        go_enter Tryd.func131, Tryd.ntmps131
        go_wp2_with (first | (go_at_call 53; refine (HO.out _).mono ?_; rintro e w2 ⟨rfl, hb2⟩; have HB2 : Hid (Below w.heap.size w w2) := HB.out.trans (hb2.mono HB.out.size); obtain ⟨z0, z1, z2, z3, z4⟩ := four_of_block ((hb2.block w.heap.size (by simp)).trans HBOX.out); clear hb2) | (go_at_call 98; refine (HIF.out _ HB2.out).mono ?_; rintro e w3 ⟨rfl, hb3⟩))
        go_ret
        exact ⟨by rw [HF.out]; rfl, HB2.out.trans (hb3.mono HB2.out.size)⟩
theorem _root_.Mh.BAt.cellB {u8 : TypeId} {W0 w wr : World} {ov v : Value} {l : List UInt8} {q : Nat} {x : Value} {T : TypeId} (h : BAt u8 W0 w ov l wr v) (hq : w.heap[q]? = some (.cells #[x] T (0, 0))) (hne : ov.ownBlock ≠ some q) : wr.cell? ⟨q, 0, none⟩ = some x := cellT (h.block hq hne).1 rfl
theorem _root_.Mh.esc_take {t : ByteArray} {j : Nat} (h : j < t.size) : escL (t.data.toList.take (j + 1)) = escL (t.data.toList.take j) ++ (if mescB t[j] = true then [92, t[j]] else [t[j]]) := by
  rw [take_snoc t j h, esc_app]
  rfl
set_option maxRecDepth 100000 in
set_option maxHeartbeats 8000000 in
theorem gplainWrite_any (t : ByteArray) (l : List UInt8) (ov : Value) (W0 w : World) (hb : Below W0.heap.size W0 w) (ho : w.ownsRow W0.heap.size 5 1 ov l.length (byteCells l)) (hl : l.length + (escL t.data.toList).length ≤ 1000000000) :
    Calls Tryd.prog 132 #[.agg #[.string t], ov] w fun e w' => ∃ v', e = .returned v' ∧ BAt 5 W0 w ov (l ++ escL t.data.toList) w' v' := by
  obtain ⟨bi, hbi, hbz0, hbz1, hbz2⟩ := info_parts infoByte
  obtain ⟨va, vc, hv⟩ := ownsRow_form ho
  obtain ⟨W1, hW1⟩ : ∃ W1, W1 = w.alloc (.cells #[.string t] 101) := ⟨_, rfl⟩
  have hb1 : Below w.heap.size w W1 := by rw [hW1]; exact (Below.refl _ w).alloc (Nat.le_refl _) _
  have hz1 : w.heap.size < W1.heap.size := by rw [hW1]; simp
  have hbx : W1.heap[w.heap.size]? = some (.cells #[.string t] 101 (0, 0)) := by rw [hW1]; exact heap_alloc_new _ _
  have HLT := Lib.hid (fun k hk => (ho.lt k hk))
  have HNE : Hid (ov.ownBlock ≠ some w.heap.size) := fun e => absurd (ho.lt _ e).2 (Nat.lt_irrefl _)
  have HB01 : Hid (Below W0.heap.size W0 W1) := hb.trans (hb1.mono hb.size)
  have H1 : Hid (BAt 5 W0 W1 ov (l ++ escL (t.data.toList.take 0)) W1 ov) := by
    show BAt _ _ _ _ _ _ _
    rw [List.take_zero, escL, List.append_nil]
    exact BAt.refl (mown_below ho hb1)
  have HBX := Lib.hid hbx
  have HBB := Lib.hid hb1
  have htl : t.data.toList.length = t.size := by simp
  have HL : Hid (∀ j, j ≤ t.size → (l ++ escL (t.data.toList.take j)).length ≤ 1000000000) := fun j hj => by
    have h2 : escL t.data.toList = escL (t.data.toList.take j) ++ escL (t.data.toList.drop j) := by rw [← esc_app, List.take_append_drop]
    rw [h2, List.length_append] at hl
    simp only [List.length_append]
    omega
  have HEND : Hid (escL (t.data.toList.take t.size) = escL t.data.toList) := by show _ = _; rw [List.take_of_length_le (by omega)]
  have htm : t.size ≤ 1000000000 := by have := esc_ge t.data.toList; omega
  have x0 : W1.cell? ⟨w.heap.size, 0, none⟩ = some (.string t) := cellT hbx rfl
  subst hv
  clear hb ho hl hb1 hbx htl
  go_enter Tryd.func132, Tryd.ntmps132
  go_upto_region 1 with fail
  rw [← hW1]
  clear hW1
  obtain ⟨g, hg⟩ : ∃ g : Nat, g = w.heap.size := ⟨_, rfl⟩
  rw [← hg] at x0 HBX HNE hz1 ⊢
  have HG := Lib.hid hg
  clear hg
  go_wp2_with fail
  clear x0
  go_loopw [1, 9] (fun v i wr => ∃ (j : Nat), j ≤ t.size ∧ i = .int .i64 j ∧ Hid (BAt 5 W0 W1 (.slice va l.length vc) (l ++ escL (t.data.toList.take j)) wr v)) (fun _ i _ => t.size - (intOf i).toNat)
  case atStart => exact ⟨0, by omega, rfl, H1⟩
  case round =>
    clear H1
    obtain ⟨j, hj, rfl, HI⟩ := hrel
    have hll := HL.out j hj
    by_cases hlt : j < t.size
    · have hl2 := HL.out (j + 1) hlt
      have HSJ : Hid (l ++ escL (t.data.toList.take (j + 1)) = (l ++ escL (t.data.toList.take j)) ++ (if mescB t[j] = true then [92, t[j]] else [t[j]])) := by show _ = _; rw [esc_take hlt, List.append_assoc]
      rw [HSJ.out] at hl2
      obtain ⟨L, hL⟩ : ∃ L, L = l ++ escL (t.data.toList.take j) := ⟨_, rfl⟩
      rw [← hL] at HI hll HSJ hl2
      clear hL
      obtain ⟨ua, uc, hu⟩ := ownsRow_form HI.out.own
      subst hu
      have x0 := HI.out.cellB HBX.out HNE.out
      have HX := Lib.hid ((HI.out.block HBX.out HNE.out))
      have HLOW := Lib.hid (HI.out.low HB01.out fun k hk => (HLT.out k hk).1)
      have hgl : g < wr.heap.size := (Array.getElem?_eq_some_iff.1 HX.out.1).1
      have HIB := Lib.hid (fun w => gIB t[j] w)
      have hesc := gescK t[j]
      obtain ⟨x, hx⟩ : ∃ x, x = Lib.indexByte [123, 125, 35, 92] t[j] := ⟨_, rfl⟩
      rw [← hx] at HIB hesc
      cases hm : mescB t[j] with
      | true =>
        rw [hm] at hesc hl2 HSJ
        rw [if_pos rfl] at hl2 HSJ
        have q : decide (0 ≤ x) = true := decide_eq_true (by have : ¬ x < 0 := fun h => by have := hesc.1 h; cases this
                                                             omega)
        clear hx hesc hm
        have HC := Lib.hid ((Below.refl _ wr).alloc (Nat.le_refl _) (.cells #[.int .u8 92] 5))
        have HO : Hid ((wr.alloc (.cells #[.int .u8 92] 5)).heap[wr.heap.size]? = some (.cells #[.int .u8 ((92 : UInt8).toNat : Int)] 5 (0, 0))) := heap_alloc_new _ _
        have HSZ : Hid (W0.heap.size ≤ (wr.alloc (.cells #[.int .u8 92] 5)).heap.size) := by have := HLOW.out.size; show _ ≤ _; simp; omega
        go_wp2_with (first | (go_at_call 34; refine (HIB.out _).mono ?_; rintro e w' ⟨rfl, hw⟩; obtain rfl : wr = w' := hw.symm) | (at_builtin; refine wpList_append_chr rfl _ _ 62 rfl W0.heap.size 5 bi Tryd.underlying62 hbi hbz0 hbz1 hbz2 _ L rfl (HI.out.below HC.out).own _ 92 rfl HO.out (by omega) HSZ.out ?_; intro v3 w3 hown3 hgr3 hat3; have H3 := Lib.hid ((HI.out.below HC.out).step hown3 hgr3 (hat3.imp id fun e => ⟨_, Nat.le_refl _, e⟩)); have HSZ3 : Hid (W0.heap.size ≤ w3.heap.size) := (Nat.le_trans HSZ.out hgr3.size); clear hown3 hgr3 hat3 x0; have x0 := H3.out.cellB HBX.out HNE.out; have hgl3 : g < w3.heap.size := (Array.getElem?_eq_some_iff.1 (H3.out.block HBX.out HNE.out).1).1) | (at_builtin; refine wpList_append_chr rfl _ _ 62 rfl W0.heap.size 5 bi Tryd.underlying62 hbi hbz0 hbz1 hbz2 _ (L ++ [92]) rfl (H3.out.below ((Below.refl _ w3).alloc (Nat.le_refl _) (.cells #[.int .u8 (t[j].toNat : Int)] 5))).own w3.heap.size t[j] rfl (heap_alloc_new _ _) (by simp only [List.length_append, List.length_cons, List.length_nil] at hl2 ⊢; omega) (by have := HSZ3.out; simp; omega) ?_; intro v4 w4 hown4 hgr4 hat4; have H4 := Lib.hid ((H3.out.below ((Below.refl _ w3).alloc (Nat.le_refl _) (.cells #[.int .u8 (t[j].toNat : Int)] 5))).step hown4 hgr4 (hat4.imp id fun e => ⟨_, Nat.le_refl _, e⟩)); clear hown4 hgr4 hat4))
        go_roundw
        case rel => exact ⟨j + 1, by omega, by first | rfl | go_num, by show BAt _ _ _ _ _ _ _; rw [HSJ.out]; simpa using H4.out⟩
        case measure => simp [intOf]; omega
      | false =>
        rw [hm] at hesc hl2 HSJ
        rw [if_neg (by simp)] at hl2 HSJ
        have q : decide (0 ≤ x) = false := decide_eq_false (by have := hesc.2 rfl; omega)
        clear hx hesc hm
        have HSZ3 : Hid (W0.heap.size ≤ wr.heap.size) := HLOW.out.size
        go_wp2_with (first | (go_at_call 34; refine (HIB.out _).mono ?_; rintro e w' ⟨rfl, hw⟩; obtain rfl : wr = w' := hw.symm) | (at_builtin; refine wpList_append_chr rfl _ _ 62 rfl W0.heap.size 5 bi Tryd.underlying62 hbi hbz0 hbz1 hbz2 _ (L) rfl (HI.out.below ((Below.refl _ wr).alloc (Nat.le_refl _) (.cells #[.int .u8 (t[j].toNat : Int)] 5))).own wr.heap.size t[j] rfl (heap_alloc_new _ _) (by simp only [List.length_append, List.length_cons, List.length_nil] at hl2 ⊢; omega) (by have := HSZ3.out; simp; omega) ?_; intro v4 w4 hown4 hgr4 hat4; have H4 := Lib.hid ((HI.out.below ((Below.refl _ wr).alloc (Nat.le_refl _) (.cells #[.int .u8 (t[j].toNat : Int)] 5))).step hown4 hgr4 (hat4.imp id fun e => ⟨_, Nat.le_refl _, e⟩)); clear hown4 hgr4 hat4))
        go_roundw
        case rel => exact ⟨j + 1, by omega, by first | rfl | go_num, by show BAt _ _ _ _ _ _ _; rw [HSJ.out]; exact H4.out⟩
        case measure => simp [intOf]; omega
    · obtain rfl : j = t.size := by omega
      rw [HEND.out] at HI
      go_wp2_with fail
      go_ret
      exact ⟨_, rfl, HI.out.first HBB.out⟩
end Go.Proofs.YtdolpehcfifecaaDoor
