/- lang.writeWays, given what writePieces does with shorter lists. Conditions: where the ways and the row lie; the library's table of powers of ten. -/
import Derived.Test.YtdolpehcfifecaaDoorMcp
import Derived.Deep.Cut
namespace Mh
open Go Go.RowKit
set_option linter.unusedVariables false
/-- Two blocks stand. -/
def Two (g h : Nat) (G H : Obj) (w : World) : Prop := w.heap[g]? = some G ∧ w.heap[h]? = some H
theorem Two.al {g h : Nat} {G H : Obj} {w : World} (t : Two g h G H w) (o : Obj) : Two g h G H (w.alloc o) :=
  ⟨(heap_alloc_old _ _ (Array.getElem?_eq_some_iff.1 t.1).1).trans t.1, (heap_alloc_old _ _ (Array.getElem?_eq_some_iff.1 t.2).1).trans t.2⟩
theorem Two.dr {g h : Nat} {G H : Obj} {w : World} (t : Two g h G H w) : Two g h G H w.drew := t
theorem Two.below {g h : Nat} {G H : Obj} {w w' : World} (t : Two g h G H w) (hb : Below w.heap.size w w') : Two g h G H w' :=
  ⟨(hb.block _ (Array.getElem?_eq_some_iff.1 t.1).1).trans t.1, (hb.block _ (Array.getElem?_eq_some_iff.1 t.2).1).trans t.2⟩
theorem Two.grown {g h : Nat} {G H : Obj} {w w' : World} {r : Option Nat} (t : Two g h G H w) (hg : w.grownBy w' r) (h1 : some g ≠ r) (h2 : some h ≠ r) : Two g h G H w' :=
  ⟨(hg.block _ (Array.getElem?_eq_some_iff.1 t.1).1 h1).trans t.1, (hg.block _ (Array.getElem?_eq_some_iff.1 t.2).1 h2).trans t.2⟩
/-- A row of bytes that grows beside two blocks that stand. -/
structure WSt (u8 : TypeId) (W0 W1 : World) (ov : Value) (g h : Nat) (G H : Obj) (l : List UInt8) (w : World) (v : Value) : Prop where
  bat : BAt u8 W0 W1 ov l w v
  two : Two g h G H w
  n1 : v.ownBlock ≠ some g
  n2 : v.ownBlock ≠ some h
theorem WSt.below {u8 : TypeId} {W0 W1 w w' : World} {ov v : Value} {g h : Nat} {G H : Obj} {l : List UInt8} (s : WSt u8 W0 W1 ov g h G H l w v) (hb : Below w.heap.size w w') : WSt u8 W0 W1 ov g h G H l w' v :=
  ⟨s.bat.below hb, s.two.below hb, s.n1, s.n2⟩
theorem WSt.step {u8 : TypeId} {W0 W1 w w' : World} {ov v v' : Value} {g h : Nat} {G H : Obj} {l l' : List UInt8} (s : WSt u8 W0 W1 ov g h G H l w v) (hown : w'.ownsRow W0.heap.size u8 1 v' l'.length (byteCells l')) (hg : w.grownBy w' v.ownBlock)
    (hat : v'.ownBlock = v.ownBlock ∨ v'.ownBlock = some w.heap.size) : WSt u8 W0 W1 ov g h G H l' w' v' := by
  have l1 := (Array.getElem?_eq_some_iff.1 s.two.1).1
  have l2 := (Array.getElem?_eq_some_iff.1 s.two.2).1
  refine ⟨s.bat.step hown hg (hat.imp id fun e => ⟨_, Nat.le_refl _, e⟩), s.two.grown hg (fun e => s.n1 e.symm) (fun e => s.n2 e.symm), fun e => ?_, fun e => ?_⟩
  · rcases hat with k | k
    · exact s.n1 (k ▸ e)
    · rw [k] at e; cases e; omega
  · rcases hat with k | k
    · exact s.n2 (k ▸ e)
    · rw [k] at e; cases e; omega
theorem WSt.call {u8 : TypeId} {W0 W1 w w' : World} {ov v v' : Value} {g h : Nat} {G H : Obj} {l l' : List UInt8} (s : WSt u8 W0 W1 ov g h G H l w v) (b : BAt u8 W0 w v l' w' v') : WSt u8 W0 W1 ov g h G H l' w' v' :=
  ⟨s.bat.trans b, s.two.grown b.grown (fun e => s.n1 e.symm) (fun e => s.n2 e.symm), (b.block s.two.1 s.n1).2, (b.block s.two.2 s.n2).2⟩
end Mh
namespace Go.Proofs.YtdolpehcfifecaaDoor
open Go.RowKit Mh
set_option linter.unusedVariables false
set_option maxRecDepth 100000 in
set_option maxHeartbeats 16000000 in
theorem gwriteWays_step (W0 : World) (ht : Tab10 W0) (kd : Int) (tx : ByteArray) (ws : List Wy) (pv : Value) (hws : WsIn W0 pv ws) (hwp : ∀ qs : List Pc, SizeOf.sizeOf qs < SizeOf.sizeOf ws → WpC W0 qs) : WwC kd tx ws W0 pv := by
  intro l ov w hb ho hl
  obtain ⟨bi, hbi, hbz0, hbz1, hbz2⟩ := info_parts infoByte
  obtain ⟨va, vc, hv⟩ := ownsRow_form ho
  obtain ⟨xa, xc, rfl, hwl, hwk⟩ := hws.item
  have HWK := Lib.hid hwk
  unfold maxLen at hwl
  have HWP := Lib.hid hwp
  have HTAB := Lib.hid ht
  have HLT := Lib.hid (fun k hk => (ho.lt k hk).1)
  have HB0 := Lib.hid hb
  obtain ⟨W1, hW1⟩ : ∃ W1, W1 = w.alloc (.cells #[.int .i64 kd, .string tx, .slice xa ws.length xc] 66) := ⟨_, rfl⟩
  have hb1 : Below w.heap.size w W1 := by rw [hW1]; exact (Below.refl _ w).alloc (Nat.le_refl _) _
  have hz1 : w.heap.size < W1.heap.size := by rw [hW1]; simp
  have hbx : W1.heap[w.heap.size]? = some (.cells #[.int .i64 kd, .string tx, .slice xa ws.length xc] 66 (0, 0)) := by rw [hW1]; exact heap_alloc_new _ _
  have HNE : Hid (ov.ownBlock ≠ some w.heap.size) := fun e => absurd (ho.lt _ e).2 (Nat.lt_irrefl _)
  have HB01 : Hid (Below W0.heap.size W0 W1) := hb.trans (hb1.mono hb.size)
  have HZ01 : Hid (W0.heap.size ≤ W1.heap.size) := HB01.out.size
  have H1 := Lib.hid (BAt.refl (mown_below ho hb1))
  have HBX := Lib.hid hbx
  have HBB := Lib.hid hb1
  obtain ⟨T, hT⟩ : ∃ T, T = l ++ (kindTx kd ++ wrWs kd true ws) := ⟨_, rfl⟩
  have HTL : Hid (T.length ≤ 1000000000) := by show _ ≤ _; rw [hT, List.length_append]; exact hl
  obtain ⟨KT, hKT⟩ : ∃ KT, KT = kindTx kd := ⟨_, rfl⟩
  have HKT : Hid (KT = if kd = 2 then [44, 32, 99, 104, 111, 111, 115, 101] else if kd = 3 then [44, 32, 99, 111, 117, 110, 116] else []) := by
    show _ = _
    rw [hKT]
    unfold kindTx
    split
    · rfl
    · split <;> rfl
  obtain ⟨LK, hLK⟩ : ∃ LK, LK = l ++ KT := ⟨_, rfl⟩
  have HT : Hid (LK ++ wrWs kd true ws = T) := by show _ = _; rw [hT, hLK, hKT, List.append_assoc]
  rw [← hT]
  have HLK : Hid (LK.length ≤ 1000000000) := by have := HTL.out; rw [← HT.out, List.length_append] at this; show _ ≤ _; omega
  have hll : l.length ≤ 1000000000 := by omega
  obtain ⟨x0, x1, x2, x3⟩ := three_of_block hbx
  subst hv
  clear hb ho hl hb1 hbx hT hKT hws hwk hwp ht
  have q2 : (kd == 2) = decide (kd = 2) := by rw [Bool.eq_iff_iff]; simp
  have q3 : (kd == 3) = decide (kd = 3) := by rw [Bool.eq_iff_iff]; simp
  obtain ⟨b2, hb2⟩ : ∃ b2, b2 = decide (kd = 2) := ⟨_, rfl⟩
  obtain ⟨b3, hb3⟩ : ∃ b3, b3 = decide (kd = 3) := ⟨_, rfl⟩
  rw [← hb2] at q2
  rw [← hb3] at q3
  have HC2 : Hid (b2 = true → l ++ [44, 32, 99, 104, 111, 111, 115, 101] = LK) := fun h => by rw [hLK, HKT.out, if_pos (by rw [hb2] at h; exact of_decide_eq_true h)]
  have HC3 : Hid (b2 = false → b3 = true → l ++ [44, 32, 99, 111, 117, 110, 116] = LK) := fun h h3 => by rw [hLK, HKT.out, if_neg (by rw [hb2] at h; exact of_decide_eq_false h), if_pos (by rw [hb3] at h3; exact of_decide_eq_true h3)]
  have HC0 : Hid (b2 = false → b3 = false → LK = l) := fun h h3 => by rw [hLK, HKT.out, if_neg (by rw [hb2] at h; exact of_decide_eq_false h), if_neg (by rw [hb3] at h3; exact of_decide_eq_false h3), List.append_nil]
  clear hb2 hb3 HKT hLK
  go_enter Tryd.func130, Tryd.ntmps130
  go_upto_region 1 with fail
  rw [← hW1]
  clear hW1
  obtain ⟨g, hg⟩ : ∃ g : Nat, g = w.heap.size := ⟨_, rfl⟩
  rw [← hg] at x0 x1 x2 x3 HBX HNE hz1 ⊢
  clear hg
  go_cut [9] from 7 to 9 (fun v wx => v = .bool b2 ∧ W1 = wx)
  case first =>
    go_wp2_with fail
    go_meet
    exact ⟨rfl, rfl⟩
  case rest =>
  obtain ⟨rfl, rfl⟩ := hcut
  rename_i hk
  refine hk _ _ ?_
  clear hk
  go_cut [0] from 10 to 16 (fun v wy => ∃ (wn : World) (a3 : Option Addr) (c3 : Nat), wn = wy ∧ v = .slice a3 LK.length c3 ∧ Hid (BAt 5 W0 W1 (.slice va l.length vc) LK wn (.slice a3 LK.length c3)))
  case first =>
    cases b2 with
    | true =>
      have HE : Hid (l ++ (⟨#[44, 32, 99, 104, 111, 111, 115, 101]⟩ : ByteArray).data.toList = LK) := HC2.out rfl
      go_wp2_with (at_builtin; refine wpList_append_str rfl _ _ 62 9 rfl W0.heap.size 5 bi Tryd.underlying62 Tryd.underlying9 hbi hbz0 hbz1 hbz2 _ l rfl H1.out.own ⟨#[44, 32, 99, 104, 111, 111, 115, 101]⟩ rfl (by show l.length + 8 ≤ _; omega) HZ01.out ?_; intro v3 w3 hown3 hgr3 hat3; rw [HE.out] at hown3; obtain ⟨a3, c3, rfl⟩ := ownsRow_form hown3; have H3 := Lib.hid (H1.out.step hown3 hgr3 (hat3.imp id fun e => ⟨_, Nat.le_refl _, e⟩)); clear hown3 hgr3 hat3)
      go_meet
      exact ⟨_, _, _, rfl, rfl, H3⟩
    | false =>
      cases b3 with
      | true =>
        have HE : Hid (l ++ (⟨#[44, 32, 99, 111, 117, 110, 116]⟩ : ByteArray).data.toList = LK) := HC3.out rfl rfl
        go_wp2_with (at_builtin; refine wpList_append_str rfl _ _ 62 9 rfl W0.heap.size 5 bi Tryd.underlying62 Tryd.underlying9 hbi hbz0 hbz1 hbz2 _ l rfl H1.out.own ⟨#[44, 32, 99, 111, 117, 110, 116]⟩ rfl (by show l.length + 7 ≤ _; omega) HZ01.out ?_; intro v3 w3 hown3 hgr3 hat3; rw [HE.out] at hown3; obtain ⟨a3, c3, rfl⟩ := ownsRow_form hown3; have H3 := Lib.hid (H1.out.step hown3 hgr3 (hat3.imp id fun e => ⟨_, Nat.le_refl _, e⟩)); clear hown3 hgr3 hat3)
        go_meet
        exact ⟨_, _, _, rfl, rfl, H3⟩
      | false =>
        have HE : Hid (LK = l) := HC0.out rfl rfl
        go_wp2_with fail
        go_meet
        exact ⟨_, va, vc, rfl, by rw [HE.out], by rw [HE.out]; exact H1⟩
  case rest =>
  clear H1 HC2 HC3 HC0 q2 q3
  obtain ⟨wn, a3, c3, rfl, rfl, H3⟩ := hcut
  have HX3 := Lib.hid (H3.out.block HBX.out HNE.out).1
  clear x0 x1 x2 x3
  obtain ⟨x0, x1, x2, x3⟩ := three_of_block HX3.out
  go_wp2_with fail
  clear x0 x1 x2 x3
  go_loopw [0, 20] (fun v i wr => ∃ (j : Nat) (L : List UInt8), j ≤ ws.length ∧ i = .int .i64 j ∧ Hid (L ++ wrWs kd (decide (j = 0)) (ws.drop j) = T) ∧ Hid (BAt 5 W0 W1 (.slice va l.length vc) L wr v)) (fun _ i _ => ws.length - (intOf i).toNat)
  case atStart => exact ⟨0, LK, by omega, rfl, by show _ = _; rw [List.drop_zero]; exact HT.out, H3⟩
  case round =>
    obtain ⟨j, L, hj, rfl, HJ, HR⟩ := hrel
    obtain ⟨ua, uc, hu⟩ := ownsRow_form HR.out.own
    subst hu
    by_cases hjl : j < ws.length
    · obtain ⟨wd, ex, fm, qs, b2, off2, ya, yc, rfl, hlt2, hdw, hsz2, hps, hwd, hex, hfm, hcc2⟩ := HWK.out j hjl
      have HLOW := Lib.hid (HR.out.low HB01.out HLT.out)
      obtain ⟨d0, d1, d2, d3⟩ := hcc2.later HLOW.out hlt2
      have hJ := HJ.out
      rw [hdw, wrWs] at hJ
      obtain ⟨W2, hW2⟩ : ∃ W2, W2 = wr.alloc (.cells #[.string wd, .int .i64 ex, .int .i64 fm, .slice ya qs.length yc] 73) := ⟨_, rfl⟩
      have hb2 : Below wr.heap.size wr W2 := by rw [hW2]; exact (Below.refl _ wr).alloc (Nat.le_refl _) _
      have hxr := HR.out.block HBX.out HNE.out
      have H2 := Lib.hid (HR.out.below hb2)
      have HTWO : Hid (Two g wr.heap.size (.cells #[.int .i64 kd, .string tx, .slice (some ⟨b2, off2, none⟩) ws.length xc] 66 (0, 0)) (.cells #[.string wd, .int .i64 ex, .int .i64 fm, .slice ya qs.length yc] 73 (0, 0)) W2) :=
        ⟨(hb2.block _ (Array.getElem?_eq_some_iff.1 hxr.1).1).trans hxr.1, by rw [hW2]; exact heap_alloc_new _ _⟩
      have HNW : Hid ((Value.slice ua L.length uc).ownBlock ≠ some g ∧ (Value.slice ua L.length uc).ownBlock ≠ some wr.heap.size) := ⟨hxr.2, HR.out.own_ne⟩
      have HLOW2 : Hid (Below W0.heap.size W0 W2) := HLOW.out.trans (hb2.mono HLOW.out.size)
      obtain ⟨b0, hb0⟩ : ∃ b0, b0 = decide (j = 0) := ⟨_, rfl⟩
      rw [← hb0] at hJ
      have q0 : ((j : Int) == 0) = b0 := by rw [hb0, Bool.eq_iff_iff]; simp
      obtain ⟨TXB, hTXB⟩ : ∃ TXB : ByteArray, TXB = ⟨(wayTx kd (.mk wd ex fm [])).toArray⟩ := ⟨_, rfl⟩
      have HTXB : Hid (wayTx kd (.mk wd ex fm []) = TXB.data.toList) := by show _ = _; rw [hTXB]
      rw [HTXB.out] at hJ
      have HWT : Hid (∀ w', Below W0.heap.size W0 w' → Calls Tryd.prog 131 #[.int .i64 kd, .agg #[.string wd, .int .i64 ex, .int .i64 fm, .slice ya qs.length yc]] w' fun e w2 => e = .returned (.string TXB) ∧ Below w'.heap.size w' w2) := fun w' hb' => by
        rw [hTXB]; exact gwayText_any kd wd ex fm ya qs.length yc w' (HTAB.out.next hb') hex hfm
      have HPS := Lib.hid hps
      have HWPQ := Lib.hid (HWP.out qs hsz2)
      -- the lists
      obtain ⟨L1, hL1⟩ : ∃ L1, L1 = L ++ (if b0 = true then [44] else []) := ⟨_, rfl⟩
      obtain ⟨L2, hL2⟩ : ∃ L2, L2 = L1 ++ [32] := ⟨_, rfl⟩
      obtain ⟨L3, hL3⟩ : ∃ L3, L3 = L2 ++ TXB.data.toList := ⟨_, rfl⟩
      obtain ⟨L4, hL4⟩ : ∃ L4, L4 = L3 ++ [32, 123] := ⟨_, rfl⟩
      obtain ⟨L5, hL5⟩ : ∃ L5, L5 = L4 ++ wrPs qs := ⟨_, rfl⟩
      have hend : (L5 ++ [125]) ++ wrWs kd false (ws.drop (j + 1)) = T := by rw [hL5, hL4, hL3, hL2, hL1, ← hJ]; simp
      have hlen := HTL.out
      rw [← hend] at hlen
      have hle : L.length + 1 ≤ 1000000000 ∧ L1.length + 1 ≤ 1000000000 ∧ L2.length + TXB.size ≤ 1000000000 ∧ L3.length + 2 ≤ 1000000000 ∧ L4.length + (wrPs qs).length ≤ 1000000000 ∧ L5.length + 1 ≤ 1000000000 := by
        have htx : TXB.data.toList.length = TXB.size := by simp
        have e1 := congrArg List.length hL1
        have e2 := congrArg List.length hL2
        have e3 := congrArg List.length hL3
        have e4 := congrArg List.length hL4
        have e5 := congrArg List.length hL5
        simp only [List.length_append, List.length_cons, List.length_nil] at e2 e3 e4 e5 hlen
        rw [List.length_append] at e1
        omega
      obtain ⟨le0, le1, le2, le3, le4, le5⟩ := hle
      have HLE := Lib.hid (And.intro le2 (And.intro le3 (And.intro le4 le5)))
      have HEND := Lib.hid hend
      have HL1 : Hid (b0 = true → L ++ [44] = L1) := fun h => by rw [hL1, h]; rfl
      have HL10 : Hid (b0 = false → L1 = L) := fun h => by rw [hL1, h]; simp
      have HL2 : Hid (L1 ++ [32] = L2) := hL2.symm
      have HL3 : Hid (L2 ++ TXB.data.toList = L3) := hL3.symm
      have HL4 : Hid (L3 ++ (⟨#[32, 123]⟩ : ByteArray).data.toList = L4) := hL4.symm
      have HL5 : Hid (L4 ++ wrPs qs = L5) := hL5.symm
      have HDW := Lib.hid hdw
      have hgr : g < wr.heap.size := (Array.getElem?_eq_some_iff.1 hxr.1).1
      have hzr2 : W2.heap.size = wr.heap.size + 1 := by rw [hW2]; simp
      have HZR2 := Lib.hid hzr2
      have HLE0 := Lib.hid le0
      clear hcc2 hlt2 hJ HJ hdw hsz2 hps hwd hex hfm hb2 hxr hb0 hTXB hL1 hL2 hL3 hL4 hL5 hend hlen le2 le3 le4 le5 hzr2 HWK HWP
      go_upto_region 8 with fail
      rw [← hW2]
      clear hW2 d0 d1 d2 d3
      obtain ⟨h, hh⟩ : ∃ h : Nat, h = wr.heap.size := ⟨_, rfl⟩
      rw [← hh] at HTWO HNW hgr HZR2 ⊢
      clear hh
      obtain ⟨G, hG⟩ : ∃ G : Obj, G = (.cells #[.int .i64 kd, .string tx, .slice (some ⟨b2, off2, none⟩) ws.length xc] 66 (0, 0)) := ⟨_, rfl⟩
      obtain ⟨H, hH⟩ : ∃ H : Obj, H = (.cells #[.string wd, .int .i64 ex, .int .i64 fm, .slice ya qs.length yc] 73 (0, 0)) := ⟨_, rfl⟩
      rw [← hG, ← hH] at HTWO
      have HST : Hid (WSt 5 W0 W1 (.slice va l.length vc) g h G H L W2 (.slice ua L.length uc)) := ⟨H2.out, HTWO.out, HNW.out.1, HNW.out.2⟩
      have HPB : Hid (∀ w' : World, Two g h G H w' → w'.heap[g]? = some (.cells #[.int .i64 kd, .string tx, .slice (some ⟨b2, off2, none⟩) ws.length xc] 66 (0, 0)) ∧ w'.heap[h]? = some (.cells #[.string wd, .int .i64 ex, .int .i64 fm, .slice ya qs.length yc] 73 (0, 0))) := fun w' t => ⟨by rw [← hG]; exact t.1, by rw [← hH]; exact t.2⟩
      clear hG hH HTWO H2 HNW
      obtain ⟨z0, z1, z2, z3⟩ := three_of_block (HPB.out _ HST.out.two).1
      go_cut [26] from 25 to 26 (fun v wx => v = .bool b0 ∧ W2 = wx)
      case first =>
        go_wp2_with fail
        go_meet
        exact ⟨rfl, rfl⟩
      case rest =>
      obtain ⟨rfl, rfl⟩ := hcut
      rename_i hk
      refine hk _ _ ?_
      clear hk
      go_cut [0] from 27 to 29 (fun v wy => ∃ (wn : World) (a3 : Option Addr) (c3 : Nat), wn = wy ∧ v = .slice a3 L1.length c3 ∧ Hid (WSt 5 W0 W1 (.slice va l.length vc) g h G H L1 wn (.slice a3 L1.length c3)))
      case first =>
        cases b0 with
        | true =>
          have HE := Lib.hid (HL1.out rfl)
          have HLW : Hid (W0.heap.size ≤ W2.heap.size) := HLOW2.out.size
          go_wp2_with (at_builtin; refine wpList_append_chr rfl _ _ 62 rfl W0.heap.size 5 bi Tryd.underlying62 hbi hbz0 hbz1 hbz2 _ L rfl (HST.out.below ((Below.refl _ W2).alloc (Nat.le_refl _) (.cells #[.int .u8 44] 5))).bat.own W2.heap.size 44 rfl (heap_alloc_new W2 _) (by have := HLE0.out; omega) (Nat.le_trans HLW.out (by simp)) ?_; intro v3 w3 hown3 hgr3 hat3; rw [HE.out] at hown3; obtain ⟨a4, c4, rfl⟩ := ownsRow_form hown3; have S3 := Lib.hid ((HST.out.below ((Below.refl _ W2).alloc (Nat.le_refl _) (.cells #[.int .u8 44] 5))).step hown3 hgr3 hat3); clear hown3 hgr3 hat3)
          go_meet
          exact ⟨_, _, _, rfl, rfl, S3⟩
        | false =>
          have HE := Lib.hid (HL10.out rfl)
          go_wp2_with fail
          go_meet
          exact ⟨_, ua, uc, rfl, by rw [HE.out], by rw [HE.out]; exact HST⟩
      case rest =>
      clear z0 z1 z2 z3 HST H3 HL1 HL10 q0
      obtain ⟨wn, a3, c3, rfl, rfl, H3⟩ := hcut
      have HLN : Hid (Below W0.heap.size W0 wn) := H3.out.bat.low HB01.out HLT.out
      have HLNX : Hid (Below W0.heap.size W0 ((wn.alloc (.cells #[.int .u8 32] 5)).drew)) := (HLN.out.alloc HLN.out.size _).drew
      have BXX : Hid (((wn.alloc (.cells #[.int .u8 32] 5)).drew).heap[wn.heap.size]? = some (.cells #[.int .u8 ((32 : UInt8).toNat : Int)] 5 (0, 0))) := heap_alloc_new wn _
      have HZX : Hid (W0.heap.size ≤ ((wn.alloc (.cells #[.int .u8 32] 5)).drew).heap.size) := HLNX.out.size
      have le1' : L1.length + 1 ≤ 1000000000 := le1
      have le2' : L2.length + TXB.size ≤ 140737488355328 := by have := HLE.out.1; omega
      have HS : Hid (∀ w' : World, Two g h G H w' → w'.cell? ⟨g, 0, none⟩ = some (.int .i64 kd) ∧ w'.cell? ⟨h, 0, none⟩ = some (.string wd) ∧ w'.cell? ⟨h, 1, none⟩ = some (.int .i64 ex) ∧ w'.cell? ⟨h, 2, none⟩ = some (.int .i64 fm) ∧ w'.cell? ⟨h, 3, none⟩ = some (.slice ya qs.length yc)) := fun w' t => by
        obtain ⟨p1, p2⟩ := HPB.out w' t
        obtain ⟨r0, r1, r2, r3⟩ := three_of_block p1
        obtain ⟨u0, u1, u2, u3, u4⟩ := four_of_block p2
        exact ⟨r0, u0, u1, u2, u3⟩
      have t0 := H3.out.two
      rename_i hk K2
      refine hk _ _ ?_
      clear hk
      go_step
      go_cut [0] from 30 to 37 (fun v wy => ∃ (w5 : World) (a5 : Option Addr) (c5 : Nat), w5 = wy ∧ v = .slice a5 L3.length c5 ∧ Hid (WSt 5 W0 W1 (.slice va l.length vc) g h G H L3 w5 (.slice a5 L3.length c5)))
      case first =>
        go_region_held3 (fun w' => w'.cell? ⟨g, 0, none⟩ = some (.int .i64 kd) ∧ w'.cell? ⟨h, 0, none⟩ = some (.string wd) ∧ w'.cell? ⟨h, 1, none⟩ = some (.int .i64 ex) ∧ w'.cell? ⟨h, 2, none⟩ = some (.int .i64 fm) ∧ w'.cell? ⟨h, 3, none⟩ = some (.slice ya qs.length yc)) (first | (refine HS.out _ ?_; repeat (first | assumption | (with_reducible refine Two.dr ?_) | (with_reducible refine Two.al ?_ _))))
          (first | ((with_reducible refine at_world ((wn.alloc (.cells #[.int .u8 32] 5)).drew) ?_); refine step_append_chr _ rfl _ _ 62 rfl W0.heap.size 5 bi Tryd.underlying62 hbi hbz0 hbz1 hbz2 _ L1 rfl (H3.out.below ((Below.refl _ wn).alloc (Nat.le_refl _) (.cells #[.int .u8 32] 5)).drew).bat.own wn.heap.size 32 rfl BXX.out (by omega) HZX.out ?_; intro v3 w3 hown3 hgr3 hat3; rw [HL2.out] at hown3; obtain ⟨a4, c4, rfl⟩ := ownsRow_form hown3; have S3 := Lib.hid ((H3.out.below ((Below.refl _ wn).alloc (Nat.le_refl _) (.cells #[.int .u8 32] 5)).drew).step hown3 hgr3 hat3); have t3 := S3.out.two; clear hown3 hgr3 hat3) | ((with_reducible refine at_world (w4.alloc (.cells #[.int .u8 32] 5)) ?_); refine step_append_chr _ rfl _ _ 62 rfl W0.heap.size 5 bi Tryd.underlying62 hbi hbz0 hbz1 hbz2 _ L1 rfl (S4.out.below ((Below.refl _ w4).alloc (Nat.le_refl _) (.cells #[.int .u8 32] 5))).bat.own w4.heap.size 32 rfl (heap_alloc_new w4 _) (by omega) (Nat.le_trans (S4.out.bat.low HB01.out HLT.out).size (by simp)) ?_; intro v3 w3 hown3 hgr3 hat3; rw [HL2.out] at hown3; obtain ⟨a4, c4, rfl⟩ := ownsRow_form hown3; have S3 := Lib.hid ((S4.out.below ((Below.refl _ w4).alloc (Nat.le_refl _) (.cells #[.int .u8 32] 5))).step hown3 hgr3 hat3); have t3 := S3.out.two; clear hown3 hgr3 hat3) | ((with_reducible refine at_world w4 ?_); refine step_append_chr _ rfl _ _ 62 rfl W0.heap.size 5 bi Tryd.underlying62 hbi hbz0 hbz1 hbz2 _ L1 rfl (S4.out.below (Below.refl _ w4)).bat.own wn.heap.size 32 rfl HQ4.out (by omega) (S4.out.bat.low HB01.out HLT.out).size ?_; intro v3 w3 hown3 hgr3 hat3; rw [HL2.out] at hown3; obtain ⟨a4, c4, rfl⟩ := ownsRow_form hown3; have S3 := Lib.hid ((S4.out.below (Below.refl _ w4)).step hown3 hgr3 hat3); have t3 := S3.out.two; clear hown3 hgr3 hat3) | (go_at_call 131; (with_reducible refine (HWT.out wn.drew HLN.out.drew).mono ?_); rintro e w4 ⟨rfl, hb4⟩; have S4 := Lib.hid ((H3.out.below (Below.refl _ _).drew).below hb4); have t4 := S4.out.two; clear hb4) | (go_at_call 131; (with_reducible refine (HWT.out ((wn.alloc (.cells #[.int .u8 32] 5)).drew) HLNX.out).mono ?_); rintro e w4 ⟨rfl, hb4⟩; have HQ4 := Lib.hid ((hb4.block _ (Array.getElem?_eq_some_iff.1 BXX.out).1).trans BXX.out); have S4 := Lib.hid ((H3.out.below (((Below.refl _ wn).alloc (Nat.le_refl _) (.cells #[.int .u8 32] 5)).drew)).below hb4); have t4 := S4.out.two; clear hb4) | (go_at_call 131; (with_reducible refine (HWT.out w3 (S3.out.bat.low HB01.out HLT.out)).mono ?_); rintro e w4 ⟨rfl, hb4⟩; have S34 := Lib.hid (S3.out.below hb4); have t4 := S34.out.two; clear hb4) | ((with_reducible refine at_world w3 ?_); refine step_append_str _ rfl _ _ 62 9 rfl W0.heap.size 5 bi Tryd.underlying62 Tryd.underlying9 hbi hbz0 hbz1 hbz2 _ L2 rfl S3.out.bat.own TXB rfl le2' (S3.out.bat.low HB01.out HLT.out).size ?_; intro v5 w5 hown5 hgr5 hat5; rw [HL3.out] at hown5; obtain ⟨a5, c5, rfl⟩ := ownsRow_form hown5; have S5 := Lib.hid (S3.out.step hown5 hgr5 hat5); have t5 := S5.out.two; clear hown5 hgr5 hat5) | ((with_reducible refine at_world w4 ?_); refine step_append_str _ rfl _ _ 62 9 rfl W0.heap.size 5 bi Tryd.underlying62 Tryd.underlying9 hbi hbz0 hbz1 hbz2 _ L2 rfl S34.out.bat.own TXB rfl le2' (S34.out.bat.low HB01.out HLT.out).size ?_; intro v5 w5 hown5 hgr5 hat5; rw [HL3.out] at hown5; obtain ⟨a5, c5, rfl⟩ := ownsRow_form hown5; have S5 := Lib.hid (S34.out.step hown5 hgr5 hat5); have t5 := S5.out.two; clear hown5 hgr5 hat5))
        all_goals
          go_wp2_with fail
          go_meet
          exact ⟨_, _, _, rfl, rfl, S5⟩
      case rest =>
      clear H3 HLN HLNX BXX HZX t0
      obtain ⟨w5, a5, c5, rfl, rfl, S5⟩ := hcut
      have HZ5 : Hid (W0.heap.size ≤ w5.heap.size) := (S5.out.bat.low HB01.out HLT.out).size
      have le3' : L3.length + 2 ≤ 140737488355328 := by have := HLE.out.2.1; omega
      rename_i hk
      refine hk _ _ ?_
      clear hk
      go_wp2_with (first | (at_builtin; refine wpList_append_str rfl _ _ 62 9 rfl W0.heap.size 5 bi Tryd.underlying62 Tryd.underlying9 hbi hbz0 hbz1 hbz2 _ L3 rfl S5.out.bat.own ⟨#[32, 123]⟩ rfl le3' HZ5.out ?_; intro v6 w6 hown6 hgr6 hat6; rw [HL4.out] at hown6; obtain ⟨a6, c6, rfl⟩ := ownsRow_form hown6; have S6 := Lib.hid (S5.out.step hown6 hgr6 hat6); clear hown6 hgr6 hat6; obtain ⟨p0, p1, p2, p3, p4⟩ := HS.out _ S6.out.two) | (go_at_call 28; refine (HWPQ.out _ HPS.out L4 _ w6 (S6.out.bat.low HB01.out HLT.out) S6.out.bat.own HLE.out.2.2.1).mono ?_; rintro e w7 ⟨v7, rfl, h7⟩; rw [HL5.out] at h7; obtain ⟨a7, c7, rfl⟩ := ownsRow_form h7.own; have S7 := Lib.hid (S6.out.call h7); have HZ7 : Hid (W0.heap.size ≤ (w7.alloc (.cells #[.int .u8 125] 5)).heap.size) := Nat.le_trans (S7.out.bat.low HB01.out HLT.out).size (by simp); clear h7) | (at_builtin; refine wpList_append_chr rfl _ _ 62 rfl W0.heap.size 5 bi Tryd.underlying62 hbi hbz0 hbz1 hbz2 _ L5 rfl (S7.out.below ((Below.refl _ w7).alloc (Nat.le_refl _) (.cells #[.int .u8 125] 5))).bat.own w7.heap.size 125 rfl (heap_alloc_new w7 _) (by have := HLE.out.2.2.2; omega) HZ7.out ?_; intro v8 w8 hown8 hgr8 hat8; have S8 := Lib.hid ((S7.out.below ((Below.refl _ w7).alloc (Nat.le_refl _) (.cells #[.int .u8 125] 5))).step hown8 hgr8 hat8); clear hown8 hgr8 hat8))
      go_roundw
      case rel => exact ⟨j + 1, _, by omega, by first | rfl | go_num, by show _ = _; rw [show decide (j + 1 = 0) = false from decide_eq_false (by omega)]; exact HEND.out, Lib.hid S8.out.bat⟩
      case measure => first | (simp [intOf]; omega) | go_num
    · have HF : Hid (L = T) := by
        have := HJ.out
        rw [List.drop_eq_nil_of_le (by omega), wrWs, List.append_nil] at this
        exact this
      go_wp2_with fail
      go_ret
      exact ⟨_, rfl, by rw [← HF.out]; exact HR.out.first HBB.out⟩
end Go.Proofs.YtdolpehcfifecaaDoor
