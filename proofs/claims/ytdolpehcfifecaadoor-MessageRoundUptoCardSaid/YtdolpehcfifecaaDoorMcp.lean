/- lang.writePieces, what it does with a list of pieces, given what it does with shorter ones. Conditions: where the pieces and the row lie. -/
import Derived.Test.YtdolpehcfifecaaDoorMco
namespace Mh
open Go Go.RowKit
set_option linter.unusedVariables false
theorem at_world {P : Program} {o : Oper} {a : Act} {K : Act → World → Prop} {Q : Exit → Act → World → Prop} {E c : Prop} {inst : Decidable c} (W : World) (h : @ite Prop c inst (Oper.wp P o a W K Q) E) : @ite Prop c inst (Oper.wp P o a W K Q) E := h
theorem low_form {cnt : Bool} {p : Pc} (h : pieceFm cnt p = true) : p.kd = 0 ∨ p.kd = 4 ∨ (p.kd ≠ 0 ∧ p.kd ≠ 4) := by
  by_cases h0 : p.kd = 0
  · exact .inl h0
  · by_cases h4 : p.kd = 4
    · exact .inr (.inl h4)
    · exact .inr (.inr ⟨h0, h4⟩)
end Mh
namespace Go.Proofs.YtdolpehcfifecaaDoor
open Go.RowKit Mh
set_option linter.unusedVariables false
theorem nilAhead_arg (n : Nat) (v : Value) (w : World) : (nilAhead (n + 1) 90 v "masthead/lang.write").run Tryd.prog w = .ok (some false) w := by kernel_rfl
attribute [local go_sem ↓] nilAhead_arg
theorem method_arg (n : Nat) (v : Value) (w : World) : (method (n + 1) 90 v "masthead/lang.write").run Tryd.prog w = .ok (129, v) w := by kernel_rfl
attribute [local go_sem ↓] method_arg
/-- What writePieces does with a list of pieces. -/
def WpC (W0 : World) (ps : List Pc) : Prop := ∀ (pv : Value), PsIn W0 pv ps → ∀ (l : List UInt8) (ov : Value) (w : World), Below W0.heap.size W0 w → w.ownsRow W0.heap.size 5 1 ov l.length (byteCells l) → l.length + (wrPs ps).length ≤ 1000000000 →
  Calls Tryd.prog 28 #[ov, pv] w fun e w' => ∃ v', e = .returned v' ∧ BAt 5 W0 w ov (l ++ wrPs ps) w' v'
set_option maxRecDepth 100000 in
set_option maxHeartbeats 16000000 in
theorem gwritePieces_step (W0 : World) (ps : List Pc) (hww : ∀ (kd : Int) (tx : ByteArray) (ws : List Wy) (pv : Value), SizeOf.sizeOf ws < SizeOf.sizeOf ps → WsIn W0 pv ws → WwC kd tx ws W0 pv) : WpC W0 ps := by
  intro pv hps l ov w hb ho hl
  obtain ⟨bi, hbi, hbz0, hbz1, hbz2⟩ := info_parts infoByte
  obtain ⟨va, vc, hv⟩ := ownsRow_form ho
  obtain ⟨ao, c, rfl, hlen, hk⟩ := hps.item
  have HK := Lib.hid hk
  unfold maxLen at hlen
  have HWW := Lib.hid hww
  have HLT := Lib.hid (fun k hk => (ho.lt k hk).1)
  have HB0 := Lib.hid hb
  have H1 := Lib.hid (BAt.refl ho)
  obtain ⟨T, hT⟩ : ∃ T, T = l ++ wrPs ps := ⟨_, rfl⟩
  have HTL : Hid (T.length ≤ 1000000000) := by show _ ≤ _; rw [hT, List.length_append]; exact hl
  have HT := Lib.hid hT
  rw [← hT]
  subst hv
  clear hb ho hl hps hk hww hT
  go_enter Tryd.func28, Tryd.ntmps28
  go_wp2_with fail
  go_loopw [0, 10] (fun v i wr => ∃ (k : Nat) (L : List UInt8), k ≤ ps.length ∧ i = .int .i64 k ∧ Hid (L ++ wrPs (ps.drop k) = T) ∧ Hid (BAt 5 W0 w (.slice va l.length vc) L wr v)) (fun _ i _ => ps.length - (intOf i).toNat)
  case atStart => exact ⟨0, l, by omega, rfl, by show _ = _; rw [List.drop_zero, HT.out], H1⟩
  case round =>
    clear H1
    obtain ⟨k, L, hk, rfl, HI, HR⟩ := hrel
    obtain ⟨ua, uc, hu⟩ := ownsRow_form HR.out.own
    subst hu
    by_cases hkl : k < ps.length
    · obtain ⟨kd, tx, ws, b, off, xa, xc, rfl, hlt, hdr, hsz, hws, htx, _, hcc⟩ := HK.out k hkl
      have HLOW := Lib.hid (HR.out.low HB0.out HLT.out)
      obtain ⟨c0, c1, c2⟩ := hcc.later HLOW.out hlt
      have hI := HI.out
      rw [hdr, wrPs] at hI
      obtain ⟨W1, hW1⟩ : ∃ W1, W1 = wr.alloc (.cells #[.int .i64 kd, .string tx, .slice xa ws.length xc] 66) := ⟨_, rfl⟩
      have hb1 : Below wr.heap.size wr W1 := by rw [hW1]; exact (Below.refl _ wr).alloc (Nat.le_refl _) _
      have hbx : W1.heap[wr.heap.size]? = some (.cells #[.int .i64 kd, .string tx, .slice xa ws.length xc] 66 (0, 0)) := by rw [hW1]; exact heap_alloc_new _ _
      have HB1 := Lib.hid hb1
      obtain ⟨x0, x1, x2, x3⟩ := three_of_block hbx
      have HWO := Lib.hid (fun w => gwriterOf_any kd tx xa ws.length xc w)
      have HSZ := Lib.hid hsz
      have HWS := Lib.hid hws
      have HCALLW := Lib.hid (HWW.out kd tx ws _ hsz hws)
      have HTX := Lib.hid htx
      obtain ⟨rest, hrest⟩ : ∃ rest, rest = wrPs (ps.drop (k + 1)) := ⟨_, rfl⟩
      rw [← hrest] at hI
      have HRE := Lib.hid hrest
      have HI1 := Lib.hid hI
      clear hI HI hcc hws hlt hsz hrest hbx hdr htx hb1 HK HWW
      go_upto_region 4 with fail
      rw [← hW1]
      clear hW1 c0 c1 c2
      by_cases k0 : kd = 0
      · subst k0
        have HV : Hid (writerV 0 tx (.slice xa ws.length xc) = .iface 101 (.agg #[.string tx])) := rfl
        rw [HV.out] at HWO
        have HP : Hid (L ++ escL tx.data.toList ++ rest = T) := by show _ = _; rw [← HI1.out, wrP, if_pos rfl, List.append_assoc]
        have HPL : Hid (L.length + (escL tx.data.toList).length ≤ 1000000000) := by have := HTL.out; rw [← HP.out] at this; simp only [List.length_append] at this; show _ ≤ _; omega
        clear HI1 HV
        go_wp2_with (first | (go_at_call 46; refine (HWO.out _).mono ?_; rintro e w2 ⟨rfl, hb2⟩; have H2 := Lib.hid (HR.out.below (HB1.out.trans (hb2.mono HB1.out.size))); have HL2 := Lib.hid (H2.out.low HB0.out HLT.out); clear hb2))
        rename_i hK
        refine hK _ _ ?_
        clear hK
        go_wp2_with ((go_at_call 132; refine (gplainWrite_any tx L _ W0 _ HL2.out H2.out.own HPL.out).mono ?_; rintro e w3 ⟨v3, rfl, h3⟩; have H3 := Lib.hid (H2.out.trans h3); clear h3))
        go_roundw
        case rel => exact ⟨k + 1, _, by omega, by first | rfl | go_num, by show _ = _; rw [← HRE.out]; exact HP.out, H3⟩
        case measure => simp [intOf]; omega
      · have q0 : (kd == 0) = false := by rw [beq_eq_false_iff_ne]; exact k0
        by_cases k4 : kd = 4
        · subst k4
          have HV : Hid (writerV 4 tx (.slice xa ws.length xc) = .iface 103 (.agg #[])) := rfl
          rw [HV.out] at HWO
          have HP : Hid (L ++ [35] ++ rest = T) := by show _ = _; rw [← HI1.out, wrP, if_neg (by decide), if_pos rfl, List.append_assoc]
          have HPL : Hid (L.length + 1 ≤ 1000000000) := by have := HTL.out; rw [← HP.out] at this; simp only [List.length_append, List.length_cons, List.length_nil] at this; show _ ≤ _; omega
          clear HI1 HV
          go_wp2_with (first | (go_at_call 46; refine (HWO.out _).mono ?_; rintro e w2 ⟨rfl, hb2⟩; have H2 := Lib.hid (HR.out.below (HB1.out.trans (hb2.mono HB1.out.size))); have HL2 := Lib.hid (H2.out.low HB0.out HLT.out); clear hb2))
          rename_i hK
          refine hK _ _ ?_
          clear hK
          go_wp2_with ((go_at_call 133; refine (ghashWrite_any L _ W0 _ HL2.out H2.out.own HPL.out).mono ?_; rintro e w3 ⟨v3, rfl, h3⟩; have H3 := Lib.hid (H2.out.trans h3); clear h3))
          go_roundw
          case rel => exact ⟨k + 1, _, by omega, by first | rfl | go_num, by show _ = _; rw [← HRE.out]; exact HP.out, H3⟩
          case measure => simp [intOf]; omega
        · have HV : Hid (writerV kd tx (.slice xa ws.length xc) = .iface 90 (.agg #[.int .i64 kd, .string tx, .slice xa ws.length xc])) := by show _ = _; unfold writerV; rw [if_neg k0, if_neg k4]
          rw [HV.out] at HWO
          obtain ⟨R2, hR2⟩ : ∃ R2, R2 = kindTx kd ++ wrWs kd true ws := ⟨_, rfl⟩
          have HR2 := Lib.hid hR2
          have HP : Hid (L ++ [123] ++ (tx.data.toList ++ R2) ++ [125] ++ rest = T) := by show _ = _; rw [← HI1.out, wrP, if_neg k0, if_neg k4, hR2]; simp
          have hpl := HTL.out
          rw [← HP.out] at hpl
          simp only [List.length_append, List.length_cons, List.length_nil] at hpl
          have HAW : Hid (∀ (l : List UInt8) (ov : Value) (w : World), Below W0.heap.size W0 w → w.ownsRow W0.heap.size 5 1 ov l.length (byteCells l) → l.length + (tx.data.toList ++ R2).length ≤ 1000000000 →
              Calls Tryd.prog 129 #[.agg #[.int .i64 kd, .string tx, .slice xa ws.length xc], ov] w fun e w' => ∃ v', e = .returned v' ∧ BAt 5 W0 w ov (l ++ (tx.data.toList ++ R2)) w' v') := by
            rw [hR2]
            exact fun l ov w h1 h2 h3 => gargWrite_any kd tx ws xa ws.length xc W0 HCALLW.out l ov w h1 h2 h3
          have hl1 : L.length + 1 ≤ 1000000000 := by omega
          obtain ⟨L1, hL1⟩ : ∃ L1, L1 = L ++ [123] := ⟨_, rfl⟩
          obtain ⟨L2, hL2⟩ : ∃ L2, L2 = L1 ++ (tx.data.toList ++ R2) := ⟨_, rfl⟩
          have HE1 : Hid (L ++ [123] = L1) := hL1.symm
          have HE2 : Hid (L1 ++ (tx.data.toList ++ R2) = L2) := hL2.symm
          have HB1L : Hid (L1.length + (tx.data.toList ++ R2).length ≤ 1000000000) := by show _ ≤ _; rw [hL1]; simp only [List.length_append, List.length_cons, List.length_nil]; omega
          have hl2 : L2.length + 1 ≤ 1000000000 := by rw [hL2, hL1]; simp only [List.length_append, List.length_cons, List.length_nil]; omega
          have HP2 : Hid (L2 ++ [125] ++ rest = T) := by show _ = _; rw [hL2, hL1]; exact HP.out
          clear HI1 HV HP hpl hL1 hL2 hR2 k0 k4
          go_wp2_with (first | (go_at_call 46; refine (HWO.out _).mono ?_; rintro e w2 ⟨rfl, hb2⟩; have H2 := Lib.hid (HR.out.below (HB1.out.trans (hb2.mono HB1.out.size))); have HL2 := Lib.hid (H2.out.low HB0.out HLT.out); clear hb2))
          rename_i hK
          refine hK _ _ ?_
          clear hK
          have HZ2 : Hid (W0.heap.size ≤ w2.heap.size) := HL2.out.size
          have BLX : Hid (Below w2.drew.heap.size w2.drew (w2.drew.alloc (.cells #[.int .u8 123] 5))) := (Below.refl _ _).alloc (Nat.le_refl _) _
          have BLYX : Hid (Below w2.drew.heap.size w2.drew ((w2.drew.alloc (.cells #[.int .u8 125] 5)).alloc (.cells #[.int .u8 123] 5))) := ((Below.refl _ w2.drew).alloc (Nat.le_refl _) _).alloc (by simp) _
          have BLXY : Hid (Below w2.drew.heap.size w2.drew ((w2.drew.alloc (.cells #[.int .u8 123] 5)).alloc (.cells #[.int .u8 125] 5))) := ((Below.refl _ w2.drew).alloc (Nat.le_refl _) _).alloc (by simp) _
          have BX : Hid ((w2.drew.alloc (.cells #[.int .u8 123] 5)).heap[w2.heap.size]? = some (.cells #[.int .u8 ((123 : UInt8).toNat : Int)] 5 (0, 0))) := heap_alloc_new w2.drew _
          have BYX : Hid (((w2.drew.alloc (.cells #[.int .u8 125] 5)).alloc (.cells #[.int .u8 123] 5)).heap[w2.heap.size + 1]? = some (.cells #[.int .u8 ((123 : UInt8).toNat : Int)] 5 (0, 0))) := by
            show _ = _
            have := heap_alloc_new (w2.drew.alloc (.cells #[.int .u8 125] 5)) (.cells #[.int .u8 123] 5)
            rw [show (w2.drew.alloc (.cells #[.int .u8 125] 5)).heap.size = w2.heap.size + 1 by simp] at this
            exact this
          have BYX0 : Hid (((w2.drew.alloc (.cells #[.int .u8 125] 5)).alloc (.cells #[.int .u8 123] 5)).heap[w2.heap.size]? = some (.cells #[.int .u8 ((125 : UInt8).toNat : Int)] 5 (0, 0))) := (heap_alloc_old _ _ (by simp)).trans (heap_alloc_new w2.drew _)
          have BXY0 : Hid (((w2.drew.alloc (.cells #[.int .u8 123] 5)).alloc (.cells #[.int .u8 125] 5)).heap[w2.heap.size]? = some (.cells #[.int .u8 ((123 : UInt8).toNat : Int)] 5 (0, 0))) := (heap_alloc_old _ _ (by simp)).trans (heap_alloc_new w2.drew _)
          have BXY : Hid (((w2.drew.alloc (.cells #[.int .u8 123] 5)).alloc (.cells #[.int .u8 125] 5)).heap[w2.heap.size + 1]? = some (.cells #[.int .u8 ((125 : UInt8).toNat : Int)] 5 (0, 0))) := by
            show _ = _
            have := heap_alloc_new (w2.drew.alloc (.cells #[.int .u8 123] 5)) (.cells #[.int .u8 125] 5)
            rw [show (w2.drew.alloc (.cells #[.int .u8 123] 5)).heap.size = w2.heap.size + 1 by simp] at this
            exact this
          have HZX : Hid (W0.heap.size ≤ (w2.drew.alloc (.cells #[.int .u8 123] 5)).heap.size) := Nat.le_trans HZ2.out BLX.out.size
          have HZB : Hid (W0.heap.size ≤ ((w2.drew.alloc (.cells #[.int .u8 125] 5)).alloc (.cells #[.int .u8 123] 5)).heap.size) := Nat.le_trans HZ2.out BLYX.out.size
          have HZC : Hid (W0.heap.size ≤ ((w2.drew.alloc (.cells #[.int .u8 123] 5)).alloc (.cells #[.int .u8 125] 5)).heap.size) := Nat.le_trans HZ2.out BLXY.out.size
          have HNO : Hid (∀ q, w2.heap.size ≤ q → (Value.slice ua L.length uc).ownBlock ≠ some q) := fun q hq e => absurd (H2.out.own.lt _ e).2 (by omega)
          go_wp2_with fail
          go_region_law (first | ((with_reducible refine at_world ((w2.alloc (.cells #[.int .u8 123] 5)).drew) ?_); refine step_append_chr _ rfl _ _ 62 rfl W0.heap.size 5 bi Tryd.underlying62 hbi hbz0 hbz1 hbz2 _ L rfl (H2.out.drew.below BLX.out).own w2.heap.size 123 rfl BX.out (by omega) HZX.out ?_; intro v3 w3 hown3 hgr3 hat3; rw [HE1.out] at hown3; obtain ⟨a3, c3, rfl⟩ := ownsRow_form hown3; have H3 := Lib.hid ((H2.out.drew.below BLX.out).step hown3 hgr3 (hat3.imp id fun e => ⟨_, Nat.le_refl _, e⟩));  clear hown3 hgr3 hat3) | ((with_reducible refine at_world (((w2.alloc (.cells #[.int .u8 125] 5)).alloc (.cells #[.int .u8 123] 5)).drew) ?_); refine step_append_chr _ rfl _ _ 62 rfl W0.heap.size 5 bi Tryd.underlying62 hbi hbz0 hbz1 hbz2 _ L rfl (H2.out.drew.below BLYX.out).own (w2.heap.size + 1) 123 rfl BYX.out (by omega) HZB.out ?_; intro v3 w3 hown3 hgr3 hat3; rw [HE1.out] at hown3; obtain ⟨a3, c3, rfl⟩ := ownsRow_form hown3; have H3 := Lib.hid ((H2.out.drew.below BLYX.out).step hown3 hgr3 (hat3.imp id fun e => ⟨_, Nat.le_refl _, e⟩)); have HQ : Hid (w3.heap[w2.heap.size]? = some (.cells #[.int .u8 ((125 : UInt8).toNat : Int)] 5 (0, 0)) ∧ (Value.slice a3 L1.length c3).ownBlock ≠ some w2.heap.size) := ⟨(hgr3.block _ (by simp; omega) (fun e => HNO.out _ (Nat.le_refl _) e.symm)).trans BYX0.out, fun e => by rcases hat3 with h | h; exact HNO.out _ (Nat.le_refl _) (h ▸ e); exact Nat.lt_irrefl _ (Nat.lt_of_lt_of_eq (Array.getElem?_eq_some_iff.1 BYX0.out).1 (Option.some.inj (h.symm.trans e)))⟩; clear hown3 hgr3 hat3) | ((with_reducible refine at_world (((w2.alloc (.cells #[.int .u8 123] 5)).alloc (.cells #[.int .u8 125] 5)).drew) ?_); refine step_append_chr _ rfl _ _ 62 rfl W0.heap.size 5 bi Tryd.underlying62 hbi hbz0 hbz1 hbz2 _ L rfl (H2.out.drew.below BLXY.out).own w2.heap.size 123 rfl BXY0.out (by omega) HZC.out ?_; intro v3 w3 hown3 hgr3 hat3; rw [HE1.out] at hown3; obtain ⟨a3, c3, rfl⟩ := ownsRow_form hown3; have H3 := Lib.hid ((H2.out.drew.below BLXY.out).step hown3 hgr3 (hat3.imp id fun e => ⟨_, Nat.le_refl _, e⟩)); have HQ : Hid (w3.heap[w2.heap.size + 1]? = some (.cells #[.int .u8 ((125 : UInt8).toNat : Int)] 5 (0, 0)) ∧ (Value.slice a3 L1.length c3).ownBlock ≠ some (w2.heap.size + 1)) := ⟨(hgr3.block _ (by simp) (fun e => HNO.out _ (Nat.le_succ _) e.symm)).trans BXY.out, fun e => by rcases hat3 with h | h; exact HNO.out _ (Nat.le_succ _) (h ▸ e); exact Nat.lt_irrefl _ (Nat.lt_of_lt_of_eq (Array.getElem?_eq_some_iff.1 BXY.out).1 (Option.some.inj (h.symm.trans e)))⟩; clear hown3 hgr3 hat3) | (refine step_append_chr _ rfl _ _ 62 rfl W0.heap.size 5 bi Tryd.underlying62 hbi hbz0 hbz1 hbz2 _ L2 rfl H4.out.own _ 125 rfl HQ4.out (by omega) HZ4.out ?_; intro v5 w5 hown5 hgr5 hat5; have H5 := Lib.hid (H4.out.step hown5 hgr5 (hat5.imp id fun e => ⟨_, Nat.le_refl _, e⟩)); clear hown5 hgr5 hat5) | (refine step_append_chr _ rfl _ _ 62 rfl W0.heap.size 5 bi Tryd.underlying62 hbi hbz0 hbz1 hbz2 _ L2 rfl (H4.out.below ((Below.refl _ w4).alloc (Nat.le_refl _) (.cells #[.int .u8 125] 5))).own w4.heap.size 125 rfl (heap_alloc_new _ _) (by omega) (by have := HZ4.out; simp; omega) ?_; intro v5 w5 hown5 hgr5 hat5; have H5 := Lib.hid ((H4.out.below ((Below.refl _ w4).alloc (Nat.le_refl _) (.cells #[.int .u8 125] 5))).step hown5 hgr5 (hat5.imp id fun e => ⟨_, Nat.le_refl _, e⟩)); clear hown5 hgr5 hat5) | (go_simp; go_at_call 129; (with_reducible refine (HAW.out L1 _ _ (H3.out.low HB0.out HLT.out) H3.out.own HB1L.out).mono ?_); rintro e w4 ⟨v4, rfl, h4⟩; have HQ4 := Lib.hid (h4.block HQ.out.1 HQ.out.2).1; rw [HE2.out] at h4; obtain ⟨a4, c4, rfl⟩ := ownsRow_form h4.own; have H4 := Lib.hid (H3.out.trans h4); have HZ4 : Hid (W0.heap.size ≤ w4.heap.size) := (H4.out.low HB0.out HLT.out).size; clear h4) | (go_simp; go_at_call 129; (with_reducible refine (HAW.out L1 _ _ (H3.out.low HB0.out HLT.out) H3.out.own HB1L.out).mono ?_); rintro e w4 ⟨v4, rfl, h4⟩; rw [HE2.out] at h4; obtain ⟨a4, c4, rfl⟩ := ownsRow_form h4.own; have H4 := Lib.hid (H3.out.trans h4); have HZ4 : Hid (W0.heap.size ≤ w4.heap.size) := (H4.out.low HB0.out HLT.out).size; clear h4) | (go_simp; go_at_call 129; (with_reducible refine (HAW.out L1 _ (w3.alloc (.cells #[.int .u8 125] 5)) ((H3.out.below ((Below.refl _ w3).alloc (Nat.le_refl _) _)).low HB0.out HLT.out) (H3.out.below ((Below.refl _ w3).alloc (Nat.le_refl _) _)).own HB1L.out).mono ?_); rintro e w4 ⟨v4, rfl, h4⟩; have HQ4 := Lib.hid (h4.block (heap_alloc_new w3 _) (fun e => absurd (H3.out.own.lt _ e).2 (Nat.lt_irrefl _))).1; rw [HE2.out] at h4; obtain ⟨a4, c4, rfl⟩ := ownsRow_form h4.own; have H4 := Lib.hid ((H3.out.below ((Below.refl _ w3).alloc (Nat.le_refl _) _)).trans h4); have HZ4 : Hid (W0.heap.size ≤ w4.heap.size) := (H4.out.low HB0.out HLT.out).size; clear h4))
          all_goals
            go_wp2_with fail
            go_roundw
            case rel => exact ⟨k + 1, _, by omega, by first | rfl | go_num, by show _ = _; rw [← HRE.out]; exact HP2.out, H5⟩
            case measure => simp [intOf]; omega
    · have HF : Hid (L = T) := by
        have := HI.out
        rw [List.drop_eq_nil_of_le (by omega), wrPs, List.append_nil] at this
        exact this
      rw [HF.out] at HR
      go_wp2_with fail
      go_ret
      exact ⟨_, rfl, by rw [← HF.out]; rw [HF.out]; exact HR.out⟩
end Go.Proofs.YtdolpehcfifecaaDoor
