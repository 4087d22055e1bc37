/- lang.arguments; writePieces of any pieces. Conditions: where the pieces and the row lie; sums below 10^9. -/
import Derived.Test.YtdolpehcfifecaaDoorMcs
namespace Mh
open Go Go.RowKit
set_option linter.unusedVariables false
mutual
/-- The names of the arguments of pieces, put into a list. -/
def argsPs (out : List ByteArray) : List Pc → List ByteArray
  | [] => out
  | .mk k t ws :: l => argsPs (argsWs (if k = 1 ∨ k = 2 ∨ k = 3 then insL out t else out) ws) l
def argsWs (out : List ByteArray) : List Wy → List ByteArray
  | [] => out
  | .mk _ _ _ ps :: l => argsWs (argsPs out ps) l
end
mutual
theorem args_len (out : List ByteArray) : ∀ ps : List Pc, (argsPs out ps).length ≤ out.length + manyPs ps
  | [] => by rw [argsPs]; omega
  | .mk k t ws :: l => by
    rw [argsPs, manyPs]
    have h1 := args_len (argsWs (if k = 1 ∨ k = 2 ∨ k = 3 then insL out t else out) ws) l
    have h2 := argsW_len (if k = 1 ∨ k = 2 ∨ k = 3 then insL out t else out) ws
    have h3 : (if k = 1 ∨ k = 2 ∨ k = 3 then insL out t else out).length ≤ out.length + 1 := by
      have := (ins_len out t).2
      split <;> omega
    omega
theorem argsW_len (out : List ByteArray) : ∀ ws : List Wy, (argsWs out ws).length ≤ out.length + manyWs ws
  | [] => by rw [argsWs]; omega
  | .mk _ _ _ ps :: l => by
    rw [argsWs, manyWs]
    have h1 := argsW_len (argsPs out ps) l
    have h2 := args_len out ps
    omega
end
end Mh
namespace Go.Proofs.YtdolpehcfifecaaDoor
open Go.RowKit Mh
set_option linter.unusedVariables false
theorem gwritePieces_any (W0 : World) (ht : Tab10 W0) : ∀ (M : Nat) (ps : List Pc), SizeOf.sizeOf ps < M → WpC W0 ps := by
  intro M
  induction M with
  | zero => intro ps h; omega
  | succ M ih =>
    intro ps h
    exact gwritePieces_step W0 ps fun kd tx ws pv hs hws => gwriteWays_step W0 ht kd tx ws pv hws fun qs hq => ih qs (by omega)
set_option maxRecDepth 100000 in
set_option maxHeartbeats 16000000 in
theorem gargs_any (W0 : World) : ∀ (M : Nat) (ps : List Pc), SizeOf.sizeOf ps < M → ∀ (pv : Value), PsIn W0 pv ps → ∀ (l : List ByteArray) (ov : Value) (w : World), Below W0.heap.size W0 w → w.ownsRow W0.heap.size 9 1 ov l.length (l.map Value.string) → l.length + manyPs ps ≤ 900000000 →
    Calls Tryd.prog 16 #[ov, pv] w fun e w' => ∃ v', e = .returned v' ∧ SAt 9 W0.heap.size w ov (argsPs l ps) w' v' := by
  intro M
  induction M with
  | zero => intro X h; omega
  | succ M ih =>
    intro ps hX pv hps l ov w hb ho hl
    obtain ⟨va, vc, hv⟩ := ownsRow_form ho
    obtain ⟨ao, c, rfl, hlen, hk⟩ := hps.item
    have HK := Lib.hid hk
    unfold maxLen at hlen
    have HIH : Hid (∀ qs : List Pc, SizeOf.sizeOf qs < SizeOf.sizeOf ps → ∀ (pv : Value), PsIn W0 pv qs → ∀ (l : List ByteArray) (ov : Value) (w : World), Below W0.heap.size W0 w → w.ownsRow W0.heap.size 9 1 ov l.length (l.map Value.string) → l.length + manyPs qs ≤ 900000000 →
        Calls Tryd.prog 16 #[ov, pv] w fun e w' => ∃ v', e = .returned v' ∧ SAt 9 W0.heap.size w ov (argsPs l qs) w' v') := fun qs hq => ih qs (by omega)
    have HLT := Lib.hid (fun k hk => (ho.lt k hk).1)
    have HB0 := Lib.hid hb
    have H1 := Lib.hid (SAt.refl ho)
    obtain ⟨T, hT⟩ : ∃ T, T = argsPs l ps := ⟨_, rfl⟩
    have HT := Lib.hid hT
    have HL0 := Lib.hid hl
    rw [← hT]
    subst hv
    clear hb ho hl hps hk hT ih hX
    go_enter Tryd.func16, Tryd.ntmps16
    go_wp2_with fail
    go_loopw [0, 11] (fun v i wr => ∃ (k : Nat) (L : List ByteArray), k ≤ ps.length ∧ i = .int .i64 k ∧ Hid (argsPs L (ps.drop k) = T) ∧ Hid (L.length + manyPs (ps.drop k) ≤ 900000000) ∧ Hid (SAt 9 W0.heap.size w (.slice va l.length vc) L wr v)) (fun _ i _ => ps.length - (intOf i).toNat)
    case atStart => exact ⟨0, l, by omega, rfl, by show _ = _; rw [List.drop_zero, HT.out], by show _ ≤ _; rw [List.drop_zero]; exact HL0.out, H1⟩
    case round =>
      clear H1
      obtain ⟨k, L, hk, rfl, HI, HLE, HR⟩ := hrel
      obtain ⟨ua, uc, hu⟩ := ownsRow_form HR.out.own
      subst hu
      by_cases hkl : k < ps.length
      · obtain ⟨kd, tx, ws, b, off, xa, xc, rfl, hlt, hdr, hsz, hws, htx, _, hcc⟩ := HK.out k hkl
        have HLOW := Lib.hid (HR.out.low HB0.out HLT.out)
        obtain ⟨c0, c1, c2⟩ := hcc.later HLOW.out hlt
        have hI := HI.out
        have hle := HLE.out
        rw [hdr] at hI hle
        rw [argsPs] at hI
        rw [manyPs] at hle
        obtain ⟨hwl, hwk⟩ := ws_item hws
        have HWK := Lib.hid hwk
        unfold maxLen at hwl
        obtain ⟨W1, hW1⟩ : ∃ W1, W1 = wr.alloc (.cells #[.int .i64 kd, .string tx, .slice xa ws.length xc] 66) := ⟨_, rfl⟩
        have hb1 : Below wr.heap.size wr W1 := by rw [hW1]; exact (Below.refl _ wr).alloc (Nat.le_refl _) _
        have hbx : W1.heap[wr.heap.size]? = some (.cells #[.int .i64 kd, .string tx, .slice xa ws.length xc] 66 (0, 0)) := by rw [hW1]; exact heap_alloc_new _ _
        have HBX := Lib.hid hbx
        obtain ⟨x0, x1, x2, x3⟩ := three_of_block hbx
        have H2 := Lib.hid (HR.out.below hb1)
        have HNE : Hid ((Value.slice ua L.length uc).ownBlock ≠ some wr.heap.size) := fun e => absurd (HR.out.own.lt _ e).2 (Nat.lt_irrefl _)
        have HZ1 : Hid (W0.heap.size ≤ W1.heap.size) := (HLOW.out.trans (hb1.mono HLOW.out.size)).size
        obtain ⟨b1, hb1'⟩ : ∃ b1, b1 = decide (kd = 1) := ⟨_, rfl⟩
        obtain ⟨b2, hb2'⟩ : ∃ b2, b2 = decide (kd = 2) := ⟨_, rfl⟩
        obtain ⟨b3, hb3'⟩ : ∃ b3, b3 = decide (kd = 3) := ⟨_, rfl⟩
        have q1 : (kd == 1) = b1 := by rw [hb1', Bool.eq_iff_iff]; simp
        have q2 : (kd == 2) = b2 := by rw [hb2', Bool.eq_iff_iff]; simp
        have q3 : (kd == 3) = b3 := by rw [hb3', Bool.eq_iff_iff]; simp
        have hbb : (kd = 1 ∨ kd = 2 ∨ kd = 3) ↔ (b1 || (b2 || b3)) = true := by rw [hb1', hb2', hb3']; simp
        obtain ⟨L1, hL1⟩ : ∃ L1, L1 = (if kd = 1 ∨ kd = 2 ∨ kd = 3 then insL L tx else L) := ⟨_, rfl⟩
        rw [← hL1] at hI
        obtain ⟨bb, hbbe⟩ : ∃ bb, bb = (b1 || (b2 || b3)) := ⟨_, rfl⟩
        rw [← hbbe] at hbb
        have HL1 : Hid (bb = true → insL L tx = L1) := fun h => by rw [hL1, if_pos (hbb.2 h)]
        have HL10 : Hid (bb = false → L1 = L) := fun h => by rw [hL1, if_neg (fun g => by have := hbb.1 g; rw [h] at this; cases this)]
        have hlen1 : L1.length ≤ L.length + 1 := by have := (ins_len L tx).2; rw [hL1]; split <;> omega
        have HLE1 : Hid (L1.length + manyWs (ws.drop 0) + manyPs (ps.drop (k + 1)) ≤ 900000000) := by show _ ≤ _; rw [List.drop_zero]; omega
        have hLL : L.length + 1 ≤ 1000000000 := by omega
        have HI1 : Hid (argsPs (argsWs L1 (ws.drop 0)) (ps.drop (k + 1)) = T) := by show _ = _; rw [List.drop_zero]; exact hI
        have HBBE := Lib.hid hbbe
        have HLL := Lib.hid hLL
        have HSZ := Lib.hid hsz
        clear hI hle hcc hws hlt hsz hbx hdr htx hb1 hb1' hb2' hb3' hbb hL1 hbbe hlen1 hLL HI HLE hwk
        go_upto_region 4 with fail
        rw [← hW1]
        clear hW1 c0 c1 c2
        obtain ⟨g, hg⟩ : ∃ g : Nat, g = wr.heap.size := ⟨_, rfl⟩
        rw [← hg] at x0 x1 x2 x3 HBX HNE ⊢
        clear hg
        go_cut [27] from 15 to 27 (fun v wx => v = .bool bb ∧ W1 = wx)
        case first =>
          cases b1 <;> cases b2 <;> cases b3
          all_goals
            go_wp2_with fail
            go_meet
            exact ⟨by rw [HBBE.out]; rfl, rfl⟩
        case rest =>
        obtain ⟨rfl, rfl⟩ := hcut
        rename_i hk
        refine hk _ _ ?_
        clear hk
        go_cut [0] from 28 to 31 (fun v wy => ∃ (wn : World) (a3 : Option Addr) (c3 : Nat), wn = wy ∧ v = .slice a3 L1.length c3 ∧ Hid (SAt 9 W0.heap.size w (.slice va l.length vc) L1 wn (.slice a3 L1.length c3)) ∧ Hid (wn.heap[g]? = some (.cells #[.int .i64 kd, .string tx, .slice xa ws.length xc] 66 (0, 0))))
        case first =>
          cases bb with
          | true =>
            have HE := Lib.hid (HL1.out rfl)
            have HCI := Lib.hid (ginsert_any W0.heap.size L tx (.slice ua L.length uc) W1 HZ1.out H2.out.own HLL.out)
            go_wp2_with (go_at_call 35; refine HCI.out.mono ?_; rintro e w3 ⟨v3, rfl, h3⟩; rw [HE.out] at h3; obtain ⟨a3, c3, rfl⟩ := ownsRow_form h3.own; have H3 := Lib.hid (H2.out.trans h3); have HB3 := Lib.hid (h3.block HBX.out HNE.out).1; clear h3)
            go_meet
            exact ⟨_, _, _, rfl, rfl, H3, HB3⟩
          | false =>
            have HE := Lib.hid (HL10.out rfl)
            go_wp2_with fail
            go_meet
            exact ⟨_, ua, uc, rfl, by rw [HE.out], by rw [HE.out]; exact H2, HBX⟩
        case rest =>
        clear H2 x0 x1 x2 x3 HL1 HL10 q1 q2 q3
        obtain ⟨wn, a3, c3, rfl, rfl, H3, HB3⟩ := hcut
        obtain ⟨x0, x1, x2, x3⟩ := three_of_block HB3.out
        rename_i hk K2
        refine hk _ _ ?_
        clear hk
        go_wp2_with fail
        clear x0 x1 x2 x3
        go_loopw [0, 35] (fun v i wr => ∃ (j : Nat) (L2 : List ByteArray), j ≤ ws.length ∧ i = .int .i64 j ∧ Hid (argsPs (argsWs L2 (ws.drop j)) (ps.drop (k + 1)) = T) ∧ Hid (L2.length + manyWs (ws.drop j) + manyPs (ps.drop (k + 1)) ≤ 900000000) ∧ Hid (SAt 9 W0.heap.size w (.slice va l.length vc) L2 wr v)) (fun _ i _ => ws.length - (intOf i).toNat)
        case atStart => exact ⟨0, L1, by omega, rfl, HI1, HLE1, H3⟩
        case round =>
          clear HI1 HLE1 H3 HB3
          obtain ⟨j, L2, hj, rfl, HJ, HLJ, HR2⟩ := hrel
          obtain ⟨ya2, yc2, hu⟩ := ownsRow_form HR2.out.own
          subst hu
          by_cases hjl : j < ws.length
          · obtain ⟨wd, ex, fm, qs, b4, off2, ya, yc, rfl, hlt2, hdw, hsz2, hps, _, _, _, hcc2⟩ := HWK.out j hjl
            have HLOW2 := Lib.hid (HR2.out.low HB0.out HLT.out)
            obtain ⟨d0, d1, d2, d3⟩ := hcc2.later HLOW2.out hlt2
            have hJ := HJ.out
            have hlj := HLJ.out
            rw [hdw] at hJ hlj
            rw [argsWs] at hJ
            rw [manyWs] at hlj
            have hb4 : Below wr.heap.size wr (wr.alloc (.cells #[.string wd, .int .i64 ex, .int .i64 fm, .slice ya qs.length yc] 73)) := (Below.refl _ wr).alloc (Nat.le_refl _) _
            have H4 := Lib.hid (HR2.out.below hb4)
            have HCALL := Lib.hid (HIH.out qs (by have := HSZ.out; omega) _ hps L2 _ _ (HLOW2.out.trans (hb4.mono HLOW2.out.size)) H4.out.own (by omega))
            have hal := args_len L2 qs
            obtain ⟨L3, hL3⟩ : ∃ L3, L3 = argsPs L2 qs := ⟨_, rfl⟩
            rw [← hL3] at hJ HCALL hal
            have HJ3 := Lib.hid hJ
            have HLJ3 : Hid (L3.length + manyWs (ws.drop (j + 1)) + manyPs (ps.drop (k + 1)) ≤ 900000000) := by show _ ≤ _; omega
            clear hJ hlj HJ HLJ hcc2 hlt2 hdw hsz2 hps hb4 hal hL3
            go_wp2_with fail
            refine HCALL.out.mono ?_
            rintro e w5 ⟨v5, rfl, h5⟩
            obtain ⟨a5, c5, rfl⟩ := ownsRow_form h5.own
            have H5 := Lib.hid (H4.out.trans h5)
            clear h5
            go_wp2_with fail
            go_roundw
            case rel => exact ⟨j + 1, L3, by omega, by first | rfl | go_num, HJ3, HLJ3, H5⟩
            case measure => first | (simp [intOf]; omega) | go_num
          · have HI2 : Hid (argsPs L2 (ps.drop (k + 1)) = T) := by
              have := HJ.out
              rw [List.drop_eq_nil_of_le (by omega), argsWs] at this
              exact this
            have HLE2 : Hid (L2.length + manyPs (ps.drop (k + 1)) ≤ 900000000) := by
              have := HLJ.out
              rw [List.drop_eq_nil_of_le (by omega), manyWs] at this
              exact this
            go_wp2_with fail
            go_roundw
            case rel => exact ⟨k + 1, L2, by omega, by first | rfl | go_num, HI2, HLE2, HR2⟩
            case measure => first | (simp [intOf]; omega) | go_num
      · have HF : Hid (L = T) := by
          have := HI.out
          rw [List.drop_eq_nil_of_le (by omega), argsPs] at this
          exact this
        go_wp2_with fail
        go_ret
        exact ⟨_, rfl, by rw [← HF.out]; exact HR.out⟩
end Go.Proofs.YtdolpehcfifecaaDoor
