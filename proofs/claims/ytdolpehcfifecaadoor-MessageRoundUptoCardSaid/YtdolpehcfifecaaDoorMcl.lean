/- lang.piecesForm. Conditions: none but where the pieces lie. -/
import Derived.Test.YtdolpehcfifecaaDoorMck
namespace Go.Proofs.YtdolpehcfifecaaDoor
open Go.RowKit Mh
set_option linter.unusedVariables false
set_option maxRecDepth 100000 in
set_option maxHeartbeats 8000000 in
theorem gform_any : ∀ (M : Nat) (ps : List Pc), SizeOf.sizeOf ps < M → ∀ (cnt : Bool) (v : Value) (w : World), PsIn w v ps →
    Calls Tryd.prog 23 #[v, .bool cnt] w fun e w' => e = .returned (.bool (formsPs cnt false ps)) ∧ Below w.heap.size w w' := by
  intro M
  induction M with
  | zero => intro X h; omega
  | succ M ih =>
    intro ps hX cnt v w h
    obtain ⟨ao, c, rfl, hlen, hk⟩ := h.item
    have HK := Lib.hid hk
    unfold maxLen at hlen
    have HIH : Hid (∀ qs : List Pc, SizeOf.sizeOf qs < SizeOf.sizeOf ps → ∀ (cnt : Bool) (v : Value) (w : World), PsIn w v qs → Calls Tryd.prog 23 #[v, .bool cnt] w fun e w' => e = .returned (.bool (formsPs cnt false qs)) ∧ Below w.heap.size w w') := by
      intro qs hq
      exact ih _ (by omega)
    obtain ⟨R, hR⟩ : ∃ R, R = formsPs cnt false ps := ⟨_, rfl⟩
    rw [← hR]
    have HR := Lib.hid hR
    have HB0 : Hid (Below w.heap.size w w) := Below.refl _ _
    clear h hk ih hX hR
    go_enter Tryd.func23, Tryd.ntmps23
    go_wp2_with fail
    go_loopw [11] (fun i wr => ∃ (k : Nat) (pb : Bool), k ≤ ps.length ∧ i = .int .i64 k ∧ Hid (R = formsPs cnt pb (ps.drop k)) ∧ Hid ((pb = true → 0 < k) ∧ ∀ kd tx ws, 0 < k → ps.drop (k - 1) = .mk kd tx ws :: ps.drop k → pb = decide (kd = 0)) ∧ Hid (Below w.heap.size w wr)) (fun i _ => ps.length - (intOf i).toNat)
    case atStart => exact ⟨0, false, by omega, rfl, by show _ = _; rw [List.drop_zero, HR.out], ⟨fun h => (by cases h), fun _ _ _ h => (by omega)⟩, HB0⟩
    case round =>
      obtain ⟨k, pb, hk, rfl, HI, HP, HB⟩ := hrel
      by_cases hkl : k < ps.length
      · have hprev : 0 < k → ∃ (k1 : Nat) (kd' : Int) (b off : Nat), (k : Int) - 1 = (k1 : Int) ∧ k1 + 1 = k ∧ k1 < ps.length ∧ ao = some ⟨b, off, none⟩ ∧ wr.cell? ⟨b, off + k1 * 3, none⟩ = some (.int .i64 kd') ∧ pb = decide (kd' = 0) := by
          intro h0
          obtain ⟨kd, tx, ws, b, off, xa, xc, e, hlt, hdr, _, _, _, _, hcc⟩ := HK.out (k - 1) (by omega)
          rw [show k - 1 + 1 = k by omega] at hdr
          exact ⟨k - 1, kd, b, off, by omega, by omega, by omega, e, (hcc.later HB.out hlt).1, HP.out.2 kd tx ws h0 hdr⟩
        obtain ⟨kd, tx, ws, b, off, xa, xc, rfl, hlt, hdr, hsz, hws, htx, _, hcc⟩ := HK.out k hkl
        obtain ⟨c0, c1, c2⟩ := hcc.later HB.out hlt
        have hI := HI.out
        have HDR := Lib.hid hdr
        rw [hdr, formsPs, formsP] at hI
        obtain ⟨hwl, hwk⟩ := ws_item hws
        have HWK := Lib.hid hwk
        unfold maxLen at hwl
        have HSZ := Lib.hid hsz
        obtain ⟨W1, hW1⟩ : ∃ W1, W1 = wr.alloc (.cells #[.int .i64 kd, .string tx, .slice xa ws.length xc] 66) := ⟨_, rfl⟩
        have hB1 : Below wr.heap.size wr W1 := by rw [hW1]; exact (Below.refl _ wr).alloc (Nat.le_refl _) _
        have HBn : Hid (Below w.heap.size w W1) := HB.out.trans (hB1.mono HB.out.size)
        have hbx : W1.heap[wr.heap.size]? = some (.cells #[.int .i64 kd, .string tx, .slice xa ws.length xc] 66 (0, 0)) := by rw [hW1]; exact heap_alloc_new _ _
        have HBX := Lib.hid hbx
        have HZ1 : Hid (W1.heap.size = wr.heap.size + 1 ∧ w.heap.size ≤ wr.heap.size) := ⟨by rw [hW1]; simp, HB.out.size⟩
        obtain ⟨y0, y1, y2, y3⟩ := three_of_block hbx
        have HPF := Lib.hid (gpieceForm_any kd tx ws xa xc cnt w W1 HBn.out hws htx)
        obtain ⟨pf, hpf⟩ : ∃ pf, pf = pieceFm cnt (.mk kd tx ws) := ⟨_, rfl⟩
        rw [← hpf] at hI HPF
        obtain ⟨rest, hrest⟩ : ∃ rest, rest = formsPs cnt (decide (kd = 0)) (ps.drop (k + 1)) := ⟨_, rfl⟩
        change R = (pf && formsWs (cnt || decide (kd = 3)) ws && !(pb && decide (kd = 0)) && formsPs cnt (decide (kd = 0)) (ps.drop (k + 1))) at hI
        rw [← hrest] at hI
        have HRE := Lib.hid hrest
        have HI1 := Lib.hid hI
        have hprev2 : 0 < k → ∃ (k1 : Nat) (kd' : Int), (k : Int) - 1 = (k1 : Int) ∧ k1 + 1 = k ∧ k1 < ps.length ∧ W1.cell? ⟨b, off + k1 * 3, none⟩ = some (.int .i64 kd') ∧ pb = decide (kd' = 0) := by
          intro h0
          obtain ⟨k1, kd', b', off', g1, g2, g3, g4, g5, g6⟩ := hprev h0
          injection g4 with g4
          injection g4 with g4 g5'
          subst g4 g5'
          exact ⟨k1, kd', g1, g2, g3, (hB1.cell (p := ⟨_, _, none⟩) (by have := HB.out.size; show b < _; omega)).trans g5, g6⟩
        have HPREV := Lib.hid hprev2
        have hltb : b < W1.heap.size := by rw [HZ1.out.1]; have := HB.out.size; omega
        have HLTB := Lib.hid hltb
        clear hI HI hcc hws hwk hlt hsz hrest hbx hprev hprev2 hdr hpf hB1 hltb htx
        go_upto_region 4 with fail
        rw [← hW1]
        clear hW1 c0 c1 c2 HB
        obtain ⟨g, hg⟩ : ∃ g : Nat, g = wr.heap.size := ⟨_, rfl⟩
        rw [← hg] at y0 y1 y2 y3 HZ1 HBX ⊢
        clear hg
        cases pf with
        | false =>
          have HF : Hid (R = false) := HI1.out
          clear HI1 HPREV
          go_wp2_with (go_at_call 45; refine HPF.out.mono ?_; rintro e w2 ⟨rfl, hb2⟩; have HB2 : Hid (Below w.heap.size w w2 ∧ Below W1.heap.size W1 w2) := ⟨HBn.out.trans (hb2.mono HBn.out.size), hb2⟩; have hbx2 := (hb2.block g (by have := HZ1.out.1; omega)).trans HBX.out; have HBX2 := Lib.hid hbx2; obtain ⟨z0, z1, z2, z3⟩ := three_of_block hbx2; clear hbx2 hb2 y0 y1 y2 y3)
          go_ret
          exact ⟨by rw [HF.out]; rfl, HB2.out.1⟩
        | true =>
          have hI2 := HI1.out
          rw [Bool.true_and] at hI2
          -- two plain pieces in a row
          by_cases hpp : pb = true ∧ kd = 0
          · obtain ⟨hpb, rfl⟩ := hpp
            have hk0 := HP.out.1 hpb
            obtain ⟨k1, kd', hk1, _, hk1l, hck, hpe⟩ := HPREV.out hk0
            have hkz : (kd' == 0) = true := by rw [hpb] at hpe; rw [beq_iff_eq]; exact of_decide_eq_true hpe.symm
            have HF : Hid (R = false) := by show _ = _; rw [hI2, hpb]; simp
            have q0 : decide ((0 : Int) < (k : Int)) = true := decide_eq_true (by omega)
            have q0n : decide (0 < k) = true := decide_eq_true hk0
            have hk1i : (0 : Int) ≤ (k1 : Int) := by omega
            have hltb := HLTB.out
            have HCK := Lib.hid hck
            clear hI2 HI1 HPREV hpe hck hpb
            go_wp2_with (go_at_call 45; refine HPF.out.mono ?_; rintro e w2 ⟨rfl, hb2⟩; have HB2 : Hid (Below w.heap.size w w2 ∧ Below W1.heap.size W1 w2) := ⟨HBn.out.trans (hb2.mono HBn.out.size), hb2⟩; have hbx2 := (hb2.block g (by have := HZ1.out.1; omega)).trans HBX.out; have HBX2 := Lib.hid hbx2; obtain ⟨z0, z1, z2, z3⟩ := three_of_block hbx2; clear hbx2 hb2 y0 y1 y2 y3; have hck2 := (HB2.out.2.cell (p := ⟨b, _, none⟩) HLTB.out).trans HCK.out)
            go_ret
            exact ⟨by rw [HF.out]; rfl, HB2.out.1⟩
          · have HGO : Hid (R = (formsWs (cnt || decide (kd = 3)) (ws.drop 0) && rest)) := by
              show _ = _
              rw [hI2, List.drop_zero, show (!(pb && decide (kd = 0))) = true by rw [Bool.not_eq_true', Bool.and_eq_false_iff, decide_eq_false_iff_not]; by_cases h : pb = true; exact .inr fun h2 => hpp ⟨h, h2⟩; exact .inl (by simpa using h), Bool.and_true]
            clear hI2 HI1
            have hways : (decide (0 < k) = false ∧ decide ((0 : Int) < (k : Int)) = false) ∨ (0 < k ∧ decide (0 < k) = true ∧ decide ((0 : Int) < (k : Int)) = true ∧ (kd == 0) = false) ∨ (0 < k ∧ decide (0 < k) = true ∧ decide ((0 : Int) < (k : Int)) = true ∧ (kd == 0) = true ∧ pb = false) := by
              by_cases h0 : 0 < k
              · by_cases hz : kd = 0
                · exact .inr (.inr ⟨h0, decide_eq_true h0, decide_eq_true (by omega), by rw [beq_iff_eq]; exact hz, by have := fun h => hpp ⟨h, hz⟩; simpa using this⟩)
                · exact .inr (.inl ⟨h0, decide_eq_true h0, decide_eq_true (by omega), by rw [beq_eq_false_iff_ne]; exact hz⟩)
              · exact .inl ⟨decide_eq_false h0, decide_eq_false (by omega)⟩
            clear hpp
            have q3 : (kd == 3) = decide (kd = 3) := by rw [Bool.eq_iff_iff]; simp
            obtain ⟨b3, hb3⟩ : ∃ b3, b3 = decide (kd = 3) := ⟨_, rfl⟩
            rw [← hb3] at q3 HGO
            clear hb3
            rcases hways with ⟨q0n, q0⟩ | ⟨hk0, q0n, q0, hz⟩ | ⟨hk0, q0n, q0, hz, hpb⟩
            · clear HPREV
              go_wp2_with (go_at_call 45; refine HPF.out.mono ?_; rintro e w2 ⟨rfl, hb2⟩; have HB2 : Hid (Below w.heap.size w w2 ∧ Below W1.heap.size W1 w2) := ⟨HBn.out.trans (hb2.mono HBn.out.size), hb2⟩; have hbx2 := (hb2.block g (by have := HZ1.out.1; omega)).trans HBX.out; have HBX2 := Lib.hid hbx2; obtain ⟨z0, z1, z2, z3⟩ := three_of_block hbx2; clear hbx2 hb2 y0 y1 y2 y3)
              clear z0 z1 z2 z3
              go_loopw [41] (fun i wr => ∃ (j : Nat), j ≤ ws.length ∧ i = .int .i64 j ∧ Hid (R = (formsWs (cnt || b3) (ws.drop j) && rest)) ∧ Hid (Below w.heap.size w wr ∧ Below W1.heap.size W1 wr)) (fun i _ => ws.length - (intOf i).toNat)
              case atStart => exact ⟨0, by omega, rfl, HGO, HB2⟩
              case round =>
                obtain ⟨j, hj, rfl, HJ, HB3⟩ := hrel
                clear HGO
                by_cases hjl : j < ws.length
                · obtain ⟨wd, ex, fm, qs, b4, off2, ya, yc, rfl, hlt2, hdw, hsz2, hps, _, _, _, hcc2⟩ := HWK.out j hjl
                  obtain ⟨d0, d1, d2, d3⟩ := hcc2.later HB3.out.1 hlt2
                  have hJ := HJ.out
                  rw [hdw, formsWs] at hJ
                  obtain ⟨x0, x1, x2, x3⟩ := three_of_block ((HB3.out.2.block g (by have := HZ1.out.1; omega)).trans HBX.out)
                  have hgl : g < wr.heap.size := by have := HB3.out.2.size; have := HZ1.out.1; omega
                  have hne1 : wr.heap.size ≠ g := by omega
                  have hne2 : g ≠ wr.heap.size := by omega
                  have HBa : Hid (Below w.heap.size w (wr.alloc (.cells #[.string wd, .int .i64 ex, .int .i64 fm, .slice ya qs.length yc] 73)) ∧ Below W1.heap.size W1 (wr.alloc (.cells #[.string wd, .int .i64 ex, .int .i64 fm, .slice ya qs.length yc] 73))) := ⟨HB3.out.1.alloc HB3.out.1.size _, HB3.out.2.alloc HB3.out.2.size _⟩
                  have HCALL := Lib.hid (HIH.out qs (by have := HSZ.out; omega) (cnt || b3) _ _ (hps.keep HBa.out.1))
                  obtain ⟨t, ht⟩ : ∃ t, t = formsPs (cnt || b3) false qs := ⟨_, rfl⟩
                  rw [← ht] at hJ HCALL
                  have HJ2 := Lib.hid hJ
                  clear hJ HJ hcc2 hps ht hlt2 hdw hsz2
                  obtain ⟨rest2, hrest2⟩ : ∃ rest2, rest2 = formsWs (cnt || b3) (ws.drop (j + 1)) := ⟨_, rfl⟩
                  rw [← hrest2] at HJ2
                  have HR2 := Lib.hid hrest2
                  clear hrest2
                  have hor : ∀ q : Bool, q = (cnt || b3) → (cnt = true → q = true) ∧ (cnt = false → q = b3) := by intro q hq; subst hq; cases cnt <;> simp
                  obtain ⟨q, hq⟩ : ∃ q, q = (cnt || b3) := ⟨_, rfl⟩
                  obtain ⟨o1, o2⟩ := hor q hq
                  rw [← hq] at HCALL HR2
                  have HQ := Lib.hid hq
                  clear hor hq
                  cases cnt
                  · have e := o2 rfl
                    rw [e] at HCALL HR2 HQ
                    clear o1 o2
                    go_wp2_with fail
                    refine HCALL.out.mono ?_
                    rintro e w4 ⟨rfl, hb4⟩
                    have HB5 : Hid (Below w.heap.size w w4 ∧ Below W1.heap.size W1 w4) := ⟨HBa.out.1.trans (hb4.mono HBa.out.1.size), HBa.out.2.trans (hb4.mono HBa.out.2.size)⟩
                    clear hb4 d0 d1 d2 d3 x0 x1 x2 x3
                    cases t with
                    | false =>
                      have HF : Hid (R = false) := HJ2.out
                      go_wp2_with fail
                      go_ret
                      exact ⟨by rw [HF.out]; rfl, HB5.out.1⟩
                    | true =>
                      have HJ3 : Hid (R = (formsWs (false || b3) (ws.drop (j + 1)) && rest)) := by show _ = _; rw [HJ2.out, HR2.out, ← HQ.out]; rfl
                      go_wp2_with fail
                      go_roundw
                      case rel => exact ⟨j + 1, by omega, by go_num, HJ3, HB5⟩
                      case measure => simp [intOf]; omega
                  · have e := o1 rfl
                    rw [e] at HCALL HR2 HQ
                    clear o1 o2
                    go_wp2_with fail
                    refine HCALL.out.mono ?_
                    rintro e w4 ⟨rfl, hb4⟩
                    have HB5 : Hid (Below w.heap.size w w4 ∧ Below W1.heap.size W1 w4) := ⟨HBa.out.1.trans (hb4.mono HBa.out.1.size), HBa.out.2.trans (hb4.mono HBa.out.2.size)⟩
                    clear hb4 d0 d1 d2 d3 x0 x1 x2 x3
                    cases t with
                    | false =>
                      have HF : Hid (R = false) := HJ2.out
                      go_wp2_with fail
                      go_ret
                      exact ⟨by rw [HF.out]; rfl, HB5.out.1⟩
                    | true =>
                      have HJ3 : Hid (R = (formsWs (true || b3) (ws.drop (j + 1)) && rest)) := by show _ = _; rw [HJ2.out, HR2.out, ← HQ.out]; rfl
                      go_wp2_with fail
                      go_roundw
                      case rel => exact ⟨j + 1, by omega, by go_num, HJ3, HB5⟩
                      case measure => simp [intOf]; omega
                · have HI2 : Hid (R = formsPs cnt (decide (kd = 0)) (ps.drop (k + 1))) := by
                    have := HJ.out
                    rw [List.drop_eq_nil_of_le (by omega), formsWs, Bool.true_and] at this
                    show _ = _
                    rw [this, HRE.out]
                  have HP2 : Hid ((decide (kd = 0) = true → 0 < k + 1) ∧ ∀ kd2 tx2 ws2, 0 < k + 1 → ps.drop (k + 1 - 1) = .mk kd2 tx2 ws2 :: ps.drop (k + 1) → decide (kd = 0) = decide (kd2 = 0)) := by
                    refine ⟨fun _ => Nat.succ_pos _, fun kd2 tx2 ws2 _ h => ?_⟩
                    have h2 := HDR.out
                    rw [show k + 1 - 1 = k by omega, h2] at h
                    injection h with h _
                    injection h with h _ _
                    rw [h]
                  generalize decide (kd = 0) = pb2 at HI2 HP2
                  go_wp2_with fail
                  go_roundw
                  case rel => exact ⟨k + 1, pb2, by omega, by go_num, HI2, HP2, HB3.out.1⟩
                  case measure => simp [intOf]; omega
            · clear HPREV hk0
              go_wp2_with (go_at_call 45; refine HPF.out.mono ?_; rintro e w2 ⟨rfl, hb2⟩; have HB2 : Hid (Below w.heap.size w w2 ∧ Below W1.heap.size W1 w2) := ⟨HBn.out.trans (hb2.mono HBn.out.size), hb2⟩; have hbx2 := (hb2.block g (by have := HZ1.out.1; omega)).trans HBX.out; have HBX2 := Lib.hid hbx2; obtain ⟨z0, z1, z2, z3⟩ := three_of_block hbx2; clear hbx2 hb2 y0 y1 y2 y3)
              clear z0 z1 z2 z3
              go_loopw [41] (fun i wr => ∃ (j : Nat), j ≤ ws.length ∧ i = .int .i64 j ∧ Hid (R = (formsWs (cnt || b3) (ws.drop j) && rest)) ∧ Hid (Below w.heap.size w wr ∧ Below W1.heap.size W1 wr)) (fun i _ => ws.length - (intOf i).toNat)
              case atStart => exact ⟨0, by omega, rfl, HGO, HB2⟩
              case round =>
                obtain ⟨j, hj, rfl, HJ, HB3⟩ := hrel
                clear HGO
                by_cases hjl : j < ws.length
                · obtain ⟨wd, ex, fm, qs, b4, off2, ya, yc, rfl, hlt2, hdw, hsz2, hps, _, _, _, hcc2⟩ := HWK.out j hjl
                  obtain ⟨d0, d1, d2, d3⟩ := hcc2.later HB3.out.1 hlt2
                  have hJ := HJ.out
                  rw [hdw, formsWs] at hJ
                  obtain ⟨x0, x1, x2, x3⟩ := three_of_block ((HB3.out.2.block g (by have := HZ1.out.1; omega)).trans HBX.out)
                  have hgl : g < wr.heap.size := by have := HB3.out.2.size; have := HZ1.out.1; omega
                  have hne1 : wr.heap.size ≠ g := by omega
                  have hne2 : g ≠ wr.heap.size := by omega
                  have HBa : Hid (Below w.heap.size w (wr.alloc (.cells #[.string wd, .int .i64 ex, .int .i64 fm, .slice ya qs.length yc] 73)) ∧ Below W1.heap.size W1 (wr.alloc (.cells #[.string wd, .int .i64 ex, .int .i64 fm, .slice ya qs.length yc] 73))) := ⟨HB3.out.1.alloc HB3.out.1.size _, HB3.out.2.alloc HB3.out.2.size _⟩
                  have HCALL := Lib.hid (HIH.out qs (by have := HSZ.out; omega) (cnt || b3) _ _ (hps.keep HBa.out.1))
                  obtain ⟨t, ht⟩ : ∃ t, t = formsPs (cnt || b3) false qs := ⟨_, rfl⟩
                  rw [← ht] at hJ HCALL
                  have HJ2 := Lib.hid hJ
                  clear hJ HJ hcc2 hps ht hlt2 hdw hsz2
                  obtain ⟨rest2, hrest2⟩ : ∃ rest2, rest2 = formsWs (cnt || b3) (ws.drop (j + 1)) := ⟨_, rfl⟩
                  rw [← hrest2] at HJ2
                  have HR2 := Lib.hid hrest2
                  clear hrest2
                  have hor : ∀ q : Bool, q = (cnt || b3) → (cnt = true → q = true) ∧ (cnt = false → q = b3) := by intro q hq; subst hq; cases cnt <;> simp
                  obtain ⟨q, hq⟩ : ∃ q, q = (cnt || b3) := ⟨_, rfl⟩
                  obtain ⟨o1, o2⟩ := hor q hq
                  rw [← hq] at HCALL HR2
                  have HQ := Lib.hid hq
                  clear hor hq
                  cases cnt
                  · have e := o2 rfl
                    rw [e] at HCALL HR2 HQ
                    clear o1 o2
                    go_wp2_with fail
                    refine HCALL.out.mono ?_
                    rintro e w4 ⟨rfl, hb4⟩
                    have HB5 : Hid (Below w.heap.size w w4 ∧ Below W1.heap.size W1 w4) := ⟨HBa.out.1.trans (hb4.mono HBa.out.1.size), HBa.out.2.trans (hb4.mono HBa.out.2.size)⟩
                    clear hb4 d0 d1 d2 d3 x0 x1 x2 x3
                    cases t with
                    | false =>
                      have HF : Hid (R = false) := HJ2.out
                      go_wp2_with fail
                      go_ret
                      exact ⟨by rw [HF.out]; rfl, HB5.out.1⟩
                    | true =>
                      have HJ3 : Hid (R = (formsWs (false || b3) (ws.drop (j + 1)) && rest)) := by show _ = _; rw [HJ2.out, HR2.out, ← HQ.out]; rfl
                      go_wp2_with fail
                      go_roundw
                      case rel => exact ⟨j + 1, by omega, by go_num, HJ3, HB5⟩
                      case measure => simp [intOf]; omega
                  · have e := o1 rfl
                    rw [e] at HCALL HR2 HQ
                    clear o1 o2
                    go_wp2_with fail
                    refine HCALL.out.mono ?_
                    rintro e w4 ⟨rfl, hb4⟩
                    have HB5 : Hid (Below w.heap.size w w4 ∧ Below W1.heap.size W1 w4) := ⟨HBa.out.1.trans (hb4.mono HBa.out.1.size), HBa.out.2.trans (hb4.mono HBa.out.2.size)⟩
                    clear hb4 d0 d1 d2 d3 x0 x1 x2 x3
                    cases t with
                    | false =>
                      have HF : Hid (R = false) := HJ2.out
                      go_wp2_with fail
                      go_ret
                      exact ⟨by rw [HF.out]; rfl, HB5.out.1⟩
                    | true =>
                      have HJ3 : Hid (R = (formsWs (true || b3) (ws.drop (j + 1)) && rest)) := by show _ = _; rw [HJ2.out, HR2.out, ← HQ.out]; rfl
                      go_wp2_with fail
                      go_roundw
                      case rel => exact ⟨j + 1, by omega, by go_num, HJ3, HB5⟩
                      case measure => simp [intOf]; omega
                · have HI2 : Hid (R = formsPs cnt (decide (kd = 0)) (ps.drop (k + 1))) := by
                    have := HJ.out
                    rw [List.drop_eq_nil_of_le (by omega), formsWs, Bool.true_and] at this
                    show _ = _
                    rw [this, HRE.out]
                  have HP2 : Hid ((decide (kd = 0) = true → 0 < k + 1) ∧ ∀ kd2 tx2 ws2, 0 < k + 1 → ps.drop (k + 1 - 1) = .mk kd2 tx2 ws2 :: ps.drop (k + 1) → decide (kd = 0) = decide (kd2 = 0)) := by
                    refine ⟨fun _ => Nat.succ_pos _, fun kd2 tx2 ws2 _ h => ?_⟩
                    have h2 := HDR.out
                    rw [show k + 1 - 1 = k by omega, h2] at h
                    injection h with h _
                    injection h with h _ _
                    rw [h]
                  generalize decide (kd = 0) = pb2 at HI2 HP2
                  go_wp2_with fail
                  go_roundw
                  case rel => exact ⟨k + 1, pb2, by omega, by go_num, HI2, HP2, HB3.out.1⟩
                  case measure => simp [intOf]; omega
            · obtain ⟨k1, kd', hk1, _, hk1l, hck, hpe⟩ := HPREV.out hk0
              have hkz : (kd' == 0) = false := by rw [hpb] at hpe; rw [beq_eq_false_iff_ne]; exact of_decide_eq_false hpe.symm
              have hk1i : (0 : Int) ≤ (k1 : Int) := by omega
              have HCK := Lib.hid hck
              clear HPREV hpe hck hpb hk0
              go_wp2_with (go_at_call 45; refine HPF.out.mono ?_; rintro e w2 ⟨rfl, hb2⟩; have HB2 : Hid (Below w.heap.size w w2 ∧ Below W1.heap.size W1 w2) := ⟨HBn.out.trans (hb2.mono HBn.out.size), hb2⟩; have hbx2 := (hb2.block g (by have := HZ1.out.1; omega)).trans HBX.out; have HBX2 := Lib.hid hbx2; obtain ⟨z0, z1, z2, z3⟩ := three_of_block hbx2; clear hbx2 hb2 y0 y1 y2 y3; have hck2 := (HB2.out.2.cell (p := ⟨b, _, none⟩) HLTB.out).trans HCK.out)
              clear z0 z1 z2 z3
              go_loopw [41] (fun i wr => ∃ (j : Nat), j ≤ ws.length ∧ i = .int .i64 j ∧ Hid (R = (formsWs (cnt || b3) (ws.drop j) && rest)) ∧ Hid (Below w.heap.size w wr ∧ Below W1.heap.size W1 wr)) (fun i _ => ws.length - (intOf i).toNat)
              case atStart => exact ⟨0, by omega, rfl, HGO, HB2⟩
              case round =>
                obtain ⟨j, hj, rfl, HJ, HB3⟩ := hrel
                clear HGO
                by_cases hjl : j < ws.length
                · obtain ⟨wd, ex, fm, qs, b4, off2, ya, yc, rfl, hlt2, hdw, hsz2, hps, _, _, _, hcc2⟩ := HWK.out j hjl
                  obtain ⟨d0, d1, d2, d3⟩ := hcc2.later HB3.out.1 hlt2
                  have hJ := HJ.out
                  rw [hdw, formsWs] at hJ
                  obtain ⟨x0, x1, x2, x3⟩ := three_of_block ((HB3.out.2.block g (by have := HZ1.out.1; omega)).trans HBX.out)
                  have hgl : g < wr.heap.size := by have := HB3.out.2.size; have := HZ1.out.1; omega
                  have hne1 : wr.heap.size ≠ g := by omega
                  have hne2 : g ≠ wr.heap.size := by omega
                  have HBa : Hid (Below w.heap.size w (wr.alloc (.cells #[.string wd, .int .i64 ex, .int .i64 fm, .slice ya qs.length yc] 73)) ∧ Below W1.heap.size W1 (wr.alloc (.cells #[.string wd, .int .i64 ex, .int .i64 fm, .slice ya qs.length yc] 73))) := ⟨HB3.out.1.alloc HB3.out.1.size _, HB3.out.2.alloc HB3.out.2.size _⟩
                  have HCALL := Lib.hid (HIH.out qs (by have := HSZ.out; omega) (cnt || b3) _ _ (hps.keep HBa.out.1))
                  obtain ⟨t, ht⟩ : ∃ t, t = formsPs (cnt || b3) false qs := ⟨_, rfl⟩
                  rw [← ht] at hJ HCALL
                  have HJ2 := Lib.hid hJ
                  clear hJ HJ hcc2 hps ht hlt2 hdw hsz2
                  obtain ⟨rest2, hrest2⟩ : ∃ rest2, rest2 = formsWs (cnt || b3) (ws.drop (j + 1)) := ⟨_, rfl⟩
                  rw [← hrest2] at HJ2
                  have HR2 := Lib.hid hrest2
                  clear hrest2
                  have hor : ∀ q : Bool, q = (cnt || b3) → (cnt = true → q = true) ∧ (cnt = false → q = b3) := by intro q hq; subst hq; cases cnt <;> simp
                  obtain ⟨q, hq⟩ : ∃ q, q = (cnt || b3) := ⟨_, rfl⟩
                  obtain ⟨o1, o2⟩ := hor q hq
                  rw [← hq] at HCALL HR2
                  have HQ := Lib.hid hq
                  clear hor hq
                  cases cnt
                  · have e := o2 rfl
                    rw [e] at HCALL HR2 HQ
                    clear o1 o2
                    go_wp2_with fail
                    refine HCALL.out.mono ?_
                    rintro e w4 ⟨rfl, hb4⟩
                    have HB5 : Hid (Below w.heap.size w w4 ∧ Below W1.heap.size W1 w4) := ⟨HBa.out.1.trans (hb4.mono HBa.out.1.size), HBa.out.2.trans (hb4.mono HBa.out.2.size)⟩
                    clear hb4 d0 d1 d2 d3 x0 x1 x2 x3
                    cases t with
                    | false =>
                      have HF : Hid (R = false) := HJ2.out
                      go_wp2_with fail
                      go_ret
                      exact ⟨by rw [HF.out]; rfl, HB5.out.1⟩
                    | true =>
                      have HJ3 : Hid (R = (formsWs (false || b3) (ws.drop (j + 1)) && rest)) := by show _ = _; rw [HJ2.out, HR2.out, ← HQ.out]; rfl
                      go_wp2_with fail
                      go_roundw
                      case rel => exact ⟨j + 1, by omega, by go_num, HJ3, HB5⟩
                      case measure => simp [intOf]; omega
                  · have e := o1 rfl
                    rw [e] at HCALL HR2 HQ
                    clear o1 o2
                    go_wp2_with fail
                    refine HCALL.out.mono ?_
                    rintro e w4 ⟨rfl, hb4⟩
                    have HB5 : Hid (Below w.heap.size w w4 ∧ Below W1.heap.size W1 w4) := ⟨HBa.out.1.trans (hb4.mono HBa.out.1.size), HBa.out.2.trans (hb4.mono HBa.out.2.size)⟩
                    clear hb4 d0 d1 d2 d3 x0 x1 x2 x3
                    cases t with
                    | false =>
                      have HF : Hid (R = false) := HJ2.out
                      go_wp2_with fail
                      go_ret
                      exact ⟨by rw [HF.out]; rfl, HB5.out.1⟩
                    | true =>
                      have HJ3 : Hid (R = (formsWs (true || b3) (ws.drop (j + 1)) && rest)) := by show _ = _; rw [HJ2.out, HR2.out, ← HQ.out]; rfl
                      go_wp2_with fail
                      go_roundw
                      case rel => exact ⟨j + 1, by omega, by go_num, HJ3, HB5⟩
                      case measure => simp [intOf]; omega
                · have HI2 : Hid (R = formsPs cnt (decide (kd = 0)) (ps.drop (k + 1))) := by
                    have := HJ.out
                    rw [List.drop_eq_nil_of_le (by omega), formsWs, Bool.true_and] at this
                    show _ = _
                    rw [this, HRE.out]
                  have HP2 : Hid ((decide (kd = 0) = true → 0 < k + 1) ∧ ∀ kd2 tx2 ws2, 0 < k + 1 → ps.drop (k + 1 - 1) = .mk kd2 tx2 ws2 :: ps.drop (k + 1) → decide (kd = 0) = decide (kd2 = 0)) := by
                    refine ⟨fun _ => Nat.succ_pos _, fun kd2 tx2 ws2 _ h => ?_⟩
                    have h2 := HDR.out
                    rw [show k + 1 - 1 = k by omega, h2] at h
                    injection h with h _
                    injection h with h _ _
                    rw [h]
                  generalize decide (kd = 0) = pb2 at HI2 HP2
                  go_wp2_with fail
                  go_roundw
                  case rel => exact ⟨k + 1, pb2, by omega, by go_num, HI2, HP2, HB3.out.1⟩
                  case measure => simp [intOf]; omega
      · have HF : Hid (R = true) := by
          have := HI.out
          rw [List.drop_eq_nil_of_le (by omega), formsPs] at this
          exact this
        go_wp2_with fail
        go_ret
        exact ⟨by rw [HF.out]; rfl, HB.out⟩
end Go.Proofs.YtdolpehcfifecaaDoor
