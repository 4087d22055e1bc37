/- lang.piecesMany, piecesByte. Conditions: sums below 10^9. -/
import Derived.Test.YtdolpehcfifecaaDoorMch
import Derived.Test.YtdolpehcfifecaaDoorMgH
namespace Mh
open Go Go.RowKit
set_option linter.unusedVariables false
theorem many_len (ps : List Pc) : ps.length ≤ manyPs ps := by
  induction ps with
  | nil => simp
  | cons p l ih => obtain ⟨a, b, c⟩ := p; rw [manyPs, List.length_cons]; omega
theorem many_at' (s : ByteArray) (f : UInt8 → Bool) : s.data.toList.any f = true ↔ ∃ j, ∃ h : j < s.size, f s[j] = true := by
  rw [List.any_eq_true]
  constructor
  · rintro ⟨x, hx, hf⟩
    obtain ⟨i, hi, rfl⟩ := List.mem_iff_getElem.1 hx
    exact ⟨i, by simpa using hi, by simpa [ByteArray.getElem_eq_getElem_data] using hf⟩
  · rintro ⟨j, h, hf⟩
    have e : s.data.toList[j]? = some s[j] := by
      rw [List.getElem?_eq_getElem (by simpa using h)]; congr 1
    exact ⟨_, List.mem_of_getElem? e, hf⟩
end Mh
namespace Go.Proofs.YtdolpehcfifecaaDoor
open Go.RowKit Mh
set_option linter.unusedVariables false
set_option maxHeartbeats 2000000 in
theorem gmany_any : ∀ (M : Nat) (ps : List Pc), SizeOf.sizeOf ps < M → manyPs ps ≤ 1000000000 → ∀ (v : Value) (w : World), PsIn w v ps →
    Calls Tryd.prog 27 #[v] w fun e w' => e = .returned (.int .i64 (manyPs ps : Nat)) ∧ Below w.heap.size w w' := by
  intro M
  induction M with
  | zero => intro X h; omega
  | succ M ih =>
    intro ps hX hD v w h
    obtain ⟨ao, c, rfl, hlen, hk⟩ := h.item
    have HK := Lib.hid hk
    unfold maxLen at hlen
    have HIH : Hid (∀ qs : List Pc, SizeOf.sizeOf qs < SizeOf.sizeOf ps → manyPs qs ≤ 1000000000 → ∀ (v : Value) (w : World), PsIn w v qs → Calls Tryd.prog 27 #[v] w fun e w' => e = .returned (.int .i64 (manyPs qs : Nat)) ∧ Below w.heap.size w w') := by
      intro qs hq
      exact ih _ (by omega)
    obtain ⟨R, hR⟩ : ∃ R, R = manyPs ps := ⟨_, rfl⟩
    have HM : Hid (∀ k, manyPs (ps.drop k) ≤ 1000000000) := fun k => by have := many_mono ps k; omega
    have hlr := many_len ps
    rw [← hR] at hD hlr ⊢
    have HR := Lib.hid hR
    have HB0 : Hid (Below w.heap.size w w) := Below.refl _ _
    clear h hk ih hX hR
    go_enter Tryd.func27, Tryd.ntmps27
    go_wp2_with fail
    go_loopw [3, 12] (fun x i wr => ∃ (k n : Nat), k ≤ ps.length ∧ i = .int .i64 k ∧ x = .int .i64 n ∧ Hid (n + manyPs (ps.drop k) = R + (ps.length - k)) ∧ Hid (Below w.heap.size w wr)) (fun _ i _ => ps.length - (intOf i).toNat)
    case atStart => exact ⟨0, ps.length, by omega, rfl, rfl, by show _ = _; rw [List.drop_zero, HR.out]; omega, HB0⟩
    case round =>
      obtain ⟨k, n, hk, rfl, rfl, HI, HB⟩ := hrel
      by_cases hkl : k < ps.length
      · obtain ⟨kd, tx, ws, b, off, xa, xc, rfl, hlt, hdr, hsz, hws, _, _, hcc⟩ := HK.out k hkl
        obtain ⟨c0, c1, c2⟩ := hcc.later HB.out hlt
        have hI := HI.out
        have hm := HM.out k
        rw [hdr, manyPs] at hI hm
        have HI1 : Hid (n + manyWs (ws.drop 0) + manyPs (ps.drop (k + 1)) = R + (ps.length - (k + 1))) := by show _ = _; rw [List.drop_zero]; omega
        obtain ⟨hwl, hwk⟩ := ws_item hws
        have HWK := Lib.hid hwk
        unfold maxLen at hwl
        have HWM : Hid (∀ j, manyWs (ws.drop j) ≤ 1000000000) := fun j => by have := manyW_mono ws j; omega
        have HSZ := Lib.hid hsz
        have HBn : Hid (Below w.heap.size w (wr.alloc (.cells #[.int .i64 kd, .string tx, .slice xa ws.length xc] 66))) := HB.out.alloc HB.out.size _
        clear hdr hI HI hcc hws hwk hlt hsz hm
        obtain ⟨wo, rfl⟩ : ∃ wo : World, wo = wr := ⟨_, rfl⟩
        go_wp2_with fail
        go_loopw [3, 19] (fun x i wr => ∃ (j m : Nat), j ≤ ws.length ∧ i = .int .i64 j ∧ x = .int .i64 m ∧ Hid (m + manyWs (ws.drop j) + manyPs (ps.drop (k + 1)) = R + (ps.length - (k + 1))) ∧ Hid (Below w.heap.size w wr)) (fun _ i _ => ws.length - (intOf i).toNat)
        case atStart => exact ⟨0, n, by omega, rfl, rfl, HI1, HBn⟩
        case round =>
          clear c0 c1 c2 HI1 HBn
          obtain ⟨j, m, hj, rfl, rfl, HJ, HB2⟩ := hrel
          by_cases hjl : j < ws.length
          · obtain ⟨wd, ex, fm, qs, b2, off2, ya, yc, rfl, hlt2, hdw, hsz2, hps, _, _, _, hcc2⟩ := HWK.out j hjl
            have hB02 : Below w.heap.size w wr := HB2.out
            obtain ⟨d0, d1, d2, d3⟩ := hcc2.later hB02 hlt2
            have hJ := HJ.out
            have hm2 := HWM.out j
            rw [hdw, manyWs] at hJ hm2
            have hBn2 : Below w.heap.size w (wr.alloc (.cells #[.string wd, .int .i64 ex, .int .i64 fm, .slice ya qs.length yc] 73)) := HB2.out.alloc HB2.out.size _
            have HBn2 := Lib.hid hBn2
            have HCALL := Lib.hid (HIH.out qs (by have := HSZ.out; omega) (by omega) _ _ (hps.keep hBn2))
            obtain ⟨t, ht⟩ : ∃ t, t = manyPs qs := ⟨_, rfl⟩
            rw [← ht] at hJ hm2 HCALL
            have HJ2 : Hid (m + t + manyWs (ws.drop (j + 1)) + manyPs (ps.drop (k + 1)) = R + (ps.length - (k + 1))) := by show _ = _; omega
            have hmt : m + t ≤ 4000000000 := by omega
            clear hJ HJ hcc2 hps hBn2 ht hlt2 hdw hsz2 hm2 hB02
            go_wp2_with fail
            refine HCALL.out.mono ?_
            rintro e w2 ⟨rfl, hb2⟩
            have HB3 : Hid (Below w.heap.size w w2) := HBn2.out.trans (hb2.mono HBn2.out.size)
            clear hb2
            go_wp2_with fail
            go_roundw
            case rel => exact ⟨j + 1, m + t, by omega, by go_num, by first | rfl | go_num, HJ2, HB3⟩
            case measure => simp [intOf]; omega
          · have HI2 : Hid (m + manyPs (ps.drop (k + 1)) = R + (ps.length - (k + 1))) := by
              have := HJ.out
              rw [List.drop_eq_nil_of_le (by omega)] at this
              rw [manyWs, Nat.add_zero] at this
              exact this
            go_wp2_with fail
            go_roundw
            case rel => exact ⟨k + 1, m, by omega, by go_num, by first | rfl | go_num, HI2, HB2⟩
            case measure => simp [intOf]; omega
      · have HF : Hid (n = R) := by
          have := HI.out
          rw [List.drop_eq_nil_of_le (by omega), manyPs] at this
          show _ = _
          omega
        obtain rfl := HF.out
        go_wp2_with fail
        go_ret
        exact ⟨by go_num, HB.out⟩
set_option maxHeartbeats 4000000 in
theorem gbyte_any : ∀ (M : Nat) (ps : List Pc), SizeOf.sizeOf ps < M → ∀ (v : Value) (w : World), PsIn w v ps →
    Calls Tryd.prog 24 #[v] w fun e w' => e = .returned (.bool (bytePs ps)) ∧ Below w.heap.size w w' := by
  intro M
  induction M with
  | zero => intro X h; omega
  | succ M ih =>
    intro ps hX v w h
    obtain ⟨ao, c, rfl, hlen, hk⟩ := h.item
    have HK := Lib.hid hk
    unfold maxLen at hlen
    have HIH : Hid (∀ qs : List Pc, SizeOf.sizeOf qs < SizeOf.sizeOf ps → ∀ (v : Value) (w : World), PsIn w v qs → Calls Tryd.prog 24 #[v] w fun e w' => e = .returned (.bool (bytePs qs)) ∧ Below w.heap.size w w') := by
      intro qs hq
      exact ih _ (by omega)
    obtain ⟨R, hR⟩ : ∃ R, R = bytePs ps := ⟨_, rfl⟩
    rw [← hR]
    have HR := Lib.hid hR
    have HB0 : Hid (Below w.heap.size w w) := Below.refl _ _
    clear h hk ih hX hR
    go_enter Tryd.func24, Tryd.ntmps24
    go_wp2_with fail
    go_loopw [10] (fun i wr => ∃ (k : Nat), k ≤ ps.length ∧ i = .int .i64 k ∧ Hid (bytePs (ps.drop k) = R) ∧ Hid (Below w.heap.size w wr)) (fun i _ => ps.length - (intOf i).toNat)
    case atStart => exact ⟨0, by omega, rfl, by show _ = _; rw [List.drop_zero, HR.out], HB0⟩
    case round =>
      obtain ⟨k, hk, rfl, HI, HB⟩ := hrel
      by_cases hkl : k < ps.length
      · obtain ⟨kd, tx, ws, b, off, xa, xc, rfl, hlt, hdr, hsz, hws, htx, _, hcc⟩ := HK.out k hkl
        obtain ⟨c0, c1, c2⟩ := hcc.later HB.out hlt
        have hI := HI.out
        rw [hdr, bytePs] at hI
        obtain ⟨hwl, hwk⟩ := ws_item hws
        have HWK := Lib.hid hwk
        unfold maxLen at hwl htx
        have HSZ := Lib.hid hsz
        obtain ⟨W1, hW1⟩ : ∃ W1, W1 = wr.alloc (.cells #[.int .i64 kd, .string tx, .slice xa ws.length xc] 66) := ⟨_, rfl⟩
        have HBn : Hid (Below w.heap.size w W1) := by rw [hW1]; exact HB.out.alloc HB.out.size _
        have hbx : W1.heap[wr.heap.size]? = some (.cells #[.int .i64 kd, .string tx, .slice xa ws.length xc] 66 (0, 0)) := by rw [hW1]; exact heap_alloc_new _ _
        have y0 : W1.cell? ⟨wr.heap.size, 0, none⟩ = some (.int .i64 kd) := cellT hbx rfl
        have y1 : W1.cell? ⟨wr.heap.size, 1, none⟩ = some (.string tx) := cellT hbx rfl
        have y2 : W1.cell? ⟨wr.heap.size, 2, none⟩ = some (.slice xa ws.length xc) := cellT hbx rfl
        obtain ⟨rest, hrest⟩ : ∃ rest, rest = bytePs (ps.drop (k + 1)) := ⟨_, rfl⟩
        rw [← hrest] at hI
        have HRE := Lib.hid hrest
        have HI1 := Lib.hid hI
        -- the ways
        have HGO : Hid (((decide (kd = 0) && tx.data.toList.any mctlB) = false) → (byteWs (ws.drop 0) || rest) = R) := fun h => by rw [h] at hI; rw [List.drop_zero, ← hI, Bool.false_or]
        have HAL := Lib.hid (many_at' tx mctlB)
        clear hdr hI HI hcc hws hwk hlt hsz hrest hbx
        obtain ⟨wo, hwo⟩ : ∃ wo : Nat, wo = wr.heap.size := ⟨_, rfl⟩
        go_upto_region 4 with fail
        rw [← hW1]
        clear hW1 c0 c1 c2
        rw [← hwo] at y0 y1 y2 ⊢
        clear hwo HB
        by_cases k0 : kd = 0
        · subst k0
          have HGT : Hid (tx.data.toList.any mctlB = true → R = true) := fun h => by rw [← HI1.out, h]; rfl
          go_wp2_with fail
          go_loop [5] (fun i => ∃ q : Nat, q ≤ tx.size ∧ i = .int .i64 q ∧ Hid (∀ j (h : j < tx.size), j < q → mctlB tx[j] = false)) (fun i => tx.size - (intOf i).toNat)
          case atStart => exact ⟨0, Nat.zero_le _, rfl, fun j h hj => by omega⟩
          case round =>
            obtain ⟨q, hq, rfl, HA⟩ := hrel
            by_cases hlt : q < tx.size
            · have HC := Lib.hid (fun w' => mcontrol_any tx[q] w')
              cases hb : mctlB tx[q] with
              | true =>
                rw [hb] at HC
                have HF : Hid (R = true) := HGT.out (HAL.out.2 ⟨q, hlt, hb⟩)
                clear hb
                go_wp2_with (go_at_call 30; refine (HC.out _).mono ?_; rintro e w' ⟨rfl, rfl⟩)
                go_ret
                exact ⟨by rw [HF.out]; rfl, HBn.out⟩
              | false =>
                rw [hb] at HC
                have HST : Hid (∀ j (h : j < tx.size), j < q + 1 → mctlB tx[j] = false) := by
                  intro j h hj
                  by_cases e : j = q
                  · subst e; exact hb
                  · exact HA.out j h (by omega)
                clear hb
                go_wp2_with (go_at_call 30; refine (HC.out _).mono ?_; rintro e w' ⟨rfl, rfl⟩)
                go_round
                case rel => exact ⟨q + 1, by omega, by go_num, HST⟩
                case measure => simp [intOf]; omega
            · have HGO2 : Hid ((byteWs (ws.drop 0) || rest) = R) := HGO.out (by
                rw [Bool.and_eq_false_iff]
                right
                rw [Bool.eq_false_iff]
                intro h
                obtain ⟨j, hj, hb⟩ := HAL.out.1 h
                have := HA.out j hj (by omega)
                rw [hb] at this; cases this)
              clear HGO
              go_wp2_with fail
              go_loopw [32] (fun i wr => ∃ (j : Nat), j ≤ ws.length ∧ i = .int .i64 j ∧ Hid ((byteWs (ws.drop j) || rest) = R) ∧ Hid (Below w.heap.size w wr)) (fun i _ => ws.length - (intOf i).toNat)
              case atStart => exact ⟨0, by omega, rfl, HGO2, HBn⟩
              case round =>
                clear y0 y1 y2 HGO2 HBn
                obtain ⟨j, hj, rfl, HJ, HB2⟩ := hrel
                by_cases hjl : j < ws.length
                · obtain ⟨wd, ex, fm, qs, b2, off2, ya, yc, rfl, hlt2, hdw, hsz2, hps, _, _, _, hcc2⟩ := HWK.out j hjl
                  have hB02 : Below w.heap.size w wr := HB2.out
                  obtain ⟨d0, d1, d2, d3⟩ := hcc2.later hB02 hlt2
                  have hJ := HJ.out
                  rw [hdw, byteWs] at hJ
                  have hBn2 : Below w.heap.size w (wr.alloc (.cells #[.string wd, .int .i64 ex, .int .i64 fm, .slice ya qs.length yc] 73)) := HB2.out.alloc HB2.out.size _
                  have HBn2 := Lib.hid hBn2
                  have HCALL := Lib.hid (HIH.out qs (by have := HSZ.out; omega) _ _ (hps.keep hBn2))
                  obtain ⟨t, ht⟩ : ∃ t, t = bytePs qs := ⟨_, rfl⟩
                  rw [← ht] at hJ HCALL
                  have HJ2 := Lib.hid hJ
                  clear hJ HJ hcc2 hps hBn2 ht hlt2 hdw hsz2 hB02
                  go_wp2_with fail
                  refine HCALL.out.mono ?_
                  rintro e w2 ⟨rfl, hb2⟩
                  have HB3 : Hid (Below w.heap.size w w2) := HBn2.out.trans (hb2.mono HBn2.out.size)
                  clear hb2
                  cases t with
                  | true =>
                    have HF : Hid (R = true) := HJ2.out.symm
                    go_wp2_with fail
                    go_ret
                    exact ⟨by rw [HF.out]; rfl, HB3.out⟩
                  | false =>
                    have HJ3 : Hid ((byteWs (ws.drop (j + 1)) || rest) = R) := by show _ = _; rw [← HJ2.out, Bool.false_or]
                    go_wp2_with fail
                    go_roundw
                    case rel => exact ⟨j + 1, by omega, by go_num, HJ3, HB3⟩
                    case measure => simp [intOf]; omega
                · have HI2 : Hid (bytePs (ps.drop (k + 1)) = R) := by
                    have := HJ.out
                    rw [List.drop_eq_nil_of_le (by omega), byteWs, Bool.false_or] at this
                    show _ = _
                    rw [← HRE.out, this]
                  go_wp2_with fail
                  go_roundw
                  case rel => exact ⟨k + 1, by omega, by go_num, HI2, HB2⟩
                  case measure => simp [intOf]; omega
        · have q0 : (kd == 0) = false := by rw [beq_eq_false_iff_ne]; exact k0
          have HGO2 := Lib.hid (HGO.out (by rw [decide_eq_false k0]; rfl))
          clear HGO
          go_wp2_with fail
          go_loopw [32] (fun i wr => ∃ (j : Nat), j ≤ ws.length ∧ i = .int .i64 j ∧ Hid ((byteWs (ws.drop j) || rest) = R) ∧ Hid (Below w.heap.size w wr)) (fun i _ => ws.length - (intOf i).toNat)
          case atStart => exact ⟨0, by omega, rfl, HGO2, HBn⟩
          case round =>
            clear y0 y1 y2 HGO2 HBn
            obtain ⟨j, hj, rfl, HJ, HB2⟩ := hrel
            by_cases hjl : j < ws.length
            · obtain ⟨wd, ex, fm, qs, b2, off2, ya, yc, rfl, hlt2, hdw, hsz2, hps, _, _, _, hcc2⟩ := HWK.out j hjl
              have hB02 : Below w.heap.size w wr := HB2.out
              obtain ⟨d0, d1, d2, d3⟩ := hcc2.later hB02 hlt2
              have hJ := HJ.out
              rw [hdw, byteWs] at hJ
              have hBn2 : Below w.heap.size w (wr.alloc (.cells #[.string wd, .int .i64 ex, .int .i64 fm, .slice ya qs.length yc] 73)) := HB2.out.alloc HB2.out.size _
              have HBn2 := Lib.hid hBn2
              have HCALL := Lib.hid (HIH.out qs (by have := HSZ.out; omega) _ _ (hps.keep hBn2))
              obtain ⟨t, ht⟩ : ∃ t, t = bytePs qs := ⟨_, rfl⟩
              rw [← ht] at hJ HCALL
              have HJ2 := Lib.hid hJ
              clear hJ HJ hcc2 hps hBn2 ht hlt2 hdw hsz2 hB02
              go_wp2_with fail
              refine HCALL.out.mono ?_
              rintro e w2 ⟨rfl, hb2⟩
              have HB3 : Hid (Below w.heap.size w w2) := HBn2.out.trans (hb2.mono HBn2.out.size)
              clear hb2
              cases t with
              | true =>
                have HF : Hid (R = true) := HJ2.out.symm
                go_wp2_with fail
                go_ret
                exact ⟨by rw [HF.out]; rfl, HB3.out⟩
              | false =>
                have HJ3 : Hid ((byteWs (ws.drop (j + 1)) || rest) = R) := by show _ = _; rw [← HJ2.out, Bool.false_or]
                go_wp2_with fail
                go_roundw
                case rel => exact ⟨j + 1, by omega, by go_num, HJ3, HB3⟩
                case measure => simp [intOf]; omega
            · have HI2 : Hid (bytePs (ps.drop (k + 1)) = R) := by
                have := HJ.out
                rw [List.drop_eq_nil_of_le (by omega), byteWs, Bool.false_or] at this
                show _ = _
                rw [← HRE.out, this]
              go_wp2_with fail
              go_roundw
              case rel => exact ⟨k + 1, by omega, by go_num, HI2, HB2⟩
              case measure => simp [intOf]; omega
      · have HF : Hid (R = false) := by
          have := HI.out
          rw [List.drop_eq_nil_of_le (by omega), bytePs] at this
          exact this.symm
        go_wp2_with fail
        go_ret
        exact ⟨by rw [HF.out]; rfl, HB.out⟩
end Go.Proofs.YtdolpehcfifecaaDoor
