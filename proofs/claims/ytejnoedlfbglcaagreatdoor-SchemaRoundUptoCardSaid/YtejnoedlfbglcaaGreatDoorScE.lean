/- conf.wrongNames and lacking at a schema's value: nothing is wrong, nothing lacks. Conditions: the cells of kindNames. -/
import Derived.Test.YtejnoedlfbglcaaGreatDoorScD
namespace Go.Proofs.YtejnoedlfbglcaaGreatDoor
open Go.RowKit Mh
set_option linter.unusedVariables false

theorem ne_true {s : ByteArray} {l : List UInt8} (h : (s.toList == l) = false) : (s.toList != l) = true := by unfold bne; rw [h]; rfl
theorem ne_false {s : ByteArray} {l : List UInt8} (h : (s.toList == l) = true) : (s.toList != l) = false := by unfold bne; rw [h]; rfl
set_option maxRecDepth 100000 in
set_option maxHeartbeats 8000000 in
theorem wrongNames_ok (X : V) (cs : List Value) (w : World) (h : VAt w X cs) (ho : SchOk X) (hK : KNames w) : Calls Tryz.prog 25 #[.agg cs.toArray] w fun e w' => e = .returned (.bool false) ∧ Below w.heap.size w w' := by
  have C2 := Lib.hid (fun w' (hb : Below w.heap.size w w') => item_any X cs qFields w' (h.keep hb) ho.asc ho.len (by have := ho.small; omega))
  rw [ho.hf] at C2
  have HKN : Hid (∀ w', Below w.heap.size w w' → KNames w') := fun w' hb => hK.keep hb
  have hfl := ho.flen
  have HRW := Lib.hid ho.rows
  have HKY := Lib.hid ho.keys
  have hxl : X.kys.length ≤ 4000 := by have := ho.len; have := ho.small; omega
  generalize itemV X qFields = F at *
  obtain ⟨ia, ic, ka, kc, rfl, _⟩ := h.opened
  obtain ⟨hss, _⟩ := h.inside
  obtain ⟨a2, c2, hsl, hkk⟩ := Ss.key hss
  simp only [Value.slice.injEq] at hsl
  obtain ⟨e1, _, e2⟩ := hsl
  rw [← e1] at hkk
  clear e1 e2
  have HKK := Lib.hid hkk
  rw [vcs_arr] at C2
  rw [vcs_arr]
  have HB0 := Lib.hid (below_alloc w (box6 X ia ic ka kc))
  have HX0 : Hid ((w.alloc (box6 X ia ic ka kc)).heap[w.heap.size]? = some (box6 X ia ic ka kc)) := heap_alloc_new _ _
  unfold box6 at HB0 HX0
  clear h ho hss hkk hK
  go_enter Tryz.func25, Tryz.ntmps25
  go_wp2_with fail
  go_loopw [16] (fun i wr => ∃ j : Nat, i = .int .i64 j ∧ Hid (j ≤ X.kys.length) ∧ wr = w.alloc (.cells #[.int .i64 X.kd, .bool X.bo, .int .i64 X.nu, .string X.tx, .slice ia X.its.length ic, .slice ka X.kys.length kc] 29)) (fun i _ => X.kys.length - (intOf i).toNat)
  case atStart => exact ⟨0, rfl, Nat.zero_le _, rfl⟩
  case round =>
    obtain ⟨j, rfl, HJ, rfl⟩ := hrel
    have hle := HJ.out
    by_cases hj : j < X.kys.length
    · obtain ⟨kb, ko, rfl, hklt, hkc, _⟩ := HKK.out j hj
      have k0 := (HB0.out.cell (p := ⟨kb, ko + j, none⟩) hklt).trans hkc
      have hway := HKY.out _ (List.getElem_mem hj)
      have HJ2 : Hid (j + 1 ≤ X.kys.length) := hj
      clear hklt hkc HKK
      generalize X.kys[j] = key at *
      rcases hway with h | h
      · have q1 : (key.toList == [102, 105, 101, 108, 100, 115]) = true := lit_true h
        have q2 := ne_false q1
        clear h
        go_wp2_with fail
        go_roundw
        case rel => exact ⟨j + 1, by go_num, HJ2, (by first | trivial | rfl)⟩
        case measure => simp [intOf]; omega
      · have q1 : (key.toList == [102, 105, 101, 108, 100, 115]) = false := lit_false (by rw [h]; decide)
        have q2 := ne_true q1
        have q3 : (key.toList == [115, 116, 114, 105, 99, 116]) = true := lit_true h
        have q4 := ne_false q3
        clear h
        go_wp2_with fail
        go_roundw
        case rel => exact ⟨j + 1, by go_num, HJ2, (by first | trivial | rfl)⟩
        case measure => simp [intOf]; omega
    · obtain rfl : j = X.kys.length := by omega
      obtain ⟨r0, r1, r2, r3, r4, r5⟩ := six_of_block HX0.out
      clear HKK
      go_wp2_with fail
      refine (C2.out _ HB0.out).mono ?_
      rintro e w2 ⟨es, rfl, hes, hb2⟩
      obtain ⟨fa, fc, fk, fkc, rfl, _, _, _, _, rows, hS, hT⟩ := hes.opened
      obtain ⟨_, _, hsl, hk⟩ := VsAt.item hS hT
      simp only [Value.slice.injEq] at hsl
      obtain ⟨rfl, _, rfl⟩ := hsl
      have HB2 : Hid (Below w.heap.size w w2) := HB0.out.trans (hb2.mono (by simp))
      have HK := Lib.hid hk
      have HBW : Hid (Below w2.heap.size w2 (w2.alloc (box6 F fa fc fk fkc))) := below_alloc _ _
      have HKN2 : Hid (∀ w', Below w2.heap.size w2 w' → KNames w') := fun w' hb => HKN.out w' (HB2.out.trans (hb.mono HB2.out.size))
      unfold box6 at HBW
      rw [vcs_arr]
      clear hes hb2 hS hT hk C2 r0 r1 r2 r3 r4 r5 HKN HX0 HB0
      go_wp2_with fail
      go_loopw [35] (fun i wr => ∃ j : Nat, i = .int .i64 j ∧ Hid (j ≤ F.its.length ∧ Below w2.heap.size w2 wr)) (fun i _ => F.its.length - (intOf i).toNat)
      case atStart => exact ⟨0, rfl, ⟨Nat.zero_le _, HBW.out⟩⟩
      case round =>
        obtain ⟨j, rfl, HJ⟩ := hrel
        have hle := HJ.out.1
        by_cases hj : j < F.its.length
        · obtain ⟨b, off, ta, tc, tk, tkc, rfl, hlt, hat, hc6⟩ := HK.out j hj
          obtain ⟨d0, d1, d2, d3, d4, d5⟩ := six_later HJ.out.2 hlt hc6
          have HRJ := Lib.hid (HRW.out F.its[j] (List.getElem_mem hj))
          have hat := hat.keep HJ.out.2
          have hJ2 : Hid (∀ w', Below wr.heap.size wr w' → j + 1 ≤ F.its.length ∧ Below w2.heap.size w2 w') := fun w' hb => ⟨hj, HJ.out.2.trans (hb.mono HJ.out.2.size)⟩
          have HKR : Hid (∀ w', Below wr.heap.size wr w' → KNames w') := fun w' hb => HKN2.out w' (HJ.out.2.trans (hb.mono HJ.out.2.size))
          generalize F.its[j] = t at *
          obtain ⟨hss, rows, hS, hT⟩ := hat.inside
          obtain ⟨a1, c1, hsl, hk⟩ := VsAt.item hS hT
          simp only [Value.slice.injEq] at hsl
          obtain ⟨e1, _, e2⟩ := hsl
          rw [← e1] at hk
          clear e1 e2
          obtain ⟨a2, c2, hsl, hkk⟩ := Ss.key hss
          simp only [Value.slice.injEq] at hsl
          obtain ⟨e1, _, e2⟩ := hsl
          rw [← e1] at hkk
          clear e1 e2
          obtain ⟨ht6, htl, hts, htp⟩ := HRJ.out
          have HKK := Lib.hid hkk
          have HKI := Lib.hid hk
          have HTP := Lib.hid htp
          have HTL := Lib.hid htl
          have hkl : t.kys.length ≤ 4000 := by omega
          obtain ⟨wo, rfl⟩ : ∃ wo : World, wo = wr := ⟨_, rfl⟩
          have HBT : Hid (Below wo.heap.size wo (wo.alloc (box6 t ta tc tk tkc))) := below_alloc _ _
          have HXT : Hid ((wo.alloc (box6 t ta tc tk tkc)).heap[wo.heap.size]? = some (box6 t ta tc tk tkc)) := heap_alloc_new _ _
          unfold box6 at HBT HXT
          clear hc6 hat hss hS hT hk hkk htp htl ht6 HRJ HJ HK HRW HKN2
          go_wp2_with fail
          go_loopw [42] (fun i wr => ∃ l : Nat, i = .int .i64 l ∧ Hid (l ≤ t.kys.length ∧ Below wo.heap.size wo wr ∧ wr.heap[wo.heap.size]? = some (box6 t ta tc tk tkc))) (fun i _ => t.kys.length - (intOf i).toNat)
          case atStart => exact ⟨0, rfl, ⟨Nat.zero_le _, HBT.out, HXT.out⟩⟩
          case round =>
            obtain ⟨l, rfl, HL⟩ := hrel
            have hll := HL.out.1
            by_cases hl : l < t.kys.length
            · obtain ⟨kb, ko, rfl, hklt, hkc, _⟩ := HKK.out l hl
              have hl' : l < t.its.length := by have := HTL.out; omega
              obtain ⟨ib, io, xa, xc, xk, xkc, rfl, hilt, hix, hic6⟩ := HKI.out l hl'
              have k0 := (HL.out.2.1.cell (p := ⟨kb, ko + l, none⟩) hklt).trans hkc
              obtain ⟨_, _, _, x3, _, _⟩ := six_later HL.out.2.1 hilt hic6
              have hbx := HL.out.2.2
              unfold box6 at hbx
              have y4 : wr.cell? ⟨wo.heap.size, 4, none⟩ = some (.slice (some ⟨ib, io, none⟩) t.its.length tc) := cellT hbx rfl
              obtain ⟨hp, hpl⟩ := HTP.out l hl hl'
              have HL2 : Hid (l + 1 ≤ t.kys.length ∧ Below wo.heap.size wo wr ∧ wr.heap[wo.heap.size]? = some (box6 t (some ⟨ib, io, none⟩) tc (some ⟨kb, ko, none⟩) tkc)) := ⟨hl, HL.out.2⟩
              have HKW := Lib.hid (HKR.out _ HL.out.2.1)
              clear hklt hkc hic6 hilt hix hbx HKK HKI HTP HL
              generalize hkey : t.kys[l] = key at *
              generalize hitm : t.its[l] = x at *
              clear hkey hitm
              go_wp2_with fail
              refine (fieldKind_any key _).mono ?_
              rintro e wq ⟨rfl, rfl⟩
              have hkd : (fkind key == -1) = false ∨ ((fkind key == -1) = true ∧ (key.toList == [100, 101, 102, 97, 117, 108, 116]) = true) := by
                by_cases h : fkind key = -1
                · exact .inr ⟨by rw [h]; rfl, lit_true (hp.kind h)⟩
                · exact .inl (by rw [beq_eq_false_iff_ne]; exact h)
              have hqk : (key.toList == [107, 105, 110, 100]) = false ∨ ((key.toList == [107, 105, 110, 100]) = true ∧ Hid (kinds x.tx)) := by
                by_cases h : key = qKind
                · exact .inr ⟨lit_true h, hp.name h⟩
                · exact .inl (lit_false h)
              clear hp
              generalize fkind key = K at *
              have hkd2 : (K == -1) = false ∨ ((K == -1) = true ∧ (key.toList == [100, 101, 102, 97, 117, 108, 116]) = true ∧ (key.toList != [100, 101, 102, 97, 117, 108, 116]) = false) := by
                rcases hkd with h | ⟨h1, h2⟩
                · exact .inl h
                · exact .inr ⟨h1, h2, ne_false h2⟩
              clear hkd
              rcases hqk with hqk | ⟨hqk, HKS⟩
              · rcases hkd2 with hkd2 | ⟨hkd2, hkd3, hkd4⟩
                all_goals
                  go_wp2_with fail
                  go_roundw
                  case rel => exact ⟨l + 1, by go_num, HL2⟩
                  case measure => simp [intOf]; omega
              · obtain ⟨kk, hkk, hname⟩ := HKS.out
                rw [hname] at x3
                have CK := Lib.hid (kindOf_any kk hkk _ HKW.out)
                clear hname hkk HKS
                rcases hkd2 with hkd2 | ⟨hkd2, hkd3, hkd4⟩
                all_goals
                  go_wp2_with fail
                  refine CK.out.mono ?_
                  rintro e wq ⟨rfl, rfl⟩
                  go_wp2_with fail
                  go_roundw
                  case rel => exact ⟨l + 1, by go_num, HL2⟩
                  case measure => simp [intOf]; omega
            · obtain rfl : l = t.kys.length := by omega
              have HJ3 := Lib.hid (hJ2.out _ HL.out.2.1)
              clear HKK HKI HTP HL
              go_wp2_with fail
              go_roundw
              case rel => exact ⟨j + 1, by go_num, HJ3⟩
              case measure => simp [intOf]; omega
        · obtain rfl : j = F.its.length := by omega
          have HBF : Hid (Below w.heap.size w wr) := HB2.out.trans (HJ.out.2.mono HB2.out.size)
          clear HJ HK HRW
          go_wp2_with fail
          go_ret
          exact ⟨rfl, HBF.out⟩
set_option maxRecDepth 100000 in
set_option maxHeartbeats 8000000 in
theorem lacking_ok (X : V) (cs : List Value) (w : World) (h : VAt w X cs) (hA : Asc X.kys) (hl : X.kys.length = X.its.length) (hlen : X.its.length ≤ 1099511627776) (h1 : hit qRoute X.kys = true) (h2 : hit qKind X.kys = true) (h3 : hit qMin X.kys = hit qMax X.kys) :
    Calls Tryz.prog 27 #[.agg cs.toArray] w fun e w' => e = .returned (.bool false) ∧ Below w.heap.size w w' := by
  have C1 := Lib.hid (fun w' (hb : Below w.heap.size w w') => item_any X cs qRoute w' (h.keep hb) hA hl hlen)
  have C2 := Lib.hid (fun w' (hb : Below w.heap.size w w') => item_any X cs qKind w' (h.keep hb) hA hl hlen)
  have C3 := Lib.hid (fun w' (hb : Below w.heap.size w w') => item_any X cs qMin w' (h.keep hb) hA hl hlen)
  have C4 := Lib.hid (fun w' (hb : Below w.heap.size w w') => item_any X cs qMax w' (h.keep hb) hA hl hlen)
  rw [h1] at C1
  rw [h2] at C2
  rw [h3] at C3
  generalize hit qMax X.kys = b at *
  generalize itemV X qRoute = Y1 at *
  generalize itemV X qKind = Y2 at *
  generalize itemV X qMin = Y3 at *
  generalize itemV X qMax = Y4 at *
  obtain ⟨ia, ic, ka, kc, rfl, _⟩ := h.opened
  rw [vcs_arr] at C1 C2 C3 C4
  rw [vcs_arr]
  have HB0 := Lib.hid (below_alloc w (box6 X ia ic ka kc))
  have HX0 : Hid ((w.alloc (box6 X ia ic ka kc)).heap[w.heap.size]? = some (box6 X ia ic ka kc)) := heap_alloc_new _ _
  have HST : Hid (∀ (w0 w1 : World) (ob : Obj), w.heap.size < w0.heap.size → Below w.heap.size w w0 → w0.heap[w.heap.size]? = some (box6 X ia ic ka kc) → Below w0.heap.size w0 w1 → w.heap.size < (w1.alloc ob).heap.size ∧ Below w.heap.size w (w1.alloc ob) ∧ (w1.alloc ob).heap[w.heap.size]? = some (box6 X ia ic ka kc)) := by
    intro w0 w1 ob q1 q2 q3 q4
    have := q4.size
    exact ⟨by simp; omega, (q2.trans (q4.mono q2.size)).alloc (by omega) _, (heap_alloc_old _ _ (by omega)).trans ((q4.block _ q1).trans q3)⟩
  have HZ0 : Hid (w.heap.size < (w.alloc (box6 X ia ic ka kc)).heap.size) := by show _ < _; simp
  unfold box6 at HB0 HX0 HST HZ0
  clear h hA hl h1 h2 h3
  go_enter Tryz.func27, Tryz.ntmps27
  go_wp2_with fail
  refine (C1.out _ HB0.out).mono ?_
  rintro e w1 ⟨ds, rfl, hds, hb1⟩
  obtain ⟨ya, yc, yk, ykc, rfl, _⟩ := hds.opened
  have hh := HST.out _ w1 (box6 Y1 ya yc yk ykc) HZ0.out HB0.out HX0.out hb1
  unfold box6 at hh
  have HZ1 := Lib.hid hh.1
  have HB1 := Lib.hid hh.2.1
  have HX1 := Lib.hid hh.2.2
  obtain ⟨r0, r1, r2, r3, r4, r5⟩ := six_of_block HX1.out
  rw [vcs_arr]
  clear hds hb1 C1 HB0 HX0 HZ0 hh
  go_wp2_with fail
  refine (C2.out _ HB1.out).mono ?_
  rintro e w2 ⟨ds, rfl, hds, hb2⟩
  obtain ⟨ya, yc, yk, ykc, rfl, _⟩ := hds.opened
  have hh := HST.out _ w2 (box6 Y2 ya yc yk ykc) HZ1.out HB1.out HX1.out hb2
  unfold box6 at hh
  have HZ2 := Lib.hid hh.1
  have HB2 := Lib.hid hh.2.1
  have HX2 := Lib.hid hh.2.2
  obtain ⟨s0, s1, s2, s3, s4, s5⟩ := six_of_block HX2.out
  rw [vcs_arr]
  clear hds hb2 C2 HB1 HX1 HZ1 hh r0 r1 r2 r3 r4 r5
  go_wp2_with fail
  refine (C3.out _ HB2.out).mono ?_
  rintro e w3 ⟨ds, rfl, hds, hb3⟩
  obtain ⟨ya, yc, yk, ykc, rfl, _⟩ := hds.opened
  have hh := HST.out _ w3 (box6 Y3 ya yc yk ykc) HZ2.out HB2.out HX2.out hb3
  unfold box6 at hh
  have HZ3 := Lib.hid hh.1
  have HB3 := Lib.hid hh.2.1
  have HX3 := Lib.hid hh.2.2
  obtain ⟨r0, r1, r2, r3, r4, r5⟩ := six_of_block HX3.out
  rw [vcs_arr]
  clear hds hb3 C3 HB2 HX2 HZ2 hh s0 s1 s2 s3 s4 s5
  go_wp2_with fail
  refine (C4.out _ HB3.out).mono ?_
  rintro e w4 ⟨ds, rfl, hds, hb4⟩
  obtain ⟨ya, yc, yk, ykc, rfl, _⟩ := hds.opened
  have hh := HST.out _ w4 (box6 Y4 ya yc yk ykc) HZ3.out HB3.out HX3.out hb4
  unfold box6 at hh
  have HB4 := Lib.hid hh.2.1
  rw [vcs_arr]
  clear hds hb4 C4 HB3 HX3 HZ3 hh r0 r1 r2 r3 r4 r5 HST
  cases b
  all_goals
    go_wp2_with fail
    go_ret
    exact ⟨rfl, HB4.out⟩
end Go.Proofs.YtejnoedlfbglcaaGreatDoor
