/- conf.wrongKinds, wrongNames and lacking at a schema's value: nothing is wrong with it. Conditions: the cells of kindNames. -/
import Derived.Test.YtejnoedlfbglcaaGreatDoorScA
namespace Mh
open Go
set_option linter.unusedVariables false
/-- What is asked of a schema's value. -/
structure SchOk (X : V) : Prop where
  kd : X.kd = 6
  asc : Asc X.kys
  len : X.kys.length = X.its.length
  small : X.its.length ≤ 4000
  keys : ∀ k ∈ X.kys, k = qFields ∨ k = qStrict
  hs : hit qStrict X.kys = true
  st : (Go.Proofs.YtejnoedlfbglcaaGreatDoor.itemV X qStrict).kd = 1
  hf : hit qFields X.kys = true
  fd : (Go.Proofs.YtejnoedlfbglcaaGreatDoor.itemV X qFields).kd = 5
  flen : (Go.Proofs.YtejnoedlfbglcaaGreatDoor.itemV X qFields).its.length ≤ 4000
  rows : ∀ t ∈ (Go.Proofs.YtejnoedlfbglcaaGreatDoor.itemV X qFields).its, t.kd = 6 ∧ t.kys.length = t.its.length ∧ t.its.length ≤ 4000 ∧ ∀ i (h : i < t.kys.length) (h' : i < t.its.length), PairOk (t.kys[i], t.its[i]) ∧ t.its[i].its.length ≤ 4000
theorem fst_get (l : List (ByteArray × V)) (i : Nat) (h : i < (l.map Prod.fst).length) (h' : i < (l.map Prod.snd).length) : ((l.map Prod.fst)[i], (l.map Prod.snd)[i]) ∈ l := by
  rw [List.length_map] at h
  simp only [List.getElem_map]
  exact List.getElem_mem h
theorem schema_items (fs : List Fd) (sb : Bool) : hit qStrict (schemaV fs sb).kys = true ∧ Go.Proofs.YtejnoedlfbglcaaGreatDoor.itemV (schemaV fs sb) qStrict = yesV sb ∧ hit qFields (schemaV fs sb).kys = true ∧ Go.Proofs.YtejnoedlfbglcaaGreatDoor.itemV (schemaV fs sb) qFields = listV (fs.map fieldV) := by
  rw [schemaV_eq]
  refine ⟨by kernel_rfl, ?_, by kernel_rfl, ?_⟩
  · unfold Go.Proofs.YtejnoedlfbglcaaGreatDoor.itemV
    rw [if_pos (by kernel_rfl), show low qStrict (tabV [(qFields, listV (fs.map fieldV)), (qStrict, yesV sb)]).kys = 1 by kernel_rfl]
    rfl
  · unfold Go.Proofs.YtejnoedlfbglcaaGreatDoor.itemV
    rw [if_pos (by kernel_rfl), show low qFields (tabV [(qFields, listV (fs.map fieldV)), (qStrict, yesV sb)]).kys = 0 by kernel_rfl]
    rfl
theorem tab_its (l : List (ByteArray × V)) : (tabV l).its = l.map Prod.snd := rfl
theorem tab_kys (l : List (ByteArray × V)) : (tabV l).kys = l.map Prod.fst := rfl
theorem schema_ok (fs : List Fd) (sb : Bool) (h : (schemaV fs sb).okc) (hf : fdsOk fs) : SchOk (schemaV fs sb) := by
  obtain ⟨e1, e2, e3, e4⟩ := schema_items fs sb
  have hm := h.mid
  have hF : (listV (fs.map fieldV)).mid := hm.item _ (by rw [schemaV_eq, tab_its]; simp)
  refine ⟨by rw [schemaV_eq]; rfl, (good_facts hm.1).1, by rw [schemaV_eq, tab_its, tab_kys]; simp, by have := hm.len; omega, ?_, e1, by rw [e2]; rfl, e3, by rw [e4]; rfl, by rw [e4]; have := hF.len; omega, ?_⟩
  · rw [schemaV_eq, tab_kys]
    intro k hk
    simp only [List.map_cons, List.map_nil, List.mem_cons, List.not_mem_nil, or_false] at hk
    exact hk
  · rw [e4]
    intro t ht
    have htm := hF.item t ht
    obtain ⟨f, hff, rfl⟩ := List.mem_map.1 (show t ∈ fs.map fieldV from ht)
    refine ⟨(fv_kd f).2.2.2.2.2.2, by rw [fieldV_eq, tab_its, tab_kys]; simp, by have := htm.len; omega, fun i h1 h2 => ⟨?_, by have := (htm.item _ (List.getElem_mem h2)).len; omega⟩⟩
    obtain ⟨j, hj, rfl⟩ := List.mem_iff_getElem.1 hff
    have hfo := (hf.2 j hj).1
    obtain ⟨l, _, _, hk, _⟩ := hfo
    have := prow_ok fs[j] hk
    simp only [fieldV_eq, tab_its, tab_kys] at h1 h2 ⊢
    exact this _ (fst_get _ i h1 h2)
end Mh
namespace Go.Proofs.YtejnoedlfbglcaaGreatDoor
open Go.RowKit Mh
set_option linter.unusedVariables false

theorem _root_.Mh.VAt.inside {w : World} {X : V} {ia ka : Option Addr} {ic kc : Nat} (h : VAt w X (vcs X ia ic ka kc)) : Ss w (.slice ka X.kys.length kc) X.kys ∧ ∃ rows, Sl 6 w (.slice ia X.its.length ic) X.its.length rows ∧ VsAt w X.its rows := by
  obtain ⟨ua, uc, uk, ukc, ht, _, _, _, hss, rows, hS, hT⟩ := h.opened
  simp only [vcs, List.cons.injEq, Value.slice.injEq, and_true, true_and] at ht
  obtain ⟨⟨h1, h2⟩, h3, h4⟩ := ht
  rw [h1, h2, h3, h4]
  exact ⟨hss, rows, hS, hT⟩
theorem below_alloc (w : World) (o : Obj) : Below w.heap.size w (w.alloc o) := (Below.refl _ w).alloc (Nat.le_refl _) _
set_option maxRecDepth 100000 in
set_option maxHeartbeats 8000000 in
theorem wrongKinds_ok (X : V) (cs : List Value) (w : World) (h : VAt w X cs) (ho : SchOk X) : Calls Tryz.prog 24 #[.agg cs.toArray] w fun e w' => e = .returned (.bool false) ∧ Below w.heap.size w w' := by
  have C1 := Lib.hid (fun w' (hb : Below w.heap.size w w') => item_any X cs qStrict w' (h.keep hb) ho.asc ho.len (by have := ho.small; omega))
  have C2 := Lib.hid (fun w' (hb : Below w.heap.size w w') => item_any X cs qFields w' (h.keep hb) ho.asc ho.len (by have := ho.small; omega))
  rw [ho.hs] at C1
  rw [ho.hf] at C2
  have hst := ho.st
  have hfd := ho.fd
  have hfl := ho.flen
  have HRW := Lib.hid ho.rows
  have hq6 : (X.kd != 6) = false := by rw [ho.kd]; rfl
  generalize itemV X qStrict = Y at *
  generalize itemV X qFields = F at *
  have hqs : (Y.kd != 1) = false := by rw [hst]; rfl
  have hqf : (F.kd != 5) = false := by rw [hfd]; rfl
  obtain ⟨ia, ic, ka, kc, rfl, _⟩ := h.opened
  rw [vcs_arr] at C1 C2
  rw [vcs_arr]
  have HB0 := Lib.hid (below_alloc w (box6 X ia ic ka kc))
  have HX0 : Hid ((w.alloc (box6 X ia ic ka kc)).heap[w.heap.size]? = some (box6 X ia ic ka kc)) := heap_alloc_new _ _
  unfold box6 at HB0 HX0
  clear h ho hst hfd
  go_enter Tryz.func24, Tryz.ntmps24
  go_wp2_with fail
  refine (C1.out _ HB0.out).mono ?_
  rintro e w1 ⟨ds, rfl, hds, hb1⟩
  obtain ⟨ya, yc, yk, ykc, rfl, _⟩ := hds.opened
  have hX1 := (hb1.block _ (by simp)).trans HX0.out
  have hB1 : Below w.heap.size w w1 := HB0.out.trans (hb1.mono (by simp))
  have hz1 : w.heap.size < w1.heap.size := by have := hb1.size; simp at this; omega
  have HB1 : Hid (Below w.heap.size w (w1.alloc (box6 Y ya yc yk ykc))) := hB1.alloc (by omega) _
  have HX1 := Lib.hid ((heap_alloc_old w1 (box6 Y ya yc yk ykc) hz1).trans hX1)
  unfold box6 at HB1 HX1
  obtain ⟨r0, r1, r2, r3, r4, r5⟩ := six_of_block HX1.out
  rw [vcs_arr]
  clear hds hb1 hX1 hB1 C1 HB0 HX0
  go_wp2_with fail
  refine (C2.out _ HB1.out).mono ?_
  rintro e w2 ⟨es, rfl, hes, hb2⟩
  obtain ⟨fa, fc, fk, fkc, rfl, _, _, _, _, rows, hS, hT⟩ := hes.opened
  obtain ⟨_, _, hsl, hk⟩ := VsAt.item hS hT
  simp only [Value.slice.injEq] at hsl
  obtain ⟨rfl, _, rfl⟩ := hsl
  have HB2 : Hid (Below w.heap.size w w2) := HB1.out.trans (hb2.mono (by simp; omega))
  have HK := Lib.hid hk
  have HBW : Hid (Below w2.heap.size w2 (w2.alloc (box6 F fa fc fk fkc))) := below_alloc _ _
  unfold box6 at HBW
  rw [vcs_arr]
  clear hes hb2 hS hT hk C2 HB1 HX1 r0 r1 r2 r3 r4 r5
  go_wp2_with fail
  go_loopw [42] (fun i wr => ∃ j : Nat, i = .int .i64 j ∧ Hid (j ≤ F.its.length ∧ Below w2.heap.size w2 wr)) (fun i _ => F.its.length - (intOf i).toNat)
  case atStart => exact ⟨0, rfl, ⟨Nat.zero_le _, HBW.out⟩⟩
  case round =>
    obtain ⟨j, rfl, HJ⟩ := hrel
    have hle := HJ.out.1
    by_cases hj : j < F.its.length
    · obtain ⟨b, off, ta, tc, tk, tkc, rfl, hlt, hat, hc6⟩ := HK.out j hj
      obtain ⟨d0, d1, d2, d3, d4, d5⟩ := six_later HJ.out.2 hlt hc6
      have HRJ := Lib.hid (HRW.out F.its[j] (List.getElem_mem hj))
      have hat := hat.keep HJ.out.2
      have hJ2 : Hid (∀ w', Below wr.heap.size wr w' → j + 1 ≤ F.its.length ∧ Below w2.heap.size w2 w') := fun w' hb => ⟨hj, HJ.out.2.trans (hb.mono HJ.out.2.size)⟩
      generalize F.its[j] = t at *
      obtain ⟨hss, rows, hS, hT⟩ := hat.inside
      obtain ⟨a1, c1, hsl, hk⟩ := VsAt.item hS hT
      simp only [Value.slice.injEq] at hsl
      obtain ⟨e1, _, e2⟩ := hsl
      rw [← e1] at hk
      clear e1 e2
      obtain ⟨a2, c2, hsl, hkk⟩ := Ss.key hss
      simp only [Value.slice.injEq] at hsl
      obtain ⟨e1, _, e2⟩ := hsl
      rw [← e1] at hkk
      clear e1 e2
      obtain ⟨ht6, htl, hts, htp⟩ := HRJ.out
      have hq : (t.kd != 6) = false := by rw [ht6]; rfl
      have HKK := Lib.hid hkk
      have HKI := Lib.hid hk
      have HTP := Lib.hid htp
      have HTL := Lib.hid htl
      have hkl : t.kys.length ≤ 4000 := by omega
      obtain ⟨wo, rfl⟩ : ∃ wo : World, wo = wr := ⟨_, rfl⟩
      have HBT : Hid (Below wo.heap.size wo (wo.alloc (box6 t ta tc tk tkc))) := below_alloc _ _
      have HXT : Hid ((wo.alloc (box6 t ta tc tk tkc)).heap[wo.heap.size]? = some (box6 t ta tc tk tkc)) := heap_alloc_new _ _
      unfold box6 at HBT HXT
      clear hc6 hat hss hS hT hk hkk htp htl ht6 HRJ HJ HK HRW
      go_wp2_with fail
      go_loopw [52] (fun i wr => ∃ l : Nat, i = .int .i64 l ∧ Hid (l ≤ t.kys.length ∧ Below wo.heap.size wo wr ∧ wr.heap[wo.heap.size]? = some (box6 t ta tc tk tkc))) (fun i _ => t.kys.length - (intOf i).toNat)
      case atStart => exact ⟨0, rfl, ⟨Nat.zero_le _, HBT.out, HXT.out⟩⟩
      case round =>
        obtain ⟨l, rfl, HL⟩ := hrel
        have hll := HL.out.1
        by_cases hl : l < t.kys.length
        · obtain ⟨kb, ko, rfl, hklt, hkc, _⟩ := HKK.out l hl
          have hl' : l < t.its.length := by have := HTL.out; omega
          obtain ⟨ib, io, xa, xc, xk, xkc, rfl, hilt, hix, hic6⟩ := HKI.out l hl'
          have k0 := (HL.out.2.1.cell (p := ⟨kb, ko + l, none⟩) hklt).trans hkc
          obtain ⟨x0, x1, x2, x3, x4, x5⟩ := six_later HL.out.2.1 hilt hic6
          have hbx := HL.out.2.2
          unfold box6 at hbx
          have y4 : wr.cell? ⟨wo.heap.size, 4, none⟩ = some (.slice (some ⟨ib, io, none⟩) t.its.length tc) := cellT hbx rfl
          obtain ⟨hp, hpl⟩ := HTP.out l hl hl'
          have HXI := Lib.hid (hix.keep HL.out.2.1)
          have HL2 : Hid (∀ w', Below wr.heap.size wr w' → l + 1 ≤ t.kys.length ∧ Below wo.heap.size wo w' ∧ w'.heap[wo.heap.size]? = some (box6 t (some ⟨ib, io, none⟩) tc (some ⟨kb, ko, none⟩) tkc)) := fun w' hb => ⟨hl, HL.out.2.1.trans (hb.mono HL.out.2.1.size), (hb.block _ (Array.getElem?_eq_some_iff.1 HL.out.2.2).1).trans HL.out.2.2⟩
          clear hklt hkc hic6 hilt hix hbx HKK HKI HTP HL
          generalize hkey : t.kys[l] = key at *
          generalize hitm : t.its[l] = x at *
          clear hkey hitm
          go_wp2_with fail
          refine (fieldKind_any key _).mono ?_
          rintro e wq ⟨rfl, rfl⟩
          have hone : (key.toList == [111, 110, 101, 111, 102]) = false ∨ ((key.toList == [111, 110, 101, 111, 102]) = true ∧ Hid (∀ y ∈ x.its, y.kd = 3)) := by
            by_cases h : key = qOneof
            · exact .inr ⟨lit_true h, hp.one h⟩
            · exact .inl (lit_false h)
          have hkd : (fkind key != -1) = false ∨ ((fkind key != -1) = true ∧ (x.kd != fkind key) = false) := by
            by_cases h : fkind key = -1
            · exact .inl (by rw [h]; rfl)
            · exact .inr ⟨by rw [bne_iff_ne]; exact h, by rw [hp.kd h]; simp⟩
          have HONE := Lib.hid hone
          clear hone hp
          generalize fkind key = K at *
          obtain ⟨_, rows, hS, hT⟩ := HXI.out.inside
          obtain ⟨_, _, hsl, hk⟩ := VsAt.item hS hT
          simp only [Value.slice.injEq] at hsl
          obtain ⟨rfl, _, rfl⟩ := hsl
          have HKX := Lib.hid hk
          clear hS hT hk
          obtain ⟨wm, rfl⟩ : ∃ wm : World, wm = wq := ⟨_, rfl⟩
          rcases hkd with hkd | ⟨hkd, hkd2⟩
          all_goals
            go_wp2_with fail
            go_loopw [78] (fun i wr => ∃ n : Nat, i = .int .i64 n ∧ Hid (n ≤ x.its.length ∧ Below wm.heap.size wm wr)) (fun i _ => x.its.length - (intOf i).toNat)
            case atStart => exact ⟨0, rfl, ⟨Nat.zero_le _, Below.refl _ _⟩⟩
            case round =>
              obtain ⟨n, rfl, HN⟩ := hrel
              have hnl := HN.out.1
              by_cases hn : n < x.its.length
              · obtain ⟨zb, zo, za, zc, zk, zkc, rfl, hzlt, _, hzc⟩ := HKX.out n hn
                obtain ⟨z0, z1, z2, z3, z4, z5⟩ := six_later HN.out.2 hzlt hzc
                have HN2 : Hid (n + 1 ≤ x.its.length ∧ Below wm.heap.size wm (wr.alloc (box6 x.its[n] za zc zk zkc))) := ⟨hn, HN.out.2.alloc HN.out.2.size _⟩
                have h3 : (key.toList == [111, 110, 101, 111, 102]) = false ∨ ((key.toList == [111, 110, 101, 111, 102]) = true ∧ (x.its[n].kd != 3) = false) := by
                  rcases HONE.out with h | ⟨h, h2⟩
                  · exact .inl h
                  · exact .inr ⟨h, by rw [h2.out _ (List.getElem_mem hn)]; rfl⟩
                unfold box6 at HN2
                clear hzc hzlt HKX HONE
                generalize x.its[n] = z at *
                rcases h3 with h3 | ⟨h3, h4⟩
                all_goals
                  go_wp2_with fail
                  go_roundw
                  case rel => exact ⟨n + 1, by go_num, HN2⟩
                  case measure => simp [intOf]; omega
              · obtain rfl : n = x.its.length := by omega
                have HLN := Lib.hid (HL2.out _ HN.out.2)
                clear HKX HONE
                go_wp2_with fail
                go_roundw
                case rel => exact ⟨l + 1, by go_num, HLN⟩
                case measure => simp [intOf]; omega
        · obtain rfl : l = t.kys.length := by omega
          have HJ3 := Lib.hid (hJ2.out _ HL.out.2.1)
          clear HKK HKI HTP HL
          go_wp2_with fail
          go_roundw
          case rel => exact ⟨j + 1, by go_num, HJ3⟩
          case measure => simp [intOf]; omega
    · obtain rfl : j = F.its.length := by omega
      have HBF : Hid (Below w.heap.size w wr) := HB2.out.trans (HJ.out.2.mono HB2.out.size)
      clear HJ HK HRW
      go_wp2_with fail
      go_ret
      exact ⟨rfl, HBF.out⟩
end Go.Proofs.YtejnoedlfbglcaaGreatDoor
