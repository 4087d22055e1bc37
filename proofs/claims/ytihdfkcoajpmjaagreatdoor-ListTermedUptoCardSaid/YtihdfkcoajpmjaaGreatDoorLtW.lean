/- mastkeep2.ListTermed answers true. Conditions: items of bounded size. -/
import Derived.Test.YtihdfkcoajpmjaaGreatDoorLtV
import Derived.Test.YtihdfkcoajpmjaaGreatDoorAwL2
import Derived.Deep.CutBlock
namespace Go.Proofs.YtihdfkcoajpmjaaGreatDoor
open Go.RowKit Mh
set_option linter.unusedVariables false
theorem sum_take {α : Type} (f : α → Nat) (l : List α) (k : Nat) : ((l.take k).map f).sum ≤ (l.map f).sum := by
  conv => rhs; rw [← List.take_append_drop k l]
  rw [List.map_append, List.sum_append]
  exact Nat.le_add_right _ _
theorem trs_item {w : World} {v : Value} {L1 : List TmR} (h : Sl 3 w v L1.length (L1.flatMap trL)) (hf : ∀ x ∈ L1, ∃ a c, x.v = .slice a x.t.it.length c) : ∃ ao c, v = .slice ao L1.length c ∧ ∀ k (hk : k < L1.length), ∃ b off ta tc, ao = some ⟨b, off, none⟩ ∧ L1.length ≤ c ∧ c ≤ maxLen ∧ b < w.heap.size ∧ L1[k].v = .slice ta L1[k].t.it.length tc ∧
    w.cell? ⟨b, off + k * 3, none⟩ = some (.string L1[k].t.nm) ∧ w.cell? ⟨b, off + k * 3 + 1, none⟩ = some (.string L1[k].t.ti) ∧ w.cell? ⟨b, off + k * 3 + 2, none⟩ = some (.slice ta L1[k].t.it.length tc) := by
  obtain ⟨ao, c, rfl, hm, hc⟩ := h.shp
  refine ⟨ao, c, rfl, fun k hk => ?_⟩
  obtain ⟨b, off, h1, h2, h3, h4, h5⟩ := hc (by omega)
  obtain ⟨ta, tc, e⟩ := hf _ (List.getElem_mem hk)
  have hfl : L1.flatMap trE = L1.flatMap trL := flat_eq fun x hx => by obtain ⟨a, c, e⟩ := hf x hx; exact ⟨a, _, c, e⟩
  have g := fun j (hj : j < 3) => flat_get L1 k hk j hj
  rw [hfl, trE_eq ⟨_, _, _, e⟩] at g
  have g0 := h5 _ _ (g 0 (by decide))
  have g1 := h5 _ _ (g 1 (by decide))
  have g2 := h5 _ _ ((g 2 (by decide)).trans (show (trL L1[k])[2]? = some L1[k].v from rfl))
  rw [e] at g2
  rw [← Nat.add_assoc] at g1 g2
  exact ⟨b, off, ta, tc, h1, h2, h3, h4, e, g0, g1, g2⟩
set_option maxRecDepth 100000 in
set_option maxHeartbeats 16000000 in
theorem termed_walk (u : Value) (l : List V) (r : ByteArray) (w : World) (hr : r.size ≤ maxLen) (hn : ∀ X ∈ l, X.nodes ≤ 1048576) (hu : VsL w u l) :
    Calls Tryz.prog 3 #[u, .string r] w fun e w' => e = .returned (.bool true) ∧ Below w.heap.size w w' := by
  have HAW := Lib.hid (awakeList_any w)
  have HTP := Lib.hid (fun w' (hb : Below w.heap.size w w') => termsP_any u l r w' hr hn (hu.keep hb))
  have HT1 := Lib.hid (fun X (hX : X ∈ l) v w' (hv : VsL w' v [X]) => termsP_any v [X] r w' hr (fun Y hY => by simp only [List.mem_singleton] at hY; subst hY; exact hn _ hX) hv)
  have HNL : Hid (ItemsOk l → ∀ X ∈ l, (nsOf r X).length ≤ 1048576 ∧ ∀ s ∈ nsOf r X, s.size ≤ 5000) := fun hi X hX => by
    have h1 := str_sizes (atR_ok (hi.2 X hX).2.2 (hn X hX) r)
    unfold nsOf
    cases e : strsV (atR r X) with
    | none => simp
    | some ns => exact h1.2 ns e
  obtain ⟨rows0, hS, hT⟩ := hu
  obtain ⟨ua, uc, rfl, hk⟩ := VsAt.item hS hT
  have HK := Lib.hid hk
  clear hS hT hk hr hn
  go_enter Tryz.func3, Tryz.ntmps3
  go_wp2_with fail
  refine HAW.out.mono ?_
  rintro e w1 ⟨rfl, hb1⟩
  have HB1 := Lib.hid hb1
  clear hb1 HAW
  go_wp2_with fail
  refine (HTP.out w1 HB1.out).mono ?_
  rintro e w2 ⟨v, n, rfl, HR, HB2⟩
  have HB12 : Hid (Below w.heap.size w w2) := HB1.out.trans (HB2.out.mono HB1.out.size)
  clear HTP HB2
  by_cases hz : n = 0
  · subst hz
    obtain ⟨h1, _, h3⟩ := HR.out
    have HTO := Lib.hid (h1.1 rfl)
    obtain ⟨L1, hp, hs, hsl, hrow⟩ := h3 rfl
    have HLW := Lib.hid (law_terms HTO.out.1.1 (HNL.out HTO.out.1) hp hs)
    have HCN := Lib.hid (law_count hp)
    have HRW := Lib.hid hrow
    obtain ⟨ao, c, rfl, hit⟩ := trs_item hsl (fun x hx => by obtain ⟨a, c, e⟩ := ownsRow_form (hrow x hx); exact ⟨a, c, e⟩)
    have HIT := Lib.hid hit
    have HLN := Lib.hid HLW.out.len
    have HSUM : Hid (∀ k, k ≤ L1.length → cntT ((L1.take k).map TmR.t) ≤ k * 2001) := fun k hk => by
      have h1 := cntT_le (T := (L1.take k).map TmR.t) (m := 2001) (fun t ht => by
        obtain ⟨x, hx, rfl⟩ := List.mem_map.1 ht
        obtain ⟨j, hj, rfl⟩ := List.mem_iff_getElem.1 (List.mem_of_mem_take hx)
        exact (HLW.out.own j hj).2.2.2.1)
      rw [List.length_map, List.length_take, Nat.min_eq_left hk] at h1
      exact h1
    clear HR h1 h3 hp hs hsl hrow hit HNL
    go_wp2_with fail
    go_loopw [7, 30] (fun m i wr => ∃ k : Nat, k ≤ L1.length ∧ i = .int .i64 k ∧ m = .int .i64 (cntT ((L1.take k).map TmR.t) : Nat) ∧ Hid (Below w2.heap.size w2 wr)) (fun _ i _ => L1.length - (intOf i).toNat)
    case atStart => exact ⟨0, Nat.zero_le _, rfl, rfl, Below.refl _ _⟩
    case round =>
      obtain ⟨k, hk, rfl, rfl, HB⟩ := hrel
      by_cases hkl : k < L1.length
      · obtain ⟨ww, rfl⟩ : ∃ ww : World, ww = wr := ⟨_, rfl⟩
        obtain ⟨b, off, ta, tc, rfl, hc1, hc2, hlt, hxv, e0, e1, e2⟩ := HIT.out k hkl
        have d0 := (HB.out.cell (p := ⟨b, off + k * 3, none⟩) hlt).trans e0
        have d1 := (HB.out.cell (p := ⟨b, off + k * 3 + 1, none⟩) hlt).trans e1
        have d2 := (HB.out.cell (p := ⟨b, off + k * 3 + 2, none⟩) hlt).trans e2
        obtain ⟨o1, o2, o3, o4, o5⟩ := HLW.out.own k hkl
        have hrow := HRW.out L1[k] (List.getElem_mem hkl)
        have hsm := HSUM.out k hk
        have hll := HLN.out
        have HCK : Hid (cntT ((L1.take (k + 1)).map TmR.t) = cntT ((L1.take k).map TmR.t) + L1[k].t.it.length) := by
          show _ = _
          rw [List.take_succ_eq_append_getElem hkl, List.map_append]
          exact cntT_snoc _ _
        generalize cntT ((L1.take k).map TmR.t) = m at *
        have hm : m ≤ 10000000000000 := by omega
        have HBW : Hid (Below w2.heap.size w2 (ww.alloc (.cells #[.string L1[k].t.nm, .string L1[k].t.ti, .slice ta L1[k].t.it.length tc] 30))) := HB.out.trans ((below_newT ww _).mono HB.out.size)
        have HX1 : Hid ((ww.alloc (.cells #[.string L1[k].t.nm, .string L1[k].t.ti, .slice ta L1[k].t.it.length tc] 30)).heap[ww.heap.size]? = some (.cells #[.string L1[k].t.nm, .string L1[k].t.ti, .slice ta L1[k].t.it.length tc] 30 (0, 0))) := heap_alloc_new _ _
        rw [hxv] at hrow
        have HIS := Lib.hid (fun w' (hb : Below w2.heap.size w2 w') => isSortedN_any _ L1[k].t.it o3 (by omega) w' (Sl.of_own (own_belowL hrow hb) (by decide)))
        have HSG : Hid (∀ w', Calls Tryz.prog 6 #[.string L1[k].t.ti] w' fun e w'' => e = .returned (.string L1[k].t.nm) ∧ Below w'.heap.size w' w'') := fun w' => by
          rw [o1]; exact slug_any _ (by omega) w'
        have hp0 : 0 < L1[k].t.it.length := List.length_pos_iff.2 o2
        have n0 : ((L1[k].t.it.length : Int) == 0) = false := by rw [beq_eq_false_iff_ne]; omega
        unfold maxLen at hc2
        clear o1 o2 o3 o5 hrow hsm
        generalize hW : ww.alloc (.cells #[.string L1[k].t.nm, .string L1[k].t.ti, .slice ta L1[k].t.it.length tc] 30) = W at HBW HX1
        go_upto_region 10 with fail
        clear hW d0 d1 d2
        have HSB : Hid (∀ u : GW W, u.w'.heap[ww.heap.size]? = some (.cells #[.string L1[k].t.nm, .string L1[k].t.ti, .slice ta L1[k].t.it.length tc] 30 (0, 0)) ∧ Below w2.heap.size w2 u.w') := fun u =>
          ⟨(u.h.block _ (Array.getElem?_eq_some_iff.1 HX1.out).1).trans HX1.out, HBW.out.trans (u.h.mono HBW.out.size)⟩
        have p0 : ∀ u : GW W, u.w'.cell? ⟨ww.heap.size, 0, none⟩ = some (.string L1[k].t.nm) := fun u => cellT (HSB.out u).1 rfl
        have p1 : ∀ u : GW W, u.w'.cell? ⟨ww.heap.size, 1, none⟩ = some (.string L1[k].t.ti) := fun u => cellT (HSB.out u).1 rfl
        have p2 : ∀ u : GW W, u.w'.cell? ⟨ww.heap.size, 2, none⟩ = some (.slice ta L1[k].t.it.length tc) := fun u => cellT (HSB.out u).1 rfl
        go_cut [67] from 35 to 67 (fun bv wx => bv = .bool false ∧ Hid (Below w2.heap.size w2 wx) ∧ Hid (wx.heap[ww.heap.size]? = some (.cells #[.string L1[k].t.nm, .string L1[k].t.ti, .slice ta L1[k].t.it.length tc] 30 (0, 0))))
        case first =>
          by_cases hk0 : k = 0
          · have hkd : decide (0 < k) = false := decide_eq_false (by omega)
            have hkp : ¬ 0 < k := by omega
            have HK0 := Lib.hid hk0
            clear hk0
            refine wp_region_quiet_gw (by kernel_rfl) (by kernel_rfl) ?_
            repeat (open Go.BigFrame in go_big_quiet_step (first | (go_at_call 6; exact gw_call (HSG.out _)) | (go_at_call 7; exact gw_call (HIS.out _ (HBW.out.trans (Below.mono (GW.h _) HBW.out.size))))))
            refine wpQuiet_nil ?_
            rintro _ ⟨u, rfl⟩
            go_wp2_with fail
            go_meet
            exact ⟨rfl, (HSB.out u).2, (HSB.out u).1⟩
          · obtain ⟨j, rfl⟩ : ∃ j, k = j + 1 := ⟨k - 1, by omega⟩
            obtain ⟨b', off', _, _, hbo, _, _, hlt', _, g0, _, _⟩ := HIT.out j (by omega)
            simp only [Option.some.injEq, Addr.mk.injEq, and_true] at hbo
            obtain ⟨rfl, rfl⟩ := hbo
            have hkl1 := HLW.out.lt j hkl
            have p3 : ∀ u : GW W, u.w'.cell? ⟨b, off + j * 3, none⟩ = some (.string L1[j].t.nm) := fun u => ((HSB.out u).2.cell (p := ⟨b, off + j * 3, none⟩) hlt').trans g0
            have hbl : ∀ a b : ByteArray, Op.bytesLess a.toList b.toList = klT a b := fun a b => by rw [Go.Proofs.bytesLess_eq, Lib.toList_data, Lib.toList_data]; rfl
            have z1 : Op.bytesLess L1[j].t.nm.toList L1[j + 1].t.nm.toList = true := by rw [hbl]; exact hkl1
            have z2 : Op.bytesLess L1[j + 1].t.nm.toList L1[j].t.nm.toList = false := by
              rw [hbl]
              cases h : klT L1[j + 1].t.nm L1[j].t.nm with
              | false => rfl
              | true => have := klT_trans hkl1 h; rw [klT_irrefl] at this; cases this
            have z3 : (L1[j + 1].t.nm.toList == L1[j].t.nm.toList) = false := by
              rw [beq_eq_false_iff_ne]
              intro e
              rw [ByteArray.toList_eq, ByteArray.toList_eq] at e
              have e2 : L1[j + 1].t.nm = L1[j].t.nm := by cases h1 : L1[j + 1].t.nm; cases h2 : L1[j].t.nm; rw [h1, h2] at e; simpa [Array.toList_inj] using e
              rw [e2, klT_irrefl] at hkl1; cases hkl1
            have hpos : decide (0 < j + 1) = true := decide_eq_true (by omega)
            have hsub : ((j + 1 : Nat) : Int) - 1 = ((j : Nat) : Int) := by omega
            have hwj : IntKind.i64.wrap (j : Int) = (j : Int) := IntWalk.i64_in _ (by omega)
            have hjl : j < L1.length := by omega
            have hjlI : (j : Int) < L1.length := by omega
            have hj0 : (0 : Int) ≤ j := by omega
            clear hkl1 hbl g0
            refine wp_region_quiet_gw (by kernel_rfl) (by kernel_rfl) ?_
            repeat (open Go.BigFrame in go_big_quiet_step (first | (go_at_call 6; exact gw_call (HSG.out _)) | (go_at_call 7; exact gw_call (HIS.out _ (HBW.out.trans (Below.mono (GW.h _) HBW.out.size))))))
            refine wpQuiet_nil ?_
            rintro _ ⟨u, rfl⟩
            go_wp2_with fail
            go_meet
            exact ⟨rfl, (HSB.out u).2, (HSB.out u).1⟩
        case rest =>
          obtain ⟨rfl, HB3, HX3⟩ := hcut
          have c2 : wc.cell? ⟨ww.heap.size, 2, none⟩ = some (.slice ta L1[k].t.it.length tc) := cellT HX3.out rfl
          have hwm : IntKind.i64.wrap ((m : Int) + (L1[k].t.it.length : Int)) = (m : Int) + (L1[k].t.it.length : Int) := IntWalk.i64_in _ (by omega)
          clear p0 p1 p2 HSB HBW HX1 HIS HSG
          go_wp2_with fail
          go_roundw
          case rel => exact ⟨k + 1, by omega, by go_num, by rw [HCK.out]; go_num, HB3.out⟩
          case measure => simp [intOf]; omega
      · have hke : k = L1.length := by omega
        subst hke
        rw [List.take_length, HCN.out]
        have HSM2 := HSUM.out L1.length (Nat.le_refl _)
        rw [List.take_length, HCN.out] at HSM2
        have hll := HLN.out
        have hmm : (l.map fun X => (termsT slugB 0 [] [nsOf r X]).length).sum ≤ 10000000000000 := by omega
        have HST : Hid (∀ k, ((l.take k).map fun X => (termsT slugB 0 [] [nsOf r X]).length).sum ≤ (l.map fun X => (termsT slugB 0 [] [nsOf r X]).length).sum) := fun k => sum_take _ l k
        have HSS : Hid (∀ k (h : k < l.length), ((l.take (k + 1)).map fun X => (termsT slugB 0 [] [nsOf r X]).length).sum = ((l.take k).map fun X => (termsT slugB 0 [] [nsOf r X]).length).sum + (termsT slugB 0 [] [nsOf r l[k]]).length) := fun k h => by
          show _ = _
          rw [List.take_succ_eq_append_getElem h, List.map_append, List.sum_append]
          simp
        have HSA : Hid (((l.take l.length).map fun X => (termsT slugB 0 [] [nsOf r X]).length).sum = (l.map fun X => (termsT slugB 0 [] [nsOf r X]).length).sum) := by show _ = _; rw [List.take_length]
        have HLL : Hid (l.length ≤ 2000) := HTO.out.1.1
        have HBA : Hid (Below w.heap.size w wr) := HB12.out.trans (HB.out.mono HB12.out.size)
        have HOK1 : Hid (∀ k (h : k < l.length), TermsOk r [l[k]]) := fun k h =>
          ⟨⟨by simp, fun X hX => by simp only [List.mem_singleton] at hX; subst hX; exact HTO.out.1.2 _ (List.getElem_mem h)⟩, HTO.out.2.1, fun X hX => by simp only [List.mem_singleton] at hX; subst hX; exact HTO.out.2.2 _ (List.getElem_mem h)⟩
        have HT2 := Lib.hid (fun k (h : k < l.length) v w' (hv : VsL w' v [l[k]]) => HT1.out l[k] (List.getElem_mem h) v w' hv)
        clear HSM2 hll HTO HT1 HLN HSUM HCN HRW HIT HLW
        generalize (l.map fun X => (termsT slugB 0 [] [nsOf r X]).length).sum = M at *
        obtain ⟨wB, rfl⟩ : ∃ wB : World, wB = wr := ⟨_, rfl⟩
        have hl2 := HLL.out
        go_wp2_with fail
        go_loopw [10, 76] (fun m i wr => ∃ k : Nat, k ≤ l.length ∧ i = .int .i64 k ∧ m = .int .i64 (((l.take k).map fun X => (termsT slugB 0 [] [nsOf r X]).length).sum : Nat) ∧ Hid (Below w.heap.size w wr)) (fun _ i _ => l.length - (intOf i).toNat)
        case atStart => exact ⟨0, Nat.zero_le _, rfl, rfl, HBA.out⟩
        case round =>
          obtain ⟨k, hk, rfl, rfl, HB7⟩ := hrel
          by_cases hkl : k < l.length
          · obtain ⟨b, off, ia, ic, ka, kc, rfl, hlt, hat, hc6⟩ := HK.out k hkl
            obtain ⟨d0, d1, d2, d3, d4, d5⟩ := six_later HB7.out hlt hc6
            have hst := HST.out k
            have HSK := Lib.hid (HSS.out k hkl)
            have HSK1 := HST.out (k + 1)
            rw [HSK.out] at HSK1
            have HNM : Hid (∀ L2 : List TmR, (L2.map TmR.t).Perm (termsT slugB 0 [] ([l[k]].map (nsOf r))) → L2.length = (termsT slugB 0 [] [nsOf r l[k]]).length) := fun L2 h => by
              have := h.length_eq
              rw [List.length_map] at this
              exact this
            have hb2 : Below wr.heap.size wr ((wr.alloc (.cells #[.int .i64 l[k].kd, .bool l[k].bo, .int .i64 l[k].nu, .string l[k].tx, .slice ia l[k].its.length ic, .slice ka l[k].kys.length kc] 35)).alloc (.cells #[.int .i64 l[k].kd, .bool l[k].bo, .int .i64 l[k].nu, .string l[k].tx, .slice ia l[k].its.length ic, .slice ka l[k].kys.length kc] 35)) := (below_newT wr _).trans ((below_newT _ _).mono (by simp))
            have HB8 := Lib.hid (HB7.out.trans (hb2.mono HB7.out.size))
            have HVS : VsL ((wr.alloc (.cells #[.int .i64 l[k].kd, .bool l[k].bo, .int .i64 l[k].nu, .string l[k].tx, .slice ia l[k].its.length ic, .slice ka l[k].kys.length kc] 35)).alloc (.cells #[.int .i64 l[k].kd, .bool l[k].bo, .int .i64 l[k].nu, .string l[k].tx, .slice ia l[k].its.length ic, .slice ka l[k].kys.length kc] 35)) (.slice (some ⟨wr.heap.size + 1, 0, none⟩) 1 1) [l[k]] := by
              refine ⟨vcs l[k] ia ic ka kc, ⟨rfl, .inr ⟨wr.heap.size + 1, 0, 1, rfl, by simp, by simp, by unfold maxLen; omega, by simp, fun i u hu => ?_⟩⟩, VsAt.one (hat.keep HB8.out)⟩
              have h9 := heap_alloc_new (wr.alloc (.cells #[.int .i64 l[k].kd, .bool l[k].bo, .int .i64 l[k].nu, .string l[k].tx, .slice ia l[k].its.length ic, .slice ka l[k].kys.length kc] 35)) (.cells #[.int .i64 l[k].kd, .bool l[k].bo, .int .i64 l[k].nu, .string l[k].tx, .slice ia l[k].its.length ic, .slice ka l[k].kys.length kc] 35)
              rw [show (wr.alloc (.cells #[.int .i64 l[k].kd, .bool l[k].bo, .int .i64 l[k].nu, .string l[k].tx, .slice ia l[k].its.length ic, .slice ka l[k].kys.length kc] 35)).heap.size = wr.heap.size + 1 by simp] at h9
              rw [Nat.zero_add, cell_of_row _ _ _ _ _ _ h9]
              simpa [vcs] using hu
            have HCALL := Lib.hid (HT2.out k hkl _ _ HVS)
            have HOKK := Lib.hid (HOK1.out k hkl)
            clear hb2 HVS hc6 hat
            generalize ((l.take k).map fun X => (termsT slugB 0 [] [nsOf r X]).length).sum = m at *
            generalize (termsT slugB 0 [] [nsOf r l[k]]).length = q at *
            go_wp2_with fail
            refine HCALL.out.mono ?_
            rintro e w9 ⟨v9, n9, rfl, HR9, hb9⟩
            have HB9 : Hid (Below w.heap.size w w9) := HB8.out.trans (hb9.out.mono HB8.out.size)
            obtain ⟨h1, _, h3⟩ := HR9.out
            obtain rfl : n9 = 0 := h1.2 HOKK.out
            obtain ⟨L2, hp2, _, hsl2, _⟩ := h3 rfl
            obtain ⟨a9, c9, rfl, _⟩ := hsl2.shp
            have hq := HNM.out L2 hp2
            rw [hq]
            have hwm : IntKind.i64.wrap ((m : Int) + (q : Int)) = (m : Int) + (q : Int) := IntWalk.i64_in _ (by omega)
            clear HR9 h1 h3 hp2 hsl2 hb9 hq HCALL
            go_wp2_with fail
            go_roundw
            case rel => exact ⟨k + 1, by omega, by go_num, by rw [HSK.out]; go_num, HB9.out⟩
            case measure => simp [intOf]; omega
          · have hke : k = l.length := by omega
            subst hke
            rw [HSA.out]
            go_wp2_with fail
            go_ret
            exact ⟨rfl, HB7.out⟩
  · have hd : (n != 0) = true := by rw [bne_iff_ne]; exact hz
    have hv := HR.out.2.1 hz
    subst hv
    clear HR hz
    go_wp2_with fail
    go_ret
    exact ⟨rfl, HB12.out⟩
end Go.Proofs.YtihdfkcoajpmjaaGreatDoor
