/- ship's raw. Conditions: the scanner and its tokens in memory; the name of a raw element. -/
import Derived.Test.YtoalbfffojpnmaaDoorTnG
import Derived.Deep.RegionHeld3
namespace Go.Proofs.YtoalbfffojpnmaaDoor
open Go.RowKit Mh
set_option linter.unusedVariables false

/-- A world that has grown. -/
structure GW (w : World) where
  w' : World
  h : Below w.heap.size w w'
instance gw_some (w : World) : Nonempty (GW w) := ⟨⟨w, Below.refl _ _⟩⟩
/-- A region that draws its order, whose operations read and whose callees make memory at most, walked once, in the text's order. -/
theorem wp_region_quiet_gw {P : Program} {id : Nat} {Q : Exit → Act → World → Prop} {a : Act} {w : World} {l : List Oper} (hm : P.follows .mixedOrders = true) (hB : Region.lexB .any l.toArray = true)
    (h : wpQuiet P l.toArray (fun w' => ∃ u : GW w, w' = u.w') (fun a' => ∀ w', (∃ u : GW w, w' = u.w') → Q .normal a' w') l a) : (Code.region id l.toArray true).wp P Q a w :=
  wp_region_quiet (C := fun w' => ∃ u : GW w, w' = u.w') hm hB ⟨⟨w.drew, (Below.refl _ w).drew⟩, rfl⟩ (by simpa using h)
theorem gw_call {P : Program} {f : FuncId} {args : Array Value} {w : World} {u : GW w} {v : Value} (h : Calls P f args u.w' fun e w' => e = .returned v ∧ Below u.w'.heap.size u.w' w') : Calls P f args u.w' fun e w'' => e = .returned v ∧ ∃ u' : GW w, w'' = u'.w' :=
  h.mono fun _ w3 ⟨he, hb⟩ => ⟨he, ⟨w3, u.h.trans (hb.mono u.h.size)⟩, rfl⟩
theorem gw_same {P : Program} {f : FuncId} {args : Array Value} {w : World} {u : GW w} {v : Value} (h : Calls P f args u.w' fun e w' => e = .returned v ∧ w' = u.w') : Calls P f args u.w' fun e w'' => e = .returned v ∧ ∃ u' : GW w, w'' = u'.w' :=
  h.mono fun _ w3 ⟨he, hb⟩ => ⟨he, u, hb⟩
theorem toList_data (s : ByteArray) : s.toList = s.data.toList := by rw [ByteArray.toList_eq]
theorem raw_first {t : ByteArray} (h : rawB t = true) : 0 < t.size ∧ t.size ≤ 8 ∧ (t.data.toList[0]? = some 115 ∨ t.data.toList[0]? = some 116) := by
  unfold rawB at h
  have hl : t.data.toList.length = t.size := by rw [Array.length_toList]; rfl
  rw [toList_data, Bool.or_eq_true, Bool.or_eq_true, Bool.or_eq_true, beq_iff_eq, beq_iff_eq, beq_iff_eq, beq_iff_eq] at h
  rcases h with ((h | h) | h) | h <;> rw [h] at hl ⊢ <;> simp at hl <;> exact ⟨by omega, by omega, by simp⟩
theorem low_letter {c : UInt8} (h : lowB c = 115 ∨ lowB c = 116) : letB (c.toNat : Int) = true := by
  have hn := lowB_nat c
  have h2 : (lowB c).toNat = 115 ∨ (lowB c).toNat = 116 := by rcases h with h | h <;> rw [h] <;> simp
  unfold letB
  rw [hn] at h2
  split at h2
  · have d3 : decide (65 ≤ (c.toNat : Int)) = true := decide_eq_true (by omega)
    have d4 : decide ((c.toNat : Int) ≤ 90) = true := decide_eq_true (by omega)
    rw [d3, d4]; simp
  · have d3 : decide (97 ≤ (c.toNat : Int)) = true := decide_eq_true (by omega)
    have d4 : decide ((c.toNat : Int) ≤ 122) = true := decide_eq_true (by omega)
    rw [d3, d4]; simp
theorem beg_raw {s name : ByteArray} {j k : Nat} (hn : rawB name = true) (h60 : byteAt s j = 60) (h47 : byteAt s (j + 1) = 47) (hk : k = j + 2 + name.size) (hks : k ≤ s.size) (he : ((lowS' (s.extract (j + 2) k)).toList == name.toList) = true) : begB s j = true := by
  obtain ⟨h0, h8, hf⟩ := raw_first hn
  have hj2 : j + 2 < s.size := by omega
  have hj1 : j + 1 < s.size := by omega
  have hL : letB (byteAt s (j + 2)) = true := by
    rw [byteAt_lt hj2]
    apply low_letter
    rw [beq_iff_eq, toList_data, toList_data] at he
    rw [← he] at hf
    have e1 : (lowS' (s.extract (j + 2) k)).data.toList[0]? = some (lowB s[j + 2]) := by
      show ((s.extract (j + 2) k).data.toList.map lowB)[0]? = _
      rw [List.getElem?_map]
      have : (s.extract (j + 2) k).data.toList[0]? = some s[j + 2] := by
        rw [ByteArray.data_extract, Array.getElem?_toList, Array.getElem?_extract]
        have : j + 2 < s.data.size := hj2
        rw [if_pos (by simp; omega)]
        simp [ByteArray.getElem_eq_getElem_data]
      rw [this]; rfl
    rw [e1] at hf
    rcases hf with h | h
    · exact .inl (Option.some.inj h)
    · exact .inr (Option.some.inj h)
  unfold begB
  rw [h60, h47, hL, decide_eq_true hj1, decide_eq_true hj2]
  simp
/-- What raw leaves. -/
structure RawOut (b0 X : Nat) (s : ByteArray) (i : Nat) (l : List Tk) (w w' : World) : Prop where
  ex : ∃ i', i ≤ i' ∧ i' ≤ s.size ∧ (i' = s.size ∨ begB s i' = true) ∧ St b0 X s i' (if i < i' then l ++ [⟨1, i, ⟨#[]⟩, s.extract i i', .slice none 0 0⟩] else l) w'
  low : Below b0 w w'
set_option maxRecDepth 100000 in
set_option maxHeartbeats 16000000 in
theorem raw_any (b0 X : Nat) (s name : ByteArray) (i : Nat) (l : List Tk) (w : World) (h : St b0 X s i l w) (hi : i ≤ s.size) (hs : s.size ≤ 1000000) (hn : rawB name = true) (hl : l.length ≤ 1000000) :
    Calls Tryd.prog 19 #[ptr X, .string name] w fun e w' => e = .returned (.tuple #[]) ∧ Hid (RawOut b0 X s i l w w') := by
  obtain ⟨v, hv, _, _⟩ := h.ex
  obtain ⟨c0, c1, c2, f1, f2⟩ := hv.cells
  have H := Lib.hid h
  have HV := Lib.hid hv
  have HLW := Lib.hid (fun (t : ByteArray) w (ht : t.size ≤ 1000000000) => lower_any t w ht)
  have HTG := Lib.hid (fun n w => shTag_any n w)
  have HCH := Lib.hid (fun i' w (h : St b0 X s i' l w) (hlt : i < i') (hz : i' ≤ s.size) => chars_any b0 X s i' l i i' w h hlt hz hl)
  have HCN := Lib.hid (fun i' w (hlt : ¬ i < i') => chars_none X i i' w hlt)
  obtain ⟨hn0, hn8, _⟩ := raw_first hn
  have HN := Lib.hid hn
  clear h hv hn
  unfold ptr
  go_enter Tryd.func19, Tryd.ntmps19
  go_wp2_with fail
  clear c0 c1 c2 f1 f2
  go_loopw [] (fun wr => ∃ j : Nat, i ≤ j ∧ j ≤ s.size ∧ Hid (Scn s X j v wr) ∧ Hid (Kept [X] w wr)) (fun wr => s.size - atS X wr)
  case atStart => exact ⟨i, Nat.le_refl _, hi, HV, Kept.refl _ _⟩
  case round =>
    obtain ⟨j, hij, hj, HS, HK⟩ := hrel
    obtain ⟨c0, c1, c2, f1, f2⟩ := HS.out.cells
    have HAT := Lib.hid HS.out.atS
    by_cases hlt : j < s.size
    · have hltI : (j : Int) < s.size := by omega
      have hd : decide ((j : Int) < s.size) = true := decide_eq_true hltI
      go_wp2_with fail
      go_quiet (fail)
      have HS2 : Hid (Scn s X j v (wr.drewN nq)) := HS.out.same ((Same.refl wr).drewN nq)
      have HK2 : Hid (Kept [X] w (wr.drewN nq)) := HK.out.drewN nq
      generalize wr.drewN nq = w2 at *
      clear c0 c1 c2 f1 f2 HS HK
      obtain ⟨c0, c1, c2, f1, f2⟩ := HS2.out.cells
      have w1 : IntKind.i64.wrap ((j : Int) + 1) = (j : Int) + 1 := IntWalk.i64_in _ (by omega)
      have w2' : IntKind.i64.wrap ((j : Int) + 2) = (j : Int) + 2 := IntWalk.i64_in _ (by omega)
      have w3 : IntKind.i64.wrap ((j : Int) + 2 + name.size) = (j : Int) + 2 + name.size := IntWalk.i64_in _ (by omega)
      go_upto_region 4 with fail
      simp only [List.append]
      go_cut [101] from 35 to 100 (fun bv wx => (∃ b, bv = .bool b ∧ (b = true → begB s j = true)) ∧ Hid (Scn s X j v wx) ∧ Hid (Kept [X] w wx))
      case first =>
        cases d1 : ((s[j].toNat : Int) == 60) with
        | false =>
          go_quiet (fail)
          go_wp2_with fail
          go_meet
          exact ⟨⟨_, rfl, fun h => by cases h⟩, HS2.out.same ((Same.refl w2).drewN nq), HK2.out.drewN nq⟩
        | true =>
        by_cases hk : j + 2 + name.size ≤ s.size
        · have d2 : decide ((j : Int) + 2 + name.size ≤ s.size) = true := decide_eq_true (by omega)
          have hj1 : j + 1 < s.size := by omega
          have hj1I : (j : Int) + 1 < s.size := by omega
          have hj0I : (0 : Int) ≤ (j : Int) + 1 := by omega
          have ht1 : ((j : Int) + 1).toNat = j + 1 := by omega
          cases d3 : ((s[j + 1].toNat : Int) == 47) with
          | false =>
            go_quiet (fail)
            go_wp2_with fail
            go_meet
            exact ⟨⟨_, rfl, fun h => by cases h⟩, HS2.out.same ((Same.refl w2).drewN nq), HK2.out.drewN nq⟩
          | true =>
          have HBEG : Hid (((lowS' (s.extract (j + 2) (j + 2 + name.size))).toList == name.toList) = true → begB s j = true) := fun he =>
            beg_raw HN.out (by rw [byteAt_lt hlt]; exact beq_iff_eq.1 d1) (by rw [byteAt_lt hj1]; exact beq_iff_eq.1 d3) rfl hk he
          have hkI : (j : Int) + 2 + name.size ≤ s.size := by omega
          have hj2I : (j : Int) + 2 ≤ (j : Int) + 2 + name.size := by omega
          have hj20 : (0 : Int) ≤ (j : Int) + 2 := by omega
          have ht2 : ((j : Int) + 2).toNat = j + 2 := by omega
          have ht3 : ((j : Int) + 2 + name.size).toNat = j + 2 + name.size := by omega
          have hsz : (s.extract (j + 2) (j + 2 + name.size)).size ≤ 1000000000 := by simp; omega
          have HSB : Hid (∀ w', Below w2.heap.size w2 w' → Scn s X j v w' ∧ Kept [X] w w' ∧ w'.cell? ⟨X, 0, none⟩ = some (.string s) ∧ w'.cell? ⟨X, 1, none⟩ = some (.int .i64 (j : Int))) := fun w' hb => by
            have h1 := HS2.out.below hb
            exact ⟨h1, HK2.out.call (Kept.of_below (S := [X]) hb) (fun b hb => .inl hb), h1.cells.1, h1.cells.2.1⟩
          have q0 : ∀ u : GW w2, u.w'.cell? ⟨X, 0, none⟩ = some (.string s) := fun u => (HSB.out u.w' u.h).2.2.1
          have q1 : ∀ u : GW w2, u.w'.cell? ⟨X, 1, none⟩ = some (.int .i64 (j : Int)) := fun u => (HSB.out u.w' u.h).2.2.2
          -- S6
          cases d4 : ((lowS' (s.extract (j + 2) (j + 2 + name.size))).toList == name.toList) with
          | false =>
            refine wp_region_quiet_gw (by kernel_rfl) (by kernel_rfl) ?_
            repeat (open Go.BigFrame in go_big_quiet_step ((go_at_call 23; exact gw_call (HLW.out _ _ hsz))))
            refine wpQuiet_nil ?_
            rintro _ ⟨u, rfl⟩
            have HB := Lib.hid (HSB.out u.w' u.h)
            go_wp2_with fail
            go_meet
            exact ⟨⟨_, rfl, fun h => by cases h⟩, HB.out.1, HB.out.2.1⟩
          | true =>
          have HBT := Lib.hid (HBEG.out d4)
          by_cases hke : j + 2 + name.size = s.size
          · have d5 : ((j : Int) + 2 + name.size == s.size) = true := by rw [beq_iff_eq]; omega
            clear hke
            refine wp_region_quiet_gw (by kernel_rfl) (by kernel_rfl) ?_
            repeat (open Go.BigFrame in go_big_quiet_step ((go_at_call 23; exact gw_call (HLW.out _ _ hsz))))
            refine wpQuiet_nil ?_
            rintro _ ⟨u, rfl⟩
            have HB := Lib.hid (HSB.out u.w' u.h)
            go_wp2_with fail
            go_meet
            exact ⟨⟨_, rfl, fun _ => HBT.out⟩, HB.out.1, HB.out.2.1⟩
          · have d5 : ((j : Int) + 2 + name.size == s.size) = false := by rw [beq_eq_false_iff_ne]; omega
            have hkl : j + 2 + name.size < s.size := by omega
            have hklI : (j : Int) + 2 + name.size < s.size := by omega
            have hk0 : (0 : Int) ≤ (j : Int) + 2 + name.size := by omega
            have HT1 := Lib.hid (fun w => HTG.out (s[j + 2 + name.size].toNat : Int) w)
            cases d6 : tagB (s[j + 2 + name.size].toNat : Int)
            all_goals
              rw [d6] at HT1
              refine wp_region_quiet_gw (by kernel_rfl) (by kernel_rfl) ?_
              repeat (open Go.BigFrame in go_big_quiet_step (first | (go_at_call 23; exact gw_call (HLW.out _ _ hsz)) | (go_at_call 16; exact gw_same (HT1.out _))))
              refine wpQuiet_nil ?_
              rintro _ ⟨u, rfl⟩
              have HB := Lib.hid (HSB.out u.w' u.h)
              go_wp2_with fail
              go_meet
              exact ⟨⟨_, rfl, fun _ => HBT.out⟩, HB.out.1, HB.out.2.1⟩
          -- E6
        · have d2 : decide ((j : Int) + 2 + name.size ≤ s.size) = false := decide_eq_false (by omega)
          go_quiet (fail)
          go_wp2_with fail
          go_meet
          exact ⟨⟨_, rfl, fun h => by cases h⟩, HS2.out.same ((Same.refl w2).drewN nq), HK2.out.drewN nq⟩
      case rest =>
      obtain ⟨⟨b, rfl, hb⟩, HS3, HK3⟩ := hcut
      clear c0 c1 c2 f1 f2 HS2 HK2
      obtain ⟨c0, c1, c2, f1, f2⟩ := HS3.out.cells
      cases b with
      | false =>
        have HNx : Hid (Scn s X (j + 1) v (wc.setCell ⟨X, 1, none⟩ (.int .i64 ((j : Int) + 1)))) := by
          have := HS3.out.set1 (j + 1)
          rw [show ((j + 1 : Nat) : Int) = (j : Int) + 1 by omega] at this
          exact this
        go_wp2_with fail
        go_roundw
        case rel => exact ⟨j + 1, by omega, by omega, HNx, HK3.out.set X 1 (by simp) _⟩
        case measure =>
          rw [HAT.out]
          have h2 : atS X (wc.setCell ⟨X, 1, none⟩ (.int .i64 ((j : Int) + 1))) = j + 1 := HNx.out.atS
          omega
      | true =>
        have HBT := Lib.hid (hb rfl)
        have HST : Hid (St b0 X s j l wc) := H.out.move HV.out HS3.out HK3.out
        by_cases hij2 : i < j
        · go_wp2_with (go_at_call 9; refine (HCH.out j _ HST.out hij2 hj).mono ?_; rintro e w' ⟨rfl, HS4, HB4⟩)
          go_end0
          exact ⟨rfl, ⟨⟨j, hij, hj, .inr HBT.out, by rw [if_pos hij2]; exact HS4.out⟩, (H.out.low HK3.out).trans HB4.out⟩⟩
        · go_wp2_with (go_at_call 9; refine (HCN.out j _ hij2).mono ?_; rintro e w' ⟨rfl, rfl⟩)
          go_end0
          exact ⟨rfl, ⟨⟨j, hij, hj, .inr HBT.out, by rw [if_neg hij2]; exact HST.out⟩, H.out.low HK3.out⟩⟩
    · have hje : j = s.size := by omega
      have hd : decide ((j : Int) < s.size) = false := decide_eq_false (by omega)
      go_wp2_with fail
      go_quiet (fail)
      have HS3 : Hid (Scn s X j v (wr.drewN nq)) := HS.out.same ((Same.refl wr).drewN nq)
      have HK3 : Hid (Kept [X] w (wr.drewN nq)) := HK.out.drewN nq
      generalize wr.drewN nq = w2 at *
      clear c0 c1 c2 f1 f2
      obtain ⟨c0, c1, c2, f1, f2⟩ := HS3.out.cells
      have HJE := Lib.hid hje
      clear hje
      have HST : Hid (St b0 X s j l w2) := H.out.move HV.out HS3.out HK3.out
      by_cases hij2 : i < j
      · go_wp2_with (go_at_call 9; refine (HCH.out j _ HST.out hij2 hj).mono ?_; rintro e w' ⟨rfl, HS4, HB4⟩)
        go_end0
        exact ⟨rfl, ⟨⟨j, hij, hj, .inl HJE.out, by rw [if_pos hij2]; exact HS4.out⟩, (H.out.low HK3.out).trans HB4.out⟩⟩
      · go_wp2_with (go_at_call 9; refine (HCN.out j _ hij2).mono ?_; rintro e w' ⟨rfl, rfl⟩)
        go_end0
        exact ⟨rfl, ⟨⟨j, hij, hj, .inl HJE.out, by rw [if_neg hij2]; exact HST.out⟩, H.out.low HK3.out⟩⟩
end Go.Proofs.YtoalbfffojpnmaaDoor
