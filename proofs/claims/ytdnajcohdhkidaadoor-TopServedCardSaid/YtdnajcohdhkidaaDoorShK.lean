/- TopServed: the walk. Conditions: the library's variable MaxLen holds an integer. -/
import Derived.Test.YtdnajcohdhkidaaDoorShJ
import Derived.Deep.CutRange
namespace Mh
open Go Go.RowKit
set_option linter.unusedVariables false
theorem OsAt.mk {w : World} {v : Value} {a b : List O} (h : Sl 2 w v (a.length + b.length) (rowsO a ++ rowsO b)) (ha : ∀ o ∈ a, o.p.size ≤ maxLen ∧ o.b.size ≤ maxLen) (hb : ∀ o ∈ b, o.p.size ≤ maxLen ∧ o.b.size ≤ maxLen) : OsAt w v (a ++ b) := by
  refine ⟨?_, fun o ho => ?_⟩
  · rw [List.length_append, rowsO_app]; exact h
  · rcases List.mem_append.1 ho with h | h
    · exact ha o h
    · exact hb o h
theorem srt_sorted (l : List (List UInt8)) : ∀ i (hi : i + 1 < (srt l).length), ¬ (srt l)[i + 1] < (srt l)[i] := by
  intro i hi hlt
  have hp : (srt l).Pairwise (fun x y => decide (x ≤ y) = true) := by
    unfold srt
    exact List.pairwise_mergeSort (le := fun (x y : List UInt8) => decide (x ≤ y)) (fun a b c h1 h2 => decide_eq_true (List.le_trans (of_decide_eq_true h1) (of_decide_eq_true h2))) (fun a b => by
      rcases List.le_total a b with h | h
      · simp [h]
      · simp [h]) l
  have := List.pairwise_iff_getElem.1 hp i (i + 1) (by omega) hi (by omega)
  exact absurd hlt (List.not_lt.2 (of_decide_eq_true this))
end Mh
namespace Go.Proofs.YtdnajcohdhkidaaDoor
open Go.RowKit Mh Go.Sort
set_option linter.unusedVariables false
theorem ev_dec {old new : List O} (ho : Outs old) (hn : Outs new) {x : O} (hx : x ∈ old ++ new) :
    decide (adO x ∈ srt (evL old new)) = (((lookO old x.p).isSome != (lookO new x.p).isSome) || decide (lookB old x.p ≠ lookB new x.p)) := by
  have : decide (adO x ∈ srt (evL old new)) = decide (adO x ∈ evL old new) := by rw [Bool.eq_iff_iff, decide_eq_true_eq, decide_eq_true_eq, srt_mem]
  rw [this]
  exact ev_law ho hn hx
set_option maxRecDepth 100000 in
set_option maxHeartbeats 16000000 in
theorem served_walk (u v : Value) (old new : List O) (m : Int) (w : World) (hm : w.cell? ⟨0, 0, none⟩ = some (.int .i64 m)) (hu : OsAt w u old) (hv : OsAt w v new) :
    Calls Tryd.prog 3 #[u, v] w fun e w' => e = .returned (.bool true) ∧ Below w.heap.size w w' := by
  have hmz : 0 < w.heap.size := World.block_lt_of_cell? w _ hm
  have HML : Hid (∀ w', Below w.heap.size w w' → w'.cell? ⟨0, 0, none⟩ = some (.int .i64 m)) := fun w' hb => (hb.cell hmz).trans hm
  have HA := Lib.hid (awakeShip_any m w hm)
  have HE := Lib.hid (fun w' (hb : Below w.heap.size w w') => events_any u v old new m w' (HML.out w' hb) (hu.keep hb) (hv.keep hb))
  have HCL := Lib.hid (fun w' (hb : Below w.heap.size w w') (h : old.length ≤ 480) => clone_any u old h w' (hu.keep hb))
  have HSL := Lib.hid (fun w' (hb : Below w.heap.size w w') => hv.1.below hb)
  have HSZ : Hid ((∀ o ∈ old, o.p.size ≤ maxLen ∧ o.b.size ≤ maxLen) ∧ (∀ o ∈ new, o.p.size ≤ maxLen ∧ o.b.size ≤ maxLen)) := ⟨hu.2, hv.2⟩
  have HAT1 := Lib.hid (fun (name : ByteArray) w' (hb : Below w.heap.size w w') (h : old.length ≤ 480) => at_any u old h name w' (hu.keep hb))
  have HAT2 := Lib.hid (fun (name : ByteArray) w' (hb : Below w.heap.size w w') (h : new.length ≤ 480) => at_any v new h name w' (hv.keep hb))
  have HSV := Lib.hid (fun (x : O) (ho : Outs new) (hp : pathB x.p.data.toList = true) w' (hb : Below w.heap.size w w') => serve_addr v new ho x hp m w' (HML.out w' hb) (hv.keep hb))
  obtain ⟨ao, ac, rfl, hla, _⟩ := hu.open
  obtain ⟨bo, bc, rfl, hlb, _⟩ := hv.open
  obtain ⟨oi, hoi, hoz0, hoz1, hoz2⟩ := info_parts infoOut
  clear hu hv hm
  go_enter Tryd.func3, Tryd.ntmps3
  go_wp2_with fail
  refine HA.out.mono ?_
  rintro e w1 ⟨rfl, hb1⟩
  have HB1 := Lib.hid hb1
  clear hb1 HA
  go_wp2_with fail
  refine (HE.out w1 HB1.out).mono ?_
  rintro e w2 ⟨ve, r, rfl, hb2, hway⟩
  have HB2 : Hid (Below w.heap.size w w2) := HB1.out.trans (hb2.mono HB1.out.size)
  clear hb2 HE
  rcases hway with ⟨hr, rfl⟩ | ⟨rfl, ho, hn, hown⟩
  · have hq : (r != 0) = true := by rw [bne_iff_ne]; exact hr
    clear hr
    go_wp2_with fail
    go_ret
    exact ⟨rfl, HB2.out⟩
  have HO := Lib.hid ho
  have HN := Lib.hid hn
  have HEV : Hid (Sl 1 w2 ve (srt (evL old new)).length ((srt (evL old new)).map encStr)) := by
    have := Sl.of_own hown (by decide)
    rw [srt_len]; exact this
  obtain ⟨va, vc, rfl⟩ := row_form hown
  have hl1 := ho.1
  have hl2 := hn.1
  have hel := ev_len ho hn
  have HCL2 := Lib.hid (HCL.out w2 HB2.out hl1)
  clear ho hn hown HB1 HCL
  go_wp2_with (first | (go_at_call 6; refine HCL2.out.mono ?_; rintro e w3 ⟨v3, rfl, H3⟩; obtain ⟨a3, c3, hv3⟩ := row_form H3.out.1; subst hv3; have HB3 : Hid (Below w.heap.size w w3) := HB2.out.trans (H3.out.2.mono HB2.out.size); have HS3 := Lib.hid (HSL.out w3 HB3.out); have hz3 := H3.out.2.size) | (at_builtin; refine wpList_append_sl _ rfl _ _ 22 rfl w2.heap.size 30 oi (.agg #[.string ⟨#[]⟩, .string ⟨#[]⟩]) 2 32 Tryd.underlying22 hoi hoz0 hoz1 hoz2 rfl (by decide) (.slice a3 old.length c3) old.length (rowsO old) rfl H3.out.1 _ new.length (rowsO new) rfl HS3.out (rowsO_cells new) (by unfold maxLen; omega) (by omega) hz3 ?_; intro v4 w4 hown4 hgr4 hat4; obtain ⟨a4, c4, hv4⟩ := row_form hown4; subst hv4; have HO4 := Lib.hid hown4; have HG4 := Lib.hid hgr4; clear hown4 hgr4 hat4))
  have HB24 : Hid (Below w2.heap.size w2 w4) := H3.out.2.grown HG4.out hz3 (fun k hk => by have := H3.out.1.lt k hk; omega)
  have HB4 : Hid (Below w.heap.size w w4) := HB2.out.trans (HB24.out.mono HB2.out.size)
  have HALL : Hid (OsAt w4 (.slice a4 (old.length + new.length) c4) (old ++ new)) := OsAt.mk (Sl.of_own HO4.out (by decide)) HSZ.out.1 HSZ.out.2
  have HEV4 := Lib.hid (HEV.out.below HB24.out)
  clear HB3 HS3 H3 HG4 HO4 HCL2 HSL HEV hz3 HSZ HB2
  obtain ⟨a5, c5, hv5, hl5, hat5⟩ := HALL.out.open
  rw [List.length_append] at hv5
  simp only [Value.slice.injEq] at hv5
  obtain ⟨rfl, _, rfl⟩ := hv5
  have HAT := Lib.hid hat5
  have hlen : (old ++ new).length = old.length + new.length := List.length_append
  clear hat5 HALL hl5
  go_loopw [34] (fun i wr => ∃ k : Nat, k ≤ old.length + new.length ∧ i = .int .i64 k ∧ Hid (Below w4.heap.size w4 wr)) (fun i wr => old.length + new.length - (intOf i).toNat)
  case atStart => exact ⟨0, Nat.zero_le _, rfl, Below.refl _ _⟩
  case round =>
    obtain ⟨k, hk, rfl, HB⟩ := hrel
    by_cases hkl : k < old.length + new.length
    · have hkl' : k < (old ++ new).length := by omega
      obtain ⟨b, off, rfl, hc1, hc2, hlt, hc, hps, hbs⟩ := HAT.out k hkl'
      have hxm : (old ++ new)[k] ∈ old ++ new := List.getElem_mem hkl'
      have hz4 := HB.out.size
      obtain ⟨d0, d1⟩ := two_later HB.out hlt hc
      unfold maxLen at hc2
      rw [hlen] at hc1
      generalize (old ++ new)[k] = x at *
      have hpx : pathB x.p.data.toList = true := by
        rcases List.mem_append.1 hxm with h | h
        · exact HO.out.path h
        · exact HN.out.path h
      have HDEC := Lib.hid (ev_dec HO.out HN.out hxm)
      have HPX := Lib.hid hpx
      have HBr : Hid (Below w.heap.size w wr) := HB4.out.trans (HB.out.mono HB4.out.size)
      have hBW : Below wr.heap.size wr (wr.alloc (.cells #[.string x.p, .string x.b] 30)) := below_alloc _ _
      have HBW : Hid (Below wr.heap.size wr (wr.alloc (.cells #[.string x.p, .string x.b] 30))) := hBW
      have HX1 : Hid ((wr.alloc (.cells #[.string x.p, .string x.b] 30)).heap[wr.heap.size]? = some (.cells #[.string x.p, .string x.b] 30 (0, 0))) := heap_alloc_new _ _
      have HZ1 : Hid (wr.heap.size < (wr.alloc (.cells #[.string x.p, .string x.b] 30)).heap.size) := by show _ < _; simp
      obtain ⟨e0, e1⟩ := pair_of_block HX1.out
      have HAD := Lib.hid (address_ok x hps hpx m _ (HML.out _ (HBr.out.trans (hBW.mono HBr.out.size))))
      have haz : (⟨(adO x).toArray⟩ : ByteArray).size ≤ 201 := by
        have h1 := addr_len x.p.data.toList
        have h2 := path_len hpx
        show (addrL x.p.data.toList).toArray.size ≤ 201
        rw [List.size_toArray]; omega
      have HAE : Hid (adB x = ⟨(adO x).toArray⟩) := rfl
      have HAL : Hid ((⟨(adO x).toArray⟩ : ByteArray).data.toList = adO x) := rfl
      generalize (⟨(adO x).toArray⟩ : ByteArray) = a at *
      clear hpx hxm hc hBW
      go_wp2_with fail
      refine HAD.out.mono ?_
      rintro e w5 ⟨rfl, hb5⟩
      have HB5 : Hid (Below wr.heap.size wr w5) := HBW.out.trans (hb5.mono HBW.out.size)
      have HX5 := Lib.hid ((hb5.block _ HZ1.out).trans HX1.out)
      have hz5 : wr.heap.size < w5.heap.size := Nat.lt_of_lt_of_le HZ1.out hb5.size
      clear hb5 HBW HX1 HZ1 HAD e0 e1 d0 d1
      obtain ⟨e0, e1⟩ := pair_of_block HX5.out
      have H1 := Lib.hid (HAT1.out x.p w5 (HBr.out.trans (HB5.out.mono HBr.out.size)) hl1)
      go_wp2_with fail
      refine H1.out.mono ?_
      rintro e w6 ⟨rfl, hb6⟩
      have HB6 : Hid (Below wr.heap.size wr w6) := HB5.out.trans (hb6.mono HB5.out.size)
      have HX6 := Lib.hid ((hb6.block _ hz5).trans HX5.out)
      have hz6 : wr.heap.size < w6.heap.size := Nat.lt_of_lt_of_le hz5 hb6.size
      clear hb6 HB5 HX5 hz5 H1 e0 e1
      obtain ⟨e0, e1⟩ := pair_of_block HX6.out
      have H2 := Lib.hid (HAT2.out x.p w6 (HBr.out.trans (HB6.out.mono HBr.out.size)) hl2)
      go_wp2_with fail
      refine H2.out.mono ?_
      rintro e w7 ⟨rfl, hb7⟩
      have HB7 : Hid (Below wr.heap.size wr w7) := HB6.out.trans (hb7.mono HB6.out.size)
      have HX7 := Lib.hid ((hb7.block _ hz6).trans HX6.out)
      have hz7 : wr.heap.size < w7.heap.size := Nat.lt_of_lt_of_le hz6 hb7.size
      clear hb7 HB6 HX6 hz6 H2 e0 e1
      obtain ⟨e0, e1⟩ := pair_of_block HX7.out
      have HCO := Lib.hid (contains_any (.slice va (evL old new).length vc) (srt (evL old new)) a (by rw [srt_len]; omega) w7 (by
        have := HEV4.out.below (HB.out.trans (HB7.out.mono hz4))
        exact this))
      rw [HAL.out, HDEC.out] at HCO
      clear HDEC
      go_upto_region 14 with fail
      generalize hS1 : (lookO old x.p).isSome = S1 at *
      generalize hS2 : (lookO new x.p).isSome = S2 at *
      generalize hB1 : lookB old x.p = B1 at *
      generalize hB2 : lookB new x.p = B2 at *
      have HS2 := Lib.hid hS2
      have HB2' := Lib.hid hB2
      clear hS1 hS2 hB1 hB2
      go_cut [34, 71] from 34 to 106 (fun s34 s71 wx => s34 = .int .i64 k ∧ s71 = .bool false ∧ w7 = wx)
      case first =>
        generalize hD : ((S1 != S2) || decide (B1 ≠ B2)) = D at HCO
        by_cases hB : B1 = B2
        · have hbe : (B1.toList == B2.toList) = true := by rw [hB]; simp
          rw [decide_eq_false (by simpa using hB)] at hD
          clear hB
          cases S1 <;> cases S2
          all_goals
            simp only [Bool.or_false] at hD
            subst hD
            go_wp2_with (go_at_call 9; (with_reducible refine HCO.out.mono ?_); rintro e w' ⟨rfl, rfl⟩)
            go_meet
            exact ⟨rfl, rfl, rfl⟩
        · have hbe : (B1.toList == B2.toList) = false := str_neO hB
          rw [decide_eq_true hB, Bool.or_true] at hD
          clear hB
          subst hD
          cases S1 <;> cases S2
          all_goals
            go_wp2_with (go_at_call 9; (with_reducible refine HCO.out.mono ?_); rintro e w' ⟨rfl, rfl⟩)
            go_meet
            exact ⟨rfl, rfl, rfl⟩
      case rest =>
        obtain ⟨rfl, rfl, hww⟩ := hcut
        subst hww
        have HS7 := Lib.hid (HSV.out x HN.out HPX.out w7 (HBr.out.trans (HB7.out.mono HBr.out.size)))
        unfold SvP at HS7
        rw [HAE.out] at HS7
        clear HCO
        go_wp2_with fail
        refine HS7.out.mono ?_
        rintro e w8 ⟨rc, rp, rb, rr, rfl, hb8, hsv⟩
        have hb9 : Below w8.heap.size w8 (w8.alloc (.cells #[.int .i64 rc, .string rp, .string rb] 37)) := below_alloc _ _
        have hb79 : Below w7.heap.size w7 (w8.alloc (.cells #[.int .i64 rc, .string rp, .string rb] 37)) := hb8.trans (hb9.mono hb8.size)
        have HB9 : Hid (Below w4.heap.size w4 (w8.alloc (.cells #[.int .i64 rc, .string rp, .string rb] 37))) := HB.out.trans ((HB7.out.trans (hb79.mono HB7.out.size)).mono hz4)
        have HX9 := Lib.hid ((hb79.block _ hz7).trans HX7.out)
        have HY9 : Hid ((w8.alloc (.cells #[.int .i64 rc, .string rp, .string rb] 37)).heap[w8.heap.size]? = some (.cells #[.int .i64 rc, .string rp, .string rb] 37 (0, 0))) := heap_alloc_new _ _
        clear e0 e1 hb8 hb9 hb79 HS7
        cases S2 with
        | false =>
          clear hsv
          go_wp2_with fail
          go_roundw
          case rel => exact ⟨k + 1, by omega, by go_num, HB9.out⟩
          case measure => simp [intOf]; omega
        | true =>
          obtain ⟨bb, hbb⟩ : ∃ bb, lookO new x.p = some bb := Option.isSome_iff_exists.1 HS2.out
          have hB2 : B2 = bb := by rw [← HB2'.out]; unfold lookB; rw [hbb]; rfl
          subst hB2
          by_cases hsz : (a.size : Int) ≤ 200
          · obtain ⟨rfl, rfl, rfl, rfl⟩ := hsv.out _ hbb (by omega)
            obtain ⟨e0, e1⟩ := pair_of_block HX9.out
            obtain ⟨⟨t0, t1, t2⟩, _⟩ := three_open HY9.out
            clear hsv hbb
            go_wp2_with fail
            go_roundw
            case rel => exact ⟨k + 1, by omega, by go_num, HB9.out⟩
            case measure => simp [intOf]; omega
          · clear hsv hbb
            go_wp2_with fail
            go_roundw
            case rel => exact ⟨k + 1, by omega, by go_num, HB9.out⟩
            case measure => simp [intOf]; omega
    · have HBe : Hid (Below w.heap.size w wr) := HB4.out.trans (HB.out.mono HB4.out.size)
      have HIS := Lib.hid (isSorted_any (.slice va (evL old new).length vc) (srt (evL old new)) (by rw [srt_len]; omega) (fun i hi => by
        unfold kl stB
        exact decide_eq_false (srt_sorted _ i hi)) wr (HEV4.out.below HB.out))
      clear HAT HEV4
      go_wp2_with fail
      refine HIS.out.mono ?_
      rintro e w9 ⟨rfl, hb9⟩
      have HB9 : Hid (Below w.heap.size w w9) := HBe.out.trans (hb9.mono HBe.out.size)
      clear hb9 HIS
      go_wp2_with fail
      go_ret
      exact ⟨rfl, HB9.out⟩
end Go.Proofs.YtdnajcohdhkidaaDoor
