/- strings.makeGenericReplacer at mark.Unescape's five pairs: the walk. Conditions: the strings in memory. -/
import Derived.Test.YtoalbfffojpnmaaDoorUnC
import Derived.StillTailTactics
namespace Go.Proofs.YtoalbfffojpnmaaDoor
open Go.RowKit Mh
set_option linter.unusedVariables false

theorem zero_gen : Tryd.zeroCells115 = (gRow nilT 0 (mkB (preU 0))).toArray := by
  show _ = (gRow (.slice none 0 0) 0 (mkB (preU 0))).toArray
  rw [gRow_start]
  kernel_rfl
theorem Sub.same {b0 : Nat} {W W1 : World} (sm : Same W W1) {n1 : Nat} : ∀ {k : Nat}, Sub b0 W n1 k → Sub b0 W1 n1 k
  | 0, _ => trivial
  | 1, h => by
    obtain ⟨h1, q, h2, h3, h4⟩ := h
    exact ⟨h1, q, h2, h3.kept (sm.kept []) (by simp), h4.kept (sm.kept []) (by simp)⟩
  | k + 2, h => by
    obtain ⟨h1, T1, row, h2, h3, h4, h5⟩ := h
    refine ⟨h1, T1, row, h2, h3.kept (sm.kept []) (by simp), by rw [sm.heap]; exact h4, h5.len, fun e he => ?_, h5.rest⟩
    obtain ⟨b, hb, g1, q, g2, g3, g4⟩ := h5.at_ e he
    exact ⟨b, hb, g1, q, g2, g3.kept (sm.kept []) (by simp), g4.kept (sm.kept []) (by simp)⟩
theorem Tr.same {b0 : Nat} {W W1 : World} (sm : Same W W1) {r k : Nat} (h : Tr b0 W r k) : Tr b0 W1 r k := by
  obtain ⟨⟨T0, hT0, hr, n1, ht, hs⟩, hlo⟩ := h
  exact ⟨⟨T0, hT0, by rw [sm.heap]; exact hr, n1, by rw [sm.heap]; exact ht, Sub.same sm hs⟩, hlo⟩
structure GAt (w wr : World) (tab : Value) (ts : Int) (f : Nat → Int) : Prop where
  blk : wr.heap[w.heap.size]? = some (.cells (gRow tab ts f).toArray 115 (0, 0))
  below : Below w.heap.size w wr
theorem GAt.set {w wr : World} {tab : Value} {ts : Int} {f : Nat → Int} (h : GAt w wr tab ts f) {c : Nat} (hc : c < 256) (x : Int) : GAt w (wr.setCell ⟨w.heap.size, 6 + c, none⟩ (.int .u8 x)) tab ts (fun d => if d = c then x else f d) := by
  refine ⟨?_, h.below.setCell (Nat.le_refl _) _⟩
  rw [heap_setCell_same _ _ (6 + c) _ _ _ h.blk, ← gRow_set tab ts f hc x]
  simp
theorem GAt.cell {w wr : World} {tab : Value} {ts : Int} {f : Nat → Int} (h : GAt w wr tab ts f) {c : Nat} (hc : c < 256) : wr.cell? ⟨w.heap.size, 6 + c, none⟩ = some (.int .u8 (f c)) ∧ wr.frozen? ⟨w.heap.size, 6 + c, none⟩ = false :=
  ⟨cellT h.blk (by rw [List.getElem?_toArray]; exact gRow_get _ _ _ hc), frozenT h.blk⟩
theorem GAt.drew {w wr : World} {tab : Value} {ts : Int} {f : Nat → Int} (h : GAt w wr tab ts f) : GAt w wr.drew tab ts f := ⟨h.blk, h.below.drew⟩
theorem GAt.c5 {w wr : World} {tab : Value} {ts : Int} {f : Nat → Int} (h : GAt w wr tab ts f) : wr.cell? ⟨w.heap.size, 5, none⟩ = some (.int .i64 ts) ∧ wr.frozen? ⟨w.heap.size, 5, none⟩ = false :=
  ⟨cellT h.blk (by rw [List.getElem?_toArray]; rfl), frozenT h.blk⟩
theorem GAt.set5 {w wr : World} {tab : Value} {ts : Int} {f : Nat → Int} (h : GAt w wr tab ts f) (x : Int) : GAt w (wr.setCell ⟨w.heap.size, 5, none⟩ (.int .i64 x)) tab x f := by
  refine ⟨?_, h.below.setCell (Nat.le_refl _) _⟩
  rw [heap_setCell_same _ _ 5 _ _ _ h.blk, ← gRow_set5 tab ts x f]
  simp
theorem byte_take {s : ByteArray} {m : Nat} (h : m < s.size) : (byteN s).take (m + 1) = (byteN s).take m ++ [s[m].toNat] := by
  unfold byteN
  have hl : m < s.data.toList.length := by rw [Array.length_toList]; exact h
  rw [List.take_succ_eq_append_getElem (by simpa using hl)]
  simp [← Array.getElem_toList, ByteArray.getElem_eq_getElem_data]
theorem byte_all (s : ByteArray) : (byteN s).take s.size = byteN s := by
  apply List.take_of_length_le
  unfold byteN
  rw [List.length_map, Array.length_toList]; exact Nat.le_refl _
theorem unL_len (i : Nat) (h : i < 10) : (unL[i]'h).size ≤ 6 := by
  have ha : ∀ s ∈ unL, s.size ≤ 6 := by decide
  exact ha _ (List.getElem_mem h)
set_option maxRecDepth 100000 in
set_option maxHeartbeats 8000000 in
theorem make_any (q oc : Nat) (w : World) (hq : ∀ i (h : i < 10), w.cell? ⟨q, i, none⟩ = some (.string (unL[i]'h))) :
    Calls Tryd.prog 55 #[.slice (some ⟨q, 0, none⟩) 10 oc] w fun e w' => ∃ r, e = .returned (ptr r) ∧ Hid (Tr w.heap.size w' r 5) ∧ Below w.heap.size w w' := by
  have hz := zero_gen
  have HQ : Hid (∀ wr, Below w.heap.size w wr → ∀ i (h : i < 10), wr.cell? ⟨q, i, none⟩ = some (.string (unL[i]'h))) := fun wr hb i h => (hb.cell (p := ⟨q, i, none⟩) (World.block_lt_of_cell? w _ (hq i h))).trans (hq i h)
  clear hq
  go_enter Tryd.func55, Tryd.ntmps55
  go_wp2_with fail
  go_loopw [4] (fun i wr => ∃ k : Nat, k ≤ 5 ∧ i = .int .i64 ((2 * k : Nat) : Int) ∧ Hid (GAt w wr nilT 0 (mkB (preU k)))) (fun i _ => 10 - (intOf i).toNat)
  case atStart => exact ⟨0, by omega, rfl, ⟨by rw [← zero_gen]; exact heap_alloc_new _ _, below_new _ _⟩⟩
  case round =>
    obtain ⟨k, hk, rfl, HG⟩ := hrel
    by_cases hlt : k < 5
    ·
      -- S1
      have h10 : 2 * k < 10 := by omega
      have hl10 : ((2 * k : Nat) : Int) < 10 := by omega
      have c1 := HQ.out _ HG.out.below (2 * k) h10
      have hgd : unL.getD (2 * k) ⟨#[]⟩ = unL[2 * k]'h10 := by rw [List.getD_eq_getElem?_getD, List.getElem?_eq_getElem h10]; rfl
      have hsz := unL_len _ h10
      have HGD := Lib.hid hgd
      clear hgd
      generalize hs : unL[2 * k]'h10 = s at *
      clear hs
      generalize hn : 2 * k = n at *
      have HN := Lib.hid hn
      clear hn
      go_wp2_with fail
      go_loopw [6] (fun j wx => ∃ m : Nat, m ≤ s.size ∧ j = .int .i64 (m : Int) ∧ Hid (GAt w wx nilT 0 (mkB (preU k ++ (byteN s).take m)))) (fun j _ => s.size - (intOf j).toNat)
      case atStart => exact ⟨0, by omega, rfl, by simpa using HG⟩
      case round =>
        obtain ⟨m, hm, rfl, HX⟩ := hrel
        by_cases hml : m < s.size
        · have h256 : s[m].toNat < 256 := UInt8.toNat_lt _
          obtain ⟨d1, d2⟩ := HX.out.cell h256
          have hmI : (m : Int) < s.size := by omega
          have h256I : (s[m].toNat : Int) < 256 := by omega
          have HN2 : Hid (GAt w (wr.setCell ⟨w.heap.size, 6 + s[m].toNat, none⟩ (.int .u8 1)).drew nilT 0 (mkB (preU k ++ (byteN s).take (m + 1)))) := by
            rw [byte_take hml, ← List.append_assoc, ← mkB_snoc]
            exact (HX.out.set h256 1).drew
          clear h256
          go_wp2_with fail
          go_region
          all_goals
            go_wp2_with fail
            go_roundw
            case rel => exact ⟨m + 1, by omega, by go_num, HN2⟩
            case measure => first | (simp [intOf]; omega) | go_num
        · obtain rfl : m = s.size := by omega
          go_wp2_with fail
          go_roundw
          case rel => exact ⟨k + 1, by omega, by rw [← HN.out]; go_num, by show GAt _ _ _ _ _; rw [preU_succ, HN.out, HGD.out]; have := HX.out; rw [byte_all] at this; exact this⟩
          case measure => first | (simp [intOf]; omega) | go_num
      -- E1
    · obtain rfl : k = 5 := by omega
      obtain ⟨arr, harr⟩ : ∃ a : List Value, a = (List.range 256).map fun c => Value.int .u8 (inK c) := ⟨_, rfl⟩
      have hc : ∀ j v, arr[j]? = some v → wr.cell? ⟨w.heap.size, 6 + j, none⟩ = some v := by
        intro j v hv
        rw [harr, List.getElem?_map] at hv
        by_cases hj : j < 256
        · rw [(HG.out.cell hj).1]
          simpa [hj, inK] using hv
        · simp [hj] at hv
      have hlen : arr.length = 256 := by rw [harr, List.length_map, List.length_range]
      have HIX : Hid (∀ c : Nat, c < 256 → ∀ w, (Instr.index 93 (.agg arr.toArray) (.int .i64 (c : Int))).run Tryd.prog w = .ok (.int .u8 (inK c)) w) := fun c hc w =>
        run_index_arr 93 5 256 arr.toArray Tryd.underlying93 (fun w => by kernel_rfl) (fun w => by kernel_rfl) c hc _ (by rw [harr, List.getElem?_toArray, List.getElem?_map]; simp [hc]) w
      have hin : (Tryd.prog.info? 93).map (·.size) = some arr.length := by rw [hlen]; kernel_rfl
      clear harr
      go_wp2_with fail
      refine wp_load_part 93 _ rfl w.heap.size 6 rfl arr 256 5 hc Tryd.underlying93 hin ?_
      go_simp
      go_wp2_with fail
      have HH : Hid (∀ wx, GAt w wx nilT (cntK 256) inK → ∀ j v, arr[j]? = some v → wx.cell? ⟨w.heap.size, 6 + j, none⟩ = some v) := by
        intro wx hx j v hv
        rw [← hc j v hv]
        have hj : j < 256 := by rw [← hlen]; exact (List.getElem?_eq_some_iff.1 hv).1
        rw [(hx.cell hj).1, (HG.out.cell hj).1]; rfl
      have HL := Lib.hid hlen
      have HI := Lib.hid hin
      have HGX : Hid (GAt w wr nilT (cntK 0) inK) := HG
      clear hc hlen hin HG
      go_loopw [41] (fun v wx => ∃ c : Nat, c ≤ 256 ∧ v = .int .i64 (c : Int) ∧ Hid (GAt w wx nilT (cntK c) inK)) (fun v _ => 256 - (intOf v).toNat)
      case atStart => exact ⟨0, by omega, rfl, HGX⟩
      case round =>
        obtain ⟨c, hc, rfl, HX⟩ := hrel
        by_cases hcl : c < 256
        ·
          -- S2
          have hcI : (c : Int) < 256 := by omega
          have hix := HIX.out c hcl
          have hb := inK_01 c
          have hb2 := cntK_bounds c
          have HN2 : Hid (GAt w (wr.setCell ⟨w.heap.size, 5, none⟩ (.int .i64 (cntK c + inK c))) nilT (cntK (c + 1)) inK) := by rw [cntK_succ]; exact HX.out.set5 _
          obtain ⟨d1, d2⟩ := HX.out.c5
          generalize inK c = F at *
          generalize cntK c = C at *
          have hF0 : 0 ≤ F := by omega
          have hF1 : F ≤ 1 := by omega
          have hC0 : 0 ≤ C := by omega
          have hC1 : C ≤ 256 := by omega
          clear hb hb2
          go_wp2_with fail
          go_roundw
          case rel => exact ⟨c + 1, by omega, by go_num, HN2⟩
          case measure => first | (simp [intOf]; omega) | go_num
          -- E2
        · have hce : c = 256 := by omega
          have hdc : decide ((c : Int) < 256) = false := decide_eq_false (by omega)
          have HX := show Hid (GAt w wr nilT (cntK 256) inK) by rw [← hce]; exact HX
          clear hce hc hcl
          have HX2 : Hid (GAt w wr nilT 14 (fun d => if d < 0 then mpK d else inK d)) := by have := HX.out; rw [cntK_all] at this; show GAt _ _ _ _ _; simpa using this
          have hc := HH.out _ HX.out
          clear HX
          go_wp2_with fail
          refine wp_load_part 93 _ rfl w.heap.size 6 rfl arr 256 5 hc Tryd.underlying93 HI.out ?_
          go_simp
          go_wp2_with fail
          go_loopw [58, 9] (fun v ix wx => ∃ c : Nat, c ≤ 256 ∧ v = .int .i64 (c : Int) ∧ ix = .int .u8 (cntK c) ∧ Hid (GAt w wx nilT 14 (fun d => if d < c then mpK d else inK d))) (fun v _ _ => 256 - (intOf v).toNat)
          case atStart => exact ⟨0, by omega, rfl, rfl, HX2⟩
          case round =>
            obtain ⟨c, hc, rfl, rfl, HX⟩ := hrel
            by_cases hcl : c < 256
            ·
              -- S3
              have hcI : (c : Int) < 256 := by omega
              have hix := HIX.out c hcl
              obtain ⟨d1, d2⟩ := HX.out.cell hcl
              obtain ⟨e1, e2⟩ := HX.out.c5
              have HS : Hid (∀ x, x = mpK c → GAt w (wr.setCell ⟨w.heap.size, 6 + c, none⟩ (.int .u8 x)) nilT 14 (fun d => if d < c + 1 then mpK d else inK d)) := by
                rintro x rfl
                have := HX.out.set hcl (mpK c)
                rw [show (fun d => if d < c + 1 then mpK d else inK d) = (fun d => if d = c then mpK c else if d < c then mpK d else inK d) from ?_]
                · exact this
                · funext d
                  by_cases h1 : d = c
                  · subst h1; simp
                  · by_cases h2 : d < c
                    · rw [if_pos (by omega), if_neg h1, if_pos h2]
                    · rw [if_neg (by omega), if_neg h1, if_neg h2]
              rcases inK_01 c with hF | hF
              · have HS2 := Lib.hid (HS.out 14 (by unfold mpK; rw [if_pos hF]))
                have HCS : Hid (cntK (c + 1) = cntK c) := by show _ = _; rw [cntK_succ, hF]; omega
                rw [hF] at hix
                clear hF
                go_wp2_with fail
                go_region
                all_goals
                  go_wp2_with fail
                  go_roundw
                  case rel => exact ⟨c + 1, by omega, by go_num, by rw [HCS.out], HS2.out.drew⟩
                  case measure => first | (simp [intOf]; omega) | go_num
              · have HS2 := Lib.hid (HS.out (cntK c) (by unfold mpK; rw [if_neg (by omega)]))
                have hlt14 : cntK (c + 1) ≤ 14 := by rw [← cntK_all]; exact cntK_mono (by omega)
                have HCS : Hid (cntK (c + 1) = cntK c + 1) := by show _ = _; rw [cntK_succ, hF]
                rw [HCS.out] at hlt14
                have hge := (cntK_bounds c).1
                rw [hF] at hix
                clear hF
                generalize cntK c = I at *
                go_wp2_with fail
                go_roundw
                case rel => exact ⟨c + 1, by omega, by go_num, by rw [HCS.out], HS2⟩
                case measure => first | (simp [intOf]; omega) | go_num
              -- E3
            · have hce : c = 256 := by omega
              have hdc : decide ((c : Int) < 256) = false := decide_eq_false (by omega)
              have HX := show Hid (GAt w wr nilT 14 (fun d => if d < 256 then mpK d else inK d)) by rw [← hce]; exact HX
              clear hce hc hcl
              obtain ⟨d1, d2⟩ := HX.out.c5
              have hrl : w.heap.size < wr.heap.size := (Array.getElem?_eq_some_iff.1 HX.out.blk).1
              have d4 : ∀ ob, (wr.alloc ob).cell? ⟨w.heap.size, 4, none⟩ = some (.slice none 0 0) := fun ob => by rw [World.cell?_alloc_lt _ _ _ hrl]; exact cellT HX.out.blk (by rw [List.getElem?_toArray]; rfl)
              have d5 : ∀ ob, (wr.alloc ob).frozen? ⟨w.heap.size, 4, none⟩ = false := fun ob => by rw [World.frozen?_alloc_past _ _ _ hrl]; exact frozenT HX.out.blk
              have HT : Hid (∀ W, W = (wr.setCell ⟨w.heap.size, 4, none⟩ (.slice (some ⟨wr.heap.size, 0, none⟩) 14 14)).alloc (.cells (List.replicate 14 nilP).toArray 110 (0, 0)) → Hid (Tr w.heap.size W w.heap.size 0) ∧ Hid (Below w.heap.size w W)) := by
                rintro W rfl
                refine ⟨⟨⟨wr.heap.size, by omega, ?_, 0, ?_, trivial⟩, Nat.le_refl _⟩, (HX.out.below.setCell (Nat.le_refl _) _).alloc (by simpa using HX.out.below.size) _⟩
                · rw [heap_alloc_old _ _ (by simpa using hrl), heap_setCell_same _ _ 4 _ _ _ HX.out.blk, ← gRow_congr (.slice (some ⟨wr.heap.size, 0, none⟩) 14 14) 14 (f := fun d => if d < 256 then mpK d else inK d) (fun c hc => if_pos hc), ← gRow_set4 nilT]
                  first | (simp; done) | (simp; rfl) | rfl
                · exact heap_new_at (by simp)
              have hmk := mk14
              clear HX HIX HI HL HH HX2 HGX
              go_wp2_with fail
              go_loopw [12] (fun i wx => ∃ k : Nat, k ≤ 5 ∧ i = .int .i64 ((2 * k : Nat) : Int) ∧ Hid (Tr w.heap.size wx w.heap.size k) ∧ Hid (Below w.heap.size w wx)) (fun i _ => 10 - (intOf i).toNat)
              case atStart => exact ⟨0, by omega, rfl, (HT.out _ rfl).1, (HT.out _ rfl).2⟩
              case round =>
                obtain ⟨k, hk, rfl, HR, HB⟩ := hrel
                by_cases hlt : k < 5
                ·
                  -- S4
                  have h10 : 2 * k < 10 := by omega
                  have h11 : 2 * k + 1 < 10 := by omega
                  have hl10 : ((2 * k : Nat) : Int) < 10 := by omega
                  have hl11 : ((2 * k : Nat) : Int) + 1 < 10 := by omega
                  have c1 := HQ.out _ HB.out (2 * k) h10
                  have c2 := HQ.out _ HB.out (2 * k + 1) h11
                  have hg1 : unL.getD (2 * k) ⟨#[]⟩ = unL[2 * k]'h10 := by rw [List.getD_eq_getElem?_getD, List.getElem?_eq_getElem h10]; rfl
                  have hg2 : unL.getD (2 * k + 1) ⟨#[]⟩ = unL[2 * k + 1]'h11 := by rw [List.getD_eq_getElem?_getD, List.getElem?_eq_getElem h11]; rfl
                  have HA := Lib.hid (fun W (sm : Same wr W) => add_step w.heap.size w.heap.size k hlt W (Tr.same sm HR.out))
                  rw [hg1, hg2] at HA
                  have hpr : (10 - 2 * (k : Int)) = 10 - ((2 * k : Nat) : Int) := by omega
                  rw [hpr] at HA
                  clear hg1 hg2 hpr
                  generalize unL[2 * k]'h10 = s at *
                  generalize unL[2 * k + 1]'h11 = s2 at *
                  generalize hn : 2 * k = n at *
                  have HN := Lib.hid hn
                  clear hn
                  have hl0 : (0 : Int) ≤ (n : Int) + 1 := by omega
                  have hwr : IntKind.i64.wrap ((n : Int) + 1) = (n : Int) + 1 := IntWalk.i64_in _ (by omega)
                  have hwr2 : IntKind.i64.wrap (10 - (n : Int)) = 10 - (n : Int) := IntWalk.i64_in _ (by omega)
                  have hlt2 : ((n : Int) + 1).toNat = n + 1 := by omega
                  go_wp2_with fail
                  have HS : Hid (Same wr wr) := Same.refl wr
                  have HBW : Hid (∀ w', Below w.heap.size wr w' → Below w.heap.size w w') := fun w' hb => HB.out.trans hb
                  go_still_tail 17, (by kernel_rfl)
                  generalize hwn : World.drew _ = wn at *
                  have HSN : Hid (Same wr wn) := by rw [← hwn]; exact HS.out.drew
                  go_wp2_with (go_at_call 61; refine (HA.out _ HSN.out).mono ?_; rintro e w' ⟨rfl, HT2, hb2⟩)
                  all_goals
                    have hs3 : wr.heap.size ≤ wn.heap.size := by rw [HSN.out.heap]; exact Nat.le_refl _
                    have HB2 : Hid (Below w.heap.size w w') := HB.out.trans ((HSN.out.kept []).below (B := w.heap.size) HB.out.size (by simp) |>.trans hb2)
                    clear hb2
                    go_wp2_with fail
                    go_roundw
                    case rel =>
                      exact ⟨k + 1, by omega, by rw [← HN.out]; go_num, HT2, HB2⟩
                    case measure => first | (simp [intOf]; omega) | go_num
                  -- E4
                · obtain rfl : k = 5 := by omega
                  go_wp2_with fail
                  go_ret
                  exact ⟨_, rfl, HR, HB.out⟩
end Go.Proofs.YtoalbfffojpnmaaDoor
