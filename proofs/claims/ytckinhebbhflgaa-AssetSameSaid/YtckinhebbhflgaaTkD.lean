/- asset.divided: a string in tokens. Conditions: its size; the library's variable MaxLen holds an integer. -/
import Derived.Test.YtckinhebbhflgaaTkP
namespace Go.Proofs.Ytckinhebbhflgaa
open Go.RowKit Mh
set_option linter.unusedVariables false

set_option maxRecDepth 100000 in
set_option maxHeartbeats 16000000 in
theorem divided_any (s : ByteArray) (sc : Bool) (w : World) (hs : s.size ≤ 1000000) (hml : ML 0 w) : Calls Try.prog 11 #[.string s, .bool sc] w (DvR s sc w) := by
  have hgl := hml.lt
  have HML := Lib.hid hml
  clear hml
  go_enter Try.func11, Try.ntmps11
  go_wp2_with fail
  go_loopw [8] (fun i wr => ∃ (j : Nat) (P : List PT) (v : Value), j ≤ s.size ∧ i = .int .i64 j ∧ Sc w.heap.size s sc v wr ∧ wr.ownsRow (w.heap.size + 1) 72 4 v P.length (rowsP P) ∧ Hid (Below w.heap.size w wr) ∧ Hid (DvIn s sc P j)) (fun i _ => s.size - (intOf i).toNat)
  case atStart => exact ⟨0, [], .slice none 0 0, Nat.zero_le _, rfl, heap_alloc_new _ _, World.ownsRow_nil _ _ _ _, (Below.refl _ w).alloc (Nat.le_refl _) _, DvIn.start s sc⟩
  case round =>
    obtain ⟨j, P, v, hjs, rfl, hsc, hown, HBW, HI⟩ := hrel
    have HSC := Lib.hid hsc
    have HOW := Lib.hid hown
    have hwr : w.heap.size < wr.heap.size := hsc.lt
    have hPn : P.length ≤ 1000000 := by have := HI.out.1; omega
    obtain ⟨wo, hwo⟩ : ∃ wo : World, wr = wo := ⟨_, rfl⟩
    subst hwo
    clear hsc hown
    by_cases hj : j < s.size
    · have hmw : ML 0 wr := HML.out.below HBW.out hgl
      have HBd := Lib.hid (fun w' => badByte_any s[j] w')
      have HBl := Lib.hid (fun w' => isBlank_any s[j] w')
      have HCm := Lib.hid (comment_any _ s sc v wr HSC.out j hjs hs hmw)
      have HTx := Lib.hid (text_any _ s sc v wr HSC.out j hj hs)
      have HMk := Lib.hid (isMark_any _ s sc v wr HSC.out s[j])
      have HCk := Lib.hid (fun f t hf ht => checked_any _ s sc v wr HSC.out f t hf ht hs)
      have HBk := Lib.hid (blank_any _ s sc v wr HSC.out j ((s.data.toList.drop (j + 1)).length + 2) hjs (by simp; omega) hs hmw)
      have HAd := Lib.hid (fun kind f t hf ht => add_any _ s sc v P.length (rowsP P) wr HSC.out HOW.out kind f t hf ht hs hPn)
      have HBg := Lib.hid (fun e he => begins_any _ s sc v wr HSC.out e he hs hmw)
      have e := drop_at s j hj
      have t34 : ((s[j].toNat : Int) == 34) = (s[j] == 34) := u8_beq s[j] 34
      have t39 : ((s[j].toNat : Int) == 39) = (s[j] == 39) := u8_beq s[j] 39
      have t0 := comment_isSome s sc j
      clear hmw
      cases hbd : bad s[j] with
      | true =>
        rw [hbd] at HBd
        have HN := Lib.hid (HI.out.none hj (fun m => by rw [e]; exact tk_bad hbd))
        clear e t34 t39 t0 hbd
        go_wp2_with (go_at_call 18; refine (HBd.out _).mono ?_; rintro e w' ⟨rfl, rfl⟩)
        go_ret3
        exact ⟨_, _, _, rfl, HBW.out, .inl ⟨by decide, rfl, HN.out⟩⟩
      | false =>
      rw [hbd] at HBd
      have HCI : Hid (cmI s sc j = cmI s sc j) := rfl
      cases hbl : blk s[j] with
      | true =>
        rw [hbl] at HBl
        have HCS : Hid ((blk s[j] || (cm sc (s.data.toList.drop j)).isSome) = true) := by show _ = _; rw [hbl]; rfl
        clear t0 hbl
        -- a blank
        cases hbe : bend sc ((s.data.toList.drop (j + 1)).length + 2) (s.data.toList.drop j) with
        | none =>
          have HN := Lib.hid (HI.out.none hj (fun m => by rw [e] at hbe HCS ⊢; exact tk_blank0 hbd HCS.out hbe))
          have HBR : Hid (∀ X Y Z, BlkR s sc j ((s.data.toList.drop (j + 1)).length + 2) X Y Z → Z ≠ 0) := by
            rintro X Y Z (⟨k, h, _⟩ | ⟨_, h⟩)
            · rw [hbe] at h; cases h
            · exact h
          clear e t34 t39 hbd hbe
          go_wp2_with (first | (first | (go_at_call 18; refine (HBd.out _).mono ?_; rintro e w' ⟨rfl, rfl⟩) | (go_at_call 19; refine (HBl.out _).mono ?_; rintro e w' ⟨rfl, rfl⟩)) | (go_at_call 21; refine HBk.out.mono ?_; rintro e w' ⟨X, Y, Z, rfl, hR, rfl⟩; have hZ := HBR.out _ _ _ hR; have hZ2 : (Z != 0) = true := (by simpa using hZ); have HZ := Lib.hid hZ; clear hR hZ))
          go_ret3
          exact ⟨_, _, _, rfl, HBW.out, .inl ⟨HZ.out, rfl, HN.out⟩⟩
        | some k =>
          have hk1 := bend_pos sc _ _ _ k (by rw [← e]; exact hbe) (by rw [← e]; exact HCS.out)
          obtain ⟨E, hE⟩ : ∃ E : Nat, E = j + k := ⟨_, rfl⟩
          have HBR : Hid (∀ X Y Z, BlkR s sc j ((s.data.toList.drop (j + 1)).length + 2) X Y Z → X = (E : Int) ∧ Y = 0 ∧ Z = 0 ∧ E ≤ s.size) := by
            rintro X Y Z (⟨k', h, hX, hY, hZ, hl⟩ | ⟨h, _⟩)
            · rw [hbe] at h; injection h with h; subst h; exact ⟨by omega, hY, hZ, by omega⟩
            · rw [hbe] at h; cases h
          have HN : Hid (E ≤ s.size → DvIn s sc (P ++ [(⟨4, [32]⟩, j, E)]) E) := by
            intro hl
            have := HI.out.next (k := k) (x := ⟨4, [32]⟩) hj hk1 (by omega) j E (fun m => by have h2 := HCS.out; rw [e] at hbe h2 ⊢; rw [tk_blank hbd h2 hbe, ← e, List.drop_drop])
            rw [← hE] at this
            exact this
          have HR : Hid (rowsP P ++ [.int .i64 4, .string (addT s 4 j E), .int .i64 j, .int .i64 E] = rowsP (P ++ [(⟨4, [32]⟩, j, E)])) := by show _ = _; rw [rowsP_snoc]; rfl
          have hjE : j < E := by omega
          clear e t34 t39 hbd hbe hE
          go_wp2_with (first | (first | (go_at_call 18; refine (HBd.out _).mono ?_; rintro e w' ⟨rfl, rfl⟩) | (go_at_call 19; refine (HBl.out _).mono ?_; rintro e w' ⟨rfl, rfl⟩)) | (go_at_call 21; refine HBk.out.mono ?_; rintro e w' ⟨X, Y, Z, rfl, hR, rfl⟩; obtain ⟨rfl, rfl, rfl, hES⟩ := HBR.out _ _ _ hR; clear hR) | (go_at_call 22; refine (HAd.out 4 j E (by omega) (by omega)).mono ?_; rintro e w2 ⟨rfl, ⟨v2, hsc2, hown2⟩, hb2⟩; rw [HR.out] at hown2; have HB2 : Hid (Below w.heap.size w w2) := HBW.out.trans hb2; clear hb2))
          go_roundw
          case rel => exact ⟨E, P ++ [(⟨4, [32]⟩, j, E)], v2, hES, rfl, hsc2, by rw [List.length_append]; exact hown2, HB2, Lib.hid (HN.out hES)⟩
          case measure => simp [intOf]; omega
      | false =>
      rw [hbl] at HBl
      obtain ⟨C, hC⟩ : ∃ C, C = cmI s sc j := ⟨_, rfl⟩
      rw [← hC] at HCm t0
      cases hcs : (cm sc (s.data.toList.drop j)).isSome with
      | true =>
        rw [hcs] at t0
        have HCS : Hid ((blk s[j] || (cm sc (s.data.toList.drop j)).isSome) = true) := by show _ = _; rw [hcs, hbl]; rfl
        clear hbl hcs hC
        -- a blank
        cases hbe : bend sc ((s.data.toList.drop (j + 1)).length + 2) (s.data.toList.drop j) with
        | none =>
          have HN := Lib.hid (HI.out.none hj (fun m => by rw [e] at hbe HCS ⊢; exact tk_blank0 hbd HCS.out hbe))
          have HBR : Hid (∀ X Y Z, BlkR s sc j ((s.data.toList.drop (j + 1)).length + 2) X Y Z → Z ≠ 0) := by
            rintro X Y Z (⟨k, h, _⟩ | ⟨_, h⟩)
            · rw [hbe] at h; cases h
            · exact h
          clear e t34 t39 hbd hbe
          go_wp2_with (first | (first | (go_at_call 18; refine (HBd.out _).mono ?_; rintro e w' ⟨rfl, rfl⟩) | (go_at_call 19; refine (HBl.out _).mono ?_; rintro e w' ⟨rfl, rfl⟩) | (go_at_call 20; refine HCm.out.mono ?_; rintro e w' ⟨rfl, rfl⟩)) | (go_at_call 21; refine HBk.out.mono ?_; rintro e w' ⟨X, Y, Z, rfl, hR, rfl⟩; have hZ := HBR.out _ _ _ hR; have hZ2 : (Z != 0) = true := (by simpa using hZ); have HZ := Lib.hid hZ; clear hR hZ))
          go_ret3
          exact ⟨_, _, _, rfl, HBW.out, .inl ⟨HZ.out, rfl, HN.out⟩⟩
        | some k =>
          have hk1 := bend_pos sc _ _ _ k (by rw [← e]; exact hbe) (by rw [← e]; exact HCS.out)
          obtain ⟨E, hE⟩ : ∃ E : Nat, E = j + k := ⟨_, rfl⟩
          have HBR : Hid (∀ X Y Z, BlkR s sc j ((s.data.toList.drop (j + 1)).length + 2) X Y Z → X = (E : Int) ∧ Y = 0 ∧ Z = 0 ∧ E ≤ s.size) := by
            rintro X Y Z (⟨k', h, hX, hY, hZ, hl⟩ | ⟨h, _⟩)
            · rw [hbe] at h; injection h with h; subst h; exact ⟨by omega, hY, hZ, by omega⟩
            · rw [hbe] at h; cases h
          have HN : Hid (E ≤ s.size → DvIn s sc (P ++ [(⟨4, [32]⟩, j, E)]) E) := by
            intro hl
            have := HI.out.next (k := k) (x := ⟨4, [32]⟩) hj hk1 (by omega) j E (fun m => by have h2 := HCS.out; rw [e] at hbe h2 ⊢; rw [tk_blank hbd h2 hbe, ← e, List.drop_drop])
            rw [← hE] at this
            exact this
          have HR : Hid (rowsP P ++ [.int .i64 4, .string (addT s 4 j E), .int .i64 j, .int .i64 E] = rowsP (P ++ [(⟨4, [32]⟩, j, E)])) := by show _ = _; rw [rowsP_snoc]; rfl
          have hjE : j < E := by omega
          clear e t34 t39 hbd hbe hE
          go_wp2_with (first | (first | (go_at_call 18; refine (HBd.out _).mono ?_; rintro e w' ⟨rfl, rfl⟩) | (go_at_call 19; refine (HBl.out _).mono ?_; rintro e w' ⟨rfl, rfl⟩) | (go_at_call 20; refine HCm.out.mono ?_; rintro e w' ⟨rfl, rfl⟩)) | (go_at_call 21; refine HBk.out.mono ?_; rintro e w' ⟨X, Y, Z, rfl, hR, rfl⟩; obtain ⟨rfl, rfl, rfl, hES⟩ := HBR.out _ _ _ hR; clear hR) | (go_at_call 22; refine (HAd.out 4 j E (by omega) (by omega)).mono ?_; rintro e w2 ⟨rfl, ⟨v2, hsc2, hown2⟩, hb2⟩; rw [HR.out] at hown2; have HB2 : Hid (Below w.heap.size w w2) := HBW.out.trans hb2; clear hb2))
          go_roundw
          case rel => exact ⟨E, P ++ [(⟨4, [32]⟩, j, E)], v2, hES, rfl, hsc2, by rw [List.length_append]; exact hown2, HB2, Lib.hid (HN.out hES)⟩
          case measure => simp [intOf]; omega
      | false =>
      rw [hcs] at t0
      have HCS : Hid ((blk s[j] || (cm sc (s.data.toList.drop j)).isSome) = false) := by show _ = _; rw [hcs, hbl]; rfl
      clear hbl hcs hC
      cases hq : (s[j] == 34 || s[j] == 39) with
      | true =>
        obtain ⟨B34, h34⟩ : ∃ B, B = (s[j] == 34) := ⟨_, rfl⟩
        obtain ⟨B39, h39⟩ : ∃ B, B = (s[j] == 39) := ⟨_, rfl⟩
        have hqq : B34 = true ∨ (B34 = false ∧ B39 = true) := by
          rw [← h34, ← h39] at hq
          cases B34 with
          | true => exact .inl rfl
          | false => exact .inr ⟨rfl, by simpa using hq⟩
        rw [← h34] at t34
        rw [← h39] at t39
        clear h34 h39
        cases hse : strE s[j] (s.data.toList.drop (j + 1)) with
        | none =>
          have HN := Lib.hid (HI.out.none hj (fun m => by have h2 := HCS.out; rw [e] at h2 ⊢; exact tk_str0 hbd h2 hq hse))
          have HV : Hid (txI s s[j] j = -1) := by show _ = _; unfold txI; rw [hse]
          rw [HV.out] at HTx
          clear e hbd hq hse
          rcases hqq with rfl | ⟨rfl, rfl⟩
          all_goals
            go_wp2_with (first | (go_at_call 18; refine (HBd.out _).mono ?_; rintro e w' ⟨rfl, rfl⟩) | (go_at_call 19; refine (HBl.out _).mono ?_; rintro e w' ⟨rfl, rfl⟩) | (go_at_call 20; refine HCm.out.mono ?_; rintro e w' ⟨rfl, rfl⟩) | (go_at_call 23; refine HTx.out.mono ?_; rintro e w' ⟨rfl, rfl⟩))
            go_ret3
            exact ⟨_, _, _, rfl, HBW.out, .inl ⟨by decide, rfl, HN.out⟩⟩
        | some k =>
          obtain ⟨k1, k2, _⟩ := strE_take _ _ k hse
          obtain ⟨E, hE⟩ : ∃ E : Nat, E = j + (k + 1) := ⟨_, rfl⟩
          have hES : E ≤ s.size := by simp only [List.length_drop] at k2; have : s.data.toList.length = s.size := by simp
                                      omega
          have hjE : j < E := by omega
          have HV : Hid (txI s s[j] j = (E : Int)) := by show _ = _; unfold txI; rw [hse, hE]; show (j : Int) + 1 + k = _; omega
          rw [HV.out] at HTx
          have HCK := Lib.hid (HCk.out j E (by omega) hES)
          have hwd : (s.data.toList.drop j).take (E - j) = s[j] :: (s.data.toList.drop (j + 1)).take k := by rw [e, show E - j = k + 1 by omega, List.take_succ_cons]
          have hne : decide ((E : Int) < 0) = false := decide_eq_false (by omega)
          cases ha : ((s.data.toList.drop (j + 1)).take k).any bad with
          | true =>
            have HN := Lib.hid (HI.out.none hj (fun m => by have h2 := HCS.out; rw [e] at h2 ⊢; exact tk_strB hbd h2 hq hse ha))
            have HA : Hid (((s.data.toList.drop j).take (E - j)).any bad = true) := by show _ = _; rw [hwd, List.any_cons, ha]; simp
            clear e hbd hq hse ha hwd hE k2
            rcases hqq with rfl | ⟨rfl, rfl⟩
            all_goals
              go_wp2_with (first | (go_at_call 18; refine (HBd.out _).mono ?_; rintro e w' ⟨rfl, rfl⟩) | (go_at_call 19; refine (HBl.out _).mono ?_; rintro e w' ⟨rfl, rfl⟩) | (go_at_call 20; refine HCm.out.mono ?_; rintro e w' ⟨rfl, rfl⟩) | (go_at_call 23; refine HTx.out.mono ?_; rintro e w' ⟨rfl, rfl⟩) | (go_at_call 24; refine HCK.out.mono ?_; rintro e w' ⟨r, rfl, hr, rfl⟩; have hr0 : 0 ≤ r := hr.2 HA.out; have q3 : decide (0 ≤ r) = true := decide_eq_true hr0; clear hr))
              go_ret3
              exact ⟨_, _, _, rfl, HBW.out, .inl ⟨by decide, rfl, HN.out⟩⟩
          | false =>
            have HN := Lib.hid (HI.out.next (k := k + 1) (x := ⟨2, s[j] :: (s.data.toList.drop (j + 1)).take k⟩) hj (by omega) (by omega) j E (fun m => by have h2 := HCS.out; rw [e] at h2 ⊢; rw [tk_str hbd h2 hq hse ha, List.drop_drop, show j + 1 + k = j + (k + 1) by omega]))
            rw [← hE] at HN
            have HA : Hid (((s.data.toList.drop j).take (E - j)).any bad = false) := by show _ = _; rw [hwd, List.any_cons, ha, hbd]; rfl
            have HR : Hid (rowsP P ++ [.int .i64 2, .string (addT s 2 j E), .int .i64 j, .int .i64 E] = rowsP (P ++ [(⟨2, s[j] :: (s.data.toList.drop (j + 1)).take k⟩, j, E)])) := by
              show _ = _
              rw [rowsP_snoc]
              unfold addT rowP
              rw [if_neg (by decide), ext_take s j E (by omega) hES, hwd]
            generalize s[j] :: (s.data.toList.drop (j + 1)).take k = TX at *
            clear e hbd hq hse ha hwd hE k2
            rcases hqq with rfl | ⟨rfl, rfl⟩
            all_goals
              go_wp2_with (first | (go_at_call 18; refine (HBd.out _).mono ?_; rintro e w' ⟨rfl, rfl⟩) | (go_at_call 19; refine (HBl.out _).mono ?_; rintro e w' ⟨rfl, rfl⟩) | (go_at_call 20; refine HCm.out.mono ?_; rintro e w' ⟨rfl, rfl⟩) | (go_at_call 23; refine HTx.out.mono ?_; rintro e w' ⟨rfl, rfl⟩) | (go_at_call 24; refine HCK.out.mono ?_; rintro e w' ⟨r, rfl, hr, rfl⟩; have hr0 : ¬ 0 ≤ r := fun h => (by have := hr.1 h; rw [HA.out] at this; cases this); have q3 : decide (0 ≤ r) = false := decide_eq_false hr0; clear hr) | (go_at_call 22; refine (HAd.out 2 j E (by omega) (by omega)).mono ?_; rintro e w2 ⟨rfl, ⟨v2, hsc2, hown2⟩, hb2⟩; rw [HR.out] at hown2; have HB2 : Hid (Below w.heap.size w w2) := HBW.out.trans hb2; clear hb2))
              go_roundw
              case rel => exact ⟨E, P ++ [(⟨2, TX⟩, j, E)], v2, hES, rfl, hsc2, by rw [List.length_append]; exact hown2, HB2, HN⟩
              case measure => simp [intOf]; omega
      | false =>
      have q34 : (s[j] == 34) = false := by simp only [Bool.or_eq_false_iff] at hq; exact hq.1
      have q39 : (s[j] == 39) = false := by simp only [Bool.or_eq_false_iff] at hq; exact hq.2
      rw [q34] at t34
      rw [q39] at t39
      clear q34 q39
      cases hm : mrk sc s[j] with
      | true =>
        rw [hm] at HMk
        obtain ⟨E, hE⟩ : ∃ E : Nat, E = j + 1 := ⟨_, rfl⟩
        have HN := Lib.hid (HI.out.next (k := 1) (x := ⟨3, [s[j]]⟩) hj (Nat.le_refl _) (by omega) j (j + 1) (fun m => by have h2 := HCS.out; rw [e] at h2 ⊢; exact tk_mark hbd h2 hq hm))
        have HR : Hid (rowsP P ++ [.int .i64 3, .string (addT s 3 j (j + 1)), .int .i64 j, .int .i64 ((j + 1 : Nat) : Int)] = rowsP (P ++ [(⟨3, [s[j]]⟩, j, j + 1)])) := by
          show _ = _
          rw [rowsP_snoc]
          unfold addT rowP
          rw [if_neg (by decide), ext_take s j (j + 1) (by omega) (by omega), e, show j + 1 - j = 1 by omega]
          rfl
        generalize [s[j]] = TX at *
        clear e hbd hq hm hE
        go_wp2_with (first | (go_at_call 18; refine (HBd.out _).mono ?_; rintro e w' ⟨rfl, rfl⟩) | (go_at_call 19; refine (HBl.out _).mono ?_; rintro e w' ⟨rfl, rfl⟩) | (go_at_call 20; refine HCm.out.mono ?_; rintro e w' ⟨rfl, rfl⟩) | (go_at_call 25; refine HMk.out.mono ?_; rintro e w' ⟨rfl, rfl⟩) | (go_at_call 22; refine (HAd.out 3 j (j + 1) (by omega) (by omega)).mono ?_; rintro e w2 ⟨rfl, ⟨v2, hsc2, hown2⟩, hb2⟩; rw [HR.out] at hown2; have HB2 : Hid (Below w.heap.size w w2) := HBW.out.trans hb2; clear hb2))
        go_roundw
        case rel => exact ⟨j + 1, P ++ [(⟨3, TX⟩, j, j + 1)], v2, by omega, by go_num, hsc2, by rw [List.length_append]; exact hown2, HB2, HN⟩
        case measure => simp [intOf]; omega
      | false =>
      rw [hm] at HMk
      have HW : Hid (toks sc s.size s.data.toList = toks sc s.size s.data.toList) := rfl
      have HNX : Hid (∀ E : Nat, j < E → E ≤ s.size → wend sc (s.data.toList.drop (j + 1)) = E - (j + 1) → DvIn s sc (P ++ [(⟨1, (s.data.toList.drop j).take (E - j)⟩, j, E)]) E ∧ rowsP P ++ [.int .i64 1, .string (addT s 1 j E), .int .i64 j, .int .i64 E] = rowsP (P ++ [(⟨1, (s.data.toList.drop j).take (E - j)⟩, j, E)])) := by
        intro E hjE hES hwe
        have hwd : (s.data.toList.drop j).take (E - j) = s[j] :: (s.data.toList.drop (j + 1)).take (E - (j + 1)) := by rw [e, show E - j = (E - (j + 1)) + 1 by omega, List.take_succ_cons]
        constructor
        · have := HI.out.next (k := E - j) (x := ⟨1, (s.data.toList.drop j).take (E - j)⟩) hj (by omega) (by omega) j E (fun m => by
            have h2 := HCS.out
            rw [hwd]
            rw [e] at h2 ⊢
            rw [tk_word hbd h2 hq hm, hwe, List.drop_drop, show j + 1 + (E - (j + 1)) = j + (E - j) by omega])
          rw [show j + (E - j) = E by omega] at this
          exact this
        · rw [rowsP_snoc]
          unfold addT rowP
          rw [if_neg (by decide), ext_take s j E (by omega) hES]
      clear e hbd hq hm HW
      go_wp2_with (first | (go_at_call 18; refine (HBd.out _).mono ?_; rintro e w' ⟨rfl, rfl⟩) | (go_at_call 19; refine (HBl.out _).mono ?_; rintro e w' ⟨rfl, rfl⟩) | (go_at_call 20; refine HCm.out.mono ?_; rintro e w' ⟨rfl, rfl⟩) | (go_at_call 25; refine HMk.out.mono ?_; rintro e w' ⟨rfl, rfl⟩))
      go_loopw [15] (fun v wq => ∃ E : Nat, j < E ∧ E ≤ s.size ∧ v = .int .i64 E ∧ wr = wq ∧ Hid (wend sc (s.data.toList.drop (j + 1)) = (E - (j + 1)) + wend sc (s.data.toList.drop E))) (fun v _ => s.size - (intOf v).toNat)
      case atStart => exact ⟨j + 1, by omega, by omega, by go_num, rfl, by show _ = _; simp⟩
      case round =>
        obtain ⟨E, hjE, hES, rfl, rfl, HE⟩ := hrel
        by_cases hE : E < s.size
        · have HG := Lib.hid (HBg.out E hE)
          have e := drop_at s E hE
          cases hb : begins sc s[E] (s.data.toList.drop (E + 1)) with
          | true =>
            rw [hb] at HG
            obtain ⟨hN, hR⟩ := HNX.out E hjE hES (by rw [HE.out, e, wend_stop hb]; simp)
            have HN := Lib.hid hN
            have HR := Lib.hid hR
            obtain ⟨TX, hTX⟩ : ∃ TX, TX = (s.data.toList.drop j).take (E - j) := ⟨_, rfl⟩
            rw [← hTX] at HN HR
            clear e hb hN hR hTX
            go_wp2_with (first | (go_at_call 26; refine HG.out.mono ?_; rintro e w' ⟨rfl, rfl⟩) | (go_at_call 22; refine (HAd.out 1 j E (by omega) (by omega)).mono ?_; rintro e w2 ⟨rfl, ⟨v2, hsc2, hown2⟩, hb2⟩; rw [HR.out] at hown2; have HB2 : Hid (Below w.heap.size w w2) := HBW.out.trans hb2; clear hb2))
            go_roundw
            case rel => exact ⟨E, P ++ [(⟨1, TX⟩, j, E)], v2, hES, rfl, hsc2, by rw [List.length_append]; exact hown2, HB2, HN⟩
            case measure => simp [intOf]; omega
          | false =>
            rw [hb] at HG
            have HE2 : Hid (wend sc (s.data.toList.drop (j + 1)) = (E + 1 - (j + 1)) + wend sc (s.data.toList.drop (E + 1))) := by show _ = _; rw [HE.out, e, wend_go hb]; omega
            clear e hb
            go_wp2_with (go_at_call 26; refine HG.out.mono ?_; rintro e w' ⟨rfl, rfl⟩)
            go_roundw
            case rel => exact ⟨E + 1, by omega, by omega, by go_num, trivial, HE2⟩
            case measure => simp [intOf]; omega
        · obtain rfl : E = s.size := by omega
          obtain ⟨hN, hR⟩ := HNX.out s.size hjE hES (by rw [HE.out, List.drop_eq_nil_of_le (by simp)]; simp [wend])
          have HN := Lib.hid hN
          have HR := Lib.hid hR
          obtain ⟨TX, hTX⟩ : ∃ TX, TX = (s.data.toList.drop j).take (s.size - j) := ⟨_, rfl⟩
          rw [← hTX] at HN HR
          clear hN hR hTX
          go_wp2_with (first | (go_at_call 22; refine (HAd.out 1 j s.size (by omega) (by omega)).mono ?_; rintro e w2 ⟨rfl, ⟨v2, hsc2, hown2⟩, hb2⟩; rw [HR.out] at hown2; have HB2 : Hid (Below w.heap.size w w2) := HBW.out.trans hb2; clear hb2))
          go_roundw
          case rel => exact ⟨s.size, P ++ [(⟨1, TX⟩, j, s.size)], v2, hES, rfl, hsc2, by rw [List.length_append]; exact hown2, HB2, HN⟩
          case measure => simp [intOf]; omega
    · obtain rfl : j = s.size := by omega
      have HN := Lib.hid (HI.out.done hj)
      have x2 : wr.cell? ⟨w.heap.size, 2, none⟩ = some v := HSC.out.o
      obtain ⟨ao, co, rfl⟩ := ownsRow_form HOW.out
      go_wp2_with fail
      go_ret3
      refine ⟨_, _, _, rfl, HBW.out, .inr ⟨rfl, rfl, P, HN.out, ?_⟩⟩
      refine ⟨HOW.out.1, ?_⟩
      rcases HOW.out.2 with h2 | ⟨g, cap, cur, e, hbg, hg, h4⟩
      · exact .inl h2
      · exact .inr ⟨g, cap, cur, e, by omega, hg, h4⟩
end Go.Proofs.Ytckinhebbhflgaa
