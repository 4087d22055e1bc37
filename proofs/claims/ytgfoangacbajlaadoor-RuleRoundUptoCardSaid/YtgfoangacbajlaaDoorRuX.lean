/- lang.holds: whether a right test holds of a number. Conditions: the test is right. -/
import Derived.Test.YtgfoangacbajlaaDoorRuW
import Derived.Test.YtgfoangacbajlaaDoorRuU
namespace Go.Proofs.YtgfoangacbajlaaDoor
open Go.RowKit Mh
set_option linter.unusedVariables false

set_option maxRecDepth 100000 in
set_option maxHeartbeats 4000000 in
theorem holds_any (n : Nat) (hn : n < 18446744073709551616) : ∀ (M : Nat) (X : T), SizeOf.sizeOf X < M → X.form = true → X.rng = true → ∀ (cs : List Value) (w : World), TAt w X cs →
    Calls Tryd.prog 30 #[.agg cs.toArray, .int .u64 n] w fun e w' => e = .returned (.bool (X.hold n)) ∧ Below w.heap.size w w' := by
  intro M
  induction M with
  | zero => intro X h; omega
  | succ M ih =>
    rintro ⟨op, m, lo, hi, ks⟩ hX hf hr cs w h
    unfold TAt at h
    obtain ⟨kv, rfl, rows, hS, hT⟩ := h
    obtain ⟨ao, c, rfl, hk⟩ := kid_at hS hT
    obtain ⟨_, _, he, hlm, _⟩ := Sl.shape hS
    clear he
    have hops := form_ops hf
    by_cases h1 : op = 1
    · subst h1
      exact hold_one m lo hi ks ao c n w (rng_one hr) hn
    obtain ⟨hfs, rfl, rfl, rfl, hl1, hl2⟩ := form_forms hf h1
    have hrs := rng_kids hr
    have HK := Lib.hid hk
    unfold maxLen at hlm
    have HIH : Hid (∀ k (h : k < ks.length) (cs : List Value) (w : World), TAt w ks[k] cs → Calls Tryd.prog 30 #[.agg cs.toArray, .int .u64 n] w fun e w' => e = .returned (.bool (ks[k].hold n)) ∧ Below w.heap.size w w') := by
      intro k h
      have hm := List.getElem_mem h
      exact ih ks[k] (by have := T.size_kid (op := op) (m := 0) (lo := 0) (hi := 0) hm; omega) (forms_kid op ks hfs _ hm).1 (rngs_kid ks hrs _ hm)
    have HB0 : Hid (Below w.heap.size w (w.alloc (.cells #[.int .i64 op, .int .i64 0, .int .i64 0, .int .i64 0, .slice ao ks.length c] 42))) := (Below.refl _ w).alloc (Nat.le_refl _) _
    by_cases h3 : op = 3
    · subst h3
      rw [hold_any]
      obtain ⟨F, hF⟩ : ∃ F, F = T.holdAny ks n := ⟨_, rfl⟩
      have HF : Hid (F = T.holdAny (ks.drop 0) n) := by show F = _; rw [List.drop_zero]; exact hF
      rw [← hF]
      clear hS hT hk ih hX hF hf hr hfs hrs hops hl2 h1
      go_enter Tryd.func30, Tryd.ntmps30
      go_wp2_with fail
      go_loopw [34] (fun i wr => ∃ k : Nat, k ≤ ks.length ∧ i = .int .i64 k ∧ Hid (F = T.holdAny (ks.drop k) n) ∧ Hid (Below w.heap.size w wr) ∧ w.heap.size + 1 ≤ wr.heap.size) (fun i _ => ks.length - (intOf i).toNat)
      case atStart => exact ⟨0, by omega, rfl, HF.out, HB0.out, by simp⟩
      case round =>
        obtain ⟨k, hkk, rfl, HI, HB, hzr⟩ := hrel
        by_cases hkl : k < ks.length
        · obtain ⟨b, off, a4, v4, rfl, hlt, hat, c0, c1, c2, c3, c4⟩ := HK.out k hkl
          obtain ⟨d0, d1, d2, d3, d4⟩ := kid_later HB.out hlt c0 c1 c2 c3 c4
          have hdr : ks.drop k = ks[k] :: ks.drop (k + 1) := List.drop_eq_getElem_cons hkl
          have hBn : Below wr.heap.size wr (wr.alloc (.cells #[.int .i64 ks[k].op, .int .i64 ks[k].mod, .int .i64 ks[k].lo, .int .i64 ks[k].hi, .slice a4 ks[k].ks.length v4] 42)) := (Below.refl _ wr).alloc (Nat.le_refl _) _
          have hBn2 := HB.out.trans (hBn.mono HB.out.size)
          have HCALL := Lib.hid (HIH.out k hkl _ _ (hat.keep hBn2))
          have hI := HI.out
          rw [hdr] at hI
          unfold T.holdAny at hI
          have HBn := Lib.hid hBn2
          obtain ⟨kf, hkf⟩ : ∃ x, x = ks[k].hold n := ⟨_, rfl⟩
          rw [← hkf] at HCALL hI
          have HI2 := Lib.hid hI
          clear hI hdr hBn hBn2 c0 c1 c2 c3 c4 hat HI hkf
          go_wp2_with fail
          refine HCALL.out.mono ?_
          rintro e w2 ⟨rfl, hb2⟩
          have HB4 : Hid (Below w.heap.size w w2) := HBn.out.trans (hb2.mono (by simp; omega))
          have hz3 : w.heap.size + 1 ≤ w2.heap.size := by have := hb2.size; simp at this; omega
          clear hb2
          cases kf
          · have HI3 : Hid (F = T.holdAny (ks.drop (k + 1)) n) := by show F = _; rw [HI2.out]; rfl
            go_wp2_with fail
            go_roundw
            case rel => exact ⟨k + 1, by omega, by go_num, HI3, HB4, hz3⟩
            case measure => simp [intOf]; omega
          · have HFF : Hid (F = true) := by show F = true; rw [HI2.out]; rfl
            go_wp2_with fail
            go_ret
            exact ⟨by rw [HFF.out]; rfl, HB4.out⟩
        · have HFF : Hid (F = false) := by show F = false; rw [HI.out, List.drop_eq_nil_of_le (by omega)]; rfl
          go_wp2_with fail
          go_ret
          exact ⟨by rw [HFF.out]; rfl, HB.out⟩
    · have h24 : op = 2 ∨ op = 4 := by omega
      rw [hold_all op 0 0 0 ks n h24]
      obtain ⟨F, hF⟩ : ∃ F, F = T.holdAll (decide (op = 2)) ks n := ⟨_, rfl⟩
      have HF : Hid (F = T.holdAll (decide (op = 2)) (ks.drop 0) n) := by show F = _; rw [List.drop_zero]; exact hF
      rw [← hF]
      clear hS hT hk ih hX hF hf hr hfs hrs hops hl2 h1 h3
      rcases h24 with rfl | rfl
      all_goals
        go_enter Tryd.func30, Tryd.ntmps30
        go_wp2_with fail
      · go_loopw [17] (fun i wr => ∃ k : Nat, k ≤ ks.length ∧ i = .int .i64 k ∧ Hid (F = T.holdAll (decide ((2 : Int) = 2)) (ks.drop k) n) ∧ Hid (Below (w.heap.size + 1) (w.alloc (.cells #[.int .i64 2, .int .i64 0, .int .i64 0, .int .i64 0, .slice ao ks.length c] 42)) wr) ∧ w.heap.size + 1 ≤ wr.heap.size) (fun i _ => ks.length - (intOf i).toNat)
        case atStart => exact ⟨0, by omega, rfl, HF.out, Below.refl _ _, by simp⟩
        case round =>
          obtain ⟨k, hkk, rfl, HI, HB, hzr⟩ := hrel
          have HBW : Hid (Below w.heap.size w wr) := HB0.out.trans (HB.out.mono (Nat.le_succ _))
          by_cases hkl : k < ks.length
          · obtain ⟨b, off, a4, v4, rfl, hlt, hat, c0, c1, c2, c3, c4⟩ := HK.out k hkl
            obtain ⟨d0, d1, d2, d3, d4⟩ := kid_later HBW.out hlt c0 c1 c2 c3 c4
            have hdr : ks.drop k = ks[k] :: ks.drop (k + 1) := List.drop_eq_getElem_cons hkl
            obtain ⟨wn, hwn⟩ : ∃ wn, wn = wr.alloc (.cells #[.int .i64 ks[k].op, .int .i64 ks[k].mod, .int .i64 ks[k].lo, .int .i64 ks[k].hi, .slice a4 ks[k].ks.length v4] 42) := ⟨_, rfl⟩
            have hBn : Below wr.heap.size wr wn := by rw [hwn]; exact (Below.refl _ wr).alloc (Nat.le_refl _) _
            have hnz : wr.heap.size < wn.heap.size := by rw [hwn]; simp
            have hnb : wn.heap[wr.heap.size]? = some (.cells #[.int .i64 ks[k].op, .int .i64 ks[k].mod, .int .i64 ks[k].lo, .int .i64 ks[k].hi, .slice a4 ks[k].ks.length v4] 42 (0, 0)) := by rw [hwn]; exact heap_alloc_new _ _
            have htb : wn.heap[w.heap.size]? = some (.cells #[.int .i64 2, .int .i64 0, .int .i64 0, .int .i64 0, .slice (some ⟨b, off, none⟩) ks.length c] 42 (0, 0)) := (hBn.block w.heap.size (by omega)).trans ((HB.out.block w.heap.size (Nat.lt_succ_self _)).trans (heap_alloc_new _ _))
            have HBn : Hid (Below w.heap.size w wn) := HBW.out.trans (hBn.mono HBW.out.size)
            have HBm := Lib.hid (HB.out.trans (hBn.mono (by omega)))
            have HCALL := Lib.hid (fun w' (hb : Below wn.heap.size wn w') => HIH.out k hkl _ w' (hat.keep (HBn.out.trans (hb.mono HBn.out.size))))
            have hI := HI.out
            rw [hdr] at hI
            unfold T.holdAll at hI
            obtain ⟨kf, hkf⟩ : ∃ x, x = ks[k].hold n := ⟨_, rfl⟩
            rw [← hkf] at HCALL hI
            have HI2 := Lib.hid hI
            obtain ⟨k0, hk0⟩ : ∃ x, x = ks[k].op := ⟨_, rfl⟩
            obtain ⟨k1, hk1⟩ : ∃ x, x = ks[k].mod := ⟨_, rfl⟩
            obtain ⟨k2, hk2⟩ : ∃ x, x = ks[k].lo := ⟨_, rfl⟩
            obtain ⟨k3, hk3⟩ : ∃ x, x = ks[k].hi := ⟨_, rfl⟩
            obtain ⟨k4, hk4⟩ : ∃ x, x = ks[k].ks.length := ⟨_, rfl⟩
            rw [← hk0, ← hk1, ← hk2, ← hk3, ← hk4] at hnb hwn HCALL
            rw [← hk0] at d0
            rw [← hk1] at d1
            rw [← hk2] at d2
            rw [← hk3] at d3
            rw [← hk4] at d4
            have HS : Hid (∀ w', Below wn.heap.size wn w' → (w'.cell? ⟨wr.heap.size, 0, none⟩ = some (.int .i64 k0) ∧ w'.cell? ⟨wr.heap.size, 1, none⟩ = some (.int .i64 k1) ∧ w'.cell? ⟨wr.heap.size, 2, none⟩ = some (.int .i64 k2) ∧ w'.cell? ⟨wr.heap.size, 3, none⟩ = some (.int .i64 k3) ∧ w'.cell? ⟨wr.heap.size, 4, none⟩ = some (.slice a4 k4 v4) ∧ w'.cell? ⟨w.heap.size, 0, none⟩ = some (.int .i64 2) ∧ Below wn.heap.size wn w')) := by
              intro w' hb
              have g1 := (hb.block wr.heap.size hnz).trans hnb
              have g2 := (hb.block w.heap.size (by omega)).trans htb
              exact ⟨cellT g1 rfl, cellT g1 rfl, cellT g1 rfl, cellT g1 rfl, cellT g1 rfl, cellT g2 rfl, hb⟩
            have HG : Hid (∀ w', (w'.cell? ⟨wr.heap.size, 0, none⟩ = some (.int .i64 k0) ∧ w'.cell? ⟨wr.heap.size, 1, none⟩ = some (.int .i64 k1) ∧ w'.cell? ⟨wr.heap.size, 2, none⟩ = some (.int .i64 k2) ∧ w'.cell? ⟨wr.heap.size, 3, none⟩ = some (.int .i64 k3) ∧ w'.cell? ⟨wr.heap.size, 4, none⟩ = some (.slice a4 k4 v4) ∧ w'.cell? ⟨w.heap.size, 0, none⟩ = some (.int .i64 2) ∧ Below wn.heap.size wn w') → Below wn.heap.size wn w') := fun w' h => h.2.2.2.2.2.2
            have HZ : Hid (w.heap.size + 1 ≤ wn.heap.size) := by show _ ≤ _; omega
            have HWN := Lib.hid hwn
            have HFF : Hid (kf = false → F = false) := fun h => by rw [HI2.out, h]; rfl
            have HI3 : Hid (kf = true → F = T.holdAll (decide ((2 : Int) = 2)) (ks.drop (k + 1)) n) := fun h => by rw [HI2.out, h]; rfl
            clear hI hdr hBn c0 c1 c2 c3 c4 hat HI hkf hk0 hk1 hk2 hk3 hk4 hnb htb hnz hwn
            cases kf
            · have HU := Lib.hid (HFF.out rfl)
              clear HFF HI3
              go_wp2_with fail
              rw [← HWN.out]
              clear HWN
              go_region_held3 (fun w' => w'.cell? ⟨wr.heap.size, 0, none⟩ = some (.int .i64 k0) ∧ w'.cell? ⟨wr.heap.size, 1, none⟩ = some (.int .i64 k1) ∧ w'.cell? ⟨wr.heap.size, 2, none⟩ = some (.int .i64 k2) ∧ w'.cell? ⟨wr.heap.size, 3, none⟩ = some (.int .i64 k3) ∧ w'.cell? ⟨wr.heap.size, 4, none⟩ = some (.slice a4 k4 v4) ∧ w'.cell? ⟨w.heap.size, 0, none⟩ = some (.int .i64 2) ∧ Below wn.heap.size wn w') (first | exact HS.out _ (by assumption) | exact HS.out _ (Below.refl _ _).drew | (trace_state; fail))
                ((go_at_call 30; ((with_reducible refine (HCALL.out _ (HG.out _ (by assumption))).mono ?_); rintro e w' ⟨rfl, hb⟩; have hq : Below wn.heap.size wn _ := Below.trans (HG.out _ (by assumption)) (hb.mono (HG.out _ (by assumption)).size))))
              all_goals
                have HB4 : Hid (Below w.heap.size w _) := HBn.out.trans (hq.mono HBn.out.size)
                have HB5 := Lib.hid (HBm.out.trans (hq.mono HZ.out))
                have hz3 := Nat.le_trans HZ.out hq.size
                clear hq hb
                go_wp2_with fail
                go_ret
                exact ⟨by rw [HU.out]; rfl, HB4.out⟩
            · have HU := Lib.hid (HI3.out rfl)
              clear HFF HI3
              go_wp2_with fail
              rw [← HWN.out]
              clear HWN
              go_region_held3 (fun w' => w'.cell? ⟨wr.heap.size, 0, none⟩ = some (.int .i64 k0) ∧ w'.cell? ⟨wr.heap.size, 1, none⟩ = some (.int .i64 k1) ∧ w'.cell? ⟨wr.heap.size, 2, none⟩ = some (.int .i64 k2) ∧ w'.cell? ⟨wr.heap.size, 3, none⟩ = some (.int .i64 k3) ∧ w'.cell? ⟨wr.heap.size, 4, none⟩ = some (.slice a4 k4 v4) ∧ w'.cell? ⟨w.heap.size, 0, none⟩ = some (.int .i64 2) ∧ Below wn.heap.size wn w') (first | exact HS.out _ (by assumption) | exact HS.out _ (Below.refl _ _).drew | (trace_state; fail))
                ((go_at_call 30; ((with_reducible refine (HCALL.out _ (HG.out _ (by assumption))).mono ?_); rintro e w' ⟨rfl, hb⟩; have hq : Below wn.heap.size wn _ := Below.trans (HG.out _ (by assumption)) (hb.mono (HG.out _ (by assumption)).size))))
              all_goals
                have HB4 : Hid (Below w.heap.size w _) := HBn.out.trans (hq.mono HBn.out.size)
                have HB5 := Lib.hid (HBm.out.trans (hq.mono HZ.out))
                have hz3 := Nat.le_trans HZ.out hq.size
                clear hq hb
                go_wp2_with fail
                go_roundw
                case rel => exact ⟨k + 1, by omega, by go_num, HU.out, HB5.out, hz3⟩
                case measure => simp [intOf]; omega
          · have HFF : Hid (F = true) := by show F = true; rw [HI.out, List.drop_eq_nil_of_le (by omega)]; rfl
            go_wp2_with fail
            go_ret
            exact ⟨by rw [HFF.out]; rfl, HBW.out⟩
      · go_loopw [17] (fun i wr => ∃ k : Nat, k ≤ ks.length ∧ i = .int .i64 k ∧ Hid (F = T.holdAll (decide ((4 : Int) = 2)) (ks.drop k) n) ∧ Hid (Below (w.heap.size + 1) (w.alloc (.cells #[.int .i64 4, .int .i64 0, .int .i64 0, .int .i64 0, .slice ao ks.length c] 42)) wr) ∧ w.heap.size + 1 ≤ wr.heap.size) (fun i _ => ks.length - (intOf i).toNat)
        case atStart => exact ⟨0, by omega, rfl, HF.out, Below.refl _ _, by simp⟩
        case round =>
          obtain ⟨k, hkk, rfl, HI, HB, hzr⟩ := hrel
          have HBW : Hid (Below w.heap.size w wr) := HB0.out.trans (HB.out.mono (Nat.le_succ _))
          by_cases hkl : k < ks.length
          · obtain ⟨b, off, a4, v4, rfl, hlt, hat, c0, c1, c2, c3, c4⟩ := HK.out k hkl
            obtain ⟨d0, d1, d2, d3, d4⟩ := kid_later HBW.out hlt c0 c1 c2 c3 c4
            have hdr : ks.drop k = ks[k] :: ks.drop (k + 1) := List.drop_eq_getElem_cons hkl
            obtain ⟨wn, hwn⟩ : ∃ wn, wn = wr.alloc (.cells #[.int .i64 ks[k].op, .int .i64 ks[k].mod, .int .i64 ks[k].lo, .int .i64 ks[k].hi, .slice a4 ks[k].ks.length v4] 42) := ⟨_, rfl⟩
            have hBn : Below wr.heap.size wr wn := by rw [hwn]; exact (Below.refl _ wr).alloc (Nat.le_refl _) _
            have hnz : wr.heap.size < wn.heap.size := by rw [hwn]; simp
            have hnb : wn.heap[wr.heap.size]? = some (.cells #[.int .i64 ks[k].op, .int .i64 ks[k].mod, .int .i64 ks[k].lo, .int .i64 ks[k].hi, .slice a4 ks[k].ks.length v4] 42 (0, 0)) := by rw [hwn]; exact heap_alloc_new _ _
            have htb : wn.heap[w.heap.size]? = some (.cells #[.int .i64 4, .int .i64 0, .int .i64 0, .int .i64 0, .slice (some ⟨b, off, none⟩) ks.length c] 42 (0, 0)) := (hBn.block w.heap.size (by omega)).trans ((HB.out.block w.heap.size (Nat.lt_succ_self _)).trans (heap_alloc_new _ _))
            have HBn : Hid (Below w.heap.size w wn) := HBW.out.trans (hBn.mono HBW.out.size)
            have HBm := Lib.hid (HB.out.trans (hBn.mono (by omega)))
            have HCALL := Lib.hid (fun w' (hb : Below wn.heap.size wn w') => HIH.out k hkl _ w' (hat.keep (HBn.out.trans (hb.mono HBn.out.size))))
            have hI := HI.out
            rw [hdr] at hI
            unfold T.holdAll at hI
            obtain ⟨kf, hkf⟩ : ∃ x, x = ks[k].hold n := ⟨_, rfl⟩
            rw [← hkf] at HCALL hI
            have HI2 := Lib.hid hI
            obtain ⟨k0, hk0⟩ : ∃ x, x = ks[k].op := ⟨_, rfl⟩
            obtain ⟨k1, hk1⟩ : ∃ x, x = ks[k].mod := ⟨_, rfl⟩
            obtain ⟨k2, hk2⟩ : ∃ x, x = ks[k].lo := ⟨_, rfl⟩
            obtain ⟨k3, hk3⟩ : ∃ x, x = ks[k].hi := ⟨_, rfl⟩
            obtain ⟨k4, hk4⟩ : ∃ x, x = ks[k].ks.length := ⟨_, rfl⟩
            rw [← hk0, ← hk1, ← hk2, ← hk3, ← hk4] at hnb hwn HCALL
            rw [← hk0] at d0
            rw [← hk1] at d1
            rw [← hk2] at d2
            rw [← hk3] at d3
            rw [← hk4] at d4
            have HS : Hid (∀ w', Below wn.heap.size wn w' → (w'.cell? ⟨wr.heap.size, 0, none⟩ = some (.int .i64 k0) ∧ w'.cell? ⟨wr.heap.size, 1, none⟩ = some (.int .i64 k1) ∧ w'.cell? ⟨wr.heap.size, 2, none⟩ = some (.int .i64 k2) ∧ w'.cell? ⟨wr.heap.size, 3, none⟩ = some (.int .i64 k3) ∧ w'.cell? ⟨wr.heap.size, 4, none⟩ = some (.slice a4 k4 v4) ∧ w'.cell? ⟨w.heap.size, 0, none⟩ = some (.int .i64 4) ∧ Below wn.heap.size wn w')) := by
              intro w' hb
              have g1 := (hb.block wr.heap.size hnz).trans hnb
              have g2 := (hb.block w.heap.size (by omega)).trans htb
              exact ⟨cellT g1 rfl, cellT g1 rfl, cellT g1 rfl, cellT g1 rfl, cellT g1 rfl, cellT g2 rfl, hb⟩
            have HG : Hid (∀ w', (w'.cell? ⟨wr.heap.size, 0, none⟩ = some (.int .i64 k0) ∧ w'.cell? ⟨wr.heap.size, 1, none⟩ = some (.int .i64 k1) ∧ w'.cell? ⟨wr.heap.size, 2, none⟩ = some (.int .i64 k2) ∧ w'.cell? ⟨wr.heap.size, 3, none⟩ = some (.int .i64 k3) ∧ w'.cell? ⟨wr.heap.size, 4, none⟩ = some (.slice a4 k4 v4) ∧ w'.cell? ⟨w.heap.size, 0, none⟩ = some (.int .i64 4) ∧ Below wn.heap.size wn w') → Below wn.heap.size wn w') := fun w' h => h.2.2.2.2.2.2
            have HZ : Hid (w.heap.size + 1 ≤ wn.heap.size) := by show _ ≤ _; omega
            have HWN := Lib.hid hwn
            have HFF : Hid (kf = true → F = false) := fun h => by rw [HI2.out, h]; rfl
            have HI3 : Hid (kf = false → F = T.holdAll (decide ((4 : Int) = 2)) (ks.drop (k + 1)) n) := fun h => by rw [HI2.out, h]; rfl
            clear hI hdr hBn c0 c1 c2 c3 c4 hat HI hkf hk0 hk1 hk2 hk3 hk4 hnb htb hnz hwn
            cases kf
            · have HU := Lib.hid (HI3.out rfl)
              clear HFF HI3
              go_wp2_with fail
              rw [← HWN.out]
              clear HWN
              go_region_held3 (fun w' => w'.cell? ⟨wr.heap.size, 0, none⟩ = some (.int .i64 k0) ∧ w'.cell? ⟨wr.heap.size, 1, none⟩ = some (.int .i64 k1) ∧ w'.cell? ⟨wr.heap.size, 2, none⟩ = some (.int .i64 k2) ∧ w'.cell? ⟨wr.heap.size, 3, none⟩ = some (.int .i64 k3) ∧ w'.cell? ⟨wr.heap.size, 4, none⟩ = some (.slice a4 k4 v4) ∧ w'.cell? ⟨w.heap.size, 0, none⟩ = some (.int .i64 4) ∧ Below wn.heap.size wn w') (first | exact HS.out _ (by assumption) | exact HS.out _ (Below.refl _ _).drew | (trace_state; fail))
                ((go_at_call 30; ((with_reducible refine (HCALL.out _ (HG.out _ (by assumption))).mono ?_); rintro e w' ⟨rfl, hb⟩; have hq : Below wn.heap.size wn _ := Below.trans (HG.out _ (by assumption)) (hb.mono (HG.out _ (by assumption)).size))))
              all_goals
                have HB4 : Hid (Below w.heap.size w _) := HBn.out.trans (hq.mono HBn.out.size)
                have HB5 := Lib.hid (HBm.out.trans (hq.mono HZ.out))
                have hz3 := Nat.le_trans HZ.out hq.size
                clear hq hb
                go_wp2_with fail
                go_roundw
                case rel => exact ⟨k + 1, by omega, by go_num, HU.out, HB5.out, hz3⟩
                case measure => simp [intOf]; omega
            · have HU := Lib.hid (HFF.out rfl)
              clear HFF HI3
              go_wp2_with fail
              rw [← HWN.out]
              clear HWN
              go_region_held3 (fun w' => w'.cell? ⟨wr.heap.size, 0, none⟩ = some (.int .i64 k0) ∧ w'.cell? ⟨wr.heap.size, 1, none⟩ = some (.int .i64 k1) ∧ w'.cell? ⟨wr.heap.size, 2, none⟩ = some (.int .i64 k2) ∧ w'.cell? ⟨wr.heap.size, 3, none⟩ = some (.int .i64 k3) ∧ w'.cell? ⟨wr.heap.size, 4, none⟩ = some (.slice a4 k4 v4) ∧ w'.cell? ⟨w.heap.size, 0, none⟩ = some (.int .i64 4) ∧ Below wn.heap.size wn w') (first | exact HS.out _ (by assumption) | exact HS.out _ (Below.refl _ _).drew | (trace_state; fail))
                ((go_at_call 30; ((with_reducible refine (HCALL.out _ (HG.out _ (by assumption))).mono ?_); rintro e w' ⟨rfl, hb⟩; have hq : Below wn.heap.size wn _ := Below.trans (HG.out _ (by assumption)) (hb.mono (HG.out _ (by assumption)).size))))
              all_goals
                have HB4 : Hid (Below w.heap.size w _) := HBn.out.trans (hq.mono HBn.out.size)
                have HB5 := Lib.hid (HBm.out.trans (hq.mono HZ.out))
                have hz3 := Nat.le_trans HZ.out hq.size
                clear hq hb
                go_wp2_with fail
                go_ret
                exact ⟨by rw [HU.out]; rfl, HB4.out⟩
          · have HFF : Hid (F = true) := by show F = true; rw [HI.out, List.drop_eq_nil_of_le (by omega)]; rfl
            go_wp2_with fail
            go_ret
            exact ⟨by rw [HFF.out]; rfl, HBW.out⟩
end Go.Proofs.YtgfoangacbajlaaDoor
