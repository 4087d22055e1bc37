/- lang.testRange, ruleFault: what each returns. Conditions: as stated. -/
import Derived.Test.YtdolpehcfifecaaGreatDoorRuG
namespace Go.Proofs.YtdolpehcfifecaaGreatDoor
open Go.RowKit Mh
set_option linter.unusedVariables false

set_option maxHeartbeats 2000000 in
theorem trng_any : ∀ (M : Nat) (X : T), SizeOf.sizeOf X < M → ∀ (cs : List Value) (w : World), TAt w X cs →
    Calls Tryz.prog 38 #[.agg cs.toArray] w fun e w' => e = .returned (.bool X.rng) ∧ Below w.heap.size w w' := by
  intro M
  induction M with
  | zero => intro X h; omega
  | succ M ih =>
    rintro ⟨op, m, lo, hi, ks⟩ hX cs w h
    unfold TAt at h
    obtain ⟨kv, rfl, rows, hS, hT⟩ := h
    obtain ⟨ao, c, rfl, hk⟩ := kid_at hS hT
    obtain ⟨_, _, he, hlm, _⟩ := Sl.shape hS
    clear he
    have HK := Lib.hid hk
    unfold maxLen at hlm
    have HIH : Hid (∀ k (h : k < ks.length) (cs : List Value) (w : World), TAt w ks[k] cs → Calls Tryz.prog 38 #[.agg cs.toArray] w fun e w' => e = .returned (.bool ks[k].rng) ∧ Below w.heap.size w w') := by
      intro k h
      exact ih ks[k] (by have := T.size_kid (op := op) (m := m) (lo := lo) (hi := hi) (List.getElem_mem h); omega)
    have hB0 : Below w.heap.size w (w.alloc (.cells #[.int .i64 op, .int .i64 m, .int .i64 lo, .int .i64 hi, .slice ao ks.length c] 76)) := (Below.refl _ w).alloc (Nat.le_refl _) _
    have HB0 := Lib.hid hB0
    have HF : Hid ((T.mk op m lo hi ks).rng = (T.rngs (ks.drop 0) && (if op = 1 then decide ((m = 0 ∨ 2 ≤ m ∧ m ≤ 1000000) ∧ 0 ≤ lo ∧ lo ≤ hi ∧ hi ≤ 1000000000) else true))) := by
      show _ = _
      rw [List.drop_zero]; unfold T.rng; rfl
    obtain ⟨F, hFe⟩ : ∃ F, F = (T.mk op m lo hi ks).rng := ⟨_, rfl⟩
    rw [← hFe] at HF ⊢
    clear hS hT hk ih hX hB0 hFe
    go_enter Tryz.func38, Tryz.ntmps38
    go_wp2_with fail
    go_loopw [8] (fun i wr => ∃ k : Nat, k ≤ ks.length ∧ i = .int .i64 k ∧ Hid (F = (T.rngs (ks.drop k) && (if op = 1 then decide ((m = 0 ∨ 2 ≤ m ∧ m ≤ 1000000) ∧ 0 ≤ lo ∧ lo ≤ hi ∧ hi ≤ 1000000000) else true))) ∧ Hid (Below (w.heap.size + 1) (w.alloc (.cells #[.int .i64 op, .int .i64 m, .int .i64 lo, .int .i64 hi, .slice ao ks.length c] 76)) wr) ∧ w.heap.size + 1 ≤ wr.heap.size) (fun i _ => ks.length - (intOf i).toNat)
    case atStart => exact ⟨0, by omega, rfl, HF.out, Below.refl _ _, by simp⟩
    case round =>
      obtain ⟨k, hk, rfl, HI, HB, hzr⟩ := hrel
      have HBW : Hid (Below w.heap.size w wr) := HB0.out.trans (HB.out.mono (Nat.le_succ _))
      by_cases hkl : k < ks.length
      · obtain ⟨b, off, a4, v4, rfl, hlt, hat, c0, c1, c2, c3, c4⟩ := HK.out k hkl
        obtain ⟨d0, d1, d2, d3, d4⟩ := kid_later HBW.out hlt c0 c1 c2 c3 c4
        have hdr : ks.drop k = ks[k] :: ks.drop (k + 1) := List.drop_eq_getElem_cons hkl
        have hBn : Below wr.heap.size wr (wr.alloc (.cells #[.int .i64 ks[k].op, .int .i64 ks[k].mod, .int .i64 ks[k].lo, .int .i64 ks[k].hi, .slice a4 ks[k].ks.length v4] 76)) := (Below.refl _ wr).alloc (Nat.le_refl _) _
        have hBn2 := HBW.out.trans (hBn.mono HBW.out.size)
        have HCALL := Lib.hid (HIH.out k hkl _ _ (hat.keep hBn2))
        have hI := HI.out
        rw [hdr] at hI
        unfold T.rngs at hI
        have HBn := Lib.hid hBn2
        have HBm := Lib.hid (HB.out.trans (hBn.mono (by omega)))
        obtain ⟨kf, hkf⟩ : ∃ x, x = ks[k].rng := ⟨_, rfl⟩
        rw [← hkf] at HCALL hI
        have HI2 := Lib.hid hI
        clear hI hdr hBn hBn2 c0 c1 c2 c3 c4 hat HI hkf
        go_wp2_with fail
        refine HCALL.out.mono ?_
        rintro e w2 ⟨rfl, hb2⟩
        have HB3 := Lib.hid (HBm.out.trans (hb2.mono (by simp; omega)))
        have HB4 : Hid (Below w.heap.size w w2) := HBn.out.trans (hb2.mono (by simp; omega))
        have hz3 : w.heap.size + 1 ≤ w2.heap.size := by have := hb2.size; simp at this; omega
        clear hb2
        cases kf
        · have HFF : Hid (F = false) := by show F = false; rw [HI2.out]; simp
          go_wp2_with fail
          go_ret
          exact ⟨by rw [HFF.out]; rfl, HB4.out⟩
        · have HI3 : Hid (F = (T.rngs (ks.drop (k + 1)) && (if op = 1 then decide ((m = 0 ∨ 2 ≤ m ∧ m ≤ 1000000) ∧ 0 ≤ lo ∧ lo ≤ hi ∧ hi ≤ 1000000000) else true))) := by show F = _; rw [HI2.out, Bool.true_and]
          go_wp2_with fail
          go_roundw
          case rel => exact ⟨k + 1, by omega, by go_num, HI3, HB3.out, hz3⟩
          case measure => simp [intOf]; omega
      · have hT := (HB.out.block w.heap.size (Nat.lt_succ_self _)).trans (heap_alloc_new _ _)
        have r0 : wr.cell? ⟨w.heap.size, 0, none⟩ = some (.int .i64 op) := cellT hT rfl
        have r1 : wr.cell? ⟨w.heap.size, 1, none⟩ = some (.int .i64 m) := cellT hT rfl
        have r2 : wr.cell? ⟨w.heap.size, 2, none⟩ = some (.int .i64 lo) := cellT hT rfl
        have r3 : wr.cell? ⟨w.heap.size, 3, none⟩ = some (.int .i64 hi) := cellT hT rfl
        have hI := HI.out
        rw [List.drop_eq_nil_of_le (by omega)] at hI
        unfold T.rngs at hI
        rw [Bool.true_and] at hI
        have HI2 := Lib.hid hI
        clear hT hI HI HF
        by_cases h1 : op = 1
        · have HF1 : Hid (F = decide ((m = 0 ∨ 2 ≤ m ∧ m ≤ 1000000) ∧ 0 ≤ lo ∧ lo ≤ hi ∧ hi ≤ 1000000000)) := by show F = _; rw [HI2.out, if_pos h1]
          have q0 : (op != 1) = false := by rw [h1]; rfl
          clear HI2 h1
          have way : (((m == 0) = true ∨ ((m == 0) = false ∧ decide (2 ≤ m) = true ∧ decide (m ≤ 1000000) = true)) ∧
              ((decide (0 ≤ lo) = false ∧ F = false) ∨ (decide (0 ≤ lo) = true ∧ decide (lo ≤ hi) = false ∧ F = false) ∨ (decide (0 ≤ lo) = true ∧ decide (lo ≤ hi) = true ∧ decide (hi ≤ 1000000000) = false ∧ F = false) ∨ (decide (0 ≤ lo) = true ∧ decide (lo ≤ hi) = true ∧ decide (hi ≤ 1000000000) = true ∧ F = true))) ∨
              ((m == 0) = false ∧ decide (2 ≤ m) = false ∧ F = false) ∨ ((m == 0) = false ∧ decide (2 ≤ m) = true ∧ decide (m ≤ 1000000) = false ∧ F = false) := by
            rw [HF1.out]
            by_cases a1 : m = 0 <;> by_cases a2 : 2 ≤ m <;> by_cases a3 : m ≤ 1000000 <;> by_cases a4 : 0 ≤ lo <;> by_cases a5 : lo ≤ hi <;> by_cases a6 : hi ≤ 1000000000 <;> simp [a1, a2, a3, a4, a5, a6]
            all_goals omega
          clear HF1
          rcases way with ⟨w1 | ⟨w1, w2, w3⟩, ⟨v1, vF⟩ | ⟨v1, v2, vF⟩ | ⟨v1, v2, v3, vF⟩ | ⟨v1, v2, v3, vF⟩⟩ | ⟨w1, w2, vF⟩ | ⟨w1, w2, w3, vF⟩
          all_goals
            have HVF := Lib.hid vF
            clear vF
            go_wp2_with fail
            go_ret
            exact ⟨by rw [HVF.out]; rfl, HBW.out⟩
        · have HFF : Hid (F = true) := by show F = true; rw [HI2.out, if_neg h1]
          have q : (op != 1) = true := by rw [bne_iff_ne]; exact h1
          clear h1 HI2
          go_wp2_with fail
          go_ret
          exact ⟨by rw [HFF.out]; rfl, HBW.out⟩
end Go.Proofs.YtdolpehcfifecaaGreatDoor
