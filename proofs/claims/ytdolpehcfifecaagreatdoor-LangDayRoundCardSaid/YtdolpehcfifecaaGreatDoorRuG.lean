/- lang.testForm, testRange: what each returns. Conditions: none. -/
import Derived.Test.YtdolpehcfifecaaGreatDoorRuF
namespace Go.Proofs.YtdolpehcfifecaaGreatDoor
open Go.RowKit Mh
set_option linter.unusedVariables false

theorem form_one (m lo hi : Int) (ks : List T) : (T.mk 1 m lo hi ks).form = ks.isEmpty := by unfold T.form; rfl
theorem form_mid (op m lo hi : Int) (ks : List T) (h : op = 2 ∨ op = 3 ∨ op = 4) : (T.mk op m lo hi ks).form = (decide ((if op = 4 then 1 else 2) ≤ ks.length) && T.forms op ks && decide (m = 0 ∧ lo = 0 ∧ hi = 0)) := by
  unfold T.form
  rcases h with rfl | rfl | rfl <;> simp
theorem form_else (op m lo hi : Int) (ks : List T) (h : ¬ (op = 1 ∨ op = 2 ∨ op = 3 ∨ op = 4)) : (T.mk op m lo hi ks).form = false := by
  unfold T.form
  rw [if_neg (by omega), if_neg (by omega), if_neg (by omega)]

set_option maxHeartbeats 2000000 in
theorem tform_any : ∀ (M : Nat) (X : T), SizeOf.sizeOf X < M → ∀ (cs : List Value) (w : World), TAt w X cs →
    Calls Tryz.prog 37 #[.agg cs.toArray] w fun e w' => e = .returned (.bool X.form) ∧ Below w.heap.size w w' := by
  intro M
  induction M with
  | zero => intro X h; omega
  | succ M ih =>
    rintro ⟨op, m, lo, hi, ks⟩ hX cs w h
    unfold TAt at h
    obtain ⟨kv, rfl, rows, hS, hT⟩ := h
    obtain ⟨ao, c, rfl, hk⟩ := kid_at hS hT
    obtain ⟨_, _, he, hlm, _⟩ := Sl.shape hS
    clear he
    have HK := Lib.hid hk
    unfold maxLen at hlm
    have HIH : Hid (∀ k (h : k < ks.length) (cs : List Value) (w : World), TAt w ks[k] cs → Calls Tryz.prog 37 #[.agg cs.toArray] w fun e w' => e = .returned (.bool ks[k].form) ∧ Below w.heap.size w w') := by
      intro k h
      exact ih ks[k] (by have := T.size_kid (op := op) (m := m) (lo := lo) (hi := hi) (List.getElem_mem h); omega)
    have hB0 : Below w.heap.size w (w.alloc (.cells #[.int .i64 op, .int .i64 m, .int .i64 lo, .int .i64 hi, .slice ao ks.length c] 76)) := (Below.refl _ w).alloc (Nat.le_refl _) _
    have HB0 := Lib.hid hB0
    clear hS hT hk ih hX hB0
    by_cases h1 : op = 1
    · subst h1
      rw [form_one]
      have q : ((ks.length : Int) == 0) = ks.isEmpty := by cases ks with
        | nil => rfl
        | cons a l => simp; omega
      obtain ⟨F, hF⟩ : ∃ F, F = ks.isEmpty := ⟨_, rfl⟩
      rw [← hF] at q ⊢
      clear hF
      go_enter Tryz.func37, Tryz.ntmps37
      go_wp2_with fail
      go_ret
      exact ⟨rfl, HB0.out⟩
    by_cases hx : op = 2 ∨ op = 3 ∨ op = 4
    · have HF := Lib.hid (form_mid op m lo hi ks hx)
      have hmin : 1 ≤ (if op = 4 then 1 else 2) ∧ (if op = 4 then 1 else 2) ≤ 2 := by split <;> omega
      obtain ⟨F, hFe⟩ : ∃ F, F = (T.mk op m lo hi ks).form := ⟨_, rfl⟩
      rw [← hFe] at HF ⊢
      clear hFe
      by_cases hlen : (if op = 4 then 1 else 2) ≤ ks.length
      · have HF2 : Hid (F = (T.forms op (ks.drop 0) && decide (m = 0 ∧ lo = 0 ∧ hi = 0))) := by
          show _ = _
          rw [HF.out, decide_eq_true hlen, List.drop_zero]; rfl
        have hw : (op = 2 ∧ 2 ≤ ks.length) ∨ (op = 3 ∧ 2 ≤ ks.length) ∨ (op = 4 ∧ 1 ≤ ks.length) := by
          rcases hx with rfl | rfl | rfl
          · exact .inl ⟨rfl, by simpa using hlen⟩
          · exact .inr (.inl ⟨rfl, by simpa using hlen⟩)
          · exact .inr (.inr ⟨rfl, by simpa using hlen⟩)
        clear hlen hmin HF hx h1
        rcases hw with ⟨rfl, hl⟩ | ⟨rfl, hl⟩ | ⟨rfl, hl⟩
        · go_enter Tryz.func37, Tryz.ntmps37
          go_wp2_with fail
          go_loopw [27] (fun i wr => ∃ k : Nat, k ≤ ks.length ∧ i = .int .i64 k ∧ Hid (F = (T.forms 2 (ks.drop k) && decide (m = 0 ∧ lo = 0 ∧ hi = 0))) ∧ Hid (Below (w.heap.size + 1) (w.alloc (.cells #[.int .i64 2, .int .i64 m, .int .i64 lo, .int .i64 hi, .slice ao ks.length c] 76)) wr) ∧ w.heap.size + 1 ≤ wr.heap.size) (fun i _ => ks.length - (intOf i).toNat)
          case atStart => exact ⟨0, by omega, rfl, HF2.out, Below.refl _ _, by simp⟩
          case round =>
            obtain ⟨k, hk, rfl, HI, HB, hzr⟩ := hrel
            have hT := (HB.out.block w.heap.size (Nat.lt_succ_self _)).trans (heap_alloc_new _ _)
            have r0 : wr.cell? ⟨w.heap.size, 0, none⟩ = some (.int .i64 2) := cellT hT rfl
            have r1 : wr.cell? ⟨w.heap.size, 1, none⟩ = some (.int .i64 m) := cellT hT rfl
            have r2 : wr.cell? ⟨w.heap.size, 2, none⟩ = some (.int .i64 lo) := cellT hT rfl
            have r3 : wr.cell? ⟨w.heap.size, 3, none⟩ = some (.int .i64 hi) := cellT hT rfl
            have HBW : Hid (Below w.heap.size w wr) := HB0.out.trans (HB.out.mono (Nat.le_succ _))
            have hltW : w.heap.size < wr.heap.size := hzr
            have hne1 : wr.heap.size ≠ w.heap.size := by omega
            have hne2 : w.heap.size ≠ wr.heap.size := by omega
            clear hT
            by_cases hkl : k < ks.length
            · obtain ⟨b, off, a4, v4, rfl, hlt, hat, c0, c1, c2, c3, c4⟩ := HK.out k hkl
              obtain ⟨d0, d1, d2, d3, d4⟩ := kid_later HBW.out hlt c0 c1 c2 c3 c4
              have hdr : ks.drop k = ks[k] :: ks.drop (k + 1) := List.drop_eq_getElem_cons hkl
              have hBn : Below wr.heap.size wr (wr.alloc (.cells #[.int .i64 ks[k].op, .int .i64 ks[k].mod, .int .i64 ks[k].lo, .int .i64 ks[k].hi, .slice a4 ks[k].ks.length v4] 76)) := (Below.refl _ wr).alloc (Nat.le_refl _) _
              have hBn2 := HBW.out.trans (hBn.mono HBW.out.size)
              have HCALL := Lib.hid (HIH.out k hkl _ _ (hat.keep hBn2))
              have hI := HI.out
              rw [hdr] at hI
              unfold T.forms at hI
              have HBn := Lib.hid hBn2
              have HBm := Lib.hid (HB.out.trans (hBn.mono (by omega)))
              obtain ⟨kop, hkop⟩ : ∃ x, x = ks[k].op := ⟨_, rfl⟩
              obtain ⟨kf, hkf⟩ : ∃ x, x = ks[k].form := ⟨_, rfl⟩
              rw [← hkop] at d0 HCALL HBn HBm hI
              rw [← hkf] at HCALL hI
              have HI2 := Lib.hid hI
              clear hI hdr hBn hBn2 c0 c1 c2 c3 c4 hat HI hkop hkf
              by_cases hko : kop = 2
              · have HFF : Hid (F = false) := by show F = false; rw [HI2.out, hko]; simp
                subst hko
                go_wp2_with fail
                go_ret
                exact ⟨by rw [HFF.out]; rfl, HBn.out⟩
              · have q9 : (kop == 2) = false := by simpa using hko
                have HKO := Lib.hid hko
                clear hko
                go_wp2_with fail
                refine HCALL.out.mono ?_
                rintro e w2 ⟨rfl, hb2⟩
                have HB3 : Hid (Below (w.heap.size + 1) (w.alloc (.cells #[.int .i64 2, .int .i64 m, .int .i64 lo, .int .i64 hi, .slice (some ⟨b, off, none⟩) ks.length c] 76)) w2) := HBm.out.trans (hb2.mono (by simp; omega))
                have HB4 : Hid (Below w.heap.size w w2) := HBn.out.trans (hb2.mono (by simp; omega))
                have hz3 : w.heap.size + 1 ≤ w2.heap.size := by have := hb2.size; simp at this; omega
                clear hb2
                cases kf
                · have HFF : Hid (F = false) := by show F = false; rw [HI2.out]; simp
                  go_wp2_with fail
                  go_ret
                  exact ⟨by rw [HFF.out]; rfl, HB4.out⟩
                · have HI3 : Hid (F = (T.forms 2 (ks.drop (k + 1)) && decide (m = 0 ∧ lo = 0 ∧ hi = 0))) := by show F = _; rw [HI2.out]; simp [HKO.out]
                  go_wp2_with fail
                  go_roundw
                  case rel => exact ⟨k + 1, by omega, by go_num, HI3, HB3, hz3⟩
                  case measure => simp [intOf]; omega
            · have hI := HI.out
              rw [List.drop_eq_nil_of_le (by omega)] at hI
              have hF : F = decide (m = 0 ∧ lo = 0 ∧ hi = 0) := by rw [hI]; unfold T.forms; rfl
              have HFF := Lib.hid hF
              clear hI HI hF
              by_cases z1 : m = 0
              · by_cases z2 : lo = 0
                · have e : decide (m = 0 ∧ lo = 0 ∧ hi = 0) = (hi == 0) := by rw [z1, z2]; simp; rfl
                  have HE := Lib.hid e
                  subst z1 z2
                  clear e
                  go_wp2_with fail
                  go_ret
                  exact ⟨by rw [HFF.out, HE.out]; rfl, HBW.out⟩
                · have e : decide (m = 0 ∧ lo = 0 ∧ hi = 0) = false := decide_eq_false (fun h => z2 h.2.1)
                  have HE := Lib.hid e
                  have q : (lo == 0) = false := by simpa using z2
                  subst z1
                  clear e z2
                  go_wp2_with fail
                  go_ret
                  exact ⟨by rw [HFF.out, HE.out]; rfl, HBW.out⟩
              · have e : decide (m = 0 ∧ lo = 0 ∧ hi = 0) = false := decide_eq_false (fun h => z1 h.1)
                have HE := Lib.hid e
                have q : (m == 0) = false := by simpa using z1
                clear e z1
                go_wp2_with fail
                go_ret
                exact ⟨by rw [HFF.out, HE.out]; rfl, HBW.out⟩
        · go_enter Tryz.func37, Tryz.ntmps37
          go_wp2_with fail
          go_loopw [27] (fun i wr => ∃ k : Nat, k ≤ ks.length ∧ i = .int .i64 k ∧ Hid (F = (T.forms 3 (ks.drop k) && decide (m = 0 ∧ lo = 0 ∧ hi = 0))) ∧ Hid (Below (w.heap.size + 1) (w.alloc (.cells #[.int .i64 3, .int .i64 m, .int .i64 lo, .int .i64 hi, .slice ao ks.length c] 76)) wr) ∧ w.heap.size + 1 ≤ wr.heap.size) (fun i _ => ks.length - (intOf i).toNat)
          case atStart => exact ⟨0, by omega, rfl, HF2.out, Below.refl _ _, by simp⟩
          case round =>
            obtain ⟨k, hk, rfl, HI, HB, hzr⟩ := hrel
            have hT := (HB.out.block w.heap.size (Nat.lt_succ_self _)).trans (heap_alloc_new _ _)
            have r0 : wr.cell? ⟨w.heap.size, 0, none⟩ = some (.int .i64 3) := cellT hT rfl
            have r1 : wr.cell? ⟨w.heap.size, 1, none⟩ = some (.int .i64 m) := cellT hT rfl
            have r2 : wr.cell? ⟨w.heap.size, 2, none⟩ = some (.int .i64 lo) := cellT hT rfl
            have r3 : wr.cell? ⟨w.heap.size, 3, none⟩ = some (.int .i64 hi) := cellT hT rfl
            have HBW : Hid (Below w.heap.size w wr) := HB0.out.trans (HB.out.mono (Nat.le_succ _))
            have hltW : w.heap.size < wr.heap.size := hzr
            have hne1 : wr.heap.size ≠ w.heap.size := by omega
            have hne2 : w.heap.size ≠ wr.heap.size := by omega
            clear hT
            by_cases hkl : k < ks.length
            · obtain ⟨b, off, a4, v4, rfl, hlt, hat, c0, c1, c2, c3, c4⟩ := HK.out k hkl
              obtain ⟨d0, d1, d2, d3, d4⟩ := kid_later HBW.out hlt c0 c1 c2 c3 c4
              have hdr : ks.drop k = ks[k] :: ks.drop (k + 1) := List.drop_eq_getElem_cons hkl
              have hBn : Below wr.heap.size wr (wr.alloc (.cells #[.int .i64 ks[k].op, .int .i64 ks[k].mod, .int .i64 ks[k].lo, .int .i64 ks[k].hi, .slice a4 ks[k].ks.length v4] 76)) := (Below.refl _ wr).alloc (Nat.le_refl _) _
              have hBn2 := HBW.out.trans (hBn.mono HBW.out.size)
              have HCALL := Lib.hid (HIH.out k hkl _ _ (hat.keep hBn2))
              have hI := HI.out
              rw [hdr] at hI
              unfold T.forms at hI
              have HBn := Lib.hid hBn2
              have HBm := Lib.hid (HB.out.trans (hBn.mono (by omega)))
              obtain ⟨kop, hkop⟩ : ∃ x, x = ks[k].op := ⟨_, rfl⟩
              obtain ⟨kf, hkf⟩ : ∃ x, x = ks[k].form := ⟨_, rfl⟩
              rw [← hkop] at d0 HCALL HBn HBm hI
              rw [← hkf] at HCALL hI
              have HI2 := Lib.hid hI
              clear hI hdr hBn hBn2 c0 c1 c2 c3 c4 hat HI hkop hkf
              by_cases hko : kop = 3
              · have HFF : Hid (F = false) := by show F = false; rw [HI2.out, hko]; simp
                subst hko
                go_wp2_with fail
                go_ret
                exact ⟨by rw [HFF.out]; rfl, HBn.out⟩
              · have q9 : (kop == 3) = false := by simpa using hko
                have HKO := Lib.hid hko
                clear hko
                go_wp2_with fail
                refine HCALL.out.mono ?_
                rintro e w2 ⟨rfl, hb2⟩
                have HB3 : Hid (Below (w.heap.size + 1) (w.alloc (.cells #[.int .i64 3, .int .i64 m, .int .i64 lo, .int .i64 hi, .slice (some ⟨b, off, none⟩) ks.length c] 76)) w2) := HBm.out.trans (hb2.mono (by simp; omega))
                have HB4 : Hid (Below w.heap.size w w2) := HBn.out.trans (hb2.mono (by simp; omega))
                have hz3 : w.heap.size + 1 ≤ w2.heap.size := by have := hb2.size; simp at this; omega
                clear hb2
                cases kf
                · have HFF : Hid (F = false) := by show F = false; rw [HI2.out]; simp
                  go_wp2_with fail
                  go_ret
                  exact ⟨by rw [HFF.out]; rfl, HB4.out⟩
                · have HI3 : Hid (F = (T.forms 3 (ks.drop (k + 1)) && decide (m = 0 ∧ lo = 0 ∧ hi = 0))) := by show F = _; rw [HI2.out]; simp [HKO.out]
                  go_wp2_with fail
                  go_roundw
                  case rel => exact ⟨k + 1, by omega, by go_num, HI3, HB3, hz3⟩
                  case measure => simp [intOf]; omega
            · have hI := HI.out
              rw [List.drop_eq_nil_of_le (by omega)] at hI
              have hF : F = decide (m = 0 ∧ lo = 0 ∧ hi = 0) := by rw [hI]; unfold T.forms; rfl
              have HFF := Lib.hid hF
              clear hI HI hF
              by_cases z1 : m = 0
              · by_cases z2 : lo = 0
                · have e : decide (m = 0 ∧ lo = 0 ∧ hi = 0) = (hi == 0) := by rw [z1, z2]; simp; rfl
                  have HE := Lib.hid e
                  subst z1 z2
                  clear e
                  go_wp2_with fail
                  go_ret
                  exact ⟨by rw [HFF.out, HE.out]; rfl, HBW.out⟩
                · have e : decide (m = 0 ∧ lo = 0 ∧ hi = 0) = false := decide_eq_false (fun h => z2 h.2.1)
                  have HE := Lib.hid e
                  have q : (lo == 0) = false := by simpa using z2
                  subst z1
                  clear e z2
                  go_wp2_with fail
                  go_ret
                  exact ⟨by rw [HFF.out, HE.out]; rfl, HBW.out⟩
              · have e : decide (m = 0 ∧ lo = 0 ∧ hi = 0) = false := decide_eq_false (fun h => z1 h.1)
                have HE := Lib.hid e
                have q : (m == 0) = false := by simpa using z1
                clear e z1
                go_wp2_with fail
                go_ret
                exact ⟨by rw [HFF.out, HE.out]; rfl, HBW.out⟩
        · go_enter Tryz.func37, Tryz.ntmps37
          go_wp2_with fail
          go_loopw [27] (fun i wr => ∃ k : Nat, k ≤ ks.length ∧ i = .int .i64 k ∧ Hid (F = (T.forms 4 (ks.drop k) && decide (m = 0 ∧ lo = 0 ∧ hi = 0))) ∧ Hid (Below (w.heap.size + 1) (w.alloc (.cells #[.int .i64 4, .int .i64 m, .int .i64 lo, .int .i64 hi, .slice ao ks.length c] 76)) wr) ∧ w.heap.size + 1 ≤ wr.heap.size) (fun i _ => ks.length - (intOf i).toNat)
          case atStart => exact ⟨0, by omega, rfl, HF2.out, Below.refl _ _, by simp⟩
          case round =>
            obtain ⟨k, hk, rfl, HI, HB, hzr⟩ := hrel
            have hT := (HB.out.block w.heap.size (Nat.lt_succ_self _)).trans (heap_alloc_new _ _)
            have r0 : wr.cell? ⟨w.heap.size, 0, none⟩ = some (.int .i64 4) := cellT hT rfl
            have r1 : wr.cell? ⟨w.heap.size, 1, none⟩ = some (.int .i64 m) := cellT hT rfl
            have r2 : wr.cell? ⟨w.heap.size, 2, none⟩ = some (.int .i64 lo) := cellT hT rfl
            have r3 : wr.cell? ⟨w.heap.size, 3, none⟩ = some (.int .i64 hi) := cellT hT rfl
            have HBW : Hid (Below w.heap.size w wr) := HB0.out.trans (HB.out.mono (Nat.le_succ _))
            have hltW : w.heap.size < wr.heap.size := hzr
            have hne1 : wr.heap.size ≠ w.heap.size := by omega
            have hne2 : w.heap.size ≠ wr.heap.size := by omega
            clear hT
            by_cases hkl : k < ks.length
            · obtain ⟨b, off, a4, v4, rfl, hlt, hat, c0, c1, c2, c3, c4⟩ := HK.out k hkl
              obtain ⟨d0, d1, d2, d3, d4⟩ := kid_later HBW.out hlt c0 c1 c2 c3 c4
              have hdr : ks.drop k = ks[k] :: ks.drop (k + 1) := List.drop_eq_getElem_cons hkl
              have hBn : Below wr.heap.size wr (wr.alloc (.cells #[.int .i64 ks[k].op, .int .i64 ks[k].mod, .int .i64 ks[k].lo, .int .i64 ks[k].hi, .slice a4 ks[k].ks.length v4] 76)) := (Below.refl _ wr).alloc (Nat.le_refl _) _
              have hBn2 := HBW.out.trans (hBn.mono HBW.out.size)
              have HCALL := Lib.hid (HIH.out k hkl _ _ (hat.keep hBn2))
              have hI := HI.out
              rw [hdr] at hI
              unfold T.forms at hI
              have HBn := Lib.hid hBn2
              have HBm := Lib.hid (HB.out.trans (hBn.mono (by omega)))
              obtain ⟨kop, hkop⟩ : ∃ x, x = ks[k].op := ⟨_, rfl⟩
              obtain ⟨kf, hkf⟩ : ∃ x, x = ks[k].form := ⟨_, rfl⟩
              rw [← hkop] at d0 HCALL HBn HBm hI
              rw [← hkf] at HCALL hI
              have HI2 := Lib.hid hI
              clear hI hdr hBn hBn2 c0 c1 c2 c3 c4 hat HI hkop hkf
              go_wp2_with fail
              refine HCALL.out.mono ?_
              rintro e w2 ⟨rfl, hb2⟩
              have HB3 : Hid (Below (w.heap.size + 1) (w.alloc (.cells #[.int .i64 4, .int .i64 m, .int .i64 lo, .int .i64 hi, .slice (some ⟨b, off, none⟩) ks.length c] 76)) w2) := HBm.out.trans (hb2.mono (by simp; omega))
              have HB4 : Hid (Below w.heap.size w w2) := HBn.out.trans (hb2.mono (by simp; omega))
              have hz3 : w.heap.size + 1 ≤ w2.heap.size := by have := hb2.size; simp at this; omega
              clear hb2
              cases kf
              · have HFF : Hid (F = false) := by show F = false; rw [HI2.out]; simp
                go_wp2_with fail
                go_ret
                exact ⟨by rw [HFF.out]; rfl, HB4.out⟩
              · have HI3 : Hid (F = (T.forms 4 (ks.drop (k + 1)) && decide (m = 0 ∧ lo = 0 ∧ hi = 0))) := by show F = _; rw [HI2.out]; simp
                go_wp2_with fail
                go_roundw
                case rel => exact ⟨k + 1, by omega, by go_num, HI3, HB3, hz3⟩
                case measure => simp [intOf]; omega
            · have hI := HI.out
              rw [List.drop_eq_nil_of_le (by omega)] at hI
              have hF : F = decide (m = 0 ∧ lo = 0 ∧ hi = 0) := by rw [hI]; unfold T.forms; rfl
              have HFF := Lib.hid hF
              clear hI HI hF
              by_cases z1 : m = 0
              · by_cases z2 : lo = 0
                · have e : decide (m = 0 ∧ lo = 0 ∧ hi = 0) = (hi == 0) := by rw [z1, z2]; simp; rfl
                  have HE := Lib.hid e
                  subst z1 z2
                  clear e
                  go_wp2_with fail
                  go_ret
                  exact ⟨by rw [HFF.out, HE.out]; rfl, HBW.out⟩
                · have e : decide (m = 0 ∧ lo = 0 ∧ hi = 0) = false := decide_eq_false (fun h => z2 h.2.1)
                  have HE := Lib.hid e
                  have q : (lo == 0) = false := by simpa using z2
                  subst z1
                  clear e z2
                  go_wp2_with fail
                  go_ret
                  exact ⟨by rw [HFF.out, HE.out]; rfl, HBW.out⟩
              · have e : decide (m = 0 ∧ lo = 0 ∧ hi = 0) = false := decide_eq_false (fun h => z1 h.1)
                have HE := Lib.hid e
                have q : (m == 0) = false := by simpa using z1
                clear e z1
                go_wp2_with fail
                go_ret
                exact ⟨by rw [HFF.out, HE.out]; rfl, HBW.out⟩
      · have HFF : Hid (F = false) := by show F = false; rw [HF.out, decide_eq_false hlen]; rfl
        have hw : (op = 2 ∧ ks.length < 2) ∨ (op = 3 ∧ ks.length < 2) ∨ (op = 4 ∧ ks.length < 1) := by
          rcases hx with rfl | rfl | rfl
          · exact .inl ⟨rfl, by simpa using hlen⟩
          · exact .inr (.inl ⟨rfl, by simpa using hlen⟩)
          · exact .inr (.inr ⟨rfl, by simpa using hlen⟩)
        clear hlen hmin HF hx h1
        rcases hw with ⟨rfl, hl⟩ | ⟨rfl, hl⟩ | ⟨rfl, hl⟩
        all_goals
          go_enter Tryz.func37, Tryz.ntmps37
          go_wp2_with fail
          go_ret
          exact ⟨by rw [HFF.out]; rfl, HB0.out⟩
    · have HFF := Lib.hid (form_else op m lo hi ks (by omega))
      have q1 : (op == 1) = false := by rw [beq_eq_false_iff_ne]; exact h1
      have q2 : (op == 2) = false := by rw [beq_eq_false_iff_ne]; omega
      have q3 : (op == 3) = false := by rw [beq_eq_false_iff_ne]; omega
      have q4 : (op == 4) = false := by rw [beq_eq_false_iff_ne]; omega
      clear h1 hx
      go_enter Tryz.func37, Tryz.ntmps37
      go_wp2_with fail
      go_ret
      exact ⟨by rw [HFF.out]; rfl, HB0.out⟩
end Go.Proofs.YtdolpehcfifecaaGreatDoor
