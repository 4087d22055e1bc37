/- lang.form, Form: the form of a number. Conditions: as stated. -/
import Derived.Test.YtgfoangacbajlaaDoorRuX
namespace Go.Proofs.YtgfoangacbajlaaDoor
open Go.RowKit Mh
set_option linter.unusedVariables false

/-- The first test that holds. -/
def fidx : List T → Nat → Nat
  | [], _ => 0
  | t :: ts, n => if t.hold n then 0 else fidx ts n + 1
theorem fidx_le : ∀ (l : List T) (n : Nat), fidx l n ≤ l.length
  | [], _ => by simp [fidx]
  | t :: ts, n => by unfold fidx; have := fidx_le ts n; split <;> simp <;> omega

set_option maxRecDepth 100000 in
set_option maxHeartbeats 4000000 in
theorem form_any (R : List T) (fv : Value) (n : Int) (h0 : -9223372036854775808 ≤ n) (h1 : n ≤ 9223372036854775807) (w : World) (h : RuAt w R fv) (hok : okR R) :
    Calls Tryd.prog 16 #[.agg #[fv], .int .i64 n] w fun e w' => e = .returned (.int .i64 (fidx R n.natAbs : Nat)) ∧ Below w.heap.size w w' := by
  obtain ⟨rows, hS, hT⟩ := h
  obtain ⟨ao, c, rfl, hk⟩ := kid_at hS hT
  have hlen : R.length ≤ 6 := hok.1
  have HK := Lib.hid hk
  have HOK := Lib.hid hok
  have HB0 : Hid (Below w.heap.size w (w.alloc (.cells #[.slice ao R.length c] 24))) := (Below.refl _ w).alloc (Nat.le_refl _) _
  obtain ⟨a, ha⟩ : ∃ a, a = n.natAbs := ⟨_, rfl⟩
  have HMG : Hid (∀ w, Calls Tryd.prog 31 #[.int .i64 n] w fun e w' => e = .returned (.int .u64 (a : Int)) ∧ w = w') := by intro w; rw [ha]; exact mag_any n h0 h1 w
  have hab : a < 18446744073709551616 := by omega
  obtain ⟨F, hF⟩ : ∃ F, F = fidx R a := ⟨_, rfl⟩
  rw [← ha, ← hF]
  have HF : Hid (F = 0 + fidx (R.drop 0) a) := by show F = _; rw [List.drop_zero, Nat.zero_add]; exact hF
  clear hS hT hk hok ha hF
  go_enter Tryd.func16, Tryd.ntmps16
  go_wp2_with fail
  go_loopw [10] (fun i wr => ∃ k : Nat, k ≤ R.length ∧ i = .int .i64 k ∧ Hid (F = k + fidx (R.drop k) a) ∧ Hid (Below (w.heap.size + 1) (w.alloc (.cells #[.slice ao R.length c] 24)) wr) ∧ w.heap.size + 1 ≤ wr.heap.size) (fun i _ => R.length - (intOf i).toNat)
  case atStart => exact ⟨0, by omega, rfl, HF.out, Below.refl _ _, by simp⟩
  case round =>
    obtain ⟨k, hkk, rfl, HI, HB, hzr⟩ := hrel
    have HBW : Hid (Below w.heap.size w wr) := HB0.out.trans (HB.out.mono (Nat.le_succ _))
    by_cases hkl : k < R.length
    · obtain ⟨b, off, a4, v4, rfl, hlt, hat, c0, c1, c2, c3, c4⟩ := HK.out k hkl
      obtain ⟨d0, d1, d2, d3, d4⟩ := kid_later HBW.out hlt c0 c1 c2 c3 c4
      have hdr : R.drop k = R[k] :: R.drop (k + 1) := List.drop_eq_getElem_cons hkl
      have hokk := HOK.out.2 R[k] (List.getElem_mem hkl)
      obtain ⟨wn, hwn⟩ : ∃ wn, wn = wr.alloc (.cells #[.int .i64 R[k].op, .int .i64 R[k].mod, .int .i64 R[k].lo, .int .i64 R[k].hi, .slice a4 R[k].ks.length v4] 42) := ⟨_, rfl⟩
      have hBn : Below wr.heap.size wr wn := by rw [hwn]; exact (Below.refl _ wr).alloc (Nat.le_refl _) _
      have hnz : wr.heap.size < wn.heap.size := by rw [hwn]; simp
      have hnb : wn.heap[wr.heap.size]? = some (.cells #[.int .i64 R[k].op, .int .i64 R[k].mod, .int .i64 R[k].lo, .int .i64 R[k].hi, .slice a4 R[k].ks.length v4] 42 (0, 0)) := by rw [hwn]; exact heap_alloc_new _ _
      have HBn : Hid (Below w.heap.size w wn) := HBW.out.trans (hBn.mono HBW.out.size)
      have HBm := Lib.hid (HB.out.trans (hBn.mono (by omega)))
      have HCALL := Lib.hid (fun w' (hb : Below wn.heap.size wn w') => holds_any a hab _ R[k] (Nat.lt_succ_self _) hokk.2.2.1 hokk.2.2.2 _ w' (hat.keep (HBn.out.trans (hb.mono HBn.out.size))))
      have hI := HI.out
      rw [hdr] at hI
      unfold fidx at hI
      obtain ⟨kf, hkf⟩ : ∃ x, x = R[k].hold a := ⟨_, rfl⟩
      rw [← hkf] at HCALL hI
      have HI2 := Lib.hid hI
      obtain ⟨k0, hk0⟩ : ∃ x, x = R[k].op := ⟨_, rfl⟩
      obtain ⟨k1, hk1⟩ : ∃ x, x = R[k].mod := ⟨_, rfl⟩
      obtain ⟨k2, hk2⟩ : ∃ x, x = R[k].lo := ⟨_, rfl⟩
      obtain ⟨k3, hk3⟩ : ∃ x, x = R[k].hi := ⟨_, rfl⟩
      obtain ⟨k4, hk4⟩ : ∃ x, x = R[k].ks.length := ⟨_, rfl⟩
      rw [← hk0, ← hk1, ← hk2, ← hk3, ← hk4] at hnb hwn HCALL
      rw [← hk0] at d0
      rw [← hk1] at d1
      rw [← hk2] at d2
      rw [← hk3] at d3
      rw [← hk4] at d4
      have HS : Hid (∀ w', Below wn.heap.size wn w' → (w'.cell? ⟨wr.heap.size, 0, none⟩ = some (.int .i64 k0) ∧ w'.cell? ⟨wr.heap.size, 1, none⟩ = some (.int .i64 k1) ∧ w'.cell? ⟨wr.heap.size, 2, none⟩ = some (.int .i64 k2) ∧ w'.cell? ⟨wr.heap.size, 3, none⟩ = some (.int .i64 k3) ∧ w'.cell? ⟨wr.heap.size, 4, none⟩ = some (.slice a4 k4 v4) ∧ Below wn.heap.size wn w')) := by
        intro w' hb
        have g1 := (hb.block wr.heap.size hnz).trans hnb
        exact ⟨cellT g1 rfl, cellT g1 rfl, cellT g1 rfl, cellT g1 rfl, cellT g1 rfl, hb⟩
      have HG : Hid (∀ w', (w'.cell? ⟨wr.heap.size, 0, none⟩ = some (.int .i64 k0) ∧ w'.cell? ⟨wr.heap.size, 1, none⟩ = some (.int .i64 k1) ∧ w'.cell? ⟨wr.heap.size, 2, none⟩ = some (.int .i64 k2) ∧ w'.cell? ⟨wr.heap.size, 3, none⟩ = some (.int .i64 k3) ∧ w'.cell? ⟨wr.heap.size, 4, none⟩ = some (.slice a4 k4 v4) ∧ Below wn.heap.size wn w') → Below wn.heap.size wn w') := fun w' h => h.2.2.2.2.2
      have HZ : Hid (w.heap.size + 1 ≤ wn.heap.size) := by show _ ≤ _; omega
      have HWN := Lib.hid hwn
      clear hI hdr hBn c0 c1 c2 c3 c4 hat HI hkf hk0 hk1 hk2 hk3 hk4 hnb hnz hwn hokk
      cases kf
      · have HU : Hid (F = k + 1 + fidx (R.drop (k + 1)) a) := by show F = _; rw [HI2.out]; simp; omega
        clear HI2
        go_wp2_with fail
        rw [← HWN.out]
        clear HWN
        go_region_held3 (fun w' => w'.cell? ⟨wr.heap.size, 0, none⟩ = some (.int .i64 k0) ∧ w'.cell? ⟨wr.heap.size, 1, none⟩ = some (.int .i64 k1) ∧ w'.cell? ⟨wr.heap.size, 2, none⟩ = some (.int .i64 k2) ∧ w'.cell? ⟨wr.heap.size, 3, none⟩ = some (.int .i64 k3) ∧ w'.cell? ⟨wr.heap.size, 4, none⟩ = some (.slice a4 k4 v4) ∧ Below wn.heap.size wn w') (first | assumption | exact HS.out _ (by assumption) | exact HS.out _ (Below.refl _ _).drew | (trace_state; fail))
          (first | (go_at_call 31; ((with_reducible refine (HMG.out _).mono ?_); rintro e w' ⟨rfl, rfl⟩)) | (go_at_call 30; ((with_reducible refine (HCALL.out _ (HG.out _ (by assumption))).mono ?_); rintro e w' ⟨rfl, hb⟩; have hq : Below wn.heap.size wn _ := Below.trans (HG.out _ (by assumption)) (hb.mono (HG.out _ (by assumption)).size))))
        all_goals
          have HB4 : Hid (Below w.heap.size w _) := HBn.out.trans (hq.mono HBn.out.size)
          have HB5 := Lib.hid (HBm.out.trans (hq.mono HZ.out))
          have hz3 := Nat.le_trans HZ.out hq.size
          clear hq hb
          go_wp2_with fail
          go_roundw
          case rel => exact ⟨k + 1, by omega, by go_num, HU.out, HB5.out, hz3⟩
          case measure => simp [intOf]; omega
      · have HU : Hid (F = k) := by show F = k; rw [HI2.out]; simp
        clear HI2
        go_wp2_with fail
        rw [← HWN.out]
        clear HWN
        go_region_held3 (fun w' => w'.cell? ⟨wr.heap.size, 0, none⟩ = some (.int .i64 k0) ∧ w'.cell? ⟨wr.heap.size, 1, none⟩ = some (.int .i64 k1) ∧ w'.cell? ⟨wr.heap.size, 2, none⟩ = some (.int .i64 k2) ∧ w'.cell? ⟨wr.heap.size, 3, none⟩ = some (.int .i64 k3) ∧ w'.cell? ⟨wr.heap.size, 4, none⟩ = some (.slice a4 k4 v4) ∧ Below wn.heap.size wn w') (first | assumption | exact HS.out _ (by assumption) | exact HS.out _ (Below.refl _ _).drew | (trace_state; fail))
          (first | (go_at_call 31; ((with_reducible refine (HMG.out _).mono ?_); rintro e w' ⟨rfl, rfl⟩)) | (go_at_call 30; ((with_reducible refine (HCALL.out _ (HG.out _ (by assumption))).mono ?_); rintro e w' ⟨rfl, hb⟩; have hq : Below wn.heap.size wn _ := Below.trans (HG.out _ (by assumption)) (hb.mono (HG.out _ (by assumption)).size))))
        all_goals
          have HB4 : Hid (Below w.heap.size w _) := HBn.out.trans (hq.mono HBn.out.size)
          clear hq hb
          go_wp2_with fail
          go_ret
          exact ⟨by rw [HU.out]; rfl, HB4.out⟩
    · have hT := (HB.out.block w.heap.size (Nat.lt_succ_self _)).trans (heap_alloc_new _ _)
      have r0 : wr.cell? ⟨w.heap.size, 0, none⟩ = some (.slice ao R.length c) := cellT hT rfl
      have hkR : k = R.length := by omega
      have HU : Hid (F = R.length) := by show F = _; rw [HI.out, List.drop_eq_nil_of_le (by omega), hkR]; rfl
      clear hT hkR
      go_wp2_with fail
      go_ret
      exact ⟨by rw [HU.out]; rfl, HBW.out⟩

def FRM (R : List T) (n : Int) (w : World) (e : Ending) (w' : World) : Prop := e = .returned (.tuple #[.int .i64 (fidx R n.natAbs : Nat), .int .i64 0]) ∧ Below w.heap.size w w'
set_option maxRecDepth 100000 in
theorem Form_any (R : List T) (fv : Value) (n : Int) (h0 : -9223372036854775808 ≤ n) (h1 : n ≤ 9223372036854775807) (w : World) (h : RuAt w R fv) (hok : okR R) (hcnt : T.cnts R ≤ 2097152) :
    Calls Tryd.prog 7 #[.agg #[fv], .int .i64 n] w (FRM R n w) := by
  have hB0 : Below w.heap.size w (w.alloc (.cells #[fv] 24)) := (Below.refl _ w).alloc (Nat.le_refl _) _
  have HRF := Lib.hid (rfault_any R fv _ (h.below hB0) hcnt)
  have HFM := Lib.hid (fun w' (hb : Below w.heap.size w w') => form_any R fv n h0 h1 w' (h.below hb) hok)
  obtain ⟨rows, hS, hT⟩ := h
  obtain ⟨ao, c, rfl⟩ := hS.slice
  have HB0 := Lib.hid hB0
  have HOK := Lib.hid hok
  have hfb := fidx_le R n.natAbs
  obtain ⟨F, hF⟩ : ∃ F, F = fidx R n.natAbs := ⟨_, rfl⟩
  unfold FRM
  rw [← hF] at HFM hfb ⊢
  clear hS hT hB0 hok hF hcnt
  go_enter Tryd.func7, Tryd.ntmps7
  go_wp2_with fail
  refine HRF.out.mono ?_
  rintro e w1 ⟨x, rfl, hx, hb1⟩
  obtain rfl : x = 0 := hx.2 HOK.out
  have hT1 := (hb1.block w.heap.size (by simp)).trans (heap_alloc_new _ _)
  have r0 : w1.cell? ⟨w.heap.size, 0, none⟩ = some (.slice ao R.length c) := cellT hT1 rfl
  have HB1 : Hid (Below w.heap.size w w1) := HB0.out.trans (hb1.mono (by simp))
  clear hx hb1 hT1
  go_wp2_with fail
  refine (HFM.out _ HB1.out).mono ?_
  rintro e w2 ⟨rfl, hb2⟩
  have HB2 : Hid (Below w.heap.size w w2) := HB1.out.trans (hb2.mono HB1.out.size)
  clear hb2
  go_wp2_with fail
  go_ret2
  exact ⟨rfl, HB2.out⟩
end Go.Proofs.YtgfoangacbajlaaDoor
