/- list.count, levels: what each returns, whatever the size. No conditions. -/
import Derived.Test.YtihdfkcoajpmjaaGreatDoorLsP
namespace Go.Proofs.YtihdfkcoajpmjaaGreatDoor
open Go.RowKit Mh
set_option linter.unusedVariables false
set_option maxHeartbeats 2000000 in
theorem lcount_all : ∀ (M : Nat) (X : V), SizeOf.sizeOf X < M → ∀ (cs : List Value) (w : World), VAt w X cs →
    Calls Tryz.prog 52 #[.agg cs.toArray] w fun e w' => e = .returned (.int .i64 X.cntL) ∧ Below w.heap.size w w' := by
  intro M
  induction M with
  | zero => intro X h; omega
  | succ M ih =>
    intro X hX cs w h
    obtain ⟨ia, ic, ka, kc, rfl, hil, _, _, _, rows, hS, hT⟩ := h.opened
    obtain ⟨_, _, hsl, hk⟩ := VsAt.item hS hT
    simp only [Value.slice.injEq] at hsl
    obtain ⟨rfl, _, rfl⟩ := hsl
    have HK := Lib.hid hk
    rw [vcs_arr]
    have hsz : ∀ y ∈ X.its, SizeOf.sizeOf y < M := by
      obtain ⟨k, b, n, t, is, ks⟩ := X
      intro y hy
      have := size_item (k := k) (b := b) (n := n) (t := t) (ks := ks) (show y ∈ is from hy)
      omega
    have HIH : Hid (∀ k (h : k < X.its.length) (cs : List Value) (w : World), VAt w X.its[k] cs → Calls Tryz.prog 52 #[.agg cs.toArray] w fun e w' => e = .returned (.int .i64 X.its[k].cntL) ∧ Below w.heap.size w w') := by
      intro k h
      have hm := List.getElem_mem h
      exact ih X.its[k] (hsz _ hm)
    have HR : Hid (V.cntsL X.its 1 = X.cntL) := by cases X; show _ = _; unfold V.cntL; rfl
    obtain ⟨R, hR⟩ : ∃ R, R = X.cntL := ⟨_, rfl⟩
    rw [← hR] at HR ⊢
    generalize X.its = is at *
    generalize X.kys = ks at *
    generalize X.kd = xk at *
    generalize X.bo = xb at *
    generalize X.nu = xn at *
    generalize X.tx = xt at *
    unfold maxLen at hil
    clear hS hT hk ih hX hR h hsz
    go_enter Tryz.func52, Tryz.ntmps52
    go_wp2_with fail
    go_loopw [3, 9] (fun x i wr => ∃ (k : Nat) (n : Int), k ≤ is.length ∧ i = .int .i64 k ∧ x = .int .i64 n ∧ Hid (V.cntsL (is.drop k) n = R) ∧ Hid (Below w.heap.size w wr) ∧ w.heap.size + 1 ≤ wr.heap.size) (fun _ i _ => is.length - (intOf i).toNat)
    case atStart => exact ⟨0, 1, by omega, rfl, rfl, by show _ = _; rw [List.drop_zero]; exact HR.out, (Below.refl _ w).alloc (Nat.le_refl _) _, by simp⟩
    case round =>
      obtain ⟨k, n, hk, rfl, rfl, HI, HB, hzr⟩ := hrel
      by_cases hkl : k < is.length
      · obtain ⟨b, off, ja, jc, la, lc, rfl, hlt, hat, hc6⟩ := HK.out k hkl
        obtain ⟨d0, d1, d2, d3, d4, d5⟩ := six_later HB.out hlt hc6
        have hdr : is.drop k = is[k] :: is.drop (k + 1) := List.drop_eq_getElem_cons hkl
        have hBn : Below wr.heap.size wr (wr.alloc (.cells #[.int .i64 is[k].kd, .bool is[k].bo, .int .i64 is[k].nu, .string is[k].tx, .slice ja is[k].its.length jc, .slice la is[k].kys.length lc] 35)) := (Below.refl _ wr).alloc (Nat.le_refl _) _
        have hBn2 := HB.out.trans (hBn.mono HB.out.size)
        have HCALL := Lib.hid (HIH.out k hkl _ _ (hat.keep hBn2))
        rw [vcs_arr] at HCALL
        have hI := HI.out
        rw [hdr] at hI
        unfold V.cntsL at hI
        by_cases hbr : 5000 < n
        · have HF : Hid (n = R) := by have := hI; rw [if_pos hbr] at this; exact this
          have q : decide ((5000 : Int) < n) = true := decide_eq_true hbr
          have HB2 := Lib.hid hBn2
          clear hI hdr hBn hBn2 hc6 hat HI hbr
          go_wp2_with fail
          go_ret
          exact ⟨by rw [HF.out]; rfl, HB2.out⟩
        · have HF : Hid (V.cntsL (is.drop (k + 1)) (wrap64 (n + is[k].cntL)) = R) := by
            have := hI; rw [if_neg hbr] at this; exact this
          have q : decide ((5000 : Int) < n) = false := decide_eq_false hbr
          obtain ⟨t, ht⟩ : ∃ t, t = is[k].cntL := ⟨_, rfl⟩
          rw [← ht] at HCALL HF
          have HB2 := Lib.hid hBn2
          clear hI hdr hBn hBn2 hc6 hat HI ht hbr
          go_wp2_with fail
          refine HCALL.out.mono ?_
          rintro e w2 ⟨rfl, hb2⟩
          have HB3 : Hid (Below w.heap.size w w2) := HB2.out.trans (hb2.mono HB2.out.size)
          have hz3 : w.heap.size + 1 ≤ w2.heap.size := by have := hb2.size; simp at this; omega
          clear hb2
          go_wp2_with fail
          go_roundw
          case rel => exact ⟨k + 1, _, by omega, by go_num, rfl, HF, HB3, hz3⟩
          case measure => simp [intOf]; omega
      · have HF : Hid (n = R) := by have := HI.out; rw [List.drop_eq_nil_of_le (by omega)] at this; unfold V.cntsL at this; exact this
        go_wp2_with fail
        go_ret
        exact ⟨by rw [HF.out]; rfl, HB.out⟩
set_option maxHeartbeats 2000000 in
theorem llevels_all : ∀ (M : Nat) (X : V), SizeOf.sizeOf X < M → ∀ (cs : List Value) (w : World), VAt w X cs →
    Calls Tryz.prog 53 #[.agg cs.toArray] w fun e w' => e = .returned (.int .i64 X.levW) ∧ Below w.heap.size w w' := by
  intro M
  induction M with
  | zero => intro X h; omega
  | succ M ih =>
    intro X hX cs w h
    obtain ⟨ia, ic, ka, kc, rfl, hil, _, _, _, rows, hS, hT⟩ := h.opened
    obtain ⟨_, _, hsl, hk⟩ := VsAt.item hS hT
    simp only [Value.slice.injEq] at hsl
    obtain ⟨rfl, _, rfl⟩ := hsl
    have HK := Lib.hid hk
    rw [vcs_arr]
    have hsz : ∀ y ∈ X.its, SizeOf.sizeOf y < M := by
      obtain ⟨k, b, n, t, is, ks⟩ := X
      intro y hy
      have := size_item (k := k) (b := b) (n := n) (t := t) (ks := ks) (show y ∈ is from hy)
      omega
    have HIH : Hid (∀ k (h : k < X.its.length) (cs : List Value) (w : World), VAt w X.its[k] cs → Calls Tryz.prog 53 #[.agg cs.toArray] w fun e w' => e = .returned (.int .i64 X.its[k].levW) ∧ Below w.heap.size w w') := by
      intro k h
      have hm := List.getElem_mem h
      exact ih X.its[k] (hsz _ hm)
    have e0 : X.levW = wrap64 (V.levsW X.its 0 + 1) := by cases X; unfold V.levW; rfl
    obtain ⟨R, hR⟩ : ∃ R, R = V.levsW X.its 0 := ⟨_, rfl⟩
    rw [e0, ← hR]
    have HRR := Lib.hid hR
    generalize X.its = is at *
    generalize X.kys = ks at *
    generalize X.kd = xk at *
    generalize X.bo = xb at *
    generalize X.nu = xn at *
    generalize X.tx = xt at *
    unfold maxLen at hil
    clear hS hT hk ih hX hR h hsz e0
    go_enter Tryz.func53, Tryz.ntmps53
    go_wp2_with fail
    go_loopw [3, 9] (fun x i wr => ∃ (k : Nat) (n : Int), k ≤ is.length ∧ i = .int .i64 k ∧ x = .int .i64 n ∧ Hid (V.levsW (is.drop k) n = R) ∧ Hid (Below w.heap.size w wr) ∧ w.heap.size + 1 ≤ wr.heap.size) (fun _ i _ => is.length - (intOf i).toNat)
    case atStart => exact ⟨0, 0, by omega, rfl, rfl, by show _ = _; rw [List.drop_zero]; exact HRR.out.symm, (Below.refl _ w).alloc (Nat.le_refl _) _, by simp⟩
    case round =>
      obtain ⟨k, n, hk, rfl, rfl, HI, HB, hzr⟩ := hrel
      by_cases hkl : k < is.length
      · obtain ⟨b, off, ja, jc, la, lc, rfl, hlt, hat, hc6⟩ := HK.out k hkl
        obtain ⟨d0, d1, d2, d3, d4, d5⟩ := six_later HB.out hlt hc6
        have hdr : is.drop k = is[k] :: is.drop (k + 1) := List.drop_eq_getElem_cons hkl
        have hBn : Below wr.heap.size wr (wr.alloc (.cells #[.int .i64 is[k].kd, .bool is[k].bo, .int .i64 is[k].nu, .string is[k].tx, .slice ja is[k].its.length jc, .slice la is[k].kys.length lc] 35)) := (Below.refl _ wr).alloc (Nat.le_refl _) _
        have hBn2 := HB.out.trans (hBn.mono HB.out.size)
        have HCALL := Lib.hid (HIH.out k hkl _ _ (hat.keep hBn2))
        rw [vcs_arr] at HCALL
        have hI := HI.out
        rw [hdr] at hI
        unfold V.levsW at hI
        have HF : Hid (V.levsW (is.drop (k + 1)) (max n is[k].levW) = R) := hI
        obtain ⟨t, ht⟩ : ∃ t, t = is[k].levW := ⟨_, rfl⟩
        rw [← ht] at HCALL HF
        have HB2 := Lib.hid hBn2
        clear hI hdr hBn hBn2 hc6 hat HI ht
        go_wp2_with fail
        refine HCALL.out.mono ?_
        rintro e w2 ⟨rfl, hb2⟩
        have HB3 : Hid (Below w.heap.size w w2) := HB2.out.trans (hb2.mono HB2.out.size)
        have hz3 : w.heap.size + 1 ≤ w2.heap.size := by have := hb2.size; simp at this; omega
        clear hb2
        go_wp2_with fail
        go_roundw
        case rel => exact ⟨k + 1, max n t, by omega, by go_num, rfl, HF, HB3, hz3⟩
        case measure => simp [intOf]; omega
      · have HF : Hid (n = R) := by have := HI.out; rw [List.drop_eq_nil_of_le (by omega)] at this; unfold V.levsW at this; exact this
        go_wp2_with fail
        go_ret
        exact ⟨by rw [HF.out]; rfl, HB.out⟩
end Go.Proofs.YtihdfkcoajpmjaaGreatDoor
