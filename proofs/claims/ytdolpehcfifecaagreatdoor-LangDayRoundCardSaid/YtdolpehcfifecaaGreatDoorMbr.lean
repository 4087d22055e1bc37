/- lang.tests, levels of any test: sums that wrap. Conditions: none. -/
import Derived.Test.YtdolpehcfifecaaGreatDoorRuF
namespace Mh
open Go Go.RowKit
mutual
/-- The program's count of tests. -/
def T.tw : T → Int | .mk _ _ _ _ ks => T.twl ks 1
def T.twl : List T → Int → Int
  | [], n => n
  | k :: ks, n => if 20 < n then n else T.twl ks (wrap64 (n + T.tw k))
end
mutual
/-- The program's count of levels. -/
def T.lw : T → Int | .mk _ _ _ _ ks => wrap64 (T.lwl ks 0 + 1)
def T.lwl : List T → Int → Int
  | [], n => n
  | k :: ks, n => T.lwl ks (max n (T.lw k))
end
end Mh
namespace Go.Proofs.YtdolpehcfifecaaGreatDoor
open Go.RowKit Mh
set_option linter.unusedVariables false
set_option maxHeartbeats 1000000 in
theorem testsw_any : ∀ (M : Nat) (X : T), SizeOf.sizeOf X < M → ∀ (cs : List Value) (w : World), TAt w X cs →
    Calls Tryz.prog 35 #[.agg cs.toArray] w fun e w' => e = .returned (.int .i64 X.tw) ∧ Below w.heap.size w w' := by
  intro M
  induction M with
  | zero => intro X h; omega
  | succ M ih =>
    rintro ⟨op, m, lo, hi, ks⟩ hX cs w h
    unfold TAt at h
    obtain ⟨kv, rfl, rows, hS, hT⟩ := h
    obtain ⟨ao, c, rfl, hk⟩ := kid_at hS hT
    obtain ⟨_, _, he, hlen, _⟩ := Sl.shape hS
    unfold maxLen at hlen
    clear he
    have HK := Lib.hid hk
    have HIH : Hid (∀ k (h : k < ks.length) (cs : List Value) (w : World), TAt w ks[k] cs → Calls Tryz.prog 35 #[.agg cs.toArray] w fun e w' => e = .returned (.int .i64 ks[k].tw) ∧ Below w.heap.size w w') := by
      intro k h
      have hm := List.getElem_mem h
      exact ih ks[k] (by have := T.size_kid (op := op) (m := m) (lo := lo) (hi := hi) hm; omega)
    have HR : Hid (T.twl ks 1 = (T.mk op m lo hi ks).tw) := by show _ = _; unfold T.tw; rfl
    obtain ⟨R, hR⟩ : ∃ R, R = (T.mk op m lo hi ks).tw := ⟨_, rfl⟩
    rw [← hR] at HR ⊢
    clear hS hT hk ih hX hR
    go_enter Tryz.func35, Tryz.ntmps35
    go_wp2_with fail
    go_loopw [3, 9] (fun x i wr => ∃ (k : Nat) (n : Int), k ≤ ks.length ∧ i = .int .i64 k ∧ x = .int .i64 n ∧ Hid (T.twl (ks.drop k) n = R) ∧ Hid (Below w.heap.size w wr) ∧ w.heap.size + 1 ≤ wr.heap.size) (fun _ i _ => ks.length - (intOf i).toNat)
    case atStart => exact ⟨0, 1, by omega, rfl, rfl, by show _ = _; rw [List.drop_zero]; exact HR.out, (Below.refl _ w).alloc (Nat.le_refl _) _, by simp⟩
    case round =>
      obtain ⟨k, n, hk, rfl, rfl, HI, HB, hzr⟩ := hrel
      by_cases hkl : k < ks.length
      · obtain ⟨b, off, a4, v4, rfl, hlt, hat, c0, c1, c2, c3, c4⟩ := HK.out k hkl
        obtain ⟨d0, d1, d2, d3, d4⟩ := kid_later HB.out hlt c0 c1 c2 c3 c4
        have hdr : ks.drop k = ks[k] :: ks.drop (k + 1) := List.drop_eq_getElem_cons hkl
        have hBn : Below wr.heap.size wr (wr.alloc (.cells #[.int .i64 ks[k].op, .int .i64 ks[k].mod, .int .i64 ks[k].lo, .int .i64 ks[k].hi, .slice a4 ks[k].ks.length v4] 76)) := (Below.refl _ wr).alloc (Nat.le_refl _) _
        have hBn2 := HB.out.trans (hBn.mono HB.out.size)
        have HCALL := Lib.hid (HIH.out k hkl _ _ (hat.keep hBn2))
        have hI := HI.out
        rw [hdr] at hI
        unfold T.twl at hI
        by_cases hbr : 20 < n
        · have HF : Hid (n = R) := by have := hI; rw [if_pos hbr] at this; exact this
          have q2 : decide (20 < n) = true := decide_eq_true hbr
          have HB2 := Lib.hid hBn2
          clear hI hdr hBn hBn2 c0 c1 c2 c3 c4 hat HI
          go_wp2_with fail
          go_ret
          exact ⟨by rw [HF.out]; rfl, HB2.out⟩
        · have HF : Hid (T.twl (ks.drop (k + 1)) (wrap64 (n + ks[k].tw)) = R) := by
            have := hI; rw [if_neg hbr] at this; exact this
          have q2 : decide (20 < n) = false := decide_eq_false hbr
          obtain ⟨t, ht⟩ : ∃ t, t = ks[k].tw := ⟨_, rfl⟩
          rw [← ht] at HCALL HF
          have HB2 := Lib.hid hBn2
          clear hI hdr hBn hBn2 c0 c1 c2 c3 c4 hat HI ht
          go_wp2_with fail
          refine HCALL.out.mono ?_
          rintro e w2 ⟨rfl, hb2⟩
          have HB3 : Hid (Below w.heap.size w w2) := HB2.out.trans (hb2.mono HB2.out.size)
          have hz3 : w.heap.size + 1 ≤ w2.heap.size := by have := hb2.size; simp at this; omega
          clear hb2
          go_wp2_with fail
          go_roundw
          case rel => exact ⟨k + 1, wrap64 (n + t), by omega, by go_num, by first | rfl | trivial | go_num, HF, HB3, hz3⟩
          case measure => simp [intOf]; omega
      · have HF : Hid (n = R) := by have := HI.out; rw [List.drop_eq_nil_of_le (by omega)] at this; unfold T.twl at this; exact this
        go_wp2_with fail
        go_ret
        exact ⟨by rw [HF.out]; rfl, HB.out⟩

set_option maxHeartbeats 1000000 in
theorem levelsw_any : ∀ (M : Nat) (X : T), SizeOf.sizeOf X < M → ∀ (cs : List Value) (w : World), TAt w X cs →
    Calls Tryz.prog 36 #[.agg cs.toArray] w fun e w' => e = .returned (.int .i64 X.lw) ∧ Below w.heap.size w w' := by
  intro M
  induction M with
  | zero => intro X h; omega
  | succ M ih =>
    rintro ⟨op, m, lo, hi, ks⟩ hX cs w h
    unfold TAt at h
    obtain ⟨kv, rfl, rows, hS, hT⟩ := h
    obtain ⟨ao, c, rfl, hk⟩ := kid_at hS hT
    obtain ⟨_, _, he, hlen, _⟩ := Sl.shape hS
    unfold maxLen at hlen
    clear he
    have HK := Lib.hid hk
    have HIH : Hid (∀ k (h : k < ks.length) (cs : List Value) (w : World), TAt w ks[k] cs → Calls Tryz.prog 36 #[.agg cs.toArray] w fun e w' => e = .returned (.int .i64 ks[k].lw) ∧ Below w.heap.size w w') := by
      intro k h
      have hm := List.getElem_mem h
      exact ih ks[k] (by have := T.size_kid (op := op) (m := m) (lo := lo) (hi := hi) hm; omega)
    have HR : Hid ((T.mk op m lo hi ks).lw = wrap64 (T.lwl ks 0 + 1)) := by show _ = _; unfold T.lw; rfl
    obtain ⟨R, hR⟩ : ∃ R, R = T.lwl ks 0 := ⟨_, rfl⟩
    rw [HR.out, ← hR]
    have HRR := Lib.hid hR
    clear hS hT hk ih hX hR HR
    go_enter Tryz.func36, Tryz.ntmps36
    go_wp2_with fail
    go_loopw [3, 9] (fun x i wr => ∃ (k : Nat) (n : Int), k ≤ ks.length ∧ i = .int .i64 k ∧ x = .int .i64 n ∧ Hid (T.lwl (ks.drop k) n = R) ∧ Hid (Below w.heap.size w wr) ∧ w.heap.size + 1 ≤ wr.heap.size) (fun _ i _ => ks.length - (intOf i).toNat)
    case atStart => exact ⟨0, 0, by omega, rfl, rfl, by show _ = _; rw [List.drop_zero, HRR.out], (Below.refl _ w).alloc (Nat.le_refl _) _, by simp⟩
    case round =>
      obtain ⟨k, n, hk, rfl, rfl, HI, HB, hzr⟩ := hrel
      by_cases hkl : k < ks.length
      · obtain ⟨b, off, a4, v4, rfl, hlt, hat, c0, c1, c2, c3, c4⟩ := HK.out k hkl
        obtain ⟨d0, d1, d2, d3, d4⟩ := kid_later HB.out hlt c0 c1 c2 c3 c4
        have hdr : ks.drop k = ks[k] :: ks.drop (k + 1) := List.drop_eq_getElem_cons hkl
        have hBn : Below wr.heap.size wr (wr.alloc (.cells #[.int .i64 ks[k].op, .int .i64 ks[k].mod, .int .i64 ks[k].lo, .int .i64 ks[k].hi, .slice a4 ks[k].ks.length v4] 76)) := (Below.refl _ wr).alloc (Nat.le_refl _) _
        have hBn2 := HB.out.trans (hBn.mono HB.out.size)
        have HCALL := Lib.hid (HIH.out k hkl _ _ (hat.keep hBn2))
        have hI := HI.out
        rw [hdr] at hI
        unfold T.lwl at hI
        have HF : Hid (T.lwl (ks.drop (k + 1)) (max n ks[k].lw) = R) := hI
        obtain ⟨t, ht⟩ : ∃ t, t = ks[k].lw := ⟨_, rfl⟩
        rw [← ht] at HCALL HF
        have HB2 := Lib.hid hBn2
        clear hI hdr hBn hBn2 c0 c1 c2 c3 c4 hat HI ht
        go_wp2_with fail
        refine HCALL.out.mono ?_
        rintro e w2 ⟨rfl, hb2⟩
        have HB3 : Hid (Below w.heap.size w w2) := HB2.out.trans (hb2.mono HB2.out.size)
        have hz3 : w.heap.size + 1 ≤ w2.heap.size := by have := hb2.size; simp at this; omega
        clear hb2
        go_wp2_with fail
        go_roundw
        case rel => exact ⟨k + 1, max n t, by omega, by go_num, by first | rfl | trivial | go_num, HF, HB3, hz3⟩
        case measure => simp [intOf]; omega
      · have HF : Hid (n = R) := by have := HI.out; rw [List.drop_eq_nil_of_le (by omega)] at this; unfold T.lwl at this; exact this
        go_wp2_with fail
        go_ret
        exact ⟨by rw [HF.out]; rfl, HB.out⟩
end Go.Proofs.YtdolpehcfifecaaGreatDoor
