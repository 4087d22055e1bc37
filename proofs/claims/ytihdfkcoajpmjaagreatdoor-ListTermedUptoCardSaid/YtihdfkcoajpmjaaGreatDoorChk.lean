/- conf.count, levels, Check of any value, whatever its size: sums wrap. No conditions. -/
import Derived.Test.YtihdfkcoajpmjaaGreatDoorKeJ
namespace Mh
open Go Go.RowKit
set_option linter.unusedVariables false
mutual
/-- What conf.count returns. -/
def V.cntW : V → Int
  | .mk _ _ _ _ is _ => V.cntsW is 1
def V.cntsW : List V → Int → Int
  | [], n => n
  | x :: r, n => if 1000 < n then n else V.cntsW r (wrap64 (n + V.cntW x))
end
mutual
/-- What conf.levels returns. -/
def V.levW : V → Int
  | .mk _ _ _ _ is _ => wrap64 (V.levsW is 0 + 1)
def V.levsW : List V → Int → Int
  | [], n => n
  | x :: r, n => V.levsW r (max n (V.levW x))
end
/-- What Check asks, whatever the size. -/
def V.okw (v : V) : Prop := v.cntW ≤ 1000 ∧ v.levW ≤ 8 ∧ v.good
end Mh
namespace Go.Proofs.YtihdfkcoajpmjaaGreatDoor
open Go.RowKit Mh
set_option linter.unusedVariables false
set_option maxHeartbeats 2000000 in
theorem count_all : ∀ (M : Nat) (X : V), SizeOf.sizeOf X < M → ∀ (cs : List Value) (w : World), VAt w X cs →
    Calls Tryz.prog 90 #[.agg cs.toArray] w fun e w' => e = .returned (.int .i64 X.cntW) ∧ Below w.heap.size w w' := by
  intro M
  induction M with
  | zero => intro X h; omega
  | succ M ih =>
    intro X hX cs w h
    obtain ⟨ia, ic, ka, kc, rfl, hil, _, _, _, rows, hS, hT⟩ := h.opened
    obtain ⟨_, _, hsl, hk⟩ := VsAt.item hS hT
    simp only [Value.slice.injEq] at hsl
    obtain ⟨rfl, _, rfl⟩ := hsl
    have HK := Lib.hid hk
    rw [vcs_arr]
    have hsz : ∀ y ∈ X.its, SizeOf.sizeOf y < M := by
      obtain ⟨k, b, n, t, is, ks⟩ := X
      intro y hy
      have := size_item (k := k) (b := b) (n := n) (t := t) (ks := ks) (show y ∈ is from hy)
      omega
    have HIH : Hid (∀ k (h : k < X.its.length) (cs : List Value) (w : World), VAt w X.its[k] cs → Calls Tryz.prog 90 #[.agg cs.toArray] w fun e w' => e = .returned (.int .i64 X.its[k].cntW) ∧ Below w.heap.size w w') := by
      intro k h
      have hm := List.getElem_mem h
      exact ih X.its[k] (hsz _ hm)
    have HR : Hid (V.cntsW X.its 1 = X.cntW) := by cases X; show _ = _; unfold V.cntW; rfl
    obtain ⟨R, hR⟩ : ∃ R, R = X.cntW := ⟨_, rfl⟩
    rw [← hR] at HR ⊢
    generalize X.its = is at *
    generalize X.kys = ks at *
    generalize X.kd = xk at *
    generalize X.bo = xb at *
    generalize X.nu = xn at *
    generalize X.tx = xt at *
    unfold maxLen at hil
    clear hS hT hk ih hX hR h hsz
    go_enter Tryz.func90, Tryz.ntmps90
    go_wp2_with fail
    go_loopw [3, 9] (fun x i wr => ∃ (k : Nat) (n : Int), k ≤ is.length ∧ i = .int .i64 k ∧ x = .int .i64 n ∧ Hid (V.cntsW (is.drop k) n = R) ∧ Hid (Below w.heap.size w wr) ∧ w.heap.size + 1 ≤ wr.heap.size) (fun _ i _ => is.length - (intOf i).toNat)
    case atStart => exact ⟨0, 1, by omega, rfl, rfl, by show _ = _; rw [List.drop_zero]; exact HR.out, (Below.refl _ w).alloc (Nat.le_refl _) _, by simp⟩
    case round =>
      obtain ⟨k, n, hk, rfl, rfl, HI, HB, hzr⟩ := hrel
      by_cases hkl : k < is.length
      · obtain ⟨b, off, ja, jc, la, lc, rfl, hlt, hat, hc6⟩ := HK.out k hkl
        obtain ⟨d0, d1, d2, d3, d4, d5⟩ := six_later HB.out hlt hc6
        have hdr : is.drop k = is[k] :: is.drop (k + 1) := List.drop_eq_getElem_cons hkl
        have hBn : Below wr.heap.size wr (wr.alloc (.cells #[.int .i64 is[k].kd, .bool is[k].bo, .int .i64 is[k].nu, .string is[k].tx, .slice ja is[k].its.length jc, .slice la is[k].kys.length lc] 35)) := (Below.refl _ wr).alloc (Nat.le_refl _) _
        have hBn2 := HB.out.trans (hBn.mono HB.out.size)
        have HCALL := Lib.hid (HIH.out k hkl _ _ (hat.keep hBn2))
        rw [vcs_arr] at HCALL
        have hI := HI.out
        rw [hdr] at hI
        unfold V.cntsW at hI
        by_cases hbr : 1000 < n
        · have HF : Hid (n = R) := by have := hI; rw [if_pos hbr] at this; exact this
          have q : decide ((1000 : Int) < n) = true := decide_eq_true hbr
          have HB2 := Lib.hid hBn2
          clear hI hdr hBn hBn2 hc6 hat HI hbr
          go_wp2_with fail
          go_ret
          exact ⟨by rw [HF.out]; rfl, HB2.out⟩
        · have HF : Hid (V.cntsW (is.drop (k + 1)) (wrap64 (n + is[k].cntW)) = R) := by
            have := hI; rw [if_neg hbr] at this; exact this
          have q : decide ((1000 : Int) < n) = false := decide_eq_false hbr
          obtain ⟨t, ht⟩ : ∃ t, t = is[k].cntW := ⟨_, rfl⟩
          rw [← ht] at HCALL HF
          have HB2 := Lib.hid hBn2
          clear hI hdr hBn hBn2 hc6 hat HI ht hbr
          go_wp2_with fail
          refine HCALL.out.mono ?_
          rintro e w2 ⟨rfl, hb2⟩
          have HB3 : Hid (Below w.heap.size w w2) := HB2.out.trans (hb2.mono HB2.out.size)
          have hz3 : w.heap.size + 1 ≤ w2.heap.size := by have := hb2.size; simp at this; omega
          clear hb2
          go_wp2_with fail
          go_roundw
          case rel => exact ⟨k + 1, _, by omega, by go_num, rfl, HF, HB3, hz3⟩
          case measure => simp [intOf]; omega
      · have HF : Hid (n = R) := by have := HI.out; rw [List.drop_eq_nil_of_le (by omega)] at this; unfold V.cntsW at this; exact this
        go_wp2_with fail
        go_ret
        exact ⟨by rw [HF.out]; rfl, HB.out⟩
set_option maxHeartbeats 2000000 in
theorem levels_all : ∀ (M : Nat) (X : V), SizeOf.sizeOf X < M → ∀ (cs : List Value) (w : World), VAt w X cs →
    Calls Tryz.prog 91 #[.agg cs.toArray] w fun e w' => e = .returned (.int .i64 X.levW) ∧ Below w.heap.size w w' := by
  intro M
  induction M with
  | zero => intro X h; omega
  | succ M ih =>
    intro X hX cs w h
    obtain ⟨ia, ic, ka, kc, rfl, hil, _, _, _, rows, hS, hT⟩ := h.opened
    obtain ⟨_, _, hsl, hk⟩ := VsAt.item hS hT
    simp only [Value.slice.injEq] at hsl
    obtain ⟨rfl, _, rfl⟩ := hsl
    have HK := Lib.hid hk
    rw [vcs_arr]
    have hsz : ∀ y ∈ X.its, SizeOf.sizeOf y < M := by
      obtain ⟨k, b, n, t, is, ks⟩ := X
      intro y hy
      have := size_item (k := k) (b := b) (n := n) (t := t) (ks := ks) (show y ∈ is from hy)
      omega
    have HIH : Hid (∀ k (h : k < X.its.length) (cs : List Value) (w : World), VAt w X.its[k] cs → Calls Tryz.prog 91 #[.agg cs.toArray] w fun e w' => e = .returned (.int .i64 X.its[k].levW) ∧ Below w.heap.size w w') := by
      intro k h
      have hm := List.getElem_mem h
      exact ih X.its[k] (hsz _ hm)
    have e0 : X.levW = wrap64 (V.levsW X.its 0 + 1) := by cases X; unfold V.levW; rfl
    obtain ⟨R, hR⟩ : ∃ R, R = V.levsW X.its 0 := ⟨_, rfl⟩
    rw [e0, ← hR]
    have HRR := Lib.hid hR
    generalize X.its = is at *
    generalize X.kys = ks at *
    generalize X.kd = xk at *
    generalize X.bo = xb at *
    generalize X.nu = xn at *
    generalize X.tx = xt at *
    unfold maxLen at hil
    clear hS hT hk ih hX hR h hsz e0
    go_enter Tryz.func91, Tryz.ntmps91
    go_wp2_with fail
    go_loopw [3, 9] (fun x i wr => ∃ (k : Nat) (n : Int), k ≤ is.length ∧ i = .int .i64 k ∧ x = .int .i64 n ∧ Hid (V.levsW (is.drop k) n = R) ∧ Hid (Below w.heap.size w wr) ∧ w.heap.size + 1 ≤ wr.heap.size) (fun _ i _ => is.length - (intOf i).toNat)
    case atStart => exact ⟨0, 0, by omega, rfl, rfl, by show _ = _; rw [List.drop_zero]; exact HRR.out.symm, (Below.refl _ w).alloc (Nat.le_refl _) _, by simp⟩
    case round =>
      obtain ⟨k, n, hk, rfl, rfl, HI, HB, hzr⟩ := hrel
      by_cases hkl : k < is.length
      · obtain ⟨b, off, ja, jc, la, lc, rfl, hlt, hat, hc6⟩ := HK.out k hkl
        obtain ⟨d0, d1, d2, d3, d4, d5⟩ := six_later HB.out hlt hc6
        have hdr : is.drop k = is[k] :: is.drop (k + 1) := List.drop_eq_getElem_cons hkl
        have hBn : Below wr.heap.size wr (wr.alloc (.cells #[.int .i64 is[k].kd, .bool is[k].bo, .int .i64 is[k].nu, .string is[k].tx, .slice ja is[k].its.length jc, .slice la is[k].kys.length lc] 35)) := (Below.refl _ wr).alloc (Nat.le_refl _) _
        have hBn2 := HB.out.trans (hBn.mono HB.out.size)
        have HCALL := Lib.hid (HIH.out k hkl _ _ (hat.keep hBn2))
        rw [vcs_arr] at HCALL
        have hI := HI.out
        rw [hdr] at hI
        unfold V.levsW at hI
        have HF : Hid (V.levsW (is.drop (k + 1)) (max n is[k].levW) = R) := hI
        obtain ⟨t, ht⟩ : ∃ t, t = is[k].levW := ⟨_, rfl⟩
        rw [← ht] at HCALL HF
        have HB2 := Lib.hid hBn2
        clear hI hdr hBn hBn2 hc6 hat HI ht
        go_wp2_with fail
        refine HCALL.out.mono ?_
        rintro e w2 ⟨rfl, hb2⟩
        have HB3 : Hid (Below w.heap.size w w2) := HB2.out.trans (hb2.mono HB2.out.size)
        have hz3 : w.heap.size + 1 ≤ w2.heap.size := by have := hb2.size; simp at this; omega
        clear hb2
        go_wp2_with fail
        go_roundw
        case rel => exact ⟨k + 1, max n t, by omega, by go_num, rfl, HF, HB3, hz3⟩
        case measure => simp [intOf]; omega
      · have HF : Hid (n = R) := by have := HI.out; rw [List.drop_eq_nil_of_le (by omega)] at this; unfold V.levsW at this; exact this
        go_wp2_with fail
        go_ret
        exact ⟨by rw [HF.out]; rfl, HB.out⟩
set_option maxHeartbeats 2000000 in
theorem check_all (X : V) (cs : List Value) (w : World) (h : VAt w X cs) :
    Calls Tryz.prog 78 #[.agg cs.toArray] w fun e w' => ∃ r : Int, e = .returned (.int .i64 r) ∧ (r = 0 ↔ X.okw) ∧ Below w.heap.size w w' := by
  have C1 := Lib.hid (fun w' (hb : Below w.heap.size w w') => count_all _ X (Nat.lt_succ_self _) cs w' (h.keep hb))
  have C2 := Lib.hid (fun w' (hb : Below w.heap.size w w') => levels_all _ X (Nat.lt_succ_self _) cs w' (h.keep hb))
  have C3 := Lib.hid (fun w' (hb : Below w.heap.size w w') => valuesFault_any _ X (Nat.lt_succ_self _) cs w' (h.keep hb))
  have HG : Hid (X.okw ↔ X.cntW ≤ 1000 ∧ X.levW ≤ 8 ∧ X.good) := Iff.rfl
  obtain ⟨ia, ic, ka, kc, rfl, _⟩ := h.opened
  rw [vcs_arr] at C1 C2 C3
  rw [vcs_arr]
  have HB0 : Hid (Below w.heap.size w (w.alloc (.cells (sixA X ia ic ka kc) 35))) := (Below.refl w.heap.size w).alloc (Nat.le_refl _) _
  unfold sixA at HB0
  generalize X.okw = O at *
  generalize X.cntW = c at *
  generalize X.levW = l at *
  generalize X.good = G at *
  generalize X.its = is at *
  generalize X.kys = ks at *
  generalize X.kd = xk at *
  generalize X.bo = xb at *
  generalize X.nu = xn at *
  generalize X.tx = xt at *
  clear h
  go_enter Tryz.func78, Tryz.ntmps78
  go_wp2_with fail
  refine (C1.out _ HB0.out).mono ?_
  rintro e w1 ⟨rfl, hb1⟩
  have hbk : w1.heap[w.heap.size]? = some (.cells #[.int .i64 xk, .bool xb, .int .i64 xn, .string xt, .slice ia is.length ic, .slice ka ks.length kc] 35 (0, 0)) := (hb1.block _ (by simp)).trans (heap_alloc_new _ _)
  have HB1 : Hid (Below w.heap.size w w1) := HB0.out.trans (hb1.mono (by simp))
  have HZ1 : Hid (w.heap.size < w1.heap.size) := by have := hb1.size; simp at this; show _ < _; omega
  have x0 := cellT hbk (i := 0) rfl
  have x1 := cellT hbk (i := 1) rfl
  have x2 := cellT hbk (i := 2) rfl
  have x3 := cellT hbk (i := 3) rfl
  have x4 := cellT hbk (i := 4) rfl
  have x5 := cellT hbk (i := 5) rfl
  have HBK := Lib.hid hbk
  clear hb1 hbk HB0
  by_cases hc : 1000 < c
  · have HN : Hid (¬ O) := fun o => by have := (HG.out.1 o).1; omega
    have q : decide ((1000 : Int) < c) = true := decide_eq_true (by omega)
    clear HG hc
    go_wp2_with fail
    go_ret
    exact ⟨4, rfl, ⟨fun h => absurd h (by decide), fun g => absurd g HN.out⟩, HB1.out⟩
  · have q : decide ((1000 : Int) < c) = false := decide_eq_false (by omega)
    have HG2 : Hid (O ↔ l ≤ 8 ∧ G) := HG.out.trans ⟨fun g => g.2, fun g => ⟨by omega, g⟩⟩
    clear HG hc
    go_wp2_with fail
    refine (C2.out _ HB1.out).mono ?_
    rintro e w2 ⟨rfl, hb2⟩
    have hbk := (hb2.block _ HZ1.out).trans HBK.out
    have HB2 : Hid (Below w.heap.size w w2) := HB1.out.trans (hb2.mono HB1.out.size)
    clear x0 x1 x2 x3 x4 x5 hb2
    have x0 := cellT hbk (i := 0) rfl
    have x1 := cellT hbk (i := 1) rfl
    have x2 := cellT hbk (i := 2) rfl
    have x3 := cellT hbk (i := 3) rfl
    have x4 := cellT hbk (i := 4) rfl
    have x5 := cellT hbk (i := 5) rfl
    clear hbk HBK
    by_cases hl : 8 < l
    · have HN : Hid (¬ O) := fun o => by have := (HG2.out.1 o).1; omega
      have q2 : decide ((8 : Int) < l) = true := decide_eq_true (by omega)
      clear HG2 hl
      go_wp2_with fail
      go_ret
      exact ⟨13, rfl, ⟨fun h => absurd h (by decide), fun g => absurd g HN.out⟩, HB2.out⟩
    · have q2 : decide ((8 : Int) < l) = false := decide_eq_false (by omega)
      have HG3 : Hid (O ↔ G) := HG2.out.trans ⟨fun g => g.2, fun g => ⟨by omega, g⟩⟩
      clear HG2 hl
      go_wp2_with fail
      refine (C3.out _ HB2.out).mono ?_
      rintro e w3 ⟨r, rfl, hr, hb3⟩
      have HB3 : Hid (Below w.heap.size w w3) := HB2.out.trans (hb3.mono HB2.out.size)
      have HR : Hid (r = 0 ↔ O) := hr.trans HG3.out.symm
      clear hr hb3 x0 x1 x2 x3 x4 x5
      go_wp2_with fail
      go_ret
      exact ⟨r, rfl, HR.out, HB3.out⟩
end Go.Proofs.YtihdfkcoajpmjaaGreatDoor
