/- conf.count, levels: what each returns. Conditions: a value has at most 2^40 nodes. -/
import Derived.Test.YtihdfkcoajpmjaaGreatDoorProg
import Derived.Test.YtihdfkcoajpmjaaGreatDoorKePl
import Derived.Test.YtihdfkcoajpmjaaGreatDoorKeVm
import Derived.Lib.MinMax
import Derived.Outline
namespace Go.Proofs.YtihdfkcoajpmjaaGreatDoor
open Go.RowKit Mh
set_option linter.unusedVariables false

/-- The cells of a value. -/
def sixA (X : V) (ia : Option Addr) (ic : Nat) (ka : Option Addr) (kc : Nat) : Array Value := #[.int .i64 X.kd, .bool X.bo, .int .i64 X.nu, .string X.tx, .slice ia X.its.length ic, .slice ka X.kys.length kc]
theorem vcs_arr (X : V) (ia : Option Addr) (ic : Nat) (ka : Option Addr) (kc : Nat) : (vcs X ia ic ka kc).toArray = #[.int .i64 X.kd, .bool X.bo, .int .i64 X.nu, .string X.tx, .slice ia X.its.length ic, .slice ka X.kys.length kc] := rfl
set_option maxHeartbeats 2000000 in
theorem count_any : ∀ (M : Nat) (X : V), SizeOf.sizeOf X < M → X.nodes ≤ 1099511627776 → ∀ (cs : List Value) (w : World), VAt w X cs →
    Calls Tryz.prog 90 #[.agg cs.toArray] w fun e w' => e = .returned (.int .i64 (X.cnt : Nat)) ∧ Below w.heap.size w w' := by
  intro M
  induction M with
  | zero => intro X h; omega
  | succ M ih =>
    intro X hX hnd cs w h
    obtain ⟨ia, ic, ka, kc, rfl, hil, _, _, _, rows, hS, hT⟩ := h.opened
    obtain ⟨_, _, hsl, hk⟩ := VsAt.item hS hT
    simp only [Value.slice.injEq] at hsl
    obtain ⟨rfl, _, rfl⟩ := hsl
    have HK := Lib.hid hk
    rw [vcs_arr]
    have hns := nodes_its X
    have hlen : X.its.length ≤ 1099511627776 := by have := nodess_len X.its; omega
    have hsz : ∀ y ∈ X.its, SizeOf.sizeOf y < M := by
      obtain ⟨k, b, n, t, is, ks⟩ := X
      intro y hy
      have := size_item (k := k) (b := b) (n := n) (t := t) (ks := ks) (show y ∈ is from hy)
      omega
    have HIH : Hid (∀ k (h : k < X.its.length) (cs : List Value) (w : World), VAt w X.its[k] cs → Calls Tryz.prog 90 #[.agg cs.toArray] w fun e w' => e = .returned (.int .i64 (X.its[k].cnt : Nat)) ∧ Below w.heap.size w w') := by
      intro k h
      have hm := List.getElem_mem h
      exact ih X.its[k] (hsz _ hm) (by have := nodess_mem X.its _ hm; omega)
    have HR : Hid (V.cnts X.its 1 = X.cnt) := by cases X; show _ = _; unfold V.cnt; rfl
    have HC : Hid (1 + V.nodess X.its ≤ 1099511627776) := by show _ ≤ _; omega
    obtain ⟨R, hR⟩ : ∃ R, R = X.cnt := ⟨_, rfl⟩
    rw [← hR] at HR ⊢
    generalize X.its = is at *
    generalize X.kys = ks at *
    generalize X.kd = xk at *
    generalize X.bo = xb at *
    generalize X.nu = xn at *
    generalize X.tx = xt at *
    clear hS hT hk ih hX hR h hns hnd hil hsz
    go_enter Tryz.func90, Tryz.ntmps90
    go_wp2_with fail
    go_loopw [3, 9] (fun x i wr => ∃ (k n : Nat), k ≤ is.length ∧ i = .int .i64 k ∧ x = .int .i64 n ∧ n ≤ 1099511627776 ∧ Hid (V.cnts (is.drop k) n = R ∧ n + V.nodess (is.drop k) ≤ 1099511627776) ∧ Hid (Below w.heap.size w wr) ∧ w.heap.size + 1 ≤ wr.heap.size) (fun _ i _ => is.length - (intOf i).toNat)
    case atStart => exact ⟨0, 1, by omega, rfl, rfl, by omega, ⟨by rw [List.drop_zero]; exact HR.out, by rw [List.drop_zero]; exact HC.out⟩, (Below.refl _ w).alloc (Nat.le_refl _) _, by simp⟩
    case round =>
      obtain ⟨k, n, hk, rfl, rfl, hn, HI, HB, hzr⟩ := hrel
      by_cases hkl : k < is.length
      · obtain ⟨b, off, ja, jc, la, lc, rfl, hlt, hat, hc6⟩ := HK.out k hkl
        obtain ⟨d0, d1, d2, d3, d4, d5⟩ := six_later HB.out hlt hc6
        have hdr : is.drop k = is[k] :: is.drop (k + 1) := List.drop_eq_getElem_cons hkl
        have hBn : Below wr.heap.size wr (wr.alloc (.cells #[.int .i64 is[k].kd, .bool is[k].bo, .int .i64 is[k].nu, .string is[k].tx, .slice ja is[k].its.length jc, .slice la is[k].kys.length lc] 35)) := (Below.refl _ wr).alloc (Nat.le_refl _) _
        have hBn2 := HB.out.trans (hBn.mono HB.out.size)
        have HCALL := Lib.hid (HIH.out k hkl _ _ (hat.keep hBn2))
        rw [vcs_arr] at HCALL
        have hI := HI.out
        rw [hdr] at hI
        unfold V.cnts V.nodess at hI
        have hts := cnt_nodes is[k]
        by_cases hbr : 1000 < n
        · have HF : Hid (n = R) := by have := hI.1; rw [if_pos hbr] at this; exact this
          have q : decide ((1000 : Int) < (n : Int)) = true := decide_eq_true (by omega)
          have q2 : decide (1000 < n) = true := decide_eq_true hbr
          have HB2 := Lib.hid hBn2
          clear hI hdr hBn hBn2 hc6 hat HI hts
          go_wp2_with fail
          go_ret
          exact ⟨by rw [HF.out]; rfl, HB2.out⟩
        · have HF : Hid (V.cnts (is.drop (k + 1)) (n + is[k].cnt) = R ∧ n + is[k].cnt + V.nodess (is.drop (k + 1)) ≤ 1099511627776) := by
            refine ⟨?_, by omega⟩
            have := hI.1; rw [if_neg hbr] at this; exact this
          have q : decide ((1000 : Int) < (n : Int)) = false := decide_eq_false (by omega)
          have q2 : decide (1000 < n) = false := decide_eq_false hbr
          have hnt : n + is[k].cnt ≤ 1099511627776 := by omega
          obtain ⟨t, ht⟩ : ∃ t, t = is[k].cnt := ⟨_, rfl⟩
          rw [← ht] at HCALL HF hnt
          have HB2 := Lib.hid hBn2
          clear hI hdr hBn hBn2 hc6 hat HI hts ht
          go_wp2_with fail
          refine HCALL.out.mono ?_
          rintro e w2 ⟨rfl, hb2⟩
          have HB3 : Hid (Below w.heap.size w w2) := HB2.out.trans (hb2.mono HB2.out.size)
          have hz3 : w.heap.size + 1 ≤ w2.heap.size := by have := hb2.size; simp at this; omega
          clear hb2
          go_wp2_with fail
          go_roundw
          case rel => exact ⟨k + 1, n + t, by omega, by go_num, by go_num, hnt, HF, HB3, hz3⟩
          case measure => simp [intOf]; omega
      · have HF : Hid (n = R) := by have := HI.out.1; rw [List.drop_eq_nil_of_le (by omega)] at this; unfold V.cnts at this; exact this
        go_wp2_with fail
        go_ret
        exact ⟨by rw [HF.out]; rfl, HB.out⟩
set_option maxHeartbeats 2000000 in
theorem levels_any : ∀ (M : Nat) (X : V), SizeOf.sizeOf X < M → X.nodes ≤ 1099511627776 → ∀ (cs : List Value) (w : World), VAt w X cs →
    Calls Tryz.prog 91 #[.agg cs.toArray] w fun e w' => e = .returned (.int .i64 (X.lev : Nat)) ∧ Below w.heap.size w w' := by
  intro M
  induction M with
  | zero => intro X h; omega
  | succ M ih =>
    intro X hX hnd cs w h
    obtain ⟨ia, ic, ka, kc, rfl, hil, _, _, _, rows, hS, hT⟩ := h.opened
    obtain ⟨_, _, hsl, hk⟩ := VsAt.item hS hT
    simp only [Value.slice.injEq] at hsl
    obtain ⟨rfl, _, rfl⟩ := hsl
    have HK := Lib.hid hk
    rw [vcs_arr]
    have hns := nodes_its X
    have hlen : X.its.length ≤ 1099511627776 := by have := nodess_len X.its; omega
    have hsz : ∀ y ∈ X.its, SizeOf.sizeOf y < M := by
      obtain ⟨k, b, n, t, is, ks⟩ := X
      intro y hy
      have := size_item (k := k) (b := b) (n := n) (t := t) (ks := ks) (show y ∈ is from hy)
      omega
    have HIH : Hid (∀ k (h : k < X.its.length) (cs : List Value) (w : World), VAt w X.its[k] cs → Calls Tryz.prog 91 #[.agg cs.toArray] w fun e w' => e = .returned (.int .i64 (X.its[k].lev : Nat)) ∧ Below w.heap.size w w') := by
      intro k h
      have hm := List.getElem_mem h
      exact ih X.its[k] (hsz _ hm) (by have := nodess_mem X.its _ hm; omega)
    have HL : Hid (∀ k (h : k < X.its.length), X.its[k].lev ≤ 1099511627776) := fun k h => by
      have := nodess_mem X.its _ (List.getElem_mem h); have := lev_nodes X.its[k]; omega
    have hRb : V.levs X.its 0 + 1 ≤ 1099511627776 := by have := lev_nodes X; obtain ⟨k, b, n, t, is, ks⟩ := X; unfold V.lev at this; show V.levs is 0 + 1 ≤ _; omega
    have e0 : X.lev = V.levs X.its 0 + 1 := by cases X; unfold V.lev; rfl
    obtain ⟨R, hR⟩ : ∃ R, R = V.levs X.its 0 := ⟨_, rfl⟩
    rw [e0, ← hR]
    rw [← hR] at hRb
    have HRR := Lib.hid hR
    generalize X.its = is at *
    generalize X.kys = ks at *
    generalize X.kd = xk at *
    generalize X.bo = xb at *
    generalize X.nu = xn at *
    generalize X.tx = xt at *
    clear hS hT hk ih hX hR h hns hnd hil hsz e0
    go_enter Tryz.func91, Tryz.ntmps91
    go_wp2_with fail
    go_loopw [3, 9] (fun x i wr => ∃ (k n : Nat), k ≤ is.length ∧ i = .int .i64 k ∧ x = .int .i64 n ∧ n ≤ 1099511627776 ∧ Hid (V.levs (is.drop k) n = R) ∧ Hid (Below w.heap.size w wr) ∧ w.heap.size + 1 ≤ wr.heap.size) (fun _ i _ => is.length - (intOf i).toNat)
    case atStart => exact ⟨0, 0, by omega, rfl, rfl, by omega, by show _ = _; rw [List.drop_zero]; exact HRR.out.symm, (Below.refl _ w).alloc (Nat.le_refl _) _, by simp⟩
    case round =>
      obtain ⟨k, n, hk, rfl, rfl, hn, HI, HB, hzr⟩ := hrel
      by_cases hkl : k < is.length
      · obtain ⟨b, off, ja, jc, la, lc, rfl, hlt, hat, hc6⟩ := HK.out k hkl
        obtain ⟨d0, d1, d2, d3, d4, d5⟩ := six_later HB.out hlt hc6
        have hdr : is.drop k = is[k] :: is.drop (k + 1) := List.drop_eq_getElem_cons hkl
        have hBn : Below wr.heap.size wr (wr.alloc (.cells #[.int .i64 is[k].kd, .bool is[k].bo, .int .i64 is[k].nu, .string is[k].tx, .slice ja is[k].its.length jc, .slice la is[k].kys.length lc] 35)) := (Below.refl _ wr).alloc (Nat.le_refl _) _
        have hBn2 := HB.out.trans (hBn.mono HB.out.size)
        have HCALL := Lib.hid (HIH.out k hkl _ _ (hat.keep hBn2))
        rw [vcs_arr] at HCALL
        have hI := HI.out
        rw [hdr] at hI
        unfold V.levs at hI
        have hl := HL.out k hkl
        have HF : Hid (V.levs (is.drop (k + 1)) (max n is[k].lev) = R) := hI
        obtain ⟨t, ht⟩ : ∃ t, t = is[k].lev := ⟨_, rfl⟩
        rw [← ht] at HCALL HF hl
        have hmax : max (n : Int) (t : Int) = ((max n t : Nat) : Int) := by omega
        have hmb : max n t ≤ 1099511627776 := by omega
        have HB2 := Lib.hid hBn2
        clear hI hdr hBn hBn2 hc6 hat HI ht
        go_wp2_with fail
        refine HCALL.out.mono ?_
        rintro e w2 ⟨rfl, hb2⟩
        have HB3 : Hid (Below w.heap.size w w2) := HB2.out.trans (hb2.mono HB2.out.size)
        have hz3 : w.heap.size + 1 ≤ w2.heap.size := by have := hb2.size; simp at this; omega
        clear hb2
        go_wp2_with fail
        go_roundw
        case rel => exact ⟨k + 1, max n t, by omega, by go_num, by first | rfl | (rw [hmax]), hmb, HF, HB3, hz3⟩
        case measure => simp [intOf]; omega
      · have HF : Hid (n = R) := by have := HI.out; rw [List.drop_eq_nil_of_le (by omega)] at this; unfold V.levs at this; exact this
        go_wp2_with fail
        go_ret
        exact ⟨by rw [HF.out]; rfl, HB.out⟩
end Go.Proofs.YtihdfkcoajpmjaaGreatDoor
