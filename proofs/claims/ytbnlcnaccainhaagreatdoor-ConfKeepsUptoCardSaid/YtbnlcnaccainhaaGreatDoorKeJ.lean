/- conf.valuesFault, Check: whether a value is right. Conditions (Check): at most 2^40 nodes. -/
import Derived.Test.YtbnlcnaccainhaaGreatDoorKeI
import Derived.Test.YtbnlcnaccainhaaGreatDoorKeR
namespace Go.Proofs.YtbnlcnaccainhaaGreatDoor
open Go.RowKit Mh
set_option linter.unusedVariables false

theorem goods_drop (is : List V) (i : Nat) (h : i < is.length) : V.goods (is.drop i) ↔ is[i].good ∧ V.goods (is.drop (i + 1)) := by
  rw [List.drop_eq_getElem_cons h]
  simp only [V.goods]
set_option maxHeartbeats 4000000 in
theorem valuesFault_any : ∀ (M : Nat) (X : V), SizeOf.sizeOf X < M → ∀ (cs : List Value) (w : World), VAt w X cs →
    Calls Tryz.prog 22 #[.agg cs.toArray] w fun e w' => ∃ r : Int, e = .returned (.int .i64 r) ∧ (r = 0 ↔ X.good) ∧ Below w.heap.size w w' := by
  intro M
  induction M with
  | zero => intro X h; omega
  | succ M ih =>
    intro X hX cs w h
    have CF := Lib.hid (fun w' (hb : Below w.heap.size w w') => valueFault_any X cs w' (h.keep hb))
    obtain ⟨ia, ic, ka, kc, rfl, hil, _, _, _, rows, hS, hT⟩ := h.opened
    obtain ⟨_, _, hsl, hk⟩ := VsAt.item hS hT
    simp only [Value.slice.injEq] at hsl
    obtain ⟨rfl, _, rfl⟩ := hsl
    have HK := Lib.hid hk
    rw [vcs_arr] at CF
    rw [vcs_arr]
    have hsz : ∀ y ∈ X.its, SizeOf.sizeOf y < M := by
      obtain ⟨k, b, n, t, is, ks⟩ := X
      intro y hy
      have := size_item (k := k) (b := b) (n := n) (t := t) (ks := ks) (show y ∈ is from hy)
      omega
    have HIH : Hid (∀ k (h : k < X.its.length) (cs : List Value) (w : World), VAt w X.its[k] cs → Calls Tryz.prog 22 #[.agg cs.toArray] w fun e w' => ∃ r : Int, e = .returned (.int .i64 r) ∧ (r = 0 ↔ X.its[k].good) ∧ Below w.heap.size w w') := by
      intro k h
      exact ih X.its[k] (hsz _ (List.getElem_mem h))
    have HG : Hid (X.good ↔ X.good1 ∧ V.goods X.its) := by
      obtain ⟨k, b, n, t, is, ks⟩ := X
      show _ ↔ _
      simp only [V.good]; exact Iff.rfl
    have HB0 : Hid (Below w.heap.size w (w.alloc (.cells (sixA X ia ic ka kc) 25))) := (Below.refl w.heap.size w).alloc (Nat.le_refl _) _
    unfold sixA at HB0
    generalize X.good = G at *
    generalize X.good1 = G1 at *
    generalize X.its = is at *
    generalize X.kys = ks at *
    generalize X.kd = xk at *
    generalize X.bo = xb at *
    generalize X.nu = xn at *
    generalize X.tx = xt at *
    unfold maxLen at hil
    clear hS hT hk ih hX h hsz
    go_enter Tryz.func22, Tryz.ntmps22
    go_wp2_with fail
    refine (CF.out _ HB0.out).mono ?_
    rintro e w1 ⟨r, rfl, hr, hb1⟩
    have hbk : w1.heap[w.heap.size]? = some (.cells #[.int .i64 xk, .bool xb, .int .i64 xn, .string xt, .slice ia is.length ic, .slice ka ks.length kc] 25 (0, 0)) := (hb1.block _ (by simp)).trans (heap_alloc_new _ _)
    have HB1 : Hid (Below w.heap.size w w1) := HB0.out.trans (hb1.mono (by simp))
    have hz1 : w.heap.size + 1 ≤ w1.heap.size := by have := hb1.size; simp at this; omega
    have x4 : w1.cell? ⟨w.heap.size, 4, none⟩ = some (.slice ia is.length ic) := cellT hbk rfl
    clear hb1 hbk CF HB0
    by_cases hr0 : r = 0
    · subst hr0
      have HG1 : Hid (G ↔ V.goods is) := HG.out.trans ⟨fun g => g.2, fun g => ⟨hr.1 rfl, g⟩⟩
      clear hr HG
      go_wp2_with fail
      go_loopw [15] (fun i wr => ∃ j : Nat, j ≤ is.length ∧ i = .int .i64 j ∧ Hid (G ↔ V.goods (is.drop j)) ∧ Hid (Below w.heap.size w wr) ∧ w.heap.size + 1 ≤ wr.heap.size) (fun i _ => is.length - (intOf i).toNat)
      case atStart => exact ⟨0, by omega, rfl, by show _ ↔ _; rw [List.drop_zero]; exact HG1.out, HB1, hz1⟩
      case round =>
        obtain ⟨j, hj, rfl, HJ, HB, hzr⟩ := hrel
        by_cases hjl : j < is.length
        · obtain ⟨b, off, ja, jc, la, lc, rfl, hlt, hat, hc6⟩ := HK.out j hjl
          obtain ⟨d0, d1, d2, d3, d4, d5⟩ := six_later HB.out hlt hc6
          have hBn : Below wr.heap.size wr (wr.alloc (.cells #[.int .i64 is[j].kd, .bool is[j].bo, .int .i64 is[j].nu, .string is[j].tx, .slice ja is[j].its.length jc, .slice la is[j].kys.length lc] 25)) := (Below.refl _ wr).alloc (Nat.le_refl _) _
          have HB2 : Hid (Below w.heap.size w (wr.alloc (.cells #[.int .i64 is[j].kd, .bool is[j].bo, .int .i64 is[j].nu, .string is[j].tx, .slice ja is[j].its.length jc, .slice la is[j].kys.length lc] 25))) := HB.out.trans (hBn.mono HB.out.size)
          have HCALL := Lib.hid (HIH.out j hjl _ _ (hat.keep HB2.out))
          rw [vcs_arr] at HCALL
          have HD := Lib.hid (goods_drop is j hjl)
          clear hBn hc6 hat
          go_wp2_with fail
          refine HCALL.out.mono ?_
          rintro e w2 ⟨r, rfl, hr, hb2⟩
          have HB3 : Hid (Below w.heap.size w w2) := HB2.out.trans (hb2.mono HB2.out.size)
          have hz3 : w.heap.size + 1 ≤ w2.heap.size := by have := hb2.size; simp at this; omega
          clear hb2 d0 d1 d2 d3 d4 d5 HCALL
          by_cases hr0 : r = 0
          · subst hr0
            have HX : Hid (G ↔ V.goods (is.drop (j + 1))) := HJ.out.trans (HD.out.trans ⟨fun g => g.2, fun g => ⟨hr.1 rfl, g⟩⟩)
            clear hr HJ HD
            go_wp2_with fail
            go_roundw
            case rel => exact ⟨j + 1, by omega, by go_num, HX, HB3, hz3⟩
            case measure => simp [intOf]; omega
          · have HN : Hid (¬ G) := fun g => hr0 (hr.2 (HD.out.1 (HJ.out.1 g)).1)
            have q : (r != 0) = true := by rw [bne_iff_ne]; exact hr0
            have HR0 := Lib.hid hr0
            clear hr HJ HD hr0
            go_wp2_with fail
            go_ret
            exact ⟨r, rfl, ⟨fun h => absurd h HR0.out, fun g => absurd g HN.out⟩, HB3.out⟩
        · have HY : Hid G := HJ.out.2 (by rw [List.drop_eq_nil_of_le (by omega)]; simp [V.goods])
          go_wp2_with fail
          go_ret
          exact ⟨0, rfl, ⟨fun _ => HY.out, fun _ => rfl⟩, HB.out⟩
    · have HN : Hid (¬ G) := fun g => hr0 (hr.2 (HG.out.1 g).1)
      have q : (r != 0) = true := by rw [bne_iff_ne]; exact hr0
      have HR0 := Lib.hid hr0
      clear hr hr0 HG
      go_wp2_with fail
      go_ret
      exact ⟨r, rfl, ⟨fun h => absurd h HR0.out, fun g => absurd g HN.out⟩, HB1.out⟩

set_option maxHeartbeats 2000000 in
theorem check_any (X : V) (hn : X.nodes ≤ 1099511627776) (cs : List Value) (w : World) (h : VAt w X cs) :
    Calls Tryz.prog 10 #[.agg cs.toArray] w fun e w' => ∃ r : Int, e = .returned (.int .i64 r) ∧ (r = 0 ↔ X.okc) ∧ Below w.heap.size w w' := by
  have C1 := Lib.hid (fun w' (hb : Below w.heap.size w w') => count_any _ X (Nat.lt_succ_self _) hn cs w' (h.keep hb))
  have C2 := Lib.hid (fun w' (hb : Below w.heap.size w w') => levels_any _ X (Nat.lt_succ_self _) hn cs w' (h.keep hb))
  have C3 := Lib.hid (fun w' (hb : Below w.heap.size w w') => valuesFault_any _ X (Nat.lt_succ_self _) cs w' (h.keep hb))
  have c1 := cnt_nodes X
  have c2 := lev_nodes X
  have HG : Hid (X.okc ↔ X.cnt ≤ 1000 ∧ X.lev ≤ 8 ∧ X.good) := Iff.rfl
  obtain ⟨ia, ic, ka, kc, rfl, _⟩ := h.opened
  rw [vcs_arr] at C1 C2 C3
  rw [vcs_arr]
  have HB0 : Hid (Below w.heap.size w (w.alloc (.cells (sixA X ia ic ka kc) 25))) := (Below.refl w.heap.size w).alloc (Nat.le_refl _) _
  unfold sixA at HB0
  generalize X.okc = O at *
  generalize X.cnt = c at *
  generalize X.lev = l at *
  generalize X.good = G at *
  generalize X.its = is at *
  generalize X.kys = ks at *
  generalize X.kd = xk at *
  generalize X.bo = xb at *
  generalize X.nu = xn at *
  generalize X.tx = xt at *
  clear h
  go_enter Tryz.func10, Tryz.ntmps10
  go_wp2_with fail
  refine (C1.out _ HB0.out).mono ?_
  rintro e w1 ⟨rfl, hb1⟩
  have hbk : w1.heap[w.heap.size]? = some (.cells #[.int .i64 xk, .bool xb, .int .i64 xn, .string xt, .slice ia is.length ic, .slice ka ks.length kc] 25 (0, 0)) := (hb1.block _ (by simp)).trans (heap_alloc_new _ _)
  have HB1 : Hid (Below w.heap.size w w1) := HB0.out.trans (hb1.mono (by simp))
  have HZ1 : Hid (w.heap.size < w1.heap.size) := by have := hb1.size; simp at this; show _ < _; omega
  have x0 := cellT hbk (i := 0) rfl
  have x1 := cellT hbk (i := 1) rfl
  have x2 := cellT hbk (i := 2) rfl
  have x3 := cellT hbk (i := 3) rfl
  have x4 := cellT hbk (i := 4) rfl
  have x5 := cellT hbk (i := 5) rfl
  have HBK := Lib.hid hbk
  clear hb1 hbk HB0
  by_cases hc : 1000 < c
  · have HN : Hid (¬ O) := fun o => by have := (HG.out.1 o).1; omega
    have q : decide ((1000 : Int) < (c : Int)) = true := decide_eq_true (by omega)
    have q' : decide (1000 < c) = true := decide_eq_true hc
    clear HG hc c1 c2
    go_wp2_with fail
    go_ret
    exact ⟨4, rfl, ⟨fun h => absurd h (by decide), fun g => absurd g HN.out⟩, HB1.out⟩
  · have q : decide ((1000 : Int) < (c : Int)) = false := decide_eq_false (by omega)
    have q' : decide (1000 < c) = false := decide_eq_false hc
    have HG2 : Hid (O ↔ l ≤ 8 ∧ G) := HG.out.trans ⟨fun g => g.2, fun g => ⟨by omega, g⟩⟩
    clear HG hc c1
    go_wp2_with fail
    refine (C2.out _ HB1.out).mono ?_
    rintro e w2 ⟨rfl, hb2⟩
    have hbk := (hb2.block _ HZ1.out).trans HBK.out
    have HB2 : Hid (Below w.heap.size w w2) := HB1.out.trans (hb2.mono HB1.out.size)
    clear x0 x1 x2 x3 x4 x5 hb2
    have x0 := cellT hbk (i := 0) rfl
    have x1 := cellT hbk (i := 1) rfl
    have x2 := cellT hbk (i := 2) rfl
    have x3 := cellT hbk (i := 3) rfl
    have x4 := cellT hbk (i := 4) rfl
    have x5 := cellT hbk (i := 5) rfl
    clear hbk HBK
    by_cases hl : 8 < l
    · have HN : Hid (¬ O) := fun o => by have := (HG2.out.1 o).1; omega
      have q2 : decide ((8 : Int) < (l : Int)) = true := decide_eq_true (by omega)
      have q2' : decide (8 < l) = true := decide_eq_true hl
      clear HG2 hl c2
      go_wp2_with fail
      go_ret
      exact ⟨13, rfl, ⟨fun h => absurd h (by decide), fun g => absurd g HN.out⟩, HB2.out⟩
    · have q2 : decide ((8 : Int) < (l : Int)) = false := decide_eq_false (by omega)
      have q2' : decide (8 < l) = false := decide_eq_false hl
      have HG3 : Hid (O ↔ G) := HG2.out.trans ⟨fun g => g.2, fun g => ⟨by omega, g⟩⟩
      clear HG2 hl c2
      go_wp2_with fail
      refine (C3.out _ HB2.out).mono ?_
      rintro e w3 ⟨r, rfl, hr, hb3⟩
      have HB3 : Hid (Below w.heap.size w w3) := HB2.out.trans (hb3.mono HB2.out.size)
      have HR : Hid (r = 0 ↔ O) := hr.trans HG3.out.symm
      clear hr hb3 x0 x1 x2 x3 x4 x5
      go_wp2_with fail
      go_ret
      exact ⟨r, rfl, HR.out, HB3.out⟩
end Go.Proofs.YtbnlcnaccainhaaGreatDoor
