/- list.valuesFault, CheckItem, listFault: whether values can be items. Conditions: at most 1048576 values within. -/
import Derived.Test.YtihdfkcoajpmjaaGreatDoorLsE
namespace Mh
open Go Go.RowKit
set_option linter.unusedVariables false
/-- A slice of values. -/
def VsL (w : World) (v : Value) (l : List V) : Prop := ∃ rows, Sl 6 w v l.length rows ∧ VsAt w l rows
theorem VsL.keep {w w' : World} {v : Value} {l : List V} (h : VsL w v l) (hb : Below w.heap.size w w') : VsL w' v l := by
  obtain ⟨rows, h1, h2⟩ := h
  exact ⟨rows, h1.below hb, h2.keep hb⟩
/-- What listFault asks. -/
def ItemsOk (l : List V) : Prop := l.length ≤ 2000 ∧ ∀ X ∈ l, X.itemOk
end Mh
namespace Go.Proofs.YtihdfkcoajpmjaaGreatDoor
open Go.RowKit Mh
set_option linter.unusedVariables false
theorem lfsOk_drop (is : List V) (i : Nat) (h : i < is.length) : V.lfsOk (is.drop i) ↔ is[i].lfOk ∧ V.lfsOk (is.drop (i + 1)) := by
  rw [List.drop_eq_getElem_cons h]
  simp only [V.lfsOk]
set_option maxHeartbeats 4000000 in
theorem lvaluesFault_any : ∀ (M : Nat) (X : V), SizeOf.sizeOf X < M → X.nodes ≤ 1048576 → ∀ (cs : List Value) (w : World), VAt w X cs →
    Calls Tryz.prog 54 #[.agg cs.toArray] w fun e w' => ∃ r : Int, e = .returned (.int .i64 r) ∧ (r = 0 ↔ X.lfOk) ∧ Below w.heap.size w w' := by
  intro M
  induction M with
  | zero => intro X h; omega
  | succ M ih =>
    intro X hX hnd cs w h
    have hns := nodes_its X
    have hil0 : X.its.length ≤ 1048576 := by have := nodess_len X.its; omega
    have CF := Lib.hid (fun w' (hb : Below w.heap.size w w') => lvalueFault_any X hil0 cs w' (h.keep hb))
    obtain ⟨ia, ic, ka, kc, rfl, hil, _, _, _, rows, hS, hT⟩ := h.opened
    obtain ⟨_, _, hsl, hk⟩ := VsAt.item hS hT
    simp only [Value.slice.injEq] at hsl
    obtain ⟨rfl, _, rfl⟩ := hsl
    have HK := Lib.hid hk
    rw [vcs_arr] at CF
    rw [vcs_arr]
    have hsz : ∀ y ∈ X.its, SizeOf.sizeOf y < M := by
      obtain ⟨k, b, n, t, is, ks⟩ := X
      intro y hy
      have := size_item (k := k) (b := b) (n := n) (t := t) (ks := ks) (show y ∈ is from hy)
      omega
    have HIH : Hid (∀ k (h : k < X.its.length) (cs : List Value) (w : World), VAt w X.its[k] cs → Calls Tryz.prog 54 #[.agg cs.toArray] w fun e w' => ∃ r : Int, e = .returned (.int .i64 r) ∧ (r = 0 ↔ X.its[k].lfOk) ∧ Below w.heap.size w w') := by
      intro k h
      exact ih X.its[k] (hsz _ (List.getElem_mem h)) (by have := nodess_mem X.its _ (List.getElem_mem h); omega)
    have HG : Hid (X.lfOk ↔ X.lf1 ∧ V.lfsOk X.its) := by
      obtain ⟨k, b, n, t, is, ks⟩ := X
      show _ ↔ _
      simp only [V.lfOk]; exact Iff.rfl
    have HB0 : Hid (Below w.heap.size w (w.alloc (.cells (sixA X ia ic ka kc) 35))) := (Below.refl w.heap.size w).alloc (Nat.le_refl _) _
    unfold sixA at HB0
    generalize X.lfOk = G at *
    generalize X.lf1 = G1 at *
    generalize X.its = is at *
    generalize X.kys = ks at *
    generalize X.kd = xk at *
    generalize X.bo = xb at *
    generalize X.nu = xn at *
    generalize X.tx = xt at *
    unfold maxLen at hil
    clear hS hT hk ih hX h hsz hns hnd hil0
    go_enter Tryz.func54, Tryz.ntmps54
    go_wp2_with fail
    refine (CF.out _ HB0.out).mono ?_
    rintro e w1 ⟨r, rfl, hr, hb1⟩
    have hbk : w1.heap[w.heap.size]? = some (.cells #[.int .i64 xk, .bool xb, .int .i64 xn, .string xt, .slice ia is.length ic, .slice ka ks.length kc] 35 (0, 0)) := (hb1.block _ (by simp)).trans (heap_alloc_new _ _)
    have HB1 : Hid (Below w.heap.size w w1) := HB0.out.trans (hb1.mono (by simp))
    have hz1 : w.heap.size + 1 ≤ w1.heap.size := by have := hb1.size; simp at this; omega
    have x4 : w1.cell? ⟨w.heap.size, 4, none⟩ = some (.slice ia is.length ic) := cellT hbk rfl
    clear hb1 hbk CF HB0
    by_cases hr0 : r = 0
    · subst hr0
      have HG1 : Hid (G ↔ V.lfsOk is) := HG.out.trans ⟨fun g => g.2, fun g => ⟨hr.1 rfl, g⟩⟩
      clear hr HG
      go_wp2_with fail
      go_loopw [15] (fun i wr => ∃ j : Nat, j ≤ is.length ∧ i = .int .i64 j ∧ Hid (G ↔ V.lfsOk (is.drop j)) ∧ Hid (Below w.heap.size w wr) ∧ w.heap.size + 1 ≤ wr.heap.size) (fun i _ => is.length - (intOf i).toNat)
      case atStart => exact ⟨0, by omega, rfl, by show _ ↔ _; rw [List.drop_zero]; exact HG1.out, HB1, hz1⟩
      case round =>
        obtain ⟨j, hj, rfl, HJ, HB, hzr⟩ := hrel
        by_cases hjl : j < is.length
        · obtain ⟨b, off, ja, jc, la, lc, rfl, hlt, hat, hc6⟩ := HK.out j hjl
          obtain ⟨d0, d1, d2, d3, d4, d5⟩ := six_later HB.out hlt hc6
          have hBn : Below wr.heap.size wr (wr.alloc (.cells #[.int .i64 is[j].kd, .bool is[j].bo, .int .i64 is[j].nu, .string is[j].tx, .slice ja is[j].its.length jc, .slice la is[j].kys.length lc] 35)) := (Below.refl _ wr).alloc (Nat.le_refl _) _
          have HB2 : Hid (Below w.heap.size w (wr.alloc (.cells #[.int .i64 is[j].kd, .bool is[j].bo, .int .i64 is[j].nu, .string is[j].tx, .slice ja is[j].its.length jc, .slice la is[j].kys.length lc] 35))) := HB.out.trans (hBn.mono HB.out.size)
          have HCALL := Lib.hid (HIH.out j hjl _ _ (hat.keep HB2.out))
          rw [vcs_arr] at HCALL
          have HD := Lib.hid (lfsOk_drop is j hjl)
          clear hBn hc6 hat
          go_wp2_with fail
          refine HCALL.out.mono ?_
          rintro e w2 ⟨r, rfl, hr, hb2⟩
          have HB3 : Hid (Below w.heap.size w w2) := HB2.out.trans (hb2.mono HB2.out.size)
          have hz3 : w.heap.size + 1 ≤ w2.heap.size := by have := hb2.size; simp at this; omega
          clear hb2 d0 d1 d2 d3 d4 d5 HCALL
          by_cases hr0 : r = 0
          · subst hr0
            have HX : Hid (G ↔ V.lfsOk (is.drop (j + 1))) := HJ.out.trans (HD.out.trans ⟨fun g => g.2, fun g => ⟨hr.1 rfl, g⟩⟩)
            clear hr HJ HD
            go_wp2_with fail
            go_roundw
            case rel => exact ⟨j + 1, by omega, by go_num, HX, HB3, hz3⟩
            case measure => simp [intOf]; omega
          · have HN : Hid (¬ G) := fun g => hr0 (hr.2 (HD.out.1 (HJ.out.1 g)).1)
            have q : (r != 0) = true := by rw [bne_iff_ne]; exact hr0
            have HR0 := Lib.hid hr0
            clear hr HJ HD hr0
            go_wp2_with fail
            go_ret
            exact ⟨r, rfl, ⟨fun h => absurd h HR0.out, fun g => absurd g HN.out⟩, HB3.out⟩
        · have HY : Hid G := HJ.out.2 (by rw [List.drop_eq_nil_of_le (by omega)]; simp [V.lfsOk])
          go_wp2_with fail
          go_ret
          exact ⟨0, rfl, ⟨fun _ => HY.out, fun _ => rfl⟩, HB.out⟩
    · have HN : Hid (¬ G) := fun g => hr0 (hr.2 (HG.out.1 g).1)
      have q : (r != 0) = true := by rw [bne_iff_ne]; exact hr0
      have HR0 := Lib.hid hr0
      clear hr hr0 HG
      go_wp2_with fail
      go_ret
      exact ⟨r, rfl, ⟨fun h => absurd h HR0.out, fun g => absurd g HN.out⟩, HB1.out⟩
set_option maxHeartbeats 2000000 in
theorem checkItem_any (X : V) (hn : X.nodes ≤ 1048576) (cs : List Value) (w : World) (h : VAt w X cs) :
    Calls Tryz.prog 37 #[.agg cs.toArray] w fun e w' => ∃ r : Int, e = .returned (.int .i64 r) ∧ (r = 0 ↔ X.itemOk) ∧ Below w.heap.size w w' := by
  have C1 := Lib.hid (fun w' (hb : Below w.heap.size w w') => lcount_all _ X (Nat.lt_succ_self _) cs w' (h.keep hb))
  have C2 := Lib.hid (fun w' (hb : Below w.heap.size w w') => llevels_all _ X (Nat.lt_succ_self _) cs w' (h.keep hb))
  have C3 := Lib.hid (fun w' (hb : Below w.heap.size w w') => lvaluesFault_any _ X (Nat.lt_succ_self _) hn cs w' (h.keep hb))
  have HG : Hid (X.itemOk ↔ X.cntL ≤ 5000 ∧ X.levW ≤ 10 ∧ X.lfOk) := Iff.rfl
  obtain ⟨ia, ic, ka, kc, rfl, _⟩ := h.opened
  rw [vcs_arr] at C1 C2 C3
  rw [vcs_arr]
  have HB0 : Hid (Below w.heap.size w (w.alloc (.cells (sixA X ia ic ka kc) 35))) := (Below.refl w.heap.size w).alloc (Nat.le_refl _) _
  unfold sixA at HB0
  generalize X.itemOk = O at *
  generalize X.cntL = c at *
  generalize X.levW = l at *
  generalize X.lfOk = G at *
  generalize X.its = is at *
  generalize X.kys = ks at *
  generalize X.kd = xk at *
  generalize X.bo = xb at *
  generalize X.nu = xn at *
  generalize X.tx = xt at *
  clear h hn
  go_enter Tryz.func37, Tryz.ntmps37
  go_wp2_with fail
  refine (C1.out _ HB0.out).mono ?_
  rintro e w1 ⟨rfl, hb1⟩
  have hbk : w1.heap[w.heap.size]? = some (.cells #[.int .i64 xk, .bool xb, .int .i64 xn, .string xt, .slice ia is.length ic, .slice ka ks.length kc] 35 (0, 0)) := (hb1.block _ (by simp)).trans (heap_alloc_new _ _)
  have HB1 : Hid (Below w.heap.size w w1) := HB0.out.trans (hb1.mono (by simp))
  have HZ1 : Hid (w.heap.size < w1.heap.size) := by have := hb1.size; simp at this; show _ < _; omega
  have x0 := cellT hbk (i := 0) rfl
  have x1 := cellT hbk (i := 1) rfl
  have x2 := cellT hbk (i := 2) rfl
  have x3 := cellT hbk (i := 3) rfl
  have x4 := cellT hbk (i := 4) rfl
  have x5 := cellT hbk (i := 5) rfl
  have HBK := Lib.hid hbk
  clear hb1 hbk HB0
  by_cases hc : 5000 < c
  · have HN : Hid (¬ O) := fun o => by have := (HG.out.1 o).1; omega
    have q : decide ((5000 : Int) < c) = true := decide_eq_true (by omega)
    clear HG hc
    go_wp2_with fail
    go_ret
    exact ⟨4, rfl, ⟨fun h => absurd h (by decide), fun g => absurd g HN.out⟩, HB1.out⟩
  · have q : decide ((5000 : Int) < c) = false := decide_eq_false (by omega)
    have HG2 : Hid (O ↔ l ≤ 10 ∧ G) := HG.out.trans ⟨fun g => g.2, fun g => ⟨by omega, g⟩⟩
    clear HG hc
    go_wp2_with fail
    refine (C2.out _ HB1.out).mono ?_
    rintro e w2 ⟨rfl, hb2⟩
    have hbk := (hb2.block _ HZ1.out).trans HBK.out
    have HB2 : Hid (Below w.heap.size w w2) := HB1.out.trans (hb2.mono HB1.out.size)
    clear x0 x1 x2 x3 x4 x5 hb2
    have x0 := cellT hbk (i := 0) rfl
    have x1 := cellT hbk (i := 1) rfl
    have x2 := cellT hbk (i := 2) rfl
    have x3 := cellT hbk (i := 3) rfl
    have x4 := cellT hbk (i := 4) rfl
    have x5 := cellT hbk (i := 5) rfl
    clear hbk HBK
    by_cases hl : 10 < l
    · have HN : Hid (¬ O) := fun o => by have := (HG2.out.1 o).1; omega
      have q2 : decide ((10 : Int) < l) = true := decide_eq_true (by omega)
      clear HG2 hl
      go_wp2_with fail
      go_ret
      exact ⟨13, rfl, ⟨fun h => absurd h (by decide), fun g => absurd g HN.out⟩, HB2.out⟩
    · have q2 : decide ((10 : Int) < l) = false := decide_eq_false (by omega)
      have HG3 : Hid (O ↔ G) := HG2.out.trans ⟨fun g => g.2, fun g => ⟨by omega, g⟩⟩
      clear HG2 hl
      go_wp2_with fail
      refine (C3.out _ HB2.out).mono ?_
      rintro e w3 ⟨r, rfl, hr, hb3⟩
      have HB3 : Hid (Below w.heap.size w w3) := HB2.out.trans (hb3.mono HB2.out.size)
      have HR : Hid (r = 0 ↔ O) := hr.trans HG3.out.symm
      clear hr hb3 x0 x1 x2 x3 x4 x5
      go_wp2_with fail
      go_ret
      exact ⟨r, rfl, HR.out, HB3.out⟩
set_option maxHeartbeats 4000000 in
theorem listFault_any (v : Value) (l : List V) (hn : ∀ X ∈ l, X.nodes ≤ 1048576) (w : World) (h : VsL w v l) :
    Calls Tryz.prog 19 #[v] w fun e w' => ∃ r : Int, e = .returned (.int .i64 r) ∧ (r = 0 ↔ ItemsOk l) ∧ Below w.heap.size w w' := by
  obtain ⟨rows, hS, hT⟩ := h
  obtain ⟨ao, c, rfl, hk⟩ := VsAt.item hS hT
  have hlm : l.length ≤ maxLen := by obtain ⟨a, c, e, h⟩ := Sl.word hS; exact h
  have HK := Lib.hid hk
  have HN := Lib.hid hn
  unfold maxLen at hlm
  clear hS hT hk hn
  by_cases h2 : 2000 < l.length
  · have HO : Hid (¬ ItemsOk l) := fun g => by have := g.1; omega
    have q : decide ((2000 : Int) < (l.length : Int)) = true := decide_eq_true (by omega)
    have q' : decide (2000 < l.length) = true := decide_eq_true h2
    clear h2
    go_enter Tryz.func19, Tryz.ntmps19
    go_wp2_with fail
    go_ret
    exact ⟨4, rfl, ⟨fun h => absurd h (by decide), fun g => absurd g HO.out⟩, Below.refl _ _⟩
  have q : decide ((2000 : Int) < (l.length : Int)) = false := decide_eq_false (by omega)
  have q' : decide (2000 < l.length) = false := decide_eq_false h2
  have HL : Hid (l.length ≤ 2000) := by show _ ≤ _; omega
  go_enter Tryz.func19, Tryz.ntmps19
  go_wp2_with fail
  go_loopw [11] (fun i wr => ∃ j : Nat, j ≤ l.length ∧ i = .int .i64 j ∧ Hid (∀ X ∈ l.take j, X.itemOk) ∧ Hid (Below w.heap.size w wr)) (fun i _ => l.length - (intOf i).toNat)
  case atStart => exact ⟨0, by omega, rfl, fun X hX => by simp at hX, Below.refl _ _⟩
  case round =>
    obtain ⟨j, hj, rfl, HA, HB⟩ := hrel
    by_cases hjl : j < l.length
    · obtain ⟨b, off, ja, jc, la, lc, rfl, hlt, hat, hc6⟩ := HK.out j hjl
      obtain ⟨d0, d1, d2, d3, d4, d5⟩ := six_later HB.out hlt hc6
      have hBn : Below wr.heap.size wr (wr.alloc (.cells #[.int .i64 l[j].kd, .bool l[j].bo, .int .i64 l[j].nu, .string l[j].tx, .slice ja l[j].its.length jc, .slice la l[j].kys.length lc] 35)) := (Below.refl _ wr).alloc (Nat.le_refl _) _
      have HB2 : Hid (Below w.heap.size w (wr.alloc (.cells #[.int .i64 l[j].kd, .bool l[j].bo, .int .i64 l[j].nu, .string l[j].tx, .slice ja l[j].its.length jc, .slice la l[j].kys.length lc] 35))) := HB.out.trans (hBn.mono HB.out.size)
      have HCALL := Lib.hid (checkItem_any l[j] (HN.out _ (List.getElem_mem hjl)) _ _ (hat.keep HB2.out))
      rw [vcs_arr] at HCALL
      have HX : Hid (l[j].itemOk → ∀ X ∈ l.take (j + 1), X.itemOk) := fun h X hX => by
        rw [List.take_succ_eq_append_getElem hjl] at hX
        rcases List.mem_append.1 hX with hX | hX
        · exact HA.out X hX
        · rw [List.mem_singleton] at hX; subst hX; exact h
      have HNO : Hid (ItemsOk l → l[j].itemOk) := fun g => g.2 _ (List.getElem_mem hjl)
      generalize l[j].itemOk = I at *
      clear hBn hc6 hat HA
      go_wp2_with fail
      refine HCALL.out.mono ?_
      rintro e w2 ⟨r, rfl, hr, hb2⟩
      have HB3 : Hid (Below w.heap.size w w2) := HB2.out.trans (hb2.mono HB2.out.size)
      clear hb2 d0 d1 d2 d3 d4 d5 HCALL
      by_cases hr0 : r = 0
      · have HX2 := Lib.hid (HX.out (hr.1 hr0))
        subst hr0
        clear hr HX HNO
        go_wp2_with fail
        go_roundw
        case rel => exact ⟨j + 1, by omega, by go_num, HX2, HB3⟩
        case measure => simp [intOf]; omega
      · have HG : Hid (¬ ItemsOk l) := fun g => hr0 (hr.2 (HNO.out g))
        have q : (r != 0) = true := by rw [bne_iff_ne]; exact hr0
        have HR0 := Lib.hid hr0
        clear hr hr0 HNO HX
        go_wp2_with fail
        go_ret
        exact ⟨r, rfl, ⟨fun h => absurd h HR0.out, fun g => absurd g HG.out⟩, HB3.out⟩
    · have HG : Hid (ItemsOk l) := ⟨HL.out, by have := HA.out; rw [show j = l.length by omega, List.take_length] at this; exact this⟩
      go_wp2_with fail
      go_ret
      exact ⟨0, rfl, ⟨fun _ => HG.out, fun _ => rfl⟩, HB.out⟩
end Go.Proofs.YtihdfkcoajpmjaaGreatDoor
