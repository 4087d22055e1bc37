/- lang.ruleFault: it returns 0 if and only if the rule is right. Conditions: none (sums wrap). -/
import Derived.Test.YtdolpehcfifecaaGreatDoorRuH
import Derived.Test.YtdolpehcfifecaaGreatDoorMbr
namespace Go.Proofs.YtdolpehcfifecaaGreatDoor
open Go.RowKit Mh
set_option linter.unusedVariables false

/-- A right rule. -/
def okW (R : List T) : Prop := R.length ≤ 6 ∧ ∀ t ∈ R, t.tw ≤ 20 ∧ t.lw ≤ 12 ∧ t.form = true ∧ t.rng = true
/-- A rule's forms as they lie in memory. -/
def RuAt (w : World) (R : List T) (fv : Value) : Prop := ∃ rows, Sl 5 w fv R.length rows ∧ TsAt w R rows
theorem RuAt.below {w w' : World} {R : List T} {fv : Value} (h : RuAt w R fv) (hb : Below w.heap.size w w') : RuAt w' R fv := by
  obtain ⟨rows, h1, h2⟩ := h
  exact ⟨rows, h1.below hb, h2.keep hb R rows⟩
def RFW (R : List T) (w : World) (e : Ending) (w' : World) : Prop := ∃ n : Int, e = .returned (.int .i64 n) ∧ (n = 0 ↔ okW R) ∧ Below w.heap.size w w'

set_option maxRecDepth 100000 in
set_option maxHeartbeats 4000000 in
theorem rfaultw_any (R : List T) (fv : Value) (w : World) (h : RuAt w R fv) : Calls Tryz.prog 17 #[.agg #[fv]] w (RFW R w) := by
  obtain ⟨rows, hS, hT⟩ := h
  obtain ⟨ao, c, rfl, hk⟩ := kid_at hS hT
  obtain ⟨_, _, he, hlen, _⟩ := Sl.shape hS
  unfold maxLen at hlen
  clear he
  have HK := Lib.hid hk
  have hB0 : Below w.heap.size w (w.alloc (.cells #[.slice ao R.length c] 24)) := (Below.refl _ w).alloc (Nat.le_refl _) _
  have HB0 := Lib.hid hB0
  clear hS hT hk hB0
  by_cases h6 : 6 < R.length
  · have HNG : Hid (¬ okW R) := fun hg => by have := hg.1; omega
    have q1 : decide ((6 : Int) < (R.length : Int)) = true := decide_eq_true (by omega)
    have q2 : decide (6 < R.length) = true := decide_eq_true h6
    go_enter Tryz.func17, Tryz.ntmps17
    go_wp2_with fail
    go_ret
    exact ⟨4, rfl, ⟨fun h => by omega, fun hg => absurd hg HNG.out⟩, HB0.out⟩
  have q1 : decide ((6 : Int) < (R.length : Int)) = false := decide_eq_false (by omega)
  have q2 : decide (6 < R.length) = false := decide_eq_false h6
  go_enter Tryz.func17, Tryz.ntmps17
  go_wp2_with fail
  go_loopw [18] (fun i wr => ∃ k : Nat, k ≤ R.length ∧ i = .int .i64 k ∧ Hid (∀ i (h : i < R.length), i < k → R[i].tw ≤ 20) ∧ Hid (Below (w.heap.size + 1) (w.alloc (.cells #[.slice ao R.length c] 24)) wr) ∧ w.heap.size + 1 ≤ wr.heap.size) (fun i _ => R.length - (intOf i).toNat)
  case atStart => exact ⟨0, by omega, rfl, fun i h h2 => by omega, Below.refl _ _, by simp⟩
  case round =>
    obtain ⟨k, hk, rfl, HI, HB, hzr⟩ := hrel
    have HBW : Hid (Below w.heap.size w wr) := HB0.out.trans (HB.out.mono (Nat.le_succ _))
    by_cases hkl : k < R.length
    · obtain ⟨b, off, a4, v4, rfl, hlt, hat, c0, c1, c2, c3, c4⟩ := HK.out k hkl
      obtain ⟨d0, d1, d2, d3, d4⟩ := kid_later HBW.out hlt c0 c1 c2 c3 c4
      have hBn : Below wr.heap.size wr (wr.alloc (.cells #[.int .i64 R[k].op, .int .i64 R[k].mod, .int .i64 R[k].lo, .int .i64 R[k].hi, .slice a4 R[k].ks.length v4] 76)) := (Below.refl _ wr).alloc (Nat.le_refl _) _
      have hBn2 := HBW.out.trans (hBn.mono HBW.out.size)
      have HCALL := Lib.hid (testsw_any _ R[k] (Nat.lt_succ_self _) _ _ (hat.keep hBn2))
      have HBn := Lib.hid hBn2
      have HBm := Lib.hid (HB.out.trans (hBn.mono (by omega)))
      have hiff : R[k].tw ≤ 20 ↔ ¬ (20 < R[k].tw) := by omega
      obtain ⟨x, hx⟩ : ∃ x, x = R[k].tw := ⟨_, rfl⟩
      rw [← hx] at hiff HCALL
      have HX := Lib.hid hx
      have HIF := Lib.hid hiff
      clear hiff
      clear hBn hBn2 c0 c1 c2 c3 c4 hat hx
      by_cases hbg : 20 < x
      · have HNG : Hid (¬ okW R) := fun hg => by
          have h9 := (hg.2 _ (List.getElem_mem hkl)).1; rw [← HX.out] at h9; exact absurd hbg (by omega)
        have q2 : decide ((20 : Int) < x) = true := decide_eq_true hbg
        go_wp2_with fail
        refine HCALL.out.mono ?_
        rintro e w2 ⟨rfl, hb2⟩
        have HB3 := Lib.hid (HBm.out.trans (hb2.mono (by simp; omega)))
        have HB4 : Hid (Below w.heap.size w w2) := HBn.out.trans (hb2.mono (by simp; omega))
        have hz3 : w.heap.size + 1 ≤ w2.heap.size := by have := hb2.size; simp at this; omega
        clear hb2
        go_wp2_with fail
        go_ret
        exact ⟨4, rfl, ⟨fun h => by omega, fun hg => absurd hg HNG.out⟩, HB4.out⟩
      · have HGD : Hid (∀ i (h : i < R.length), i < k + 1 → R[i].tw ≤ 20) := by
          intro i h h2
          by_cases e : i = k
          · subst e; rw [← HX.out]; omega
          · exact HI.out i h (by omega)
        have q2 : decide ((20 : Int) < x) = false := decide_eq_false hbg
        go_wp2_with fail
        refine HCALL.out.mono ?_
        rintro e w2 ⟨rfl, hb2⟩
        have HB3 := Lib.hid (HBm.out.trans (hb2.mono (by simp; omega)))
        have HB4 : Hid (Below w.heap.size w w2) := HBn.out.trans (hb2.mono (by simp; omega))
        have hz3 : w.heap.size + 1 ≤ w2.heap.size := by have := hb2.size; simp at this; omega
        clear hb2
        go_wp2_with fail
        go_roundw
        case rel => exact ⟨k + 1, by omega, by go_num, HGD.out, HB3.out, hz3⟩
        case measure => simp [intOf]; omega
    · obtain rfl : k = R.length := by omega
      have H0A : Hid (∀ i (h : i < R.length), R[i].tw ≤ 20) := fun i h => HI.out i h h
      have hT := (HB.out.block w.heap.size (Nat.lt_succ_self _)).trans (heap_alloc_new _ _)
      have r0 : wr.cell? ⟨w.heap.size, 0, none⟩ = some (.slice ao R.length c) := cellT hT rfl
      clear hT HI
      obtain ⟨w0', rfl⟩ : ∃ x : World, x = wr := ⟨_, rfl⟩
      clear HBW hkl hk
      go_wp2_with fail
      go_loopw [29] (fun i wr => ∃ k : Nat, k ≤ R.length ∧ i = .int .i64 k ∧ Hid (∀ i (h : i < R.length), i < k → R[i].lw ≤ 12) ∧ Hid (Below (w.heap.size + 1) (w.alloc (.cells #[.slice ao R.length c] 24)) wr) ∧ w.heap.size + 1 ≤ wr.heap.size) (fun i _ => R.length - (intOf i).toNat)
      case atStart => exact ⟨0, by omega, rfl, fun i h h2 => by omega, HB.out, hzr⟩
      case round =>
        clear HB hzr r0
        obtain ⟨k, hk, rfl, HI, HB, hzr⟩ := hrel
        have HBW : Hid (Below w.heap.size w wr) := HB0.out.trans (HB.out.mono (Nat.le_succ _))
        by_cases hkl : k < R.length
        · obtain ⟨b, off, a4, v4, rfl, hlt, hat, c0, c1, c2, c3, c4⟩ := HK.out k hkl
          obtain ⟨d0, d1, d2, d3, d4⟩ := kid_later HBW.out hlt c0 c1 c2 c3 c4
          have hBn : Below wr.heap.size wr (wr.alloc (.cells #[.int .i64 R[k].op, .int .i64 R[k].mod, .int .i64 R[k].lo, .int .i64 R[k].hi, .slice a4 R[k].ks.length v4] 76)) := (Below.refl _ wr).alloc (Nat.le_refl _) _
          have hBn2 := HBW.out.trans (hBn.mono HBW.out.size)
          have HCALL := Lib.hid (levelsw_any _ R[k] (Nat.lt_succ_self _) _ _ (hat.keep hBn2))
          have HBn := Lib.hid hBn2
          have HBm := Lib.hid (HB.out.trans (hBn.mono (by omega)))
          have hiff : R[k].lw ≤ 12 ↔ ¬ (12 < R[k].lw) := by omega
          obtain ⟨x, hx⟩ : ∃ x, x = R[k].lw := ⟨_, rfl⟩
          rw [← hx] at HCALL
          rw [← hx] at hiff
          have HX := Lib.hid hx
          have HIF := Lib.hid hiff
          clear hiff
          clear hBn hBn2 c0 c1 c2 c3 c4 hat hx
          by_cases hbg : 12 < x
          · have HNG : Hid (¬ okW R) := fun hg => by
              have h9 := (hg.2 _ (List.getElem_mem hkl)).2.1; rw [← HX.out] at h9; omega
            have q2 : decide ((12 : Int) < x) = true := decide_eq_true hbg
            go_wp2_with fail
            refine HCALL.out.mono ?_
            rintro e w2 ⟨rfl, hb2⟩
            have HB3 := Lib.hid (HBm.out.trans (hb2.mono (by simp; omega)))
            have HB4 : Hid (Below w.heap.size w w2) := HBn.out.trans (hb2.mono (by simp; omega))
            have hz3 : w.heap.size + 1 ≤ w2.heap.size := by have := hb2.size; simp at this; omega
            clear hb2
            go_wp2_with fail
            go_ret
            exact ⟨13, rfl, ⟨fun h => by omega, fun hg => absurd hg HNG.out⟩, HB4.out⟩
          · have HGD : Hid (∀ i (h : i < R.length), i < k + 1 → R[i].lw ≤ 12) := by
              intro i h h2
              by_cases e : i = k
              · subst e; exact (by rw [← HX.out] ; omega)
              · exact HI.out i h (by omega)
            have q2 : decide ((12 : Int) < x) = false := decide_eq_false hbg
            go_wp2_with fail
            refine HCALL.out.mono ?_
            rintro e w2 ⟨rfl, hb2⟩
            have HB3 := Lib.hid (HBm.out.trans (hb2.mono (by simp; omega)))
            have HB4 : Hid (Below w.heap.size w w2) := HBn.out.trans (hb2.mono (by simp; omega))
            have hz3 : w.heap.size + 1 ≤ w2.heap.size := by have := hb2.size; simp at this; omega
            clear hb2
            go_wp2_with fail
            go_roundw
            case rel => exact ⟨k + 1, by omega, by go_num, HGD.out, HB3.out, hz3⟩
            case measure => simp [intOf]; omega
        · obtain rfl : k = R.length := by omega
          have H1A : Hid (∀ i (h : i < R.length), R[i].lw ≤ 12) := fun i h => HI.out i h h
          have hT := (HB.out.block w.heap.size (Nat.lt_succ_self _)).trans (heap_alloc_new _ _)
          have r0 : wr.cell? ⟨w.heap.size, 0, none⟩ = some (.slice ao R.length c) := cellT hT rfl
          clear hT HI
          obtain ⟨w1', rfl⟩ : ∃ x : World, x = wr := ⟨_, rfl⟩
          clear HBW hkl hk
          go_wp2_with fail
          go_loopw [40] (fun i wr => ∃ k : Nat, k ≤ R.length ∧ i = .int .i64 k ∧ Hid (∀ i (h : i < R.length), i < k → R[i].form = true) ∧ Hid (Below (w.heap.size + 1) (w.alloc (.cells #[.slice ao R.length c] 24)) wr) ∧ w.heap.size + 1 ≤ wr.heap.size) (fun i _ => R.length - (intOf i).toNat)
          case atStart => exact ⟨0, by omega, rfl, fun i h h2 => by omega, HB.out, hzr⟩
          case round =>
            clear HB hzr r0
            obtain ⟨k, hk, rfl, HI, HB, hzr⟩ := hrel
            have HBW : Hid (Below w.heap.size w wr) := HB0.out.trans (HB.out.mono (Nat.le_succ _))
            by_cases hkl : k < R.length
            · obtain ⟨b, off, a4, v4, rfl, hlt, hat, c0, c1, c2, c3, c4⟩ := HK.out k hkl
              obtain ⟨d0, d1, d2, d3, d4⟩ := kid_later HBW.out hlt c0 c1 c2 c3 c4
              have hBn : Below wr.heap.size wr (wr.alloc (.cells #[.int .i64 R[k].op, .int .i64 R[k].mod, .int .i64 R[k].lo, .int .i64 R[k].hi, .slice a4 R[k].ks.length v4] 76)) := (Below.refl _ wr).alloc (Nat.le_refl _) _
              have hBn2 := HBW.out.trans (hBn.mono HBW.out.size)
              have HCALL := Lib.hid (tform_any _ R[k] (Nat.lt_succ_self _) _ _ (hat.keep hBn2))
              have HBn := Lib.hid hBn2
              have HBm := Lib.hid (HB.out.trans (hBn.mono (by omega)))
              obtain ⟨x, hx⟩ : ∃ x, x = R[k].form := ⟨_, rfl⟩
              rw [← hx] at HCALL
              have HX := Lib.hid hx
              clear hBn hBn2 c0 c1 c2 c3 c4 hat hx
              cases x
              · have HNG : Hid (¬ okW R) := fun hg => by
                  have h9 := (hg.2 _ (List.getElem_mem hkl)).2.2.1; rw [← HX.out] at h9; cases h9
                go_wp2_with fail
                refine HCALL.out.mono ?_
                rintro e w2 ⟨rfl, hb2⟩
                have HB3 := Lib.hid (HBm.out.trans (hb2.mono (by simp; omega)))
                have HB4 : Hid (Below w.heap.size w w2) := HBn.out.trans (hb2.mono (by simp; omega))
                have hz3 : w.heap.size + 1 ≤ w2.heap.size := by have := hb2.size; simp at this; omega
                clear hb2
                go_wp2_with fail
                go_ret
                exact ⟨1, rfl, ⟨fun h => by omega, fun hg => absurd hg HNG.out⟩, HB4.out⟩
              · have HGD : Hid (∀ i (h : i < R.length), i < k + 1 → R[i].form = true) := by
                  intro i h h2
                  by_cases e : i = k
                  · subst e; exact HX.out.symm
                  · exact HI.out i h (by omega)
                go_wp2_with fail
                refine HCALL.out.mono ?_
                rintro e w2 ⟨rfl, hb2⟩
                have HB3 := Lib.hid (HBm.out.trans (hb2.mono (by simp; omega)))
                have HB4 : Hid (Below w.heap.size w w2) := HBn.out.trans (hb2.mono (by simp; omega))
                have hz3 : w.heap.size + 1 ≤ w2.heap.size := by have := hb2.size; simp at this; omega
                clear hb2
                go_wp2_with fail
                go_roundw
                case rel => exact ⟨k + 1, by omega, by go_num, HGD.out, HB3.out, hz3⟩
                case measure => simp [intOf]; omega
            · obtain rfl : k = R.length := by omega
              have H2A : Hid (∀ i (h : i < R.length), R[i].form = true) := fun i h => HI.out i h h
              have hT := (HB.out.block w.heap.size (Nat.lt_succ_self _)).trans (heap_alloc_new _ _)
              have r0 : wr.cell? ⟨w.heap.size, 0, none⟩ = some (.slice ao R.length c) := cellT hT rfl
              clear hT HI
              obtain ⟨w2', rfl⟩ : ∃ x : World, x = wr := ⟨_, rfl⟩
              clear HBW hkl hk
              go_wp2_with fail
              go_loopw [51] (fun i wr => ∃ k : Nat, k ≤ R.length ∧ i = .int .i64 k ∧ Hid (∀ i (h : i < R.length), i < k → R[i].rng = true) ∧ Hid (Below (w.heap.size + 1) (w.alloc (.cells #[.slice ao R.length c] 24)) wr) ∧ w.heap.size + 1 ≤ wr.heap.size) (fun i _ => R.length - (intOf i).toNat)
              case atStart => exact ⟨0, by omega, rfl, fun i h h2 => by omega, HB.out, hzr⟩
              case round =>
                clear HB hzr r0
                obtain ⟨k, hk, rfl, HI, HB, hzr⟩ := hrel
                have HBW : Hid (Below w.heap.size w wr) := HB0.out.trans (HB.out.mono (Nat.le_succ _))
                by_cases hkl : k < R.length
                · obtain ⟨b, off, a4, v4, rfl, hlt, hat, c0, c1, c2, c3, c4⟩ := HK.out k hkl
                  obtain ⟨d0, d1, d2, d3, d4⟩ := kid_later HBW.out hlt c0 c1 c2 c3 c4
                  have hBn : Below wr.heap.size wr (wr.alloc (.cells #[.int .i64 R[k].op, .int .i64 R[k].mod, .int .i64 R[k].lo, .int .i64 R[k].hi, .slice a4 R[k].ks.length v4] 76)) := (Below.refl _ wr).alloc (Nat.le_refl _) _
                  have hBn2 := HBW.out.trans (hBn.mono HBW.out.size)
                  have HCALL := Lib.hid (trng_any _ R[k] (Nat.lt_succ_self _) _ _ (hat.keep hBn2))
                  have HBn := Lib.hid hBn2
                  have HBm := Lib.hid (HB.out.trans (hBn.mono (by omega)))
                  obtain ⟨x, hx⟩ : ∃ x, x = R[k].rng := ⟨_, rfl⟩
                  rw [← hx] at HCALL
                  have HX := Lib.hid hx
                  clear hBn hBn2 c0 c1 c2 c3 c4 hat hx
                  cases x
                  · have HNG : Hid (¬ okW R) := fun hg => by
                      have h9 := (hg.2 _ (List.getElem_mem hkl)).2.2.2; rw [← HX.out] at h9; cases h9
                    go_wp2_with fail
                    refine HCALL.out.mono ?_
                    rintro e w2 ⟨rfl, hb2⟩
                    have HB3 := Lib.hid (HBm.out.trans (hb2.mono (by simp; omega)))
                    have HB4 : Hid (Below w.heap.size w w2) := HBn.out.trans (hb2.mono (by simp; omega))
                    have hz3 : w.heap.size + 1 ≤ w2.heap.size := by have := hb2.size; simp at this; omega
                    clear hb2
                    go_wp2_with fail
                    go_ret
                    exact ⟨2, rfl, ⟨fun h => by omega, fun hg => absurd hg HNG.out⟩, HB4.out⟩
                  · have HGD : Hid (∀ i (h : i < R.length), i < k + 1 → R[i].rng = true) := by
                      intro i h h2
                      by_cases e : i = k
                      · subst e; exact HX.out.symm
                      · exact HI.out i h (by omega)
                    go_wp2_with fail
                    refine HCALL.out.mono ?_
                    rintro e w2 ⟨rfl, hb2⟩
                    have HB3 := Lib.hid (HBm.out.trans (hb2.mono (by simp; omega)))
                    have HB4 : Hid (Below w.heap.size w w2) := HBn.out.trans (hb2.mono (by simp; omega))
                    have hz3 : w.heap.size + 1 ≤ w2.heap.size := by have := hb2.size; simp at this; omega
                    clear hb2
                    go_wp2_with fail
                    go_roundw
                    case rel => exact ⟨k + 1, by omega, by go_num, HGD.out, HB3.out, hz3⟩
                    case measure => simp [intOf]; omega
                · obtain rfl : k = R.length := by omega
                  have H3A : Hid (∀ i (h : i < R.length), R[i].rng = true) := fun i h => HI.out i h h
                  have hT := (HB.out.block w.heap.size (Nat.lt_succ_self _)).trans (heap_alloc_new _ _)
                  have r0 : wr.cell? ⟨w.heap.size, 0, none⟩ = some (.slice ao R.length c) := cellT hT rfl
                  clear hT HI
                  have HOK : Hid (okW R) := ⟨by omega, fun t ht => by
                    obtain ⟨i, hi, rfl⟩ := List.mem_iff_getElem.1 ht
                    exact ⟨H0A.out i hi, H1A.out i hi, H2A.out i hi, H3A.out i hi⟩⟩
                  go_wp2_with fail
                  go_ret
                  exact ⟨0, rfl, ⟨fun _ => HOK.out, fun _ => rfl⟩, HBW.out⟩
end Go.Proofs.YtdolpehcfifecaaGreatDoor
