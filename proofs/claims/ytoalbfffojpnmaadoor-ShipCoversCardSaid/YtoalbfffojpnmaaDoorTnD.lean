/- ship's begins, isRaw, value. Conditions: the scanner in memory; its string's size; the library's variable MaxLen holds an integer. -/
import Derived.Test.YtoalbfffojpnmaaDoorTnB
namespace Go.Proofs.YtoalbfffojpnmaaDoor
open Go.RowKit Mh
set_option linter.unusedVariables false

def byteAt (s : ByteArray) (k : Nat) : Int := if h : k < s.size then (s[k].toNat : Int) else 0
theorem byteAt_lt {s : ByteArray} {k : Nat} (h : k < s.size) : byteAt s k = (s[k].toNat : Int) := dif_pos h
/-- Whether a token that is no Chars begins here. -/
def begB (s : ByteArray) (i : Nat) : Bool := byteAt s i == 60 && decide (i + 1 < s.size) && (letB (byteAt s (i + 1)) || byteAt s (i + 1) == 33 || byteAt s (i + 1) == 63 || (byteAt s (i + 1) == 47 && decide (i + 2 < s.size) && letB (byteAt s (i + 2))))
set_option maxRecDepth 100000 in
set_option maxHeartbeats 8000000 in
theorem begins_any (s : ByteArray) (X i i0 : Nat) (v : Value) (w : World) (h : Scn s X i0 v w) (hi : i < s.size) (hs : s.size ≤ 1000000000) :
    Calls Tryd.prog 8 #[ptr X, .int .i64 (i : Int)] w fun e w' => e = .returned (.bool (begB s i)) ∧ w' = w := by
  obtain ⟨c0, _, _, _, _⟩ := h.cells
  have HL := Lib.hid (fun n w => shLetter_any n w)
  have hiI : (i : Int) < s.size := by omega
  have hw1 : IntKind.i64.wrap ((i : Int) + 1) = (i : Int) + 1 := IntWalk.i64_in _ (by omega)
  have hw2 : IntKind.i64.wrap ((i : Int) + 2) = (i : Int) + 2 := IntWalk.i64_in _ (by omega)
  have ht1 : ((i : Int) + 1).toNat = i + 1 := by omega
  have ht2 : ((i : Int) + 2).toNat = i + 2 := by omega
  have h01 : (0 : Int) ≤ (i : Int) + 1 := by omega
  have h02 : (0 : Int) ≤ (i : Int) + 2 := by omega
  clear h
  unfold ptr
  cases d0 : ((s[i].toNat : Int) != 60) with
  | true =>
    have HB : Hid (begB s i = false) := by
      show begB s i = false
      unfold begB
      rw [byteAt_lt hi, show ((s[i].toNat : Int) == 60) = false by rw [bne, Bool.not_eq_true'] at d0; exact d0]; rfl
    go_enter Tryd.func8, Tryd.ntmps8
    go_wp2_with fail
    go_ret
    exact ⟨by rw [HB.out]; rfl, rfl⟩
  | false =>
  have e0 : ((s[i].toNat : Int) == 60) = true := by rw [bne, Bool.not_eq_false'] at d0; exact d0
  by_cases h1 : i + 1 < s.size
  · have d1 : ((i : Int) + 1 == s.size) = false := by rw [beq_eq_false_iff_ne]; omega
    have h1I : (i : Int) + 1 < s.size := by omega
    have HB : Hid (begB s i = (letB (s[i + 1].toNat : Int) || (s[i + 1].toNat : Int) == 33 || (s[i + 1].toNat : Int) == 63 || ((s[i + 1].toNat : Int) == 47 && decide (i + 2 < s.size) && letB (byteAt s (i + 2))))) := by
      show begB s i = _
      unfold begB
      rw [byteAt_lt hi, e0, byteAt_lt h1, decide_eq_true h1]; rfl
    clear e0
    generalize hc : s[i + 1].toNat = c at *
    cases d2 : letB (c : Int) with
    | true =>
      rw [d2] at HB
      go_enter Tryd.func8, Tryd.ntmps8
      go_wp2_with (go_at_call 13; refine (HL.out _ _).mono ?_; rintro e w' ⟨rfl, rfl⟩)
      go_ret
      exact ⟨by rw [HB.out]; rfl, rfl⟩
    | false =>
    rw [d2] at HB
    cases d3 : ((c : Int) == 33) with
    | true =>
      rw [d3] at HB
      go_enter Tryd.func8, Tryd.ntmps8
      go_wp2_with (go_at_call 13; refine (HL.out _ _).mono ?_; rintro e w' ⟨rfl, rfl⟩)
      go_ret
      exact ⟨by rw [HB.out]; rfl, rfl⟩
    | false =>
    rw [d3] at HB
    cases d4 : ((c : Int) == 63) with
    | true =>
      rw [d4] at HB
      go_enter Tryd.func8, Tryd.ntmps8
      go_wp2_with (go_at_call 13; refine (HL.out _ _).mono ?_; rintro e w' ⟨rfl, rfl⟩)
      go_ret
      exact ⟨by rw [HB.out]; rfl, rfl⟩
    | false =>
    rw [d4] at HB
    cases d5 : ((c : Int) == 47) with
    | false =>
      rw [d5] at HB
      go_enter Tryd.func8, Tryd.ntmps8
      go_wp2_with (go_at_call 13; refine (HL.out _ _).mono ?_; rintro e w' ⟨rfl, rfl⟩)
      go_ret
      exact ⟨by rw [HB.out]; rfl, rfl⟩
    | true =>
    rw [d5] at HB
    by_cases h2 : i + 2 < s.size
    · have d6 : decide ((i : Int) + 2 < s.size) = true := decide_eq_true (by omega)
      have h2I : (i : Int) + 2 < s.size := by omega
      rw [decide_eq_true h2, byteAt_lt h2] at HB
      cases d7 : letB (s[i + 2].toNat : Int)
      all_goals
        rw [d7] at HB
        go_enter Tryd.func8, Tryd.ntmps8
        go_wp2_with (go_at_call 13; refine (HL.out _ _).mono ?_; rintro e w' ⟨rfl, rfl⟩)
        go_ret
        exact ⟨by rw [HB.out]; rfl, rfl⟩
    · have d6 : decide ((i : Int) + 2 < s.size) = false := decide_eq_false (by omega)
      rw [decide_eq_false h2] at HB
      go_enter Tryd.func8, Tryd.ntmps8
      go_wp2_with (go_at_call 13; refine (HL.out _ _).mono ?_; rintro e w' ⟨rfl, rfl⟩)
      go_ret
      exact ⟨by rw [HB.out]; rfl, rfl⟩
  · have d1 : ((i : Int) + 1 == s.size) = true := by rw [beq_iff_eq]; omega
    have HB : Hid (begB s i = false) := by
      show begB s i = false
      unfold begB
      rw [decide_eq_false h1]; simp
    go_enter Tryd.func8, Tryd.ntmps8
    go_wp2_with fail
    go_ret
    exact ⟨by rw [HB.out]; rfl, rfl⟩
def rawB (t : ByteArray) : Bool := t.toList == [115, 99, 114, 105, 112, 116] || t.toList == [115, 116, 121, 108, 101] || t.toList == [116, 105, 116, 108, 101] || t.toList == [116, 101, 120, 116, 97, 114, 101, 97]
set_option maxRecDepth 100000 in
set_option maxHeartbeats 8000000 in
theorem isRaw_any (t : ByteArray) (w : World) : Calls Tryd.prog 18 #[.string t] w fun e w' => e = .returned (.bool (rawB t)) ∧ w' = w := by
  have HB : Hid (rawB t = (t.toList == [115, 99, 114, 105, 112, 116] || t.toList == [115, 116, 121, 108, 101] || t.toList == [116, 105, 116, 108, 101] || t.toList == [116, 101, 120, 116, 97, 114, 101, 97])) := rfl
  cases d1 : (t.toList == [115, 99, 114, 105, 112, 116]) <;> cases d2 : (t.toList == [115, 116, 121, 108, 101]) <;> cases d3 : (t.toList == [116, 105, 116, 108, 101]) <;> cases d4 : (t.toList == [116, 101, 120, 116, 97, 114, 101, 97])
  all_goals
    rw [d1, d2, d3, d4] at HB
    go_enter Tryd.func18, Tryd.ntmps18
    go_wp2_with fail
    go_ret
    exact ⟨by rw [HB.out]; rfl, rfl⟩
set_option maxRecDepth 100000 in
set_option maxHeartbeats 8000000 in
theorem value_any (s : ByteArray) (X i : Nat) (v : Value) (m : Int) (w : World) (h : Scn s X i v w) (hi : i ≤ s.size) (hs : s.size ≤ 1000000000) (hm : w.cell? ⟨0, 0, none⟩ = some (.int .i64 m)) (hX : X ≠ 0) :
    Calls Tryd.prog 27 #[ptr X] w fun e w' => (∃ t : ByteArray, e = .returned (.string t) ∧ t.size ≤ s.size) ∧ Hid (To s X i v w w' i) := by
  obtain ⟨c0, c1, c2, f1, f2⟩ := h.cells
  have H := Lib.hid h
  have HSP := Lib.hid (fun n w => shSpace_any n w)
  have HM : Hid (∀ w2, Kept [X] w w2 → w2.cell? ⟨0, 0, none⟩ = some (.int .i64 m)) := fun w2 k => (World.cell?_of_block (w := w) (a := ⟨0, 0, none⟩) (k.block _ (World.block_lt_of_cell? w _ hm) (by simpa using fun e => hX e.symm))).trans hm
  clear h hm
  unfold ptr
  go_enter Tryd.func27, Tryd.ntmps27
  go_wp2_with fail
  by_cases hq : i < s.size ∧ byteAt s i = 34
  · obtain ⟨hlt, hq⟩ := hq
    have hd : decide ((i : Int) < s.size) = true := decide_eq_true (by omega)
    have hltI : (i : Int) < s.size := by omega
    rw [byteAt_lt hlt] at hq
    have hq2 : ((s[i].toNat : Int) == 34) = true := by rw [beq_iff_eq]; exact hq
    have HUT := Lib.hid (fun w2 h hk => upTo_any s ⟨#[34]⟩ X (i + 1) v m w2 h (by omega) hs (HM.out w2 hk) (by decide))
    clear hq
    go_quiet (fail)
    have HN : Hid (Scn s X (i + 1) v ((w.drewN nq).setCell ⟨X, 1, none⟩ (.int .i64 ((i : Int) + 1)))) := by
      have := (H.out.same ((Same.refl w).drewN nq)).set1 (i + 1)
      rw [show ((i + 1 : Nat) : Int) = (i : Int) + 1 by omega] at this
      exact this
    have HK : Hid (Kept [X] w ((w.drewN nq).setCell ⟨X, 1, none⟩ (.int .i64 ((i : Int) + 1)))) := ((Kept.refl [X] w).drewN nq).set X 1 (by simp) _
    go_wp2_with (go_at_call 14; refine (HUT.out _ HN.out HK.out).mono ?_; rintro e w3 ⟨⟨t, rfl, ht⟩, HT⟩; have HTZ := Lib.hid ht; clear ht)
    go_ret
    obtain ⟨i', h1, h2, h3⟩ := HT.out.ex
    exact ⟨⟨_, rfl, HTZ.out⟩, ⟨⟨i', by omega, h2, h3⟩, HK.out.trans HT.out.kept⟩⟩
  · go_cut [25] from 4 to 24 (fun v wx => v = .bool false ∧ Hid (Same w wx))
    case first =>
      by_cases hlt : i < s.size
      · have hd : decide ((i : Int) < s.size) = true := decide_eq_true (by omega)
        have hltI : (i : Int) < s.size := by omega
        have hq2 : ((s[i].toNat : Int) == 34) = false := by rw [beq_eq_false_iff_ne]; intro e; exact hq ⟨hlt, (byteAt_lt hlt).trans e⟩
        clear hq
        go_quiet (fail)
        go_wp2_with fail
        go_meet
        exact ⟨rfl, (Same.refl w).drewN nq⟩
      · have hd : decide ((i : Int) < s.size) = false := decide_eq_false (by omega)
        clear hq
        go_quiet (fail)
        go_wp2_with fail
        go_meet
        exact ⟨rfl, (Same.refl w).drewN nq⟩
    case rest =>
    obtain ⟨rfl, HSM⟩ := hcut
    clear hq c0 c1 c2 f1 f2 HM
    have HC := Lib.hid (H.out.same HSM.out)
    obtain ⟨c0, c1, c2, f1, f2⟩ := HC.out.cells
    go_wp2_with fail
    clear c0 c1 c2 f1 f2
    go_loopw [] (fun wr => ∃ j : Nat, i ≤ j ∧ j ≤ s.size ∧ Hid (Scn s X j v wr) ∧ Hid (Kept [X] w wr)) (fun wr => s.size - atS X wr)
    case atStart => exact ⟨i, Nat.le_refl _, hi, HC, HSM.out.kept _⟩
    case round =>
      obtain ⟨j, hij, hj, HS, HK⟩ := hrel
      obtain ⟨c0, c1, c2, f1, f2⟩ := HS.out.cells
      have HAT := Lib.hid HS.out.atS
      go_wp2_with fail
      go_cut [73] from 39 to 72 (fun v wx => (∃ b, v = .bool b ∧ (b = true → j < s.size)) ∧ Hid (Same wr wx))
      case first =>
        by_cases hlt : j < s.size
        · have hd : decide ((j : Int) < s.size) = true := decide_eq_true (by omega)
          have hltI : (j : Int) < s.size := by omega
          have HJ := Lib.hid (fun w => HSP.out (s[j].toNat) w)
          cases d1 : spcB s[j].toNat with
          | true =>
            rw [d1] at HJ
            go_quiet ((go_at_call 32; exact Calls.quiet_of_same (HJ.out _)))
            go_wp2_with fail
            go_meet
            exact ⟨⟨_, rfl, fun _ => hlt⟩, (Same.refl wr).drewN nq⟩
          | false =>
            rw [d1] at HJ
            cases d2 : ((s[j].toNat : Int) != 62)
            all_goals
              go_quiet ((go_at_call 32; exact Calls.quiet_of_same (HJ.out _)))
              go_wp2_with fail
              go_meet
              exact ⟨⟨_, rfl, fun _ => hlt⟩, (Same.refl wr).drewN nq⟩
        · have hd : decide ((j : Int) < s.size) = false := decide_eq_false (by omega)
          go_quiet (fail)
          go_wp2_with fail
          go_meet
          exact ⟨⟨_, rfl, fun h => by cases h⟩, (Same.refl wr).drewN nq⟩
      case rest =>
      obtain ⟨⟨b, rfl, hb⟩, HSR⟩ := hcut
      have HC2 := Lib.hid (HS.out.same HSR.out)
      have HK2 : Hid (Kept [X] w wc) := HK.out.trans (HSR.out.kept _)
      clear c0 c1 c2 f1 f2
      obtain ⟨c0, c1, c2, f1, f2⟩ := HC2.out.cells
      cases b with
      | true =>
        have hlt := hb rfl
        have HN : Hid (Scn s X (j + 1) v (wc.setCell ⟨X, 1, none⟩ (.int .i64 ((j : Int) + 1)))) := by
          have := HC2.out.set1 (j + 1)
          rw [show ((j + 1 : Nat) : Int) = (j : Int) + 1 by omega] at this
          exact this
        go_wp2_with fail
        go_roundw
        case rel => exact ⟨j + 1, by omega, by omega, HN, HK2.out.set X 1 (by simp) _⟩
        case measure =>
          rw [HAT.out]
          have h2 : atS X (wc.setCell ⟨X, 1, none⟩ (.int .i64 ((j : Int) + 1))) = j + 1 := HN.out.atS
          omega
      | false =>
        clear hb
        have hijI : (i : Int) ≤ j := by omega
        have hjI : (j : Int) ≤ s.size := by omega
        go_wp2_with fail
        go_quiet (fail)
        go_wp2_with fail
        go_ret
        exact ⟨⟨_, rfl, by simp; omega⟩, ⟨⟨j, hij, hj, HC2.out.same ((Same.refl wc).drewN nq)⟩, HK2.out.drewN nq⟩⟩
end Go.Proofs.YtoalbfffojpnmaaDoor
