/- ship's name, value: how far they come. Conditions: the scanner in memory; its string's size; the library's variable MaxLen holds an integer. -/
import Derived.Test.YtoalbfffojpnmaaDoorTnA
import Derived.StillTailTactics
namespace Go.Proofs.YtoalbfffojpnmaaDoor
open Go.RowKit Mh
set_option linter.unusedVariables false

def atS (X : Nat) (w : World) : Nat := match w.cell? ⟨X, 1, none⟩ with
  | some (.int _ n) => n.toNat
  | _ => 0
theorem Scn.atS {s : ByteArray} {X i : Nat} {v : Value} {W : World} (h : Scn s X i v W) : atS X W = i := by
  unfold Proofs.YtoalbfffojpnmaaDoor.atS; rw [h.cells.2.1]; simp
/-- What name leaves. -/
structure Nm (s : ByteArray) (X i : Nat) (v : Value) (w w' : World) (p : Int → Bool) : Prop where
  ex : ∃ i', i ≤ i' ∧ i' ≤ s.size ∧ (∀ h : i < s.size, p s[i].toNat = true → i < i') ∧ Scn s X i' v w'
  kept : Kept [X] w w'
set_option maxRecDepth 100000 in
set_option maxHeartbeats 8000000 in
theorem nameT_any (s : ByteArray) (X i : Nat) (v : Value) (w : World) (h : Scn s X i v w) (hi : i ≤ s.size) (hs : s.size ≤ 1000000000) :
    Calls Tryd.prog 15 #[ptr X, .func (.func 16) #[] #[]] w fun e w' => (∃ t : ByteArray, e = .returned (.string t)) ∧ Hid (Nm s X i v w w' tagB) := by
  obtain ⟨c0, c1, c2, f1, f2⟩ := h.cells
  have H := Lib.hid h
  have HLW := Lib.hid (fun (t : ByteArray) w (ht : t.size ≤ 1000000000) => lower_any t w ht)
  clear h
  unfold ptr
  go_enter Tryd.func15, Tryd.ntmps15
  go_wp2_with fail
  clear c0 c1 c2 f1 f2
  go_loopw [] (fun wr => ∃ j : Nat, i ≤ j ∧ j ≤ s.size ∧ Hid (Scn s X j v wr) ∧ Hid (Kept [X] w wr)) (fun wr => s.size - atS X wr)
  case atStart => exact ⟨i, Nat.le_refl _, hi, H, Kept.refl _ _⟩
  case round =>
    obtain ⟨j, hij, hj, HS, HK⟩ := hrel
    obtain ⟨c0, c1, c2, f1, f2⟩ := HS.out.cells
    have HAT := Lib.hid HS.out.atS
    by_cases hlt : j < s.size
    · have hltI : (j : Int) < s.size := by omega
      have hd : decide ((j : Int) < s.size) = true := decide_eq_true hltI
      have HJ := Lib.hid (fun w => shTag_any (s[j].toNat) w)
      cases hc : tagB s[j].toNat with
      | true =>
        rw [hc] at HJ
        clear hc
        go_wp2_with fail
        go_quiet ((go_at_call 16; exact Calls.quiet_of_same (HJ.out _)))
        have HN : Hid (Scn s X (j + 1) v ((wr.drewN nq).setCell ⟨X, 1, none⟩ (.int .i64 ((j : Int) + 1)))) := by
          have := (HS.out.same ((Same.refl wr).drewN nq)).set1 (j + 1)
          rw [show ((j + 1 : Nat) : Int) = (j : Int) + 1 by omega] at this
          exact this
        go_wp2_with fail
        go_roundw
        case rel => exact ⟨j + 1, by omega, by omega, HN, (HK.out.drewN nq).set X 1 (by simp) _⟩
        case measure =>
          rw [HAT.out]
          have h2 : atS X ((wr.drewN nq).setCell ⟨X, 1, none⟩ (.int .i64 ((j : Int) + 1))) = j + 1 := HN.out.atS
          omega
      | false =>
        rw [hc] at HJ
        have HC := Lib.hid hc
        clear hc
        go_wp2_with fail
        go_quiet ((go_at_call 16; exact Calls.quiet_of_same (HJ.out _)))
        have HS2 : Hid (Scn s X j v (wr.drewN nq)) := HS.out.same ((Same.refl wr).drewN nq)
        have HK2 : Hid (Kept [X] w (wr.drewN nq)) := HK.out.drewN nq
        generalize wr.drewN nq = w2 at *
        clear c0 c1 c2 f1 f2
        obtain ⟨c0, c1, c2, f1, f2⟩ := HS2.out.cells
        have hijI : (i : Int) ≤ j := by omega
        have hjI : (j : Int) ≤ s.size := by omega
        have hsz : (s.extract i j).size ≤ 1000000000 := by simp; omega
        go_wp2_with fail
        go_still_tail 10, (by kernel_rfl)
        generalize hwn : World.drew _ = wn at *
        have HSN : Hid (Same w2 wn) := by rw [← hwn]; exact (Same.refl w2).drew
        go_wp2_with (go_at_call 23; refine (HLW.out _ _ hsz).mono ?_; rintro e w' ⟨rfl, hb⟩; have HB := Lib.hid hb; clear hb)
        go_ret
        exact ⟨⟨_, rfl⟩, ⟨⟨j, hij, hj, fun h hp => (by rcases Nat.lt_or_ge i j with h1 | h1; exact h1; exfalso; obtain rfl : i = j := (by omega); rw [HC.out] at hp; cases hp), (HS2.out.same HSN.out).below HB.out⟩, (HK2.out.trans (HSN.out.kept [X])).call (Kept.of_below (S := [X]) HB.out) (fun b hb => .inl hb)⟩⟩
    · have hje : j = s.size := by omega
      have hd : decide ((j : Int) < s.size) = false := decide_eq_false (by omega)
      go_wp2_with fail
      go_quiet (fail)
      have HS2 : Hid (Scn s X j v (wr.drewN nq)) := HS.out.same ((Same.refl wr).drewN nq)
      have HK2 : Hid (Kept [X] w (wr.drewN nq)) := HK.out.drewN nq
      generalize wr.drewN nq = w2 at *
      clear c0 c1 c2 f1 f2
      obtain ⟨c0, c1, c2, f1, f2⟩ := HS2.out.cells
      have hijI : (i : Int) ≤ j := by omega
      have hjI : (j : Int) ≤ s.size := by omega
      have hsz : (s.extract i j).size ≤ 1000000000 := by simp; omega
      have HJE := Lib.hid hje
      clear hje
      go_wp2_with fail
      go_still_tail 10, (by kernel_rfl)
      generalize hwn : World.drew _ = wn at *
      have HSN : Hid (Same w2 wn) := by rw [← hwn]; exact (Same.refl w2).drew
      go_wp2_with (go_at_call 23; refine (HLW.out _ _ hsz).mono ?_; rintro e w' ⟨rfl, hb⟩; have HB := Lib.hid hb; clear hb)
      go_ret
      exact ⟨⟨_, rfl⟩, ⟨⟨j, hij, hj, fun h _ => (by have := HJE.out; omega), (HS2.out.same HSN.out).below HB.out⟩, (HK2.out.trans (HSN.out.kept [X])).call (Kept.of_below (S := [X]) HB.out) (fun b hb => .inl hb)⟩⟩
set_option maxRecDepth 100000 in
set_option maxHeartbeats 8000000 in
theorem nameA_any (s : ByteArray) (X i : Nat) (v : Value) (w : World) (h : Scn s X i v w) (hi : i ≤ s.size) (hs : s.size ≤ 1000000000) :
    Calls Tryd.prog 15 #[ptr X, .func (.func 25) #[] #[]] w fun e w' => (∃ t : ByteArray, e = .returned (.string t)) ∧ Hid (Nm s X i v w w' attB) := by
  obtain ⟨c0, c1, c2, f1, f2⟩ := h.cells
  have H := Lib.hid h
  have HLW := Lib.hid (fun (t : ByteArray) w (ht : t.size ≤ 1000000000) => lower_any t w ht)
  clear h
  unfold ptr
  go_enter Tryd.func15, Tryd.ntmps15
  go_wp2_with fail
  clear c0 c1 c2 f1 f2
  go_loopw [] (fun wr => ∃ j : Nat, i ≤ j ∧ j ≤ s.size ∧ Hid (Scn s X j v wr) ∧ Hid (Kept [X] w wr)) (fun wr => s.size - atS X wr)
  case atStart => exact ⟨i, Nat.le_refl _, hi, H, Kept.refl _ _⟩
  case round =>
    obtain ⟨j, hij, hj, HS, HK⟩ := hrel
    obtain ⟨c0, c1, c2, f1, f2⟩ := HS.out.cells
    have HAT := Lib.hid HS.out.atS
    by_cases hlt : j < s.size
    · have hltI : (j : Int) < s.size := by omega
      have hd : decide ((j : Int) < s.size) = true := decide_eq_true hltI
      have HJ := Lib.hid (fun w => shAttB_any (s[j].toNat) w)
      cases hc : attB s[j].toNat with
      | true =>
        rw [hc] at HJ
        clear hc
        go_wp2_with fail
        go_quiet ((go_at_call 25; exact Calls.quiet_of_same (HJ.out _)))
        have HN : Hid (Scn s X (j + 1) v ((wr.drewN nq).setCell ⟨X, 1, none⟩ (.int .i64 ((j : Int) + 1)))) := by
          have := (HS.out.same ((Same.refl wr).drewN nq)).set1 (j + 1)
          rw [show ((j + 1 : Nat) : Int) = (j : Int) + 1 by omega] at this
          exact this
        go_wp2_with fail
        go_roundw
        case rel => exact ⟨j + 1, by omega, by omega, HN, (HK.out.drewN nq).set X 1 (by simp) _⟩
        case measure =>
          rw [HAT.out]
          have h2 : atS X ((wr.drewN nq).setCell ⟨X, 1, none⟩ (.int .i64 ((j : Int) + 1))) = j + 1 := HN.out.atS
          omega
      | false =>
        rw [hc] at HJ
        have HC := Lib.hid hc
        clear hc
        go_wp2_with fail
        go_quiet ((go_at_call 25; exact Calls.quiet_of_same (HJ.out _)))
        have HS2 : Hid (Scn s X j v (wr.drewN nq)) := HS.out.same ((Same.refl wr).drewN nq)
        have HK2 : Hid (Kept [X] w (wr.drewN nq)) := HK.out.drewN nq
        generalize wr.drewN nq = w2 at *
        clear c0 c1 c2 f1 f2
        obtain ⟨c0, c1, c2, f1, f2⟩ := HS2.out.cells
        have hijI : (i : Int) ≤ j := by omega
        have hjI : (j : Int) ≤ s.size := by omega
        have hsz : (s.extract i j).size ≤ 1000000000 := by simp; omega
        go_wp2_with fail
        go_still_tail 10, (by kernel_rfl)
        generalize hwn : World.drew _ = wn at *
        have HSN : Hid (Same w2 wn) := by rw [← hwn]; exact (Same.refl w2).drew
        go_wp2_with (go_at_call 23; refine (HLW.out _ _ hsz).mono ?_; rintro e w' ⟨rfl, hb⟩; have HB := Lib.hid hb; clear hb)
        go_ret
        exact ⟨⟨_, rfl⟩, ⟨⟨j, hij, hj, fun h hp => (by rcases Nat.lt_or_ge i j with h1 | h1; exact h1; exfalso; obtain rfl : i = j := (by omega); rw [HC.out] at hp; cases hp), (HS2.out.same HSN.out).below HB.out⟩, (HK2.out.trans (HSN.out.kept [X])).call (Kept.of_below (S := [X]) HB.out) (fun b hb => .inl hb)⟩⟩
    · have hje : j = s.size := by omega
      have hd : decide ((j : Int) < s.size) = false := decide_eq_false (by omega)
      go_wp2_with fail
      go_quiet (fail)
      have HS2 : Hid (Scn s X j v (wr.drewN nq)) := HS.out.same ((Same.refl wr).drewN nq)
      have HK2 : Hid (Kept [X] w (wr.drewN nq)) := HK.out.drewN nq
      generalize wr.drewN nq = w2 at *
      clear c0 c1 c2 f1 f2
      obtain ⟨c0, c1, c2, f1, f2⟩ := HS2.out.cells
      have hijI : (i : Int) ≤ j := by omega
      have hjI : (j : Int) ≤ s.size := by omega
      have hsz : (s.extract i j).size ≤ 1000000000 := by simp; omega
      have HJE := Lib.hid hje
      clear hje
      go_wp2_with fail
      go_still_tail 10, (by kernel_rfl)
      generalize hwn : World.drew _ = wn at *
      have HSN : Hid (Same w2 wn) := by rw [← hwn]; exact (Same.refl w2).drew
      go_wp2_with (go_at_call 23; refine (HLW.out _ _ hsz).mono ?_; rintro e w' ⟨rfl, hb⟩; have HB := Lib.hid hb; clear hb)
      go_ret
      exact ⟨⟨_, rfl⟩, ⟨⟨j, hij, hj, fun h _ => (by have := HJE.out; omega), (HS2.out.same HSN.out).below HB.out⟩, (HK2.out.trans (HSN.out.kept [X])).call (Kept.of_below (S := [X]) HB.out) (fun b hb => .inl hb)⟩⟩
end Go.Proofs.YtoalbfffojpnmaaDoor
