/- lang's reader of rules: number, more, close, where what they want is there. Conditions: as stated. -/
import Derived.Test.YtgfoangacbajlaaDoorRuS
namespace Go.Proofs.YtgfoangacbajlaaDoor
open Go.RowKit Mh
set_option linter.unusedVariables false

theorem ldigit_any (n : Int) (w : World) : Calls Tryd.prog 59 #[.int .u8 n] w fun e w' => e = .returned (.bool (digitB n)) ∧ w' = w := by
  by_cases h1 : 48 ≤ n
  · by_cases h2 : n ≤ 57
    · have a1 : decide (n ≤ 57) = true := decide_eq_true h2
      have hd : digitB n = true := by unfold digitB; exact decide_eq_true ⟨h1, h2⟩
      have H := Lib.hid hd
      clear hd
      go_enter Tryd.func59, Tryd.ntmps59
      go_wp2_with fail
      go_ret
      exact ⟨by rw [H.out]; rfl, rfl⟩
    · have a1 : decide (n ≤ 57) = false := decide_eq_false h2
      have hd : digitB n = false := by unfold digitB; exact decide_eq_false (fun h => by omega)
      have H := Lib.hid hd
      clear hd
      go_enter Tryd.func59, Tryd.ntmps59
      go_wp2_with fail
      go_ret
      exact ⟨by rw [H.out]; rfl, rfl⟩
  · have a1 : decide (48 ≤ n) = false := decide_eq_false h1
    have hd : digitB n = false := by unfold digitB; exact decide_eq_false (fun h => by omega)
    have H := Lib.hid hd
    clear hd
    go_enter Tryd.func59, Tryd.ntmps59
    go_wp2_with fail
    go_ret
    exact ⟨by rw [H.out]; rfl, rfl⟩

/-- How much is left to read. -/
def msr (b : Nat) (s : ByteArray) (w : World) : Nat := match w.cell? ⟨b, 1, none⟩ with | some (.int _ z) => s.size - z.toNat | _ => 0
theorem msr_of {b : Nat} {s : ByteArray} {i : Nat} {w : World} (h : RS b s i w) : msr b s w = s.size - i := by
  unfold msr
  rw [show w.cell? ⟨b, 1, none⟩ = some (.int .i64 i) from cellT h rfl]
  simp

/-- What follows a number. -/
def noDigit (rest : List UInt8) : Prop := ∀ c, rest.head? = some c → c.toNat < 48 ∨ 57 < c.toNat

set_option maxHeartbeats 4000000 in
theorem number_ok (b : Nat) (s : ByteArray) (i n : Nat) (rest : List UInt8) (w : World) (h : RS b s i w) (hd : s.data.toList.drop i = Lib.decDigits n ++ rest) (hr : noDigit rest) (hn : n ≤ 1000000000) (hi : i ≤ s.size) (hs : s.size ≤ 2000) :
    Calls Tryd.prog 75 #[.pointer (some ⟨b, 0, none⟩)] w fun e w' => e = .returned (.int .i64 n) ∧ RS b s (i + (Lib.decDigits n).length) w' ∧ Kept [b] w w' := by
  obtain ⟨t, ht⟩ : ∃ t : ByteArray, t = ⟨(Lib.decDigits n).toArray⟩ := ⟨_, rfl⟩
  have htl : t.data.toList = Lib.decDigits n := by rw [ht]
  have htz : (Lib.decDigits n).length = t.size := by rw [← htl]; simp
  have hpos : 0 < t.size := by rw [← htz]; have := dec_ne n; cases hc : Lib.decDigits n with | nil => exact absurd hc this | cons a l => simp
  have hdt : s.data.toList.drop i = t.data.toList ++ rest := by rw [htl]; exact hd
  have hl := drop_len hdt hpos
  have HGET := Lib.hid (fun k (hk : k < t.size) => drop_get hdt k hk)
  have HDIG : Hid (∀ k (hk : k < t.size), 48 ≤ t[k].toNat ∧ t[k].toNat ≤ 57) := fun k hk => dec_digit n _ (by
    rw [← htl]
    have : t[k] = t.data.toList[k]'(by simpa using hk) := rfl
    rw [this]; exact List.getElem_mem _)
  have HVAL : Hid (∀ k, k < t.size → dval (t.data.toList.take (k + 1)) = 10 * dval (t.data.toList.take k) + (t.data.toList.getD k 0).toNat - 48) := by
    intro k hk
    have hk' : k < t.data.toList.length := by simpa using hk
    have h9 := (HDIG.out k hk).1
    have e9 : t.data.toList.getD k 0 = t[k] := by rw [List.getD, List.getElem?_eq_getElem hk']; rfl
    rw [List.take_succ_eq_append_getElem hk', dval_snoc, e9]
    have e8 : t.data.toList[k] = t[k] := rfl
    rw [e8]; omega
  have HBD : Hid (∀ k, dval (t.data.toList.take k) ≤ n) := fun k => by have := dval_take t.data.toList k; rw [htl, dec_val] at this; rw [htl]; exact this
  have HEND : Hid (dval (t.data.toList.take t.size) = n) := by
    show _ = _
    rw [List.take_of_length_le (by simp), htl, dec_val]
  have HHEAD : Hid (∀ h : 1 < t.size, (t[0]'(by omega)).toNat ≠ 48) := by
    intro h1 e
    have hn1 : 1 ≤ n := by
      rcases Nat.eq_zero_or_pos n with rfl | hp
      · rw [← htz, decDigits_small (by omega)] at h1; simp at h1
      · exact hp
    apply dec_head n hn1
    rw [← htl, List.head?_eq_getElem?, List.getElem?_eq_getElem (by simpa using hpos)]
    have e2 : t[0]'hpos = 48 := UInt8.toNat_inj.1 e
    exact congrArg some e2
  have HNEXT : Hid (∀ h : i + t.size < s.size, digitB (s[i + t.size].toNat : Int) = false) := by
    intro h1
    have e := congrArg (fun l => l[t.size]?) hdt
    simp only [List.getElem?_drop] at e
    rw [List.getElem?_append_right (by simp), List.getElem?_eq_getElem (by simpa using h1)] at e
    have e3 : t.size - t.data.toList.length = 0 := by simp
    rw [e3] at e
    have := hr s[i + t.size] (by rw [List.head?_eq_getElem?, ← e]; rfl)
    unfold digitB
    exact decide_eq_false (fun h => by omega)
  have HR := Lib.hid h
  rw [htz]
  clear h hd hr ht htl htz hdt
  go_enter Tryd.func75, Tryd.ntmps75
  have c1 : w.cell? ⟨b, 1, none⟩ = some (.int .i64 i) := cellT HR.out rfl
  go_wp2_with fail
  clear c1
  go_loopw [4] (fun x wr => ∃ k j : Nat, k ≤ t.size ∧ Hid (j = i + k) ∧ x = .int .i64 (dval (t.data.toList.take k) : Nat) ∧ Hid (RS b s j wr) ∧ Hid (Kept [b] w wr)) (fun x wr => msr b s wr)
  case atStart => exact ⟨0, i, by omega, rfl, rfl, HR.out, Kept.refl _ _⟩
  case round =>
    obtain ⟨k, j, hk, HJ, rfl, HRr, HK⟩ := hrel
    have c0 : wr.cell? ⟨b, 0, none⟩ = some (.string s) := cellT HRr.out rfl
    have c1 : wr.cell? ⟨b, 1, none⟩ = some (.int .i64 j) := cellT HRr.out rfl
    have f1 : wr.frozen? ⟨b, 1, none⟩ = false := frozenT HRr.out
    have hj2 : j ≤ 2000 := by have := HJ.out; omega
    have i1 : (0 : Int) ≤ (j : Int) := by omega
    by_cases hkl : k < t.size
    · obtain ⟨hjs, hg2⟩ := HGET.out k hkl
      have hjl : j < s.size := by have := HJ.out; omega
      have hgj : s[j] = t[k] := by rw [← hg2]; congr 1
      have hdg := HDIG.out k hkl
      have hval := HVAL.out k hkl
      have hbd := HBD.out (k + 1)
      have e9 : t.data.toList.getD k 0 = t[k] := by rw [List.getD, List.getElem?_eq_getElem (by simpa using hkl)]; rfl
      rw [e9] at hval
      have i2 : (j : Int) < (s.size : Int) := by omega
      have HB1 : Hid (digitB (s[j].toNat : Int) = true) := by show _ = _; rw [hgj]; unfold digitB; exact decide_eq_true ⟨by omega, by omega⟩
      have HDC : Hid (∀ m, Calls Tryd.prog 59 #[.int .u8 (s[j].toNat : Int)] (wr.drewN m) fun e w' => e = .returned (.bool true) ∧ w' = wr.drewN m) := by
        intro m; rw [← HB1.out]; exact ldigit_any _ _
      have hc48 : 48 ≤ s[j].toNat ∧ s[j].toNat ≤ 57 := by rw [hgj]; exact hdg
      have hvn : dval (t.data.toList.take (k + 1)) = 10 * dval (t.data.toList.take k) + (s[j].toNat - 48) := by rw [hval, ← hgj]; omega
      have HVN := Lib.hid hvn
      obtain ⟨v, hv⟩ : ∃ v, v = dval (t.data.toList.take k) := ⟨_, rfl⟩
      rw [← hv] at hvn HVN ⊢
      have hvb : 10 * v + (s[j].toNat - 48) ≤ 1000000000 := by omega
      have way : (k = 0 ∧ decide ((i : Int) < (j : Int)) = false ∧ decide (i < j) = false) ∨ (decide ((i : Int) < (j : Int)) = true ∧ decide (i < j) = true ∧ ∃ h : i < s.size, ((s[i].toNat : Int) == 48) = false) := by
        by_cases k0 : k = 0
        · left; have := HJ.out; exact ⟨k0, decide_eq_false (by omega), decide_eq_false (by omega)⟩
        · right
          have := HJ.out
          refine ⟨decide_eq_true (by omega), decide_eq_true (by omega), by omega, ?_⟩
          have h0 := HHEAD.out (by omega)
          obtain ⟨hx, hy⟩ := HGET.out 0 hpos
          have : s[i]'(by omega) = t[0] := by rw [← hy]; rfl
          rw [this, beq_eq_false_iff_ne]
          omega
      obtain ⟨cj, hcj⟩ : ∃ c, c = s[j].toNat := ⟨_, rfl⟩
      have hw8 : IntKind.u8.wrap ((s[j].toNat : Int) - 48) = (s[j].toNat : Int) - 48 := by rw [IntKind.wrap_u8]; omega
      have hsub0 : 0 ≤ (s[j].toNat : Int) - 48 := by omega
      have hsub1 : (s[j].toNat : Int) - 48 ≤ 9 := by omega
      have hv9 : (v : Int) ≤ 1000000000 := by omega
      have hmin : min (10 * (v : Int) + ((s[j].toNat : Int) - 48)) 10000000000 = 10 * (v : Int) + ((s[j].toNat : Int) - 48) := by omega
      have hwr1 : IntKind.i64.wrap (10 * (v : Int)) = 10 * (v : Int) := IntWalk.i64_in _ (by omega)
      have hwr2 : IntKind.i64.wrap ((s[j].toNat : Int) - 48) = (s[j].toNat : Int) - 48 := IntWalk.i64_in _ (by omega)
      have hwr3 : IntKind.i64.wrap (10 * (v : Int) + ((s[j].toNat : Int) - 48)) = 10 * (v : Int) + ((s[j].toNat : Int) - 48) := IntWalk.i64_in _ (by omega)
      have HVZ : Hid (10 * (v : Int) + ((s[j].toNat : Int) - 48) = ((dval (t.data.toList.take (k + 1)) : Nat) : Int)) := by show _ = _; rw [HVN.out]; omega
      clear hgj hg2 hval hbd e9 hvn hv hdg hcj hjs hvb
      rcases way with ⟨rfl, y1, y2⟩ | ⟨y1, y2, hix, y3⟩
      · go_wp2_with fail
        go_quiet ((go_at_call 59; with_reducible exact Calls.quiet_of_same (HDC.out _)))
        go_wp2_with fail
        go_quiet (fail)
        go_wp2_with fail
        go_roundw
        case rel => exact ⟨0 + 1, j + 1, by omega, by show _ = _; have := HJ.out; omega, by rw [HVZ.out], heap_setCell_same _ _ 1 _ _ _ HRr.out, (HK.out.drewN _).set _ _ (by simp) _⟩
        case measure =>
          rw [msr_of HRr.out]
          refine Nat.lt_of_le_of_lt (Nat.le_of_eq (msr_of (b := b) (s := s) (i := j + 1) ?_)) (by omega)
          exact heap_setCell_same _ _ 1 _ _ _ HRr.out
      · go_wp2_with fail
        go_quiet ((go_at_call 59; with_reducible exact Calls.quiet_of_same (HDC.out _)))
        go_wp2_with fail
        go_quiet (fail)
        go_wp2_with fail
        go_roundw
        case rel => exact ⟨k + 1, j + 1, by omega, by show _ = _; have := HJ.out; omega, by rw [HVZ.out], heap_setCell_same _ _ 1 _ _ _ HRr.out, (HK.out.drewN _).set _ _ (by simp) _⟩
        case measure =>
          rw [msr_of HRr.out]
          refine Nat.lt_of_le_of_lt (Nat.le_of_eq (msr_of (b := b) (s := s) (i := j + 1) ?_)) (by omega)
          exact heap_setCell_same _ _ 1 _ _ _ HRr.out
    · obtain rfl : k = t.size := by omega
      have HF : Hid (RS b s (i + t.size) wr) := by
        have := HJ.out
        rw [← this]; exact HRr.out
      have hji : ((j : Int) == (i : Int)) = false := by rw [beq_eq_false_iff_ne]; have := HJ.out; omega
      have hV := HEND.out
      rw [hV]
      clear hV
      by_cases hjl : j < s.size
      · have i2 : (j : Int) < (s.size : Int) := by omega
        have HB1 : Hid (digitB (s[j].toNat : Int) = false) := by
          have e := HJ.out
          have h9 := HNEXT.out (by omega)
          show _ = _
          rw [← h9]
          congr 3
          congr 1
        have HDC : Hid (∀ m, Calls Tryd.prog 59 #[.int .u8 (s[j].toNat : Int)] (wr.drewN m) fun e w' => e = .returned (.bool false) ∧ w' = wr.drewN m) := by
          intro m; rw [← HB1.out]; exact ldigit_any _ _
        go_wp2_with fail
        go_quiet ((go_at_call 59; with_reducible exact Calls.quiet_of_same (HDC.out _)))
        go_wp2_with fail
        go_ret
        exact ⟨rfl, HF.out, HK.out.drewN _⟩
      · have q1 : decide ((j : Int) < (s.size : Int)) = false := decide_eq_false (by omega)
        have q2 : decide (j < s.size) = false := decide_eq_false hjl
        go_wp2_with fail
        go_quiet (fail)
        go_wp2_with fail
        go_ret
        exact ⟨rfl, HF.out, HK.out.drewN _⟩
end Go.Proofs.YtgfoangacbajlaaDoor
