/- lang.hasDigit of any string: runes of all kinds. Conditions: a string's size. -/
import Derived.Test.YtdolpehcfifecaaGreatDoorMbe
import Derived.Laws.RangeAny
import Derived.Laws.Runes
import Derived.Lib.AsciiSet
import Derived.Deep.LoopGhost
import Derived.Deep.WholeRow
import Derived.WalkMore
import Derived.Outline
import Derived.Deep.Cut
import Derived.Lib.OthersKept
import Derived.RegionTactic
import Derived.Deep.RegionLaw
import Derived.ChangeAlike
import Derived.BigRegion
namespace Mh
open Go Go.RowKit
set_option linter.unusedVariables false
def digits10 : ByteArray := ⟨#[48, 49, 50, 51, 52, 53, 54, 55, 56, 57]⟩
theorem digits10_low : ∀ b ∈ digits10.data.toList, b.toNat < 128 := by decide
theorem digits10_at (i : Nat) (h : i < digits10.size) : digits10[i].toNat < 128 := by
  refine digits10_low _ ?_
  exact Array.getElem_mem_toList (xs := digits10.data) h
theorem mbelow_drewN {B : Nat} {w w' : World} (h : Below B w w') (n : Nat) : Below B w (w'.drewN n) := ⟨h.os, h.tape, h.output, h.size, h.block⟩
theorem miter_below {w wx : World} {s : ByteArray} {p : Nat} (h : Below w.heap.size w wx) : Below w.heap.size w (wx.iterAt w.heap.size s p) := by
  refine ⟨h.os, h.tape, h.output, by simpa [World.iterAt] using h.size, fun k hk => ?_⟩
  rw [← h.block k hk]
  simp only [World.iterAt, Array.getElem?_setIfInBounds]
  rw [if_neg (by omega)]
theorem indexByte_none (l : List UInt8) (c : UInt8) (h : ∀ b ∈ l, b ≠ c) : Lib.indexByte l c = -1 := by
  induction l with
  | nil => rfl
  | cons a l ih =>
    have h1 : (a == c) = false := beq_false_of_ne (h a (by simp))
    simp [Lib.indexByte, h1, ih (fun b hb => h b (by simp [hb]))]
/-- The bytes that a high byte leads: all of them high. -/
theorem decode_span (s : ByteArray) (pos : Nat) (h : pos < s.size) (ha : 128 ≤ (s[pos]'h).toNat) : pos + (Utf8.decode s pos).2 ≤ s.size ∧ ∀ k (hk : pos + k < s.size), k < (Utf8.decode s pos).2 → 128 ≤ (s[pos + k]'hk).toNat := by
  have hn : ¬ (s[pos]'h).toNat < 128 := by omega
  have hg : ∀ k (hk : pos + k < s.size), s.get! (pos + k) = s[pos + k]'hk := fun k hk => by
    show s.get! (pos + k) = _
    simp [ByteArray.get!, getElem!_pos, hk]
    rfl
  have one : ∀ k (hk : pos + k < s.size), k < 1 → 128 ≤ (s[pos + k]'hk).toNat := fun k hk h1 => by
    obtain rfl : k = 0 := by omega
    simpa using ha
  have ext : ∀ n, (∀ k (hk : pos + k < s.size), k < n → 128 ≤ (s[pos + k]'hk).toNat) → pos + n < s.size → (s.get! (pos + n)).toNat / 64 = 2 → ∀ k (hk : pos + k < s.size), k < n + 1 → 128 ≤ (s[pos + k]'hk).toNat := by
    intro n hp hlt h2 k hk hkn
    by_cases e : k = n
    · subst e; rw [← hg k hk]; omega
    · exact hp k hk (by omega)
  simp only [Utf8.decode, get_at s pos h, hn, if_false]
  split
  · rename_i h1
    simp only [Bool.and_eq_true, decide_eq_true_eq, beq_iff_eq] at h1
    split
    · exact ⟨h1.2.1, ext 1 one h1.2.1 h1.2.2⟩
    · exact ⟨h, one⟩
  · split
    · rename_i h1
      simp only [Bool.and_eq_true, decide_eq_true_eq, beq_iff_eq] at h1
      split
      · exact ⟨h1.2.1, ext 2 (ext 1 one h1.1.2.1 h1.1.2.2) h1.2.1 h1.2.2⟩
      · exact ⟨h, one⟩
    · split
      · rename_i h1
        simp only [Bool.and_eq_true, decide_eq_true_eq, beq_iff_eq] at h1
        split
        · exact ⟨h1.2.1, ext 3 (ext 2 (ext 1 one h1.1.1.2.1 h1.1.1.2.2) h1.1.2.1 h1.1.2.2) h1.2.1 h1.2.2⟩
        · exact ⟨h, one⟩
      · exact ⟨h, one⟩
end Mh
namespace Go.Proofs.YtdolpehcfifecaaGreatDoor
open Go.RowKit Mh
set_option linter.unusedVariables false
set_option maxRecDepth 100000 in
set_option maxHeartbeats 8000000 in
theorem gIR_high (r : Int) (h128 : 128 ≤ r) (hr : r ≤ 2147483647) (w : World) : Calls Tryz.prog 69 #[.string digits10, .int .i32 r] w fun e w' => e = .returned (.int .i64 (-1)) ∧ Below w.heap.size w w' := by
  have q0 : decide ((0 : Int) ≤ r) = true := decide_eq_true (by omega)
  have q1 : decide (r < (128 : Int)) = false := decide_eq_false (by omega)
  have hsz : digits10.size = 10 := rfl
  have HSZ := Lib.hid hsz
  have HLOW := Lib.hid digits10_at
  have HLO2 := Lib.hid digits10_low
  generalize digits10 = D at *
  have hs10 : D.size ≤ 10 := by omega
  have hs11 : 10 ≤ D.size := by omega
  clear hsz
  by_cases he : r = 65533
  · have qe : (r == 65533) = true := by rw [beq_iff_eq]; exact he
    clear he
    go_enter Tryz.func69, Tryz.ntmps69
    go_wp2_with fail
    go_loopg [5, 6] 10 (fun g _ _ wx => ∃ i : Nat, i + g = 10 ∧ wx = w.iter D i)
    case atStart => exact ⟨0, by omega, rfl⟩
    case round =>
      obtain ⟨i, hig, rfl⟩ := hrel
      cases gk with
      | zero =>
        obtain rfl : i = 10 := by omega
        have hnx := run_next_end (P := Tryz.prog) w D 10
        have hnx := fun ty => hnx ty (by omega)
        go_wp2_with fail
        go_ret
        exact ⟨rfl, (Below.refl _ _).alloc (Nat.le_refl _) _⟩
      | succ g =>
        have hi : i < D.size := by omega
        have hlow := HLOW.out i hi
        have hnx := fun ty => run_next_ascii (P := Tryz.prog) w D i ty hi hlow
        have q3 : ((D[i].toNat : Int) == 65533) = false := by rw [beq_eq_false_iff_ne]; omega
        go_wp2_with fail
        go_roundg g
        case measure => omega
        case rel => exact ⟨i + 1, by omega, rfl⟩
  · have qe : (r == 65533) = false := by rw [beq_eq_false_iff_ne]; exact he
    have HV := Lib.hid (fun w => Tryz.utf8_ValidRune r w)
    clear he
    cases hv : Lib.validRune r with
    | false =>
      rw [hv] at HV
      clear hv
      go_enter Tryz.func69, Tryz.ntmps69
      go_wp2_with (go_at_call 82; refine (HV.out _).mono ?_; rintro e w' ⟨rfl, hw⟩; obtain rfl : w = w' := hw.symm)
      go_ret
      exact ⟨rfl, Below.refl _ _⟩
    | true =>
      rw [hv] at HV
      have hval : Utf8.valid r = true := by
        rw [validRune_eq]
        exact hv
      obtain ⟨e1, e2, e3⟩ := encode_facts r hval h128
      obtain ⟨E, hE⟩ : ∃ E : ByteArray, Utf8.encode r = E := ⟨_, rfl⟩
      have HENC : Hid (∀ h : E.size - 1 < E.size, 128 ≤ (E[E.size - 1]'h).toNat) := by subst hE; exact e3
      rw [hE] at e1 e2
      obtain ⟨L, hL⟩ : ∃ L : Nat, E.size = L + 1 := ⟨E.size - 1, by omega⟩
      have HENL : Hid (∀ h : L < E.size, 128 ≤ (E[L]'h).toNat) := fun h => by
        have := HENC.out (by omega)
        simpa only [hL, Nat.add_sub_cancel] using this
      have HEL := Lib.hid hL
      have hL1 : 1 ≤ L := by omega
      have hL2 : L ≤ 3 := by omega
      have hLE : L < E.size := by omega
      have hLE2 : E.size ≤ L + 1 := by omega
      have hsub : (E.size : Int) - 1 = (L : Int) := by omega
      obtain ⟨J, hJ⟩ : ∃ J, J = L + 1 := ⟨_, rfl⟩
      have hJ9 : J ≤ D.size := by omega
      have hwr : IntKind.i64.wrap ((L : Int) + 1) = (J : Int) := by rw [IntWalk.i64_in _ (by omega)]; omega
      clear hJ
      have hLD : L < D.size := by omega
      have hneq : ((D[L].toNat : Int) != (E[L].toNat : Int)) = true := by
        have h1 := HLOW.out L hLD
        have h2 := HENL.out hLE
        rw [bne_iff_ne]; omega
      have HIB : Hid (∀ w', Calls Tryz.prog 33 #[.string (D.extract J D.size), .int .u8 E[L].toNat] w' fun e w'' => e = .returned (.int .i64 (-1)) ∧ w'' = w') := by
        intro w'
        have h := Tryz.strings_IndexByte (D.extract J D.size) (E[L].toNat : Int) w'
        have ed : (E[L].toNat : Int).toNat.toUInt8 = E[L] := by simp
        rw [ed, indexByte_none _ _ (fun b hb e => by
          have h1 := HLO2.out b (mem_extract hb)
          have h2 := HENL.out hLE
          rw [e] at h1; omega)] at h
        exact h
      clear hv hval e3 hL
      go_enter Tryz.func69, Tryz.ntmps69
      go_wp2_with (go_at_call 82; refine (HV.out _).mono ?_; rintro e w' ⟨rfl, hw⟩; obtain rfl : w = w' := hw.symm)
      go_step3
      go_wp2_with fail
      go_loopw [9] (fun v wr => v = .int .i64 (L : Int) ∧ wr = w) (fun _ _ => 0)
      case atStart => exact ⟨rfl, rfl⟩
      case round =>
        obtain ⟨rfl, rfl⟩ := hrel
        go_wp2_with fail
        go_step3
        go_wp2_with fail
        go_quiet (fail)
        go_wp2_with fail
        go_region_law (go_simp; go_at_call 33; refine (HIB.out _).mono ?_; rintro e w' ⟨rfl, hw⟩; subst hw)
        all_goals
          go_wp2_with fail
          rw [Exit.noGoto_ret]
          go_wp2_with fail
          rw [Exit.noGoto_ret]
          go_ret
          exact ⟨rfl, mbelow_drewN (Below.refl _ _) _⟩
theorem gIR_low (c : UInt8) (h : c.toNat < 128) (w : World) : Calls Tryz.prog 69 #[.string digits10, .int .i32 c.toNat] w fun e w' => e = .returned (.int .i64 (Lib.indexByte digits10.data.toList c)) ∧ w' = w := by
  have h1 := Tryz.strings_IndexRune_ascii digits10 (c.toNat : Int) w (by omega) (by omega)
  have ed : (c.toNat : Int).toNat.toUInt8 = c := by simp
  rw [ed] at h1
  exact h1
theorem digits10_dig (c : UInt8) : (0 ≤ Lib.indexByte digits10.data.toList c) ↔ digB c = true := by
  by_cases h : digB c = true
  · have hc : 48 ≤ c.toNat ∧ c.toNat ≤ 57 := of_decide_eq_true h
    rw [h]
    simp only [iff_true]
    obtain ⟨n, hn⟩ : ∃ n, c.toNat = n := ⟨_, rfl⟩
    rw [hn] at hc
    have he : c = UInt8.ofNat n := by rw [← hn]; simp
    subst he
    have : n = 48 ∨ n = 49 ∨ n = 50 ∨ n = 51 ∨ n = 52 ∨ n = 53 ∨ n = 54 ∨ n = 55 ∨ n = 56 ∨ n = 57 := by omega
    rcases this with rfl | rfl | rfl | rfl | rfl | rfl | rfl | rfl | rfl | rfl <;> decide
  · have hn : ∀ b ∈ digits10.data.toList, b ≠ c := by
      intro b hb e
      subst e
      apply h
      have : ∀ b ∈ digits10.data.toList, digB b = true := by decide
      exact this b hb
    rw [indexByte_none _ _ hn]
    constructor
    · intro h2; exact absurd h2 (by decide)
    · intro h2; exact absurd h2 h
theorem digits10_has (c : UInt8) : digits10.data.toList.contains c = digB c := by
  rw [Bool.eq_iff_iff]
  constructor
  · intro h
    have : ∀ b ∈ digits10.data.toList, digB b = true := by decide
    exact this c (by simpa using h)
  · intro h
    have := (digits10_dig c).2 h
    by_cases hm : c ∈ digits10.data.toList
    · simpa using hm
    · rw [indexByte_none _ _ (fun b hb e => hm (by rw [← e]; exact hb))] at this
      exact absurd this (by decide)
set_option maxRecDepth 1000000 in
set_option maxHeartbeats 8000000 in
theorem gIA_short (s : ByteArray) (h8 : s.size ≤ 8) (w : World) : Calls Tryz.prog 65 #[.string s, .string digits10] w fun e w' => ∃ n : Int, e = .returned (.int .i64 n) ∧ (0 ≤ n ↔ s.data.toList.any digB = true) ∧ Below w.heap.size w w' := by
  have HAL := Lib.hid (many_at s digB)
  generalize s.data.toList.any digB = R at HAL ⊢
  have HIR := Lib.hid gIR_high
  have HIL := Lib.hid gIR_low
  have HDD := Lib.hid digits10_dig
  have hsz : digits10.size = 10 := rfl
  have hemp : digits10.toList.isEmpty = false := mempty_not (by decide)
  have hn1 : ((digits10.size : Int) == 1) = false := by rw [hsz]; rfl
  have HUA := Lib.hid (fun w => Tryz.strings_shouldUseASCIISet s.size w)
  have h8z : decide ((8 : Int) < (s.size : Int)) = false := decide_eq_false (by omega)
  rw [h8z] at HUA
  generalize digits10 = D at *
  clear hsz h8z
  go_enter Tryz.func65, Tryz.ntmps65
  go_wp2_with (go_at_call 70; refine (HUA.out _).mono ?_; rintro e w' ⟨rfl, hw⟩; obtain rfl : w = w' := hw.symm)
  go_loopw [] (fun wx => ∃ i : Nat, i ≤ s.size ∧ Hid (wx.heap[w.heap.size]? = some (.stringIter s i)) ∧ Hid (Below w.heap.size w wx) ∧ Hid (∀ j (h : j < s.size), j < i → digB s[j] = false)) (fun wx => s.size - wx.iterPos w.heap.size)
  case atStart => exact ⟨0, Nat.zero_le _, heap_alloc_new _ _, (Below.refl _ _).alloc (Nat.le_refl _) _, fun j h hj => by omega⟩
  case round =>
    obtain ⟨i, his, HIT, HB, HNO⟩ := hrel
    have HPOS : Hid (wr.iterPos w.heap.size = i) := by show _ = _; unfold World.iterPos; rw [HIT.out]
    have HPOS2 : Hid (∀ (W : World) (j : Nat), W.heap[w.heap.size]? = some (.stringIter s j) → W.iterPos w.heap.size = j) := fun W j h => by unfold World.iterPos; rw [h]
    by_cases hlt : i < s.size
    · by_cases hlow : s[i].toNat < 128
      · have hnx := fun ty => Lib.run_next_ascii_at (P := Tryz.prog) wr w.heap.size s i ty HIT.out hlt hlow
        have HIT2 := Lib.hid (Lib.iterAt_heap wr w.heap.size s i (i + 1) HIT.out)
        have HB2 : Hid (Below w.heap.size w (wr.iterAt w.heap.size s (i + 1))) := miter_below HB.out
        have HR := Lib.hid (fun w' => HIL.out s[i] hlow w')
        have HDG := Lib.hid (HDD.out s[i])
        generalize Lib.indexByte D.data.toList s[i] = K at HR HDG
        cases hd : digB s[i] with
        | true =>
          have hK : decide ((0 : Int) ≤ K) = true := decide_eq_true (HDG.out.2 hd)
          have HF : Hid (R = true) := HAL.out.2 ⟨i, hlt, hd⟩
          clear hd HDG
          go_wp2_with (go_at_call 69; refine (HR.out _).mono ?_; rintro e w' ⟨rfl, hw⟩; subst hw)
          go_ret
          exact ⟨i, rfl, ⟨fun _ => HF.out, fun _ => by omega⟩, HB2.out⟩
        | false =>
          have hK : decide ((0 : Int) ≤ K) = false := decide_eq_false (fun h => by have := HDG.out.1 h; rw [hd] at this; cases this)
          have HNO2 : Hid (∀ j (h : j < s.size), j < i + 1 → digB s[j] = false) := by
            intro j h hj
            by_cases e : j = i
            · subst e; exact hd
            · exact HNO.out j h (by omega)
          clear hd HDG
          go_wp2_with (go_at_call 69; refine (HR.out _).mono ?_; rintro e w' ⟨rfl, hw⟩; subst hw)
          go_roundw
          case rel => exact ⟨i + 1, by omega, HIT2, HB2, HNO2⟩
          case measure => rw [HPOS.out, HPOS2.out _ _ HIT2.out]; omega
      · have hnx := fun ty => Lib.run_next_any_at (P := Tryz.prog) wr w.heap.size s i ty HIT.out hlt
        obtain ⟨hd1, hd2⟩ := decode_high s i hlt (by omega)
        obtain ⟨hsp1, hsp2⟩ := decode_span s i hlt (by omega)
        have hdl := decode_le s i
        have HSP := Lib.hid hsp2
        generalize Utf8.decode s i = dc at hnx hd1 hd2 hsp1 HSP hdl
        obtain ⟨r, n⟩ := dc
        simp only at hnx hd1 hd2 hsp1 HSP hdl
        have HIT2 := Lib.hid (Lib.iterAt_heap wr w.heap.size s i (i + n) HIT.out)
        have HB2 : Hid (Below w.heap.size w (wr.iterAt w.heap.size s (i + n))) := miter_below HB.out
        have HR := Lib.hid (fun w' => HIR.out (r : Int) (by omega) (by omega) w')
        have HNO2 : Hid (∀ j (h : j < s.size), j < i + n → digB s[j] = false) := by
          intro j h hj
          by_cases e : j < i
          · exact HNO.out j h e
          · obtain ⟨k, rfl⟩ : ∃ k, j = i + k := ⟨j - i, by omega⟩
            have := HSP.out k h (by omega)
            exact decide_eq_false (by omega)
        clear hsp2 hlow
        go_wp2_with (go_at_call 69; refine (HR.out _).mono ?_; rintro e w' ⟨rfl, hb⟩; have HIT3 := Lib.hid ((hb.block w.heap.size (Array.getElem?_eq_some_iff.1 HIT2.out).1).trans HIT2.out); have HB3 : Hid (Below w.heap.size w w') := HB2.out.trans (hb.mono HB2.out.size); clear hb)
        go_roundw
        case rel => exact ⟨i + n, by omega, HIT3, HB3, HNO2⟩
        case measure => rw [HPOS.out, HPOS2.out _ _ HIT3.out]; omega
    · have hnx := fun ty => Lib.run_next_end_at (P := Tryz.prog) wr w.heap.size s i ty HIT.out hlt
      have HF : Hid (¬ R = true) := fun h => by
        obtain ⟨j, hj, hb⟩ := HAL.out.1 h
        have := HNO.out j hj (by omega)
        rw [hb] at this; cases this
      go_wp2_with fail
      go_ret
      exact ⟨-1, rfl, ⟨fun h => absurd h (by decide), fun h => absurd h HF.out⟩, HB.out⟩
set_option maxRecDepth 100000 in
set_option maxHeartbeats 8000000 in
theorem gIA_long (s : ByteArray) (hs : s.size ≤ maxLen) (h8 : 8 < s.size) (w : World) : Calls Tryz.prog 65 #[.string s, .string digits10] w fun e w' => ∃ n : Int, e = .returned (.int .i64 n) ∧ (0 ≤ n ↔ s.data.toList.any digB = true) ∧ Below w.heap.size w w' := by
  unfold maxLen at hs
  have HAL := Lib.hid (many_at s digB)
  generalize s.data.toList.any digB = R at HAL ⊢
  have hz : ∀ w, (zeroValue 106).run Tryz.prog w = .ok (.agg (Array.replicate 256 (.bool false))) w := fun w => by kernel_rfl
  have HM := Lib.hid (fun w' => Tryz.strings_makeASCIISet hz digits10 w' (by decide) (by intro j b hb; have := List.mem_of_getElem? hb; clear hb; revert b; decide))
  have HX : Hid (∀ x : UInt8, (Lib.setCells digits10.data.toList)[x.toNat]? = some (.bool (digB x))) := fun x => by rw [Lib.setCells_at, digits10_has]
  have hcs : (Lib.setCells digits10.data.toList).size = 256 := Lib.setCells_size _
  have HST := Lib.hid (fun w' => run_storeCells_new (P := Tryz.prog) w' 106 (Array.replicate 256 (.bool false)) (Lib.setCells digits10.data.toList) (by rw [hcs]; kernel_rfl) (by rw [hcs, Array.size_replicate]) (Lib.setCells_one _))
  generalize Lib.setCells digits10.data.toList = CS at HM HX hcs HST
  have hemp : digits10.toList.isEmpty = false := mempty_not (by decide)
  have hn1 : ((digits10.size : Int) == 1) = false := rfl
  have HUA := Lib.hid (fun w => Tryz.strings_shouldUseASCIISet s.size w)
  have h8z : decide ((8 : Int) < (s.size : Int)) = true := decide_eq_true (by omega)
  rw [h8z] at HUA
  generalize digits10 = D at *
  clear h8z
  have hsz : (w.alloc (.cells CS 106)).heap.size = w.heap.size + 1 := by simp
  have HB2 : Hid (Below w.heap.size w ((w.alloc (.cells CS 106)).alloc (.cells CS 106))) := ((Below.refl _ w).alloc (Nat.le_refl _) _).alloc (by simp) _
  have HCA : Hid (∀ x : UInt8, ((w.alloc (.cells CS 106)).alloc (.cells CS 106)).cell? ⟨w.heap.size + 1, x.toNat, none⟩ = some (.bool (digB x))) := fun x => by
    have hn := heap_alloc_new (w.alloc (.cells CS 106)) (.cells CS 106)
    rw [hsz] at hn
    exact cellT hn (HX.out x)
  have HCO := Lib.hid (fun (x : UInt8) w' (hc : w'.cell? ⟨w.heap.size + 1, x.toNat, none⟩ = some (.bool (digB x))) => Tryz.asciiSet_contains (w.heap.size + 1) x (digB x) w' hc)
  go_enter Tryz.func65, Tryz.ntmps65
  go_wp2_with (go_at_call 70; refine (HUA.out _).mono ?_; rintro e w' ⟨rfl, hw⟩; obtain rfl : w = w' := hw.symm)
  refine (HM.out _).mono ?_
  rintro e w1 ⟨rfl, rfl⟩
  have hst := HST.out (w.alloc (.cells CS 106))
  rw [hsz] at hst
  clear hsz
  go_upto_region 11 with fail
  clear hst
  generalize hW2 : (w.alloc (.cells CS 106)).alloc (.cells CS 106) = W2 at HB2 HCA ⊢
  clear hW2
  go_wp2_with fail
  go_loopw [8] (fun v wr => ∃ i : Nat, i ≤ s.size ∧ v = .int .i64 (i : Int) ∧ wr = W2 ∧ Hid (∀ j (h : j < s.size), j < i → digB s[j] = false)) (fun v _ => s.size - (intOf v).toNat)
  case atStart => exact ⟨0, Nat.zero_le _, rfl, rfl, fun j h hj => by omega⟩
  case round =>
    obtain ⟨i, his, rfl, hwr, HNO⟩ := hrel
    obtain rfl : W2 = wr := hwr.symm
    by_cases hlt : i < s.size
    · have HC := Lib.hid (HCO.out s[i] W2 (HCA.out s[i]))
      cases hd : digB s[i] with
      | true =>
        have HF : Hid (R = true) := HAL.out.2 ⟨i, hlt, hd⟩
        rw [hd] at HC
        clear hd
        go_wp2_with (go_at_call 72; refine HC.out.mono ?_; rintro e w' ⟨rfl, hw⟩; obtain rfl : W2 = w' := hw.symm)
        go_ret
        exact ⟨i, rfl, ⟨fun _ => HF.out, fun _ => by omega⟩, HB2.out⟩
      | false =>
        have HNO2 : Hid (∀ j (h : j < s.size), j < i + 1 → digB s[j] = false) := by
          intro j h hj
          by_cases e : j = i
          · subst e; exact hd
          · exact HNO.out j h (by omega)
        rw [hd] at HC
        clear hd
        go_wp2_with (go_at_call 72; refine HC.out.mono ?_; rintro e w' ⟨rfl, hw⟩; obtain rfl : W2 = w' := hw.symm)
        go_roundw
        case rel => exact ⟨i + 1, by omega, by go_num, by first | rfl | trivial, HNO2⟩
        case measure => simp [intOf]; omega
    · have HF : Hid (¬ R = true) := fun h => by
        obtain ⟨j, hj, hb⟩ := HAL.out.1 h
        have := HNO.out j hj (by omega)
        rw [hb] at this; cases this
      go_wp2_with fail
      go_ret
      exact ⟨-1, rfl, ⟨fun h => absurd h (by decide), fun h => absurd h HF.out⟩, HB2.out⟩
theorem ghasDigit_any (s : ByteArray) (hs : s.size ≤ maxLen) (w : World) : Calls Tryz.prog 40 #[.string s] w fun e w' => e = .returned (.bool (s.data.toList.any digB)) ∧ Below w.heap.size w w' := by
  have HIA : Hid (∀ w, Calls Tryz.prog 65 #[.string s, .string digits10] w fun e w' => ∃ n : Int, e = .returned (.int .i64 n) ∧ (0 ≤ n ↔ s.data.toList.any digB = true) ∧ Below w.heap.size w w') := by
    intro w
    by_cases h8 : s.size ≤ 8
    · exact gIA_short s h8 w
    · exact gIA_long s hs (by omega) w
  have HCA : Hid (∀ w, Calls Tryz.prog 56 #[.string s, .string digits10] w fun e w' => e = .returned (.bool (s.data.toList.any digB)) ∧ Below w.heap.size w w') := by
    intro w
    generalize s.data.toList.any digB = R at HIA ⊢
    generalize digits10 = D at *
    go_enter Tryz.func56, Tryz.ntmps56
    go_wp2_with fail
    refine (HIA.out _).mono ?_
    rintro e w1 ⟨n, rfl, hn, hb⟩
    have HB := Lib.hid hb
    cases R with
    | true =>
      have hq : decide ((0 : Int) ≤ n) = true := decide_eq_true (hn.2 rfl)
      clear hn hb
      go_wp2_with fail
      go_ret
      exact ⟨by first | rfl | trivial, HB.out⟩
    | false =>
      have hq : decide ((0 : Int) ≤ n) = false := decide_eq_false (fun h => by have := hn.1 h; cases this)
      clear hn hb
      go_wp2_with fail
      go_ret
      exact ⟨by first | rfl | trivial, HB.out⟩
  unfold digits10 at HCA
  generalize s.data.toList.any digB = R at HCA ⊢
  go_enter Tryz.func40, Tryz.ntmps40
  go_wp2_with (go_at_call 56; refine (HCA.out _).mono ?_; rintro e w1 ⟨rfl, hb⟩; have HB := Lib.hid hb; clear hb)
  go_ret
  exact ⟨by first | rfl | trivial, HB.out⟩
end Go.Proofs.YtdolpehcfifecaaGreatDoor
