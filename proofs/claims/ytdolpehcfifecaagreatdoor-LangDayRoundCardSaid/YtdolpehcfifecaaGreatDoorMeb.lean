/- lang.fields: what it returns for every pattern. No conditions but sizes. · Days by a pattern: the plain part of dayIn. No program. -/
import Derived.Test.YtdolpehcfifecaaGreatDoorMea
import Derived.Test.YtdolpehcfifecaaGreatDoorMgW
import Derived.Test.YtdolpehcfifecaaGreatDoorCalX
set_option linter.unusedVariables false
namespace Mh
open Go Go.RowKit
theorem dsize_zero {s : ByteArray} (h : s.size = 0) : s = ⟨#[]⟩ := by
  cases s with | mk a => cases a with | mk l => cases l with
    | nil => rfl
    | cons x l => simp [ByteArray.size] at h
theorem dnine_later {w w' : World} {g : Nat} {T : TypeId} {a b c d e f g' h i : Value} (hb : Below w.heap.size w w') (hg : g < w.heap.size) (H : w.heap[g]? = some (.cells #[a, b, c, d, e, f, g', h, i] T (0, 0))) :
    w'.cell? ⟨g, 5, none⟩ = some f ∧ w'.cell? ⟨g, 6, none⟩ = some g' :=
  have H' := (hb.block g hg).trans H
  ⟨cellT H' rfl, cellT H' rfl⟩
theorem dMN_ne : wMN ≠ wWN := by decide
def dstr : Value → Nat
  | .int _ n => n.toNat
  | _ => 0
end Mh
namespace Go.Proofs.YtdolpehcfifecaaGreatDoor
open Go.RowKit Mh
theorem dempty_at {s : ByteArray} (h : s.size = 0) : s.toList.isEmpty = true := by
  refine mempty_at ?_
  have : s.data.toList.length = 0 := by simpa using h
  exact List.eq_nil_of_length_eq_zero this
theorem dempty_not {s : ByteArray} (h : s.size ≠ 0) : s.toList.isEmpty = false := by
  refine mempty_not fun e => h ?_
  have : s.data.toList.length = s.size := by simp
  rw [e] at this; simpa using this.symm
theorem dw_is {s t : ByteArray} {l : List UInt8} (ht : t.data.toList = l) (h : s = t) : (s.toList == l) = true := mlist_at (by rw [h, ht])
theorem dw_not {s t : ByteArray} {l : List UInt8} (ht : t.data.toList = l) (h : s ≠ t) : (s.toList == l) = false := mlist_not fun e => h (ByteArray.ext (Array.toList_inj.1 (by rw [e, ht])))
theorem infoField : (Tryz.prog.info? 47).map (fun i => (i.zero, i.size, i.bytes)) = some (some (.agg #[.string ⟨#[]⟩, .int .u8 0]), 2, 24) := by kernel_rfl
/-- What fields returns. -/
def FdP (R : Option (List Df)) (w : World) (e : Ending) (w' : World) : Prop :=
  Below w.heap.size w w' ∧ ((∃ fs v, R = some fs ∧ e = .returned (.tuple #[v, .int .i64 0]) ∧ FdAt w' v fs) ∨ (R = none ∧ ∃ n : Int, n ≠ 0 ∧ e = .returned (.tuple #[.slice none 0 0, .int .i64 n])))
theorem FdP.no {R : Option (List Df)} {w w' : World} {n : Int} (hr : R = none) (hn : n ≠ 0) (hb : Below w.heap.size w w') : FdP R w (.returned (.tuple #[.slice none 0 0, .int .i64 n])) w' := ⟨hb, .inr ⟨hr, n, hn, rfl⟩⟩
theorem FdP.yes {R : Option (List Df)} {w w' : World} {v : Value} {fs : List Df} (hr : R = some fs) (h : FdAt w' v fs) (hb : Below w.heap.size w w') : FdP R w (.returned (.tuple #[v, .int .i64 0])) w' := ⟨hb, .inl ⟨fs, v, hr, rfl, h⟩⟩
set_option maxRecDepth 100000 in
set_option maxHeartbeats 8000000 in
theorem gfields_any (nm pr gp pt : ByteArray) (fa ma da la ea : Option Addr) (fl m d ll el fc mc dc lc ec : Nat) (p : ByteArray) (hp : p.size ≤ maxLen) (w : World) :
    Calls Tryz.prog 10 #[.agg #[.string nm, .string pr, .slice fa fl fc, .string gp, .string pt, .slice ma m mc, .slice da d dc, .slice la ll lc, .slice ea el ec], .string p] w (FdP (fieldsF (decide (m = 0)) (decide (d = 0)) p) w) := by
  unfold maxLen at hp
  obtain ⟨W0, hW0⟩ : ∃ W0, W0 = w.alloc (.cells #[.string nm, .string pr, .slice fa fl fc, .string gp, .string pt, .slice ma m mc, .slice da d dc, .slice la ll lc, .slice ea el ec] 28) := ⟨_, rfl⟩
  have HW0 : Hid (W0.heap[w.heap.size]? = some (.cells #[.string nm, .string pr, .slice fa fl fc, .string gp, .string pt, .slice ma m mc, .slice da d dc, .slice la ll lc, .slice ea el ec] 28 (0, 0))) := by rw [hW0]; exact heap_alloc_new _ _
  have HB0 : Hid (Below w.heap.size w W0) := by rw [hW0]; exact below_alloc' _ _
  have hwl : w.heap.size < W0.heap.size := by rw [hW0]; simp
  have HX : Hid (∀ w', Below W0.heap.size W0 w' → Below w.heap.size w w') := fun w' hb => HB0.out.trans (hb.mono HB0.out.size)
  by_cases h40 : 40 < p.size
  · have q1 : decide ((40 : Int) < (p.size : Int)) = true := decide_eq_true (by omega)
    have HNO : Hid (fieldsF (decide (m = 0)) (decide (d = 0)) p = none) := by show _ = _; unfold fieldsF; rw [if_pos h40]
    generalize fieldsF _ _ p = R0 at HNO ⊢
    rw [hW0] at HB0
    go_enter Tryz.func10, Tryz.ntmps10
    go_wp2_with fail
    go_ret2
    exact FdP.no HNO.out (by decide) HB0.out
  have q1 : decide ((40 : Int) < (p.size : Int)) = false := decide_eq_false (by omega)
  obtain ⟨R, hR⟩ : ∃ R, fieldsL p.size p.data.toList = R := ⟨_, rfl⟩
  have HRF : Hid (∀ out, R = some out → fieldsF (decide (m = 0)) (decide (d = 0)) p = if out.any (lacksB (decide (m = 0)) (decide (d = 0))) = true then none else some out) := fun out h => by
    unfold fieldsF; rw [if_neg h40, hR, h]
  have HRN : Hid (R = none → fieldsF (decide (m = 0)) (decide (d = 0)) p = none) := fun h => by
    unfold fieldsF; rw [if_neg h40, hR, h]
  have HR0 : Hid (R = (fieldsL p.size (p.data.toList.drop 0)).map (([] : List Df) ++ ·)) := by
    show _ = _
    rw [List.drop_zero, hR]; cases R <;> rfl
  have hp40 : p.size ≤ 40 := by omega
  have H0 : Hid (FdIn 47 W0 W0 [] (.slice none 0 0)) := ⟨World.ownsRow_nil _ _ _ _, Below.refl _ _⟩
  have HPX := Lib.hid (fun (i k : Nat) (hk : k < words7.length) w' => by have h := Tryz.strings_HasPrefix (p.extract i p.size) words7[k] w'; rw [ext_list] at h; exact h)
  have HPZ : Hid (∀ i, (p.extract i p.size).size = p.size - i) := fun i => by rw [ByteArray.size_extract]; omega
  generalize fieldsF _ _ p = R0 at HRF HRN ⊢
  obtain ⟨ti, hti, ht0, ht1, ht2⟩ := info_parts infoField
  clear h40 hR
  go_enter Tryz.func10, Tryz.ntmps10
  go_wp2_with fail
  go_loopw [6, 7] (fun v6 v7 wr => ∃ (out : List Df) (i n : Nat), v7 = .int .i64 (i : Int) ∧ Hid (FdIn 47 W0 wr out v6) ∧ Hid (R = (fieldsL n (p.data.toList.drop i)).map (out ++ ·)) ∧ i ≤ p.size ∧ p.size ≤ n + i ∧ out.length ≤ i) (fun _ v7 _ => p.size - dstr v7)
  case atStart => exact ⟨[], 0, p.size, rfl, by rw [← hW0]; exact H0, HR0, by omega, by omega, by simp⟩
  case round =>
    obtain ⟨out, i, n, rfl, HI, HR, hip, hpn, hol⟩ := hrel
    clear H0 HR0 hW0
    obtain ⟨va, vc, rfl⟩ := ownsRow_form HI.out.own
    by_cases hlt : i < p.size
    · have q2 : decide ((i : Int) < (p.size : Int)) = true := decide_eq_true (by omega)
      obtain ⟨wo, rfl⟩ : ∃ wo : World, wo = wr := ⟨_, rfl⟩
      have HC7 : Hid (∀ k (hk : k < words7.length), (wo.alloc (.cells (words7.map Value.string).toArray 9)).cell? ⟨wo.heap.size, k, none⟩ = some (.string words7[k])) := fun k hk => cellT (heap_alloc_new _ _) (by simp [hk])
      have HI7 := Lib.hid (HI.out.next (below_alloc' wo (.cells (words7.map Value.string).toArray 9)))
      have hcs : (words7.map Value.string).toArray = #[.string ⟨#[121, 121, 121, 121]⟩, .string ⟨#[77, 77, 77, 77]⟩, .string ⟨#[87, 87, 87, 87]⟩, .string ⟨#[109, 109]⟩, .string ⟨#[100, 100]⟩, .string ⟨#[109]⟩, .string ⟨#[100]⟩] := rfl
      rw [hcs] at HC7 HI7
      clear hcs
      obtain ⟨G, hG⟩ : ∃ G, wo.heap.size = G := ⟨_, rfl⟩
      rw [hG] at HC7
      go_wp2_with fail
      generalize World.alloc wo _ = W7 at HC7 HI7 ⊢
      clear hG
      have HW7 : Hid (words7.length = 7) := rfl
      have HWS := Lib.hid (fun k hk => wordK_step (p.data.toList.drop i) k hk)
      have HWM := Lib.hid (wordK_mem (p.data.toList.drop i))
      have HWA := Lib.hid (wordK_all (p.data.toList.drop i))
      obtain ⟨F, hF⟩ : ∃ F : Nat → ByteArray, F = wordK (p.data.toList.drop i) := ⟨_, rfl⟩
      rw [← hF] at HWS HWM HWA
      have HF0 : Hid (F 0 = ⟨#[]⟩) := by show _ = _; rw [hF]; rfl
      clear hF
      go_loopw [8, 23] (fun v8 v23 wx => ∃ k : Nat, k ≤ 7 ∧ v8 = .string (F k) ∧ v23 = .int .i64 (k : Int) ∧ W7 = wx) (fun _ v23 _ => 7 - dstr v23)
      case atStart => exact ⟨0, by omega, by rw [HF0.out], rfl, rfl⟩
      case round =>
        obtain ⟨k, hk7, rfl, rfl, hww⟩ := hrel
        obtain rfl : W7 = wr := hww
        by_cases hk : k < 7
        · have q3 : decide ((k : Int) < 7) = true := decide_eq_true (by omega)
          have hkw : k < words7.length := by rw [HW7.out]; exact hk
          have hc := HC7.out k hkw
          have HST := Lib.hid (HWS.out k hkw)
          have HP := Lib.hid (HPX.out i k hkw)
          generalize words7[k] = x at hc HST HP
          clear hkw
          generalize Lib.hasPrefix _ x.data.toList = B at HP HST
          by_cases hz : (F k).size = 0
          · have q4 : (F k).toList.isEmpty = true := dempty_at hz
            cases B with
            | true =>
              have HS2 : Hid (F (k + 1) = x) := by show _ = _; rw [HST.out, if_pos hz]; rfl
              clear hz
              go_wp2_with (go_at_call 24; refine (HP.out _).mono ?_; rintro e w' ⟨rfl, hw⟩; obtain rfl : W7 = w' := hw.symm)
              go_roundw
              case rel => exact ⟨k + 1, by omega, by rw [HS2.out], by go_num, by first | rfl | trivial⟩
              case measure => simp [dstr]; omega
            | false =>
              have HS2 : Hid (F (k + 1) = F k) := by show _ = _; rw [HST.out, if_pos hz, dsize_zero hz]; rfl
              clear hz
              go_wp2_with (go_at_call 24; refine (HP.out _).mono ?_; rintro e w' ⟨rfl, hw⟩; obtain rfl : W7 = w' := hw.symm)
              go_roundw
              case rel => exact ⟨k + 1, by omega, by rw [HS2.out], by go_num, by first | rfl | trivial⟩
              case measure => simp [dstr]; omega
          · have q4 : (F k).toList.isEmpty = false := dempty_not hz
            have HS2 : Hid (F (k + 1) = F k) := by show _ = _; rw [HST.out, if_neg hz]
            clear hz HP
            go_wp2_with fail
            go_roundw
            case rel => exact ⟨k + 1, by omega, by rw [HS2.out], by go_num, by first | rfl | trivial⟩
            case measure => simp [dstr]; omega
        · obtain rfl : k = 7 := by omega
          have q3 : decide (((7 : Nat) : Int) < 7) = false := by decide
          have q3' : decide ((7 : Int) < 7) = false := by decide
          obtain ⟨n, rfl⟩ : ∃ n', n = n' + 1 := ⟨n - 1, by omega⟩
          have HFW := Lib.hid (fun h => fieldsL_word (n := n) hlt h)
          have HFL := Lib.hid (fun h => fieldsL_letter (n := n) hlt h)
          have HFB := Lib.hid (fun h => fieldsL_byte (n := n) hlt h)
          have HFE := Lib.hid (fun h h2 => fieldsL_esc (n := n) (i := i) (p := p) h h2)
          have HFZ := Lib.hid (fun h h2 => fieldsL_escEnd (n := n) (i := i) (p := p) hlt h h2)
          obtain ⟨hfit, hx4⟩ := wordOf_fit (p := p) (i := i) (by omega)
          rw [HWA.out]
          clear HWS HWM HWA HF0 HC7 hk
          generalize hX : wordOfL (p.data.toList.drop i) = X at *
          clear hX
          have HLT := Lib.hid (fun w' => mletter_any p[i] w')
          by_cases hx : X.size = 0
          · have q4 : X.toList.isEmpty = true := dempty_at hx
            have hx0 := dsize_zero hx
            cases hl : mletB p[i] with
            | true =>
              have HN : Hid (R0 = none) := HRN.out (by rw [HR.out, HFL.out hx hl]; rfl)
              rw [hl] at HLT
              have HBB := Lib.hid (HX.out _ HI7.out.below)
              clear hx hl HFW HFL HFB HFE HFZ HR hx0
              go_wp2_with (go_at_call 25; refine (HLT.out _).mono ?_; rintro e w' ⟨rfl, rfl⟩)
              go_ret2
              exact FdP.no HN.out (by decide) HBB.out
            | false =>
              rw [hl] at HLT
              by_cases h92 : p[i].toNat = 92
              · have q5 : ((p[i].toNat : Int) == 92) = true := by rw [beq_iff_eq]; omega
                by_cases h1 : i + 1 < p.size
                · have q6 : ((i : Int) + 1 == (p.size : Int)) = false := by rw [beq_eq_false_iff_ne]; omega
                  have HR2 : Hid (R = (fieldsL n (p.data.toList.drop (i + 1 + 1))).map ((out ++ [(⟨⟨#[]⟩, p[i + 1]⟩ : Df)]) ++ ·)) := by
                    show _ = _
                    rw [HR.out, HFE.out h1 hx hl h92, Option.map_map]
                    congr 1; funext l; simp
                  have hwr1 : IntKind.i64.wrap ((i : Int) + 1) = ((i + 1 : Nat) : Int) := by rw [IntWalk.i64_in _ (by omega)]; omega
                  have q6' : (((i + 1 : Nat) : Int) == (p.size : Int)) = false := by rw [beq_eq_false_iff_ne]; omega
                  obtain ⟨c, hc⟩ : ∃ c, p[i + 1] = c := ⟨_, rfl⟩
                  have hcn : p[i + 1].toNat = c.toNat := by rw [hc]
                  rw [hc] at HR2
                  have HROW := Lib.hid (HI7.out.next (below_alloc' W7 (.cells #[(.string ⟨#[]⟩), (.int .u8 (c.toNat : Int))] 47)))
                  have HNEW := Lib.hid (mSl_lit W7 [(.string ⟨#[]⟩), (.int .u8 (c.toNat : Int))] 47 2 rfl)
                  have HZ2 : Hid (W0.heap.size ≤ (W7.alloc (.cells #[(.string ⟨#[]⟩), (.int .u8 (c.toNat : Int))] 47)).heap.size) := HROW.out.below.size
                  clear hx hl h92 HFW HFL HFB HFE HFZ HR hx0
                  obtain ⟨j, hj⟩ : ∃ j, j = i + 1 := ⟨_, rfl⟩
                  rw [← hj] at hwr1 q6' HR2 h1
                  go_wp2_with (first | (go_at_call 25; refine (HLT.out _).mono ?_; rintro e w' ⟨rfl, rfl⟩) | (at_builtin; refine wpList_append_sl _ rfl _ _ 42 rfl W0.heap.size 47 ti (.agg #[.string ⟨#[]⟩, .int .u8 0]) 2 24 Tryz.underlying42 hti ht0 ht1 ht2 rfl (by decide) (.slice va out.length vc) out.length (rowsD out) rfl HROW.out.own _ 1 _ rfl HNEW.out (by simp [Value.oneCell']) (by unfold maxLen; omega) (by omega) HZ2.out ?_; intro v3 w3 hown3 hgr3 hat3; obtain ⟨ra, rc, rfl⟩ := ownsRow_form hown3; have HFD := Lib.hid (HROW.out.push (x := ⟨⟨#[]⟩, c⟩) hown3 hgr3); clear hown3 hgr3 hat3))
                  go_roundw
                  case rel => exact ⟨_, j + 1, n, by go_num, HFD, HR2, by omega, by omega, by rw [List.length_append, List.length_singleton]; omega⟩
                  case measure => simp [dstr]; omega
                · have q6 : (((i + 1 : Nat) : Int) == (p.size : Int)) = true := by rw [beq_iff_eq]; omega
                  have q6' : ((i : Int) + 1 == (p.size : Int)) = true := by rw [beq_iff_eq]; omega
                  have HN : Hid (R0 = none) := HRN.out (by rw [HR.out, HFZ.out h1 hx hl h92]; rfl)
                  have HBB := Lib.hid (HX.out _ HI7.out.below)
                  clear hx hl h92 HFW HFL HFB HFE HFZ HR hx0 h1
                  go_wp2_with (go_at_call 25; refine (HLT.out _).mono ?_; rintro e w' ⟨rfl, rfl⟩)
                  go_ret2
                  exact FdP.no HN.out (by decide) HBB.out
              · have q5 : ((p[i].toNat : Int) == 92) = false := by rw [beq_eq_false_iff_ne]; omega
                have HR2 : Hid (R = (fieldsL n (p.data.toList.drop (i + 1))).map ((out ++ [(⟨⟨#[]⟩, p[i]⟩ : Df)]) ++ ·)) := by
                  show _ = _
                  rw [HR.out, HFB.out hx hl h92, Option.map_map]
                  congr 1; funext l; simp
                have HROW := Lib.hid (HI7.out.next (below_alloc' W7 (.cells #[(.string ⟨#[]⟩), (.int .u8 (p[i].toNat : Int))] 47)))
                have HNEW := Lib.hid (mSl_lit W7 [(.string ⟨#[]⟩), (.int .u8 (p[i].toNat : Int))] 47 2 rfl)
                have HZ2 : Hid (W0.heap.size ≤ (W7.alloc (.cells #[(.string ⟨#[]⟩), (.int .u8 (p[i].toNat : Int))] 47)).heap.size) := HROW.out.below.size
                clear hx hl h92 HFW HFL HFB HFE HFZ HR hx0
                go_wp2_with (first | (go_at_call 25; refine (HLT.out _).mono ?_; rintro e w' ⟨rfl, rfl⟩) | (at_builtin; refine wpList_append_sl _ rfl _ _ 42 rfl W0.heap.size 47 ti (.agg #[.string ⟨#[]⟩, .int .u8 0]) 2 24 Tryz.underlying42 hti ht0 ht1 ht2 rfl (by decide) (.slice va out.length vc) out.length (rowsD out) rfl HROW.out.own _ 1 _ rfl HNEW.out (by simp [Value.oneCell']) (by unfold maxLen; omega) (by omega) HZ2.out ?_; intro v3 w3 hown3 hgr3 hat3; obtain ⟨ra, rc, rfl⟩ := ownsRow_form hown3; have HFD := Lib.hid (HROW.out.push (x := ⟨⟨#[]⟩, p[i]⟩) hown3 hgr3); clear hown3 hgr3 hat3))
                go_roundw
                case rel => exact ⟨_, i + 1, n, by go_num, HFD, HR2, by omega, by omega, by rw [List.length_append, List.length_singleton]; omega⟩
                case measure => simp [dstr]; omega
          · have q4 : X.toList.isEmpty = false := dempty_not hx
            have HR2 : Hid (R = (fieldsL n (p.data.toList.drop (i + X.size))).map ((out ++ [(⟨X, 0⟩ : Df)]) ++ ·)) := by
              show _ = _
              rw [HR.out, HFW.out hx, Option.map_map]
              congr 1; funext l; simp
            have hpos : 1 ≤ X.size := by omega
            have HROW := Lib.hid (HI7.out.next (below_alloc' W7 (.cells #[.string X, .int .u8 0] 47)))
            have HNEW := Lib.hid (mSl_lit W7 [.string X, .int .u8 0] 47 2 rfl)
            have HZ2 : Hid (W0.heap.size ≤ (W7.alloc (.cells #[.string X, .int .u8 0] 47)).heap.size) := HROW.out.below.size
            clear hx HFW HFL HFB HFE HFZ HR
            go_wp2_with (at_builtin; refine wpList_append_sl _ rfl _ _ 42 rfl W0.heap.size 47 ti (.agg #[.string ⟨#[]⟩, .int .u8 0]) 2 24 Tryz.underlying42 hti ht0 ht1 ht2 rfl (by decide) (.slice va out.length vc) out.length (rowsD out) rfl HROW.out.own _ 1 _ rfl HNEW.out (by simp [Value.oneCell']) (by unfold maxLen; omega) (by omega) HZ2.out ?_; intro v3 w3 hown3 hgr3 hat3; obtain ⟨ra, rc, rfl⟩ := ownsRow_form hown3; have HFD := Lib.hid (HROW.out.push (x := ⟨X, 0⟩) hown3 hgr3); clear hown3 hgr3 hat3)
            go_roundw
            case rel => exact ⟨_, i + X.size, n, by go_num, HFD, HR2, by omega, by omega, by rw [List.length_append, List.length_singleton]; omega⟩
            case measure => simp [dstr]; omega
    · have q2 : decide ((i : Int) < (p.size : Int)) = false := decide_eq_false (by omega)
      have q2N : decide (i < p.size) = false := decide_eq_false hlt
      have HRO : Hid (R = some out) := by show _ = _; rw [HR.out, fieldsL_end n p i hlt]; simp
      have HRF2 := Lib.hid (HRF.out out HRO.out)
      have HMA := Lib.hid (fun k (hk : k < out.length) => (show (∀ j (hj : j < out.length), j < k → lacksB (decide (m = 0)) (decide (d = 0)) out[j] = false) → lacksB (decide (m = 0)) (decide (d = 0)) out[k] = true → R0 = none from fun _ h => by
        rw [HRF2.out, if_pos (List.any_eq_true.2 ⟨out[k], List.getElem_mem hk, h⟩)]))
      have HME : Hid ((∀ j (hj : j < out.length), lacksB (decide (m = 0)) (decide (d = 0)) out[j] = false) → R0 = some out) := fun h => by
        rw [HRF2.out, if_neg]
        intro h2
        obtain ⟨f, hf, h3⟩ := List.any_eq_true.1 h2
        obtain ⟨j, hj, rfl⟩ := List.getElem_of_mem hf
        rw [h j hj] at h3; cases h3
      obtain ⟨wo, rfl⟩ : ∃ wo : World, wo = wr := ⟨_, rfl⟩
      have HAT : Hid (FdAt wo (.slice va out.length vc) out) := HI.out.at_
      have HGET : Hid (∀ k (hk : k < out.length), ∃ b off, va = some ⟨b, off, none⟩ ∧ b < wo.heap.size ∧ (wo.cell? ⟨b, off + k * 2, none⟩ = some (.string out[k].w) ∧ wo.cell? ⟨b, off + k * 2 + 1, none⟩ = some (.int .u8 (out[k].c.toNat : Int)))) := fun k hk => by
        obtain ⟨ao, c, e, _, hx⟩ := HAT.out.open
        obtain ⟨b, off, h1, _, _, h2, h3⟩ := hx k hk
        cases e
        exact ⟨b, off, h1, h2, h3⟩
      have HBO := Lib.hid HI.out.below
      have hol40 : out.length ≤ 40 := by omega
      clear HRF HRF2 HR HI HRO HRN hlt
      go_wp2_with fail
      go_loopw [77] (fun v wx => ∃ k : Nat, k ≤ out.length ∧ v = .int .i64 (k : Int) ∧ Hid (∀ j (hj : j < out.length), j < k → lacksB (decide (m = 0)) (decide (d = 0)) out[j] = false) ∧ Hid (Below wo.heap.size wo wx)) (fun v _ => out.length - dstr v)
      case atStart => exact ⟨0, Nat.zero_le _, rfl, fun j hj h => by omega, Below.refl _ _⟩
      case round =>
        obtain ⟨k, hk, rfl, HO, HB⟩ := hrel
        by_cases hkl : k < out.length
        · have q3 : decide ((k : Int) < (out.length : Int)) = true := decide_eq_true (by omega)
          have q3N : decide (k < out.length) = true := decide_eq_true hkl
          obtain ⟨ww, rfl⟩ : ∃ ww : World, ww = wr := ⟨_, rfl⟩
          obtain ⟨b, off, rfl, hblt, hc⟩ := HGET.out k hkl
          obtain ⟨d0, d1⟩ := dtwo_later HB.out hblt hc
          have HNX : Hid (lacksB (decide (m = 0)) (decide (d = 0)) out[k] = false → ∀ j (hj : j < out.length), j < k + 1 → lacksB (decide (m = 0)) (decide (d = 0)) out[j] = false) := fun h j hj hjk => by
            by_cases e : j = k
            · subst e; exact h
            · exact HO.out j hj (by omega)
          have HYE : Hid (lacksB (decide (m = 0)) (decide (d = 0)) out[k] = true → R0 = none) := HMA.out k hkl HO.out
          generalize out[k] = f at d0 d1 HNX HYE
          obtain ⟨x, c⟩ := f
          simp only at d0 d1
          have HBW : Hid (Below wo.heap.size wo (ww.alloc (.cells #[.string x, .int .u8 (c.toNat : Int)] 47))) := HB.out.trans ((below_alloc' _ _).mono HB.out.size)
          have HX1 : Hid ((ww.alloc (.cells #[.string x, .int .u8 (c.toNat : Int)] 47)).heap[ww.heap.size]? = some (.cells #[.string x, .int .u8 (c.toNat : Int)] 47 (0, 0))) := heap_alloc_new _ _
          obtain ⟨e0, e1⟩ := dpair_of_block HX1.out
          obtain ⟨l5, l6⟩ := dnine_later (HBO.out.trans (HBW.out.mono HBO.out.size)) hwl HW0.out
          have HBZ := Lib.hid (HX.out _ (HBO.out.trans (HBW.out.mono HBO.out.size)))
          clear hc
          by_cases hM : x = wMN
          · have q4 : (x.toList == [77, 77, 77, 77]) = true := dw_is (t := wMN) rfl hM
            have q5 : (x.toList == [87, 87, 87, 87]) = false := dw_not (t := wWN) rfl (by rw [hM]; decide)
            by_cases hm0 : m = 0
            · have q6 : ((m : Int) == 0) = true := by rw [beq_iff_eq]; omega
              have HN : Hid (R0 = none) := HYE.out (by unfold lacksB; simp [hM, hm0])
              clear hM hm0
              go_wp2_with fail
              go_ret2
              exact FdP.no HN.out (by decide) HBZ.out
            · have q6 : ((m : Int) == 0) = false := by rw [beq_eq_false_iff_ne]; omega
              have HN := Lib.hid (HNX.out (by unfold lacksB; simp [hM, hm0, dMN_ne]))
              clear hM hm0
              go_wp2_with fail
              go_roundw
              case rel => exact ⟨k + 1, by omega, by go_num, HN, HBW⟩
              case measure => simp [dstr]; omega
          · have q4 : (x.toList == [77, 77, 77, 77]) = false := dw_not (t := wMN) rfl hM
            by_cases hW : x = wWN
            · have q5 : (x.toList == [87, 87, 87, 87]) = true := dw_is (t := wWN) rfl hW
              by_cases hd0 : d = 0
              · have q6 : ((d : Int) == 0) = true := by rw [beq_iff_eq]; omega
                have HN : Hid (R0 = none) := HYE.out (by unfold lacksB; simp [hW, hd0])
                clear hM hd0 hW
                go_wp2_with fail
                go_ret2
                exact FdP.no HN.out (by decide) HBZ.out
              · have q6 : ((d : Int) == 0) = false := by rw [beq_eq_false_iff_ne]; omega
                have HN := Lib.hid (HNX.out (by unfold lacksB; simp [hW, hd0, dMN_ne.symm]))
                clear hM hd0 hW
                go_wp2_with fail
                go_roundw
                case rel => exact ⟨k + 1, by omega, by go_num, HN, HBW⟩
                case measure => simp [dstr]; omega
            · have q5 : (x.toList == [87, 87, 87, 87]) = false := dw_not (t := wWN) rfl hW
              have HN := Lib.hid (HNX.out (by unfold lacksB; simp [hM, hW]))
              clear hM hW
              go_wp2_with fail
              go_roundw
              case rel => exact ⟨k + 1, by omega, by go_num, HN, HBW⟩
              case measure => simp [dstr]; omega
        · obtain rfl : k = out.length := by omega
          have q3 : decide ((out.length : Int) < (out.length : Int)) = false := decide_eq_false (by omega)
          have HE := Lib.hid (HME.out fun j hj => HO.out j hj hj)
          have HF := Lib.hid ((HAT.out).keep HB.out)
          have HBZ := Lib.hid (HX.out _ (HBO.out.trans (HB.out.mono HBO.out.size)))
          go_wp2_with fail
          go_ret2
          exact FdP.yes HE.out HF.out HBZ.out
end Go.Proofs.YtdolpehcfifecaaGreatDoor
namespace Mh
open Go Go.RowKit Mh.Cal
set_option linter.unusedVariables false
theorem cum_mono (y : Int) (m : Nat) (hm : 1 ≤ m) (k : Nat) : cum y m ≤ cum y (m + k) := by
  induction k with
  | zero => exact Int.le_refl _
  | succ k ih => rw [← Nat.add_assoc, cum_succ y (m + k) (by omega)]; have := md_bd y ((m + k : Nat) : Int); omega
theorem ymd_unique {n y y' d d' : Int} {m m' : Nat} (h : Ymd n y m d) (h' : Ymd n y' m' d') : y = y' ∧ m = m' ∧ d = d' := by
  have key : ∀ {y y' d d' : Int} {m m' : Nat}, Ymd n y m d → Ymd n y' m' d' → ¬ y < y' := by
    intro y y' d d' m m' h h' hlt
    have h1 := bef_mono (y + 1) y' (by omega)
    rw [bef_succ] at h1
    have h2 := cum_mono y (m + 1) (by omega) (12 - m)
    have e : m + 1 + (12 - m) = 13 := by have := h.m1; omega
    rw [e, cum_13, cum_succ y m h.m0] at h2
    have := (cum_bd y' m').1
    have := h.eq; have := h'.eq; have := h.d1; have := h'.d0
    omega
  have hy : y = y' := by have := key h h'; have := key h' h; omega
  subst hy
  have keym : ∀ {d d' : Int} {m m' : Nat}, Ymd n y m d → Ymd n y m' d' → ¬ m < m' := by
    intro d d' m m' h h' hlt
    have h2 := cum_mono y (m + 1) (by omega) (m' - (m + 1))
    have e : m + 1 + (m' - (m + 1)) = m' := by omega
    rw [e, cum_succ y m h.m0] at h2
    have := h.eq; have := h'.eq; have := h.d1; have := h'.d0
    omega
  have hm : m = m' := by have := keym h h'; have := keym h' h; omega
  subst hm
  refine ⟨rfl, rfl, ?_⟩
  have := h.eq; have := h'.eq; omega
theorem fieldsL_len : ∀ (n : Nat) (l : List UInt8) (fs : List Df), fieldsL n l = some fs → fs.length ≤ n := by
  intro n
  induction n with
  | zero =>
    intro l fs h
    cases l with
    | nil => simp only [fieldsL, Option.some.injEq] at h; subst h; simp
    | cons c r => simp only [fieldsL] at h; cases h
  | succ n ih =>
    intro l fs h
    cases l with
    | nil => simp only [fieldsL, Option.some.injEq] at h; subst h; simp
    | cons c r =>
      unfold fieldsL at h
      split at h
      · obtain ⟨gs, hg, rfl⟩ := Option.map_eq_some_iff.1 h
        have := ih _ _ hg; simp; omega
      · split at h
        · cases h
        · split at h
          · split at h
            · cases h
            · obtain ⟨gs, hg, rfl⟩ := Option.map_eq_some_iff.1 h
              have := ih _ _ hg; simp; omega
          · obtain ⟨gs, hg, rfl⟩ := Option.map_eq_some_iff.1 h
            have := ih _ _ hg; simp; omega
/-- What a pattern's fields are like. -/
theorem fieldsF_some {mo da : Bool} {p : ByteArray} {fs : List Df} (h : fieldsF mo da p = some fs) : fs.length ≤ 40 ∧ (∀ f ∈ fs, f.w = ⟨#[]⟩ ∨ f.w ∈ words7) ∧ ∀ f ∈ fs, (f.w = wMN → mo = false) ∧ (f.w = wWN → da = false) := by
  unfold fieldsF at h
  split at h
  · cases h
  · split at h
    · cases h
    · rename_i gs hg
      split at h
      · cases h
      · rename_i ha
        simp only [Option.some.injEq] at h
        subst h
        refine ⟨by have := fieldsL_len _ _ _ hg; omega, fieldsL_words _ _ _ hg, fun f hf => ?_⟩
        have hl : lacksB mo da f = false := by
          cases hb : lacksB mo da f with
          | false => rfl
          | true => exact absurd (List.any_eq_true.2 ⟨f, hf, hb⟩) ha
        unfold lacksB at hl
        simp only [Bool.or_eq_false_iff, Bool.and_eq_false_iff, decide_eq_false_iff_not] at hl
        refine ⟨fun e => ?_, fun e => ?_⟩
        · rcases hl.1 with h1 | h1
          · exact absurd e h1
          · exact h1
        · rcases hl.2 with h1 | h1
          · exact absurd e h1
          · exact h1
theorem fieldTx_Y {ms ds : List ByteArray} {Y M D W : Nat} {f : Df} (h : f.w = wY) : fieldTx ms ds Y M D W f = padL Y 4 := by unfold fieldTx; rw [if_pos h]
theorem fieldTx_M {ms ds : List ByteArray} {Y M D W : Nat} {f : Df} (h : f.w = wM2 ∨ f.w = wM1) : fieldTx ms ds Y M D W f = padL M f.w.size := by
  unfold fieldTx; rw [if_neg (by rcases h with h | h <;> rw [h] <;> decide), if_pos h]
theorem fieldTx_D {ms ds : List ByteArray} {Y M D W : Nat} {f : Df} (h : f.w = wD2 ∨ f.w = wD1) : fieldTx ms ds Y M D W f = padL D f.w.size := by
  unfold fieldTx; rw [if_neg (by rcases h with h | h <;> rw [h] <;> decide), if_neg (by rcases h with h | h <;> rw [h] <;> decide), if_pos h]
theorem fieldTx_MN {ms ds : List ByteArray} {Y M D W : Nat} {f : Df} (h : f.w = wMN) : fieldTx ms ds Y M D W f = (ms.getD (M - 1) ⟨#[]⟩).data.toList := by
  unfold fieldTx; rw [if_neg (by rw [h]; decide), if_neg (by rw [h]; decide), if_neg (by rw [h]; decide), if_pos h]
theorem fieldTx_WN {ms ds : List ByteArray} {Y M D W : Nat} {f : Df} (h : f.w = wWN) : fieldTx ms ds Y M D W f = (ds.getD W ⟨#[]⟩).data.toList := by
  unfold fieldTx; rw [if_neg (by rw [h]; decide), if_neg (by rw [h]; decide), if_neg (by rw [h]; decide), if_neg (by rw [h]; decide), if_pos h]
theorem fieldTx_B {ms ds : List ByteArray} {Y M D W : Nat} {f : Df} (h : f.w = ⟨#[]⟩) : fieldTx ms ds Y M D W f = [f.c] := by
  unfold fieldTx; rw [if_neg (by rw [h]; decide), if_neg (by rw [h]; decide), if_neg (by rw [h]; decide), if_neg (by rw [h]; decide), if_neg (by rw [h]; decide)]
theorem pad_bound (n w : Nat) (hn : n ≤ 9999) (hw : w ≤ 4) : (padL n w).length ≤ 40 := by
  have hl := dec_len 4 n (by omega) (by omega)
  unfold padL
  simp only [List.length_append, List.length_replicate]
  omega
theorem dayTx_snoc (ms ds : List ByteArray) (Y M D W : Nat) (fs : List Df) (k : Nat) (hk : k < fs.length) : dayTx ms ds Y M D W (fs.take (k + 1)) = dayTx ms ds Y M D W (fs.take k) ++ fieldTx ms ds Y M D W fs[k] := by
  rw [List.take_succ_eq_append_getElem hk]
  unfold dayTx
  rw [List.flatMap_append]
  simp
/-- The field's word, case by case. -/
theorem df_cases {f : Df} (h : f.w = ⟨#[]⟩ ∨ f.w ∈ words7) : f.w = ⟨#[]⟩ ∨ f.w = wY ∨ f.w = wM2 ∨ f.w = wM1 ∨ f.w = wD2 ∨ f.w = wD1 ∨ f.w = wMN ∨ f.w = wWN := by
  rcases h with h | h
  · exact .inl h
  · unfold words7 at h
    simp only [List.mem_cons, List.not_mem_nil, or_false] at h
    rcases h with h | h | h | h | h | h | h <;> simp [h]
end Mh
