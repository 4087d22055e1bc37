/- tree.Slug: what it makes of a string. Conditions: a string of at most 10^9 bytes. -/
import Derived.Test.YtihdfkcoajpmjaaGreatDoorKeG
import Derived.Test.YtihdfkcoajpmjaaGreatDoorSl
import Derived.Lib.MinMax
import Derived.BigQuiet
import Derived.StillTailTactics
import Derived.Deep.CutBlock
namespace Mh
open Go
set_option linter.unusedVariables false
def upC (c : UInt8) : UInt8 := if 65 ≤ c.toNat ∧ c.toNat ≤ 90 then c + 32 else c
theorem upC_in {c : UInt8} (h : 65 ≤ c.toNat ∧ c.toNat ≤ 90) : ((upC c).toNat : Int) = (c.toNat : Int) + 32 := by
  unfold upC; rw [if_pos h, UInt8.toNat_add]
  have h2 : (32 : UInt8).toNat = 32 := rfl
  rw [h2]; omega
theorem upC_out {c : UInt8} (h : ¬ (65 ≤ c.toNat ∧ c.toNat ≤ 90)) : upC c = c := by unfold upC; rw [if_neg h]
/-- One byte more. -/
def slugS (o : List UInt8) (c : UInt8) : List UInt8 := if (smallB (upC c) || digB (upC c)) = true then o ++ [upC c] else if o ≠ [] ∧ o.getLast? ≠ some 45 then o ++ [45] else o
def slugO (l : List UInt8) : List UInt8 := l.foldl slugS []
theorem slugO_snoc (l : List UInt8) (c : UInt8) : slugO (l ++ [c]) = slugS (slugO l) c := by unfold slugO; rw [List.foldl_append]; rfl
theorem slugS_len (o : List UInt8) (c : UInt8) : (slugS o c).length ≤ o.length + 1 := by
  unfold slugS
  split
  · simp
  · split <;> simp
theorem slugO_len : ∀ (l o : List UInt8), (l.foldl slugS o).length ≤ o.length + l.length
  | [], o => by simp
  | c :: l, o => by
    have h1 := slugO_len l (slugS o c)
    have h2 := slugS_len o c
    simp only [List.foldl_cons, List.length_cons]
    omega
def slugB (s : ByteArray) : ByteArray := ⟨(Lib.trimSuffix ((slugO s.data.toList).take 40) [45]).toArray⟩
theorem slug_cases (o : List UInt8) (c : UInt8) :
    (smallB (upC c) = true ∧ slugS o c = o ++ [upC c]) ∨ (smallB (upC c) = false ∧ digB (upC c) = true ∧ slugS o c = o ++ [upC c]) ∨
    (smallB (upC c) = false ∧ digB (upC c) = false ∧ ((o = [] ∧ slugS o c = o) ∨ (∃ r, o = r ++ [45]) ∧ slugS o c = o ∨ (∃ r d, o = r ++ [d] ∧ d ≠ 45) ∧ slugS o c = o ++ [45])) := by
  unfold slugS
  cases h1 : smallB (upC c) with
  | true => exact .inl ⟨rfl, by simp⟩
  | false =>
    cases h2 : digB (upC c) with
    | true => exact .inr (.inl ⟨rfl, rfl, by simp⟩)
    | false =>
      refine .inr (.inr ⟨rfl, rfl, ?_⟩)
      rw [if_neg (by simp)]
      by_cases ho : o = []
      · exact .inl ⟨ho, by rw [if_neg (by simp [ho])]⟩
      · obtain ⟨r, d, rfl⟩ : ∃ r d, o = r ++ [d] := ⟨o.dropLast, o.getLast ho, (List.dropLast_concat_getLast ho).symm⟩
        by_cases hd : d = 45
        · subst hd
          exact .inr (.inl ⟨⟨r, rfl⟩, by rw [if_neg (by simp)]⟩)
        · exact .inr (.inr ⟨⟨r, d, rfl, hd⟩, by rw [if_pos (by simp [hd])]⟩)
theorem last_cell {w : World} {base e vc : Nat} {va : Option Addr} {o r : List UInt8} {d : UInt8} (ho : o = r ++ [d]) (h : w.ownsRow base e 1 (.slice va o.length vc) o.length (byteCells o)) :
    ∃ b off, va = some ⟨b, off, none⟩ ∧ o.length ≤ vc ∧ vc ≤ maxLen ∧ o.length = r.length + 1 ∧ w.cell? ⟨b, off + r.length, none⟩ = some (.int .u8 (d.toNat : Int)) := by
  have hs := Sl.of_own h (by decide)
  subst ho
  rcases hs.2 with ⟨h0, _⟩ | ⟨b, off, c, hv, h1, h2, h3, _, h5⟩
  · simp at h0
  · simp only [Value.slice.injEq] at hv
    obtain ⟨rfl, _, rfl⟩ := hv
    exact ⟨b, off, rfl, h2, h3, by simp, h5 r.length _ (by simp [byteCells])⟩
end Mh
namespace Go.Proofs.YtihdfkcoajpmjaaGreatDoor
open Go.RowKit Mh
set_option linter.unusedVariables false
theorem tsmall_any (c : UInt8) (w : World) : Calls Tryz.prog 11 #[.int .u8 c.toNat] w fun e w' => e = .returned (.bool (smallB c)) ∧ w = w' := by
  by_cases h1 : 97 ≤ c.toNat
  · by_cases h2 : c.toNat ≤ 122
    · have a1 : decide ((c.toNat : Int) ≤ 122) = true := decide_eq_true (by omega)
      have a0 : decide ((97 : Int) ≤ (c.toNat : Int)) = true := decide_eq_true (by omega)
      have H := Lib.hid (show smallB c = true from decide_eq_true ⟨h1, h2⟩)
      go_enter Tryz.func11, Tryz.ntmps11
      go_wp2_with fail
      go_ret
      exact ⟨by first | rfl | (rw [H.out]; rfl), rfl⟩
    · have a1 : decide ((c.toNat : Int) ≤ 122) = false := decide_eq_false (by omega)
      have a0 : decide ((97 : Int) ≤ (c.toNat : Int)) = true := decide_eq_true (by omega)
      have H := Lib.hid (show smallB c = false from decide_eq_false (by omega))
      go_enter Tryz.func11, Tryz.ntmps11
      go_wp2_with fail
      go_ret
      exact ⟨by first | rfl | (rw [H.out]; rfl), rfl⟩
  · have a0 : decide ((97 : Int) ≤ (c.toNat : Int)) = false := decide_eq_false (by omega)
    have H := Lib.hid (show smallB c = false from decide_eq_false (by omega))
    go_enter Tryz.func11, Tryz.ntmps11
    go_wp2_with fail
    go_ret
    exact ⟨by first | rfl | (rw [H.out]; rfl), rfl⟩
theorem tdigit_any (c : UInt8) (w : World) : Calls Tryz.prog 12 #[.int .u8 c.toNat] w fun e w' => e = .returned (.bool (digB c)) ∧ w = w' := by
  by_cases h1 : 48 ≤ c.toNat
  · by_cases h2 : c.toNat ≤ 57
    · have a1 : decide ((c.toNat : Int) ≤ 57) = true := decide_eq_true (by omega)
      have a0 : decide ((48 : Int) ≤ (c.toNat : Int)) = true := decide_eq_true (by omega)
      have H := Lib.hid (show digB c = true from decide_eq_true ⟨h1, h2⟩)
      go_enter Tryz.func12, Tryz.ntmps12
      go_wp2_with fail
      go_ret
      exact ⟨by first | rfl | (rw [H.out]; rfl), rfl⟩
    · have a1 : decide ((c.toNat : Int) ≤ 57) = false := decide_eq_false (by omega)
      have a0 : decide ((48 : Int) ≤ (c.toNat : Int)) = true := decide_eq_true (by omega)
      have H := Lib.hid (show digB c = false from decide_eq_false (by omega))
      go_enter Tryz.func12, Tryz.ntmps12
      go_wp2_with fail
      go_ret
      exact ⟨by first | rfl | (rw [H.out]; rfl), rfl⟩
  · have a0 : decide ((48 : Int) ≤ (c.toNat : Int)) = false := decide_eq_false (by omega)
    have H := Lib.hid (show digB c = false from decide_eq_false (by omega))
    go_enter Tryz.func12, Tryz.ntmps12
    go_wp2_with fail
    go_ret
    exact ⟨by first | rfl | (rw [H.out]; rfl), rfl⟩
theorem infoU8T : (Tryz.prog.info? 5).map (fun i => (i.zero, i.size, i.bytes)) = some (some (.int .u8 0), 1, 1) := by kernel_rfl
set_option maxRecDepth 100000 in
set_option maxHeartbeats 8000000 in
theorem slug_any (s : ByteArray) (hs : s.size ≤ 1000000000) (w : World) :
    Calls Tryz.prog 6 #[.string s] w fun e w' => e = .returned (.string (slugB s)) ∧ Below w.heap.size w w' := by
  have HTK : Hid (∀ k (hk : k < s.size), slugO (s.data.toList.take (k + 1)) = slugS (slugO (s.data.toList.take k)) s[k]) := fun k hk => by
    rw [List.take_succ_eq_append_getElem (by simpa using hk), slugO_snoc]; rfl
  have HLT : Hid (∀ k, (slugO (s.data.toList.take k)).length ≤ k) := fun k => by
    have := slugO_len (s.data.toList.take k) []
    simp only [List.length_nil, List.length_take] at this
    show (List.foldl slugS [] _).length ≤ k
    omega
  have HSM := Lib.hid (fun c w => tsmall_any c w)
  have HDG := Lib.hid (fun c w => tdigit_any c w)
  have HTS := Lib.hid (fun t (ht : t.size ≤ 40) w => Tryz.strings_TrimSuffix t ⟨#[45]⟩ w (by omega))
  obtain ⟨i0, hi, hz0, hz1, hz2⟩ := info_parts infoU8T
  go_enter Tryz.func6, Tryz.ntmps6
  go_wp2_with fail
  go_loopw [3, 4] (fun v i wr => ∃ (k : Nat), k ≤ s.size ∧ i = .int .i64 k ∧ Hid (wr.ownsRow w.heap.size 5 1 v (slugO (s.data.toList.take k)).length (byteCells (slugO (s.data.toList.take k)))) ∧ Hid (Below w.heap.size w wr)) (fun _ i wr => s.size - (intOf i).toNat)
  case atStart => exact ⟨0, Nat.zero_le _, rfl, World.ownsRow_nil _ _ _ _, Below.refl _ _⟩
  case round =>
    obtain ⟨k, hk, rfl, HO, HB⟩ := hrel
    obtain ⟨va, vc, hv⟩ := ownsRow_form HO.out
    subst hv
    have hsz := HB.out.size
    by_cases hkl : k < s.size
    · have HT1 := Lib.hid (HTK.out k hkl)
      have HL := Lib.hid (HLT.out k)
      generalize slugO (s.data.toList.take k) = o at *
      have HL1 : Hid (o.length + 1 ≤ 140737488355328) := by have := HL.out; show _ ≤ _; omega
      have h256 : s[k].toNat < 256 := UInt8.toNat_lt _
      have hltI : (k : Int) < s.size := by omega
      have hcs := slug_cases o s[k]
      clear HTK HLT
      by_cases hup : 65 ≤ s[k].toNat ∧ s[k].toNat ≤ 90
      · have hun := upC_in hup
        obtain ⟨hu1, hu2⟩ := hup
        have d1 : decide ((65 : Int) ≤ (s[k].toNat : Int)) = true := decide_eq_true (by omega)
        have d2 : decide ((s[k].toNat : Int) ≤ 90) = true := decide_eq_true (by omega)
        have hw8 : IntKind.u8.wrap ((s[k].toNat : Int) + 32) = ((upC s[k]).toNat : Int) := by
          rw [hun]
          show ((s[k].toNat : Int) + 32) % 256 = _
          omega
        clear hun
        generalize slugS o s[k] = o2 at *
        generalize upC s[k] = c at *
        rcases hcs with ⟨q1, qg⟩ | ⟨q1, q2, qg⟩ | ⟨q1, q2, q3⟩
        · have HSG := Lib.hid qg
          clear qg
          go_wp2_with (first | (go_at_call 11; refine (HSM.out _ _).mono ?_; rintro e w5 ⟨rfl, hw5⟩; obtain rfl : wr = w5 := hw5) | (go_at_call 12; refine (HDG.out _ _).mono ?_; rintro e w5 ⟨rfl, hw5⟩; obtain rfl : wr = w5 := hw5) | (at_builtin; refine wpList_append_byte HB.out rfl _ _ 43 rfl 5 i0 (.int .u8 0) Tryz.underlying43 hi hz0 hz1 hz2 rfl _ _ rfl HO.out (c) rfl HL1.out (Nat.le_refl _) hsz ?_; intro v' w' hown' hbel' hsz'; have HO2 := Lib.hid hown'; have HB2 := Lib.hid hbel'; obtain ⟨va6, vc6, hv6⟩ := ownsRow_form hown'; subst hv6; clear hown' hbel' hsz'))
          go_roundw
          case rel => exact ⟨k + 1, by omega, by go_num, by rw [HT1.out, HSG.out]; first | exact HO2.out | exact HO.out | exact Lib.hid (by have := HO2.out; simpa using this), HB2.out⟩
          case measure => simp [intOf]; omega
        · have HSG := Lib.hid qg
          clear qg
          go_wp2_with (first | (go_at_call 11; refine (HSM.out _ _).mono ?_; rintro e w5 ⟨rfl, hw5⟩; obtain rfl : wr = w5 := hw5) | (go_at_call 12; refine (HDG.out _ _).mono ?_; rintro e w5 ⟨rfl, hw5⟩; obtain rfl : wr = w5 := hw5) | (at_builtin; refine wpList_append_byte HB.out rfl _ _ 43 rfl 5 i0 (.int .u8 0) Tryz.underlying43 hi hz0 hz1 hz2 rfl _ _ rfl HO.out (c) rfl HL1.out (Nat.le_refl _) hsz ?_; intro v' w' hown' hbel' hsz'; have HO2 := Lib.hid hown'; have HB2 := Lib.hid hbel'; obtain ⟨va6, vc6, hv6⟩ := ownsRow_form hown'; subst hv6; clear hown' hbel' hsz'))
          go_roundw
          case rel => exact ⟨k + 1, by omega, by go_num, by rw [HT1.out, HSG.out]; first | exact HO2.out | exact HO.out | exact Lib.hid (by have := HO2.out; simpa using this), HB2.out⟩
          case measure => simp [intOf]; omega
        · rcases q3 with ⟨rfl, qg⟩ | ⟨⟨r, ho⟩, qg⟩ | ⟨⟨r, d, ho, hd⟩, qg⟩
          · have HSG := Lib.hid qg
            clear qg
            go_wp2_with (first | (go_at_call 11; refine (HSM.out _ _).mono ?_; rintro e w5 ⟨rfl, hw5⟩; obtain rfl : wr = w5 := hw5) | (go_at_call 12; refine (HDG.out _ _).mono ?_; rintro e w5 ⟨rfl, hw5⟩; obtain rfl : wr = w5 := hw5) | (at_builtin; refine wpList_append_byte HB.out rfl _ _ 43 rfl 5 i0 (.int .u8 0) Tryz.underlying43 hi hz0 hz1 hz2 rfl _ _ rfl HO.out (45) rfl HL1.out (Nat.le_refl _) hsz ?_; intro v' w' hown' hbel' hsz'; have HO2 := Lib.hid hown'; have HB2 := Lib.hid hbel'; obtain ⟨va6, vc6, hv6⟩ := ownsRow_form hown'; subst hv6; clear hown' hbel' hsz'))
            go_roundw
            case rel => exact ⟨k + 1, by omega, by go_num, by rw [HT1.out, HSG.out]; first | exact HO2.out | exact HO.out | exact Lib.hid (by have := HO2.out; simpa using this), HB.out⟩
            case measure => simp [intOf]; omega
          ·
            have HSG := Lib.hid qg
            obtain ⟨b, off, rfl, hb1, hb2, hn, hce⟩ := last_cell ho HO.out
            have hrl : r.length ≤ 1000000000 := by have := HL.out; omega
            have hwr : IntKind.i64.wrap (r.length : Int) = (r.length : Int) := IntWalk.i64_in _ (by omega)
            have hsub : (o.length : Int) - 1 = (r.length : Int) := by omega
            have hpo : decide ((0 : Int) < o.length) = true := decide_eq_true (by omega)
            have hpi : (0 : Int) < o.length := by omega
            have hri : (r.length : Int) < o.length := by omega
            have hr0 : (0 : Int) ≤ r.length := by omega
            have hrn : r.length < o.length := by omega
            unfold maxLen at hb2
            clear qg ho hn
            go_wp2_with (first | (go_at_call 11; refine (HSM.out _ _).mono ?_; rintro e w5 ⟨rfl, hw5⟩; obtain rfl : wr = w5 := hw5) | (go_at_call 12; refine (HDG.out _ _).mono ?_; rintro e w5 ⟨rfl, hw5⟩; obtain rfl : wr = w5 := hw5) | (at_builtin; refine wpList_append_byte HB.out rfl _ _ 43 rfl 5 i0 (.int .u8 0) Tryz.underlying43 hi hz0 hz1 hz2 rfl _ _ rfl HO.out (45) rfl HL1.out (Nat.le_refl _) hsz ?_; intro v' w' hown' hbel' hsz'; have HO2 := Lib.hid hown'; have HB2 := Lib.hid hbel'; obtain ⟨va6, vc6, hv6⟩ := ownsRow_form hown'; subst hv6; clear hown' hbel' hsz'))
            go_roundw
            case rel => exact ⟨k + 1, by omega, by go_num, by rw [HT1.out, HSG.out]; first | exact HO2.out | exact HO.out | exact Lib.hid (by have := HO2.out; simpa using this), HB.out⟩
            case measure => simp [intOf]; omega
          ·
            have hd45 : ((d.toNat : Int) != 45) = true := by rw [bne_iff_ne]; exact fun e => hd (UInt8.toNat_inj.1 (by have h45 : (45 : UInt8).toNat = 45 := rfl; omega))
            have HSG := Lib.hid qg
            obtain ⟨b, off, rfl, hb1, hb2, hn, hce⟩ := last_cell ho HO.out
            have hrl : r.length ≤ 1000000000 := by have := HL.out; omega
            have hwr : IntKind.i64.wrap (r.length : Int) = (r.length : Int) := IntWalk.i64_in _ (by omega)
            have hsub : (o.length : Int) - 1 = (r.length : Int) := by omega
            have hpo : decide ((0 : Int) < o.length) = true := decide_eq_true (by omega)
            have hpi : (0 : Int) < o.length := by omega
            have hri : (r.length : Int) < o.length := by omega
            have hr0 : (0 : Int) ≤ r.length := by omega
            have hrn : r.length < o.length := by omega
            unfold maxLen at hb2
            clear qg ho hn
            go_wp2_with (first | (go_at_call 11; refine (HSM.out _ _).mono ?_; rintro e w5 ⟨rfl, hw5⟩; obtain rfl : wr = w5 := hw5) | (go_at_call 12; refine (HDG.out _ _).mono ?_; rintro e w5 ⟨rfl, hw5⟩; obtain rfl : wr = w5 := hw5) | (at_builtin; refine wpList_append_byte HB.out rfl _ _ 43 rfl 5 i0 (.int .u8 0) Tryz.underlying43 hi hz0 hz1 hz2 rfl _ _ rfl HO.out (45) rfl HL1.out (Nat.le_refl _) hsz ?_; intro v' w' hown' hbel' hsz'; have HO2 := Lib.hid hown'; have HB2 := Lib.hid hbel'; obtain ⟨va6, vc6, hv6⟩ := ownsRow_form hown'; subst hv6; clear hown' hbel' hsz'))
            go_roundw
            case rel => exact ⟨k + 1, by omega, by go_num, by rw [HT1.out, HSG.out]; first | exact HO2.out | exact HO.out | exact Lib.hid (by have := HO2.out; simpa using this), HB2.out⟩
            case measure => simp [intOf]; omega
      · rw [upC_out hup] at hcs
        generalize slugS o s[k] = o2 at *
        by_cases hu1 : 65 ≤ s[k].toNat
        · have hu2 : ¬ s[k].toNat ≤ 90 := by omega
          have d1 : decide ((65 : Int) ≤ (s[k].toNat : Int)) = true := decide_eq_true (by omega)
          have d2 : decide ((s[k].toNat : Int) ≤ 90) = false := decide_eq_false (by omega)
          clear hup
          rcases hcs with ⟨q1, qg⟩ | ⟨q1, q2, qg⟩ | ⟨q1, q2, q3⟩
          · have HSG := Lib.hid qg
            clear qg
            go_wp2_with (first | (go_at_call 11; refine (HSM.out _ _).mono ?_; rintro e w5 ⟨rfl, hw5⟩; obtain rfl : wr = w5 := hw5) | (go_at_call 12; refine (HDG.out _ _).mono ?_; rintro e w5 ⟨rfl, hw5⟩; obtain rfl : wr = w5 := hw5) | (at_builtin; refine wpList_append_byte HB.out rfl _ _ 43 rfl 5 i0 (.int .u8 0) Tryz.underlying43 hi hz0 hz1 hz2 rfl _ _ rfl HO.out (s[k]) rfl HL1.out (Nat.le_refl _) hsz ?_; intro v' w' hown' hbel' hsz'; have HO2 := Lib.hid hown'; have HB2 := Lib.hid hbel'; obtain ⟨va6, vc6, hv6⟩ := ownsRow_form hown'; subst hv6; clear hown' hbel' hsz'))
            go_roundw
            case rel => exact ⟨k + 1, by omega, by go_num, by rw [HT1.out, HSG.out]; first | exact HO2.out | exact HO.out | exact Lib.hid (by have := HO2.out; simpa using this), HB2.out⟩
            case measure => simp [intOf]; omega
          · have HSG := Lib.hid qg
            clear qg
            go_wp2_with (first | (go_at_call 11; refine (HSM.out _ _).mono ?_; rintro e w5 ⟨rfl, hw5⟩; obtain rfl : wr = w5 := hw5) | (go_at_call 12; refine (HDG.out _ _).mono ?_; rintro e w5 ⟨rfl, hw5⟩; obtain rfl : wr = w5 := hw5) | (at_builtin; refine wpList_append_byte HB.out rfl _ _ 43 rfl 5 i0 (.int .u8 0) Tryz.underlying43 hi hz0 hz1 hz2 rfl _ _ rfl HO.out (s[k]) rfl HL1.out (Nat.le_refl _) hsz ?_; intro v' w' hown' hbel' hsz'; have HO2 := Lib.hid hown'; have HB2 := Lib.hid hbel'; obtain ⟨va6, vc6, hv6⟩ := ownsRow_form hown'; subst hv6; clear hown' hbel' hsz'))
            go_roundw
            case rel => exact ⟨k + 1, by omega, by go_num, by rw [HT1.out, HSG.out]; first | exact HO2.out | exact HO.out | exact Lib.hid (by have := HO2.out; simpa using this), HB2.out⟩
            case measure => simp [intOf]; omega
          · rcases q3 with ⟨rfl, qg⟩ | ⟨⟨r, ho⟩, qg⟩ | ⟨⟨r, d, ho, hd⟩, qg⟩
            · have HSG := Lib.hid qg
              clear qg
              go_wp2_with (first | (go_at_call 11; refine (HSM.out _ _).mono ?_; rintro e w5 ⟨rfl, hw5⟩; obtain rfl : wr = w5 := hw5) | (go_at_call 12; refine (HDG.out _ _).mono ?_; rintro e w5 ⟨rfl, hw5⟩; obtain rfl : wr = w5 := hw5) | (at_builtin; refine wpList_append_byte HB.out rfl _ _ 43 rfl 5 i0 (.int .u8 0) Tryz.underlying43 hi hz0 hz1 hz2 rfl _ _ rfl HO.out (45) rfl HL1.out (Nat.le_refl _) hsz ?_; intro v' w' hown' hbel' hsz'; have HO2 := Lib.hid hown'; have HB2 := Lib.hid hbel'; obtain ⟨va6, vc6, hv6⟩ := ownsRow_form hown'; subst hv6; clear hown' hbel' hsz'))
              go_roundw
              case rel => exact ⟨k + 1, by omega, by go_num, by rw [HT1.out, HSG.out]; first | exact HO2.out | exact HO.out | exact Lib.hid (by have := HO2.out; simpa using this), HB.out⟩
              case measure => simp [intOf]; omega
            ·
              have HSG := Lib.hid qg
              obtain ⟨b, off, rfl, hb1, hb2, hn, hce⟩ := last_cell ho HO.out
              have hrl : r.length ≤ 1000000000 := by have := HL.out; omega
              have hwr : IntKind.i64.wrap (r.length : Int) = (r.length : Int) := IntWalk.i64_in _ (by omega)
              have hsub : (o.length : Int) - 1 = (r.length : Int) := by omega
              have hpo : decide ((0 : Int) < o.length) = true := decide_eq_true (by omega)
              have hpi : (0 : Int) < o.length := by omega
              have hri : (r.length : Int) < o.length := by omega
              have hr0 : (0 : Int) ≤ r.length := by omega
              have hrn : r.length < o.length := by omega
              unfold maxLen at hb2
              clear qg ho hn
              go_wp2_with (first | (go_at_call 11; refine (HSM.out _ _).mono ?_; rintro e w5 ⟨rfl, hw5⟩; obtain rfl : wr = w5 := hw5) | (go_at_call 12; refine (HDG.out _ _).mono ?_; rintro e w5 ⟨rfl, hw5⟩; obtain rfl : wr = w5 := hw5) | (at_builtin; refine wpList_append_byte HB.out rfl _ _ 43 rfl 5 i0 (.int .u8 0) Tryz.underlying43 hi hz0 hz1 hz2 rfl _ _ rfl HO.out (45) rfl HL1.out (Nat.le_refl _) hsz ?_; intro v' w' hown' hbel' hsz'; have HO2 := Lib.hid hown'; have HB2 := Lib.hid hbel'; obtain ⟨va6, vc6, hv6⟩ := ownsRow_form hown'; subst hv6; clear hown' hbel' hsz'))
              go_roundw
              case rel => exact ⟨k + 1, by omega, by go_num, by rw [HT1.out, HSG.out]; first | exact HO2.out | exact HO.out | exact Lib.hid (by have := HO2.out; simpa using this), HB.out⟩
              case measure => simp [intOf]; omega
            ·
              have hd45 : ((d.toNat : Int) != 45) = true := by rw [bne_iff_ne]; exact fun e => hd (UInt8.toNat_inj.1 (by have h45 : (45 : UInt8).toNat = 45 := rfl; omega))
              have HSG := Lib.hid qg
              obtain ⟨b, off, rfl, hb1, hb2, hn, hce⟩ := last_cell ho HO.out
              have hrl : r.length ≤ 1000000000 := by have := HL.out; omega
              have hwr : IntKind.i64.wrap (r.length : Int) = (r.length : Int) := IntWalk.i64_in _ (by omega)
              have hsub : (o.length : Int) - 1 = (r.length : Int) := by omega
              have hpo : decide ((0 : Int) < o.length) = true := decide_eq_true (by omega)
              have hpi : (0 : Int) < o.length := by omega
              have hri : (r.length : Int) < o.length := by omega
              have hr0 : (0 : Int) ≤ r.length := by omega
              have hrn : r.length < o.length := by omega
              unfold maxLen at hb2
              clear qg ho hn
              go_wp2_with (first | (go_at_call 11; refine (HSM.out _ _).mono ?_; rintro e w5 ⟨rfl, hw5⟩; obtain rfl : wr = w5 := hw5) | (go_at_call 12; refine (HDG.out _ _).mono ?_; rintro e w5 ⟨rfl, hw5⟩; obtain rfl : wr = w5 := hw5) | (at_builtin; refine wpList_append_byte HB.out rfl _ _ 43 rfl 5 i0 (.int .u8 0) Tryz.underlying43 hi hz0 hz1 hz2 rfl _ _ rfl HO.out (45) rfl HL1.out (Nat.le_refl _) hsz ?_; intro v' w' hown' hbel' hsz'; have HO2 := Lib.hid hown'; have HB2 := Lib.hid hbel'; obtain ⟨va6, vc6, hv6⟩ := ownsRow_form hown'; subst hv6; clear hown' hbel' hsz'))
              go_roundw
              case rel => exact ⟨k + 1, by omega, by go_num, by rw [HT1.out, HSG.out]; first | exact HO2.out | exact HO.out | exact Lib.hid (by have := HO2.out; simpa using this), HB2.out⟩
              case measure => simp [intOf]; omega
        · have d1 : decide ((65 : Int) ≤ (s[k].toNat : Int)) = false := decide_eq_false (by omega)
          clear hup
          rcases hcs with ⟨q1, qg⟩ | ⟨q1, q2, qg⟩ | ⟨q1, q2, q3⟩
          · have HSG := Lib.hid qg
            clear qg
            go_wp2_with (first | (go_at_call 11; refine (HSM.out _ _).mono ?_; rintro e w5 ⟨rfl, hw5⟩; obtain rfl : wr = w5 := hw5) | (go_at_call 12; refine (HDG.out _ _).mono ?_; rintro e w5 ⟨rfl, hw5⟩; obtain rfl : wr = w5 := hw5) | (at_builtin; refine wpList_append_byte HB.out rfl _ _ 43 rfl 5 i0 (.int .u8 0) Tryz.underlying43 hi hz0 hz1 hz2 rfl _ _ rfl HO.out (s[k]) rfl HL1.out (Nat.le_refl _) hsz ?_; intro v' w' hown' hbel' hsz'; have HO2 := Lib.hid hown'; have HB2 := Lib.hid hbel'; obtain ⟨va6, vc6, hv6⟩ := ownsRow_form hown'; subst hv6; clear hown' hbel' hsz'))
            go_roundw
            case rel => exact ⟨k + 1, by omega, by go_num, by rw [HT1.out, HSG.out]; first | exact HO2.out | exact HO.out | exact Lib.hid (by have := HO2.out; simpa using this), HB2.out⟩
            case measure => simp [intOf]; omega
          · have HSG := Lib.hid qg
            clear qg
            go_wp2_with (first | (go_at_call 11; refine (HSM.out _ _).mono ?_; rintro e w5 ⟨rfl, hw5⟩; obtain rfl : wr = w5 := hw5) | (go_at_call 12; refine (HDG.out _ _).mono ?_; rintro e w5 ⟨rfl, hw5⟩; obtain rfl : wr = w5 := hw5) | (at_builtin; refine wpList_append_byte HB.out rfl _ _ 43 rfl 5 i0 (.int .u8 0) Tryz.underlying43 hi hz0 hz1 hz2 rfl _ _ rfl HO.out (s[k]) rfl HL1.out (Nat.le_refl _) hsz ?_; intro v' w' hown' hbel' hsz'; have HO2 := Lib.hid hown'; have HB2 := Lib.hid hbel'; obtain ⟨va6, vc6, hv6⟩ := ownsRow_form hown'; subst hv6; clear hown' hbel' hsz'))
            go_roundw
            case rel => exact ⟨k + 1, by omega, by go_num, by rw [HT1.out, HSG.out]; first | exact HO2.out | exact HO.out | exact Lib.hid (by have := HO2.out; simpa using this), HB2.out⟩
            case measure => simp [intOf]; omega
          · rcases q3 with ⟨rfl, qg⟩ | ⟨⟨r, ho⟩, qg⟩ | ⟨⟨r, d, ho, hd⟩, qg⟩
            · have HSG := Lib.hid qg
              clear qg
              go_wp2_with (first | (go_at_call 11; refine (HSM.out _ _).mono ?_; rintro e w5 ⟨rfl, hw5⟩; obtain rfl : wr = w5 := hw5) | (go_at_call 12; refine (HDG.out _ _).mono ?_; rintro e w5 ⟨rfl, hw5⟩; obtain rfl : wr = w5 := hw5) | (at_builtin; refine wpList_append_byte HB.out rfl _ _ 43 rfl 5 i0 (.int .u8 0) Tryz.underlying43 hi hz0 hz1 hz2 rfl _ _ rfl HO.out (45) rfl HL1.out (Nat.le_refl _) hsz ?_; intro v' w' hown' hbel' hsz'; have HO2 := Lib.hid hown'; have HB2 := Lib.hid hbel'; obtain ⟨va6, vc6, hv6⟩ := ownsRow_form hown'; subst hv6; clear hown' hbel' hsz'))
              go_roundw
              case rel => exact ⟨k + 1, by omega, by go_num, by rw [HT1.out, HSG.out]; first | exact HO2.out | exact HO.out | exact Lib.hid (by have := HO2.out; simpa using this), HB.out⟩
              case measure => simp [intOf]; omega
            ·
              have HSG := Lib.hid qg
              obtain ⟨b, off, rfl, hb1, hb2, hn, hce⟩ := last_cell ho HO.out
              have hrl : r.length ≤ 1000000000 := by have := HL.out; omega
              have hwr : IntKind.i64.wrap (r.length : Int) = (r.length : Int) := IntWalk.i64_in _ (by omega)
              have hsub : (o.length : Int) - 1 = (r.length : Int) := by omega
              have hpo : decide ((0 : Int) < o.length) = true := decide_eq_true (by omega)
              have hpi : (0 : Int) < o.length := by omega
              have hri : (r.length : Int) < o.length := by omega
              have hr0 : (0 : Int) ≤ r.length := by omega
              have hrn : r.length < o.length := by omega
              unfold maxLen at hb2
              clear qg ho hn
              go_wp2_with (first | (go_at_call 11; refine (HSM.out _ _).mono ?_; rintro e w5 ⟨rfl, hw5⟩; obtain rfl : wr = w5 := hw5) | (go_at_call 12; refine (HDG.out _ _).mono ?_; rintro e w5 ⟨rfl, hw5⟩; obtain rfl : wr = w5 := hw5) | (at_builtin; refine wpList_append_byte HB.out rfl _ _ 43 rfl 5 i0 (.int .u8 0) Tryz.underlying43 hi hz0 hz1 hz2 rfl _ _ rfl HO.out (45) rfl HL1.out (Nat.le_refl _) hsz ?_; intro v' w' hown' hbel' hsz'; have HO2 := Lib.hid hown'; have HB2 := Lib.hid hbel'; obtain ⟨va6, vc6, hv6⟩ := ownsRow_form hown'; subst hv6; clear hown' hbel' hsz'))
              go_roundw
              case rel => exact ⟨k + 1, by omega, by go_num, by rw [HT1.out, HSG.out]; first | exact HO2.out | exact HO.out | exact Lib.hid (by have := HO2.out; simpa using this), HB.out⟩
              case measure => simp [intOf]; omega
            ·
              have hd45 : ((d.toNat : Int) != 45) = true := by rw [bne_iff_ne]; exact fun e => hd (UInt8.toNat_inj.1 (by have h45 : (45 : UInt8).toNat = 45 := rfl; omega))
              have HSG := Lib.hid qg
              obtain ⟨b, off, rfl, hb1, hb2, hn, hce⟩ := last_cell ho HO.out
              have hrl : r.length ≤ 1000000000 := by have := HL.out; omega
              have hwr : IntKind.i64.wrap (r.length : Int) = (r.length : Int) := IntWalk.i64_in _ (by omega)
              have hsub : (o.length : Int) - 1 = (r.length : Int) := by omega
              have hpo : decide ((0 : Int) < o.length) = true := decide_eq_true (by omega)
              have hpi : (0 : Int) < o.length := by omega
              have hri : (r.length : Int) < o.length := by omega
              have hr0 : (0 : Int) ≤ r.length := by omega
              have hrn : r.length < o.length := by omega
              unfold maxLen at hb2
              clear qg ho hn
              go_wp2_with (first | (go_at_call 11; refine (HSM.out _ _).mono ?_; rintro e w5 ⟨rfl, hw5⟩; obtain rfl : wr = w5 := hw5) | (go_at_call 12; refine (HDG.out _ _).mono ?_; rintro e w5 ⟨rfl, hw5⟩; obtain rfl : wr = w5 := hw5) | (at_builtin; refine wpList_append_byte HB.out rfl _ _ 43 rfl 5 i0 (.int .u8 0) Tryz.underlying43 hi hz0 hz1 hz2 rfl _ _ rfl HO.out (45) rfl HL1.out (Nat.le_refl _) hsz ?_; intro v' w' hown' hbel' hsz'; have HO2 := Lib.hid hown'; have HB2 := Lib.hid hbel'; obtain ⟨va6, vc6, hv6⟩ := ownsRow_form hown'; subst hv6; clear hown' hbel' hsz'))
              go_roundw
              case rel => exact ⟨k + 1, by omega, by go_num, by rw [HT1.out, HSG.out]; first | exact HO2.out | exact HO.out | exact Lib.hid (by have := HO2.out; simpa using this), HB2.out⟩
              case measure => simp [intOf]; omega
    · have hke : s.data.toList.take k = s.data.toList := List.take_of_length_le (by rw [Array.length_toList]; have : s.data.size = s.size := rfl; omega)
      rw [hke] at HO
      have HEQ : Hid (slugB s = ⟨(Lib.trimSuffix ((slugO s.data.toList).take 40) [45]).toArray⟩) := rfl
      have hlt : ¬ (k : Int) < s.size := by omega
      rw [show (slugO (s.data.toList.take k)).length = (slugO s.data.toList).length by rw [hke]]
      clear hke
      generalize slugO s.data.toList = o at *
      have HTS1 := Lib.hid (HTS.out ⟨(o.take 40).toArray⟩ (by show (o.take 40).toArray.size ≤ 40; simp; omega) wr)
      by_cases h40 : o.length ≤ 40
      · have h41 : o.take 40 = o := List.take_of_length_le h40
        rw [h41] at HTS1 HEQ
        have hmin : min (o.length : Int) 40 = o.length := by omega
        have hcv := run_convert_own (P := Tryz.prog) wr 43 5 Tryz.underlying43 Tryz.underlying5 HO.out 9 Tryz.underlying9
        have hl0 : (0 : Int) ≤ o.length := by omega
        clear h41
        rcases HO.out.2 with ⟨hv, hn⟩ | ⟨g, cap, cur, hv, hbg, hgg, hnc, hcm, hcs, htake⟩
        · simp only [Value.slice.injEq] at hv
          obtain ⟨rfl, h0, rfl⟩ := hv
          obtain rfl : o = [] := List.eq_nil_of_length_eq_zero hn
          have HTS2 : Hid (Calls Tryz.prog 13 #[.string ⟨#[]⟩, .string ⟨#[45]⟩] wr fun e w' => e = .returned (.string ⟨(Lib.trimSuffix [] [45]).toArray⟩) ∧ w' = wr) := HTS1
          have hcv0 := run_convert_bytes_nil (P := Tryz.prog) wr 43 5 Tryz.underlying43 Tryz.underlying5 0 0 9 Tryz.underlying9
          have hm0 : min (0 : Int) 40 = 0 := by decide
          clear hcv HTS1 HTS hmin hl0
          go_wp2_with (go_at_call 13; refine HTS2.out.mono ?_; rintro e w5 ⟨rfl, rfl⟩)
          go_ret
          exact ⟨by rw [HEQ.out]; rfl, HB.out⟩
        · simp only [Value.slice.injEq] at hv
          obtain ⟨rfl, _, rfl⟩ := hv
          clear hbg hgg hcs htake
          unfold maxLen at hcm
          go_wp2_with (go_at_call 13; refine HTS1.out.mono ?_; rintro e w5 ⟨rfl, rfl⟩)
          go_ret
          exact ⟨by rw [HEQ.out]; rfl, HB.out⟩
      · have hmin : min (o.length : Int) 40 = 40 := by omega
        have hl0 : (40 : Int) ≤ o.length := by omega
        have hl40 : 40 ≤ o.length := by omega
        have hcells := Sl.of_own HO.out (by decide)
        rcases HO.out.2 with ⟨hv, hn⟩ | ⟨g, cap, cur, hv, hbg, hgg, hnc, hcm, hcs, htake⟩
        · omega
        · simp only [Value.slice.injEq] at hv
          obtain ⟨rfl, _, rfl⟩ := hv
          have hcv := run_convert_bytes_arg (P := Tryz.prog) wr 43 5 Tryz.underlying43 Tryz.underlying5 g 0 40 vc ((o.take 40).map fun c => (c.toNat : Int)) (by simp; omega) (fun i hi => by
            rw [Nat.zero_add, cell_of_row _ _ _ _ _ _ hgg]
            have hio : i < o.length := by omega
            have h3 : o[i]? = some o[i] := List.getElem?_eq_getElem hio
            have h2 : (byteCells o)[i]? = some (.int .u8 (o[i].toNat : Int)) := by simp [byteCells, h3]
            rw [← htake, List.getElem?_take] at h2
            rw [if_pos (by omega)] at h2
            simpa [List.getD, hi, h3] using h2) 9 Tryz.underlying9
          rw [show strOfNums ((o.take 40).map fun c => (c.toNat : Int)) = ⟨(o.take 40).toArray⟩ by simp [strOfNums, Function.comp_def]] at hcv
          clear hbg hgg hcs htake hcells
          unfold maxLen at hcm
          go_wp2_with (go_at_call 13; refine HTS1.out.mono ?_; rintro e w5 ⟨rfl, rfl⟩)
          go_ret
          exact ⟨by rw [HEQ.out]; rfl, HB.out⟩
end Go.Proofs.YtihdfkcoajpmjaaGreatDoor
