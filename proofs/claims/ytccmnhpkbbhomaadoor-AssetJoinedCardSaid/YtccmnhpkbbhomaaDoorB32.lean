/- asset.base32 and read32: a number's digits of base 32, and what is read of them. Conditions: the number is below 32768. -/
import Derived.Test.YtccmnhpkbbhomaaDoorProg
import Derived.Test.YtccmnhpkbbhomaaDoorShelf
import Derived.Test.YtccmnhpkbbhomaaDoorJoinP
import Derived.Deep.QuietTactic
import Derived.BigQuiet
import Derived.Outline
namespace Go.Proofs.YtccmnhpkbbhomaaDoor
open Go.RowKit Mh
set_option linter.unusedVariables false

set_option maxHeartbeats 1000000 in
/-- The string of the digits. -/
def dStr : ByteArray := ⟨#[48, 49, 50, 51, 52, 53, 54, 55, 56, 57, 97, 98, 99, 100, 101, 102, 103, 104, 105, 106, 107, 108, 109, 110, 111, 112, 113, 114, 115, 116, 117, 118]⟩
theorem dStr_ext : ∀ m : Fin 32, dStr.extract m.val (m.val + 1) = ⟨#[c32 m.val]⟩ := by decide +kernel
theorem slice32 (n : Nat) (w : World) : (Instr.slice 9 (.string ⟨#[48, 49, 50, 51, 52, 53, 54, 55, 56, 57, 97, 98, 99, 100, 101, 102, 103, 104, 105, 106, 107, 108, 109, 110, 111, 112, 113, 114, 115, 116, 117, 118]⟩) (some (.int .i64 ((n : Int) % 32))) (some (.int .i64 ((n : Int) % 32 + 1))) none).run Tryd.prog w = .ok (.string ⟨#[c32 (n % 32)]⟩) w := by
  have h := run_slice_string (P := Tryd.prog) w 9 dStr .i64 .i64 ((n : Int) % 32) ((n : Int) % 32 + 1) Tryd.underlying9 (by omega) (by omega) (by show _ ≤ ((32 : Nat) : Int); omega)
  have e := dStr_ext ⟨n % 32, by omega⟩
  have e1 : ((n : Int) % 32).toNat = n % 32 := by omega
  have e2 : ((n : Int) % 32 + 1).toNat = n % 32 + 1 := by omega
  rw [e1, e2] at h
  simp only at e
  rw [e] at h
  exact h

set_option maxRecDepth 100000 in
theorem base32_any (n : Nat) (w : World) (hn : n < 32768) :
    Calls Tryd.prog 33 #[.int .i64 n] w fun e w' => e = .returned (.string ⟨(b32 n).toArray⟩) ∧ w = w' := by
  have hlen := D32_len n hn
  have hs := slice32 n
  have HI : Hid (D32 n = dgs (n / 32) ++ [n % 32]) := rfl
  have hdv : ((n : Int) / 32) = ((n / 32 : Nat) : Int) := rfl
  have HL := Lib.hid hlen.2
  clear hlen hdv
  go_enter Tryd.func33, Tryd.ntmps33
  go_wp2_with fail
  clear hs
  go_loop [0, 3] (fun x y => ∃ (m : Nat) (D : List Nat), m < 32768 ∧ x = .int .i64 m ∧ y = .string ⟨(D.map c32).toArray⟩ ∧ Hid (D32 n = dgs m ++ D)) (fun x _ => (intOf x).toNat)
  case atStart => exact ⟨n / 32, [n % 32], by omega, rfl, rfl, HI⟩
  case round =>
    obtain ⟨m, D, hm, rfl, rfl, HD⟩ := hrel
    have hDl : D.length ≤ 3 := by have := HL.out; rw [HD.out] at this; simp at this; omega
    have hSz : (⟨(D.map c32).toArray⟩ : ByteArray).size ≤ 3 := by show (D.map c32).toArray.size ≤ 3; simpa using hDl
    have HE : Hid ((⟨#[c32 (m % 32)]⟩ : ByteArray) ++ ⟨(D.map c32).toArray⟩ = ⟨(((m % 32) :: D).map c32).toArray⟩) := bext (by simp)
    by_cases h0 : m = 0
    · subst h0
      have HF : Hid (D.map c32 = b32 n) := by show _ = _; unfold b32; rw [HD.out, dgs_zero]; rfl
      clear hSz
      rw [HF.out]
      go_wp2_with fail
      go_ret
      exact ⟨rfl, rfl⟩
    · have hs := slice32 m
      have HN : Hid (D32 n = dgs (m / 32) ++ (m % 32 :: D)) := by show _ = _; rw [HD.out, dgs_pos (by omega)]; simp
      have s1 := fun w => run_string_add_sum (P := Tryd.prog) (w := w) ⟨#[c32 (m % 32)]⟩ ⟨(D.map c32).toArray⟩ (by rw [show (⟨#[c32 (m % 32)]⟩ : ByteArray).size = 1 from rfl]; omega)
      rw [HE.out] at s1
      have hgt : decide ((0 : Int) < (m : Int)) = true := decide_eq_true (by omega)
      have hgt2 : decide (0 < m) = true := decide_eq_true (by omega)
      clear HD HE
      go_wp2_with fail
      go_round
      case rel => exact ⟨m / 32, m % 32 :: D, by omega, rfl, rfl, HN⟩
      case measure => simp [intOf]; omega

theorem idx32 (c : UInt8) (m : Nat) (hm : m < 32) (hc : c = c32 m) (w : World) :
    Calls Tryd.prog 62 #[.string ⟨#[48, 49, 50, 51, 52, 53, 54, 55, 56, 57, 97, 98, 99, 100, 101, 102, 103, 104, 105, 106, 107, 108, 109, 110, 111, 112, 113, 114, 115, 116, 117, 118]⟩, .int .u8 (c.toNat : Int)] w fun e w' => e = .returned (.int .i64 (m : Int)) ∧ w = w' := by
  refine (Tryd.strings_IndexByte _ _ w).mono ?_
  rintro e w' ⟨rfl, rfl⟩
  refine ⟨?_, rfl⟩
  congr 2
  have hb : (c.toNat : Int).toNat.toUInt8 = c := by simp
  rw [hb, hc]
  exact d32_index ⟨m, hm⟩

set_option maxRecDepth 100000 in
set_option maxHeartbeats 1000000 in
theorem read32_any (n : Nat) (w : World) (hn : n < 32768) :
    Calls Tryd.prog 35 #[.string ⟨(b32 n).toArray⟩] w fun e w' => e = .returned (.tuple #[.int .i64 n, .bool true]) ∧ w = w' := by
  have hlen := D32_len n hn
  have hhd := D32_head n
  have HV := Lib.hid (v32_D32 n)
  have hlt := D32_lt n
  obtain ⟨s, hs⟩ : ∃ s : ByteArray, s = ⟨(b32 n).toArray⟩ := ⟨_, rfl⟩
  have hsl : s.data.toList = (D32 n).map c32 := by rw [hs]; rfl
  rw [← hs]
  clear hs
  generalize D32 n = D at *
  have hz : s.size = D.length := by have := congrArg List.length hsl; simpa using this
  have HG : Hid (∀ i (h : i < s.size) (h' : i < D.length), s[i] = c32 D[i]) := by
    intro i h h'
    have e1 : s.data.toList[i]? = some s[i] := by rw [List.getElem?_eq_getElem (by simpa using h)]; rfl
    rw [hsl, List.getElem?_map, List.getElem?_eq_getElem h'] at e1
    exact (Option.some.inj e1).symm
  have he : s.toList.isEmpty = false := by
    rw [ByteArray.toList_eq, hsl]
    cases hc : D with
    | nil => rw [hc] at hlen; simp at hlen
    | cons a l => rfl
  have h0s : 0 < s.size := by omega
  have way : ((s[0].toNat : Int) == 48) = false ∨ (((s[0].toNat : Int) == 48) = true ∧ (s.toList == [48]) = true) := by
    rcases hhd with h | h
    · left
      rw [beq_eq_false_iff_ne]
      intro e
      have h9 := HG.out 0 h0s (by omega)
      have e2 : s[0] = 48 := UInt8.toNat_inj.1 (by have : (48 : UInt8).toNat = 48 := rfl; omega)
      rw [e2] at h9
      have := d32_zero ⟨D[0], hlt _ (List.getElem_mem _)⟩ h9.symm
      apply h
      rw [List.head?_eq_getElem?, List.getElem?_eq_getElem (by omega)]
      exact congrArg some this
    · right
      subst h
      have h9 := HG.out 0 h0s (by simp)
      exact ⟨by rw [h9]; rfl, by rw [ByteArray.toList_eq, hsl]; rfl⟩
  have hs3 : s.size ≤ 3 := by omega
  have HZ := Lib.hid hz
  have HLT := Lib.hid hlt
  clear hlen hhd hlt hsl hz
  rcases way with w1 | ⟨w1, w2⟩
  all_goals
    go_enter Tryd.func35, Tryd.ntmps35
    go_wp2_with fail
    go_loop [4, 5] (fun x i => ∃ k : Nat, k ≤ s.size ∧ i = .int .i64 k ∧ x = .int .i64 (v32 (D.take k) : Nat)) (fun _ i => s.size - (intOf i).toNat)
    case atStart => exact ⟨0, by omega, rfl, rfl⟩
    case round =>
      obtain ⟨k, hk, rfl, rfl⟩ := hrel
      by_cases hkl : k < s.size
      · have hkd : k < D.length := by rw [← HZ.out]; exact hkl
        have hg := HG.out k hkl hkd
        have hd := HLT.out D[k] (List.getElem_mem hkd)
        have HS : Hid (v32 (D.take (k + 1)) = 32 * v32 (D.take k) + D[k]) := by show _ = _; rw [List.take_succ_eq_append_getElem hkd, v32_snoc]
        have hb : 32 * v32 (D.take k) + D[k] < 32768 := by have := v32_take D (k + 1); rw [HS.out, HV.out] at this; omega
        generalize D[k] = d at *
        generalize v32 (D.take k) = x at *
        have HC := Lib.hid hg
        have hmin : min (32 * (x : Int) + (d : Int)) 400000 = 32 * (x : Int) + (d : Int) := by omega
        clear hg
        go_wp2_with (go_at_call 62; refine (idx32 _ d hd HC.out _).mono ?_; rintro e w' ⟨rfl, rfl⟩)
        go_round
        case rel => exact ⟨k + 1, by omega, by go_num, by rw [HS.out]; go_num⟩
        case measure => simp [intOf]; omega
      · have HF : Hid (v32 (D.take k) = n) := by show _ = _; rw [List.take_of_length_le (by have := HZ.out; omega)]; exact HV.out
        go_wp2_with fail
        go_ret2
        exact ⟨by rw [HF.out]; rfl, rfl⟩
end Go.Proofs.YtccmnhpkbbhomaaDoor
