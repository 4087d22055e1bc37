/- ListParts holds for every input: the parts of a pager cover all items, in order, without gaps. No conditions; the listed variables are tied to the program's text. -/
import Derived.Test.YtkcbnmhdaaokhaaDoorCards
import Derived.Test.YtkcbnmhdaaokhaaDoorTie
import Derived.Test.YtkcbnmhdaaokhaaDoorAwL2
import Derived.Test.YtkcbnmhdaaokhaaDoorLawKit
import Derived.Test.YtkcbnmhdaaokhaaDoorLaid
import Derived.Test.YtkcbnmhdaaokhaaDoorPager
import Derived.Lib.SmallJoins
import Derived.Deep.DeepHandedRow
import Derived.Lib.LaidTab
import Derived.Outline
namespace Go.Proofs.YtkcbnmhdaaokhaaDoor.LParts
open Go.ChangeShapes Go.WideShapes Go.ChangeAt Go.RowKit Mh
open Go.ChangeMaps (open_string shut_string)
set_option linter.unusedVariables false


theorem walk_bad (many size : Int) (w : World) (h : many < 0 ∨ 2000 < many ∨ size < 1 ∨ 2000 < size) :
    Calls Tryd.prog 7 #[.int .i64 many, .int .i64 size] w fun e w' => e = .returned (.bool true) ∧ Below w.heap.size w w' := by
  have HP := Lib.hid (fun w' => pager_bad many size w' h)
  clear h
  go_enter Tryd.func7, Tryd.ntmps7
  go_wp2_with fail
  refine (awakeList_any _).mono ?_
  rintro e w1 ⟨rfl, hb1⟩
  go_wp2_with fail
  refine (HP.out _).mono ?_
  rintro e w2 ⟨rfl, rfl⟩
  go_wp2_with fail
  go_ret
  exact ⟨rfl, hb1⟩

set_option maxRecDepth 100000 in
set_option maxHeartbeats 2000000 in
theorem walk_ok (many size : Nat) (w : World) (hm : many ≤ 2000) (hs : 1 ≤ size) (hs2 : size ≤ 2000) :
    Calls Tryd.prog 7 #[.int .i64 many, .int .i64 size] w fun e w' => e = .returned (.bool true) ∧ Below w.heap.size w w' := by
  have HP := Lib.hid (fun w' => pager_ok many size w' hm hs hs2)
  go_enter Tryd.func7, Tryd.ntmps7
  go_wp2_with fail
  refine (awakeList_any _).mono ?_
  rintro e w1 ⟨rfl, hb1⟩
  go_wp2_with fail
  refine (HP.out _).mono ?_
  rintro e w2 ⟨K, v, rfl, hb2, hsl, hK1, hK2, hK3⟩
  have HB2 := Lib.hid (hb1.trans (hb2.mono hb1.size))
  have HK2 := Lib.hid hK2
  have HK3 := Lib.hid hK3
  rcases hsl.2 with ⟨h0, _⟩ | ⟨b, off, c, rfl, hn0, hnc, hcm, hlt, hcell⟩
  · omega
  have HC : Hid (∀ i, i < K → ∀ j, j < 3 → w2.cell? ⟨b, off + i * 3 + j, none⟩ = (partC many size i)[j]?) := by
    intro i hi j hj
    have := partsC_get many size K i hi j hj
    have hl : j < (partC many size i).length := hj
    rw [List.getElem?_eq_getElem hl] at this
    rw [List.getElem?_eq_getElem hl]
    rw [Nat.add_assoc]
    exact hcell _ _ this
  have HC' := HC
  unfold partC at HC
  have hKm : K ≤ 2001 := by
    rcases hK2 with h | h
    · omega
    · have := Nat.mul_le_mul_left (K - 1) hs
      omega
  clear hb1 hb2 hsl hK2 hK3 hcell HC'
  go_wp2_with fail
  go_loopw [7, 29] (fun at_ i wr => ∃ k A : Nat, k ≤ K ∧ A ≤ 2000 ∧ Hid (A = min (k * size) many) ∧ i = .int .i64 k ∧ at_ = .int .i64 A ∧ Below w2.heap.size w2 wr)
    (fun _ i _ => K - (intOf i).toNat)
  case atStart => exact ⟨0, 0, by omega, by omega, by simp [Hid], rfl, rfl, Below.refl _ _⟩
  case round =>
    obtain ⟨k, A, hk, hA, HA, rfl, rfl, hbr⟩ := hrel
    by_cases hkl : k < K
    · have g0 := (hbr.cell (p := ⟨b, off + k * 3 + 0, none⟩) hlt).trans (HC.out k hkl 0 (by omega))
      have g1 := (hbr.cell (p := ⟨b, off + k * 3 + 1, none⟩) hlt).trans (HC.out k hkl 1 (by omega))
      have g2 := (hbr.cell (p := ⟨b, off + k * 3 + 2, none⟩) hlt).trans (HC.out k hkl 2 (by omega))
      simp only [List.getElem?_cons_zero, List.getElem?_cons_succ, Nat.add_zero] at g0 g1 g2
      have hF : k * size = A := by
        rw [HA.out]
        rcases Nat.eq_zero_or_pos k with h0 | h0
        · subst h0; simp
        · have h1 := HK2.out.resolve_left (by omega)
          have := Nat.mul_le_mul_right size (show k ≤ K - 1 by omega)
          omega
      obtain ⟨T, hT⟩ : ∃ T, T = min (A + size) many := ⟨_, rfl⟩
      have hTi : min ((A : Int) + (size : Int)) (many : Int) = (T : Int) := by omega
      rw [hF] at g1 g2
      rw [hTi] at g2
      have hAm : A ≤ many := by rw [HA.out]; exact Nat.min_le_right _ _
      have HT' : Hid (T = min ((k + 1) * size) many) := by show _ = _; rw [Nat.succ_mul, hF, hT]
      have hT0 : A ≤ T := by omega
      have hT1 : (T : Int) - (A : Int) ≤ (size : Int) := by omega
      have hT2 : T ≤ 2000 := by omega
      have hTn : k + 1 < K → T = A + size := by
        intro h
        have h1 := HK2.out.resolve_left (by omega)
        have := Nat.mul_le_mul_right size (show k + 1 ≤ K - 1 by omega)
        rw [Nat.succ_mul] at this
        omega
      have hTm : 0 < many → A < T := by
        intro h
        have : A < many := by
          rcases Nat.eq_zero_or_pos k with h0 | h0
          · subst h0; simp at hF; omega
          · have h1 := HK2.out.resolve_left (by omega)
            have := Nat.mul_le_mul_right size (show k ≤ K - 1 by omega)
            omega
        omega
      have q0 : ((k : Int) + 1 != (k : Int) + 1) = false := by simp
      have q1 : ((A : Int) != (A : Int)) = false := by simp
      have q2 : decide ((T : Int) < (A : Int)) = false := decide_eq_false (by omega)
      have q2n : decide (T < A) = false := decide_eq_false (by omega)
      have q3 : decide ((size : Int) < (T : Int) - (A : Int)) = false := decide_eq_false (by omega)
      have ways : (decide ((k : Int) < (K : Int) - 1) = false ∨ (decide ((k : Int) < (K : Int) - 1) = true ∧ ((T : Int) - (A : Int) != (size : Int)) = false)) ∧ (((T : Int) == (A : Int)) = false ∨ (((T : Int) == (A : Int)) = true ∧ decide (0 < (many : Int)) = false ∧ decide (0 < many) = false)) := by
        refine ⟨?_, ?_⟩
        · by_cases h : k + 1 < K
          · have := hTn h
            right
            exact ⟨decide_eq_true (by omega), by rw [bne_eq_false_iff_eq]; omega⟩
          · left
            exact decide_eq_false (by omega)
        · by_cases h : 0 < many
          · have := hTm h
            left
            rw [beq_eq_false_iff_ne]; omega
          · right
            exact ⟨by rw [beq_iff_eq]; omega, decide_eq_false (by omega), decide_eq_false (by omega)⟩
      clear hTi hF hTn hTm hT
      obtain ⟨w1 | ⟨w1, w2'⟩, w3 | ⟨w3, w4, w5⟩⟩ := ways
      all_goals
        go_wp2_with fail
        go_roundw
        case rel => exact ⟨k + 1, T, by omega, by omega, HT', by go_num, rfl, hbr.alloc hbr.size _⟩
        case measure => simp [intOf]; omega
    · obtain rfl : k = K := by omega
      have hAm : A = many := by rw [HA.out]; have := HK3.out; omega
      have q0 : ((A : Int) == (many : Int)) = true := by rw [hAm]; simp
      have q1 : decide (0 < (k : Int)) = true := decide_eq_true (by omega)
      have HB := Lib.hid (HB2.out.trans (hbr.mono HB2.out.size))
      clear hAm
      go_wp2_with fail
      go_ret
      exact ⟨rfl, HB.out⟩

theorem walk (many size : Int) (w : World) : Calls Tryd.prog 7 #[.int .i64 many, .int .i64 size] w fun e w' => e = .returned (.bool true) ∧ Below w.heap.size w w' := by
  by_cases h : many < 0 ∨ 2000 < many ∨ size < 1 ∨ 2000 < size
  · exact walk_bad many size w h
  · obtain ⟨m, rfl⟩ : ∃ n : Nat, many = n := ⟨many.toNat, by omega⟩
    obtain ⟨z, rfl⟩ : ∃ n : Nat, size = n := ⟨size.toNat, by omega⟩
    exact walk_ok m z w (by omega) (by omega) (by omega)

end Go.Proofs.YtkcbnmhdaaokhaaDoor.LParts
