/- asset.Decode64 gives back the bytes whose digits asset.Encode64 wrote, where there were at most 20000. No other conditions. -/
import Derived.Test.YtjmnnnjddbmiaaaEncP
import Derived.Test.YtjmnnnjddbmiaaaShelf
namespace Go.Proofs.Ytjmnnnjddbmiaaa
open Go.RowKit Mh
set_option linter.unusedVariables false

theorem idx_digit (c : UInt8) (m : Nat) (hm : m < 64) (hc : c = d64.getD m 0) (w : World) :
    Calls Try.prog 21 #[.string ⟨#[65, 66, 67, 68, 69, 70, 71, 72, 73, 74, 75, 76, 77, 78, 79, 80, 81, 82, 83, 84, 85, 86, 87, 88, 89, 90, 97, 98, 99, 100, 101, 102, 103, 104, 105, 106, 107, 108, 109, 110, 111, 112, 113, 114, 115, 116, 117, 118, 119, 120, 121, 122, 48, 49, 50, 51, 52, 53, 54, 55, 56, 57, 45, 95]⟩, .int .u8 (c.toNat : Int)] w fun e w' => e = .returned (.int .i64 (m : Int)) ∧ w = w' := by
  refine (Try.strings_IndexByte _ _ w).mono ?_
  rintro e w' ⟨rfl, rfl⟩
  refine ⟨?_, rfl⟩
  congr 2
  have hb : (c.toNat : Int).toNat.toUInt8 = c := by simp
  rw [hb, hc]
  exact d64_index ⟨m, hm⟩

set_option maxRecDepth 100000 in
set_option maxHeartbeats 2000000 in
theorem decode_any (s t : ByteArray) (w : World) (hs : s.size ≤ 20000) (ht : t.data.toList = enc64 s) :
    Calls Try.prog 8 #[.string t] w fun e w' => e = .returned (.tuple #[.string s, .int .i64 0]) ∧ Below w.heap.size w w' := by
  obtain ⟨i0, hi, hz0, hz1, hz2⟩ := info_parts infoU8b
  have hL : t.size = (4 * s.size + 2) / 3 := by
    have := enc64_length s
    rw [← ht] at this
    simpa using this
  have HT := Lib.hid ht
  have hl1 : t.size ≤ 200000 := by omega
  have hl2 : ((t.size : Int) % 4 == 1) = false := by
    rw [beq_eq_false_iff_ne]
    omega
  have HL := Lib.hid hL
  clear ht hL
  go_enter Try.func8, Try.ntmps8
  go_wp2_with fail
  go_loopw [4, 5] (fun v i wr => ∃ g : Nat, g ≤ grps s ∧ i = .int .i64 (4 * (g : Int)) ∧ Below w.heap.size w wr ∧ w.heap.size ≤ wr.heap.size ∧ wr.ownsRow w.heap.size 5 1 v (s.data.toList.take (3 * g)).length (byteCells (s.data.toList.take (3 * g))))
    (fun _ i _ => t.size + 4 - (intOf i).toNat)
  case atStart => exact ⟨0, by omega, rfl, Below.refl _ _, Nat.le_refl _, World.ownsRow_nil _ _ _ _⟩
  case round =>
    obtain ⟨g, hg, rfl, hbel, hsz, hown⟩ := hrel
    have hLo := HL.out
    by_cases hlt : g < grps s
    · have hm : many s g = 1 ∨ many s g = 2 ∨ many s g = 3 := by unfold grps many at *; omega
      have hm4 : min (4 : Int) (t.size - 4 * (g : Int)) = (many s g : Int) + 1 := by unfold grps many at *; omega
      have hl4 : 4 * (g : Int) < t.size := by unfold grps many at *; omega
      have hl5 : 4 * g + many s g + 1 ≤ t.size := by unfold grps many at *; omega
      have HM := Lib.hid hm4
      have hdec := dgr_all s g hlt
      have HD := Lib.hid hdec
      have HG := Lib.hid (fun k => enc_get s g k hlt)
      have hll : (s.data.toList.take (3 * g)).length + many s g ≤ 140737488355328 := by unfold many; simp; omega
      have hd0 : decide (4 * (g : Int) < (t.size : Int)) = true := by simp; omega
      have HTG := Lib.hid (take_grp s g)
      clear hm4 hdec hLo
      go_wp2_with fail
      rw [HM.out]
      have hNb := grp_bd s (3 * g) 3 (by omega)
      have HB := Lib.hid (fun j => bAt_getD s (3 * g + j))
      have H3 := Lib.hid (grp3 s (3 * g))
      generalize hmm : many s g = m at *
      generalize hNN : grp s (3 * g) 3 = N at *
      have HMM := Lib.hid hmm
      clear hmm hNN HM
      have hmb : 1 ≤ m ∧ m ≤ 3 := by omega
      go_loop [6, 31] (fun n i => ∃ k : Nat, k ≤ 4 ∧ i = .int .i64 k ∧ n = .int .i64 (dgr N m k)) (fun _ i => 4 - (intOf i).toNat)
      case atStart => exact ⟨0, by omega, rfl, rfl⟩
      case round =>
        obtain ⟨k, hk, rfl, rfl⟩ := hrel
        have hgb := dgr_bd N m k hk
        by_cases hk4 : k < 4
        · have hg1 := hgb.1
          have hg2 : dgr N m k < 262144 := by
            have h64 : (64 : Int) ^ k ≤ 64 ^ 3 := by
              have := Nat.pow_le_pow_right (show 0 < 64 by omega) (show k ≤ 3 by omega)
              exact_mod_cast this
            omega
          clear hgb
          by_cases hkm : k < m + 1
          · have hin : 4 * g + k < t.size := by omega
            have hge := HG.out k hkm
            rw [← HT.out, List.getElem?_eq_getElem (by simpa using hin)] at hge
            have hc : t[4 * g + k] = d64.getD (dig N k).toNat 0 := Option.some.inj hge
            have HC := Lib.hid hc
            have hdb := dig_bd N k
            have hstep : dgr N m (k + 1) = dgr N m k * 64 + ((dig N k).toNat : Nat) := by rw [dgr, if_pos hkm]; omega
            have HS := Lib.hid hstep
            have hdl : (dig N k).toNat < 64 := by omega
            clear hge hc hstep hdb
            generalize (dig N k).toNat = d at *
            go_wp2_with (go_at_call 21; refine (idx_digit _ d hdl HC.out _).mono ?_; rintro e w' ⟨rfl, rfl⟩)
            go_round
            case rel => exact ⟨k + 1, by omega, by go_num, by rw [HS.out]⟩
            case measure => simp [intOf]; omega
          · have hstep : dgr N m (k + 1) = dgr N m k * 64 := by rw [dgr, if_neg hkm]; omega
            have HS := Lib.hid hstep
            clear hstep
            go_wp2_with fail
            go_round
            case rel => exact ⟨k + 1, by omega, by go_num, by rw [HS.out]⟩
            case measure => simp [intOf]; omega
        · have e4 : k = 4 := by omega
          have hne : dgr N m k = N := by rw [e4]; exact HD.out
          clear e4 hgb
          have hdk : decide ((k : Int) < 4) = false := by simp; omega
          rw [hne]
          clear hne
          rcases hm with rfl | rfl | rfl
          · have e := H3.out
            have b0 := bAt_bd s (3 * g)
            have b1 := bAt_bd s (3 * g + 1)
            have b2 := bAt_bd s (3 * g + 2)
            have g0 := HB.out 0
            have g1 := HB.out 1
            have g2 := HB.out 2
            simp only [Nat.add_zero] at g0
            have hM := HMM.out
            unfold many at hM
            have o1 := bAt_out s (3 * g + 1) (by omega)
            have o2 := bAt_out s (3 * g + 2) (by omega)
            have z1 : N / 256 % 256 = 0 := by omega
            have z2 : N % 256 = 0 := by omega
            have hcur : ∀ y z : Value, (#[.int .u8 (N / 65536), y, z] : Array Value).toList.take 1 = byteCells (bys s (3 * g) 1) := by
              intro y z
              have : N / 65536 = ((s.data.toList.getD (3 * g) 0).toNat : Int) := by omega
              rw [this]
              simp [bys, byteCells, List.range_succ]
            clear o1 o2
            have HC := Lib.hid hcur
            clear e b0 b1 b2 g0 g1 g2 hM hcur
            go_wp2_with fail
            refine wp_loop_rounds 3 ?_
            repeat any_goals (rw [rounds_succ]; go_wp2_with (at_builtin; refine wpList_append_block hbel rfl _ _ 54 rfl 5 i0 (.int .u8 0) Try.underlying54 hi hz0 hz1 hz2 rfl _ _ rfl hown 1 _ (bys s (3 * g) 1) rfl (by simp [bys]) (HC.out _ _) hll (Nat.le_refl _) hsz ?_; intro v' w' hown' hbel' hsz'))
            all_goals go_roundw
            case rel => exact ⟨g + 1, by omega, by go_num, hbel', hsz', by rw [HTG.out]; exact hown'⟩
            case measure => simp [intOf]; omega
          · have e := H3.out
            have b0 := bAt_bd s (3 * g)
            have b1 := bAt_bd s (3 * g + 1)
            have b2 := bAt_bd s (3 * g + 2)
            have g0 := HB.out 0
            have g1 := HB.out 1
            have g2 := HB.out 2
            simp only [Nat.add_zero] at g0
            have hM := HMM.out
            unfold many at hM
            have o2 := bAt_out s (3 * g + 2) (by omega)
            have z2 : N % 256 = 0 := by omega
            have hcur : ∀ z : Value, (#[.int .u8 (N / 65536), .int .u8 (N / 256 % 256), z] : Array Value).toList.take 2 = byteCells (bys s (3 * g) 2) := by
              intro z
              have q0 : N / 65536 = ((s.data.toList.getD (3 * g) 0).toNat : Int) := by omega
              have q1 : N / 256 % 256 = ((s.data.toList.getD (3 * g + 1) 0).toNat : Int) := by omega
              rw [q0, q1]
              simp [bys, byteCells, List.range_succ]
            clear o2
            have HC := Lib.hid hcur
            clear e b0 b1 b2 g0 g1 g2 hM hcur
            go_wp2_with fail
            refine wp_loop_rounds 3 ?_
            repeat any_goals (rw [rounds_succ]; go_wp2_with (at_builtin; refine wpList_append_block hbel rfl _ _ 54 rfl 5 i0 (.int .u8 0) Try.underlying54 hi hz0 hz1 hz2 rfl _ _ rfl hown 2 _ (bys s (3 * g) 2) rfl (by simp [bys]) (HC.out _) hll (Nat.le_refl _) hsz ?_; intro v' w' hown' hbel' hsz'))
            all_goals go_roundw
            case rel => exact ⟨g + 1, by omega, by go_num, hbel', hsz', by rw [HTG.out]; exact hown'⟩
            case measure => simp [intOf]; omega
          · have e := H3.out
            have b0 := bAt_bd s (3 * g)
            have b1 := bAt_bd s (3 * g + 1)
            have b2 := bAt_bd s (3 * g + 2)
            have g0 := HB.out 0
            have g1 := HB.out 1
            have g2 := HB.out 2
            simp only [Nat.add_zero] at g0
            have hM := HMM.out
            unfold many at hM
            have hcur : (#[.int .u8 (N / 65536), .int .u8 (N / 256 % 256), .int .u8 (N % 256)] : Array Value).toList.take 3 = byteCells (bys s (3 * g) 3) := by
              have q0 : N / 65536 = ((s.data.toList.getD (3 * g) 0).toNat : Int) := by omega
              have q1 : N / 256 % 256 = ((s.data.toList.getD (3 * g + 1) 0).toNat : Int) := by omega
              have q2 : N % 256 = ((s.data.toList.getD (3 * g + 2) 0).toNat : Int) := by omega
              rw [q0, q1, q2]
              simp [bys, byteCells, List.range_succ]
            have HC := Lib.hid hcur
            clear e b0 b1 b2 g0 g1 g2 hM hcur
            go_wp2_with fail
            refine wp_loop_rounds 3 ?_
            repeat any_goals (rw [rounds_succ]; go_wp2_with (at_builtin; refine wpList_append_block hbel rfl _ _ 54 rfl 5 i0 (.int .u8 0) Try.underlying54 hi hz0 hz1 hz2 rfl _ _ rfl hown 3 _ (bys s (3 * g) 3) rfl (by simp [bys]) (HC.out) hll (Nat.le_refl _) hsz ?_; intro v' w' hown' hbel' hsz'))
            all_goals go_roundw
            case rel => exact ⟨g + 1, by omega, by go_num, hbel', hsz', by rw [HTG.out]; exact hown'⟩
            case measure => simp [intOf]; omega
    · have eg : s.data.toList.take (3 * g) = s.data.toList := by
        apply List.take_of_length_le
        unfold grps at *
        simp
        omega
      have hl4 : ¬ 4 * (g : Int) < t.size := by unfold grps at *; omega
      rw [eg] at hown
      clear eg hLo
      have hcv := run_convert_own (P := Try.prog) wr 54 5 Try.underlying54 Try.underlying5 hown 9 Try.underlying9
      go_wp2_with fail
      go_ret2
      exact ⟨rfl, hbel⟩
end Go.Proofs.Ytjmnnnjddbmiaaa
