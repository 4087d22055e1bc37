/- sort.symMerge_func over a state that 'less' and 'swap' carry on: a merge that keeps the order of equals. Conditions: indices within a length below 2^62; 'less' is a strict weak order. -/
import Derived.Test.YtgalcdolhnckmaaGreatDoorSrX
import Derived.Deep.CutRange
namespace Go.Proofs.YtgalcdolhnckmaaGreatDoor
open Go.RowKit Mh
open Go.Sort (swp SWO)
set_option linter.unusedVariables false
theorem half_up (i j : Nat) (h : i + j < 9223372036854775807) : ((i : Int) + (j : Int)) / 2 = (((i + j) / 2 : Nat) : Int) := by omega
section
variable {β : Type} [Inhabited β] {g : Nat} {lb : Array Value} {sf : Nat} {sb : Array Value} {blk n : Nat} {lt : β → β → Bool} {tag : β → Nat} {St : World → Array β → Prop}
/-- What a call of symMerge_func does. -/
def SymOk (P : Program) (f : Nat) (g : Nat) (lb : Array Value) (sf : Nat) (sb : Array Value) (blk n : Nat) (lt : β → β → Bool) (tag : β → Nat) (St : World → Array β → Prop) (a m b : Nat) : Prop :=
  ∀ (w : World) (d : Array β), St w d → Calls P f #[.agg #[.func (.func g) #[] lb, .func (.func sf) #[] sb], .int .i64 (a : Nat), .int .i64 (m : Nat), .int .i64 (b : Nat)] w fun e w' => e = .returned (.tuple #[]) ∧ ∃ d', St w' d' ∧ (d'.size = n ∧ (Pre lt tag a m b d → Mrg lt tag a b d d')) ∧ Alg blk w w'
set_option maxRecDepth 100000 in
set_option maxHeartbeats 4000000 in
theorem sym_left (S : Srt Tryz.prog g lb sf sb blk n lt St) (hO : SWO lt) (hn : n < 4611686018427387904) (a b : Nat) (hab : a + 1 < b) (hb : b ≤ n) : SymOk Tryz.prog 61 g lb sf sb blk n lt tag St a (a + 1) b := by
  intro w d h
  obtain ⟨hsd, hblk⟩ := S.sz w d h
  have HSD := Lib.hid hsd
  have HBX : Hid ((w.alloc (.cells #[.func (.func g) #[] lb, .func (.func sf) #[] sb] 79)).heap[w.heap.size]? = some (.cells #[.func (.func g) #[] lb, .func (.func sf) #[] sb] 79 (0, 0))) := heap_alloc_new _ _
  have HS0 : Hid (St (w.alloc (.cells #[.func (.func g) #[] lb, .func (.func sf) #[] sb] 79)) d) := S.al h _
  have HA0 : Hid (Alg blk w (w.alloc (.cells #[.func (.func g) #[] lb, .func (.func sf) #[] sb] 79))) := (Alg.refl _ _).alloc _
  have HSZ := Lib.hid (fun w' (d' : Array β) (h3 : St w' d') => (S.sz w' d' h3).1)
  have HRO := Lib.hid (Rot.one a d)
  have eg := S.eg
  have hm1 : ((a + 1 : Nat) : Int) = (a : Int) + 1 := by omega
  have hq : ((a : Int) + 1 - (a : Int) == 1) = true := by rw [beq_iff_eq]; omega
  rw [hm1]
  clear h hsd hm1
  go_enter Tryz.func61, Tryz.ntmps61
  go_wp2_with fail
  generalize hw1 : World.alloc w _ = w1 at HBX HS0 HA0 ⊢
  clear hw1
  have HZ1 : Hid (w.heap.size < w1.heap.size) := (Array.getElem?_eq_some_iff.1 HBX.out).1
  go_loopw [8, 9] (fun vi vj wr => ∃ (i j : Nat), a + 1 ≤ i ∧ i ≤ j ∧ j ≤ b ∧ vi = .int .i64 (i : Nat) ∧ vj = .int .i64 (j : Nat) ∧ Hid (St wr d) ∧ Hid (i = a + 1 ∨ lt d[i - 1]! d[a]! = true) ∧ Hid (j = b ∨ lt d[j]! d[a]! = false) ∧ Hid (Alg blk w1 wr)) (fun vi vj _ => (intOf vj).toNat - (intOf vi).toNat)
  case atStart => exact ⟨a + 1, b, Nat.le_refl _, by omega, Nat.le_refl _, by go_num, rfl, HS0, .inl rfl, .inl rfl, Alg.refl _ _⟩
  case round =>
    obtain ⟨i, j, hai, hij, hjb, rfl, rfl, HS, HI, HJ, HA⟩ := hrel
    clear HS0
    obtain ⟨wo, rfl⟩ : ∃ wo : World, wo = wr := ⟨_, rfl⟩
    have hB := (HA.out.block w.heap.size HZ1.out (by omega)).trans HBX.out
    by_cases hlt : i < j
    · have c0 := cellT hB (i := 0) rfl
      have hd : decide ((i : Int) < (j : Int)) = true := decide_eq_true (by omega)
      have HC := Lib.hid (S.less wo d HS.out ((i + j) / 2) a (by omega) (by omega))
      rw [show (((i + j) / 2 : Nat) : Int) = ((i : Int) + (j : Int)) / 2 by omega] at HC
      go_wp2_with fail
      refine HC.out.mono ?_
      rintro e w2 ⟨rfl, hb2⟩
      have HS2 := Lib.hid (S.grow _ _ _ HS.out hb2)
      have HA2 := Lib.hid (HA.out.trans (Alg.of_below (blk := blk) hb2))
      clear hb2 hB c0 HC
      cases hlv : lt d[(i + j) / 2]! d[a]! with
      | true =>
        have HI2 : Hid ((i + j) / 2 + 1 = a + 1 ∨ lt d[(i + j) / 2 + 1 - 1]! d[a]! = true) := .inr hlv
        clear hlv
        go_wp2_with fail
        go_roundw
        case rel => exact ⟨(i + j) / 2 + 1, j, by omega, by omega, by omega, by congr 1, rfl, HS2, HI2, HJ, HA2⟩
        case measure => simp only [intOf]; omega
      | false =>
        have HJ2 : Hid ((i + j) / 2 = b ∨ lt d[(i + j) / 2]! d[a]! = false) := .inr hlv
        clear hlv
        go_wp2_with fail
        go_roundw
        case rel => exact ⟨i, (i + j) / 2, by omega, by omega, by omega, rfl, by congr 1, HS2, HI, HJ2, HA2⟩
        case measure => simp only [intOf]; omega
    · obtain rfl : i = j := by omega
      clear hB
      go_wp2_with fail
      go_loopw [11] (fun vk wr => ∃ (k : Nat) (dk : Array β), a ≤ k ∧ k ≤ i - 1 ∧ vk = .int .i64 (k : Nat) ∧ Hid (St wr dk) ∧ Hid (Rot a (a + 1) (k + 1) d dk) ∧ Hid (Alg blk w1 wr)) (fun vk _ => i - 1 - (intOf vk).toNat)
      case atStart => exact ⟨a, d, Nat.le_refl _, by omega, rfl, HS, HRO, HA⟩
      case round =>
        obtain ⟨k, dk, hak, hki, rfl, HSk, HRk, HAk⟩ := hrel
        clear HS HA
        obtain ⟨wp, rfl⟩ : ∃ wp : World, wp = wr := ⟨_, rfl⟩
        have hB := (HAk.out.block w.heap.size HZ1.out (by omega)).trans HBX.out
        by_cases hlk : k < i - 1
        · have c1 := cellT hB (i := 1) rfl
          have hd : decide ((k : Int) < (i : Int) - 1) = true := decide_eq_true (by omega)
          obtain ⟨w3, hrun, hst3, halg3⟩ := S.swap wp dk HSk.out k (k + 1) (by omega) (by omega)
          rw [Int.natCast_succ] at hrun
          have HS3 := Lib.hid hst3
          have HA3 := Lib.hid (HAk.out.trans halg3)
          have HR3 := Lib.hid (HRk.out.up hak (by have := HSD.out; omega))
          clear hB hst3 halg3
          go_wp2_with fail
          go_roundw
          case rel => exact ⟨k + 1, _, by omega, by omega, by go_num, HS3, HR3, HA3⟩
          case measure => simp only [intOf]; omega
        · have hk : k + 1 = i := by omega
          have hd : decide ((k : Int) < (i : Int) - 1) = false := decide_eq_false (by omega)
          have HF : Hid (dk.size = n ∧ (Pre lt tag a (a + 1) b d → Mrg lt tag a b d dk)) := ⟨HSZ.out _ _ HSk.out, fun hP => by
            have hR := HRk.out
            rw [hk] at hR
            exact one_left hO hP hai hjb (by have := HSD.out; omega) HI.out HJ.out hR⟩
          clear hB
          go_wp2_with fail
          refine bodyPost_ret (results_none rfl _ _ _) rfl ?_
          exact ⟨rfl, dk, HSk.out, HF.out, HA0.out.trans HAk.out⟩
set_option maxRecDepth 100000 in
set_option maxHeartbeats 4000000 in
theorem sym_right (S : Srt Tryz.prog g lb sf sb blk n lt St) (hO : SWO lt) (hn : n < 4611686018427387904) (a m : Nat) (ham : a + 1 < m) (hb : m + 1 ≤ n) : SymOk Tryz.prog 61 g lb sf sb blk n lt tag St a m (m + 1) := by
  intro w d h
  obtain ⟨hsd, hblk⟩ := S.sz w d h
  have HSD := Lib.hid hsd
  have HBX : Hid ((w.alloc (.cells #[.func (.func g) #[] lb, .func (.func sf) #[] sb] 79)).heap[w.heap.size]? = some (.cells #[.func (.func g) #[] lb, .func (.func sf) #[] sb] 79 (0, 0))) := heap_alloc_new _ _
  have HS0 : Hid (St (w.alloc (.cells #[.func (.func g) #[] lb, .func (.func sf) #[] sb] 79)) d) := S.al h _
  have HA0 : Hid (Alg blk w (w.alloc (.cells #[.func (.func g) #[] lb, .func (.func sf) #[] sb] 79))) := (Alg.refl _ _).alloc _
  have HSZ := Lib.hid (fun w' (d' : Array β) (h3 : St w' d') => (S.sz w' d' h3).1)
  have HRO := Lib.hid (Rot.one' m d)
  have eg := S.eg
  have hm1 : ((m + 1 : Nat) : Int) = (m : Int) + 1 := by omega
  have hq : ((m : Int) - (a : Int) == 1) = false := by rw [beq_eq_false_iff_ne]; omega
  have hq2 : ((m : Int) + 1 - (m : Int) == 1) = true := by rw [beq_iff_eq]; omega
  rw [hm1]
  clear h hsd hm1
  go_enter Tryz.func61, Tryz.ntmps61
  go_wp2_with fail
  generalize hw1 : World.alloc w _ = w1 at HBX HS0 HA0 ⊢
  clear hw1
  have HZ1 : Hid (w.heap.size < w1.heap.size) := (Array.getElem?_eq_some_iff.1 HBX.out).1
  go_loopw [12, 13] (fun vi vj wr => ∃ (i j : Nat), a ≤ i ∧ i ≤ j ∧ j ≤ m ∧ vi = .int .i64 (i : Nat) ∧ vj = .int .i64 (j : Nat) ∧ Hid (St wr d) ∧ Hid (i = a ∨ lt d[m]! d[i - 1]! = false) ∧ Hid (j = m ∨ lt d[m]! d[j]! = true) ∧ Hid (Alg blk w1 wr)) (fun vi vj _ => (intOf vj).toNat - (intOf vi).toNat)
  case atStart => exact ⟨a, m, Nat.le_refl _, by omega, Nat.le_refl _, rfl, rfl, HS0, .inl rfl, .inl rfl, Alg.refl _ _⟩
  case round =>
    obtain ⟨i, j, hai, hij, hjb, rfl, rfl, HS, HI, HJ, HA⟩ := hrel
    clear HS0
    obtain ⟨wo, rfl⟩ : ∃ wo : World, wo = wr := ⟨_, rfl⟩
    have hB := (HA.out.block w.heap.size HZ1.out (by omega)).trans HBX.out
    by_cases hlt : i < j
    · have c0 := cellT hB (i := 0) rfl
      have hd : decide ((i : Int) < (j : Int)) = true := decide_eq_true (by omega)
      have HC := Lib.hid (S.less wo d HS.out m ((i + j) / 2) (by omega) (by omega))
      rw [show (((i + j) / 2 : Nat) : Int) = ((i : Int) + (j : Int)) / 2 by omega] at HC
      go_wp2_with fail
      refine HC.out.mono ?_
      rintro e w2 ⟨rfl, hb2⟩
      have HS2 := Lib.hid (S.grow _ _ _ HS.out hb2)
      have HA2 := Lib.hid (HA.out.trans (Alg.of_below (blk := blk) hb2))
      clear hb2 hB c0 HC
      cases hlv : lt d[m]! d[(i + j) / 2]! with
      | false =>
        have HI2 : Hid ((i + j) / 2 + 1 = a ∨ lt d[m]! d[(i + j) / 2 + 1 - 1]! = false) := .inr hlv
        clear hlv
        go_wp2_with fail
        go_roundw
        case rel => exact ⟨(i + j) / 2 + 1, j, by omega, by omega, by omega, by congr 1, rfl, HS2, HI2, HJ, HA2⟩
        case measure => simp only [intOf]; omega
      | true =>
        have HJ2 : Hid ((i + j) / 2 = m ∨ lt d[m]! d[(i + j) / 2]! = true) := .inr hlv
        clear hlv
        go_wp2_with fail
        go_roundw
        case rel => exact ⟨i, (i + j) / 2, by omega, by omega, by omega, rfl, by congr 1, HS2, HI, HJ2, HA2⟩
        case measure => simp only [intOf]; omega
    · obtain rfl : i = j := by omega
      clear hB
      go_wp2_with fail
      go_loopw [15] (fun vk wr => ∃ (k : Nat) (dk : Array β), i ≤ k ∧ k ≤ m ∧ vk = .int .i64 (k : Nat) ∧ Hid (St wr dk) ∧ Hid (Rot k m (m + 1) d dk) ∧ Hid (Alg blk w1 wr)) (fun vk _ => (intOf vk).toNat)
      case atStart => exact ⟨m, d, by omega, Nat.le_refl _, rfl, HS, HRO, HA⟩
      case round =>
        obtain ⟨k, dk, hik, hkm, rfl, HSk, HRk, HAk⟩ := hrel
        clear HS HA
        obtain ⟨wp, rfl⟩ : ∃ wp : World, wp = wr := ⟨_, rfl⟩
        have hB := (HAk.out.block w.heap.size HZ1.out (by omega)).trans HBX.out
        by_cases hlk : i < k
        · have c1 := cellT hB (i := 1) rfl
          have hd : decide ((i : Int) < (k : Int)) = true := decide_eq_true (by omega)
          obtain ⟨w3, hrun, hst3, halg3⟩ := S.swap wp dk HSk.out k (k - 1) (by omega) (by omega)
          rw [show (((k - 1 : Nat) : Int)) = (k : Int) - 1 by omega] at hrun
          have HS3 := Lib.hid hst3
          have HA3 := Lib.hid (HAk.out.trans halg3)
          have HR3 : Hid (Rot (k - 1) m (m + 1) d (swp dk k (k - 1))) := by
            have hk1 : k - 1 + 1 = k := by omega
            have := Rot.down (m := m) (k := k - 1) (d := d) (d' := dk) (by rw [hk1]; exact HRk.out) (by omega) (by have := HSD.out; omega)
            rw [hk1] at this
            exact this
          clear hB hst3 halg3
          go_wp2_with fail
          go_roundw
          case rel => exact ⟨k - 1, _, by omega, by omega, by go_num, HS3, HR3, HA3⟩
          case measure => simp only [intOf]; omega
        · have hk : k = i := by omega
          have hd : decide ((i : Int) < (k : Int)) = false := decide_eq_false (by omega)
          have HF : Hid (dk.size = n ∧ (Pre lt tag a m (m + 1) d → Mrg lt tag a (m + 1) d dk)) := ⟨HSZ.out _ _ HSk.out, fun hP => by
            have hR := HRk.out
            rw [hk] at hR
            exact one_right hO hP hai hjb (by have := HSD.out; omega) HI.out HJ.out hR⟩
          clear hB
          go_wp2_with fail
          refine bodyPost_ret (results_none rfl _ _ _) rfl ?_
          exact ⟨rfl, dk, HSk.out, HF.out, HA0.out.trans HAk.out⟩
end
end Go.Proofs.YtgalcdolhnckmaaGreatDoor
