/- sort.swapRange_func and rotate_func over a state that 'less' and 'swap' carry on. Conditions: indices within a length below 2^62. -/
import Derived.Test.YtgalcdolhnckmaaGreatDoorProg
import Derived.Test.YtgalcdolhnckmaaGreatDoorSrA
import Derived.Outline
import Derived.Deep.Cut
namespace Go.Proofs.YtgalcdolhnckmaaGreatDoor
open Go.RowKit Mh
open Go.Sort (swp)
set_option linter.unusedVariables false
section
variable {β : Type} [Inhabited β] {g : Nat} {lb : Array Value} {sf : Nat} {sb : Array Value} {blk n : Nat} {lt : β → β → Bool} {St : World → Array β → Prop}
set_option maxRecDepth 100000 in
set_option maxHeartbeats 4000000 in
theorem swapR_any (S : Srt Tryz.prog g lb sf sb blk n lt St) (hn : n < 4611686018427387904) (a b k : Nat) (hab : a + k ≤ b) (hb : b + k ≤ n) (w : World) (d : Array β) (h : St w d) :
    Calls Tryz.prog 94 #[.agg #[.func (.func g) #[] lb, .func (.func sf) #[] sb], .int .i64 (a : Nat), .int .i64 (b : Nat), .int .i64 (k : Nat)] w fun e w' => e = .returned (.tuple #[]) ∧ ∃ d', St w' d' ∧ SwR a b k d d' ∧ Alg blk w w' := by
  obtain ⟨hsd, hblk⟩ := S.sz w d h
  have HSD := Lib.hid hsd
  have HBX : Hid ((w.alloc (.cells #[.func (.func g) #[] lb, .func (.func sf) #[] sb] 79)).heap[w.heap.size]? = some (.cells #[.func (.func g) #[] lb, .func (.func sf) #[] sb] 79 (0, 0))) := heap_alloc_new _ _
  have HS0 : Hid (St (w.alloc (.cells #[.func (.func g) #[] lb, .func (.func sf) #[] sb] 79)) d) := S.al h _
  have HA0 : Hid (Alg blk w (w.alloc (.cells #[.func (.func g) #[] lb, .func (.func sf) #[] sb] 79))) := (Alg.refl _ _).alloc _
  have HR0 := Lib.hid (SwR.zero a b d)
  clear h hsd
  go_enter Tryz.func94, Tryz.ntmps94
  go_wp2_with fail
  generalize hw1 : World.alloc w _ = w1 at HBX HS0 HA0 ⊢
  clear hw1
  have HZ1 : Hid (w.heap.size < w1.heap.size) := (Array.getElem?_eq_some_iff.1 HBX.out).1
  go_loopw [8] (fun vi wr => ∃ (i : Nat) (dk : Array β), i ≤ k ∧ vi = .int .i64 (i : Nat) ∧ Hid (St wr dk) ∧ Hid (SwR a b i d dk) ∧ Hid (Alg blk w1 wr)) (fun vi _ => k - (intOf vi).toNat)
  case atStart => exact ⟨0, d, Nat.zero_le _, rfl, HS0, HR0, Alg.refl _ _⟩
  case round =>
    obtain ⟨i, dk, hik, rfl, HS, HR, HA⟩ := hrel
    obtain ⟨wo, rfl⟩ : ∃ wo : World, wo = wr := ⟨_, rfl⟩
    by_cases hlt : i < k
    · have hB := (HA.out.block w.heap.size HZ1.out (by omega)).trans HBX.out
      have c0 := cellT hB (i := 0) rfl
      have c1 := cellT hB (i := 1) rfl
      obtain ⟨w2, hrun, hst2, halg2⟩ := S.swap wo dk HS.out (a + i) (b + i) (by omega) (by omega)
      have HS2 := Lib.hid hst2
      have HA2 := Lib.hid (HA.out.trans halg2)
      have HR2 := Lib.hid (HR.out.step hlt hab (by have := HSD.out; omega))
      rw [Int.natCast_add, Int.natCast_add] at hrun
      clear hB hst2 halg2
      go_wp2_with fail
      go_roundw
      case rel => exact ⟨i + 1, _, by omega, by go_num, HS2, HR2, HA2⟩
      case measure => simp [intOf]; omega
    · have e : i = k := by omega
      subst e
      go_wp2_with fail
      go_end0
      exact ⟨rfl, dk, HS.out, HR.out, HA0.out.trans HA.out⟩
set_option maxRecDepth 100000 in
set_option maxHeartbeats 4000000 in
theorem rotate_any (S : Srt Tryz.prog g lb sf sb blk n lt St) (hn : n < 4611686018427387904) (a m b : Nat) (ham : a < m) (hmb : m < b) (hb : b ≤ n) (w : World) (d : Array β) (h : St w d) :
    Calls Tryz.prog 80 #[.agg #[.func (.func g) #[] lb, .func (.func sf) #[] sb], .int .i64 (a : Nat), .int .i64 (m : Nat), .int .i64 (b : Nat)] w fun e w' => e = .returned (.tuple #[]) ∧ ∃ d', St w' d' ∧ Rot a m b d d' ∧ Alg blk w w' := by
  obtain ⟨hsd, hblk⟩ := S.sz w d h
  have HBX : Hid ((w.alloc (.cells #[.func (.func g) #[] lb, .func (.func sf) #[] sb] 79)).heap[w.heap.size]? = some (.cells #[.func (.func g) #[] lb, .func (.func sf) #[] sb] 79 (0, 0))) := heap_alloc_new _ _
  have HS0 : Hid (St (w.alloc (.cells #[.func (.func g) #[] lb, .func (.func sf) #[] sb] 79)) d) := S.al h _
  have HA0 : Hid (Alg blk w (w.alloc (.cells #[.func (.func g) #[] lb, .func (.func sf) #[] sb] 79))) := (Alg.refl _ _).alloc _
  have HSW := Lib.hid (fun (a b k : Nat) (h1 : a + k ≤ b) (h2 : b + k ≤ n) w' (d' : Array β) (h3 : St w' d') => swapR_any S hn a b k h1 h2 w' d' h3)
  have HSZ := Lib.hid (fun w' (d' : Array β) (h3 : St w' d') => (S.sz w' d' h3).1)
  have HR0 : Hid (∀ d', Rot (m - (m - a)) m (m + (b - m)) d d' → Rot a m b d d') := fun d' hr => by rwa [show m - (m - a) = a by omega, show m + (b - m) = b by omega] at hr
  clear h hsd
  go_enter Tryz.func80, Tryz.ntmps80
  go_wp2_with fail
  generalize hw1 : World.alloc w _ = w1 at HBX HS0 HA0 ⊢
  clear hw1
  have HZ1 : Hid (w.heap.size < w1.heap.size) := (Array.getElem?_eq_some_iff.1 HBX.out).1
  go_loopw [8, 9] (fun vi vj wr => ∃ (i j : Nat) (dk : Array β), 0 < i ∧ 0 < j ∧ i ≤ m ∧ m + j ≤ n ∧ vi = .int .i64 (i : Nat) ∧ vj = .int .i64 (j : Nat) ∧ Hid (St wr dk) ∧ Hid (∀ d', Rot (m - i) m (m + j) dk d' → Rot a m b d d') ∧ Hid (Alg blk w1 wr)) (fun vi vj _ => (intOf vi).toNat + (intOf vj).toNat)
  case atStart => exact ⟨m - a, b - m, d, by omega, by omega, by omega, by omega, by go_num, by go_num, HS0, HR0, Alg.refl _ _⟩
  case round =>
    obtain ⟨i, j, dk, hi0, hj0, him, hjn, rfl, rfl, HS, HR, HA⟩ := hrel
    clear HS0 HR0
    obtain ⟨wo, rfl⟩ : ∃ wo : World, wo = wr := ⟨_, rfl⟩
    have hB := (HA.out.block w.heap.size HZ1.out (by omega)).trans HBX.out
    have c0 := cellT hB (i := 0) rfl
    have c1 := cellT hB (i := 1) rfl
    have HD : Hid (dk.size = n) := HSZ.out _ _ HS.out
    by_cases hij : i = j
    · subst hij
      have hq : ((i : Int) != (i : Int)) = false := by simp
      have HC := Lib.hid (HSW.out (m - i) m i (by omega) (by omega) wo dk HS.out)
      rw [show (((m - i : Nat) : Int)) = (m : Int) - (i : Int) by omega] at HC
      clear hB
      go_wp2_with fail
      refine HC.out.mono ?_
      rintro e w2 ⟨rfl, d2, hs2, hr2, ha2⟩
      have HF := Lib.hid (HR.out d2 (Rot.even him hr2))
      have HS2 := Lib.hid hs2
      have HA2 := Lib.hid (HA.out.trans ha2)
      clear hs2 hr2 ha2
      go_wp2_with fail
      go_end0
      exact ⟨rfl, d2, HS2.out, HF.out, HA0.out.trans HA2.out⟩
    · have hq : ((i : Int) != (j : Int)) = true := by rw [bne_iff_ne]; omega
      by_cases hgt : j < i
      · have HC := Lib.hid (HSW.out (m - i) m j (by omega) (by omega) wo dk HS.out)
        rw [show (((m - i : Nat) : Int)) = (m : Int) - (i : Int) by omega] at HC
        clear hB hij
        go_wp2_with fail
        refine HC.out.mono ?_
        rintro e w2 ⟨rfl, d2, hs2, hr2, ha2⟩
        have HF : Hid (∀ d', Rot (m - (i - j)) m (m + j) d2 d' → Rot a m b d d') := fun d' h => HR.out d' (Rot.left him hgt (by have := HD.out; omega) hr2 h)
        have HS2 := Lib.hid hs2
        have HA2 := Lib.hid (HA.out.trans ha2)
        clear hs2 hr2 ha2
        go_wp2_with fail
        go_roundw
        case rel => exact ⟨i - j, j, d2, by omega, by omega, by omega, by omega, by go_num, rfl, HS2, HF, HA2⟩
        case measure => simp [intOf]; omega
      · have HC := Lib.hid (HSW.out (m - i) (m + j - i) i (by omega) (by omega) wo dk HS.out)
        rw [show (((m - i : Nat) : Int)) = (m : Int) - (i : Int) by omega, show (((m + j - i : Nat) : Int)) = (m : Int) + (j : Int) - (i : Int) by omega] at HC
        have hlt : i < j := by omega
        clear hB hij
        go_wp2_with fail
        refine HC.out.mono ?_
        rintro e w2 ⟨rfl, d2, hs2, hr2, ha2⟩
        have HF : Hid (∀ d', Rot (m - i) m (m + (j - i)) d2 d' → Rot a m b d d') := fun d' h => HR.out d' (Rot.right him hlt (by have := HD.out; omega) hr2 h)
        have HS2 := Lib.hid hs2
        have HA2 := Lib.hid (HA.out.trans ha2)
        clear hs2 hr2 ha2
        go_wp2_with fail
        go_roundw
        case rel => exact ⟨i, j - i, d2, by omega, by omega, by omega, by omega, rfl, by go_num, HS2, HF, HA2⟩
        case measure => simp [intOf]; omega
end
end Go.Proofs.YtgalcdolhnckmaaGreatDoor
