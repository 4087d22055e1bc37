/- asset.side: what it reads of a number's digits. -/
import Derived.Test.YtjmnnnjddbmiaaaDoorProg
import Derived.Test.YtjmnnnjddbmiaaaDoorPath
namespace Go.Proofs.YtjmnnnjddbmiaaaDoor
open Go.RowKit Mh
set_option linter.unusedVariables false

theorem adigit_any (n : Int) (w : World) : Calls Tryd.prog 50 #[.int .u8 n] w fun e w' => e = .returned (.bool (digitB n)) ∧ w = w' := by
  by_cases h1 : 48 ≤ n
  · by_cases h2 : n ≤ 57
    · have a1 : decide (n ≤ 57) = true := decide_eq_true h2
      have hd : digitB n = true := by unfold digitB; exact decide_eq_true ⟨h1, h2⟩
      have H := Lib.hid hd
      clear hd
      go_enter Tryd.func50, Tryd.ntmps50
      go_wp2_with fail
      go_ret
      exact ⟨by rw [H.out]; rfl, rfl⟩
    · have a1 : decide (n ≤ 57) = false := decide_eq_false h2
      have hd : digitB n = false := by unfold digitB; exact decide_eq_false (fun h => by omega)
      have H := Lib.hid hd
      clear hd
      go_enter Tryd.func50, Tryd.ntmps50
      go_wp2_with fail
      go_ret
      exact ⟨by rw [H.out]; rfl, rfl⟩
  · have a1 : decide (48 ≤ n) = false := decide_eq_false h1
    have hd : digitB n = false := by unfold digitB; exact decide_eq_false (fun h => by omega)
    have H := Lib.hid hd
    clear hd
    go_enter Tryd.func50, Tryd.ntmps50
    go_wp2_with fail
    go_ret
    exact ⟨by rw [H.out]; rfl, rfl⟩


/-- The number that digits write. -/
def dvl (l : List UInt8) : Nat := l.foldl (fun n c => 10 * n + (c.toNat - 48)) 0
theorem dvl_step (s : ByteArray) (k : Nat) (h : k < s.size) : dvl (s.data.toList.take (k + 1)) = 10 * dvl (s.data.toList.take k) + (s[k].toNat - 48) := by
  unfold dvl
  have h2 : k < s.data.toList.length := by simpa using h
  rw [List.take_add_one, List.getElem?_eq_getElem h2, Option.toList_some, List.foldl_append]
  rfl
theorem dvl_bd (l : List UInt8) (h : ∀ c ∈ l, c.toNat ≤ 57) : dvl l < 10 ^ l.length := by
  have go : ∀ (l : List UInt8) (n m : Nat), (∀ c ∈ l, c.toNat ≤ 57) → n < m → l.foldl (fun n c => 10 * n + (c.toNat - 48)) n < m * 10 ^ l.length := by
    intro l
    induction l with
    | nil => intro n m _ h; simpa using h
    | cons c l ih =>
      intro n m hc h
      have h1 := hc c (by simp)
      have := ih (10 * n + (c.toNat - 48)) (10 * m) (fun d hd => hc d (by simp [hd])) (by omega)
      simp only [List.foldl_cons, List.length_cons, Nat.pow_succ]
      calc _ < 10 * m * 10 ^ l.length := this
        _ = m * (10 ^ l.length * 10) := by rw [Nat.mul_comm 10 m, Nat.mul_assoc, Nat.mul_comm 10]
  have h2 := go l 0 1 h (by omega)
  rw [Nat.one_mul] at h2
  exact h2

theorem side_num (s : ByteArray) (w : World) (h1 : 1 ≤ s.size) (h4 : s.size ≤ 4) (hd : ∀ j (h : j < s.size), 48 ≤ s[j].toNat ∧ s[j].toNat ≤ 57) (h0 : s[0].toNat ≠ 48) :
    Calls Tryd.prog 40 #[.string s] w fun e w' => e = .returned (.tuple #[.int .i64 (dvl s.data.toList : Int), .bool true]) ∧ w = w' := by
  have he : s.toList.isEmpty = false := by
    rw [ByteArray.toList_eq]
    have : s.data.toList.length = s.size := by simp
    cases hc : s.data.toList with
    | nil => rw [hc] at this; simp at this; omega
    | cons a l => rfl
  have he2 : (s.toList == []) = false := by
    cases hc : s.toList with
    | nil => rw [hc] at he; simp at he
    | cons a l => rfl
  have h3 : decide (4 < (s.size : Int)) = false := decide_eq_false (by omega)
  have h5 : ((s[0].toNat : Int) == 48) = false := by rw [beq_eq_false_iff_ne]; omega
  have h6 : (0 : Int) < (s.size : Int) := by omega
  have HD := Lib.hid hd
  have HE : Hid (s.data.toList.take s.size = s.data.toList) := List.take_of_length_le (by simp)
  clear hd
  go_enter Tryd.func40, Tryd.ntmps40
  go_wp2_with fail
  go_loop [4, 5] (fun x i => ∃ k n : Nat, k ≤ s.size ∧ i = .int .i64 k ∧ x = .int .i64 n ∧ n < 10000 ∧ Hid (n = dvl (s.data.toList.take k))) (fun _ i => s.size - (intOf i).toNat)
  case atStart => exact ⟨0, 0, by omega, rfl, rfl, by omega, rfl⟩
  case round =>
    obtain ⟨k, n, hk, rfl, rfl, hn, HN⟩ := hrel
    by_cases hlt : k < s.size
    · have hx := HD.out k hlt
      have hn2 : k + 1 ≤ 4 := by omega
      have hnb : n < 1000 := by
        have := dvl_bd (s.data.toList.take k) (by
          intro c hc
          obtain ⟨j, hj, rfl⟩ := List.mem_iff_getElem.1 hc
          rw [List.getElem_take]
          have hj2 : j < s.size := by simp at hj; omega
          exact (HD.out j hj2).2)
        rw [← HN.out] at this
        refine Nat.lt_of_lt_of_le this (Nat.le_trans (Nat.pow_le_pow_right (by omega) (by simp; omega : _ ≤ 3)) (by decide))
      have hstep := dvl_step s k hlt
      rw [← HN.out] at hstep
      have HS := Lib.hid hstep
      have hdig : digitB (s[k].toNat : Int) = true := by unfold digitB; exact decide_eq_true (by omega)
      clear hstep
      go_wp2_with (go_at_call 50; refine (adigit_any _ _).mono ?_; rintro e w' ⟨rfl, rfl⟩)
      go_round
      case rel => exact ⟨k + 1, 10 * n + (s[k].toNat - 48), by omega, by go_num, by (congr 1; omega), by omega, HS.out.symm⟩
      case measure => simp [intOf]; omega
    · have e9 : k = s.size := by omega
      have HE2 : Hid (n = dvl s.data.toList) := by
        have := HN.out
        rw [e9, HE.out] at this
        exact this
      go_wp2_with fail
      go_ret2
      exact ⟨by rw [← HE2.out]; rfl, rfl⟩
end Go.Proofs.YtjmnnnjddbmiaaaDoor
