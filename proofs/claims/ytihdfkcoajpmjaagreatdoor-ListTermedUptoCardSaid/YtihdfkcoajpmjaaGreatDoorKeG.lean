/- conf.isSmall, isDigit, isKey, badBytes, badDay, isInteger's parts: what each returns. Conditions: the string's size. · conf.isKey: what it returns. Conditions: the string's size. -/
import Derived.Test.YtihdfkcoajpmjaaGreatDoorProg
import Derived.Test.YtihdfkcoajpmjaaGreatDoorKePl
import Derived.Test.YtihdfkcoajpmjaaGreatDoorShelf
import Derived.Test.YtihdfkcoajpmjaaGreatDoorKeVm
import Derived.Deep.QuietTactic
import Derived.BigQuiet
import Derived.Outline
namespace Go.Proofs.YtihdfkcoajpmjaaGreatDoor
open Go.RowKit Mh
set_option linter.unusedVariables false

theorem ksmall_any (c : UInt8) (w : World) : Calls Tryz.prog 111 #[.int .u8 c.toNat] w fun e w' => e = .returned (.bool (smallB c)) ∧ w = w' := by
  by_cases h1 : 97 ≤ c.toNat
  · by_cases h2 : c.toNat ≤ 122
    · have a1 : decide ((c.toNat : Int) ≤ 122) = true := decide_eq_true (by omega)
      have a0 : decide ((97 : Int) ≤ (c.toNat : Int)) = true := decide_eq_true (by omega)
      have H := Lib.hid (show smallB c = true from decide_eq_true ⟨h1, h2⟩)
      go_enter Tryz.func111, Tryz.ntmps111
      go_wp2_with fail
      go_ret
      exact ⟨by first | rfl | (rw [H.out]; rfl), rfl⟩
    · have a1 : decide ((c.toNat : Int) ≤ 122) = false := decide_eq_false (by omega)
      have a0 : decide ((97 : Int) ≤ (c.toNat : Int)) = true := decide_eq_true (by omega)
      have H := Lib.hid (show smallB c = false from decide_eq_false (by omega))
      go_enter Tryz.func111, Tryz.ntmps111
      go_wp2_with fail
      go_ret
      exact ⟨by first | rfl | (rw [H.out]; rfl), rfl⟩
  · have a0 : decide ((97 : Int) ≤ (c.toNat : Int)) = false := decide_eq_false (by omega)
    have H := Lib.hid (show smallB c = false from decide_eq_false (by omega))
    go_enter Tryz.func111, Tryz.ntmps111
    go_wp2_with fail
    go_ret
    exact ⟨by first | rfl | (rw [H.out]; rfl), rfl⟩
theorem kdigit_any (c : UInt8) (w : World) : Calls Tryz.prog 109 #[.int .u8 c.toNat] w fun e w' => e = .returned (.bool (digB c)) ∧ w = w' := by
  by_cases h1 : 48 ≤ c.toNat
  · by_cases h2 : c.toNat ≤ 57
    · have a1 : decide ((c.toNat : Int) ≤ 57) = true := decide_eq_true (by omega)
      have a0 : decide ((48 : Int) ≤ (c.toNat : Int)) = true := decide_eq_true (by omega)
      have H := Lib.hid (show digB c = true from decide_eq_true ⟨h1, h2⟩)
      go_enter Tryz.func109, Tryz.ntmps109
      go_wp2_with fail
      go_ret
      exact ⟨by first | rfl | (rw [H.out]; rfl), rfl⟩
    · have a1 : decide ((c.toNat : Int) ≤ 57) = false := decide_eq_false (by omega)
      have a0 : decide ((48 : Int) ≤ (c.toNat : Int)) = true := decide_eq_true (by omega)
      have H := Lib.hid (show digB c = false from decide_eq_false (by omega))
      go_enter Tryz.func109, Tryz.ntmps109
      go_wp2_with fail
      go_ret
      exact ⟨by first | rfl | (rw [H.out]; rfl), rfl⟩
  · have a0 : decide ((48 : Int) ≤ (c.toNat : Int)) = false := decide_eq_false (by omega)
    have H := Lib.hid (show digB c = false from decide_eq_false (by omega))
    go_enter Tryz.func109, Tryz.ntmps109
    go_wp2_with fail
    go_ret
    exact ⟨by first | rfl | (rw [H.out]; rfl), rfl⟩
theorem badDay_any (n : Int) (w : World) : Calls Tryz.prog 103 #[.int .i64 n] w fun e w' => e = .returned (.bool (decide (n < 0 ∨ 84005 < n))) ∧ w = w' := by
  by_cases h1 : n < 0
  · have a0 : decide (n < 0) = true := decide_eq_true h1
    have H := Lib.hid (show decide (n < 0 ∨ 84005 < n) = true from decide_eq_true (.inl h1))
    go_enter Tryz.func103, Tryz.ntmps103
    go_wp2_with fail
    go_ret
    exact ⟨by first | rfl | (rw [H.out]; rfl), rfl⟩
  · have a0 : decide (n < 0) = false := decide_eq_false h1
    by_cases h2 : 84005 < n
    · have a1 : decide (84005 < n) = true := decide_eq_true h2
      have H := Lib.hid (show decide (n < 0 ∨ 84005 < n) = true from decide_eq_true (.inr h2))
      go_enter Tryz.func103, Tryz.ntmps103
      go_wp2_with fail
      go_ret
      exact ⟨by first | rfl | (rw [H.out]; rfl), rfl⟩
    · have a1 : decide (84005 < n) = false := decide_eq_false h2
      have H := Lib.hid (show decide (n < 0 ∨ 84005 < n) = false from decide_eq_false (by omega))
      go_enter Tryz.func103, Tryz.ntmps103
      go_wp2_with fail
      go_ret
      exact ⟨by first | rfl | (rw [H.out]; rfl), rfl⟩
theorem all_at {s : ByteArray} {f : UInt8 → Bool} : s.data.toList.all f = true ↔ ∀ j (h : j < s.size), f s[j] = true := by
  rw [List.all_eq_true]
  constructor
  · intro h j hj
    exact h _ (by simp [← Array.getElem_toList, ByteArray.getElem_eq_getElem_data])
  · intro h x hx
    obtain ⟨i, hi, rfl⟩ := List.mem_iff_getElem.1 hx
    have := h i (by simpa using hi)
    simpa [ByteArray.getElem_eq_getElem_data] using this

/-- What badBytes asks of a byte. -/
def ctl (c : UInt8) : Bool := decide (c.toNat < 32) && (!decide (c.toNat = 9) && !decide (c.toNat = 10))
theorem badL_ctl (l : List UInt8) : badL l = l.any ctl := rfl
set_option maxHeartbeats 1000000 in
theorem badBytes_any (s : ByteArray) (w : World) (hs : s.size ≤ maxLen) : Calls Tryz.prog 104 #[.string s] w fun e w' => e = .returned (.bool (badL s.data.toList)) ∧ w = w' := by
  unfold maxLen at hs
  go_enter Tryz.func104, Tryz.ntmps104
  go_wp2_with fail
  go_loop [3] (fun i => ∃ k : Nat, k ≤ s.size ∧ i = .int .i64 k ∧ Hid (∀ j (h : j < s.size), j < k → ctl s[j] = false)) (fun i => s.size - (intOf i).toNat)
  case atStart => exact ⟨0, by omega, rfl, fun j h hj => by omega⟩
  case round =>
    obtain ⟨k, hk, rfl, HA⟩ := hrel
    by_cases hlt : k < s.size
    · have fin : ctl s[k] = false → Hid (∀ j (h : j < s.size), j < k + 1 → ctl s[j] = false) := by
        intro hok j h hj
        by_cases e : j = k
        · subst e; exact hok
        · exact HA.out j h (by omega)
      have bad : ctl s[k] = true → Hid (badL s.data.toList = true) := by
        intro hb
        show _ = _
        rw [badL_ctl, List.any_eq_true]
        exact ⟨s[k], by simp [← Array.getElem_toList, ByteArray.getElem_eq_getElem_data], hb⟩
      have FIN := Lib.hid fin
      have BAD := Lib.hid bad
      clear fin bad HA
      by_cases c1 : s[k].toNat < 32
      · by_cases c2 : s[k].toNat = 9
        · have HF := FIN.out (by unfold ctl; rw [decide_eq_true c2]; simp)
          have t1 : decide ((s[k].toNat : Int) < 32) = true := decide_eq_true (by omega)
          have t2 : ((s[k].toNat : Int) != 9) = false := by rw [bne_eq_false_iff_eq]; omega
          clear FIN BAD c1 c2
          go_wp2_with fail
          go_round
          case rel => exact ⟨k + 1, by omega, by go_num, HF⟩
          case measure => simp [intOf]; omega
        · by_cases c3 : s[k].toNat = 10
          · have HF := FIN.out (by unfold ctl; rw [decide_eq_true c3]; simp)
            have t1 : decide ((s[k].toNat : Int) < 32) = true := decide_eq_true (by omega)
            have t2 : ((s[k].toNat : Int) != 9) = true := by rw [bne_iff_ne]; omega
            have t3 : ((s[k].toNat : Int) != 10) = false := by rw [bne_eq_false_iff_eq]; omega
            clear FIN BAD c1 c2 c3
            go_wp2_with fail
            go_round
            case rel => exact ⟨k + 1, by omega, by go_num, HF⟩
            case measure => simp [intOf]; omega
          · have HF := BAD.out (by unfold ctl; rw [decide_eq_true c1, decide_eq_false c2, decide_eq_false c3]; rfl)
            have t1 : decide ((s[k].toNat : Int) < 32) = true := decide_eq_true (by omega)
            have t2 : ((s[k].toNat : Int) != 9) = true := by rw [bne_iff_ne]; omega
            have t3 : ((s[k].toNat : Int) != 10) = true := by rw [bne_iff_ne]; omega
            clear FIN BAD c1 c2 c3
            go_wp2_with fail
            go_ret
            exact ⟨by rw [HF.out]; rfl, rfl⟩
      · have HF := FIN.out (by unfold ctl; rw [decide_eq_false c1]; rfl)
        have t1 : decide ((s[k].toNat : Int) < 32) = false := decide_eq_false (by omega)
        clear FIN BAD c1
        go_wp2_with fail
        go_round
        case rel => exact ⟨k + 1, by omega, by go_num, HF⟩
        case measure => simp [intOf]; omega
    · have HB : Hid (badL s.data.toList = false) := by
        show _ = _
        rw [badL_ctl, Bool.eq_false_iff]
        intro h
        obtain ⟨x, hx, hc⟩ := List.any_eq_true.1 h
        obtain ⟨i, hi, rfl⟩ := List.mem_iff_getElem.1 hx
        have := HA.out i (by simpa using hi) (by simp at hi; omega)
        simp [ByteArray.getElem_eq_getElem_data] at this
        simp [this] at hc
      go_wp2_with fail
      go_ret
      exact ⟨by rw [HB.out]; rfl, rfl⟩
end Go.Proofs.YtihdfkcoajpmjaaGreatDoor
namespace Go.Proofs.YtihdfkcoajpmjaaGreatDoor
open Go.RowKit Mh
set_option linter.unusedVariables false

theorem key_empty (s : ByteArray) (w : World) (h : s.data.toList = []) :
    Calls Tryz.prog 105 #[.string s] w fun e w' => e = .returned (.bool (isKeyL s.data.toList)) ∧ w = w' := by
  have H : Hid (isKeyL s.data.toList = false) := by rw [h]; rfl
  have he : s.toList.isEmpty = true := by rw [ByteArray.toList_eq, h]; rfl
  clear h
  go_enter Tryz.func105, Tryz.ntmps105
  go_wp2_with fail
  go_ret
  exact ⟨by rw [H.out]; rfl, rfl⟩
theorem key_cons (s : ByteArray) (h : 0 < s.size) : isKeyL s.data.toList = (decide (s.size ≤ 40) && smallB s[0] && s.data.toList.tail.all keyB) := by
  have hl : s.data.toList.length = s.size := by simp
  have h0 : s.data.toList.head? = some s[0] := by
    rw [List.head?_eq_getElem?, List.getElem?_eq_getElem (by rw [hl]; exact h)]
    simp [ByteArray.getElem_eq_getElem_data]
  cases hc : s.data.toList with
  | nil => rw [hc] at hl; simp at hl; omega
  | cons c l =>
    rw [hc] at h0 hl
    simp only [List.head?_cons, Option.some.injEq] at h0
    subst h0
    simp only [isKeyL, List.tail_cons]
    congr 2
    simp only [List.length_cons] at hl
    by_cases h40 : s.size ≤ 40
    · rw [decide_eq_true h40, decide_eq_true (by omega)]
    · rw [decide_eq_false h40, decide_eq_false (by omega)]
theorem tail_all (s : ByteArray) (f : UInt8 → Bool) : s.data.toList.tail.all f = true ↔ ∀ j (h : j < s.size), 1 ≤ j → f s[j] = true := by
  rw [List.all_eq_true]
  constructor
  · intro h j hj h1
    have e : s.data.toList.tail[j - 1]? = some s[j] := by
      rw [List.getElem?_tail, show j - 1 + 1 = j by omega, List.getElem?_eq_getElem (by simpa using hj)]
      simp [ByteArray.getElem_eq_getElem_data]
    exact h _ (List.mem_of_getElem? e)
  · intro h x hx
    obtain ⟨i, hi, rfl⟩ := List.mem_iff_getElem.1 hx
    rw [List.getElem_tail]
    have hi' : i + 1 < s.size := by simp at hi; omega
    have := h (i + 1) hi' (by omega)
    simpa [ByteArray.getElem_eq_getElem_data] using this
theorem key_long (s : ByteArray) (w : World) (hs : s.size ≤ maxLen) (h : 40 < s.size) :
    Calls Tryz.prog 105 #[.string s] w fun e w' => e = .returned (.bool (isKeyL s.data.toList)) ∧ w = w' := by
  unfold maxLen at hs
  have H : Hid (isKeyL s.data.toList = false) := by show _ = _; rw [key_cons s (by omega), decide_eq_false (by omega)]; rfl
  have he : s.toList.isEmpty = false := by
    rw [ByteArray.toList_eq]
    cases hc : s.data.toList with
    | nil => have : s.data.toList.length = s.size := by simp
             rw [hc] at this; simp at this; omega
    | cons a l => rfl
  have h3 : decide (40 < (s.size : Int)) = true := decide_eq_true (by omega)
  go_enter Tryz.func105, Tryz.ntmps105
  go_wp2_with fail
  go_ret
  exact ⟨by rw [H.out]; rfl, rfl⟩
set_option maxHeartbeats 1000000 in
theorem key_loop (s : ByteArray) (w : World) (h0 : 0 < s.size) (h40 : s.size ≤ 40) :
    Calls Tryz.prog 105 #[.string s] w fun e w' => e = .returned (.bool (isKeyL s.data.toList)) ∧ w = w' := by
  have H : Hid (isKeyL s.data.toList = (smallB s[0] && s.data.toList.tail.all keyB)) := by show _ = _; rw [key_cons s h0, decide_eq_true h40]; rfl
  have he : s.toList.isEmpty = false := by
    rw [ByteArray.toList_eq]
    cases hc : s.data.toList with
    | nil => have : s.data.toList.length = s.size := by simp
             rw [hc] at this; simp at this; omega
    | cons a l => rfl
  have h3 : decide (40 < (s.size : Int)) = false := decide_eq_false (by omega)
  by_cases c0 : smallB s[0] = true
  · have H2 : Hid (isKeyL s.data.toList = s.data.toList.tail.all keyB) := by show _ = _; rw [H.out, c0]; rfl
    clear H
    go_enter Tryz.func105, Tryz.ntmps105
    go_wp2_with (go_at_call 111; refine (ksmall_any _ _).mono ?_; rintro e w' ⟨rfl, rfl⟩)
    go_loop [3] (fun i => ∃ k : Nat, 1 ≤ k ∧ k ≤ s.size ∧ i = .int .i64 k ∧ Hid (∀ j (h : j < s.size), 1 ≤ j → j < k → keyB s[j] = true)) (fun i => s.size - (intOf i).toNat)
    case atStart => exact ⟨1, by omega, by omega, rfl, fun j h h1 hj => by omega⟩
    case round =>
      obtain ⟨k, hk1, hk, rfl, HA⟩ := hrel
      by_cases hlt : k < s.size
      · have fin : keyB s[k] = true → Hid (∀ j (h : j < s.size), 1 ≤ j → j < k + 1 → keyB s[j] = true) := by
          intro hok j h h1 hj
          by_cases e : j = k
          · subst e; exact hok
          · exact HA.out j h h1 (by omega)
        have bad : keyB s[k] = false → Hid (s.data.toList.tail.all keyB = false) := by
          intro hok
          show _ = _
          rw [Bool.eq_false_iff]
          intro hall
          have := (tail_all s keyB).1 hall k hlt hk1
          rw [hok] at this
          cases this
        have FIN := Lib.hid fin
        have BAD := Lib.hid bad
        clear fin bad HA
        by_cases c1 : smallB s[k] = true
        · have HF := FIN.out (by unfold keyB; rw [c1]; rfl)
          clear FIN BAD
          go_wp2_with (first | (go_at_call 111; refine (ksmall_any _ _).mono ?_; rintro e w' ⟨rfl, rfl⟩) | (go_at_call 109; refine (kdigit_any _ _).mono ?_; rintro e w' ⟨rfl, rfl⟩))
          go_round
          case rel => exact ⟨k + 1, by omega, by omega, by go_num, HF⟩
          case measure => simp [intOf]; omega
        · have c1 : smallB s[k] = false := by simpa using c1
          by_cases c2 : digB s[k] = true
          · have HF := FIN.out (by unfold keyB; rw [c1, c2]; rfl)
            clear FIN BAD
            go_wp2_with (first | (go_at_call 111; refine (ksmall_any _ _).mono ?_; rintro e w' ⟨rfl, rfl⟩) | (go_at_call 109; refine (kdigit_any _ _).mono ?_; rintro e w' ⟨rfl, rfl⟩))
            go_round
            case rel => exact ⟨k + 1, by omega, by omega, by go_num, HF⟩
            case measure => simp [intOf]; omega
          · have c2 : digB s[k] = false := by simpa using c2
            by_cases c3 : s[k].toNat = 45 ∨ s[k].toNat = 95
            · have HF := FIN.out (by unfold keyB; rw [c1, c2]; rcases c3 with h | h <;> rw [h] <;> rfl)
              clear FIN BAD
              have c4 : ((s[k].toNat : Int) != 45) = false ∨ (((s[k].toNat : Int) != 45) = true ∧ ((s[k].toNat : Int) != 95) = false) := by
                rcases c3 with h | h <;> rw [h] <;> simp
              clear c3
              rcases c4 with c4 | ⟨c4, c5⟩
              all_goals
                go_wp2_with (first | (go_at_call 111; refine (ksmall_any _ _).mono ?_; rintro e w' ⟨rfl, rfl⟩) | (go_at_call 109; refine (kdigit_any _ _).mono ?_; rintro e w' ⟨rfl, rfl⟩))
                go_round
                case rel => exact ⟨k + 1, by omega, by omega, by go_num, HF⟩
                case measure => simp [intOf]; omega
            · have HB := BAD.out (by
                unfold keyB
                rw [c1, c2, decide_eq_false (fun h => c3 (.inl h)), decide_eq_false (fun h => c3 (.inr h))]; rfl)
              clear FIN BAD
              have c4 : ((s[k].toNat : Int) != 45) = true := by rw [bne_iff_ne]; omega
              have c5 : ((s[k].toNat : Int) != 95) = true := by rw [bne_iff_ne]; omega
              clear c3
              go_wp2_with (first | (go_at_call 111; refine (ksmall_any _ _).mono ?_; rintro e w' ⟨rfl, rfl⟩) | (go_at_call 109; refine (kdigit_any _ _).mono ?_; rintro e w' ⟨rfl, rfl⟩))
              go_ret
              exact ⟨by rw [H2.out, HB.out]; rfl, rfl⟩
      · have HB : Hid (s.data.toList.tail.all keyB = true) := (tail_all s keyB).2 (fun j h h1 => HA.out j h h1 (by omega))
        go_wp2_with fail
        go_ret
        exact ⟨by rw [H2.out, HB.out]; rfl, rfl⟩
  · have c0 : smallB s[0] = false := by simpa using c0
    have H2 : Hid (isKeyL s.data.toList = false) := by show _ = _; rw [H.out, c0]; rfl
    clear H
    go_enter Tryz.func105, Tryz.ntmps105
    go_wp2_with (go_at_call 111; refine (ksmall_any _ _).mono ?_; rintro e w' ⟨rfl, rfl⟩)
    go_ret
    exact ⟨by rw [H2.out]; rfl, rfl⟩
theorem isKey_any (s : ByteArray) (w : World) (hs : s.size ≤ maxLen) :
    Calls Tryz.prog 105 #[.string s] w fun e w' => e = .returned (.bool (isKeyL s.data.toList)) ∧ w = w' := by
  by_cases h1 : s.data.toList = []
  · exact key_empty s w h1
  have h0 : 0 < s.size := by
    have : s.data.toList.length = s.size := by simp
    have := List.length_pos_iff.2 h1
    omega
  by_cases h2 : 40 < s.size
  · exact key_long s w hs h2
  exact key_loop s w h0 (by omega)
end Go.Proofs.YtihdfkcoajpmjaaGreatDoor
