/- ship.isDigit, isPart, isPath: what each returns. Conditions: the string's size; the library's variable MaxLen holds an integer. -/
import Derived.Test.YtoalbfffojpnmaaDoorProg
import Derived.Test.YtoalbfffojpnmaaDoorShQ
import Derived.Test.YtoalbfffojpnmaaDoorShelf
namespace Go.Proofs.YtoalbfffojpnmaaDoor
open Go.RowKit Mh
set_option linter.unusedVariables false

theorem all_getElem {s : ByteArray} {p : UInt8 → Bool} : (s.data.toList.all p = true ↔ ∀ k (h : k < s.size), p s[k] = true) := by
  rw [List.all_eq_true]
  constructor
  · intro h k hk
    exact h s[k] (by
      have : s[k] = s.data.toList[k]'(by simpa using hk) := rfl
      rw [this]
      exact List.getElem_mem _)
  · intro h x hx
    obtain ⟨k, hk, rfl⟩ := List.mem_iff_getElem.1 hx
    exact h k (by simpa using hk)
def digB' (n : Int) : Bool := decide (48 ≤ n) && decide (n ≤ 57)
theorem shDigit_any (n : Int) (w : World) : Calls Tryd.prog 24 #[.int .u8 n] w fun e w' => e = .returned (.bool (digB' n)) ∧ w = w' := by
  unfold digB'
  by_cases h1 : 48 ≤ n
  · by_cases h2 : n ≤ 57
    · rw [decide_eq_true h1, decide_eq_true h2]
      go_enter Tryd.func24, Tryd.ntmps24
      go_wp2_with fail
      go_ret
      exact ⟨rfl, rfl⟩
    · rw [decide_eq_true h1, decide_eq_false h2]
      go_enter Tryd.func24, Tryd.ntmps24
      go_wp2_with fail
      go_ret
      exact ⟨rfl, rfl⟩
  · rw [decide_eq_false h1]
    go_enter Tryd.func24, Tryd.ntmps24
    go_wp2_with fail
    go_ret
    exact ⟨rfl, rfl⟩

theorem part_empty (s : ByteArray) (w : World) (h : s.data.toList = []) :
    Calls Tryd.prog 21 #[.string s] w fun e w' => e = .returned (.bool (partB s.data.toList)) ∧ w = w' := by
  have H : Hid (partB s.data.toList = false) := by rw [h]; rfl
  have he : s.toList.isEmpty = true := by rw [ByteArray.toList_eq, h]; rfl
  clear h
  go_enter Tryd.func21, Tryd.ntmps21
  go_wp2_with fail
  go_ret
  exact ⟨by rw [H.out]; rfl, rfl⟩
theorem part_long (s : ByteArray) (w : World) (hs : s.size ≤ maxLen) (h : 40 < s.size) :
    Calls Tryd.prog 21 #[.string s] w fun e w' => e = .returned (.bool (partB s.data.toList)) ∧ w = w' := by
  unfold maxLen at hs
  have hl : s.data.toList.length = s.size := by simp
  have H : Hid (partB s.data.toList = false) := by
    show partB s.data.toList = false
    unfold partB; rw [hl, decide_eq_false (show ¬ s.size ≤ 40 by omega)]; simp
  have he : s.toList.isEmpty = false := by
    rw [ByteArray.toList_eq]
    cases hc : s.data.toList with
    | nil => rw [hc] at hl; simp at hl; omega
    | cons a l => rfl
  have hd : decide (40 < (s.size : Int)) = true := decide_eq_true (by omega)
  clear hl
  go_enter Tryd.func21, Tryd.ntmps21
  go_wp2_with fail
  go_ret
  exact ⟨by rw [H.out]; rfl, rfl⟩
theorem part_dot (s : ByteArray) (w : World) (h : s.data.toList = [46]) :
    Calls Tryd.prog 21 #[.string s] w fun e w' => e = .returned (.bool (partB s.data.toList)) ∧ w = w' := by
  have hl : s.size = 1 := by
    have e : s.data.toList.length = s.size := by simp
    rw [h] at e
    simpa using e.symm
  have hl2 : s.size ≤ 40 := by omega
  have H : Hid (partB s.data.toList = false) := by rw [h]; rfl
  have he : s.toList.isEmpty = false := by rw [ByteArray.toList_eq, h]; rfl
  have h1 : (s.toList == [46]) = true := by rw [ByteArray.toList_eq, h]; rfl
  clear h hl
  go_enter Tryd.func21, Tryd.ntmps21
  go_wp2_with fail
  go_ret
  exact ⟨by rw [H.out]; rfl, rfl⟩
theorem part_dots (s : ByteArray) (w : World) (h : s.data.toList = [46, 46]) :
    Calls Tryd.prog 21 #[.string s] w fun e w' => e = .returned (.bool (partB s.data.toList)) ∧ w = w' := by
  have hl : s.size = 2 := by
    have e : s.data.toList.length = s.size := by simp
    rw [h] at e
    simpa using e.symm
  have hl2 : s.size ≤ 40 := by omega
  have H : Hid (partB s.data.toList = false) := by rw [h]; rfl
  have he : s.toList.isEmpty = false := by rw [ByteArray.toList_eq, h]; rfl
  have h1 : (s.toList == [46]) = false := by rw [ByteArray.toList_eq, h]; rfl
  have h2 : (s.toList == [46, 46]) = true := by rw [ByteArray.toList_eq, h]; rfl
  clear h hl
  go_enter Tryd.func21, Tryd.ntmps21
  go_wp2_with fail
  go_ret
  exact ⟨by rw [H.out]; rfl, rfl⟩

set_option maxHeartbeats 1000000 in
theorem part_loop (s : ByteArray) (w : World) (h0 : 1 ≤ s.size) (h40 : s.size ≤ 40) (hd1 : s.data.toList ≠ [46]) (hd2 : s.data.toList ≠ [46, 46]) :
    Calls Tryd.prog 21 #[.string s] w fun e w' => e = .returned (.bool (partB s.data.toList)) ∧ w = w' := by
  have hl : s.data.toList.length = s.size := by simp
  have H : Hid (partB s.data.toList = s.data.toList.all fun c => shB (c.toNat : Int)) := by
    have b1 : (s.data.toList == [46]) = false := by simpa using hd1
    have b2 : (s.data.toList == [46, 46]) = false := by simpa using hd2
    show partB s.data.toList = _
    unfold partB
    rw [hl, decide_eq_true h0, decide_eq_true h40, b1, b2]
    rfl
  have he : s.toList.isEmpty = false := by
    rw [ByteArray.toList_eq]
    cases hc : s.data.toList with
    | nil => rw [hc] at hl; simp at hl; omega
    | cons a l => rfl
  have h1 : (s.toList == [46]) = false := by rw [ByteArray.toList_eq]; simpa using hd1
  have h2 : (s.toList == [46, 46]) = false := by rw [ByteArray.toList_eq]; simpa using hd2
  have h3 : decide (40 < (s.size : Int)) = false := decide_eq_false (by omega)
  clear hl hd1 hd2
  go_enter Tryd.func21, Tryd.ntmps21
  go_wp2_with fail
  go_loop [3, 4] (fun i _ => ∃ k : Nat, k ≤ s.size ∧ i = .int .i64 k ∧ Hid (∀ j (h : j < s.size), j < k → shB (s[j].toNat : Int) = true)) (fun i _ => s.size - (intOf i).toNat)
  case atStart => exact ⟨0, by omega, rfl, fun j h hj => by omega⟩
  case round =>
    obtain ⟨k, hk, rfl, HA⟩ := hrel
    by_cases hlt : k < s.size
    · have fin : shB (s[k].toNat : Int) = true → Hid (∀ j (h : j < s.size), j < k + 1 → shB (s[j].toNat : Int) = true) := by
        intro hok j h hj
        by_cases e : j = k
        · subst e; exact hok
        · exact HA.out j h (by omega)
      have bad : shB (s[k].toNat : Int) = false → Hid ((s.data.toList.all fun c => shB (c.toNat : Int)) = false) := by
        intro hok
        show _ = _
        rw [Bool.eq_false_iff]
        intro hall
        have := all_getElem.1 hall k hlt
        rw [hok] at this
        cases this
      have FIN := Lib.hid fin
      have BAD := Lib.hid bad
      clear fin bad HA
      have hways : (97 ≤ (s[k].toNat : Int) ∧ (s[k].toNat : Int) ≤ 122) ∨ (97 ≤ (s[k].toNat : Int) ∧ ¬ (s[k].toNat : Int) ≤ 122) ∨ (¬ 97 ≤ (s[k].toNat : Int) ∧ digB' (s[k].toNat : Int) = true) ∨
          (¬ 97 ≤ (s[k].toNat : Int) ∧ digB' (s[k].toNat : Int) = false) := by
        by_cases h1 : 97 ≤ (s[k].toNat : Int)
        · by_cases h2 : (s[k].toNat : Int) ≤ 122
          · exact .inl ⟨h1, h2⟩
          · exact .inr (.inl ⟨h1, h2⟩)
        · cases hd : digB' (s[k].toNat : Int) with
          | true => exact .inr (.inr (.inl ⟨h1, rfl⟩))
          | false => exact .inr (.inr (.inr ⟨h1, rfl⟩))
      have good : shB (s[k].toNat : Int) = true → ((97 ≤ (s[k].toNat : Int) ∧ (s[k].toNat : Int) ≤ 122) ∨ digB' (s[k].toNat : Int) = true ∨ (s[k].toNat : Int) = 45 ∨ (s[k].toNat : Int) = 95 ∨ (s[k].toNat : Int) = 46) := by
        intro h
        unfold shB at h
        simp only [Bool.or_eq_true, Bool.and_eq_true, decide_eq_true_eq, beq_iff_eq] at h
        unfold digB'
        simp only [Bool.and_eq_true, decide_eq_true_eq]
        omega
      have mk : ((97 ≤ (s[k].toNat : Int) ∧ (s[k].toNat : Int) ≤ 122) ∨ digB' (s[k].toNat : Int) = true ∨ (s[k].toNat : Int) = 45 ∨ (s[k].toNat : Int) = 95 ∨ (s[k].toNat : Int) = 46) → shB (s[k].toNat : Int) = true := by
        intro h
        unfold digB' at h
        simp only [Bool.and_eq_true, decide_eq_true_eq] at h
        unfold shB
        simp only [Bool.or_eq_true, Bool.and_eq_true, decide_eq_true_eq, beq_iff_eq]
        omega
      have GOOD := Lib.hid good
      have MK := Lib.hid mk
      clear good mk
      rcases hways with ⟨h1, h2⟩ | ⟨h1, h2⟩ | ⟨h1, h2⟩ | ⟨h1, h2⟩
      · have HF := FIN.out (MK.out (.inl ⟨h1, h2⟩))
        clear FIN BAD GOOD MK
        go_wp2_with (go_at_call 24; refine (shDigit_any _ _).mono ?_; rintro e w' ⟨rfl, rfl⟩)
        go_round
        case rel => exact ⟨k + 1, by omega, by go_num, HF⟩
        case measure => simp [intOf]; omega
      · have hd : digB' (s[k].toNat : Int) = false := by unfold digB'; rw [Bool.and_eq_false_iff]; right; exact decide_eq_false (by omega)
        have HB := BAD.out (by
          by_cases h : shB (s[k].toNat : Int) = true
          · rcases GOOD.out h with h | h | h
            · exact absurd h.2 h2
            · rw [hd] at h; cases h
            · exact absurd (show (s[k].toNat : Int) ≤ 122 by omega) h2
          · simpa using h)
        have c4 : ((s[k].toNat : Int) != 45) = true := by rw [bne_iff_ne]; omega
        have c5 : ((s[k].toNat : Int) != 95) = true := by rw [bne_iff_ne]; omega
        have c6 : ((s[k].toNat : Int) != 46) = true := by rw [bne_iff_ne]; omega
        clear FIN BAD GOOD MK
        go_wp2_with (go_at_call 24; refine (shDigit_any _ _).mono ?_; rintro e w' ⟨rfl, rfl⟩)
        go_ret
        exact ⟨by rw [H.out, HB.out]; rfl, rfl⟩
      · have HF := FIN.out (MK.out (.inr (.inl h2)))
        clear FIN BAD GOOD MK
        go_wp2_with (go_at_call 24; refine (shDigit_any _ _).mono ?_; rintro e w' ⟨rfl, rfl⟩)
        go_round
        case rel => exact ⟨k + 1, by omega, by go_num, HF⟩
        case measure => simp [intOf]; omega
      · by_cases c3 : (s[k].toNat : Int) = 45 ∨ (s[k].toNat : Int) = 95 ∨ (s[k].toNat : Int) = 46
        · have HF := FIN.out (MK.out (.inr (.inr c3)))
          clear FIN BAD GOOD MK
          have c4 : ((s[k].toNat : Int) != 45) = false ∨ (((s[k].toNat : Int) != 45) = true ∧ ((s[k].toNat : Int) != 95) = false) ∨ (((s[k].toNat : Int) != 45) = true ∧ ((s[k].toNat : Int) != 95) = true ∧ ((s[k].toNat : Int) != 46) = false) := by
            rcases c3 with h | h | h <;> rw [h] <;> simp
          clear c3
          rcases c4 with c4 | ⟨c4, c5⟩ | ⟨c4, c5, c6⟩
          all_goals
            go_wp2_with (go_at_call 24; refine (shDigit_any _ _).mono ?_; rintro e w' ⟨rfl, rfl⟩)
            go_round
            case rel => exact ⟨k + 1, by omega, by go_num, HF⟩
            case measure => simp [intOf]; omega
        · have HB := BAD.out (by
            by_cases h : shB (s[k].toNat : Int) = true
            · rcases GOOD.out h with h | h | h
              · exact absurd h.1 h1
              · rw [h2] at h; cases h
              · exact absurd h c3
            · simpa using h)
          clear FIN BAD GOOD MK
          have c4 : ((s[k].toNat : Int) != 45) = true := by rw [bne_iff_ne]; omega
          have c5 : ((s[k].toNat : Int) != 95) = true := by rw [bne_iff_ne]; omega
          have c6 : ((s[k].toNat : Int) != 46) = true := by rw [bne_iff_ne]; omega
          clear c3
          go_wp2_with (go_at_call 24; refine (shDigit_any _ _).mono ?_; rintro e w' ⟨rfl, rfl⟩)
          go_ret
          exact ⟨by rw [H.out, HB.out]; rfl, rfl⟩
    · have HB : Hid ((s.data.toList.all fun c => shB (c.toNat : Int)) = true) := all_getElem.2 (fun j h => HA.out j h (by omega))
      go_wp2_with fail
      go_ret
      exact ⟨by rw [H.out, HB.out]; rfl, rfl⟩

theorem shPart_any (s : ByteArray) (w : World) (hs : s.size ≤ maxLen) :
    Calls Tryd.prog 21 #[.string s] w fun e w' => e = .returned (.bool (partB s.data.toList)) ∧ w = w' := by
  by_cases h1 : s.data.toList = []
  · exact part_empty s w h1
  by_cases h2 : 40 < s.size
  · exact part_long s w hs h2
  by_cases h3 : s.data.toList = [46]
  · exact part_dot s w h3
  by_cases h4 : s.data.toList = [46, 46]
  · exact part_dots s w h4
  refine part_loop s w ?_ (by omega) h3 h4
  have hl : s.data.toList.length = s.size := by simp
  cases hc : s.data.toList with
  | nil => exact absurd hc h1
  | cons a l => rw [hc] at hl; simp at hl; omega


theorem shPath_long (s : ByteArray) (w : World) (hs : s.size ≤ maxLen) (h : 200 < s.size) :
    Calls Tryd.prog 12 #[.string s] w fun e w' => e = .returned (.bool (pathB s.data.toList)) ∧ w = w' := by
  unfold maxLen at hs
  have hl : s.data.toList.length = s.size := by simp
  have H : Hid (pathB s.data.toList = false) := by
    show pathB s.data.toList = false
    unfold pathB; rw [hl, decide_eq_false (show ¬ s.size ≤ 200 by omega)]; rfl
  have hd : decide (200 < (s.size : Int)) = true := decide_eq_true (by omega)
  clear hl
  go_enter Tryd.func12, Tryd.ntmps12
  go_wp2_with fail
  go_ret
  exact ⟨by rw [H.out]; rfl, rfl⟩

set_option maxHeartbeats 1000000 in
theorem shPath_short (s : ByteArray) (w : World) (hs : s.size ≤ 200) (hml : ML 0 w) :
    Calls Tryd.prog 12 #[.string s] w fun e w' => e = .returned (.bool (pathB s.data.toList)) ∧ Below w.heap.size w w' := by
  have hl : s.data.toList.length = s.size := by simp
  have hsp := splitB_spl 47 s
  have hln := splitB_len 47 s
  have hcn : Lib.countB s ⟨#[47]⟩ ≤ s.size := Lib.countB_le ⟨#[47]⟩ (Nat.le_refl 1) _ s (Nat.le_refl _)
  have hsz : ∀ p ∈ Lib.splitB ⟨#[47]⟩ 0 (Lib.countB s ⟨#[47]⟩) s, p.size ≤ s.size := split_size 47 s
  obtain ⟨m, hm⟩ := hml
  have HSP := Lib.hid (Tryd.strings_Split s ⟨#[47]⟩ m w (by omega) hm (Nat.le_refl 1))
  have H : Hid (pathB s.data.toList = (Lib.splitB ⟨#[47]⟩ 0 (Lib.countB s ⟨#[47]⟩) s).all fun p => partB p.data.toList) := by
    show pathB s.data.toList = _
    unfold pathB
    rw [hl, decide_eq_true hs, ← hsp, List.all_map]
    rfl
  generalize hps : Lib.splitB ⟨#[47]⟩ 0 (Lib.countB s ⟨#[47]⟩) s = ps at *
  generalize Lib.countB s ⟨#[47]⟩ = n at *
  have HL := Lib.hid hln
  have HZ := Lib.hid hsz
  have hd : decide (200 < (s.size : Int)) = false := decide_eq_false (by omega)
  clear hl hsp hln hsz hps hm
  go_enter Tryd.func12, Tryd.ntmps12
  go_wp2_with fail
  refine HSP.out.mono ?_
  rintro e w1 ⟨rfl, rfl⟩
  have HC : Hid (∀ k (h : k < ps.length), (w.alloc (.cells (ps.map Value.string).toArray 9)).cell? ⟨w.heap.size, k, none⟩ = some (.string ps[k])) := by
    intro k h
    rw [cell_of_row _ _ _ _ _ _ (heap_alloc_new w _)]
    simp [h]
  go_wp2_with fail
  go_loop [11] (fun i => ∃ k : Nat, k ≤ n + 1 ∧ i = .int .i64 k ∧ Hid (∀ j (h : j < ps.length), j < k → partB ps[j].data.toList = true)) (fun i => n + 1 - (intOf i).toNat)
  case atStart => exact ⟨0, by omega, rfl, fun j h hj => by omega⟩
  case round =>
    obtain ⟨k, hk, rfl, HA⟩ := hrel
    by_cases hlt : k < n + 1
    · have hkl : k < ps.length := by rw [HL.out]; exact hlt
      have hc := HC.out k hkl
      have hz := HZ.out ps[k] (List.getElem_mem hkl)
      generalize hp : ps[k] = p at *
      have HP := Lib.hid hp
      clear hp
      cases hb : partB p.data.toList with
      | true =>
        go_wp2_with (go_at_call 21; refine (shPart_any _ _ (by unfold maxLen; omega)).mono ?_; rintro e w' ⟨rfl, rfl⟩)
        go_round
        case rel =>
          refine ⟨k + 1, by omega, by go_num, ?_⟩
          intro j h hj
          by_cases e : j = k
          · subst e; rw [HP.out]; exact hb
          · exact HA.out j h (by omega)
        case measure => simp [intOf]; omega
      | false =>
        have HF : Hid ((ps.all fun p => partB p.data.toList) = false) := by
          show _ = _
          rw [List.all_eq_false]
          exact ⟨p, by rw [← HP.out]; exact List.getElem_mem hkl, by rw [hb]; decide⟩
        go_wp2_with (go_at_call 21; refine (shPart_any _ _ (by unfold maxLen; omega)).mono ?_; rintro e w' ⟨rfl, rfl⟩)
        go_ret
        exact ⟨by rw [H.out, HF.out]; rfl, (Below.refl _ _).alloc (Nat.le_refl _) _⟩
    · have HT : Hid ((ps.all fun p => partB p.data.toList) = true) := by
        show _ = _
        rw [List.all_eq_true]
        intro p hp
        obtain ⟨j, hj, rfl⟩ := List.mem_iff_getElem.1 hp
        exact HA.out j hj (by have := HL.out; omega)
      go_wp2_with fail
      go_ret
      exact ⟨by rw [H.out, HT.out]; rfl, (Below.refl _ _).alloc (Nat.le_refl _) _⟩

theorem shPath_any (s : ByteArray) (w : World) (hs : s.size ≤ maxLen) (hml : ML 0 w) :
    Calls Tryd.prog 12 #[.string s] w fun e w' => e = .returned (.bool (pathB s.data.toList)) ∧ Below w.heap.size w w' := by
  by_cases h : s.size ≤ 200
  · exact shPath_short s w h hml
  · exact (shPath_long s w hs (by omega)).mono fun e w' ⟨h1, h2⟩ => ⟨h1, h2 ▸ Below.refl _ _⟩

end Go.Proofs.YtoalbfffojpnmaaDoor
