/- tree.isSmall, isDigit, isPart, isPath, CheckPath: what each returns. Conditions: the string's size; the library's variable MaxLen holds an integer. -/
import Derived.Test.YthkokpkiffbjnaaDoorProg
import Derived.Test.YthkokpkiffbjnaaDoorTxt
import Derived.Test.YthkokpkiffbjnaaDoorShp
import Derived.Test.YthkokpkiffbjnaaDoorShelf
namespace Go.Proofs.YthkokpkiffbjnaaDoor
open Go.RowKit Mh
set_option linter.unusedVariables false

theorem small_any (n : Int) (w : World) : Calls Tryd.prog 43 #[.int .u8 n] w fun e w' => e = .returned (.bool (smallB n)) ∧ w = w' := by
  by_cases h1 : 97 ≤ n
  · by_cases h2 : n ≤ 122
    · have a1 : decide (n ≤ 122) = true := decide_eq_true h2
      have hd : smallB n = true := by unfold smallB; exact decide_eq_true ⟨h1, h2⟩
      have H := Lib.hid hd
      clear hd
      go_enter Tryd.func43, Tryd.ntmps43
      go_wp2_with fail
      go_ret
      exact ⟨by rw [H.out]; rfl, rfl⟩
    · have a1 : decide (n ≤ 122) = false := decide_eq_false h2
      have hd : smallB n = false := by unfold smallB; exact decide_eq_false (fun h => by omega)
      have H := Lib.hid hd
      clear hd
      go_enter Tryd.func43, Tryd.ntmps43
      go_wp2_with fail
      go_ret
      exact ⟨by rw [H.out]; rfl, rfl⟩
  · have a1 : decide (97 ≤ n) = false := decide_eq_false h1
    have hd : smallB n = false := by unfold smallB; exact decide_eq_false (fun h => by omega)
    have H := Lib.hid hd
    clear hd
    go_enter Tryd.func43, Tryd.ntmps43
    go_wp2_with fail
    go_ret
    exact ⟨by rw [H.out]; rfl, rfl⟩
theorem digit_any (n : Int) (w : World) : Calls Tryd.prog 44 #[.int .u8 n] w fun e w' => e = .returned (.bool (digitB n)) ∧ w = w' := by
  by_cases h1 : 48 ≤ n
  · by_cases h2 : n ≤ 57
    · have a1 : decide (n ≤ 57) = true := decide_eq_true h2
      have hd : digitB n = true := by unfold digitB; exact decide_eq_true ⟨h1, h2⟩
      have H := Lib.hid hd
      clear hd
      go_enter Tryd.func44, Tryd.ntmps44
      go_wp2_with fail
      go_ret
      exact ⟨by rw [H.out]; rfl, rfl⟩
    · have a1 : decide (n ≤ 57) = false := decide_eq_false h2
      have hd : digitB n = false := by unfold digitB; exact decide_eq_false (fun h => by omega)
      have H := Lib.hid hd
      clear hd
      go_enter Tryd.func44, Tryd.ntmps44
      go_wp2_with fail
      go_ret
      exact ⟨by rw [H.out]; rfl, rfl⟩
  · have a1 : decide (48 ≤ n) = false := decide_eq_false h1
    have hd : digitB n = false := by unfold digitB; exact decide_eq_false (fun h => by omega)
    have H := Lib.hid hd
    clear hd
    go_enter Tryd.func44, Tryd.ntmps44
    go_wp2_with fail
    go_ret
    exact ⟨by rw [H.out]; rfl, rfl⟩

/-- A byte of a path's part. -/
def okB (n : Int) : Bool := smallB n || digitB n || (n == 45) || (n == 95) || (n == 46)
def partB (l : List UInt8) : Bool := decide (1 ≤ l.length) && decide (l.length ≤ 40) && !(l == [46]) && !(l == [46, 46]) && l.all fun c => okB (c.toNat : Int)

theorem part_empty (s : ByteArray) (w : World) (h : s.data.toList = []) :
    Calls Tryd.prog 27 #[.string s] w fun e w' => e = .returned (.bool (partB s.data.toList)) ∧ w = w' := by
  have H : Hid (partB s.data.toList = false) := by rw [h]; rfl
  have he : s.toList.isEmpty = true := by rw [ByteArray.toList_eq, h]; rfl
  clear h
  go_enter Tryd.func27, Tryd.ntmps27
  go_wp2_with fail
  go_ret
  exact ⟨by rw [H.out]; rfl, rfl⟩
theorem part_long (s : ByteArray) (w : World) (hs : s.size ≤ maxLen) (h : 40 < s.size) :
    Calls Tryd.prog 27 #[.string s] w fun e w' => e = .returned (.bool (partB s.data.toList)) ∧ w = w' := by
  unfold maxLen at hs
  have hl : s.data.toList.length = s.size := by simp
  have H : Hid (partB s.data.toList = false) := by
    show partB s.data.toList = false
    unfold partB; rw [hl, decide_eq_false (show ¬ s.size ≤ 40 by omega)]; simp
  have he : s.toList.isEmpty = false := by
    rw [ByteArray.toList_eq]
    cases hc : s.data.toList with
    | nil => rw [hc] at hl; simp at hl; omega
    | cons a l => rfl
  have hd : decide (40 < (s.size : Int)) = true := decide_eq_true (by omega)
  clear hl
  go_enter Tryd.func27, Tryd.ntmps27
  go_wp2_with fail
  go_ret
  exact ⟨by rw [H.out]; rfl, rfl⟩
theorem part_dot (s : ByteArray) (w : World) (h : s.data.toList = [46]) :
    Calls Tryd.prog 27 #[.string s] w fun e w' => e = .returned (.bool (partB s.data.toList)) ∧ w = w' := by
  have hl : s.size = 1 := by
    have e : s.data.toList.length = s.size := by simp
    rw [h] at e
    simpa using e.symm
  have hl2 : s.size ≤ 40 := by omega
  have H : Hid (partB s.data.toList = false) := by rw [h]; rfl
  have he : s.toList.isEmpty = false := by rw [ByteArray.toList_eq, h]; rfl
  have h1 : (s.toList == [46]) = true := by rw [ByteArray.toList_eq, h]; rfl
  clear h hl
  go_enter Tryd.func27, Tryd.ntmps27
  go_wp2_with fail
  go_ret
  exact ⟨by rw [H.out]; rfl, rfl⟩
theorem part_dots (s : ByteArray) (w : World) (h : s.data.toList = [46, 46]) :
    Calls Tryd.prog 27 #[.string s] w fun e w' => e = .returned (.bool (partB s.data.toList)) ∧ w = w' := by
  have hl : s.size = 2 := by
    have e : s.data.toList.length = s.size := by simp
    rw [h] at e
    simpa using e.symm
  have hl2 : s.size ≤ 40 := by omega
  have H : Hid (partB s.data.toList = false) := by rw [h]; rfl
  have he : s.toList.isEmpty = false := by rw [ByteArray.toList_eq, h]; rfl
  have h1 : (s.toList == [46]) = false := by rw [ByteArray.toList_eq, h]; rfl
  have h2 : (s.toList == [46, 46]) = true := by rw [ByteArray.toList_eq, h]; rfl
  clear h hl
  go_enter Tryd.func27, Tryd.ntmps27
  go_wp2_with fail
  go_ret
  exact ⟨by rw [H.out]; rfl, rfl⟩

set_option maxHeartbeats 1000000 in
theorem part_loop (s : ByteArray) (w : World) (h0 : 1 ≤ s.size) (h40 : s.size ≤ 40) (hd1 : s.data.toList ≠ [46]) (hd2 : s.data.toList ≠ [46, 46]) :
    Calls Tryd.prog 27 #[.string s] w fun e w' => e = .returned (.bool (partB s.data.toList)) ∧ w = w' := by
  have hl : s.data.toList.length = s.size := by simp
  have H : Hid (partB s.data.toList = s.data.toList.all fun c => okB (c.toNat : Int)) := by
    have b1 : (s.data.toList == [46]) = false := by simpa using hd1
    have b2 : (s.data.toList == [46, 46]) = false := by simpa using hd2
    show partB s.data.toList = _
    unfold partB
    rw [hl, decide_eq_true h0, decide_eq_true h40, b1, b2]
    rfl
  have he : s.toList.isEmpty = false := by
    rw [ByteArray.toList_eq]
    cases hc : s.data.toList with
    | nil => rw [hc] at hl; simp at hl; omega
    | cons a l => rfl
  have h1 : (s.toList == [46]) = false := by rw [ByteArray.toList_eq]; simpa using hd1
  have h2 : (s.toList == [46, 46]) = false := by rw [ByteArray.toList_eq]; simpa using hd2
  have h3 : decide (40 < (s.size : Int)) = false := decide_eq_false (by omega)
  clear hl hd1 hd2
  go_enter Tryd.func27, Tryd.ntmps27
  go_wp2_with fail
  go_loop [3] (fun i => ∃ k : Nat, k ≤ s.size ∧ i = .int .i64 k ∧ Hid (∀ j (h : j < s.size), j < k → okB (s[j].toNat : Int) = true)) (fun i => s.size - (intOf i).toNat)
  case atStart => exact ⟨0, by omega, rfl, fun j h hj => by omega⟩
  case round =>
    obtain ⟨k, hk, rfl, HA⟩ := hrel
    by_cases hlt : k < s.size
    · have fin : okB (s[k].toNat : Int) = true → Hid (∀ j (h : j < s.size), j < k + 1 → okB (s[j].toNat : Int) = true) := by
        intro hok j h hj
        by_cases e : j = k
        · subst e; exact hok
        · exact HA.out j h (by omega)
      have bad : okB (s[k].toNat : Int) = false → Hid ((s.data.toList.all fun c => okB (c.toNat : Int)) = false) := by
        intro hok
        show _ = _
        rw [Bool.eq_false_iff]
        intro hall
        have := all_getElem.1 hall k hlt
        rw [hok] at this
        cases this
      have FIN := Lib.hid fin
      have BAD := Lib.hid bad
      clear fin bad HA
      have arm : True := trivial
      by_cases c1 : smallB (s[k].toNat : Int) = true
      · have HF := FIN.out (by unfold okB; rw [c1]; rfl)
        clear FIN BAD
        go_wp2_with (first | (go_at_call 43; refine (small_any _ _).mono ?_; rintro e w' ⟨rfl, rfl⟩) | (go_at_call 44; refine (digit_any _ _).mono ?_; rintro e w' ⟨rfl, rfl⟩))
        go_round
        case rel => exact ⟨k + 1, by omega, by go_num, HF⟩
        case measure => simp [intOf]; omega
      · have c1 : smallB (s[k].toNat : Int) = false := by simpa using c1
        by_cases c2 : digitB (s[k].toNat : Int) = true
        · have HF := FIN.out (by unfold okB; rw [c1, c2]; rfl)
          clear FIN BAD
          go_wp2_with (first | (go_at_call 43; refine (small_any _ _).mono ?_; rintro e w' ⟨rfl, rfl⟩) | (go_at_call 44; refine (digit_any _ _).mono ?_; rintro e w' ⟨rfl, rfl⟩))
          go_round
          case rel => exact ⟨k + 1, by omega, by go_num, HF⟩
          case measure => simp [intOf]; omega
        · have c2 : digitB (s[k].toNat : Int) = false := by simpa using c2
          by_cases c3 : (s[k].toNat : Int) = 45 ∨ (s[k].toNat : Int) = 95 ∨ (s[k].toNat : Int) = 46
          · have HF := FIN.out (by unfold okB; rw [c1, c2]; rcases c3 with h | h | h <;> rw [h] <;> rfl)
            clear FIN BAD
            have c4 : ((s[k].toNat : Int) != 45) = false ∨ (((s[k].toNat : Int) != 45) = true ∧ ((s[k].toNat : Int) != 95) = false) ∨ (((s[k].toNat : Int) != 45) = true ∧ ((s[k].toNat : Int) != 95) = true ∧ ((s[k].toNat : Int) != 46) = false) := by
              rcases c3 with h | h | h <;> rw [h] <;> simp
            clear c3
            rcases c4 with c4 | ⟨c4, c5⟩ | ⟨c4, c5, c6⟩
            all_goals
              go_wp2_with (first | (go_at_call 43; refine (small_any _ _).mono ?_; rintro e w' ⟨rfl, rfl⟩) | (go_at_call 44; refine (digit_any _ _).mono ?_; rintro e w' ⟨rfl, rfl⟩))
              go_round
              case rel => exact ⟨k + 1, by omega, by go_num, HF⟩
              case measure => simp [intOf]; omega
          · have HB := BAD.out (by
              unfold okB
              rw [c1, c2]
              have e1 : ((s[k].toNat : Int) == 45) = false := by rw [beq_eq_false_iff_ne]; omega
              have e2 : ((s[k].toNat : Int) == 95) = false := by rw [beq_eq_false_iff_ne]; omega
              have e3 : ((s[k].toNat : Int) == 46) = false := by rw [beq_eq_false_iff_ne]; omega
              rw [e1, e2, e3]; rfl)
            clear FIN BAD
            have c4 : ((s[k].toNat : Int) != 45) = true := by rw [bne_iff_ne]; omega
            have c5 : ((s[k].toNat : Int) != 95) = true := by rw [bne_iff_ne]; omega
            have c6 : ((s[k].toNat : Int) != 46) = true := by rw [bne_iff_ne]; omega
            clear c3
            go_wp2_with (first | (go_at_call 43; refine (small_any _ _).mono ?_; rintro e w' ⟨rfl, rfl⟩) | (go_at_call 44; refine (digit_any _ _).mono ?_; rintro e w' ⟨rfl, rfl⟩))
            go_ret
            exact ⟨by rw [H.out, HB.out]; rfl, rfl⟩
    · have HB : Hid ((s.data.toList.all fun c => okB (c.toNat : Int)) = true) := all_getElem.2 (fun j h => HA.out j h (by omega))
      go_wp2_with fail
      go_ret
      exact ⟨by rw [H.out, HB.out]; rfl, rfl⟩

theorem part_any (s : ByteArray) (w : World) (hs : s.size ≤ maxLen) :
    Calls Tryd.prog 27 #[.string s] w fun e w' => e = .returned (.bool (partB s.data.toList)) ∧ w = w' := by
  by_cases h1 : s.data.toList = []
  · exact part_empty s w h1
  by_cases h2 : 40 < s.size
  · exact part_long s w hs h2
  by_cases h3 : s.data.toList = [46]
  · exact part_dot s w h3
  by_cases h4 : s.data.toList = [46, 46]
  · exact part_dots s w h4
  refine part_loop s w ?_ (by omega) h3 h4
  have hl : s.data.toList.length = s.size := by simp
  cases hc : s.data.toList with
  | nil => exact absurd hc h1
  | cons a l => rw [hc] at hl; simp at hl; omega

/-- A path. -/
def pathB (l : List UInt8) : Bool := decide (l.length ≤ 200) && (spl 47 l).all partB

theorem path_long (s : ByteArray) (w : World) (hs : s.size ≤ maxLen) (h : 200 < s.size) :
    Calls Tryd.prog 16 #[.string s] w fun e w' => e = .returned (.bool (pathB s.data.toList)) ∧ w = w' := by
  unfold maxLen at hs
  have hl : s.data.toList.length = s.size := by simp
  have H : Hid (pathB s.data.toList = false) := by
    show pathB s.data.toList = false
    unfold pathB; rw [hl, decide_eq_false (show ¬ s.size ≤ 200 by omega)]; rfl
  have hd : decide (200 < (s.size : Int)) = true := decide_eq_true (by omega)
  clear hl
  go_enter Tryd.func16, Tryd.ntmps16
  go_wp2_with fail
  go_ret
  exact ⟨by rw [H.out]; rfl, rfl⟩

set_option maxHeartbeats 1000000 in
theorem path_short (s : ByteArray) (w : World) (hs : s.size ≤ 200) (hml : ML 0 w) :
    Calls Tryd.prog 16 #[.string s] w fun e w' => e = .returned (.bool (pathB s.data.toList)) ∧ Below w.heap.size w w' := by
  have hl : s.data.toList.length = s.size := by simp
  have hsp := splitB_spl 47 s
  have hln := splitB_len 47 s
  have hcn : Lib.countB s ⟨#[47]⟩ ≤ s.size := Lib.countB_le ⟨#[47]⟩ (Nat.le_refl 1) _ s (Nat.le_refl _)
  have hsz : ∀ p ∈ Lib.splitB ⟨#[47]⟩ 0 (Lib.countB s ⟨#[47]⟩) s, p.size ≤ s.size := split_size 47 s
  obtain ⟨m, hm⟩ := hml
  have HSP := Lib.hid (Tryd.strings_Split s ⟨#[47]⟩ m w (by omega) hm (Nat.le_refl 1))
  have H : Hid (pathB s.data.toList = (Lib.splitB ⟨#[47]⟩ 0 (Lib.countB s ⟨#[47]⟩) s).all fun p => partB p.data.toList) := by
    show pathB s.data.toList = _
    unfold pathB
    rw [hl, decide_eq_true hs, ← hsp, List.all_map]
    rfl
  generalize hps : Lib.splitB ⟨#[47]⟩ 0 (Lib.countB s ⟨#[47]⟩) s = ps at *
  generalize Lib.countB s ⟨#[47]⟩ = n at *
  have HL := Lib.hid hln
  have HZ := Lib.hid hsz
  have hd : decide (200 < (s.size : Int)) = false := decide_eq_false (by omega)
  clear hl hsp hln hsz hps hm
  go_enter Tryd.func16, Tryd.ntmps16
  go_wp2_with fail
  refine HSP.out.mono ?_
  rintro e w1 ⟨rfl, rfl⟩
  have HC : Hid (∀ k (h : k < ps.length), (w.alloc (.cells (ps.map Value.string).toArray 9)).cell? ⟨w.heap.size, k, none⟩ = some (.string ps[k])) := by
    intro k h
    rw [cell_of_row _ _ _ _ _ _ (heap_alloc_new w _)]
    simp [h]
  go_wp2_with fail
  go_loop [11] (fun i => ∃ k : Nat, k ≤ n + 1 ∧ i = .int .i64 k ∧ Hid (∀ j (h : j < ps.length), j < k → partB ps[j].data.toList = true)) (fun i => n + 1 - (intOf i).toNat)
  case atStart => exact ⟨0, by omega, rfl, fun j h hj => by omega⟩
  case round =>
    obtain ⟨k, hk, rfl, HA⟩ := hrel
    by_cases hlt : k < n + 1
    · have hkl : k < ps.length := by rw [HL.out]; exact hlt
      have hc := HC.out k hkl
      have hz := HZ.out ps[k] (List.getElem_mem hkl)
      generalize hp : ps[k] = p at *
      have HP := Lib.hid hp
      clear hp
      cases hb : partB p.data.toList with
      | true =>
        go_wp2_with (go_at_call 27; refine (part_any _ _ (by unfold maxLen; omega)).mono ?_; rintro e w' ⟨rfl, rfl⟩)
        go_round
        case rel =>
          refine ⟨k + 1, by omega, by go_num, ?_⟩
          intro j h hj
          by_cases e : j = k
          · subst e; rw [HP.out]; exact hb
          · exact HA.out j h (by omega)
        case measure => simp [intOf]; omega
      | false =>
        have HF : Hid ((ps.all fun p => partB p.data.toList) = false) := by
          show _ = _
          rw [List.all_eq_false]
          exact ⟨p, by rw [← HP.out]; exact List.getElem_mem hkl, by rw [hb]; decide⟩
        go_wp2_with (go_at_call 27; refine (part_any _ _ (by unfold maxLen; omega)).mono ?_; rintro e w' ⟨rfl, rfl⟩)
        go_ret
        exact ⟨by rw [H.out, HF.out]; rfl, (Below.refl _ _).alloc (Nat.le_refl _) _⟩
    · have HT : Hid ((ps.all fun p => partB p.data.toList) = true) := by
        show _ = _
        rw [List.all_eq_true]
        intro p hp
        obtain ⟨j, hj, rfl⟩ := List.mem_iff_getElem.1 hp
        exact HA.out j hj (by have := HL.out; omega)
      go_wp2_with fail
      go_ret
      exact ⟨by rw [H.out, HT.out]; rfl, (Below.refl _ _).alloc (Nat.le_refl _) _⟩

theorem tpath_any (s : ByteArray) (w : World) (hs : s.size ≤ maxLen) (hml : ML 0 w) :
    Calls Tryd.prog 16 #[.string s] w fun e w' => e = .returned (.bool (pathB s.data.toList)) ∧ Below w.heap.size w w' := by
  by_cases h : s.size ≤ 200
  · exact path_short s w h hml
  · exact (path_long s w hs (by omega)).mono fun e w' ⟨h1, h2⟩ => ⟨h1, h2 ▸ Below.refl _ _⟩

theorem checkPath_any (s : ByteArray) (w : World) (hs : s.size ≤ maxLen) (hml : ML 0 w) :
    Calls Tryd.prog 9 #[.string s] w fun e w' => e = .returned (.int .i64 (if pathB s.data.toList then 0 else 3)) ∧ Below w.heap.size w w' := by
  cases hb : pathB s.data.toList with
  | true =>
    have H := Lib.hid (tpath_any s w hs hml)
    rw [hb] at H
    go_enter Tryd.func9, Tryd.ntmps9
    go_wp2_with fail
    refine H.out.mono ?_
    rintro e w' ⟨rfl, hb2⟩
    go_wp2_with fail
    go_ret
    exact ⟨rfl, hb2⟩
  | false =>
    have H := Lib.hid (tpath_any s w hs hml)
    rw [hb] at H
    go_enter Tryd.func9, Tryd.ntmps9
    go_wp2_with fail
    refine H.out.mono ?_
    rintro e w' ⟨rfl, hb2⟩
    go_wp2_with fail
    go_ret
    exact ⟨rfl, hb2⟩
end Go.Proofs.YthkokpkiffbjnaaDoor
