/- conf.ReadDay of any string. Conditions: a string of at most 10^9 bytes. · conf.ReadDay of any string, the walk. Conditions: a string of at most 10^9 bytes. -/
import Derived.Test.YtejnoedlfbglcaaGreatDoorPsC
import Derived.Test.YtejnoedlfbglcaaGreatDoorDayT
import Derived.RegionTactic
import Derived.ChangeAlike
import Derived.BigRegion
namespace Mh
open Go Go.RowKit Cal
set_option linter.unusedVariables false
/-- The three numbers that have been read when so many bytes are behind, and which of them is being read. -/
def StX (x : Nat → Nat) : Nat → Nat → Nat → Nat → Nat → Prop
  | 0, k, a, b, c => k = 0 ∧ a = 0 ∧ b = 0 ∧ c = 0
  | 1, k, a, b, c => k = 0 ∧ a = x 0 ∧ b = 0 ∧ c = 0
  | 2, k, a, b, c => k = 0 ∧ a = 10 * x 0 + x 1 ∧ b = 0 ∧ c = 0
  | 3, k, a, b, c => k = 0 ∧ a = 100 * x 0 + 10 * x 1 + x 2 ∧ b = 0 ∧ c = 0
  | 4, k, a, b, c => k = 0 ∧ a = 1000 * x 0 + 100 * x 1 + 10 * x 2 + x 3 ∧ b = 0 ∧ c = 0
  | 5, k, a, b, c => k = 1 ∧ a = 1000 * x 0 + 100 * x 1 + 10 * x 2 + x 3 ∧ b = 0 ∧ c = 0
  | 6, k, a, b, c => k = 1 ∧ a = 1000 * x 0 + 100 * x 1 + 10 * x 2 + x 3 ∧ b = x 5 ∧ c = 0
  | 7, k, a, b, c => k = 1 ∧ a = 1000 * x 0 + 100 * x 1 + 10 * x 2 + x 3 ∧ b = 10 * x 5 + x 6 ∧ c = 0
  | 8, k, a, b, c => k = 2 ∧ a = 1000 * x 0 + 100 * x 1 + 10 * x 2 + x 3 ∧ b = 10 * x 5 + x 6 ∧ c = 0
  | 9, k, a, b, c => k = 2 ∧ a = 1000 * x 0 + 100 * x 1 + 10 * x 2 + x 3 ∧ b = 10 * x 5 + x 6 ∧ c = x 8
  | 10, k, a, b, c => k = 2 ∧ a = 1000 * x 0 + 100 * x 1 + 10 * x 2 + x 3 ∧ b = 10 * x 5 + x 6 ∧ c = 10 * x 8 + x 9
  | _, _, _, _, _ => False
/-- The byte at a place, as a digit's worth. -/
def dgAt (s : ByteArray) (i : Nat) : Nat := if h : i < s.size then dg s[i] else 0
theorem dgAt_eq {s : ByteArray} {i : Nat} (h : i < s.size) : dgAt s i = s[i].toNat - 48 := by unfold dgAt; rw [dif_pos h]; rfl
/-- All bytes so far are digits. -/
def DigsTo (s : ByteArray) (j : Nat) : Prop := ∀ i (h : i < s.size), i < j → i ≠ 4 → i ≠ 7 → digB s[i] = true
theorem dig_bd {s : ByteArray} {j : Nat} (h : DigsTo s j) (i : Nat) (hi : i < j) (hs : i < s.size) (h4 : i ≠ 4) (h7 : i ≠ 7) : 48 ≤ s[i].toNat ∧ dgAt s i = s[i].toNat - 48 ∧ dgAt s i ≤ 9 := by
  have h1 := h i hs hi h4 h7
  have h2 := dgAt_eq hs
  unfold digB at h1
  have h3 := of_decide_eq_true h1
  exact ⟨h3.1, h2, by omega⟩
theorem stX_step {s : ByteArray} (h10 : s.size = 10) (i k a b c : Nat) (hi : i < 10) (h : i < s.size) (hD : DigsTo s i) (hs : StX (dgAt s) i k a b c) :
    ((i = 4 ∨ i = 7) ∧ k ≤ 1 ∧ StX (dgAt s) (i + 1) (k + 1) a b c ∧ DigsTo s (i + 1)) ∨
    ((i ≠ 4 ∧ i ≠ 7) ∧ (digB s[i] = true → DigsTo s (i + 1) ∧ 48 ≤ s[i].toNat ∧ s[i].toNat ≤ 57 ∧ a ≤ 9999 ∧ b ≤ 9999 ∧ c ≤ 9999 ∧
      ((k = 0 ∧ StX (dgAt s) (i + 1) 0 (10 * a + (s[i].toNat - 48)) b c) ∨ (k = 1 ∧ StX (dgAt s) (i + 1) 1 a (10 * b + (s[i].toNat - 48)) c) ∨ (k = 2 ∧ StX (dgAt s) (i + 1) 2 a b (10 * c + (s[i].toNat - 48)))))) := by
  have up4 : ∀ n, (n = 4 ∨ n = 7) → DigsTo s n → DigsTo s (n + 1) := fun n hn hd j hj h1 h4 h7 => hd j hj (by omega) h4 h7
  have upd : ∀ n (hn : n < s.size), DigsTo s n → digB s[n] = true → DigsTo s (n + 1) := fun n hn hd hb j hj h1 h4 h7 => by
    by_cases e : j = n
    · subst e; exact hb
    · exact hd j hj (by omega) h4 h7
  have dgB : ∀ n (hn : n < s.size), digB s[n] = true → 48 ≤ s[n].toNat ∧ s[n].toNat ≤ 57 ∧ dgAt s n = s[n].toNat - 48 := fun n hn hb => by
    have h2 := dgAt_eq hn
    have h3 := of_decide_eq_true (by unfold digB at hb; exact hb)
    exact ⟨h3.1, h3.2, h2⟩
  match i, hi with
  | 0, _ => obtain ⟨h1, h2, h3, h4⟩ := hs; exact .inr ⟨⟨by omega, by omega⟩, fun hb => by have e := dgB 0 h hb; exact ⟨upd 0 h hD hb, e.1, e.2.1, by omega, by omega, by omega, .inl ⟨h1, ⟨rfl, by omega, by omega, by omega⟩⟩⟩⟩
  | 1, _ => have e0 := dig_bd hD 0 (by omega) (by omega) (by omega) (by omega); obtain ⟨h1, h2, h3, h4⟩ := hs; exact .inr ⟨⟨by omega, by omega⟩, fun hb => by have e := dgB 1 h hb; exact ⟨upd 1 h hD hb, e.1, e.2.1, by omega, by omega, by omega, .inl ⟨h1, ⟨rfl, by omega, by omega, by omega⟩⟩⟩⟩
  | 2, _ => have e0 := dig_bd hD 0 (by omega) (by omega) (by omega) (by omega); have e1 := dig_bd hD 1 (by omega) (by omega) (by omega) (by omega); obtain ⟨h1, h2, h3, h4⟩ := hs; exact .inr ⟨⟨by omega, by omega⟩, fun hb => by have e := dgB 2 h hb; exact ⟨upd 2 h hD hb, e.1, e.2.1, by omega, by omega, by omega, .inl ⟨h1, ⟨rfl, by omega, by omega, by omega⟩⟩⟩⟩
  | 3, _ => have e0 := dig_bd hD 0 (by omega) (by omega) (by omega) (by omega); have e1 := dig_bd hD 1 (by omega) (by omega) (by omega) (by omega); have e2 := dig_bd hD 2 (by omega) (by omega) (by omega) (by omega); obtain ⟨h1, h2, h3, h4⟩ := hs; exact .inr ⟨⟨by omega, by omega⟩, fun hb => by have e := dgB 3 h hb; exact ⟨upd 3 h hD hb, e.1, e.2.1, by omega, by omega, by omega, .inl ⟨h1, ⟨rfl, by omega, by omega, by omega⟩⟩⟩⟩
  | 4, _ => obtain ⟨h1, h2, h3, h4⟩ := hs; exact .inl ⟨by omega, by omega, ⟨by omega, h2, h3, h4⟩, up4 4 (by omega) hD⟩
  | 5, _ => have e0 := dig_bd hD 0 (by omega) (by omega) (by omega) (by omega); have e1 := dig_bd hD 1 (by omega) (by omega) (by omega) (by omega); have e2 := dig_bd hD 2 (by omega) (by omega) (by omega) (by omega); have e3 := dig_bd hD 3 (by omega) (by omega) (by omega) (by omega); obtain ⟨h1, h2, h3, h4⟩ := hs; exact .inr ⟨⟨by omega, by omega⟩, fun hb => by have e := dgB 5 h hb; exact ⟨upd 5 h hD hb, e.1, e.2.1, by omega, by omega, by omega, .inr (.inl ⟨h1, ⟨rfl, by omega, by omega, by omega⟩⟩)⟩⟩
  | 6, _ => have e0 := dig_bd hD 0 (by omega) (by omega) (by omega) (by omega); have e1 := dig_bd hD 1 (by omega) (by omega) (by omega) (by omega); have e2 := dig_bd hD 2 (by omega) (by omega) (by omega) (by omega); have e3 := dig_bd hD 3 (by omega) (by omega) (by omega) (by omega); have e5 := dig_bd hD 5 (by omega) (by omega) (by omega) (by omega); obtain ⟨h1, h2, h3, h4⟩ := hs; exact .inr ⟨⟨by omega, by omega⟩, fun hb => by have e := dgB 6 h hb; exact ⟨upd 6 h hD hb, e.1, e.2.1, by omega, by omega, by omega, .inr (.inl ⟨h1, ⟨rfl, by omega, by omega, by omega⟩⟩)⟩⟩
  | 7, _ => obtain ⟨h1, h2, h3, h4⟩ := hs; exact .inl ⟨by omega, by omega, ⟨by omega, h2, h3, h4⟩, up4 7 (by omega) hD⟩
  | 8, _ => have e0 := dig_bd hD 0 (by omega) (by omega) (by omega) (by omega); have e1 := dig_bd hD 1 (by omega) (by omega) (by omega) (by omega); have e2 := dig_bd hD 2 (by omega) (by omega) (by omega) (by omega); have e3 := dig_bd hD 3 (by omega) (by omega) (by omega) (by omega); have e5 := dig_bd hD 5 (by omega) (by omega) (by omega) (by omega); have e6 := dig_bd hD 6 (by omega) (by omega) (by omega) (by omega); obtain ⟨h1, h2, h3, h4⟩ := hs; exact .inr ⟨⟨by omega, by omega⟩, fun hb => by have e := dgB 8 h hb; exact ⟨upd 8 h hD hb, e.1, e.2.1, by omega, by omega, by omega, .inr (.inr ⟨h1, ⟨rfl, by omega, by omega, by omega⟩⟩)⟩⟩
  | 9, _ => have e0 := dig_bd hD 0 (by omega) (by omega) (by omega) (by omega); have e1 := dig_bd hD 1 (by omega) (by omega) (by omega) (by omega); have e2 := dig_bd hD 2 (by omega) (by omega) (by omega) (by omega); have e3 := dig_bd hD 3 (by omega) (by omega) (by omega) (by omega); have e5 := dig_bd hD 5 (by omega) (by omega) (by omega) (by omega); have e6 := dig_bd hD 6 (by omega) (by omega) (by omega) (by omega); have e8 := dig_bd hD 8 (by omega) (by omega) (by omega) (by omega); obtain ⟨h1, h2, h3, h4⟩ := hs; exact .inr ⟨⟨by omega, by omega⟩, fun hb => by have e := dgB 9 h hb; exact ⟨upd 9 h hD hb, e.1, e.2.1, by omega, by omega, by omega, .inr (.inr ⟨h1, ⟨rfl, by omega, by omega, by omega⟩⟩)⟩⟩
theorem list10 {s : ByteArray} (h : s.size = 10) : s.data.toList = [s[0], s[1], s[2], s[3], s[4], s[5], s[6], s[7], s[8], s[9]] := by
  have d : ∀ j (hj : j < s.size), s.data.toList.drop j = s[j] :: s.data.toList.drop (j + 1) := fun j hj => by
    have hl : j < s.data.toList.length := by rw [Array.length_toList]; exact hj
    rw [List.drop_eq_getElem_cons hl]; rfl
  have e : s.data.toList = s.data.toList.drop 0 := rfl
  rw [e, d 0 (by omega), d 1 (by omega), d 2 (by omega), d 3 (by omega), d 4 (by omega), d 5 (by omega), d 6 (by omega), d 7 (by omega), d 8 (by omega), d 9 (by omega), List.drop_eq_nil_of_le (by rw [Array.length_toList]; exact Nat.le_of_eq h)]
/-- The day of three numbers. -/
def dayOfV (y m n : Nat) : Option Int := if 1970 ≤ y ∧ y ≤ 2199 ∧ 1 ≤ m ∧ m ≤ 12 ∧ 1 ≤ n ∧ (n : Int) ≤ md y m then some (bef y + cum y m + n - 1) else none
theorem dayF_size {s : ByteArray} (h : s.size ≠ 10) : dayF s.data.toList = none := by
  have hl : s.data.toList.length ≠ 10 := by rw [Array.length_toList]; exact h
  unfold dayF
  split
  · rename_i e; rw [e] at hl; simp at hl
  · rfl
theorem dayF_dash {s : ByteArray} (h : s.size = 10) (hd : ¬ (s[4].toNat = 45 ∧ s[7].toNat = 45)) : dayF s.data.toList = none := by
  rw [list10 h]
  simp only [dayF]
  rw [if_neg (fun e => hd ⟨e.1, e.2.1⟩)]
theorem dayF_dig {s : ByteArray} (h : s.size = 10) (i : Nat) (hi : i < s.size) (h4 : i ≠ 4) (h7 : i ≠ 7) (hb : digB s[i] = false) : dayF s.data.toList = none := by
  rw [list10 h]
  simp only [dayF]
  rw [if_neg]
  rintro ⟨_, _, e⟩
  simp only [Bool.and_eq_true] at e
  obtain ⟨⟨⟨⟨⟨⟨⟨e0, e1⟩, e2⟩, e3⟩, e5⟩, e6⟩, e8⟩, e9⟩ := e
  have : i < 10 := by omega
  match i, this with
  | 0, _ => rw [e0] at hb; cases hb
  | 1, _ => rw [e1] at hb; cases hb
  | 2, _ => rw [e2] at hb; cases hb
  | 3, _ => rw [e3] at hb; cases hb
  | 4, _ => exact h4 rfl
  | 5, _ => rw [e5] at hb; cases hb
  | 6, _ => rw [e6] at hb; cases hb
  | 7, _ => exact h7 rfl
  | 8, _ => rw [e8] at hb; cases hb
  | 9, _ => rw [e9] at hb; cases hb
theorem dayF_all {s : ByteArray} (h : s.size = 10) (h4 : s[4].toNat = 45) (h7 : s[7].toNat = 45) (hD : DigsTo s 10) {k a b c : Nat} (hs : StX (dgAt s) 10 k a b c) : dayF s.data.toList = dayOfV a b c := by
  rw [list10 h]
  simp only [dayF]
  obtain ⟨_, rfl, rfl, rfl⟩ := hs
  have g : ∀ i (hi : i < s.size), dgAt s i = dg s[i] := fun i hi => by unfold dgAt; rw [dif_pos hi]
  rw [if_pos ⟨h4, h7, by rw [hD 0 (by omega) (by omega) (by omega) (by omega), hD 1 (by omega) (by omega) (by omega) (by omega), hD 2 (by omega) (by omega) (by omega) (by omega), hD 3 (by omega) (by omega) (by omega) (by omega), hD 5 (by omega) (by omega) (by omega) (by omega), hD 6 (by omega) (by omega) (by omega) (by omega), hD 8 (by omega) (by omega) (by omega) (by omega), hD 9 (by omega) (by omega) (by omega) (by omega)]; rfl⟩]
  rw [g 0 (by omega), g 1 (by omega), g 2 (by omega), g 3 (by omega), g 5 (by omega), g 6 (by omega), g 8 (by omega), g 9 (by omega)]
  rfl
end Mh
namespace Go.Proofs.YtejnoedlfbglcaaGreatDoor
open Go.RowKit Mh Mh.Cal
set_option linter.unusedVariables false

theorem dayOf_bad (y m d : Nat) (w : World) (hy : y ≤ 99999) (hm : m ≤ 9999) (hd : d ≤ 9999) (h : ¬ (1970 ≤ y ∧ y ≤ 2199 ∧ 1 ≤ m ∧ m ≤ 12 ∧ 1 ≤ d ∧ (d : Int) ≤ md y m)) :
    Calls Tryz.prog 119 #[.int .i64 y, .int .i64 m, .int .i64 d] w fun e w' => e = .returned (.tuple #[.int .i64 0, .bool false]) ∧ w = w' := by
  have hmb := md_bd y m
  by_cases h1 : (y : Int) < 1970
  · clear h
    go_enter Tryz.func119, Tryz.ntmps119
    go_wp2_with fail
    go_ret2
    exact ⟨rfl, rfl⟩
  by_cases h2 : (2199 : Int) < y
  · clear h
    go_enter Tryz.func119, Tryz.ntmps119
    go_wp2_with fail
    go_ret2
    exact ⟨rfl, rfl⟩
  by_cases h3 : (m : Int) < 1
  · clear h
    go_enter Tryz.func119, Tryz.ntmps119
    go_wp2_with fail
    go_ret2
    exact ⟨rfl, rfl⟩
  by_cases h4 : (12 : Int) < m
  · clear h
    go_enter Tryz.func119, Tryz.ntmps119
    go_wp2_with fail
    go_ret2
    exact ⟨rfl, rfl⟩
  by_cases h5 : (d : Int) < 1
  · clear h
    go_enter Tryz.func119, Tryz.ntmps119
    go_wp2_with fail
    go_ret2
    exact ⟨rfl, rfl⟩
  have h6 : md y m < d := by omega
  clear h
  go_enter Tryz.func119, Tryz.ntmps119
  go_wp2_with (go_at_call 117; refine (monthDays_any _ _ _ (by omega) (by omega)).mono ?_; rintro e w' ⟨rfl, rfl⟩)
  go_ret2
  exact ⟨rfl, rfl⟩
/-- What a reader of days gives. -/
def RdP (o : Option Int) (w : World) (e : Ending) (w' : World) : Prop := ∃ n z : Int, e = .returned (.tuple #[.int .i64 n, .int .i64 z]) ∧ Below w.heap.size w w' ∧ match o with
  | some x => n = x ∧ z = 0
  | none => z ≠ 0
theorem DayOf_any (y m d : Nat) (w : World) (hy : y ≤ 99999) (hm : m ≤ 9999) (hd : d ≤ 9999) : Calls Tryz.prog 101 #[.int .i64 y, .int .i64 m, .int .i64 d] w (RdP (dayOfV y m d) w) := by
  by_cases h : 1970 ≤ y ∧ y ≤ 2199 ∧ 1 ≤ m ∧ m ≤ 12 ∧ 1 ≤ d ∧ (d : Int) ≤ md y m
  · have HD := Lib.hid (dayOf_ok (bef y + cum y m + d - 1) y m d w ⟨by omega, by omega, by omega, by omega, by omega, by omega, by omega⟩)
    unfold dayOfV
    rw [if_pos h]
    clear h
    go_enter Tryz.func101, Tryz.ntmps101
    go_wp2_with (go_at_call 119; refine HD.out.mono ?_; rintro e w' ⟨rfl, rfl⟩)
    go_ret2
    exact ⟨_, _, rfl, Below.refl _ _, rfl, rfl⟩
  · have HD := Lib.hid (dayOf_bad y m d w hy hm hd h)
    unfold dayOfV
    rw [if_neg h]
    clear h
    go_enter Tryz.func101, Tryz.ntmps101
    go_wp2_with (go_at_call 119; refine HD.out.mono ?_; rintro e w' ⟨rfl, rfl⟩)
    go_ret2
    exact ⟨_, _, rfl, Below.refl _ _, by show (2 : Int) ≠ 0; decide⟩
end Go.Proofs.YtejnoedlfbglcaaGreatDoor
namespace Go.Proofs.YtejnoedlfbglcaaGreatDoor
open Go.RowKit Mh Mh.Cal
set_option linter.unusedVariables false

abbrev trio (a b c : Nat) : Obj := .cells #[.int .i64 (a : Int), .int .i64 (b : Int), .int .i64 (c : Int)] 140 (0, 0)
theorem trio0 {wr : World} {g a b c a' : Nat} {v : Int} (h : wr.heap[g]? = some (trio a b c)) (hv : v = (a' : Int)) : ((wr.setCell ⟨g, 0, none⟩ (.int .i64 v)).drew).heap[g]? = some (trio a' b c) := by
  subst hv; exact heap_setCell_same _ _ 0 _ _ _ h
theorem trio1 {wr : World} {g a b c b' : Nat} {v : Int} (h : wr.heap[g]? = some (trio a b c)) (hv : v = (b' : Int)) : ((wr.setCell ⟨g, 1, none⟩ (.int .i64 v)).drew).heap[g]? = some (trio a b' c) := by
  subst hv; exact heap_setCell_same _ _ 1 _ _ _ h
theorem trio2 {wr : World} {g a b c c' : Nat} {v : Int} (h : wr.heap[g]? = some (trio a b c)) (hv : v = (c' : Int)) : ((wr.setCell ⟨g, 2, none⟩ (.int .i64 v)).drew).heap[g]? = some (trio a b c') := by
  subst hv; exact heap_setCell_same _ _ 2 _ _ _ h
theorem trio_step (a n : Nat) (h : 48 ≤ n) : 10 * (a : Int) + ((n : Int) - 48) = ((10 * a + (n - 48) : Nat) : Int) := by omega
theorem RdP.none {o : Option Int} {w w' : World} {n z : Int} (h : o = none) (hz : z ≠ 0) (hb : Below w.heap.size w w') : RdP o w (.returned (.tuple #[.int .i64 n, .int .i64 z])) w' := by
  subst h; exact ⟨n, z, rfl, hb, hz⟩

set_option maxRecDepth 100000 in
set_option maxHeartbeats 4000000 in
theorem readDay_any (s : ByteArray) (hs : s.size ≤ 1000000000) (w : World) : Calls Tryz.prog 89 #[.string s] w (RdP (dayF s.data.toList) w) := by
  by_cases h10 : s.size = 10
  case neg =>
    have HN := Lib.hid (dayF_size h10)
    have q10 : ((s.size : Int) != 10) = true := by rw [bne_iff_ne]; omega
    clear h10
    go_enter Tryz.func89, Tryz.ntmps89
    go_wp2_with fail
    go_ret2
    exact RdP.none HN.out (by decide) (Below.refl _ _)
  have hs10 : s.size ≤ 10 := Nat.le_of_eq h10
  have hs11 : 10 ≤ s.size := Nat.le_of_eq h10.symm
  have q10 : ((s.size : Int) != 10) = false := by rw [bne_eq_false_iff_eq]; omega
  have H10 := Lib.hid h10
  by_cases hd : (s[4]'(Nat.lt_of_lt_of_le (by decide) hs11)).toNat = 45 ∧ (s[7]'(Nat.lt_of_lt_of_le (by decide) hs11)).toNat = 45
  case neg =>
    have HN := Lib.hid (dayF_dash h10 hd)
    clear h10
    by_cases h4 : (s[4]'(Nat.lt_of_lt_of_le (by decide) hs11)).toNat = 45
    · have q4 : (((s[4]'(Nat.lt_of_lt_of_le (by decide) hs11)).toNat : Int) != 45) = false := by rw [bne_eq_false_iff_eq]; omega
      have q7 : (((s[7]'(Nat.lt_of_lt_of_le (by decide) hs11)).toNat : Int) != 45) = true := by rw [bne_iff_ne]; omega
      clear hd h4
      go_enter Tryz.func89, Tryz.ntmps89
      go_wp2_with fail
      go_ret2
      exact RdP.none HN.out (by decide) (Below.refl _ _)
    · have q4 : (((s[4]'(Nat.lt_of_lt_of_le (by decide) hs11)).toNat : Int) != 45) = true := by rw [bne_iff_ne]; omega
      clear hd h4
      go_enter Tryz.func89, Tryz.ntmps89
      go_wp2_with fail
      go_ret2
      exact RdP.none HN.out (by decide) (Below.refl _ _)
  have q4 : (((s[4]'(Nat.lt_of_lt_of_le (by decide) hs11)).toNat : Int) != 45) = false := by rw [bne_eq_false_iff_eq]; omega
  have q7 : (((s[7]'(Nat.lt_of_lt_of_le (by decide) hs11)).toNat : Int) != 45) = false := by rw [bne_eq_false_iff_eq]; omega
  have HFIN : Hid (DigsTo s 10 → ∀ k a b c, StX (dgAt s) 10 k a b c → dayF s.data.toList = dayOfV a b c) := fun hD k a b c hst => dayF_all h10 hd.1 hd.2 hD hst
  have HBAD : Hid (∀ i (hi : i < s.size), i ≠ 4 → i ≠ 7 → digB s[i] = false → dayF s.data.toList = none) := fun i hi a b c => dayF_dig h10 i hi a b c
  have HST := Lib.hid (fun i k a b c hi h => stX_step h10 i k a b c hi h)
  clear h10 hd
  go_enter Tryz.func89, Tryz.ntmps89
  go_wp2_with fail
  clear q10 q4 q7
  go_loopw [5, 6] (fun k i wr => ∃ kn j a b c : Nat, j ≤ 10 ∧ kn ≤ 2 ∧ k = .int .i64 kn ∧ i = .int .i64 j ∧ Hid (StX (dgAt s) j kn a b c) ∧ Hid (DigsTo s j) ∧ Hid (wr.heap[w.heap.size]? = some (trio a b c)) ∧ Below w.heap.size w wr)
    (fun _ i _ => 10 - (intOf i).toNat)
  case atStart => exact ⟨0, 0, 0, 0, 0, by omega, by omega, rfl, rfl, ⟨rfl, rfl, rfl, rfl⟩, fun _ _ h => absurd h (by omega), heap_alloc_new _ _, (Below.refl _ _).alloc (Nat.le_refl _) _⟩
  case round =>
    obtain ⟨kn, j, a, b, c, hj, hkn, rfl, rfl, HS, HDG, HB, hbr⟩ := hrel
    have HBR := Lib.hid hbr
    clear hbr
    by_cases hj10 : j < 10
    · have hjs : j < s.size := by omega
      rcases HST.out j kn a b c hj10 hjs HDG.out HS.out with ⟨hsep, hk1, hs2⟩ | ⟨hno, hs2⟩
      · have HS2 := Lib.hid hs2
        have hq : ((j : Int) == 4) = true ∨ (((j : Int) == 4) = false ∧ ((j : Int) == 7) = true) := by
          rcases hsep with rfl | rfl
          · left; rfl
          · right; exact ⟨rfl, rfl⟩
        clear hs2 hsep
        rcases hq with hq | ⟨hq, hq2⟩
        all_goals
          go_wp2_with fail
          go_roundw
          case rel => exact ⟨kn + 1, j + 1, a, b, c, by omega, by omega, by go_num, by go_num, HS2.out.1, HS2.out.2, HB.out, HBR.out⟩
          case measure => simp [intOf]; omega
      · have hq : ((j : Int) == 4) = false := by rw [beq_eq_false_iff_ne]; omega
        have hq2 : ((j : Int) == 7) = false := by rw [beq_eq_false_iff_ne]; omega
        have HDI := Lib.hid (fun w => kdigit_any s[j] w)
        cases hdb : digB s[j] with
        | false =>
          have HN := Lib.hid (HBAD.out j hjs hno.1 hno.2 hdb)
          rw [hdb] at HDI
          clear hdb hs2 hno
          go_wp2_with (go_at_call 66; refine (HDI.out _).mono ?_; rintro e w' ⟨rfl, hww⟩; obtain rfl : wr = w' := by first | exact hww | exact hww.symm)
          go_ret2
          exact RdP.none HN.out (by decide) HBR.out
        | true =>
        rw [hdb] at HDI
        obtain ⟨hD1, l0, l1, la, lb, lc, hs3⟩ := hs2 hdb
        have HD1 := Lib.hid hD1
        have c0 : wr.cell? ⟨w.heap.size, 0, none⟩ = some (.int .i64 a) := cellT HB.out rfl
        have c1 : wr.cell? ⟨w.heap.size, 1, none⟩ = some (.int .i64 b) := cellT HB.out rfl
        have c2 : wr.cell? ⟨w.heap.size, 2, none⟩ = some (.int .i64 c) := cellT HB.out rfl
        have g0 : wr.frozen? ⟨w.heap.size, 0, none⟩ = false := frozenT HB.out
        have g1 : wr.frozen? ⟨w.heap.size, 1, none⟩ = false := frozenT HB.out
        have g2 : wr.frozen? ⟨w.heap.size, 2, none⟩ = false := frozenT HB.out
        have HSS := Lib.hid hs3
        clear hno hs2 hs3 hD1 hdb
        rcases HSS.out with ⟨hk, hs3⟩ | ⟨hk, hs3⟩ | ⟨hk, hs3⟩
        · subst hk
          have HS3 := Lib.hid hs3
          clear hs3 HSS
          go_wp2_with (go_at_call 66; refine (HDI.out _).mono ?_; rintro e w' ⟨rfl, hww⟩; obtain rfl : wr = w' := by first | exact hww | exact hww.symm)
          go_region
          go_wp2_with fail
          go_roundw
          case rel => exact ⟨0, j + 1, 10 * a + (s[j].toNat - 48), b, c, by omega, by omega, rfl, by go_num, HS3.out, HD1.out, trio0 HB.out (trio_step _ _ l0), (HBR.out.setCell (p := ⟨w.heap.size, 0, none⟩) (Nat.le_refl _) _).drew⟩
          case measure => simp [intOf]; omega
        · subst hk
          have HS3 := Lib.hid hs3
          clear hs3 HSS
          go_wp2_with (go_at_call 66; refine (HDI.out _).mono ?_; rintro e w' ⟨rfl, hww⟩; obtain rfl : wr = w' := by first | exact hww | exact hww.symm)
          go_region
          go_wp2_with fail
          go_roundw
          case rel => exact ⟨1, j + 1, a, 10 * b + (s[j].toNat - 48), c, by omega, by omega, rfl, by go_num, HS3.out, HD1.out, trio1 HB.out (trio_step _ _ l0), (HBR.out.setCell (p := ⟨w.heap.size, 1, none⟩) (Nat.le_refl _) _).drew⟩
          case measure => simp [intOf]; omega
        · subst hk
          have HS3 := Lib.hid hs3
          clear hs3 HSS
          go_wp2_with (go_at_call 66; refine (HDI.out _).mono ?_; rintro e w' ⟨rfl, hww⟩; obtain rfl : wr = w' := by first | exact hww | exact hww.symm)
          go_region
          go_wp2_with fail
          go_roundw
          case rel => exact ⟨2, j + 1, a, b, 10 * c + (s[j].toNat - 48), by omega, by omega, rfl, by go_num, HS3.out, HD1.out, trio2 HB.out (trio_step _ _ l0), (HBR.out.setCell (p := ⟨w.heap.size, 2, none⟩) (Nat.le_refl _) _).drew⟩
          case measure => simp [intOf]; omega
    · obtain rfl : j = 10 := by omega
      have c0 : wr.cell? ⟨w.heap.size, 0, none⟩ = some (.int .i64 a) := cellT HB.out rfl
      have c1 : wr.cell? ⟨w.heap.size, 1, none⟩ = some (.int .i64 b) := cellT HB.out rfl
      have c2 : wr.cell? ⟨w.heap.size, 2, none⟩ = some (.int .i64 c) := cellT HB.out rfl
      have HE := Lib.hid (HFIN.out HDG.out _ _ _ _ HS.out)
      have d0 := dig_bd HDG.out 0 (by omega) (by omega) (by omega) (by omega)
      have d1 := dig_bd HDG.out 1 (by omega) (by omega) (by omega) (by omega)
      have d2 := dig_bd HDG.out 2 (by omega) (by omega) (by omega) (by omega)
      have d3 := dig_bd HDG.out 3 (by omega) (by omega) (by omega) (by omega)
      have d5 := dig_bd HDG.out 5 (by omega) (by omega) (by omega) (by omega)
      have d6 := dig_bd HDG.out 6 (by omega) (by omega) (by omega) (by omega)
      have d8 := dig_bd HDG.out 8 (by omega) (by omega) (by omega) (by omega)
      have d9 := dig_bd HDG.out 9 (by omega) (by omega) (by omega) (by omega)
      have HD : Hid (∀ w, Calls Tryz.prog 101 #[.int .i64 a, .int .i64 b, .int .i64 c] w (RdP (dayOfV a b c) w)) := by
        obtain ⟨h1, h2, h3, h4⟩ := HS.out
        exact fun w => DayOf_any a b c w (by omega) (by omega) (by omega)
      clear d0 d1 d2 d3 d5 d6 d8 d9
      go_wp2_with fail
      refine (HD.out _).mono ?_
      rintro e w' ⟨n, z, rfl, hb, hz⟩
      have HZ := Lib.hid (And.intro hb hz)
      clear hb hz
      go_wp2_with fail
      go_ret2
      exact ⟨n, z, rfl, HBR.out.trans (HZ.out.1.mono HBR.out.size), by rw [HE.out]; exact HZ.out.2⟩
end Go.Proofs.YtejnoedlfbglcaaGreatDoor
