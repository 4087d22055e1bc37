/- asset's scanner: blank. Conditions: where the scanner lies; bounds; the library's variable MaxLen holds an integer. -/
import Derived.Test.YtckinhebbhflgaaTkG
namespace Go.Proofs.Ytckinhebbhflgaa
open Go.RowKit Mh
set_option linter.unusedVariables false

theorem index_room : ∀ (l sub : List UInt8), 0 ≤ Lib.index l sub → Lib.index l sub + sub.length ≤ l.length
  | [], sub, h => by
    unfold Lib.index at h ⊢
    split
    · rename_i h1; simp at h1; subst h1; simp
    · rename_i h1; rw [if_neg h1] at h; omega
  | b :: l, sub, h => by
    have ih := index_room l sub
    unfold Lib.index at h ⊢
    by_cases hp : sub.isPrefixOf (b :: l) = true
    · rw [if_pos hp]
      have := (List.isPrefixOf_iff_prefix.1 hp).length_le
      omega
    · rw [if_neg hp] at h ⊢
      by_cases h1 : (Lib.index l sub == -1) = true
      · rw [if_pos h1] at h; omega
      · rw [if_neg h1] at h ⊢
        have := ih (by have := Lib.index_ge l sub; simp at h1; omega)
        simp only [List.length_cons]
        omega
theorem cm_le {sc : Bool} {r : List UInt8} {k : Nat} (h : cm sc r = some (some k)) : k ≤ r.length := by
  unfold cm at h
  split at h
  · rename_i h1
    split at h
    · cases h
    · rename_i h2
      injection h with h; injection h with h
      have := index_room (r.drop 2) [42, 47] (by omega)
      have h3 := hp_len h1
      simp only [List.length_drop, List.length_cons, List.length_nil] at this
      omega
  · split at h
    · split at h
      · injection h with h; injection h with h; omega
      · injection h with h; injection h with h
        have := Lib.index_le r [10]
        rw [Lib.index_one] at this
        omega
    · cases h
theorem bend_nil (sc : Bool) (m : Nat) : bend sc (m + 1) [] = some 0 := rfl
theorem bend_blk {sc : Bool} {m : Nat} {c : UInt8} {t : List UInt8} (h : blk c = true) : bend sc (m + 1) (c :: t) = (bend sc m t).map (· + 1) := by rw [bend, if_pos h]
theorem bend_stop {sc : Bool} {m : Nat} {c : UInt8} {t : List UInt8} (h : blk c = false) (h2 : cm sc (c :: t) = none) : bend sc (m + 1) (c :: t) = some 0 := by rw [bend, if_neg (by rw [h]; decide), h2]
theorem bend_open {sc : Bool} {m : Nat} {c : UInt8} {t : List UInt8} (h : blk c = false) (h2 : cm sc (c :: t) = some none) : bend sc (m + 1) (c :: t) = none := by rw [bend, if_neg (by rw [h]; decide), h2]
theorem bend_bad {sc : Bool} {m k : Nat} {c : UInt8} {t : List UInt8} (h : blk c = false) (h2 : cm sc (c :: t) = some (some k)) (h3 : ((c :: t).take k).any bad = true) : bend sc (m + 1) (c :: t) = none := by
  rw [bend, if_neg (by rw [h]; decide), h2]
  simp only [h3, if_true]
theorem bend_cm {sc : Bool} {m k : Nat} {c : UInt8} {t : List UInt8} (h : blk c = false) (h2 : cm sc (c :: t) = some (some k)) (h3 : ((c :: t).take k).any bad = false) : bend sc (m + 1) (c :: t) = (bend sc m ((c :: t).drop k)).map (· + k) := by
  rw [bend, if_neg (by rw [h]; decide), h2]
  simp only [h3]
  rfl
/-- What blank returns at i. -/
def BlkR (s : ByteArray) (sc : Bool) (i n : Nat) (X Y Z : Int) : Prop :=
  (∃ k : Nat, bend sc n (s.data.toList.drop i) = some k ∧ X = (i : Int) + k ∧ Y = 0 ∧ Z = 0 ∧ i + k ≤ s.size) ∨ (bend sc n (s.data.toList.drop i) = none ∧ Z ≠ 0)
/-- What stands in blank's loop at j. -/
def BlkIn (s : ByteArray) (sc : Bool) (i n j : Nat) : Prop := i ≤ j ∧ ∃ m, s.size - j < m ∧ bend sc n (s.data.toList.drop i) = (bend sc m (s.data.toList.drop j)).map (· + (j - i))
theorem BlkIn.next {s : ByteArray} {sc : Bool} {i n j k : Nat} (h : BlkIn s sc i n j) (hj : j < s.size) (hk : 1 ≤ k) (hs : ∀ m, bend sc (m + 1) (s.data.toList.drop j) = (bend sc m (s.data.toList.drop (j + k))).map (· + k)) : BlkIn s sc i n (j + k) := by
  obtain ⟨h1, m, hm, he⟩ := h
  obtain ⟨m', rfl⟩ : ∃ m', m = m' + 1 := ⟨m - 1, by omega⟩
  refine ⟨by omega, m', by omega, ?_⟩
  rw [he, hs, Option.map_map]
  congr 1
  funext x
  simp only [Function.comp_apply]
  omega
theorem BlkIn.none {s : ByteArray} {sc : Bool} {i n j : Nat} (h : BlkIn s sc i n j) (hj : j < s.size) (hs : ∀ m, bend sc (m + 1) (s.data.toList.drop j) = none) : bend sc n (s.data.toList.drop i) = none := by
  obtain ⟨h1, m, hm, he⟩ := h
  obtain ⟨m', rfl⟩ : ∃ m', m = m' + 1 := ⟨m - 1, by omega⟩
  rw [he, hs]
  rfl
theorem BlkIn.some {s : ByteArray} {sc : Bool} {i n j : Nat} (h : BlkIn s sc i n j) (hj : j ≤ s.size) (hs : ∀ m, bend sc (m + 1) (s.data.toList.drop j) = some 0) : BlkR s sc i n j 0 0 := by
  obtain ⟨h1, m, hm, he⟩ := h
  obtain ⟨m', rfl⟩ : ∃ m', m = m' + 1 := ⟨m - 1, by omega⟩
  refine .inl ⟨j - i, ?_, by omega, rfl, rfl, by omega⟩
  rw [he, hs]
  simp
set_option maxRecDepth 100000 in
set_option maxHeartbeats 2000000 in
theorem blank_any (b : Nat) (s : ByteArray) (sc : Bool) (o : Value) (w : World) (h : Sc b s sc o w) (i n : Nat) (hi : i ≤ s.size) (hn : s.size - i < n) (hs : s.size ≤ 1000000) (hml : ML 0 w) :
    Calls Try.prog 21 #[.pointer (some ⟨b, 0, none⟩), .int .i64 i] w fun e w' => ∃ X Y Z : Int, e = .returned (.tuple #[.int .i64 X, .int .i64 Y, .int .i64 Z]) ∧ BlkR s sc i n X Y Z ∧ w = w' := by
  have c0 := h.s
  have HC := Lib.hid (fun j hj => comment_any b s sc o w h j hj hs hml)
  have HK := Lib.hid (fun f t hf ht => checked_any b s sc o w h f t hf ht hs)
  clear h hml
  go_enter Try.func21, Try.ntmps21
  go_wp2_with fail
  go_loopw [1] (fun v wr => ∃ j : Nat, j ≤ s.size ∧ v = .int .i64 j ∧ w = wr ∧ Hid (BlkIn s sc i n j)) (fun v _ => s.size - (intOf v).toNat)
  case atStart => exact ⟨i, hi, rfl, rfl, ⟨Nat.le_refl _, n, hn, by simp⟩⟩
  case round =>
    obtain ⟨j, hjs, rfl, rfl, HI⟩ := hrel
    by_cases hj : j < s.size
    · have HB := Lib.hid (fun w' => isBlank_any s[j] w')
      have e := drop_at s j hj
      cases hb : blk s[j] with
      | true =>
        rw [hb] at HB
        have HN := Lib.hid (HI.out.next (k := 1) hj (Nat.le_refl _) (fun m => by rw [e, bend_blk hb]))
        clear e hb
        go_wp2_with (go_at_call 19; refine (HB.out _).mono ?_; rintro e w' ⟨rfl, rfl⟩)
        go_roundw
        case rel => exact ⟨j + 1, by omega, by go_num, trivial, HN⟩
        case measure => simp [intOf]; omega
      | false =>
        rw [hb] at HB
        have HCJ := Lib.hid (HC.out j hjs)
        cases hc : cm sc (s.data.toList.drop j) with
        | none =>
          have HV : Hid (cmI s sc j = -1) := by show _ = _; unfold cmI; rw [hc]
          rw [HV.out] at HCJ
          have HN := Lib.hid (HI.out.some hjs (fun m => by rw [e] at hc ⊢; exact bend_stop hb hc))
          clear e hb hc
          go_wp2_with (first | (go_at_call 19; refine (HB.out _).mono ?_; rintro e w' ⟨rfl, rfl⟩) | (go_at_call 20; refine HCJ.out.mono ?_; rintro e w' ⟨rfl, rfl⟩))
          go_ret3
          exact ⟨_, _, _, rfl, HN.out, rfl⟩
        | some x =>
          cases x with
          | none =>
            have HV : Hid (cmI s sc j = (s.size : Int) + 1) := by show _ = _; unfold cmI; rw [hc]
            rw [HV.out] at HCJ
            have HN := Lib.hid (HI.out.none hj (fun m => by rw [e] at hc ⊢; exact bend_open hb hc))
            clear e hb hc
            go_wp2_with (first | (go_at_call 19; refine (HB.out _).mono ?_; rintro e w' ⟨rfl, rfl⟩) | (go_at_call 20; refine HCJ.out.mono ?_; rintro e w' ⟨rfl, rfl⟩))
            go_ret3
            exact ⟨_, _, _, rfl, .inr ⟨HN.out, by decide⟩, rfl⟩
          | some k =>
            have hk1 := cm_pos hc
            have hk2 := cm_le hc
            simp only [List.length_drop] at hk2
            have hk3 : j + k ≤ s.size := by
              have : s.data.toList.length = s.size := by simp
              omega
            obtain ⟨E, hE⟩ : ∃ E : Nat, E = j + k := ⟨_, rfl⟩
            have HV : Hid (cmI s sc j = (E : Int)) := by show _ = _; unfold cmI; rw [hc, hE]; show (j : Int) + k = _; omega
            rw [HV.out] at HCJ
            have HKJ := Lib.hid (HK.out j E (by omega) (by omega))
            have hES : E ≤ s.size := by omega
            have hjE : j < E := by omega
            have q1 : decide ((s.size : Int) < (E : Int)) = false := decide_eq_false (by omega)
            have q2 : decide ((E : Int) < 0) = false := decide_eq_false (by omega)
            cases ha : ((s.data.toList.drop j).take k).any bad with
            | true =>
              have HN := Lib.hid (HI.out.none hj (fun m => by rw [e] at hc ha ⊢; exact bend_bad hb hc ha))
              have HA : Hid (((s.data.toList.drop j).take (E - j)).any bad = true) := by show _ = _; rw [show E - j = k by omega]; exact ha
              clear e hb hc ha hE hk2
              go_wp2_with (first | (go_at_call 19; refine (HB.out _).mono ?_; rintro e w' ⟨rfl, rfl⟩) | (go_at_call 20; refine HCJ.out.mono ?_; rintro e w' ⟨rfl, rfl⟩) | (go_at_call 24; refine HKJ.out.mono ?_; rintro e w' ⟨r, rfl, hr, rfl⟩; have hr0 : 0 ≤ r := hr.2 HA.out; have q3 : decide (0 ≤ r) = true := decide_eq_true hr0; clear hr))
              go_ret3
              exact ⟨_, _, _, rfl, .inr ⟨HN.out, by decide⟩, rfl⟩
            | false =>
              have HN := Lib.hid (HI.out.next (k := k) hj hk1 (fun m => by rw [e] at hc ha ⊢; rw [bend_cm hb hc ha, ← e, List.drop_drop]))
              rw [← hE] at HN
              have HA : Hid (((s.data.toList.drop j).take (E - j)).any bad = false) := by show _ = _; rw [show E - j = k by omega]; exact ha
              clear e hb hc ha hE hk2
              go_wp2_with (first | (go_at_call 19; refine (HB.out _).mono ?_; rintro e w' ⟨rfl, rfl⟩) | (go_at_call 20; refine HCJ.out.mono ?_; rintro e w' ⟨rfl, rfl⟩) | (go_at_call 24; refine HKJ.out.mono ?_; rintro e w' ⟨r, rfl, hr, rfl⟩; have hr0 : ¬ 0 ≤ r := fun h => (by have := hr.1 h; rw [HA.out] at this; cases this); have q3 : decide (0 ≤ r) = false := decide_eq_false hr0; clear hr))
              go_roundw
              case rel => exact ⟨E, hES, rfl, trivial, HN⟩
              case measure => simp [intOf]; omega
    · obtain rfl : j = s.size := by omega
      have HN := Lib.hid (HI.out.some (Nat.le_refl _) (fun m => by rw [List.drop_eq_nil_of_le (by simp)]; rfl))
      go_wp2_with fail
      go_ret3
      exact ⟨_, _, _, rfl, HN.out, rfl⟩
end Go.Proofs.Ytckinhebbhflgaa
