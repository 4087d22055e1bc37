/- lang.integer: a number as it is written in a way. Conditions: a string of at most 10^6 bytes; the variable strconv.ErrRange holds an error. -/
import Derived.Test.YtdolpehcfifecaaGreatDoorMgV
import Derived.Lib.AtoiAll
import Derived.Lib.SmallJoins
import Derived.Deep.CutBlock
namespace Mh
open Go Go.RowKit
set_option linter.unusedVariables false
theorem mparse_not : ∀ (l : List UInt8) (a : Nat), l.all digB = true → Lib.parseUint10 a l ≠ .syntax := by
  intro l
  induction l with
  | nil => intro a _ h; cases h
  | cons c l ih =>
    intro a h e
    rw [List.all_cons, Bool.and_eq_true] at h
    have hc : 48 ≤ c.toNat ∧ c.toNat ≤ 57 := of_decide_eq_true h.1
    simp only [Lib.parseUint10, if_pos hc] at e
    split at e
    · cases e
    · split at e
      · cases e
      · exact ih _ h.2 e
theorem trim45_nil : Lib.trimPrefix [] [45] = [] := rfl
theorem trim45_cons (c : UInt8) (l : List UInt8) : Lib.trimPrefix (c :: l) [45] = if c = 45 then l else c :: l := by
  unfold Lib.trimPrefix
  by_cases h : c = 45
  · subst h; simp [Lib.hasPrefix, List.isPrefixOf]
  · have h2 : ((45 : UInt8) == c) = false := beq_false_of_ne (Ne.symm h)
    simp [Lib.hasPrefix, List.isPrefixOf, h, h2]
theorem matoi_not {l : List UInt8} (h0 : Lib.trimPrefix l [45] ≠ []) (h : (Lib.trimPrefix l [45]).all digB = true) : Lib.atoiAll l ≠ .syntax := by
  cases l with
  | nil => exact absurd rfl h0
  | cons c r =>
    rw [trim45_cons] at h0 h
    intro e
    unfold Lib.atoiAll at e
    simp only at e
    by_cases hc : c = 45
    · subst hc
      rw [if_pos rfl] at h0 h
      rw [if_pos (show UInt8.toNat 45 = 43 ∨ UInt8.toNat 45 = 45 from Or.inr rfl)] at e
      unfold Lib.parseMag at e
      rw [if_neg h0] at e
      have := mparse_not r 0 h
      split at e
      · rename_i h1; exact this h1
      · cases e
      · split at e
        · cases e
        · split at e <;> cases e
    · rw [if_neg hc] at h0 h
      have hd : 48 ≤ c.toNat ∧ c.toNat ≤ 57 := by
        rw [List.all_cons, Bool.and_eq_true] at h
        exact of_decide_eq_true h.1
      rw [if_neg (by omega)] at e
      unfold Lib.parseMag at e
      rw [if_neg h0] at e
      have := mparse_not (c :: r) 0 h
      split at e
      · rename_i h1; exact this h1
      · cases e
      · split at e
        · cases e
        · split at e <;> cases e
theorem matoi_wf {l : List UInt8} {n : Int} (h : Lib.atoiAll l = .ok n) : -9223372036854775808 ≤ n ∧ n ≤ 9223372036854775807 := by
  cases l with
  | nil => cases h
  | cons c r =>
    unfold Lib.atoiAll at h
    simp only at h
    split at h
    · cases h
    · cases h
    · split at h
      · cases h
      · split at h
        · cases h
        · injection h with h
          subst h
          split <;> omega
theorem intP_wf (l : List UInt8) : -9223372036854775808 ≤ (intP l).1 ∧ (intP l).1 ≤ 9223372036854775807 := by
  unfold intP
  simp only
  split
  · exact ⟨by decide, by decide⟩
  · split
    · rename_i h; exact matoi_wf h
    · exact ⟨by decide, by decide⟩
end Mh
namespace Go.Proofs.YtdolpehcfifecaaGreatDoor
open Go.RowKit Mh
set_option linter.unusedVariables false
/-- The variable strconv.ErrRange holds an error. -/
def EvAt (w : World) : Prop := ∃ tp p, w.cell? ⟨7, 0, none⟩ = some (.iface tp p)
theorem EvAt.keep {w w' : World} {B : Nat} (h : EvAt w) (hb : Below B w w') (hB : 7 + 1 ≤ B) : EvAt w' := by
  obtain ⟨tp, p, h⟩ := h
  exact ⟨tp, p, (hb.cell (p := ⟨7, 0, none⟩) (by show 7 < B; omega)).trans h⟩
theorem EvAt.kept {w w' : World} {S : List Nat} (h : EvAt w) (hk : Kept S w w') (hS : ∀ b ∈ S, 7 < b) : EvAt w' := by
  obtain ⟨tp, p, h⟩ := h
  have hlt : 7 < w.heap.size := World.block_lt_of_cell? w _ h
  refine ⟨tp, p, ?_⟩
  rw [World.cell?_of_block (a := ⟨7, 0, none⟩) (hk.block 7 hlt (fun hm => by have := hS _ hm; omega))]
  exact h
theorem EvAt.size {w : World} (h : EvAt w) : 7 + 1 ≤ w.heap.size := by
  obtain ⟨tp, p, h⟩ := h
  have := World.block_lt_of_cell? w _ h
  exact this
theorem matoi_ok (s : ByteArray) (hs : s.size ≤ 1000000000) (n : Int) (h : Lib.atoiAll s.data.toList = .ok n) (w : World) :
    Calls Tryz.prog 81 #[.string s] w fun e w' => e = .returned (.tuple #[.int .i64 n, .nilIface]) ∧ Below w.heap.size w w' := by
  refine (Tryz.strconv_Atoi_ok s (by omega) n h w).mono ?_
  rintro e w' ⟨rfl, hw⟩
  refine ⟨rfl, ?_⟩
  rcases hw with rfl | ⟨t, rfl⟩
  · exact Below.refl _ _
  · exact Go.Joins.below_bytesWorld _ _ _ _ (Nat.le_refl _)
theorem matoi_far (s : ByteArray) (hs : s.size ≤ 1000000000) (h : Lib.atoiAll s.data.toList = .range) (w : World) (hev : EvAt w) :
    Calls Tryz.prog 81 #[.string s] w fun e w' => ∃ tp p, e = .returned (.tuple #[.int .i64 (Lib.atoiSat s.data.toList), .iface tp p]) ∧ Below w.heap.size w w' := by
  obtain ⟨tp, p, hv⟩ := hev
  refine (Tryz.strconv_Atoi_range s (by omega) h _ w hv (.inr ⟨tp, p, rfl⟩)).mono ?_
  rintro e w' ⟨N, rfl, _, _, hb⟩
  exact ⟨_, _, rfl, hb⟩
theorem mlist_at {s : ByteArray} {l : List UInt8} (h : s.data.toList = l) : (s.toList == l) = true := by rw [ByteArray.toList_eq, h]; exact beq_self_eq_true _
theorem mlist_not {s : ByteArray} {l : List UInt8} (h : s.data.toList ≠ l) : (s.toList == l) = false := by rw [ByteArray.toList_eq]; exact beq_false_of_ne h
theorem mempty_at {s : ByteArray} (h : s.data.toList = []) : s.toList.isEmpty = true := by rw [ByteArray.toList_eq, h]; rfl
theorem mempty_not {s : ByteArray} (h : s.data.toList ≠ []) : s.toList.isEmpty = false := by
  rw [ByteArray.toList_eq]
  cases hc : s.data.toList with
  | nil => exact absurd hc h
  | cons a l => rfl
theorem msize_of {s : ByteArray} (h : s.data.toList ≠ []) : 0 < s.size := by
  have : s.data.toList.length = s.size := by simp
  have := List.length_pos_iff.2 h
  omega
theorem mhead_at {s : ByteArray} (h : 0 < s.size) : s.data.toList.head? = some s[0] := by
  rw [List.head?_eq_getElem?, List.getElem?_eq_getElem (by simpa using h)]
  congr 1
theorem mall_at (s : ByteArray) (f : UInt8 → Bool) : s.data.toList.all f = true ↔ ∀ j (h : j < s.size), f s[j] = true := by
  rw [List.all_eq_true]
  constructor
  · intro h j hj
    have e : s.data.toList[j]? = some s[j] := by
      rw [List.getElem?_eq_getElem (by simpa using hj)]; congr 1
    exact h _ (List.mem_of_getElem? e)
  · intro h x hx
    obtain ⟨i, hi, rfl⟩ := List.mem_iff_getElem.1 hx
    have := h i (by simpa using hi)
    simpa [ByteArray.getElem_eq_getElem_data] using this
/-- What integer gives. -/
def IntR (p : Int × Int) (w : World) (e : Ending) (w' : World) : Prop := e = .returned (.tuple #[.int .i64 p.1, .int .i64 p.2]) ∧ Below w.heap.size w w'
set_option maxRecDepth 100000 in
set_option maxHeartbeats 4000000 in
theorem ginteger_any (s : ByteArray) (w : World) (hs : s.size ≤ 1000000) (hev : EvAt w) : Calls Tryz.prog 68 #[.string s] w (IntR (intP s.data.toList) w) := by
  have HT := Lib.hid (fun w => Tryz.strings_TrimPrefix s ⟨#[45]⟩ w)
  obtain ⟨D, hD⟩ : ∃ D : ByteArray, D = ⟨(Lib.trimPrefix s.data.toList [45]).toArray⟩ := ⟨_, rfl⟩
  have hDl : D.data.toList = Lib.trimPrefix s.data.toList [45] := by rw [hD]
  have hDs : D.size ≤ s.size := by
    have h1 : D.data.toList.length = D.size := by simp
    have h2 : s.data.toList.length = s.size := by simp
    rw [hDl] at h1
    have h3 : (Lib.trimPrefix s.data.toList [45]).length ≤ s.data.toList.length := by
      cases hc : s.data.toList with
      | nil => simp [Lib.trimPrefix]
      | cons c l => rw [trim45_cons]; split <;> simp
    omega
  have HT : Hid (∀ w, Calls Tryz.prog 80 #[.string s, .string ⟨#[45]⟩] w fun e w' => e = .returned (.string D) ∧ w' = w) := by rw [hD]; exact HT.out
  have HI : Hid (intP s.data.toList = if D.data.toList = [] ∨ (D.data.toList.head? = some 48 ∧ s.data.toList ≠ [48]) ∨ D.data.toList.all digB = false then ((0, 8) : Int × Int) else match Lib.atoiAll s.data.toList with
    | .ok n => (n, 0)
    | _ => (0, 2)) := by rw [hDl]; rfl
  have HNS : Hid (D.data.toList ≠ [] → D.data.toList.all digB = true → Lib.atoiAll s.data.toList ≠ .syntax) := by rw [hDl]; exact matoi_not
  clear hD hDl
  have HEV := Lib.hid hev
  clear hev
  by_cases h0 : D.data.toList = []
  · have q0 := mempty_at h0
    have HR : Hid (intP s.data.toList = (0, 8)) := by show _ = _; rw [HI.out, if_pos (.inl h0)]
    clear h0 HI HNS
    go_enter Tryz.func68, Tryz.ntmps68
    go_wp2_with (go_at_call 80; refine (HT.out _).mono ?_; rintro e w' ⟨rfl, hw⟩; obtain rfl : w = w' := hw.symm)
    go_ret2
    exact ⟨by rw [HR.out]; rfl, Below.refl _ _⟩
  have q0 := mempty_not h0
  have hpos := msize_of h0
  have HH := Lib.hid (mhead_at hpos)
  by_cases hlead : D.data.toList.head? = some 48 ∧ s.data.toList ≠ [48]
  · have HR : Hid (intP s.data.toList = (0, 8)) := by show _ = _; rw [HI.out, if_pos (.inr (.inl hlead))]
    have b48 : ((D[0].toNat : Int) == 48) = true := by
      have h := hlead.1
      rw [HH.out] at h
      rw [Option.some.inj h]; rfl
    have q48 : (s.toList == [48]) = false := mlist_not hlead.2
    clear h0 HI HNS hlead
    go_enter Tryz.func68, Tryz.ntmps68
    go_wp2_with (go_at_call 80; refine (HT.out _).mono ?_; rintro e w' ⟨rfl, hw⟩; obtain rfl : w = w' := hw.symm)
    go_ret2
    exact ⟨by rw [HR.out]; rfl, Below.refl _ _⟩
  have hbb : (((D[0].toNat : Int) == 48) = false) ∨ (((D[0].toNat : Int) == 48) = true ∧ (s.toList == [48]) = true) := by
    by_cases h48 : D[0].toNat = 48
    · right
      refine ⟨by rw [beq_iff_eq]; omega, ?_⟩
      by_cases hs48 : s.data.toList = [48]
      · exact mlist_at hs48
      · exact absurd ⟨by rw [HH.out]; congr 1; exact UInt8.toNat_inj.1 h48, hs48⟩ hlead
    · left; rw [beq_eq_false_iff_ne]; omega
  have HI : Hid (intP s.data.toList = if D.data.toList.all digB = false then ((0, 8) : Int × Int) else match Lib.atoiAll s.data.toList with
    | .ok n => (n, 0)
    | _ => (0, 2)) := by
    show _ = _
    rw [HI.out]
    by_cases hd : D.data.toList.all digB = false
    · rw [if_pos (.inr (.inr hd)), if_pos hd]
    · rw [if_neg (by rintro (h | h | h); exact h0 h; exact hlead h; exact hd h), if_neg hd]
  have HNS : Hid (D.data.toList.all digB = true → Lib.atoiAll s.data.toList ≠ .syntax) := HNS.out h0
  have HAL := Lib.hid (mall_at D digB)
  clear h0 hlead HH
  have L : ∀ K : Prop, K ∨ True := fun _ => .inr trivial
  clear L
  rcases hbb with b48 | ⟨b48, q48⟩
  all_goals
    go_enter Tryz.func68, Tryz.ntmps68
    go_wp2_with (go_at_call 80; refine (HT.out _).mono ?_; rintro e w' ⟨rfl, hw⟩; obtain rfl : w = w' := hw.symm)
    go_loop [5] (fun i => ∃ k : Nat, k ≤ D.size ∧ i = .int .i64 k ∧ Hid (∀ j (h : j < D.size), j < k → digB D[j] = true)) (fun i => D.size - (intOf i).toNat)
    case atStart => exact ⟨0, Nat.zero_le _, rfl, fun j h hj => by omega⟩
    case round =>
      obtain ⟨k, hk, rfl, HA⟩ := hrel
      by_cases hlt : k < D.size
      · have HC := Lib.hid (fun w' => mdigit_any D[k] w')
        cases hb : digB D[k] with
        | true =>
          rw [hb] at HC
          have HST : Hid (∀ j (h : j < D.size), j < k + 1 → digB D[j] = true) := by
            intro j h hj
            by_cases e : j = k
            · subst e; exact hb
            · exact HA.out j h (by omega)
          clear hb
          go_wp2_with (go_at_call 26; refine (HC.out _).mono ?_; rintro e w' ⟨rfl, rfl⟩)
          go_round
          case rel => exact ⟨k + 1, by omega, by go_num, HST⟩
          case measure => simp [intOf]; omega
        | false =>
          rw [hb] at HC
          have HR : Hid (intP s.data.toList = (0, 8)) := by
            show _ = _
            rw [HI.out, if_pos]
            rw [Bool.eq_false_iff]
            intro hall
            have := HAL.out.1 hall k hlt
            rw [hb] at this; cases this
          clear hb
          go_wp2_with (go_at_call 26; refine (HC.out _).mono ?_; rintro e w' ⟨rfl, rfl⟩)
          go_ret2
          exact ⟨by rw [HR.out]; rfl, Below.refl _ _⟩
      · have hall : D.data.toList.all digB = true := HAL.out.2 (fun j h => HA.out j h (by omega))
        have HNS2 := Lib.hid (HNS.out hall)
        have HI2 : Hid (intP s.data.toList = match Lib.atoiAll s.data.toList with
          | .ok n => ((n, 0) : Int × Int)
          | _ => (0, 2)) := by show _ = _; rw [HI.out, if_neg (by rw [hall]; simp)]
        clear hall
        cases ha : Lib.atoiAll s.data.toList with
        | ok n =>
          have HR : Hid (intP s.data.toList = (n, 0)) := by show _ = _; rw [HI2.out, ha]
          have HAT := Lib.hid (fun w => matoi_ok s (by omega) n ha w)
          clear ha
          go_wp2_with (go_at_call 81; refine (HAT.out _).mono ?_; rintro e w2 ⟨rfl, hb⟩; have HB := Lib.hid hb; clear hb)
          go_ret2
          exact ⟨by rw [HR.out]; rfl, HB.out⟩
        | range =>
          have HR : Hid (intP s.data.toList = (0, 2)) := by show _ = _; rw [HI2.out, ha]
          have HAT := Lib.hid (matoi_far s (by omega) ha w HEV.out)
          clear ha
          go_wp2_with (go_at_call 81; refine HAT.out.mono ?_; rintro e w2 ⟨tp, p, rfl, hb⟩; have HB := Lib.hid hb; clear hb)
          go_ret2
          exact ⟨by rw [HR.out]; rfl, HB.out⟩
        | _ => exact absurd ha HNS2.out
end Go.Proofs.YtdolpehcfifecaaGreatDoor
