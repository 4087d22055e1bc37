/- asset.bundleFault and Locate at a right bundle. Conditions: as stated. -/
import Derived.Test.YtccmnhpkbbhomaaDoorProg
import Derived.Test.YtccmnhpkbbhomaaDoorPf
import Derived.Deep.QuietTactic
import Derived.BigQuiet
import Derived.Outline
namespace Go.Proofs.YtccmnhpkbbhomaaDoor
open Go.RowKit Mh
set_option linter.unusedVariables false

/-- A right bundle as it lies in memory: paths P, sizes N. -/
def BG (w : World) (P : List ByteArray) (N : List Nat) (body : ByteArray) (pv ev : Value) : Prop :=
  Ss w pv P ∧ Sl 1 w ev N.length ((ends N).map (Value.int .i64)) ∧ P.length = N.length ∧ N.length ≤ 40 ∧ body.size = N.sum ∧ N.sum ≤ 200000
theorem BG.below {w w' : World} {P : List ByteArray} {N : List Nat} {body : ByteArray} {pv ev : Value} (h : BG w P N body pv ev) (hb : Below w.heap.size w w') : BG w' P N body pv ev :=
  ⟨h.1.below hb, h.2.1.below hb, h.2.2⟩

set_option maxHeartbeats 1000000 in
theorem bf_any (P : List ByteArray) (N : List Nat) (body : ByteArray) (pv ev : Value) (w : World) (h : BG w P N body pv ev) :
    Calls Tryd.prog 32 #[.agg #[.string body, pv, ev]] w fun e w' => e = .returned (.int .i64 0) ∧ Below w.heap.size w w' := by
  obtain ⟨hp, he, hpn, hn, hbs, hmx⟩ := h
  obtain ⟨pa, pc, rfl, _, _⟩ := Sl.shape hp.1
  obtain ⟨ea, ec, rfl, _, hes⟩ := Sl.shape he
  rw [hpn]
  have HE : Hid (∀ i (hi : i < N.length), ∃ b off, ea = some ⟨b, off, none⟩ ∧ b < w.heap.size ∧ w.cell? ⟨b, off + i, none⟩ = some (.int .i64 (sm N (i + 1) : Int))) := by
    intro i hi
    obtain ⟨b, off, e, _, _, hlt, hc⟩ := hes (by omega)
    exact ⟨b, off, e, hlt, hc i _ (by rw [List.getElem?_map, ends_get N i hi]; rfl)⟩
  have HB := Lib.hid hbs
  clear hp he hpn hes hbs
  have q1 : ((N.length : Int) != (N.length : Int)) = false := by simp
  have q2 : decide (40 < (N.length : Int)) = false := decide_eq_false (by omega)
  have q3 : decide (200000 < (body.size : Int)) = false := by rw [HB.out]; exact decide_eq_false (by omega)
  go_enter Tryd.func32, Tryd.ntmps32
  go_wp2_with fail
  go_loop [3, 26] (fun x i => ∃ k : Nat, k ≤ N.length ∧ i = .int .i64 k ∧ x = .int .i64 (sm N k : Nat)) (fun _ i => N.length - (intOf i).toNat)
  case atStart => exact ⟨0, by omega, rfl, by rw [sm_zero]; rfl⟩
  case round =>
    obtain ⟨k, hk, rfl, rfl⟩ := hrel
    by_cases hkl : k < N.length
    · obtain ⟨b, off, rfl, hlt, hc⟩ := HE.out k hkl
      have hm := sm_mono N k
      have q4 : decide ((sm N (k + 1) : Int) < (sm N k : Int)) = false := decide_eq_false (by omega)
      have q5 : decide (sm N (k + 1) < sm N k) = false := decide_eq_false (by omega)
      clear hm
      have HS := Lib.hid (show ((sm N (k + 1) : Nat) : Int) = ((sm N (k + 1) : Nat) : Int) from rfl)
      obtain ⟨s1, hs1⟩ : ∃ s1, s1 = sm N (k + 1) := ⟨_, rfl⟩
      rw [← hs1] at hc q4 q5
      have HS1 := Lib.hid hs1
      clear hs1 HS
      go_wp2_with fail
      go_round
      case rel => exact ⟨k + 1, by omega, by go_num, by rw [← HS1.out]⟩
      case measure => simp [intOf]; omega
    · obtain rfl : k = N.length := by omega
      have q4 : ((sm N N.length : Int) != (body.size : Int)) = false := by rw [HB.out, sm_all N _ (Nat.le_refl _)]; simp
      go_wp2_with fail
      go_ret
      exact ⟨rfl, (Below.refl _ _).alloc (Nat.le_refl _) _⟩
/-- The part in which a byte is. -/
def LOC (N : List Nat) (at_ : Nat) (w : World) (e : Ending) (w' : World) : Prop :=
  ∃ k : Nat, k < N.length ∧ sm N k ≤ at_ ∧ at_ < sm N (k + 1) ∧ e = .returned (.tuple #[.int .i64 k, .int .i64 ((at_ : Int) - (sm N k : Int)), .int .i64 0]) ∧ Below w.heap.size w w'
set_option maxHeartbeats 1000000 in
theorem loc_any (P : List ByteArray) (N : List Nat) (body : ByteArray) (pv ev : Value) (at_ : Nat) (w : World) (h : BG w P N body pv ev) (hat : at_ < body.size) :
    Calls Tryd.prog 9 #[.agg #[.string body, pv, ev], .int .i64 at_] w (LOC N at_ w) := by
  have hF := Lib.hid (bf_any P N body pv ev _ (h.below ((Below.refl _ w).alloc (Nat.le_refl _) (.cells #[.string body, pv, ev] 27))))
  obtain ⟨hp, he, hpn, hn, hbs, hmx⟩ := h
  obtain ⟨pa, pc, rfl, _, _⟩ := Sl.shape hp.1
  obtain ⟨ea, ec, rfl, _, hes⟩ := Sl.shape he
  rw [hpn] at hF ⊢
  have hn0 : 0 < N.length := by
    cases hc : N with
    | nil => have h9 := hbs; rw [hc, List.sum_nil] at h9; omega
    | cons a l => simp
  obtain ⟨b, off, rfl, hnc, hcm, hlt, hc⟩ := hes hn0
  have HE : Hid (∀ i (hi : i < N.length), w.cell? ⟨b, off + i, none⟩ = some (.int .i64 (sm N (i + 1) : Nat))) := by
    intro i hi
    exact hc i _ (by rw [List.getElem?_map, ends_get N i hi]; rfl)
  have HB := Lib.hid hbs
  unfold maxLen at hcm
  have q1 : decide ((body.size : Int) ≤ (at_ : Int)) = false := decide_eq_false (by omega)
  have q2 : decide (body.size ≤ at_) = false := decide_eq_false (by omega)
  clear hp he hpn hes hbs hc
  have hsz : body.size ≤ 200000 := by rw [HB.out]; exact hmx
  go_enter Tryd.func9, Tryd.ntmps9
  go_wp2_with fail
  refine hF.out.mono ?_
  rintro e w1 ⟨rfl, hb1⟩
  have hT := hb1.block w.heap.size (by simp)
  rw [heap_alloc_new] at hT
  have c0 : w1.cell? ⟨w.heap.size, 0, none⟩ = some (.string body) := cellT hT rfl
  have c2 : w1.cell? ⟨w.heap.size, 2, none⟩ = some (.slice (some ⟨b, off, none⟩) N.length ec) := cellT hT rfl
  have HB1 : Hid (Below w.heap.size w w1) := ((Below.refl _ w).alloc (Nat.le_refl _) _).trans (hb1.mono (by simp))
  clear hb1 hT
  go_wp2_with fail
  go_loop [4, 5] (fun p f => ∃ k : Nat, k < N.length ∧ sm N k ≤ at_ ∧ p = .int .i64 k ∧ f = .int .i64 (sm N k : Nat)) (fun p _ => N.length - (intOf p).toNat)
  case atStart => exact ⟨0, hn0, by rw [sm_zero]; omega, rfl, by rw [sm_zero]; rfl⟩
  case round =>
    obtain ⟨k, hkl, hle, rfl, rfl⟩ := hrel
    have hc := (HB1.out.cell (p := ⟨b, off + k, none⟩) hlt).trans (HE.out k hkl)
    have hbd : sm N (k + 1) ≤ 200000 := by have := sm_le N (k + 1) N.length (by omega); rw [sm_all N _ (Nat.le_refl _)] at this; omega
    obtain ⟨s1, hs1⟩ : ∃ s1, s1 = sm N (k + 1) := ⟨_, rfl⟩
    rw [← hs1] at hc hbd
    have HS1 := Lib.hid hs1
    by_cases hge : s1 ≤ at_
    · have hk1 : k + 1 < N.length := by
        have h9 : sm N (k + 1) < N.sum := by rw [← hs1]; have := HB.out; omega
        by_cases e : k + 1 < N.length
        · exact e
        · rw [sm_all N _ (by omega)] at h9; omega
      have q4 : decide ((s1 : Int) ≤ (at_ : Int)) = true := decide_eq_true (by omega)
      have q5 : decide (s1 ≤ at_) = true := decide_eq_true hge
      clear hs1
      go_wp2_with fail
      go_round
      case rel => exact ⟨k + 1, hk1, by rw [← HS1.out]; exact hge, by go_num, by rw [HS1.out]⟩
      case measure => simp [intOf]; omega
    · have H : Hid (∀ w', w1 = w' → LOC N at_ w (.returned (.tuple #[.int .i64 k, .int .i64 ((at_ : Int) - (sm N k : Int)), .int .i64 0])) w') := by
        rintro w' rfl
        exact ⟨k, hkl, hle, by rw [← hs1]; omega, rfl, HB1.out⟩
      have q4 : decide ((s1 : Int) ≤ (at_ : Int)) = false := decide_eq_false (by omega)
      have q5 : decide (s1 ≤ at_) = false := decide_eq_false hge
      obtain ⟨s0, hs0⟩ : ∃ s0, s0 = sm N k := ⟨_, rfl⟩
      rw [← hs0] at hle H ⊢
      clear hs1 hs0
      go_wp2_with fail
      go_ret3
      exact H.out _ rfl
end Go.Proofs.YtccmnhpkbbhomaaDoor
