/- slices.Collect, Sorted over slices.Values of positions; slices.IsSorted of 0, 1, ... Conditions: where the positions lie. -/
import Derived.Test.YtgalcdolhnckmaaGreatDoorLsI
import Derived.Deep.QuietTactic
import Derived.BigQuiet
import Derived.Deep.CutRange
namespace Mh
open Go Go.RowKit
set_option linter.unusedVariables false
theorem sort_range {L : List Nat} {n : Nat} (h : L.Perm (List.range n)) : ((L.map fun p : Nat => (p : Int)).mergeSort fun x y => decide (x ≤ y)) = (List.range n).map fun p : Nat => (p : Int) := by
  have h1 : ((L.map fun p : Nat => (p : Int)).mergeSort fun x y => decide (x ≤ y)).Perm ((List.range n).map fun p : Nat => (p : Int)) := (List.mergeSort_perm _ _).trans (h.map _)
  refine List.Perm.eq_of_pairwise (le := fun x y : Int => decide (x ≤ y) = true) (fun a b _ _ h1 h2 => Int.le_antisymm (of_decide_eq_true h1) (of_decide_eq_true h2)) ?_ ?_ h1
  · exact List.pairwise_mergeSort (le := fun x y : Int => decide (x ≤ y)) (fun a b c h1 h2 => decide_eq_true (Int.le_trans (of_decide_eq_true h1) (of_decide_eq_true h2))) (fun a b => by
      rcases Int.le_total a b with h | h
      · simp [h]
      · simp [h]) _
  · rw [List.pairwise_map]
    exact List.pairwise_lt_range.imp fun h => decide_eq_true (by omega)
theorem encP_int (L : List Nat) : L.map encP = (L.map fun p : Nat => (p : Int)).map (Value.int .i64) := by rw [List.map_map]; rfl
end Mh
namespace Go.Proofs.YtgalcdolhnckmaaGreatDoor
open Go.RowKit Go.Sort Mh
set_option linter.unusedVariables false
theorem collect_any (Bs : Nat) (ao : Option Addr) (c : Nat) (L : List Nat) (hL : L.length ≤ 1000000) (w : World) (hBs : Boxed w Bs 25 (.slice ao L.length c)) (hT : RowB w.heap.size w ao L) :
    Calls Tryz.prog 16 #[.func (.func 18) #[] #[.pointer (some ⟨Bs, 0, none⟩)]] w fun e w' => ∃ v', e = .returned v' ∧ w'.ownsRow w.heap.size 3 1 v' L.length (L.map encP) ∧ Below w.heap.size w w' := by
  have C := Lib.hid (appSeq_any Bs ao c L hL w hBs hT)
  clear hBs hT
  go_enter Tryz.func16, Tryz.ntmps16
  go_wp2_with fail
  refine C.out.mono ?_
  rintro e w1 ⟨v1, rfl, hown, hb⟩
  obtain ⟨a1, c1, rfl⟩ := ownsRow_form hown
  have HO := Lib.hid hown
  have HB := Lib.hid hb
  clear hown hb C
  go_wp2_with fail
  go_ret
  exact ⟨_, rfl, HO.out, HB.out⟩
theorem sortI_any (v : Value) (zs : List Int) (base : Nat) (w : World) (hn : zs.length ≤ 1099511627776) (h : w.ownsRow base 3 1 v zs.length (zs.map (Value.int .i64))) (hbw : base ≤ w.heap.size) :
    Calls Tryz.prog 17 #[v] w fun e w' => e = .returned (.tuple #[]) ∧ Hid (w'.ownsRow base 3 1 v zs.length ((zs.mergeSort fun x y => decide (x ≤ y)).map (Value.int .i64)) ∧ Below base w w') := by
  rcases h.2 with ⟨rfl, h0⟩ | ⟨g, cap, cur, rfl, hbase, hb, h1, h2, h3, h4⟩
  · have hs : zs = [] := List.length_eq_zero_iff.1 h0
    subst hs
    refine (Tryz.slices_Sort_int_none none 0 w).mono ?_
    rintro e w' ⟨rfl, rfl⟩
    exact ⟨rfl, by simpa using h, Below.refl _ _⟩
  · refine (Tryz.slices_Sort_int g 0 cap zs w (holds_of_blockI hb (by simpa using h4)) (Array.getElem?_eq_some_iff.1 hb).1 (by omega)).mono ?_
    rintro e w' ⟨rfl, n, os, rfl⟩
    have hg := grownBy_sortedI (w := w) (g := g) (n := n) (os := os) (zs.mergeSort fun x y => decide (x ≤ y)).toArray
    exact ⟨rfl, ownsRow_sortedI (by simp) hbase hb h1 h2 h3, (Below.refl base w).grown hg hbw fun k hk => by cases hk; exact hbase⟩
theorem sorted_any (Bs : Nat) (ao : Option Addr) (c : Nat) (L : List Nat) (hL : L.length ≤ 1000000) (n : Nat) (hp : L.Perm (List.range n)) (w : World) (hBs : Boxed w Bs 25 (.slice ao L.length c)) (hT : RowB w.heap.size w ao L) :
    Calls Tryz.prog 6 #[.func (.func 18) #[] #[.pointer (some ⟨Bs, 0, none⟩)]] w fun e w' => ∃ v', e = .returned v' ∧ w'.ownsRow w.heap.size 3 1 v' n ((List.range n).map encP) ∧ Below w.heap.size w w' := by
  have C := Lib.hid (collect_any Bs ao c L hL w hBs hT)
  have hln : L.length = n := by rw [hp.length_eq, List.length_range]
  have HSR := Lib.hid (sort_range hp)
  have HLN := Lib.hid hln
  clear hBs hT hln hp
  go_enter Tryz.func6, Tryz.ntmps6
  go_wp2_with fail
  refine C.out.mono ?_
  rintro e w1 ⟨v1, rfl, hown, hb⟩
  rw [encP_int] at hown
  have HB := Lib.hid hb
  obtain ⟨a1, c1, rfl⟩ := ownsRow_form hown
  have hS := sortI_any _ (L.map fun p : Nat => (p : Int)) w.heap.size w1 (by rw [List.length_map]; omega) (by rw [List.length_map]; exact hown) hb.size
  rw [HSR.out] at hS
  have HS := Lib.hid hS
  clear hown hb C hS
  go_wp2_with fail
  refine HS.out.mono ?_
  rintro e w2 ⟨rfl, h2⟩
  have HO := Lib.hid h2.out.1
  have HB2 : Hid (Below w.heap.size w w2) := HB.out.trans h2.out.2
  clear h2 HS
  go_wp2_with fail
  go_ret
  exact ⟨_, rfl, by have := HO.out; rw [List.length_map, HLN.out] at this; rw [encP_int, HLN.out]; exact this, HB2.out⟩
theorem isSortedI_any (v : Value) (n : Nat) (hn : n ≤ 1000000) (w : World) (h : Sl 1 w v n ((List.range n).map encP)) :
    Calls Tryz.prog 8 #[v] w fun e w' => e = .returned (.bool true) ∧ Below w.heap.size w w' := by
  obtain ⟨ao, c, rfl, hm, hc⟩ := h.shp
  have HC : Hid (∀ i (hi : i < n), ∃ b off, ao = some ⟨b, off, none⟩ ∧ n ≤ c ∧ c ≤ maxLen ∧ b < w.heap.size ∧ w.cell? ⟨b, off + i, none⟩ = some (.int .i64 (i : Nat))) := fun i hi => by
    obtain ⟨b, off, h1, h2, h3, h4, h5⟩ := hc (by omega)
    exact ⟨b, off, h1, h2, h3, h4, h5 i _ (by rw [List.getElem?_map, List.getElem?_eq_getElem (by rw [List.length_range]; exact hi), List.getElem_range]; rfl)⟩
  have HL := Lib.hid (fun x y w' => Tryz.cmp_Less_int2 x y w')
  clear h hc hm
  go_enter Tryz.func8, Tryz.ntmps8
  go_wp2_with fail
  go_loopw [3] (fun i wr => ∃ k : Int, -1 ≤ k ∧ k ≤ (n : Int) - 1 ∧ i = .int .i64 k ∧ Hid (Below w.heap.size w wr)) (fun i wr => (intOf i).toNat)
  case atStart => exact ⟨(n : Int) - 1, by omega, by omega, rfl, Below.refl _ _⟩
  case round =>
    obtain ⟨k, hk1, hk2, rfl, HB⟩ := hrel
    by_cases hk : 0 < k
    · obtain ⟨j, rfl⟩ : ∃ j : Nat, k = (j : Int) + 1 := ⟨(k - 1).toNat, by omega⟩
      have hj : j + 1 < n := by omega
      obtain ⟨b, off, rfl, hc1, hc2, hlt, hca⟩ := HC.out j (by omega)
      obtain ⟨b', off', hbo, _, _, _, hcb⟩ := HC.out (j + 1) hj
      simp only [Option.some.injEq, Addr.mk.injEq, and_true] at hbo
      obtain ⟨rfl, rfl⟩ := hbo
      have d0 := (HB.out.cell (p := ⟨b, off + j, none⟩) hlt).trans hca
      have d1 := (HB.out.cell (p := ⟨b, off + (j + 1), none⟩) hlt).trans hcb
      have HQ : Hid (∀ w', Calls Tryz.prog 19 #[.int .i64 ((j : Int) + 1), .int .i64 (j : Int)] w' fun e w'' => e = .returned (.bool false) ∧ w'' = w') := fun w' => by
        have h := HL.out ((j : Int) + 1) (j : Int) w'
        rw [show decide ((j : Int) + 1 < (j : Int)) = false from decide_eq_false (by omega)] at h
        exact h
      have e1 : ((j + 1 : Nat) : Int) = (j : Int) + 1 := by omega
      rw [e1] at d1
      unfold maxLen at hc2
      clear hca hcb e1
      go_upto_region 4 with fail
      go_quiet ((go_at_call 19; refine Calls.quiet_of_same (HQ.out _)))
      go_wp2_with fail
      exact ⟨⟨j, by omega, by omega, rfl, HB.out.trans ((below_drewN_at wr _).mono HB.out.size)⟩, by simp [intOf]⟩
    · go_wp2_with fail
      go_ret
      exact ⟨rfl, HB.out⟩
end Go.Proofs.YtgalcdolhnckmaaGreatDoor
