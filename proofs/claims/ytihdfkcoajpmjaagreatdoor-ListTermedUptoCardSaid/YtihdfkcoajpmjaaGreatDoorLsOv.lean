/- Values that were read as arguments. -/
import Derived.Test.YtihdfkcoajpmjaaGreatDoorKeOp
import Derived.Test.YtihdfkcoajpmjaaGreatDoorLsD
namespace Go.Proofs.YtihdfkcoajpmjaaGreatDoor
open Go.ChangeShapes Go.WideShapes Go.ChangeAt Go.RowKit Go.Deep Mh
set_option linter.unusedVariables false
theorem sum_memL : ∀ (l : List Nat) (x : Nat), x ∈ l → x ≤ l.sum := by
  intro l
  induction l with
  | nil => intro x h; simp at h
  | cons a l ih =>
    intro x h
    rw [List.sum_cons]
    rcases List.mem_cons.1 h with rfl | h
    · omega
    · have := ih x h; omega
set_option maxRecDepth 100000 in
set_option maxHeartbeats 2000000 in
theorem open_vals {H : Type} {enc : TypeId × Value → H} {W : World} {base : Nat} {v : Value} {d : DataW H} {p : List MemPlace} (hv : Value.okWide Tryz.prog W .any base 22 v) (h : DataW.Trod enc Tryz.prog W 0 (fun _ => true) true 22 v d p) :
    ∃ l : List V, VsL W v l ∧ ∀ X ∈ l, X.nodes ≤ Rows.uptoBulk d := by
  obtain ⟨a, len0, cap, rfl⟩ := okWide_slice Tryz.underlying22 hv
  obtain ⟨fuel, hf⟩ := h
  obtain ⟨len, n, g, y, hS, hn, hg, hbk⟩ := open_sl_rows2 Tryz.underlying22 (show Tryz.prog.cellsOf 35 = 6 by kernel_rfl) (by decide) hf
  have hx : ∀ i, ∃ X : V, i < len → VAt W X (g i) ∧ ∀ M, 2 * n ≤ M → X.nodes ≤ bkN M (y i).1 := by
    intro i
    by_cases hi : i < len
    · obtain ⟨X, hX, hb⟩ := open_vat2 Tryz.underlying35 rfl rfl rfl rfl rfl rfl rfl rfl rfl rfl rfl rfl Tryz.underlying3 Tryz.underlying4 Tryz.underlying9 Tryz.underlying22 Tryz.underlying33 (by kernel_rfl) (by kernel_rfl) (by kernel_rfl) (by kernel_rfl) (by kernel_rfl) (by kernel_rfl) (n + 1) n (Nat.lt_succ_self _) _ _ (hg i hi).2
      exact ⟨X, fun _ => ⟨hX, hb⟩⟩
    · exact ⟨V.nil, fun h => absurd h hi⟩
  have hb1 := bkN_le (2 * n + 1) d
  have hb2 := hbk (2 * n)
  refine ⟨(List.range len).map fun i => (hx i).choose, ⟨(List.range len).flatMap g, by simpa using hS, ?_⟩, fun X hX => ?_⟩
  · rw [List.range_eq_range']
    exact VsAt.mk (fun i => (hx i).choose) g len 0 fun i hi => by rw [Nat.zero_add]; exact ((hx i).choose_spec hi).1
  · obtain ⟨i, hi, rfl⟩ := List.mem_map.1 hX
    have hil : i < len := List.mem_range.1 hi
    have h1 := ((hx i).choose_spec hil).2 (2 * n) (Nat.le_refl _)
    have h2 := sum_memL ((List.range len).map fun i => bkN (2 * n) (y i).1) _ (List.mem_map.2 ⟨i, hi, rfl⟩)
    have hb2' : ((List.range len).map fun i => bkN (2 * n) (y i).1).sum + 1 ≤ bkN (2 * n + 1) d := hb2
    omega
end Go.Proofs.YtihdfkcoajpmjaaGreatDoor
