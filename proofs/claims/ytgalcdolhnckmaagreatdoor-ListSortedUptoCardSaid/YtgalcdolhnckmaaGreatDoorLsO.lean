/- Values and keys that were read as arguments. -/
import Derived.Test.YtgalcdolhnckmaaGreatDoorKeOp
import Derived.Test.YtgalcdolhnckmaaGreatDoorLsT
namespace Go.Proofs.YtgalcdolhnckmaaGreatDoor
open Go.ChangeShapes Go.WideShapes Go.ChangeAt Go.RowKit Go.Deep Mh
set_option linter.unusedVariables false
theorem sum_memL : ∀ (l : List Nat) (x : Nat), x ∈ l → x ≤ l.sum := by
  intro l
  induction l with
  | nil => intro x h; simp at h
  | cons a l ih =>
    intro x h
    rw [List.sum_cons]
    rcases List.mem_cons.1 h with rfl | h
    · omega
    · have := ih x h; omega
set_option maxRecDepth 100000 in
set_option maxHeartbeats 2000000 in
theorem open_vals {H : Type} {enc : TypeId × Value → H} {W : World} {base : Nat} {v : Value} {d : DataW H} {p : List MemPlace} (hv : Value.okWide Tryz.prog W .any base 22 v) (h : DataW.Trod enc Tryz.prog W 0 (fun _ => true) true 22 v d p) :
    ∃ l : List V, VsL W v l ∧ ∀ X ∈ l, X.nodes ≤ Rows.uptoBulk d := by
  obtain ⟨a, len0, cap, rfl⟩ := okWide_slice Tryz.underlying22 hv
  obtain ⟨fuel, hf⟩ := h
  obtain ⟨len, n, g, y, hS, hn, hg, hbk⟩ := open_sl_rows2 Tryz.underlying22 (show Tryz.prog.cellsOf 35 = 6 by kernel_rfl) (by decide) hf
  have hx : ∀ i, ∃ X : V, i < len → VAt W X (g i) ∧ ∀ M, 2 * n ≤ M → X.nodes ≤ bkN M (y i).1 := by
    intro i
    by_cases hi : i < len
    · obtain ⟨X, hX, hb⟩ := open_vat2 Tryz.underlying35 rfl rfl rfl rfl rfl rfl rfl rfl rfl rfl rfl rfl Tryz.underlying3 Tryz.underlying4 Tryz.underlying9 Tryz.underlying22 Tryz.underlying33 (by kernel_rfl) (by kernel_rfl) (by kernel_rfl) (by kernel_rfl) (by kernel_rfl) (by kernel_rfl) (n + 1) n (Nat.lt_succ_self _) _ _ (hg i hi).2
      exact ⟨X, fun _ => ⟨hX, hb⟩⟩
    · exact ⟨V.nil, fun h => absurd h hi⟩
  have hb1 := bkN_le (2 * n + 1) d
  have hb2 := hbk (2 * n)
  refine ⟨(List.range len).map fun i => (hx i).choose, ⟨(List.range len).flatMap g, by simpa using hS, ?_⟩, fun X hX => ?_⟩
  · rw [List.range_eq_range']
    exact VsAt.mk (fun i => (hx i).choose) g len 0 fun i hi => by rw [Nat.zero_add]; exact ((hx i).choose_spec hi).1
  · obtain ⟨i, hi, rfl⟩ := List.mem_map.1 hX
    have hil : i < len := List.mem_range.1 hi
    have h1 := ((hx i).choose_spec hil).2 (2 * n) (Nat.le_refl _)
    have h2 := sum_memL ((List.range len).map fun i => bkN (2 * n) (y i).1) _ (List.mem_map.2 ⟨i, hi, rfl⟩)
    have hb2' : ((List.range len).map fun i => bkN (2 * n) (y i).1).sum + 1 ≤ bkN (2 * n + 1) d := hb2
    omega
set_option maxRecDepth 100000 in
theorem open_keys {H : Type} {enc : TypeId × Value → H} {W : World} {base : Nat} {v : Value} {d : DataW H} {p : List MemPlace} (hv : Value.okWide Tryz.prog W .any base 23 v) (h : DataW.Trod enc Tryz.prog W 0 (fun _ => true) true 23 v d p) :
    ∃ ks : List Ky, KsAt W v ks := by
  obtain ⟨a, len0, cap, rfl⟩ := okWide_slice Tryz.underlying23 hv
  obtain ⟨fuel, hf⟩ := h
  obtain ⟨len, n, g, y, hS, hn, hg⟩ := open_sl_rows Tryz.underlying23 (show Tryz.prog.cellsOf 46 = 2 by kernel_rfl) (by decide) hf
  have hx : ∀ i, ∃ k : Ky, i < len → g i = kyc k ∧ k.r.size ≤ maxLen := by
    intro i
    by_cases hi : i < len
    · obtain ⟨hgl, hgt⟩ := hg i hi
      obtain ⟨xs, n, hfu, hx0, hlen, hxl, hf⟩ := DataW.trod_struct Tryz.underlying46 hgt
      generalize g i = l at *
      match l, hgl with
      | [c0, c1], _ =>
      match xs, hxl with
      | [x0, x1], _ =>
      have h0 : DataW.trod enc Tryz.prog W 0 (fun _ => true) true n 9 [c0] = some x0 := hf 0 _ rfl
      have h1 : DataW.trod enc Tryz.prog W 0 (fun _ => true) true n 4 [c1] = some x1 := hf 1 _ rfl
      obtain ⟨a0, e0, _, w0⟩ := DataW.trod_string Tryz.underlying9 h0
      obtain ⟨a1, e1, _⟩ := DataW.trod_bool Tryz.underlying4 h1
      simp only [List.cons.injEq, and_true] at e0 e1
      subst e0 e1
      exact ⟨⟨a0, a1⟩, fun _ => ⟨rfl, w0⟩⟩
    · exact ⟨⟨⟨#[]⟩, false⟩, fun h => absurd h hi⟩
  refine ⟨(List.range len).map fun i => (hx i).choose, ?_, fun k hk => ?_⟩
  · have e : ((List.range len).map fun i => (hx i).choose).flatMap kyc = (List.range len).flatMap g := by
      rw [List.flatMap_map]
      have aux : ∀ is : List Nat, (∀ i ∈ is, i < len) → is.flatMap (fun i => kyc (hx i).choose) = is.flatMap g := by
        intro is
        induction is with
        | nil => intro _; rfl
        | cons a is ih =>
          intro h
          have e1 : kyc (hx a).choose = g a := ((hx a).choose_spec (h a (by simp))).1.symm
          rw [List.flatMap_cons, List.flatMap_cons, ih (fun i hi => h i (by simp [hi]))]
          exact congrArg (· ++ is.flatMap g) e1
      exact aux _ fun i hi => List.mem_range.1 hi
    rw [e]
    simpa using hS
  · obtain ⟨i, hi, rfl⟩ := List.mem_map.1 hk
    exact ((hx i).choose_spec (List.mem_range.1 hi)).2
end Go.Proofs.YtgalcdolhnckmaaGreatDoor
