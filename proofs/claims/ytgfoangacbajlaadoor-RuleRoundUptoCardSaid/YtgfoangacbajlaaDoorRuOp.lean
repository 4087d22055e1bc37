/- A rule that was read as an argument: its tests as they lie in memory, and how many they are. -/
import Derived.Test.YtgfoangacbajlaaDoorRuI
import Derived.Test.YtgfoangacbajlaaDoorRows
import Derived.Lib.SmallJoins
import Derived.Deep.Slices
import Derived.Deep.Fields
import Derived.ChangeSame
namespace Go.Proofs.YtgfoangacbajlaaDoor
open Go.ChangeShapes Go.WideShapes Go.ChangeAt Go.RowKit Mh
set_option linter.unusedVariables false

theorem bulk_sum {H : Type} {f : DataW H → Nat} (h : ∀ d, f d ≤ Rows.uptoBulk d) : ∀ l : List (DataW H), (l.map f).sum ≤ Rows.uptoBulkAll l
  | [] => by simp [Rows.uptoBulkAll]
  | d :: l => by
    have := h d
    have := bulk_sum h l
    simp only [List.map_cons, List.sum_cons, Rows.uptoBulkAll]
    omega
theorem bulk_one {H : Type} (d : DataW H) : 1 ≤ Rows.uptoBulk d := by
  cases d with
  | lit l => cases l <;> simp [Rows.uptoBulk]
  | nil => simp [Rows.uptoBulk]
  | ptr d => simp [Rows.uptoBulk]
  | slice elems spare => simp [Rows.uptoBulk]
  | agg parts => simp [Rows.uptoBulk]
  | iface t d => simp [Rows.uptoBulk]
  | map entries => simp [Rows.uptoBulk]
  | held h => simp [Rows.uptoBulk]
theorem bkN_le {H : Type} : ∀ (m : Nat) (d : DataW H), bkN m d ≤ Rows.uptoBulk d
  | 0, d => by unfold bkN; exact Nat.zero_le _
  | m + 1, d => by
    have h1 := bulk_one d
    have hs := bulk_sum (fun d => bkN_le (H := H) m d)
    cases d with
    | slice elems spare => have := hs elems; simp only [bkN, Rows.uptoBulk]; omega
    | agg parts => have := hs parts; simp only [bkN, Rows.uptoBulk]; omega
    | lit l => simp only [bkN]; exact h1
    | nil => simp only [bkN]; exact h1
    | ptr d => simp only [bkN]; exact h1
    | iface t d => simp only [bkN]; exact h1
    | map entries => simp only [bkN]; exact h1
    | held h => simp only [bkN]; exact h1

set_option maxRecDepth 100000 in
theorem open_forms {H : Type} {enc : TypeId × Value → H} {w : World} {fuel : Nat} {u : Value} {x : DataW H × List MemPlace} (h : DataW.trod enc Tryd.prog w 0 (fun _ => true) true fuel 22 [u] = some x) :
    ∃ R : List T, RuAt w R u ∧ T.cnts R ≤ Rows.uptoBulk x.1 := by
  obtain ⟨len, n', g, y, hS, hn, hg, hbk⟩ := open_sl_rows2 Tryd.underlying22 (show Tryd.prog.cellsOf 42 = 5 by kernel_rfl) (by decide) h
  have hx : ∀ i, ∃ X : T, i < len → TAt w X (g i) ∧ ∀ M, 2 * n' ≤ M → X.cnt ≤ bkN M (y i).1 := by
    intro i
    by_cases hi : i < len
    · obtain ⟨X, hX⟩ := open_tat Tryd.underlying42 rfl rfl rfl rfl rfl rfl rfl rfl rfl rfl Tryd.underlying3 Tryd.underlying22 (by kernel_rfl) (by kernel_rfl) (by kernel_rfl) (n' + 1) n' (Nat.lt_succ_self _) (g i) (y i) (hg i hi).2
      exact ⟨X, fun _ => hX⟩
    · exact ⟨.mk 0 0 0 0 [], fun h => absurd h hi⟩
  have hvs := TsAt.mk (w := w) (fun i => (hx i).choose) g len 0 (fun i hi => by rw [Nat.zero_add]; exact ((hx i).choose_spec hi).1)
  rw [← List.range_eq_range'] at hvs
  refine ⟨(List.range len).map fun i => (hx i).choose, ⟨(List.range len).flatMap g, by simpa using hS, hvs⟩, ?_⟩
  have hb := hbk (2 * n')
  have hs := sum_le (f := fun i => ((hx i).choose).cnt) (g := fun i => bkN (2 * n') (y i).1) len (fun i hi => ((hx i).choose_spec hi).2 (2 * n') (Nat.le_refl _))
  have hl := bkN_le (2 * n' + 1) x.1
  rw [T.cnts_sum]
  omega
set_option maxRecDepth 100000 in
theorem open_rule {H : Type} {enc : TypeId × Value → H} {W : World} {base : Nat} {v : Value} {d : DataW H} {p : List MemPlace} (hv : Value.okWide Tryd.prog W .any base 24 v) (h : DataW.Trod enc Tryd.prog W 0 (fun _ => true) true 24 v d p) :
    ∃ (R : List T) (fv : Value), v = .agg #[fv] ∧ RuAt W R fv ∧ T.cnts R ≤ Rows.uptoBulk d := by
  obtain ⟨cs, rfl, hsz⟩ := okWide_struct Tryd.underlying24 hv
  obtain ⟨fuel, hf⟩ := h
  obtain ⟨y0, n, hx, hl, h0⟩ := trod_struct1 Tryd.underlying24 hf
  have hc1 : cs.size = 1 := by
    have : cs.toList.length = Tryd.prog.cellsOf 24 := hl
    rw [show Tryd.prog.cellsOf 24 = 1 by kernel_rfl] at this
    simpa using this
  obtain ⟨fv, rfl⟩ : ∃ fv, cs = #[fv] := by
    match cs, hc1 with
    | ⟨[a]⟩, _ => exact ⟨a, rfl⟩
  have h1 : DataW.trod enc Tryd.prog W 0 (fun _ => true) true n 22 [fv] = some y0 := h0
  obtain ⟨R, hR, hc⟩ := open_forms h1
  refine ⟨R, fv, rfl, hR, ?_⟩
  have hd : d = .agg [y0.1] := by injection hx
  rw [hd]
  simp only [Rows.uptoBulk, Rows.uptoBulkAll]
  omega
end Go.Proofs.YtgfoangacbajlaaDoor
