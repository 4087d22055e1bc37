/- A value of settings that was read as an argument: how many values it holds is bounded by the bulk of the reading. No program but in the last law. -/
import Derived.Test.YtbnlcnaccainhaaGreatDoorVSt
import Derived.Test.YtbnlcnaccainhaaGreatDoorKeQ
import Derived.Test.YtbnlcnaccainhaaGreatDoorTAt
import Derived.Test.YtbnlcnaccainhaaGreatDoorRows
import Derived.Lib.SmallJoins
import Derived.Deep.Slices
import Derived.Deep.Fields
import Derived.ChangeSame
namespace Mh
open Go Go.RowKit Go.ChangeShapes Go.WideShapes Go.Deep
set_option linter.unusedVariables false
theorem nodess_sum : ∀ is : List V, V.nodess is = (is.map V.nodes).sum := by
  intro is
  induction is with
  | nil => rfl
  | cons x xs ih => simp only [V.nodess, List.map_cons, List.sum_cons, ih]
section
variable {H : Type} {enc : TypeId × Value → H} {P : Program} {w : World}
set_option maxRecDepth 100000 in
/-- A value of settings that was read (P: a program whose type 'tv' is it). -/
theorem open_vat2 {tv ts tk : TypeId} {ti tb tx : TypeId} {held : Bool} {o0 o1 o2 o3 o4 o5 : Field} (hv : P.underlying tv = some (.struct #[o0, o1, o2, o3, o4, o5]))
    (f0 : o0.type = ti) (f1 : o1.type = tb) (f2 : o2.type = ti) (f3 : o3.type = tx) (f4 : o4.type = ts) (f5 : o5.type = tk)
    (g0 : o0.offset = 0) (g1 : o1.offset = 1) (g2 : o2.offset = 2) (g3 : o3.offset = 3) (g4 : o4.offset = 4) (g5 : o5.offset = 5)
    (hti : P.underlying ti = some (.int .i64)) (htb : P.underlying tb = some .bool) (htx : P.underlying tx = some .string) (hts : P.underlying ts = some (.slice tv)) (htk : P.underlying tk = some (.slice tx))
    (ci : P.cellsOf ti = 1) (cb : P.cellsOf tb = 1) (cx : P.cellsOf tx = 1) (cs : P.cellsOf ts = 1) (ck : P.cellsOf tk = 1) (cv : P.cellsOf tv = 6) :
    ∀ (N : Nat) (fuel : Nat), fuel < N → ∀ (l : List Value) (x : DataW H × List MemPlace), DataW.trod enc P w 0 (fun _ => true) held fuel tv l = some x →
      ∃ X : V, VAt w X l ∧ ∀ M, 2 * fuel ≤ M → X.nodes ≤ bkN M x.1 := by
  intro N
  induction N with
  | zero => intro fuel h; omega
  | succ N ih =>
    intro fuel hN l x h
    obtain ⟨xs, n, hfu, hx0, hlen, hxl, hf⟩ := DataW.trod_struct hv h
    rw [cv] at hlen
    match l, hlen with
    | [c0, c1, c2, c3, c4, c5], _ =>
    match xs, hxl with
    | [x0, x1, x2, x3, x4, x5], _ =>
    have h0 := hf 0 o0 rfl
    have h1 := hf 1 o1 rfl
    have h2 := hf 2 o2 rfl
    have h3 := hf 3 o3 rfl
    have h4 := hf 4 o4 rfl
    have h5 := hf 5 o5 rfl
    rw [f0, g0, ci] at h0
    rw [f1, g1, cb] at h1
    rw [f2, g2, ci] at h2
    rw [f3, g3, cx] at h3
    rw [f4, g4, cs] at h4
    rw [f5, g5, ck] at h5
    obtain ⟨a0, e0, _, w0⟩ := DataW.trod_int hti h0
    obtain ⟨a1, e1, _⟩ := DataW.trod_bool htb h1
    obtain ⟨a2, e2, _, w2⟩ := DataW.trod_int hti h2
    obtain ⟨a3, e3, _, w3⟩ := DataW.trod_string htx h3
    obtain ⟨K, hK⟩ := open_ss htk htx cx h5
    obtain ⟨len, n', g, y, hS, hn, hg, hbk⟩ := open_sl_rows2 hts cv (by decide) h4
    have hx : ∀ i, ∃ X : V, i < len → VAt w X (g i) ∧ ∀ M, 2 * n' ≤ M → X.nodes ≤ bkN M (y i).1 := by
      intro i
      by_cases hi : i < len
      · obtain ⟨X, hX⟩ := ih n' (by omega) (g i) (y i) (hg i hi).2
        exact ⟨X, fun _ => hX⟩
      · exact ⟨.mk 0 false 0 ⟨#[]⟩ [] [], fun h => absurd h hi⟩
    have hvs := VsAt.mk (w := w) (fun i => (hx i).choose) g len 0 (fun i hi => by rw [Nat.zero_add]; exact ((hx i).choose_spec hi).1)
    rw [← List.range_eq_range'] at hvs
    simp only [List.drop_zero, List.take_succ_cons, List.take_zero, List.cons.injEq, and_true] at e0
    simp only [List.drop_succ_cons, List.drop_zero, List.take_succ_cons, List.take_zero, List.cons.injEq, and_true] at e1 e2 e3
    subst e0 e1 e2 e3
    refine ⟨.mk a0 a1 a2 a3 ((List.range len).map fun i => (hx i).choose) K, ?_, ?_⟩
    · unfold VAt
      refine ⟨c4, c5, rfl, w0, w2, w3, hK, (List.range len).flatMap g, ?_, hvs⟩
      simpa using hS
    · intro M hM
      obtain ⟨M', rfl⟩ : ∃ M', M = M' + 1 + 1 := ⟨M - 2, by omega⟩
      have hb := hbk M'
      have hs := sum_le (f := fun i => ((hx i).choose).nodes) (g := fun i => bkN M' (y i).1) len (fun i hi => ((hx i).choose_spec hi).2 M' (by omega))
      unfold V.nodes
      rw [nodess_sum, hx0]
      simp only [bkN, List.map_cons, List.map_nil, List.sum_cons, List.sum_nil, List.map_map, Function.comp_def] at *
      omega
end
end Mh
namespace Go.Proofs.YtbnlcnaccainhaaGreatDoor
open Go.ChangeShapes Go.WideShapes Go.ChangeAt Go.RowKit Mh
set_option linter.unusedVariables false
theorem bulk_sum {H : Type} {f : DataW H → Nat} (h : ∀ d, f d ≤ Rows.uptoBulk d) : ∀ l : List (DataW H), (l.map f).sum ≤ Rows.uptoBulkAll l
  | [] => by simp [Rows.uptoBulkAll]
  | d :: l => by
    have := h d
    have := bulk_sum h l
    simp only [List.map_cons, List.sum_cons, Rows.uptoBulkAll]
    omega
theorem bulk_one {H : Type} (d : DataW H) : 1 ≤ Rows.uptoBulk d := by
  cases d with
  | lit l => cases l <;> simp [Rows.uptoBulk]
  | nil => simp [Rows.uptoBulk]
  | ptr d => simp [Rows.uptoBulk]
  | slice elems spare => simp [Rows.uptoBulk]
  | agg parts => simp [Rows.uptoBulk]
  | iface t d => simp [Rows.uptoBulk]
  | map entries => simp [Rows.uptoBulk]
  | held h => simp [Rows.uptoBulk]
theorem bkN_le {H : Type} : ∀ (m : Nat) (d : DataW H), bkN m d ≤ Rows.uptoBulk d
  | 0, d => by unfold bkN; exact Nat.zero_le _
  | m + 1, d => by
    have h1 := bulk_one d
    have hs := bulk_sum (fun d => bkN_le (H := H) m d)
    cases d with
    | slice elems spare => have := hs elems; simp only [bkN, Rows.uptoBulk]; omega
    | agg parts => have := hs parts; simp only [bkN, Rows.uptoBulk]; omega
    | lit l => simp only [bkN]; exact h1
    | nil => simp only [bkN]; exact h1
    | ptr d => simp only [bkN]; exact h1
    | iface t d => simp only [bkN]; exact h1
    | map entries => simp only [bkN]; exact h1
    | held h => simp only [bkN]; exact h1

set_option maxRecDepth 100000 in
/-- A value that was read as an argument. -/
theorem open_value2 {H : Type} {enc : TypeId × Value → H} {W : World} {base : Nat} {v : Value} {d : DataW H} {p : List MemPlace} (hv : Value.okWide Tryz.prog W .any base 25 v) (h : DataW.Trod enc Tryz.prog W 0 (fun _ => true) true 25 v d p) :
    ∃ (X : V) (cs : List Value), v = .agg cs.toArray ∧ VAt W X cs ∧ X.nodes ≤ Rows.uptoBulk d := by
  obtain ⟨cs, rfl, hsz⟩ := okWide_struct Tryz.underlying25 hv
  obtain ⟨fuel, hf⟩ := h
  obtain ⟨X, hX, hb⟩ := open_vat2 Tryz.underlying25 rfl rfl rfl rfl rfl rfl rfl rfl rfl rfl rfl rfl Tryz.underlying3 Tryz.underlying4 Tryz.underlying9 Tryz.underlying22 Tryz.underlying23 (by kernel_rfl) (by kernel_rfl) (by kernel_rfl) (by kernel_rfl) (by kernel_rfl) (by kernel_rfl) (fuel + 1) fuel (Nat.lt_succ_self _) _ _ hf
  exact ⟨X, cs.toList, by simp, hX, Nat.le_trans (hb (2 * fuel) (Nat.le_refl _)) (bkN_le _ _)⟩
end Go.Proofs.YtbnlcnaccainhaaGreatDoor
