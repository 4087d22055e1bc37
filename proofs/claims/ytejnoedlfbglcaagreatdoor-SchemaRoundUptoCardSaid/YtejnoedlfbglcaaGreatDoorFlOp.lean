/- A schema that was read as an argument. -/
import Derived.Test.YtejnoedlfbglcaaGreatDoorFlPl
import Derived.Test.YtejnoedlfbglcaaGreatDoorKeOp
namespace Go.Proofs.YtejnoedlfbglcaaGreatDoor
open Go.ChangeShapes Go.WideShapes Go.ChangeAt Go.RowKit Go.Deep Mh
set_option linter.unusedVariables false

set_option maxRecDepth 100000 in
set_option maxHeartbeats 2000000 in
theorem open_field {H : Type} {enc : TypeId × Value → H} {w : World} {fuel : Nat} {l : List Value} {x : DataW H × List MemPlace} (h : DataW.trod enc Tryz.prog w 0 (fun _ => true) true fuel 52 l = some x) :
    ∃ f : Mh.Fd, FdAt w f l ∧ ∀ M, 2 * fuel ≤ M → f.dv.nodes ≤ bkN M x.1 := by
  obtain ⟨xs, n, hfu, hx0, hlen, hxl, hf⟩ := DataW.trod_struct Tryz.underlying52 h
  rw [show Tryz.prog.cellsOf 52 = 13 by kernel_rfl] at hlen
  match l, hlen with
  | [c0, c1, c2, c3, c4, c5, c6, c7, c8, c9, c10, c11, c12], _ =>
  match xs, hxl with
  | [x0, x1, x2, x3, x4, x5, x6, x7], _ =>
  have h0 : DataW.trod enc Tryz.prog w 0 (fun _ => true) true n 9 [c0] = some x0 := hf 0 _ rfl
  have h1 : DataW.trod enc Tryz.prog w 0 (fun _ => true) true n 3 [c1] = some x1 := hf 1 _ rfl
  have h2 : DataW.trod enc Tryz.prog w 0 (fun _ => true) true n 4 [c2] = some x2 := hf 2 _ rfl
  have h3 : DataW.trod enc Tryz.prog w 0 (fun _ => true) true n 4 [c3] = some x3 := hf 3 _ rfl
  have h4 : DataW.trod enc Tryz.prog w 0 (fun _ => true) true n 3 [c4] = some x4 := hf 4 _ rfl
  have h5 : DataW.trod enc Tryz.prog w 0 (fun _ => true) true n 3 [c5] = some x5 := hf 5 _ rfl
  have h6 : DataW.trod enc Tryz.prog w 0 (fun _ => true) true n 27 [c6] = some x6 := hf 6 _ rfl
  have h7 : DataW.trod enc Tryz.prog w 0 (fun _ => true) true n 29 [c7, c8, c9, c10, c11, c12] = some x7 := hf 7 _ rfl
  obtain ⟨a0, e0, _, w0⟩ := DataW.trod_string Tryz.underlying9 h0
  obtain ⟨a1, e1, _, w1⟩ := DataW.trod_int Tryz.underlying3 h1
  obtain ⟨a2, e2, _⟩ := DataW.trod_bool Tryz.underlying4 h2
  obtain ⟨a3, e3, _⟩ := DataW.trod_bool Tryz.underlying4 h3
  obtain ⟨a4, e4, _, w4⟩ := DataW.trod_int Tryz.underlying3 h4
  obtain ⟨a5, e5, _, w5⟩ := DataW.trod_int Tryz.underlying3 h5
  obtain ⟨K, hK⟩ := open_ss Tryz.underlying27 Tryz.underlying9 (by kernel_rfl) h6
  obtain ⟨X, hX, hb⟩ := open_vat2 Tryz.underlying29 rfl rfl rfl rfl rfl rfl rfl rfl rfl rfl rfl rfl Tryz.underlying3 Tryz.underlying4 Tryz.underlying9 Tryz.underlying26 Tryz.underlying27 (by kernel_rfl) (by kernel_rfl) (by kernel_rfl) (by kernel_rfl) (by kernel_rfl) (by kernel_rfl) (n + 1) n (Nat.lt_succ_self _) _ _ h7
  simp only [List.cons.injEq, and_true] at e0 e1 e2 e3 e4 e5
  subst e0 e1 e2 e3 e4 e5
  refine ⟨⟨a0, a1, a2, a3, a4, a5, K, X⟩, FdAt.mk (f := ⟨a0, a1, a2, a3, a4, a5, K, X⟩) w0 w1 w4 w5 hK hX, fun M hM => ?_⟩
  obtain ⟨M', rfl⟩ : ∃ M', M = M' + 1 := ⟨M - 1, by omega⟩
  have h8 := hb M' (by omega)
  rw [hx0]
  simp only [bkN, List.map_cons, List.map_nil, List.sum_cons, List.sum_nil]
  show X.nodes ≤ _
  omega
theorem flat_get {α : Type} (g : Nat → List α) (k : Nat) : ∀ (n s : Nat), (∀ i, i < n → (g (s + i)).length = k) → ∀ i, i < n → ∀ j, j < k → ((List.range' s n).flatMap g)[i * k + j]? = (g (s + i))[j]? := by
  intro n
  induction n with
  | zero => intro s _ i h; omega
  | succ n ih =>
    intro s hg i hi j hj
    have e : List.range' s (n + 1) = s :: List.range' (s + 1) n := rfl
    have h0 := hg 0 (by omega)
    rw [Nat.add_zero] at h0
    rw [e, List.flatMap_cons]
    cases i with
    | zero => rw [List.getElem?_append_left (by rw [h0]; omega)]; simp
    | succ i =>
      rw [List.getElem?_append_right (by rw [h0, Nat.succ_mul]; omega), h0, show (i + 1) * k + j - k = i * k + j by rw [Nat.succ_mul]; omega, ih (s + 1) (fun i hi => by have := hg (i + 1) (by omega); rwa [show s + (i + 1) = s + 1 + i by omega] at this) i (by omega) j hj, show s + 1 + i = s + (i + 1) by omega]
theorem sum_mem : ∀ (l : List Nat) (x : Nat), x ∈ l → x ≤ l.sum := by
  intro l
  induction l with
  | nil => intro x h; simp at h
  | cons a l ih =>
    intro x h
    rw [List.sum_cons]
    rcases List.mem_cons.1 h with rfl | h
    · omega
    · have := ih x h; omega
set_option maxRecDepth 100000 in
theorem open_schema {H : Type} {enc : TypeId × Value → H} {W : World} {base : Nat} {v : Value} {d : DataW H} {p : List MemPlace} (hv : Value.okWide Tryz.prog W .any base 24 v) (h : DataW.Trod enc Tryz.prog W 0 (fun _ => true) true 24 v d p) :
    ∃ (fs : List Mh.Fd) (fv : Value) (b : Bool), v = .agg #[fv, .bool b] ∧ FsAt W fv fs ∧ ∀ f ∈ fs, f.dv.nodes ≤ Rows.uptoBulk d := by
  obtain ⟨cs, rfl, hsz⟩ := okWide_struct Tryz.underlying24 hv
  obtain ⟨fuel, hf⟩ := h
  obtain ⟨xs, n, hfu, hx0, hlen, hxl, hf⟩ := DataW.trod_struct Tryz.underlying24 hf
  rw [show Tryz.prog.cellsOf 24 = 2 by kernel_rfl] at hlen
  obtain ⟨fv, bv, rfl⟩ : ∃ fv bv, cs = #[fv, bv] := by
    match cs, hlen with
    | ⟨[a, b]⟩, _ => exact ⟨a, b, rfl⟩
  match xs, hxl with
  | [x0, x1], _ =>
  have h0 : DataW.trod enc Tryz.prog W 0 (fun _ => true) true n 22 [fv] = some x0 := hf 0 _ rfl
  have h1 : DataW.trod enc Tryz.prog W 0 (fun _ => true) true n 4 [bv] = some x1 := hf 1 _ rfl
  obtain ⟨b, e1, _⟩ := DataW.trod_bool Tryz.underlying4 h1
  simp only [List.cons.injEq, and_true] at e1
  subst e1
  obtain ⟨len, n', g, y, hS, hn, hg, hbk⟩ := open_sl_rows2 Tryz.underlying22 (show Tryz.prog.cellsOf 52 = 13 by kernel_rfl) (by decide) h0
  have hx : ∀ i, ∃ f : Mh.Fd, i < len → FdAt W f (g i) ∧ ∀ M, 2 * n' ≤ M → f.dv.nodes ≤ bkN M (y i).1 := by
    intro i
    by_cases hi : i < len
    · obtain ⟨f, h1, h2⟩ := open_field (hg i hi).2
      exact ⟨f, fun _ => ⟨h1, h2⟩⟩
    · exact ⟨⟨⟨#[]⟩, 0, false, false, 0, 0, [], V.nil⟩, fun h => absurd h hi⟩
  have hd : d = .agg [x0.1, x1.1] := by injection hx0
  have hb1 := bkN_le (2 * n' + 1) x0.1
  have hb2 := hbk (2 * n')
  refine ⟨(List.range len).map fun i => (hx i).choose, fv, b, rfl, ⟨(List.range len).flatMap g, by simpa using hS, fun i hi => ?_⟩, fun f hf => ?_⟩
  · have hil : i < len := by simpa using hi
    refine ⟨g i, by simpa using ((hx i).choose_spec hil).1, fun j hj => ?_⟩
    have := flat_get g 13 len 0 (fun i hi => by rw [Nat.zero_add]; exact (hg i hi).1) i hil j hj
    rw [← List.range_eq_range', Nat.zero_add] at this
    exact this
  · obtain ⟨i, hi, rfl⟩ := List.mem_map.1 hf
    have hil : i < len := List.mem_range.1 hi
    have h1 := ((hx i).choose_spec hil).2 (2 * n') (Nat.le_refl _)
    have h2 := sum_mem ((List.range len).map fun i => bkN (2 * n') (y i).1) _ (List.mem_map.2 ⟨i, hi, rfl⟩)
    rw [hd]
    simp only [Rows.uptoBulk, Rows.uptoBulkAll]
    omega
end Go.Proofs.YtejnoedlfbglcaaGreatDoor
