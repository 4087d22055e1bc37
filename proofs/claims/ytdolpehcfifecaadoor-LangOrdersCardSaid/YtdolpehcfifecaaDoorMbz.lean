/- A language that was read as an argument, as it lies in memory. Conditions: none. -/
import Derived.Test.YtdolpehcfifecaaDoorMby
import Derived.Test.YtdolpehcfifecaaDoorRows
import Derived.Lib.SmallJoins
import Derived.Deep.Slices
import Derived.Deep.Fields
import Derived.ChangeSame
namespace Go.Proofs.YtdolpehcfifecaaDoor
open Go.ChangeShapes Go.WideShapes Go.ChangeAt Go.RowKit Go.Deep Mh
set_option linter.unusedVariables false
theorem rows_str (g : Nat → List Value) (a : Nat → ByteArray) : ∀ m, (∀ i, i < m → g i = [.string (a i)]) → (List.range m).flatMap g = ((List.range m).map a).map Value.string := by
  intro m
  induction m with
  | zero => intro _; rfl
  | succ m ih =>
    intro h
    rw [List.range_succ, List.flatMap_append, ih (fun i hi => h i (by omega)), List.map_append, List.map_append]
    simp only [List.flatMap_cons, List.flatMap_nil, List.append_nil, List.map_cons, List.map_nil]
    rw [h m (by omega)]
theorem rows_en (g : Nat → List Value) (a : Nat → En) : ∀ m, (∀ i, i < m → g i = [.string (a i).k, .string (a i).t]) → (List.range m).flatMap g = rowsE ((List.range m).map a) := by
  intro m
  have happ : ∀ (l r : List En), rowsE (l ++ r) = rowsE l ++ rowsE r := by
    intro l r
    induction l with
    | nil => rfl
    | cons x l ih => simp [rowsE, ih]
  induction m with
  | zero => intro _; rfl
  | succ m ih =>
    intro h
    rw [List.range_succ, List.flatMap_append, ih (fun i hi => h i (by omega)), List.map_append, happ]
    simp only [List.flatMap_cons, List.flatMap_nil, List.append_nil, List.map_cons, List.map_nil, rowsE]
    rw [h m (by omega)]
set_option maxRecDepth 100000 in
theorem mopen_ss {H : Type} {enc : TypeId × Value → H} {w : World} {fuel : Nat} {u : Value} {x : DataW H × List MemPlace} (h : DataW.trod enc Tryd.prog w 0 (fun _ => true) true fuel 25 [u] = some x) :
    ∃ l : List ByteArray, Ss w u l := by
  obtain ⟨len, n', g, y, hS, hn, hg⟩ := open_sl_rows Tryd.underlying25 (show Tryd.prog.cellsOf 9 = 1 by kernel_rfl) (by decide) h
  have hx : ∀ i, ∃ a : ByteArray, i < len → g i = [.string a] ∧ a.size ≤ maxLen := by
    intro i
    by_cases hi : i < len
    · obtain ⟨a0, e0, d0, w0⟩ := DataW.trod_string Tryd.underlying9 (hg i hi).2
      exact ⟨a0, fun _ => ⟨e0, w0⟩⟩
    · exact ⟨⟨#[]⟩, fun h => absurd h hi⟩
  refine ⟨(List.range len).map fun i => (hx i).choose, ?_, fun s hs => ?_⟩
  · rw [← rows_str g _ len fun i hi => ((hx i).choose_spec hi).1]
    simpa using hS
  · obtain ⟨i, hi, rfl⟩ := List.mem_map.1 hs
    exact ((hx i).choose_spec (List.mem_range.1 hi)).2
set_option maxRecDepth 100000 in
theorem mopen_en {H : Type} {enc : TypeId × Value → H} {w : World} {fuel : Nat} {u : Value} {x : DataW H × List MemPlace} (h : DataW.trod enc Tryd.prog w 0 (fun _ => true) true fuel 26 [u] = some x) :
    ∃ l : List En, EsAt w u l := by
  obtain ⟨len, n', g, y, hS, hn, hg⟩ := open_sl_rows Tryd.underlying26 (show Tryd.prog.cellsOf 81 = 2 by kernel_rfl) (by decide) h
  have hx : ∀ i, ∃ o : En, i < len → g i = [.string o.k, .string o.t] ∧ (o.k.size ≤ maxLen ∧ o.t.size ≤ maxLen) := by
    intro i
    by_cases hi : i < len
    · obtain ⟨hgl, hgt⟩ := hg i hi
      obtain ⟨xs, n, hfu, hx0, hlen, hxl, hf⟩ := DataW.trod_struct Tryd.underlying81 hgt
      generalize g i = l at *
      match l, hgl with
      | [c0, c1], _ =>
      match xs, hxl with
      | [x0, x1], _ =>
      have h0 := hf 0 _ rfl
      have h1 := hf 1 _ rfl
      have ec : Tryd.prog.cellsOf 9 = 1 := by kernel_rfl
      change DataW.trod enc Tryd.prog w 0 (fun _ => true) true n 9 (([c0, c1].drop 0).take (Tryd.prog.cellsOf 9)) = some x0 at h0
      change DataW.trod enc Tryd.prog w 0 (fun _ => true) true n 9 (([c0, c1].drop 1).take (Tryd.prog.cellsOf 9)) = some x1 at h1
      rw [ec] at h0 h1
      obtain ⟨a0, e0, d0, w0⟩ := DataW.trod_string Tryd.underlying9 h0
      obtain ⟨a1, e1, d1, w1⟩ := DataW.trod_string Tryd.underlying9 h1
      simp only [List.drop_zero, List.take_succ_cons, List.take_zero, List.cons.injEq, and_true] at e0
      simp only [List.drop_succ_cons, List.drop_zero, List.take_succ_cons, List.take_zero, List.cons.injEq, and_true] at e1
      subst e0 e1
      exact ⟨⟨a0, a1⟩, fun _ => ⟨rfl, w0, w1⟩⟩
    · exact ⟨⟨⟨#[]⟩, ⟨#[]⟩⟩, fun h => absurd h hi⟩
  refine ⟨(List.range len).map fun i => (hx i).choose, ?_, fun o ho => ?_⟩
  · rw [← rows_en g _ len fun i hi => ((hx i).choose_spec hi).1]
    simpa using hS
  · obtain ⟨i, hi, rfl⟩ := List.mem_map.1 ho
    exact ((hx i).choose_spec (List.mem_range.1 hi)).2
set_option maxRecDepth 100000 in
theorem mopen_forms {H : Type} {enc : TypeId × Value → H} {w : World} {fuel : Nat} {u : Value} {x : DataW H × List MemPlace} (h : DataW.trod enc Tryd.prog w 0 (fun _ => true) true fuel 22 [u] = some x) :
    ∃ R : List T, RuAt w R u := by
  obtain ⟨len, n', g, y, hS, hn, hg, hbk⟩ := open_sl_rows2 Tryd.underlying22 (show Tryd.prog.cellsOf 75 = 5 by kernel_rfl) (by decide) h
  have hx : ∀ i, ∃ X : T, i < len → TAt w X (g i) ∧ ∀ M, 2 * n' ≤ M → X.cnt ≤ bkN M (y i).1 := by
    intro i
    by_cases hi : i < len
    · obtain ⟨X, hX⟩ := open_tat Tryd.underlying75 rfl rfl rfl rfl rfl rfl rfl rfl rfl rfl Tryd.underlying3 Tryd.underlying22 (by kernel_rfl) (by kernel_rfl) (by kernel_rfl) (n' + 1) n' (Nat.lt_succ_self _) (g i) (y i) (hg i hi).2
      exact ⟨X, fun _ => hX⟩
    · exact ⟨.mk 0 0 0 0 [], fun h => absurd h hi⟩
  have hvs := TsAt.mk (w := w) (fun i => (hx i).choose) g len 0 (fun i hi => by rw [Nat.zero_add]; exact ((hx i).choose_spec hi).1)
  rw [← List.range_eq_range'] at hvs
  exact ⟨(List.range len).map fun i => (hx i).choose, (List.range len).flatMap g, by simpa using hS, hvs⟩
set_option maxRecDepth 100000 in
set_option maxHeartbeats 2000000 in
theorem open_lang {H : Type} {enc : TypeId × Value → H} {W : World} {base : Nat} {v : Value} {d : DataW H} {p : List MemPlace} (hv : Value.okWide Tryd.prog W .any base 28 v) (h : DataW.Trod enc Tryd.prog W 0 (fun _ => true) true 28 v d p) :
    ∃ (L : Lg) (fv mv dv lv ev : Value), v = .agg #[.string L.nm, .string L.pr, fv, .string L.gp, .string L.pt, mv, dv, lv, ev] ∧ LgAt W L fv mv dv lv ev := by
  obtain ⟨cs, rfl, hsz⟩ := okWide_struct Tryd.underlying28 hv
  obtain ⟨fuel, hf⟩ := h
  have hc1 : cs.size = 9 := by rw [hsz]; kernel_rfl
  have hfl : DataW.trod enc Tryd.prog W 0 (fun _ => true) true fuel 28 cs.toList = some (d, p) := hf
  obtain ⟨xs, n, hfu, hx0, hlen, hxl, hf⟩ := DataW.trod_struct Tryd.underlying28 hfl
  obtain ⟨c0, c1, c2, c3, c4, c5, c6, c7, c8, rfl⟩ : ∃ c0 c1 c2 c3 c4 c5 c6 c7 c8, cs = #[c0, c1, c2, c3, c4, c5, c6, c7, c8] := by
    match cs, hc1 with
    | ⟨[c0, c1, c2, c3, c4, c5, c6, c7, c8]⟩, _ => exact ⟨c0, c1, c2, c3, c4, c5, c6, c7, c8, rfl⟩
  match xs, hxl with
  | [x0, x1, x2, x3, x4, x5, x6, x7, x8], _ =>
  have ec : Tryd.prog.cellsOf 9 = 1 := by kernel_rfl
  have es : Tryd.prog.cellsOf 25 = 1 := by kernel_rfl
  have ee : Tryd.prog.cellsOf 26 = 1 := by kernel_rfl
  have er : Tryd.prog.cellsOf 24 = 1 := by kernel_rfl
  have h0 := hf 0 _ rfl
  have h1 := hf 1 _ rfl
  have h2 := hf 2 _ rfl
  have h3 := hf 3 _ rfl
  have h4 := hf 4 _ rfl
  have h5 := hf 5 _ rfl
  have h6 := hf 6 _ rfl
  have h7 := hf 7 _ rfl
  have h8 := hf 8 _ rfl
  change DataW.trod enc Tryd.prog W 0 (fun _ => true) true n 9 (([c0, c1, c2, c3, c4, c5, c6, c7, c8].drop 0).take (Tryd.prog.cellsOf 9)) = some x0 at h0
  change DataW.trod enc Tryd.prog W 0 (fun _ => true) true n 9 (([c0, c1, c2, c3, c4, c5, c6, c7, c8].drop 1).take (Tryd.prog.cellsOf 9)) = some x1 at h1
  change DataW.trod enc Tryd.prog W 0 (fun _ => true) true n 24 (([c0, c1, c2, c3, c4, c5, c6, c7, c8].drop 2).take (Tryd.prog.cellsOf 24)) = some x2 at h2
  change DataW.trod enc Tryd.prog W 0 (fun _ => true) true n 9 (([c0, c1, c2, c3, c4, c5, c6, c7, c8].drop 3).take (Tryd.prog.cellsOf 9)) = some x3 at h3
  change DataW.trod enc Tryd.prog W 0 (fun _ => true) true n 9 (([c0, c1, c2, c3, c4, c5, c6, c7, c8].drop 4).take (Tryd.prog.cellsOf 9)) = some x4 at h4
  change DataW.trod enc Tryd.prog W 0 (fun _ => true) true n 25 (([c0, c1, c2, c3, c4, c5, c6, c7, c8].drop 5).take (Tryd.prog.cellsOf 25)) = some x5 at h5
  change DataW.trod enc Tryd.prog W 0 (fun _ => true) true n 25 (([c0, c1, c2, c3, c4, c5, c6, c7, c8].drop 6).take (Tryd.prog.cellsOf 25)) = some x6 at h6
  change DataW.trod enc Tryd.prog W 0 (fun _ => true) true n 25 (([c0, c1, c2, c3, c4, c5, c6, c7, c8].drop 7).take (Tryd.prog.cellsOf 25)) = some x7 at h7
  change DataW.trod enc Tryd.prog W 0 (fun _ => true) true n 26 (([c0, c1, c2, c3, c4, c5, c6, c7, c8].drop 8).take (Tryd.prog.cellsOf 26)) = some x8 at h8
  rw [ec] at h0 h1 h3 h4
  rw [es] at h5 h6 h7
  rw [ee] at h8
  rw [er] at h2
  obtain ⟨a0, e0, _, w0⟩ := DataW.trod_string Tryd.underlying9 h0
  obtain ⟨a1, e1, _, w1⟩ := DataW.trod_string Tryd.underlying9 h1
  obtain ⟨a3, e3, _, w3⟩ := DataW.trod_string Tryd.underlying9 h3
  obtain ⟨a4, e4, _, w4⟩ := DataW.trod_string Tryd.underlying9 h4
  simp only [List.drop_zero, List.drop_succ_cons, List.take_succ_cons, List.take_zero, List.cons.injEq, and_true] at e0 e1 e3 e4 h2 h5 h6 h7 h8
  subst e0 e1 e3 e4
  obtain ⟨y0, n2, _, _, h2'⟩ := trod_struct1 Tryd.underlying24 h2
  obtain ⟨R, hR⟩ := mopen_forms (show DataW.trod enc Tryd.prog W 0 (fun _ => true) true n2 22 [c2] = some y0 from h2')
  obtain ⟨ms, hms⟩ := mopen_ss h5
  obtain ⟨ds, hds⟩ := mopen_ss h6
  obtain ⟨lt, hlt⟩ := mopen_ss h7
  obtain ⟨es, hes⟩ := mopen_en h8
  exact ⟨⟨a0, a1, R, a3, a4, ms, ds, lt, es⟩, c2, c5, c6, c7, c8, rfl, ⟨w0, w1, w3, w4, hR, hms, hds, hlt, hes⟩⟩
end Go.Proofs.YtdolpehcfifecaaDoor
