/- Outputs that were read as an argument. No program. -/
import Derived.Test.YtdjcificgilimaaDoorShB
import Derived.Test.YtdjcificgilimaaDoorVAt
namespace Mh
open Go Go.RowKit Go.ChangeShapes Go.WideShapes Go.Deep
set_option linter.unusedVariables false
theorem rowsO_flat (f : Nat → O) (g : Nat → List Value) : ∀ is : List Nat, (∀ i ∈ is, g i = [.string (f i).p, .string (f i).b]) → rowsO (is.map f) = is.flatMap g := by
  intro is
  induction is with
  | nil => intro _; rfl
  | cons a is ih =>
    intro h
    rw [List.map_cons, List.flatMap_cons, h a (by simp), ← ih fun i hi => h i (by simp [hi])]
    rfl
theorem open_outs {H : Type} {enc : TypeId × Value → H} {P : Program} {w : World} {ts tO tx : TypeId} {o0 o1 : Field} {fuel : Nat} {held : Bool} {u : Value} {x : DataW H × List MemPlace} (ht : P.underlying ts = some (.slice tO)) (hv : P.underlying tO = some (.struct #[o0, o1]))
    (f0 : o0.type = tx) (f1 : o1.type = tx) (g0 : o0.offset = 0) (g1 : o1.offset = 1) (htx : P.underlying tx = some .string) (cx : P.cellsOf tx = 1) (cv : P.cellsOf tO = 2)
    (h : DataW.trod enc P w 0 (fun _ => true) held fuel ts [u] = some x) : ∃ l : List O, OsAt w u l := by
  obtain ⟨len, n', g, y, hS, hn, hg⟩ := open_sl_rows ht cv (by decide) h
  have hx : ∀ i, ∃ o : O, i < len → g i = [.string o.p, .string o.b] ∧ o.p.size ≤ maxLen ∧ o.b.size ≤ maxLen := by
    intro i
    by_cases hi : i < len
    · obtain ⟨hgl, hgt⟩ := hg i hi
      obtain ⟨xs, n, hfu, _, hlen, hxl, hf⟩ := DataW.trod_struct hv hgt
      generalize g i = l at *
      match l, hgl with
      | [c0, c1], _ =>
      match xs, hxl with
      | [x0, x1], _ =>
      have h0 := hf 0 o0 rfl
      have h1 := hf 1 o1 rfl
      rw [f0, g0, cx] at h0
      rw [f1, g1, cx] at h1
      obtain ⟨a0, e0, _, w0⟩ := DataW.trod_string htx h0
      obtain ⟨a1, e1, _, w1⟩ := DataW.trod_string htx h1
      simp only [List.drop_zero, List.take_succ_cons, List.take_zero, List.cons.injEq, and_true] at e0
      simp only [List.drop_succ_cons, List.drop_zero, List.take_succ_cons, List.take_zero, List.cons.injEq, and_true] at e1
      subst e0 e1
      exact ⟨⟨a0, a1⟩, fun _ => ⟨rfl, w0, w1⟩⟩
    · exact ⟨⟨⟨#[]⟩, ⟨#[]⟩⟩, fun h => absurd h hi⟩
  refine ⟨(List.range len).map fun i => (hx i).choose, ?_, fun o ho => ?_⟩
  · rw [rowsO_flat _ g _ fun i hi => ((hx i).choose_spec (List.mem_range.1 hi)).1]
    simpa using hS
  · obtain ⟨i, hi, rfl⟩ := List.mem_map.1 ho
    exact ((hx i).choose_spec (List.mem_range.1 hi)).2
end Mh
