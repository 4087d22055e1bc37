/- A map from strings in memory, as a function from keys to what stands there: made, looked up, written, deleted. Over any program. No conditions beyond those that each law states. -/
import Derived.Test.YtihdfkcoajpmjaaGreatDoorBase
import Derived.Maps.OwnSet
import Derived.Maps.OwnOps
namespace Mh
open Go Go.RowKit Go.Maps Go.WideMaps
set_option linter.unusedVariables false

/-- Whatever stands at a key, kept as it is. -/
def rdHeld (v : Value) : Option (DataW Value × List MemPlace) := some (.held v, [])
/-- Block b is a map of at most n entries that gives f. -/
def MapF (P : Program) (k : TypeId) (w : World) (b n : Nat) (f : ByteArray → Option Value) : Prop :=
  ∃ D : DataW Value, w.ownsMap P k rdHeld b n D ∧ ∀ s : ByteArray, s.size ≤ maxLen →
    (f s = none → has D (.string s.data.toList) = false) ∧ (∀ v, f s = some v → has D (.string s.data.toList) = true ∧ ∀ z, D.atKey (.string s.data.toList) z = .held v)
section
variable {P : Program} {k : TypeId} {w : World} {b n : Nat} {f : ByteArray → Option Value}
theorem mapF_made (w : World) (P : Program) (k : TypeId) : MapF P k (w.alloc (.map #[] 0)) w.heap.size 0 (fun _ => none) :=
  ⟨.map [], World.ownsMap_made _ _ _ _, fun s _ => ⟨fun _ => rfl, fun v h => by cases h⟩⟩
theorem MapF.lt (h : MapF P k w b n f) : b < w.heap.size := by obtain ⟨D, h, _⟩ := h; exact h.lt
theorem MapF.kept {w' : World} {row : Option Nat} (h : MapF P k w b n f) (hg : w.grownBy w' row) (hne : some b ≠ row) : MapF P k w' b n f := by
  obtain ⟨D, h, h2⟩ := h; exact ⟨D, h.kept hg hne, h2⟩
theorem MapF.block {w' : World} (h : MapF P k w b n f) (hb : w'.heap[b]? = w.heap[b]?) : MapF P k w' b n f := by
  obtain ⟨D, ⟨es, clock, h0, h1⟩, h2⟩ := h; exact ⟨D, ⟨es, clock, hb.trans h0, h1⟩, h2⟩
theorem MapF.below {w' : World} (h : MapF P k w b n f) (hb : Below w.heap.size w w') : MapF P k w' b n f := h.block (hb.block _ h.lt)
theorem MapF.alloc (h : MapF P k w b n f) (o : Obj) : MapF P k (w.alloc o) b n f := by obtain ⟨D, h, h2⟩ := h; exact ⟨D, h.alloc o, h2⟩
theorem MapF.drew (h : MapF P k w b n f) : MapF P k w.drew b n f := h
theorem MapF.mono (h : MapF P k w b n f) {n' : Nat} (hn : n ≤ n') : MapF P k w b n' f := by obtain ⟨D, h, h2⟩ := h; exact ⟨D, h.mono hn, h2⟩
theorem MapF.ext (h : MapF P k w b n f) {g : ByteArray → Option Value} (hg : ∀ s, s.size ≤ maxLen → g s = f s) : MapF P k w b n g := by
  obtain ⟨D, h, h2⟩ := h; exact ⟨D, h, fun s hs => by rw [hg s hs]; exact h2 s hs⟩
theorem lit_ne {s q : ByteArray} (h : q ≠ s) : Lit.string q.data.toList ≠ Lit.string s.data.toList := by
  intro e
  apply h
  cases q; cases s
  simp only [Lit.string.injEq] at e
  simpa [Array.toList_inj] using e
end
section
variable {P : Program} (w : World) {ops : Array Oper} {rest : List Oper} {o : Oper} {a : Act} {Q : Exit → Act → World → Prop}
/-- 'm[k]'. -/
theorem wpList_lookF (hg : o.guard = none) (m x : Operand) (t : TypeId) (hop : o.op = Op.lookup t m x false) (k e : TypeId) (hks : P.underlying k = some .string) (ht : P.underlying t = some (.map k e))
    (z : Value) (hz : (zeroValue e).run P w = .ok z w) (b n : Nat) (f : ByteArray → Option Value) (hm : a.eval m = .map (some b)) (hown : MapF P k w b n f) (s : ByteArray) (hx : a.eval x = .string s) (hs : s.size ≤ maxLen)
    (v : Value) (hv : (f s).getD z = v) (hK : wpList P ops Q rest (a.put o.dst v) w) : wpList P ops Q (o :: rest) a w := by
  refine wpList_plain hg fun K' hK' => ?_
  obtain ⟨D, hD, hf⟩ := hown
  obtain ⟨v', ps, hrun, hv'⟩ := hD.lookup (string_keyed hks) ht hz (rfl : rdHeld z = some (.held z, [])) (keyOf_string_mk hks hs)
  have he : v' = v := by
    unfold rdHeld at hv'
    simp only [Option.some.injEq, Prod.mk.injEq] at hv'
    cases hfs : f s with
    | none =>
      rw [atKey_of_not_has ((hf s hs).1 hfs)] at hv'
      rw [hfs] at hv
      rw [← hv]; exact DataW.held.inj hv'.1
    | some u =>
      rw [((hf s hs).2 u hfs).2] at hv'
      rw [hfs] at hv
      rw [← hv]; exact DataW.held.inj hv'.1
  subst he
  unfold Oper.wp
  simp [execOp, hop, hm, hx, hrun, Result.andThen]
  exact hK' _ _ hK
/-- 'v, ok := m[k]'. -/
theorem wpList_lookF_ok (hg : o.guard = none) (m x : Operand) (t : TypeId) (hop : o.op = Op.lookup t m x true) (k e : TypeId) (hks : P.underlying k = some .string) (ht : P.underlying t = some (.map k e))
    (z : Value) (hz : (zeroValue e).run P w = .ok z w) (b n : Nat) (f : ByteArray → Option Value) (hm : a.eval m = .map (some b)) (hown : MapF P k w b n f) (s : ByteArray) (hx : a.eval x = .string s) (hs : s.size ≤ maxLen)
    (v : Value) (hv : (f s).getD z = v) (c : Bool) (hc : (f s).isSome = c) (hK : wpList P ops Q rest (a.put o.dst (.tuple #[v, .bool c])) w) : wpList P ops Q (o :: rest) a w := by
  refine wpList_plain hg fun K' hK' => ?_
  obtain ⟨D, hD, hf⟩ := hown
  obtain ⟨v', ps, hrun, hv'⟩ := hD.look_ok (string_keyed hks) ht hz (rfl : rdHeld z = some (.held z, [])) (keyOf_string_mk hks hs)
  have he : v' = v ∧ has D (.string s.data.toList) = c := by
    unfold rdHeld at hv'
    simp only [Option.some.injEq, Prod.mk.injEq] at hv'
    cases hfs : f s with
    | none =>
      rw [atKey_of_not_has ((hf s hs).1 hfs)] at hv'
      rw [hfs] at hv hc
      exact ⟨by rw [← hv]; exact DataW.held.inj hv'.1, by rw [(hf s hs).1 hfs, ← hc]; rfl⟩
    | some u =>
      rw [((hf s hs).2 u hfs).2] at hv'
      rw [hfs] at hv hc
      exact ⟨by rw [← hv]; exact DataW.held.inj hv'.1, by rw [((hf s hs).2 u hfs).1, ← hc]; rfl⟩
  obtain ⟨rfl, rfl⟩ := he
  unfold Oper.wp
  simp [execOp, hop, hm, hx, hrun, Result.andThen]
  exact hK' _ _ hK
/-- 'm[k] = v'. -/
theorem wpList_putF (hg : o.guard = none) (m x y : Operand) (t : TypeId) (hop : o.op = Op.mapUpdate t m x y) (k e : TypeId) (hks : P.underlying k = some .string) (ht : P.underlying t = some (.map k e))
    (b n : Nat) (f : ByteArray → Option Value) (hm : a.eval m = .map (some b)) (hown : MapF P k w b n f) (hn : n < maxLen) (s : ByteArray) (hx : a.eval x = .string s) (hs : s.size ≤ maxLen) (v : Value) (hy : a.eval y = v)
    (hK : ∀ w', MapF P k w' b (n + 1) (fun q => if q = s then some v else f q) → w.grownBy w' (some b) → wpList P ops Q rest (a.put o.dst undef) w') : wpList P ops Q (o :: rest) a w := by
  obtain ⟨D, hD, hf⟩ := hown
  refine wpList_mapUpdate_own w hg m x y t hop k e (string_keyed hks) ht rdHeld b n D hm hD hn (.string s) v _ hx hy (keyOf_string_mk hks hs) (.held v) [] rfl fun w' h1 h2 => hK w' ⟨_, h1, fun q hq => ?_⟩ h2
  have hk := (string_keyed hks).key (keyOf_string_mk hks hs)
  by_cases e : q = s
  · subst e
    refine ⟨fun h => by simp at h, fun u hu => ?_⟩
    simp only [if_true, Option.some.injEq] at hu
    subst hu
    exact ⟨has_put_same hD.isMap hk _, fun z => atKey_put_same hD.isMap hk _ z⟩
  · simp only [if_neg e]
    rw [has_put_other (lit_ne e)]
    refine ⟨(hf q hq).1, fun u hu => ⟨((hf q hq).2 u hu).1, fun z => ?_⟩⟩
    rw [atKey_put_other (lit_ne e)]
    exact ((hf q hq).2 u hu).2 z
/-- 'delete(m, k)'. -/
theorem wpList_dropF (hg : o.guard = none) (m x : Operand) (t k : TypeId) (hop : o.op = Op.call { callee := Callee.builtin Builtin.delete, args := #[m, x], argTypes := #[t, k] }) (e : TypeId) (hks : P.underlying k = some .string) (ht : P.underlying t = some (.map k e))
    (b n : Nat) (f : ByteArray → Option Value) (hm : a.eval m = .map (some b)) (hown : MapF P k w b n f) (s : ByteArray) (hx : a.eval x = .string s) (hs : s.size ≤ maxLen)
    (hK : ∀ w', MapF P k w' b n (fun q => if q = s then none else f q) → w.grownBy w' (some b) → wpList P ops Q rest (a.put o.dst (.tuple #[])) w') : wpList P ops Q (o :: rest) a w := by
  obtain ⟨D, hD, hf⟩ := hown
  refine wpList_delete_own w hg m x t k hop e (string_keyed hks) ht rdHeld b n D hm hD (.string s) _ hx (keyOf_string_mk hks hs) fun w' h1 h2 => hK w' ⟨_, h1, fun q hq => ?_⟩ h2.grown
  by_cases e : q = s
  · subst e
    refine ⟨fun _ => has_del_same, fun u hu => by simp at hu⟩
  · simp only [if_neg e]
    rw [has_del_other (lit_ne e)]
    refine ⟨(hf q hq).1, fun u hu => ⟨((hf q hq).2 u hu).1, fun z => ?_⟩⟩
    rw [atKey_del_other (lit_ne e)]
    exact ((hf q hq).2 u hu).2 z
end
end Mh
