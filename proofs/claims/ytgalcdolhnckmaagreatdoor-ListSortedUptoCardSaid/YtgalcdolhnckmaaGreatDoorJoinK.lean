/- Rows of several kinds beside a builder: what an append to one of them leaves of the others. No program. -/
import Derived.Test.YtgalcdolhnckmaaGreatDoorBase
import Derived.Test.YtgalcdolhnckmaaGreatDoorKept
import Derived.Lib.OwnKind
import Derived.Lib.BufferKept
namespace Mh
open Go Go.RowKit
set_option linter.unusedVariables false

theorem ownsRow_others {w w' : World} {base e k n : Nat} {v : Value} {xs : List Value} {e0 : TypeId} {bo : Option Nat} (h : w.ownsRow base e k v n xs) (hk : Lib.OthersKept e0 bo w w') (he : e ≠ e0) (hb : ∀ g, v.ownBlock = some g → some g ≠ bo) : w'.ownsRow base e k v n xs := by
  refine ⟨h.1, ?_⟩
  rcases h.2 with hn | ⟨g, cap, cur, rfl, hbs, hgg, rest⟩
  · exact .inl hn
  · refine .inr ⟨g, cap, cur, rfl, hbs, hk g _ hgg (hb g rfl) ?_, rest⟩
    intro c fz hc
    injection hc with _ h2 _
    exact he h2
/-- Another kind than the block that is turned. -/
theorem ownsRow_ne {w : World} {base e k n : Nat} {v : Value} {xs : List Value} (h : w.ownsRow base e k v n xs) {b : Nat} {cs : Array Value} {T : TypeId} {fr : Nat × Nat} (hb : w.heap[b]? = some (.cells cs T fr)) (hT : T ≠ e) : ∀ g, v.ownBlock = some g → some g ≠ some b := by
  intro g hg hgb
  injection hgb with hgb
  subst hgb
  obtain ⟨c, fz, hc⟩ := Lib.ownsRow_kind h g hg
  rw [hc] at hb
  injection hb with hb
  injection hb with _ h2 _
  exact hT h2.symm
theorem builder_others {T e e0 : TypeId} {B b : Nat} {p : Value} {bs : List Value} {w w' : World} (h : Lib.BuilderAtF T e B b p bs w) (hk : Lib.OthersKept e0 none w w') (hT : T ≠ e0) (he : e ≠ e0) : Lib.BuilderAtF T e B b p bs w' := by
  obtain ⟨hB, v, hb, hown, hne⟩ := h
  refine ⟨hB, v, hk b _ hb (by simp) (fun c fz hc => by injection hc with _ h2 _; exact hT h2), ⟨hown.1, ?_⟩, hne⟩
  rcases hown.2 with hn | ⟨g, cap, cur, fz, rfl, hbs, hgg, rest⟩
  · exact .inl hn
  · refine .inr ⟨g, cap, cur, fz, rfl, hbs, hk g _ hgg (by simp) ?_, rest⟩
    intro c fz hc
    injection hc with _ h2 _
    exact he h2
theorem isBuilder_others {T e e0 : TypeId} {B b : Nat} {bs : List Value} {w w' : World} (h : Lib.IsBuilderF T e B b bs w) (hk : Lib.OthersKept e0 none w w') (hT : T ≠ e0) (he : e ≠ e0) : Lib.IsBuilderF T e B b bs w' :=
  h.elim (fun x => .inl (builder_others x hk hT he)) (fun x => .inr (builder_others x hk hT he))
/-- A store into a block that is neither the builder's nor its row. -/
theorem builder_set {T e : TypeId} {B b : Nat} {p : Value} {bs : List Value} {w : World} (h : Lib.BuilderAtF T e B b p bs w) {a i : Nat} {cs : Array Value} {T' : TypeId} {fr : Nat × Nat} (ha : w.heap[a]? = some (.cells cs T' fr)) (hT : T' ≠ T) (he : T' ≠ e) (u : Value) : Lib.BuilderAtF T e B b p bs (w.setCell ⟨a, i, none⟩ u) := by
  obtain ⟨hB, v, hb, hown, hne⟩ := h
  have hab : b ≠ a := by
    intro h; subst h; rw [hb] at ha; injection ha with ha; injection ha with _ h2 _; exact hT h2.symm
  refine ⟨hB, v, (heap_setCell_other _ _ _ _ hab).trans hb, ⟨hown.1, ?_⟩, hne⟩
  rcases hown.2 with hn | ⟨g, cap, cur, fz, rfl, hbs, hgg, rest⟩
  · exact .inl hn
  · refine .inr ⟨g, cap, cur, fz, rfl, hbs, ?_, rest⟩
    have hag : g ≠ a := by
      intro h; subst h; rw [hgg] at ha; injection ha with ha; injection ha with _ h2 _; exact he h2.symm
    exact (heap_setCell_other _ _ _ _ hag).trans hgg
theorem isBuilder_set {T e : TypeId} {B b : Nat} {bs : List Value} {w : World} (h : Lib.IsBuilderF T e B b bs w) {a i : Nat} {cs : Array Value} {T' : TypeId} {fr : Nat × Nat} (ha : w.heap[a]? = some (.cells cs T' fr)) (hT : T' ≠ T) (he : T' ≠ e) (u : Value) : Lib.IsBuilderF T e B b bs (w.setCell ⟨a, i, none⟩ u) :=
  h.elim (fun x => .inl (builder_set x ha hT he u)) (fun x => .inr (builder_set x ha hT he u))
theorem ownsRow_set {w : World} {base e k n : Nat} {v : Value} {xs : List Value} (h : w.ownsRow base e k v n xs) {a i : Nat} {cs : Array Value} {T' : TypeId} {fr : Nat × Nat} (ha : w.heap[a]? = some (.cells cs T' fr)) (he : T' ≠ e) (u : Value) : (w.setCell ⟨a, i, none⟩ u).ownsRow base e k v n xs := by
  refine ⟨h.1, ?_⟩
  rcases h.2 with hn | ⟨g, cap, cur, rfl, hbs, hgg, rest⟩
  · exact .inl hn
  · refine .inr ⟨g, cap, cur, rfl, hbs, ?_, rest⟩
    have hag : g ≠ a := by
      intro h; subst h; rw [hgg] at ha; injection ha with ha; injection ha with _ h2 _; exact he h2.symm
    exact (heap_setCell_other _ _ _ _ hag).trans hgg

section
variable {P : Program} {ops : Array Oper} {rest : List Oper} {o : Oper} {a : Act} {Q : Exit → Act → World → Prop}
/-- One element appended to what the call owns; rows of other kinds stand. -/
theorem wpList_append1k {B base : Nat} {W w0 : World} (hbel : Below B W w0) (hgd : o.guard = none) (s x : Operand) (t : TypeId)
    (ho : o.op = .call { callee := .builtin .append, args := #[s, x], argTypes := #[t, t] })
    (e : TypeId) (i : TypeInfo) (z : Value) (bytes : Nat) (ht : P.underlying t = some (.slice e)) (hi : P.info? e = some i) (hz : i.zero = some z)
    (hsize : i.size = 1) (hby : i.bytes = bytes) (hzs : z.cells.size = 1)
    (v : Value) (n : Nat) (xs : List Value) (hs : a.eval s = v) (hown : w0.ownsRow base e 1 v n xs)
    (val : Value) (hx : a.eval x = .slice (some ⟨w0.heap.size, 0, none⟩) 1 1) (h1 : val.oneCell' = true)
    (h63 : n + 1 ≤ maxLen) (hbytes : (n + 1) * bytes ≤ 140737488355328) (hB : B ≤ base) (hbase : base ≤ w0.heap.size)
    (h : ∀ g cap w', w'.ownsRow base e 1 (.slice (some ⟨g, 0, none⟩) (n + 1) cap) (n + 1) (xs ++ [val]) → Below B W w' → base ≤ w'.heap.size → Lib.OthersKept e none w0 w' → wpList P ops Q rest (a.put o.dst (.slice (some ⟨g, 0, none⟩) (n + 1) cap)) w') :
    wpList P ops Q (o :: rest) a (w0.alloc (.cells #[val] e)) := by
  refine wpList_append_own _ hgd s x t ho base e i z 1 bytes ht hi hz hsize hby hzs (by decide) v n xs hs (hown.alloc _) ⟨w0.heap.size, 0, none⟩ 1 1 [val] hx rfl ?_ ?_ h63 hbytes (by simp; omega) ?_
  · intro j u hj
    have hlt : j < 1 := (List.getElem?_eq_some_iff.1 hj).1
    rw [Addr.add_lit, cell_of_row _ _ _ _ _ _ (heap_alloc_new w0 _)]
    simpa using hj
  · intro u hu
    simp at hu
    subst hu
    exact h1
  · intro v' w' hown' hgr _
    obtain ⟨g, c, rfl, _⟩ := ownsRow_pos hown' (by omega)
    refine h g c w' hown' ?_ ?_ ?_
    · refine (hbel.alloc (by omega) _).grown hgr (by simp; omega) ?_
      intro k hk
      have := hown.lt k hk
      omega
    · have := hgr.size
      simp at this
      omega
    · refine ((Lib.OthersKept.refl e none w0).alloc _).grown hgr ?_
      intro g hg
      obtain ⟨c, fz, hc⟩ := Lib.ownsRow_kind hown g hg
      exact ⟨c, fz, (heap_alloc_old w0 _ (Array.getElem?_eq_some_iff.1 hc).1).trans hc⟩

/-- The same, the new element wherever it lies. -/
theorem wpList_appendG {B base : Nat} {W w : World} {val : Value} {e : TypeId} (hbel : Below B W w) (hgd : o.guard = none) (s x : Operand) (t : TypeId)
    (ho : o.op = .call { callee := .builtin .append, args := #[s, x], argTypes := #[t, t] })
    (i : TypeInfo) (z : Value) (bytes : Nat) (ht : P.underlying t = some (.slice e)) (hi : P.info? e = some i) (hz : i.zero = some z)
    (hsize : i.size = 1) (hby : i.bytes = bytes) (hzs : z.cells.size = 1)
    (v : Value) (n : Nat) (xs : List Value) (hs : a.eval s = v) (hown : w.ownsRow base e 1 v n xs)
    (ab c : Nat) (hx : a.eval x = .slice (some ⟨ab, 0, none⟩) 1 c) (hcell : w.cell? ⟨ab, 0, none⟩ = some val) (h1 : val.oneCell' = true)
    (h63 : n + 1 ≤ maxLen) (hbytes : (n + 1) * bytes ≤ 140737488355328) (hB : B ≤ base) (hbase : base ≤ w.heap.size)
    (h : ∀ g cap w', w'.ownsRow base e 1 (.slice (some ⟨g, 0, none⟩) (n + 1) cap) (n + 1) (xs ++ [val]) → Below B W w' → base ≤ w'.heap.size → Lib.OthersKept e none w w' → wpList P ops Q rest (a.put o.dst (.slice (some ⟨g, 0, none⟩) (n + 1) cap)) w') :
    wpList P ops Q (o :: rest) a w := by
  refine wpList_append_own _ hgd s x t ho base e i z 1 bytes ht hi hz hsize hby hzs (by decide) v n xs hs hown ⟨ab, 0, none⟩ 1 c [val] hx rfl ?_ ?_ h63 hbytes hbase ?_
  · intro j u hj
    have hlt : j < 1 := (List.getElem?_eq_some_iff.1 hj).1
    obtain rfl : j = 0 := by omega
    rw [Addr.add_lit, Nat.zero_add, hcell]
    simpa using hj
  · intro u hu
    simp at hu
    subst hu
    exact h1
  · intro v' w' hown' hgr _
    obtain ⟨g, c, rfl, _⟩ := ownsRow_pos hown' (by omega)
    refine h g c w' hown' ?_ ?_ ?_
    · refine hbel.grown hgr (by have := hbel.size; omega) ?_
      intro k hk
      have := hown.lt k hk
      omega
    · have := hgr.size
      omega
    · exact (Lib.OthersKept.refl e none w).grown hgr (Lib.ownsRow_kind hown)
/-- The same as a step of a region that draws its order, the new element wherever it lies. -/
theorem step_appendG {B base : Nat} {W w : World} {E : Prop} {K : Act → World → Prop} {val : Value} {e : TypeId} (hbel : Below B W w) (hgd : o.guard = none) (s x : Operand) (t : TypeId)
    (ho : o.op = .call { callee := .builtin .append, args := #[s, x], argTypes := #[t, t] })
    (i : TypeInfo) (z : Value) (bytes : Nat) (ht : P.underlying t = some (.slice e)) (hi : P.info? e = some i) (hz : i.zero = some z)
    (hsize : i.size = 1) (hby : i.bytes = bytes) (hzs : z.cells.size = 1)
    (v : Value) (n : Nat) (xs : List Value) (hs : a.eval s = v) (hown : w.ownsRow base e 1 v n xs)
    (ab c : Nat) (hx : a.eval x = .slice (some ⟨ab, 0, none⟩) 1 c) (hcell : w.cell? ⟨ab, 0, none⟩ = some val) (h1 : val.oneCell' = true)
    (h63 : n + 1 ≤ maxLen) (hbytes : (n + 1) * bytes ≤ 140737488355328) (hB : B ≤ base) (hbase : base ≤ w.heap.size)
    (h : ∀ g cap w', w'.ownsRow base e 1 (.slice (some ⟨g, 0, none⟩) (n + 1) cap) (n + 1) (xs ++ [val]) → Below B W w' → base ≤ w'.heap.size → Lib.OthersKept e none w w' → K (a.put o.dst (.slice (some ⟨g, 0, none⟩) (n + 1) cap)) w') :
    if Region.wanted o (yielded ops a.tmps) = true then Oper.wp P o a w K Q else E := by
  have hw : Region.wanted o (yielded ops a.tmps) = true := by simp [Region.wanted, hgd]
  rw [if_pos hw]
  refine wp_append_own _ s x t ho base e i z 1 bytes ht hi hz hsize hby hzs (by decide) v n xs hs hown ⟨ab, 0, none⟩ 1 c [val] hx rfl ?_ ?_ h63 hbytes hbase ?_
  · intro j u hj
    have hlt : j < 1 := (List.getElem?_eq_some_iff.1 hj).1
    obtain rfl : j = 0 := by omega
    rw [Addr.add_lit, Nat.zero_add, hcell]
    simpa using hj
  · intro u hu
    simp at hu
    subst hu
    exact h1
  · intro v' w' hown' hgr _
    obtain ⟨g, c, rfl, _⟩ := ownsRow_pos hown' (by omega)
    refine h g c w' hown' ?_ ?_ ?_
    · refine hbel.grown hgr (by have := hbel.size; omega) ?_
      intro k hk
      have := hown.lt k hk
      omega
    · have := hgr.size
      omega
    · exact (Lib.OthersKept.refl e none w).grown hgr (Lib.ownsRow_kind hown)
end
end Mh
