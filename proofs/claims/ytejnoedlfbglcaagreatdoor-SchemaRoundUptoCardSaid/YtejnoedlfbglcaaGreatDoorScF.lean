/- conf.readField: a field's table gives the field. Conditions: the field is right; the cells of kindNames. -/
import Derived.Test.YtejnoedlfbglcaaGreatDoorScD
import Derived.Test.YtejnoedlfbglcaaGreatDoorFlC
namespace Go.Proofs.YtejnoedlfbglcaaGreatDoor
open Go.RowKit Mh
set_option linter.unusedVariables false

/-- A block of thirteen cells that is written over. -/
def put13 (w : World) (g : Nat) (v0 v1 v2 v3 v4 v5 v6 v7 v8 v9 v10 v11 v12 : Value) : World := ((((((((((((w.setCell ⟨g, 0, none⟩ v0).setCell ⟨g, 1, none⟩ v1).setCell ⟨g, 2, none⟩ v2).setCell ⟨g, 3, none⟩ v3).setCell ⟨g, 4, none⟩ v4).setCell ⟨g, 5, none⟩ v5).setCell ⟨g, 6, none⟩ v6).setCell ⟨g, 7, none⟩ v7).setCell ⟨g, 8, none⟩ v8).setCell ⟨g, 9, none⟩ v9).setCell ⟨g, 10, none⟩ v10).setCell ⟨g, 11, none⟩ v11).setCell ⟨g, 12, none⟩ v12
theorem put13_at {w : World} {g : Nat} {T : TypeId} {v0 v1 v2 v3 v4 v5 v6 v7 v8 v9 v10 v11 v12 : Value} {cs : Array Value} (hc : cs.size = 13) (h : w.heap[g]? = some (.cells cs T (0, 0))) : (put13 w g v0 v1 v2 v3 v4 v5 v6 v7 v8 v9 v10 v11 v12).heap[g]? = some (.cells #[v0, v1, v2, v3, v4, v5, v6, v7, v8, v9, v10, v11, v12] T (0, 0)) := by
  obtain ⟨l⟩ := cs
  match l, hc with
  | [x0, x1, x2, x3, x4, x5, x6, x7, x8, x9, x10, x11, x12], _ =>
    have h0 := heap_setCell_same _ _ 0 #[x0, x1, x2, x3, x4, x5, x6, x7, x8, x9, x10, x11, x12] T v0 h
    have h1 := heap_setCell_same _ _ 1 #[v0, x1, x2, x3, x4, x5, x6, x7, x8, x9, x10, x11, x12] T v1 h0
    have h2 := heap_setCell_same _ _ 2 #[v0, v1, x2, x3, x4, x5, x6, x7, x8, x9, x10, x11, x12] T v2 h1
    have h3 := heap_setCell_same _ _ 3 #[v0, v1, v2, x3, x4, x5, x6, x7, x8, x9, x10, x11, x12] T v3 h2
    have h4 := heap_setCell_same _ _ 4 #[v0, v1, v2, v3, x4, x5, x6, x7, x8, x9, x10, x11, x12] T v4 h3
    have h5 := heap_setCell_same _ _ 5 #[v0, v1, v2, v3, v4, x5, x6, x7, x8, x9, x10, x11, x12] T v5 h4
    have h6 := heap_setCell_same _ _ 6 #[v0, v1, v2, v3, v4, v5, x6, x7, x8, x9, x10, x11, x12] T v6 h5
    have h7 := heap_setCell_same _ _ 7 #[v0, v1, v2, v3, v4, v5, v6, x7, x8, x9, x10, x11, x12] T v7 h6
    have h8 := heap_setCell_same _ _ 8 #[v0, v1, v2, v3, v4, v5, v6, v7, x8, x9, x10, x11, x12] T v8 h7
    have h9 := heap_setCell_same _ _ 9 #[v0, v1, v2, v3, v4, v5, v6, v7, v8, x9, x10, x11, x12] T v9 h8
    have h10 := heap_setCell_same _ _ 10 #[v0, v1, v2, v3, v4, v5, v6, v7, v8, v9, x10, x11, x12] T v10 h9
    have h11 := heap_setCell_same _ _ 11 #[v0, v1, v2, v3, v4, v5, v6, v7, v8, v9, v10, x11, x12] T v11 h10
    have h12 := heap_setCell_same _ _ 12 #[v0, v1, v2, v3, v4, v5, v6, v7, v8, v9, v10, v11, x12] T v12 h11
    exact h12
theorem put13_below {w w' : World} {B g : Nat} {v0 v1 v2 v3 v4 v5 v6 v7 v8 v9 v10 v11 v12 : Value} (h : Below B w w') (hg : B ≤ g) : Below B w (put13 w' g v0 v1 v2 v3 v4 v5 v6 v7 v8 v9 v10 v11 v12) := by
  unfold put13
  exact (((((((((((((((((((((((((h.setCell hg _)).setCell hg _)).setCell hg _)).setCell hg _)).setCell hg _)).setCell hg _)).setCell hg _)).setCell hg _)).setCell hg _)).setCell hg _)).setCell hg _)).setCell hg _)).setCell hg _)
theorem put13_other {w : World} {g k : Nat} {v0 v1 v2 v3 v4 v5 v6 v7 v8 v9 v10 v11 v12 : Value} (h : k ≠ g) : (put13 w g v0 v1 v2 v3 v4 v5 v6 v7 v8 v9 v10 v11 v12).heap[k]? = w.heap[k]? := by
  unfold put13
  rw [heap_setCell_other _ _ _ _ h, heap_setCell_other _ _ _ _ h, heap_setCell_other _ _ _ _ h, heap_setCell_other _ _ _ _ h, heap_setCell_other _ _ _ _ h, heap_setCell_other _ _ _ _ h, heap_setCell_other _ _ _ _ h, heap_setCell_other _ _ _ _ h, heap_setCell_other _ _ _ _ h, heap_setCell_other _ _ _ _ h, heap_setCell_other _ _ _ _ h, heap_setCell_other _ _ _ _ h, heap_setCell_other _ _ _ _ h]
theorem put13_size {w : World} {g : Nat} {v0 v1 v2 v3 v4 v5 v6 v7 v8 v9 v10 v11 v12 : Value} : (put13 w g v0 v1 v2 v3 v4 v5 v6 v7 v8 v9 v10 v11 v12).heap.size = w.heap.size := by simp [put13]
theorem thirteen_open {w : World} {g : Nat} {T : TypeId} {v0 v1 v2 v3 v4 v5 v6 v7 v8 v9 v10 v11 v12 : Value} (H : w.heap[g]? = some (.cells #[v0, v1, v2, v3, v4, v5, v6, v7, v8, v9, v10, v11, v12] T (0, 0))) :
    w.frozen? ⟨g, 0, none⟩ = false ∧ w.frozen? ⟨g, 1, none⟩ = false ∧ w.frozen? ⟨g, 2, none⟩ = false ∧ w.frozen? ⟨g, 3, none⟩ = false ∧ w.frozen? ⟨g, 4, none⟩ = false ∧ w.frozen? ⟨g, 5, none⟩ = false ∧ w.frozen? ⟨g, 6, none⟩ = false ∧ w.frozen? ⟨g, 7, none⟩ = false ∧ w.frozen? ⟨g, 8, none⟩ = false ∧ w.frozen? ⟨g, 9, none⟩ = false ∧ w.frozen? ⟨g, 10, none⟩ = false ∧ w.frozen? ⟨g, 11, none⟩ = false ∧ w.frozen? ⟨g, 12, none⟩ = false :=
  ⟨frozenT H, frozenT H, frozenT H, frozenT H, frozenT H, frozenT H, frozenT H, frozenT H, frozenT H, frozenT H, frozenT H, frozenT H, frozenT H⟩
/-- The six cells of a field's default that are written over. -/
def putDv (w : World) (g : Nat) (a b c d e f : Value) : World := (((((w.setCell ⟨g, 7, none⟩ a).setCell ⟨g, 8, none⟩ b).setCell ⟨g, 9, none⟩ c).setCell ⟨g, 10, none⟩ d).setCell ⟨g, 11, none⟩ e).setCell ⟨g, 12, none⟩ f
theorem putDv_other {w : World} {g k : Nat} {a b c d e f : Value} (h : k ≠ g) : (putDv w g a b c d e f).heap[k]? = w.heap[k]? := by
  unfold putDv
  rw [heap_setCell_other _ _ _ _ h, heap_setCell_other _ _ _ _ h, heap_setCell_other _ _ _ _ h, heap_setCell_other _ _ _ _ h, heap_setCell_other _ _ _ _ h, heap_setCell_other _ _ _ _ h]
theorem putDv_size {w : World} {g : Nat} {a b c d e f : Value} : (putDv w g a b c d e f).heap.size = w.heap.size := by simp [putDv]
theorem putDv_below {w w' : World} {B g : Nat} {a b c d e f : Value} (h : Below B w w') (hg : B ≤ g) : Below B w (putDv w' g a b c d e f) := by
  unfold putDv
  exact ((((((h.setCell hg _).setCell hg _).setCell hg _).setCell hg _).setCell hg _).setCell hg _)
/-- A field in the making. -/
structure RfG (T : V) (ta : Option Addr) (tc : Nat) (tk : Option Addr) (tkc : Nat) (w wr : World) (g : Mh.Fd) (oa : Option Addr) (oc : Nat) (ia : Option Addr) (ic : Nat) (ka : Option Addr) (kc : Nat) : Prop where
  bx : wr.heap[w.heap.size]? = some (box6 T ta tc tk tkc)
  b2 : wr.heap[w.heap.size + 1]? = some (box13 fd0 none 0 none 0 none 0 52)
  b3 : wr.heap[w.heap.size + 2]? = some (box13 g oa oc ia ic ka kc 52)
  own : wr.ownsRow (w.heap.size + 3) 9 1 (.slice oa g.one.length oc) g.one.length (g.one.map Value.string)
  dv : VAt (veil (own1 (lowS w 3) (.slice oa g.one.length oc)) wr) g.dv (vcs g.dv ia ic ka kc)
  below : Below w.heap.size w wr
  size : w.heap.size + 3 ≤ wr.heap.size
section
variable {T : V} {ta tk : Option Addr} {tc tkc : Nat} {w wr : World} {g : Mh.Fd} {oa ia ka : Option Addr} {oc ic kc : Nat}
theorem RfG.on {w' : World} (h : RfG T ta tc tk tkc w wr g oa oc ia ic ka kc) (hb : Below wr.heap.size wr w') : RfG T ta tc tk tkc w w' g oa oc ia ic ka kc := by
  have hz := h.size
  exact ⟨(hb.block _ (by omega)).trans h.bx, (hb.block _ (by omega)).trans h.b2, (hb.block _ (by omega)).trans h.b3, own_below h.own hb, h.dv.keeps (Keeps.belows hb), h.below.trans (hb.mono (by omega)), by have := hb.size; omega⟩
theorem RfG.setC (h : RfG T ta tc tk tkc w wr g oa oc ia ic ka kc) (i : Nat) (v : Value) (g' : Mh.Fd) (hfc : (fcs g oa oc ia ic ka kc).toArray.setIfInBounds i v = (fcs g' oa oc ia ic ka kc).toArray) (h1 : g'.one = g.one) (h2 : g'.dv = g.dv) :
    RfG T ta tc tk tkc w (wr.setCell ⟨w.heap.size + 2, i, none⟩ v) g' oa oc ia ic ka kc := by
  have hz := h.size
  refine ⟨by rw [heap_setCell_other _ _ _ _ (by simp)]; exact h.bx, by rw [heap_setCell_other _ _ _ _ (by simp)]; exact h.b2, ?_, ?_, ?_, h.below.setCell (by show w.heap.size ≤ w.heap.size + 2; omega) _, by simpa using hz⟩
  · have := h.b3
    unfold box13 at this ⊢
    rw [← hfc]
    exact heap_setCell_same _ _ i _ _ _ this
  · rw [h1]; exact own_setLow h.own (by omega)
  · rw [h1, h2]
    refine h.dv.keeps (Keeps.veils (by simp) fun k hk hs => ⟨hs, heap_setCell_other _ _ _ _ ?_⟩)
    have := (own1_false.1 hs).1
    simp [lowS] at this
    simp; omega
/-- A string more. -/
theorem RfG.more {w3 : World} {ob : Obj} {oa' : Option Addr} {oc' : Nat} {s : ByteArray} (h : RfG T ta tc tk tkc w wr g oa oc ia ic ka kc) (hown : w3.ownsRow (w.heap.size + 3) 9 1 (.slice oa' (g.one.length + 1) oc') (g.one.length + 1) (g.one.map Value.string ++ [.string s]))
    (hgr : (wr.alloc ob).grownBy w3 (Value.slice oa g.one.length oc).ownBlock) (hat : (Value.slice oa' (g.one.length + 1) oc').ownBlock = (Value.slice oa g.one.length oc).ownBlock ∨ (Value.slice oa' (g.one.length + 1) oc').ownBlock = some (wr.alloc ob).heap.size) :
    RfG T ta tc tk tkc w (w3.setCell ⟨w.heap.size + 2, 6, none⟩ (.slice oa' (g.one.length + 1) oc')) { g with one := g.one ++ [s] } oa' oc' ia ic ka kc := by
  have hz := h.size
  have hol := h.own.lt
  have hb : Below wr.heap.size wr (wr.alloc ob) := (Below.refl _ wr).alloc (Nat.le_refl _) _
  have hw3 : (wr.alloc ob).heap.size ≤ w3.heap.size := hgr.size
  simp at hw3
  have hne : ∀ k, k < w.heap.size + 3 → some k ≠ (Value.slice oa g.one.length oc).ownBlock := fun k hk e => by have := (hol k e.symm).1; omega
  have hlen : (g.one ++ [s]).length = g.one.length + 1 := by simp
  have keep : ∀ k, k < w.heap.size + 2 → (w3.setCell ⟨w.heap.size + 2, 6, none⟩ (.slice oa' (g.one.length + 1) oc')).heap[k]? = wr.heap[k]? := fun k hk => by
    rw [heap_setCell_other _ _ _ _ (by simp; omega), hgr.block _ (by simp; omega) (hne _ (by omega)), hb.block _ (by omega)]
  refine ⟨(keep _ (by omega)).trans h.bx, (keep _ (by omega)).trans h.b2, ?_, ?_, ?_, ((h.below.trans (hb.mono (by omega))).grown hgr (by simp; omega) fun k hk => by have := (hol k hk).1; omega).setCell (by show w.heap.size ≤ w.heap.size + 2; omega) _, by simp; omega⟩
  · have h3 : w3.heap[w.heap.size + 2]? = some (box13 g oa oc ia ic ka kc 52) := (hgr.block _ (by simp; omega) (hne _ (by omega))).trans ((hb.block _ (by omega)).trans h.b3)
    unfold box13 at h3 ⊢
    have e : (fcs { g with one := g.one ++ [s] } oa' oc' ia ic ka kc).toArray = (fcs g oa oc ia ic ka kc).toArray.setIfInBounds 6 (.slice oa' (g.one.length + 1) oc') := by unfold fcs; simp
    rw [e]
    exact heap_setCell_same _ _ 6 _ _ _ h3
  · show World.ownsRow _ _ _ _ (.slice oa' (g.one ++ [s]).length oc') (g.one ++ [s]).length _
    rw [hlen, List.map_append]
    exact own_setLow hown (by omega)
  · show VAt (veil (own1 (lowS w 3) (.slice oa' (g.one ++ [s]).length oc')) _) g.dv _
    rw [hlen]
    refine ((h.dv.keeps (Keeps.belows hb)).keeps (Keeps.grown hgr hat)).keeps (Keeps.veils (by simp) fun k hk hs => ⟨hs, heap_setCell_other _ _ _ _ ?_⟩)
    have := (own1_false.1 hs).1
    simp [lowS] at this
    simp; omega
/-- The default. -/
theorem RfG.deflt {w2 : World} {x : V} {ja jk : Option Addr} {jc jkc : Nat} (h : RfG T ta tc tk tkc w wr g oa oc ia ic ka kc) (hb : Below wr.heap.size wr w2) (hx : VAt (veil (fun k => decide (k < wr.heap.size)) w2) x (vcs x ja jc jk jkc)) :
    RfG T ta tc tk tkc w (putDv w2 (w.heap.size + 2) (.int .i64 x.kd) (.bool x.bo) (.int .i64 x.nu) (.string x.tx) (.slice ja x.its.length jc) (.slice jk x.kys.length jkc)) { g with dv := x } oa oc ja jc jk jkc := by
  have g2 := h.on hb
  have hz := h.size
  refine ⟨(putDv_other (by omega)).trans g2.bx, (putDv_other (by omega)).trans g2.b2, ?_, ?_, ?_, putDv_below g2.below (by omega), by rw [putDv_size]; exact g2.size⟩
  · have h3 := g2.b3
    unfold box13 at h3 ⊢
    unfold putDv
    exact heap_setCell_same _ _ 12 _ _ _ (heap_setCell_same _ _ 11 _ _ _ (heap_setCell_same _ _ 10 _ _ _ (heap_setCell_same _ _ 9 _ _ _ (heap_setCell_same _ _ 8 _ _ _ (heap_setCell_same _ _ 7 _ _ _ h3)))))
  · have := g2.own
    unfold putDv
    exact own_setLow (own_setLow (own_setLow (own_setLow (own_setLow (own_setLow this (by omega)) (by omega)) (by omega)) (by omega)) (by omega)) (by omega)
  · refine hx.keeps (Keeps.veils (by rw [putDv_size]; exact Nat.le_refl _) fun k hk hs => ⟨?_, putDv_other ?_⟩)
    · simp at hs
      rw [own1_false]
      refine ⟨by simp [lowS]; omega, fun e => ?_⟩
      have := (h.own.lt k e).2
      omega
    · simp at hs; omega
end
theorem RfG.fin {T : V} {ta tk : Option Addr} {tc tkc : Nat} {w wr : World} {f : Mh.Fd} {oa ia ka : Option Addr} {oc ic kc : Nat} (h : RfG T ta tc tk tkc w wr f oa oc ia ic ka kc) (hr : f.route.size ≤ maxLen) (h1 : (Lit.int .i64 f.kind).wf = true) (h2 : (Lit.int .i64 f.mn).wf = true) (h3 : (Lit.int .i64 f.mx).wf = true) (h4 : ∀ s ∈ f.one, s.size ≤ maxLen) :
    FdAt (veil (fun k => decide (k < w.heap.size)) (put13 wr (w.heap.size + 1) (.string f.route) (.int .i64 f.kind) (.bool f.need) (.bool f.bnd) (.int .i64 f.mn) (.int .i64 f.mx) (.slice oa f.one.length oc) (.int .i64 f.dv.kd) (.bool f.dv.bo) (.int .i64 f.dv.nu) (.string f.dv.tx) (.slice ia f.dv.its.length ic) (.slice ka f.dv.kys.length kc))) f (fcs f oa oc ia ic ka kc) := by
  have hz := h.size
  refine ⟨oa, oc, ia, ic, ka, kc, rfl, hr, h1, h2, h3, ⟨?_, h4⟩, ?_⟩
  · have ho : (put13 wr (w.heap.size + 1) (.string f.route) (.int .i64 f.kind) (.bool f.need) (.bool f.bnd) (.int .i64 f.mn) (.int .i64 f.mx) (.slice oa f.one.length oc) (.int .i64 f.dv.kd) (.bool f.dv.bo) (.int .i64 f.dv.nu) (.string f.dv.tx) (.slice ia f.dv.its.length ic) (.slice ka f.dv.kys.length kc)).ownsRow (w.heap.size + 3) 9 1 (.slice oa f.one.length oc) f.one.length (f.one.map Value.string) := by
      unfold put13
      exact (own_setLow (own_setLow (own_setLow (own_setLow (own_setLow (own_setLow (own_setLow (own_setLow (own_setLow (own_setLow (own_setLow (own_setLow (own_setLow h.own (by omega)) (by omega)) (by omega)) (by omega)) (by omega)) (by omega)) (by omega)) (by omega)) (by omega)) (by omega)) (by omega)) (by omega)) (by omega))
    exact Sl.of_own_veil ho (by decide) fun b hb => by simp; omega
  · refine h.dv.keeps (Keeps.veils (by rw [put13_size]; exact Nat.le_refl _) fun k hk hs => ?_)
    have := (own1_false.1 hs).1
    simp [lowS] at this
    exact ⟨by simp; omega, put13_other (by omega)⟩
theorem prow_cases (f : Mh.Fd) : ∀ p ∈ prow f, p = (qDefault, f.dv) ∨ p = (qKind, strV (knameI f.kind)) ∨ p = (qMax, wholeV f.mx) ∨ p = (qMin, wholeV f.mn) ∨ p = (qNeed, yesV f.need) ∨ p = (qOneof, listV (f.one.map strV)) ∨ p = (qRoute, strV f.route) := by
  intro p hp
  unfold prow at hp
  rcases List.mem_append.1 hp with hp | hp
  · split at hp
    · simp at hp
    · simp only [List.mem_cons, List.not_mem_nil, or_false] at hp; exact .inl hp
  rcases List.mem_cons.1 hp with hp | hp
  · exact .inr (.inl hp)
  rcases List.mem_append.1 hp with hp | hp
  · split at hp
    · simp only [List.mem_cons, List.not_mem_nil, or_false] at hp
      rcases hp with hp | hp
      · exact .inr (.inr (.inl hp))
      · exact .inr (.inr (.inr (.inl hp)))
    · simp at hp
  rcases List.mem_cons.1 hp with hp | hp
  · exact .inr (.inr (.inr (.inr (.inl hp))))
  rcases List.mem_append.1 hp with hp | hp
  · split at hp
    · simp at hp
    · simp only [List.mem_cons, List.not_mem_nil, or_false] at hp; exact .inr (.inr (.inr (.inr (.inr (.inl hp)))))
  · simp only [List.mem_cons, List.not_mem_nil, or_false] at hp; exact .inr (.inr (.inr (.inr (.inr (.inr hp)))))
theorem rd1 (g : Mh.Fd) (x : V) : readIt g (qRoute, x) = { g with route := x.tx } := by unfold readIt; rw [if_pos rfl]
theorem rd2 (g : Mh.Fd) (x : V) : readIt g (qKind, x) = { g with kind := kofI x.tx } := by unfold readIt; rw [if_neg (by dsimp only; decide), if_pos rfl]
theorem rd3 (g : Mh.Fd) (x : V) : readIt g (qNeed, x) = { g with need := x.bo } := by unfold readIt; rw [if_neg (by dsimp only; decide), if_neg (by dsimp only; decide), if_pos rfl]
theorem rd4 (g : Mh.Fd) (x : V) : readIt g (qMin, x) = { g with bnd := true, mn := x.nu } := by unfold readIt; rw [if_neg (by dsimp only; decide), if_neg (by dsimp only; decide), if_neg (by dsimp only; decide), if_pos rfl]
theorem rd5 (g : Mh.Fd) (x : V) : readIt g (qMax, x) = { g with bnd := true, mx := x.nu } := by unfold readIt; rw [if_neg (by dsimp only; decide), if_neg (by dsimp only; decide), if_neg (by dsimp only; decide), if_neg (by dsimp only; decide), if_pos rfl]
theorem rd6 (g : Mh.Fd) (x : V) : readIt g (qOneof, x) = { g with one := g.one ++ x.its.map V.tx } := by unfold readIt; rw [if_neg (by dsimp only; decide), if_neg (by dsimp only; decide), if_neg (by dsimp only; decide), if_neg (by dsimp only; decide), if_neg (by dsimp only; decide), if_pos rfl]
theorem rd7 (g : Mh.Fd) (x : V) : readIt g (qDefault, x) = { g with dv := x } := by unfold readIt; rw [if_neg (by dsimp only; decide), if_neg (by dsimp only; decide), if_neg (by dsimp only; decide), if_neg (by dsimp only; decide), if_neg (by dsimp only; decide), if_neg (by dsimp only; decide), if_pos rfl]
/-- The fields as far as they are read. -/
structure RfJ (P : List (ByteArray × V)) (j : Nat) (g : Mh.Fd) : Prop where
  le : j ≤ P.length
  fold : g = (P.take j).foldl readIt fd0
  len : g.one.length ≤ j * 4000
theorem RfJ.next {P : List (ByteArray × V)} {j : Nat} {g g' : Mh.Fd} (h : RfJ P j g) (hj : j < P.length) {q : ByteArray} {x : V} (hp : P[j] = (q, x)) (hr : readIt g (q, x) = g') (hl : g'.one.length ≤ g.one.length + 4000) : RfJ P (j + 1) g' := by
  refine ⟨hj, ?_, by have := h.len; omega⟩
  rw [List.take_succ_eq_append_getElem hj, List.foldl_append, ← h.fold, hp]
  exact hr.symm
set_option maxRecDepth 100000 in
set_option maxHeartbeats 16000000 in
theorem readField_any (f : Mh.Fd) (hok : f.ok) (hr : f.route.size ≤ maxLen) (hw1 : (Lit.int .i64 f.kind).wf = true) (hw2 : (Lit.int .i64 f.mn).wf = true) (hw3 : (Lit.int .i64 f.mx).wf = true) (hw4 : ∀ s ∈ f.one, s.size ≤ maxLen) (hmid : (fieldV f).mid) (cs : List Value) (w : World) (h : VAt w (fieldV f) cs) (hK : KNames w) :
    Calls Tryz.prog 28 #[.agg cs.toArray] w fun e w' => ∃ ds : List Value, e = .returned (.agg ds.toArray) ∧ FdAt (veil (fun k => decide (k < w.heap.size)) w') f ds ∧ Below w.heap.size w w' := by
  have HFIN := Lib.hid (fun (T : V) (ta tk : Option Addr) (tc tkc : Nat) (wr : World) (g : Mh.Fd) (oa ia ka : Option Addr) (oc ic kc : Nat) (hg : RfG T ta tc tk tkc w wr g oa oc ia ic ka kc) (he : g = f) => RfG.fin (f := g) hg (by rw [he]; exact hr) (by rw [he]; exact hw1) (by rw [he]; exact hw2) (by rw [he]; exact hw3) (by rw [he]; exact hw4))
  have HRD := Lib.hid (read_row f hok)
  have HKN : Hid (∀ w', Below w.heap.size w w' → KNames w') := fun w' hb => hK.keep hb
  have HPC := Lib.hid (prow_cases f)
  have hkr : f.kind = -1 ∨ (0 ≤ f.kind ∧ f.kind ≤ 6) := by obtain ⟨l, _, _, h, _⟩ := hok; exact h
  have HKR := Lib.hid hkr
  rw [fieldV_eq] at h hmid
  have hpl : (prow f).length ≤ 7 := prow_len f
  have HIT : Hid (∀ i (h : i < (prow f).length), ((prow f)[i]).2.mid) := fun i h => hmid.item _ (by rw [tab_its]; exact List.mem_map.2 ⟨_, List.getElem_mem h, rfl⟩)
  obtain ⟨ta, tc, tk, tkc, rfl, _⟩ := h.opened
  obtain ⟨hss, rows, hS, hT⟩ := h.inside
  obtain ⟨a1, c1, hsl, hk⟩ := VsAt.item hS hT
  simp only [Value.slice.injEq] at hsl
  obtain ⟨e1, _, e2⟩ := hsl
  rw [← e1] at hk
  clear e1 e2
  obtain ⟨a2, c2, hsl, hkk⟩ := Ss.key hss
  simp only [Value.slice.injEq] at hsl
  obtain ⟨e1, _, e2⟩ := hsl
  rw [← e1] at hkk
  clear e1 e2
  have HKK : Hid (∀ i (h : i < (prow f).length), ∃ b off, tk = some ⟨b, off, none⟩ ∧ b < w.heap.size ∧ w.cell? ⟨b, off + i, none⟩ = some (.string (prow f)[i].1) ∧ (prow f)[i].1.size ≤ maxLen) := by
    intro i h
    have := hkk i (by rw [tab_kys, List.length_map]; exact h)
    simpa only [tab_kys, List.getElem_map] using this
  have HKI : Hid (∀ i (h : i < (prow f).length), ∃ b off ia ic ka kc, ta = some ⟨b, off, none⟩ ∧ b < w.heap.size ∧ VAt w (prow f)[i].2 (vcs (prow f)[i].2 ia ic ka kc) ∧ ∀ j (hj : j < 6), w.cell? ⟨b, off + i * 6 + j, none⟩ = some ((vcs (prow f)[i].2 ia ic ka kc)[j]'hj)) := by
    intro i h
    obtain ⟨b, off, ia, ic, ka, kc, h1, h2, h3, h4⟩ := hk i (by rw [tab_its, List.length_map]; exact h)
    generalize hx : (tabV (prow f)).its[i]'(by rw [tab_its, List.length_map]; exact h) = x at h3 h4
    have hx2 : x = (prow f)[i].2 := by rw [← hx]; simp [tab_its]
    subst hx2
    exact ⟨b, off, ia, ic, ka, kc, h1, h2, h3, h4⟩
  have HLN : Hid ((tabV (prow f)).kys.length = (prow f).length ∧ (tabV (prow f)).its.length = (prow f).length) := ⟨by rw [tab_kys, List.length_map], by rw [tab_its, List.length_map]⟩
  clear hss hS hT hk hkk h hmid hok hr hw1 hw2 hw3 hw4 hK hkr
  rw [vcs_arr]
  obtain ⟨T, hT⟩ : ∃ T, T = tabV (prow f) := ⟨_, rfl⟩
  rw [← hT] at HLN ⊢
  clear hT
  obtain ⟨n, hn⟩ : ∃ n, n = (prow f).length := ⟨_, rfl⟩
  have hl1 : T.kys.length = n := by rw [hn]; exact HLN.out.1
  have hl2 : T.its.length = n := by rw [hn]; exact HLN.out.2
  have hn7 : n ≤ 7 := by omega
  have HN := Lib.hid hn
  have HI0 : Hid (RfJ (prow f) 0 fd0 ∧ RfG T ta tc tk tkc w (((w.alloc (box6 T ta tc tk tkc)).alloc (box13 fd0 none 0 none 0 none 0 52)).alloc (box13 fd0 none 0 none 0 none 0 52)) fd0 none 0 none 0 none 0) := by
    refine ⟨⟨Nat.zero_le _, rfl, by simp [fd0]⟩, ?_, ?_, ?_, World.ownsRow_nil _ _ _ _, zv_at _, (((Below.refl _ w).alloc (Nat.le_refl _) _).alloc (by simp) _).alloc (by simp; omega) _, by simp⟩
    · rw [heap_alloc_old _ _ (by simp; omega), heap_alloc_old _ _ (by simp), heap_alloc_new]
    · rw [heap_alloc_old _ _ (by simp)]; exact heap_new_at (by simp)
    · exact heap_new_at (by simp)
  unfold box6 box13 at HI0
  rw [hl1, hl2] at HI0
  rw [hl1, hl2]
  obtain ⟨si, hsi, hs0, hs1, hs2⟩ := info_parts infoStr
  have HL2 := Lib.hid hl2
  clear hl1 hl2 hpl hn
  go_enter Tryz.func28, Tryz.ntmps28
  go_wp2_with fail
  go_loopw [13] (fun i wr => ∃ (j : Nat) (g : Mh.Fd) (oa : Option Addr) (oc : Nat) (ia : Option Addr) (ic : Nat) (ka : Option Addr) (kc : Nat), i = .int .i64 j ∧ Hid (RfJ (prow f) j g ∧ RfG T ta tc tk tkc w wr g oa oc ia ic ka kc)) (fun i _ => n - (intOf i).toNat)
  case atStart => exact ⟨0, fd0, none, 0, none, 0, none, 0, rfl, HI0⟩
  case round =>
    clear HI0
    obtain ⟨j, g, oa, oc, ia, ic, ka, kc, rfl, HJ⟩ := hrel
    have hjn : j ≤ n := by rw [HN.out]; exact HJ.out.1.le
    by_cases hj : j < n
    · have hj' : j < (prow f).length := by rw [← HN.out]; exact hj
      obtain ⟨kb, ko, rfl, hklt, hkc, _⟩ := HKK.out j hj'
      obtain ⟨ib, io, xa, xc, xk, xkc, rfl, hilt, hix, hic6⟩ := HKI.out j hj'
      have k0 := (HJ.out.2.below.cell (p := ⟨kb, ko + j, none⟩) hklt).trans hkc
      obtain ⟨d0, d1, d2, d3, d4, d5⟩ := six_later HJ.out.2.below hilt hic6
      have hpc := HPC.out _ (List.getElem_mem hj')
      have HXM := Lib.hid (HIT.out j hj')
      have HXV := Lib.hid hix
      have HNX : Hid (∀ g' (q : ByteArray) (x : V), (prow f)[j] = (q, x) → readIt g (q, x) = g' → g'.one.length ≤ g.one.length + 4000 → RfJ (prow f) (j + 1) g') := fun g' q x h1 h2 h3 => HJ.out.1.next hj' h1 h2 h3
      have HR := Lib.hid HJ.out.2
      have hgl : g.one.length ≤ 28000 := by have := HJ.out.1.len; omega
      clear hklt hkc hic6 hilt hix HKK HKI HPC HIT HJ
      obtain ⟨p, hp⟩ : ∃ p, p = (prow f)[j] := ⟨_, rfl⟩
      rw [← hp] at k0 d0 d1 d2 d3 d4 d5 hpc HXM HXV HNX
      clear hp
      obtain ⟨key, x⟩ := p
      simp only at k0 d0 d1 d2 d3 d4 d5 HXM HXV
      have hbx := HR.out.bx
      unfold box6 at hbx
      rw [HL2.out] at hbx
      have y4 : wr.cell? ⟨w.heap.size, 4, none⟩ = some (.slice (some ⟨ib, io, none⟩) n tc) := cellT hbx rfl
      clear hbx
      have hb3 := (HR.out.on (below_alloc wr (box6 x xa xc xk xkc))).b3
      unfold box13 box6 at hb3
      obtain ⟨z0, z1, z2, z3, z4, z5, z6, z7, z8, z9, z10, z11, z12⟩ := thirteen_of_block hb3
      obtain ⟨g0, g1, g2, g3, g4, g5, g6, g7, g8, g9, g10, g11, g12⟩ := thirteen_open hb3
      clear hb3
      rcases hpc with hpc | hpc | hpc | hpc | hpc | hpc | hpc
      · have hk : key = qDefault := congrArg Prod.fst hpc
        have q0 : (key.toList == [114, 111, 117, 116, 101]) = false := lit_false (by rw [hk]; decide)
        have q1 : (key.toList == [107, 105, 110, 100]) = false := lit_false (by rw [hk]; decide)
        have q2 : (key.toList == [110, 101, 101, 100]) = false := lit_false (by rw [hk]; decide)
        have q3 : (key.toList == [109, 105, 110]) = false := lit_false (by rw [hk]; decide)
        have q4 : (key.toList == [109, 97, 120]) = false := lit_false (by rw [hk]; decide)
        have q5 : (key.toList == [111, 110, 101, 111, 102]) = false := lit_false (by rw [hk]; decide)
        have q6 : (key.toList == [100, 101, 102, 97, 117, 108, 116]) = true := lit_true hk
        have HJ2 : Hid (RfJ (prow f) (j + 1) { g with dv := x }) := HNX.out _ key x rfl (by rw [hk]; exact rd7 g x) (by show g.one.length ≤ _; omega)
        have HRA := Lib.hid (HR.out.on (below_alloc wr (box6 x xa xc xk xkc)))
        have CC : Hid (Calls Tryz.prog 22 #[.agg #[.int .i64 x.kd, .bool x.bo, .int .i64 x.nu, .string x.tx, .slice xa x.its.length xc, .slice xk x.kys.length xkc]] (wr.alloc (box6 x xa xc xk xkc)) fun e w' => ∃ ds : List Value, e = .returned (.agg ds.toArray) ∧ VAt (veil (fun k => decide (k < (wr.alloc (box6 x xa xc xk xkc)).heap.size)) w') x ds ∧ Below (wr.alloc (box6 x xa xc xk xkc)).heap.size (wr.alloc (box6 x xa xc xk xkc)) w') := clone_any _ x (Nat.lt_succ_self _) HXM.out (vcs x xa xc xk xkc) _ ((HXV.out.keep HR.out.below).keep (below_alloc _ _))
        unfold box6 at HRA CC
        clear HNX HXM HXV HFIN HRD HKN HR
        clear hk hpc
        go_wp2_with fail
        refine CC.out.mono ?_
        rintro e w5 ⟨ds, rfl, hds, hb5⟩
        obtain ⟨ja, jc, jk, jkc, rfl, _⟩ := hds.opened
        have HR2 : Hid (RfJ (prow f) (j + 1) { g with dv := x } ∧ RfG T (some ⟨ib, io, none⟩) tc (some ⟨kb, ko, none⟩) tkc w (putDv w5 (w.heap.size + 2) (.int .i64 x.kd) (.bool x.bo) (.int .i64 x.nu) (.string x.tx) (.slice ja x.its.length jc) (.slice jk x.kys.length jkc)) { g with dv := x } oa oc ja jc jk jkc) := ⟨HJ2.out, HRA.out.deflt hb5 hds⟩
        unfold putDv at HR2
        have hb3 := (HRA.out.on hb5).b3
        unfold box13 at hb3
        rw [vcs_arr]
        clear z0  z1  z2  z3  z4  z5  z6  z7  z8  z9  z10  z11  z12 g0  g1  g2  g3  g4  g5  g6  g7  g8  g9  g10  g11  g12 HJ2 HRA CC hds hb5
        obtain ⟨z0, z1, z2, z3, z4, z5, z6, z7, z8, z9, z10, z11, z12⟩ := thirteen_of_block hb3
        obtain ⟨g0, g1, g2, g3, g4, g5, g6, g7, g8, g9, g10, g11, g12⟩ := thirteen_open hb3
        clear hb3
        go_wp2_with fail
        go_roundw
        case rel => exact ⟨j + 1, _, _, _, _, _, _, _, by go_num, HR2⟩
        case measure => simp [intOf]; omega
      · have hk : key = qKind := congrArg Prod.fst hpc
        have q0 : (key.toList == [114, 111, 117, 116, 101]) = false := lit_false (by rw [hk]; decide)
        have q1 : (key.toList == [107, 105, 110, 100]) = true := lit_true hk
        have hxt : x.tx = knameI f.kind := by have := congrArg Prod.snd hpc; simp only at this; rw [this]; rfl
        have HJ2 : Hid (RfJ (prow f) (j + 1) { g with kind := f.kind }) := HNX.out _ key x rfl (by rw [hk, rd2, hxt, kofI_name _ HKR.out]) (by show g.one.length ≤ _; omega)
        have CK : Hid (Calls Tryz.prog 43 #[.string x.tx] (wr.alloc (box6 x xa xc xk xkc)) fun e w' => e = .returned (.tuple #[.int .i64 f.kind, .bool true]) ∧ w' = wr.alloc (box6 x xa xc xk xkc)) := by rw [hxt]; exact kindOf_any f.kind HKR.out _ (HKN.out _ (HR.out.below.trans ((below_alloc _ _).mono HR.out.below.size)))
        have HR2 : Hid (RfJ (prow f) (j + 1) { g with kind := f.kind } ∧ RfG T (some ⟨ib, io, none⟩) tc (some ⟨kb, ko, none⟩) tkc w ((wr.alloc (box6 x xa xc xk xkc)).setCell ⟨w.heap.size + 2, 1, none⟩ (.int .i64 f.kind)) { g with kind := f.kind } oa oc ia ic ka kc) := ⟨HJ2.out, (HR.out.on (below_alloc wr (box6 x xa xc xk xkc))).setC 1 (.int .i64 f.kind) { g with kind := f.kind } rfl rfl rfl⟩
        unfold box6 at HR2 CK
        clear HJ2 HNX HR HXM HXV HFIN HRD HKN hxt
        clear hk hpc
        go_wp2_with fail
        refine CK.out.mono ?_
        rintro e w5 ⟨rfl, rfl⟩
        clear CK
        go_wp2_with fail
        go_roundw
        case rel => exact ⟨j + 1, _, _, _, _, _, _, _, by go_num, HR2⟩
        case measure => simp [intOf]; omega
      · have hk : key = qMax := congrArg Prod.fst hpc
        have q0 : (key.toList == [114, 111, 117, 116, 101]) = false := lit_false (by rw [hk]; decide)
        have q1 : (key.toList == [107, 105, 110, 100]) = false := lit_false (by rw [hk]; decide)
        have q2 : (key.toList == [110, 101, 101, 100]) = false := lit_false (by rw [hk]; decide)
        have q3 : (key.toList == [109, 105, 110]) = false := lit_false (by rw [hk]; decide)
        have q4 : (key.toList == [109, 97, 120]) = true := lit_true hk
        have HJ2 : Hid (RfJ (prow f) (j + 1) { g with bnd := true, mx := x.nu }) := HNX.out _ key x rfl (by rw [hk]; exact rd5 g x) (by show g.one.length ≤ _; omega)
        have HRA : Hid (RfJ (prow f) (j + 1) { g with bnd := true, mx := x.nu } ∧ RfG T (some ⟨ib, io, none⟩) tc (some ⟨kb, ko, none⟩) tkc w (((wr.alloc (box6 x xa xc xk xkc)).setCell ⟨w.heap.size + 2, 3, none⟩ (.bool true)).setCell ⟨w.heap.size + 2, 5, none⟩ (.int .i64 x.nu)).drew { g with bnd := true, mx := x.nu } oa oc ia ic ka kc) := ⟨HJ2.out, (((HR.out.on (below_alloc wr (box6 x xa xc xk xkc))).setC 3 (.bool true) { g with bnd := true } rfl rfl rfl).setC 5 (.int .i64 x.nu) { g with bnd := true, mx := x.nu } rfl rfl rfl).on (Below.refl _ _).drew⟩
        have HRB : Hid (RfJ (prow f) (j + 1) { g with bnd := true, mx := x.nu } ∧ RfG T (some ⟨ib, io, none⟩) tc (some ⟨kb, ko, none⟩) tkc w (((wr.alloc (box6 x xa xc xk xkc)).setCell ⟨w.heap.size + 2, 5, none⟩ (.int .i64 x.nu)).setCell ⟨w.heap.size + 2, 3, none⟩ (.bool true)).drew { g with bnd := true, mx := x.nu } oa oc ia ic ka kc) := ⟨HJ2.out, (((HR.out.on (below_alloc wr (box6 x xa xc xk xkc))).setC 5 (.int .i64 x.nu) { g with mx := x.nu } rfl rfl rfl).setC 3 (.bool true) { g with bnd := true, mx := x.nu } rfl rfl rfl).on (Below.refl _ _).drew⟩
        unfold box6 at HRA HRB
        clear HJ2 HNX HR HXM HXV HFIN HRD HKN
        clear hk hpc
        go_wp2_with fail
        go_region
        all_goals
          go_wp2_with fail
          go_roundw
          case rel => first | exact ⟨j + 1, _, _, _, _, _, _, _, by go_num, HRA⟩ | exact ⟨j + 1, _, _, _, _, _, _, _, by go_num, HRB⟩
          case measure => simp [intOf]; omega
      · have hk : key = qMin := congrArg Prod.fst hpc
        have q0 : (key.toList == [114, 111, 117, 116, 101]) = false := lit_false (by rw [hk]; decide)
        have q1 : (key.toList == [107, 105, 110, 100]) = false := lit_false (by rw [hk]; decide)
        have q2 : (key.toList == [110, 101, 101, 100]) = false := lit_false (by rw [hk]; decide)
        have q3 : (key.toList == [109, 105, 110]) = true := lit_true hk
        have HJ2 : Hid (RfJ (prow f) (j + 1) { g with bnd := true, mn := x.nu }) := HNX.out _ key x rfl (by rw [hk]; exact rd4 g x) (by show g.one.length ≤ _; omega)
        have HRA : Hid (RfJ (prow f) (j + 1) { g with bnd := true, mn := x.nu } ∧ RfG T (some ⟨ib, io, none⟩) tc (some ⟨kb, ko, none⟩) tkc w (((wr.alloc (box6 x xa xc xk xkc)).setCell ⟨w.heap.size + 2, 3, none⟩ (.bool true)).setCell ⟨w.heap.size + 2, 4, none⟩ (.int .i64 x.nu)).drew { g with bnd := true, mn := x.nu } oa oc ia ic ka kc) := ⟨HJ2.out, (((HR.out.on (below_alloc wr (box6 x xa xc xk xkc))).setC 3 (.bool true) { g with bnd := true } rfl rfl rfl).setC 4 (.int .i64 x.nu) { g with bnd := true, mn := x.nu } rfl rfl rfl).on (Below.refl _ _).drew⟩
        have HRB : Hid (RfJ (prow f) (j + 1) { g with bnd := true, mn := x.nu } ∧ RfG T (some ⟨ib, io, none⟩) tc (some ⟨kb, ko, none⟩) tkc w (((wr.alloc (box6 x xa xc xk xkc)).setCell ⟨w.heap.size + 2, 4, none⟩ (.int .i64 x.nu)).setCell ⟨w.heap.size + 2, 3, none⟩ (.bool true)).drew { g with bnd := true, mn := x.nu } oa oc ia ic ka kc) := ⟨HJ2.out, (((HR.out.on (below_alloc wr (box6 x xa xc xk xkc))).setC 4 (.int .i64 x.nu) { g with mn := x.nu } rfl rfl rfl).setC 3 (.bool true) { g with bnd := true, mn := x.nu } rfl rfl rfl).on (Below.refl _ _).drew⟩
        unfold box6 at HRA HRB
        clear HJ2 HNX HR HXM HXV HFIN HRD HKN
        clear hk hpc
        go_wp2_with fail
        go_region
        all_goals
          go_wp2_with fail
          go_roundw
          case rel => first | exact ⟨j + 1, _, _, _, _, _, _, _, by go_num, HRA⟩ | exact ⟨j + 1, _, _, _, _, _, _, _, by go_num, HRB⟩
          case measure => simp [intOf]; omega
      · have hk : key = qNeed := congrArg Prod.fst hpc
        have q0 : (key.toList == [114, 111, 117, 116, 101]) = false := lit_false (by rw [hk]; decide)
        have q1 : (key.toList == [107, 105, 110, 100]) = false := lit_false (by rw [hk]; decide)
        have q2 : (key.toList == [110, 101, 101, 100]) = true := lit_true hk
        have HJ2 : Hid (RfJ (prow f) (j + 1) { g with need := x.bo }) := HNX.out _ key x rfl (by rw [hk]; exact rd3 g x) (by show g.one.length ≤ _; omega)
        have HR2 : Hid (RfJ (prow f) (j + 1) { g with need := x.bo } ∧ RfG T (some ⟨ib, io, none⟩) tc (some ⟨kb, ko, none⟩) tkc w ((wr.alloc (box6 x xa xc xk xkc)).setCell ⟨w.heap.size + 2, 2, none⟩ (.bool x.bo)) { g with need := x.bo } oa oc ia ic ka kc) := ⟨HJ2.out, (HR.out.on (below_alloc wr (box6 x xa xc xk xkc))).setC 2 (.bool x.bo) { g with need := x.bo } rfl rfl rfl⟩
        unfold box6 at HR2
        clear HJ2 HNX HR HXM HXV HFIN HRD HKN
        clear hk hpc
        go_wp2_with fail
        go_roundw
        case rel => exact ⟨j + 1, _, _, _, _, _, _, _, by go_num, HR2⟩
        case measure => simp [intOf]; omega
      · have hk : key = qOneof := congrArg Prod.fst hpc
        have q0 : (key.toList == [114, 111, 117, 116, 101]) = false := lit_false (by rw [hk]; decide)
        have q1 : (key.toList == [107, 105, 110, 100]) = false := lit_false (by rw [hk]; decide)
        have q2 : (key.toList == [110, 101, 101, 100]) = false := lit_false (by rw [hk]; decide)
        have q3 : (key.toList == [109, 105, 110]) = false := lit_false (by rw [hk]; decide)
        have q4 : (key.toList == [109, 97, 120]) = false := lit_false (by rw [hk]; decide)
        have q5 : (key.toList == [111, 110, 101, 111, 102]) = true := lit_true hk
        have hxl := HXM.out.len
        have HJ2 : Hid (RfJ (prow f) (j + 1) { g with one := g.one ++ x.its.map V.tx }) := HNX.out _ key x rfl (by rw [hk]; exact rd6 g x) (by show (g.one ++ x.its.map V.tx).length ≤ _; rw [List.length_append, List.length_map]; omega)
        obtain ⟨wo, rfl⟩ : ∃ wo : World, wo = wr := ⟨_, rfl⟩
        have HRA : Hid (RfG T (some ⟨ib, io, none⟩) tc (some ⟨kb, ko, none⟩) tkc w (wo.alloc (box6 x xa xc xk xkc)) g oa oc ia ic ka kc) := HR.out.on (below_alloc _ _)
        obtain ⟨_, rows, hS, hT⟩ := HXV.out.inside
        obtain ⟨a1, c1, hsl, hkx⟩ := VsAt.item hS hT
        simp only [Value.slice.injEq] at hsl
        obtain ⟨e1, _, e2⟩ := hsl
        rw [← e1] at hkx
        clear e1 e2 hS hT
        have HKX := Lib.hid hkx
        have HXW := Lib.hid HXV.out.wf
        unfold box6 at HRA
        clear hkx HNX HR HXM HXV HFIN HRD HKN
        clear hk hpc
        go_wp2_with fail
        go_loopw [60] (fun i wr => ∃ (l : Nat) (gi : Mh.Fd) (oa : Option Addr) (oc : Nat), i = .int .i64 l ∧ Hid (l ≤ x.its.length ∧ gi = { g with one := g.one ++ (x.its.take l).map V.tx } ∧ RfG T (some ⟨ib, io, none⟩) tc (some ⟨kb, ko, none⟩) tkc w wr gi oa oc ia ic ka kc)) (fun i _ => x.its.length - (intOf i).toNat)
        case atStart => exact ⟨0, g, oa, oc, rfl, ⟨Nat.zero_le _, by simp, HRA.out⟩⟩
        case round =>
          clear HRA z0  z1  z2  z3  z4  z5  z6  z7  z8  z9  z10  z11  z12 g0  g1  g2  g3  g4  g5  g6  g7  g8  g9  g10  g11  g12
          obtain ⟨l, gi, oa, oc, rfl, HL⟩ := hrel
          have hll := HL.out.1
          by_cases hl : l < x.its.length
          · obtain ⟨zb, zo, za, zc, zk, zkc, rfl, hzlt, hzv, hzc⟩ := HKX.out l hl
            obtain ⟨d0, d1, d2, d3, d4, d5⟩ := six_later HL.out.2.2.below hzlt hzc
            have hgi : gi.one.length ≤ 32000 := by rw [HL.out.2.1]; show (g.one ++ (x.its.take l).map V.tx).length ≤ _; rw [List.length_append, List.length_map, List.length_take]; omega
            have HR1 := Lib.hid (HL.out.2.2.on (below_alloc wr (box6 x.its[l] za zc zk zkc)))
            have HEQ : Hid ({ gi with one := gi.one ++ [x.its[l].tx] } = { g with one := g.one ++ (x.its.take (l + 1)).map V.tx }) := by
              show _ = _
              rw [HL.out.2.1, List.take_succ_eq_append_getElem hl, List.map_append]
              simp
            have hb3 := HR1.out.b3
            clear hzlt hzv hzc HKX HL
            generalize x.its[l] = y at *
            have HOW := Lib.hid (HR1.out.own.alloc (.cells #[.string y.tx] 9))
            have HNEW : Hid (Sl 1 ((wr.alloc (box6 y za zc zk zkc)).alloc (.cells #[.string y.tx] 9)) (.slice (some ⟨wr.heap.size + 1, 0, none⟩) 1 1) 1 [.string y.tx]) := by have := Sl.lit (wr.alloc (box6 y za zc zk zkc)) [.string y.tx] 9 1 rfl; rwa [show (wr.alloc (box6 y za zc zk zkc)).heap.size = wr.heap.size + 1 by simp] at this
            have HBS : Hid (w.heap.size + 3 ≤ ((wr.alloc (box6 y za zc zk zkc)).alloc (.cells #[.string y.tx] 9)).heap.size) := by have := HR1.out.size; show _ ≤ _; simp at this ⊢; omega
            unfold box13 at hb3
            unfold box6 at hb3 HOW HNEW HR1 HBS
            have z6 := (thirteen_of_block hb3).2.2.2.2.2.2.1
            have HKC : Hid (∀ (w3 : World) (ob : Obj), ((wr.alloc (.cells #[.int .i64 y.kd, .bool y.bo, .int .i64 y.nu, .string y.tx, .slice za y.its.length zc, .slice zk y.kys.length zkc] 29)).alloc ob).grownBy w3 (Value.slice oa gi.one.length oc).ownBlock → w3.cell? ⟨w.heap.size + 1 + 1, 6, none⟩ = some (.slice oa gi.one.length oc) ∧ w3.frozen? ⟨w.heap.size + 1 + 1, 6, none⟩ = false) := by
              intro w3 ob hg
              have hsz := HR1.out.size
              have hne : some (w.heap.size + 2) ≠ (Value.slice oa gi.one.length oc).ownBlock := fun e => by have := (HR1.out.own.lt _ e.symm).1; omega
              have h3 : w3.heap[w.heap.size + 2]? = _ := (hg.block _ (by simp at hsz ⊢; omega) hne).trans ((heap_alloc_old _ _ (by omega)).trans hb3)
              exact ⟨cellT h3 rfl, frozenT h3⟩
            clear hb3
            go_wp2_with (at_builtin; refine wpList_append_sl _ rfl _ _ 27 rfl (w.heap.size + 3) 9 si (.string ⟨#[]⟩) 1 16 Tryz.underlying27 hsi hs0 hs1 hs2 rfl (by decide) (.slice oa gi.one.length oc) gi.one.length _ rfl HOW.out _ 1 _ rfl HNEW.out (by simp [Value.oneCell']) (by unfold maxLen; omega) (by omega) HBS.out ?_; intro v3 w3 hown3 hgr3 hat3; obtain ⟨a3, c3, rfl⟩ := ownsRow_form hown3; obtain ⟨p6, q6⟩ := HKC.out _ _ hgr3)
            have HL2 : Hid (l + 1 ≤ x.its.length ∧ { gi with one := gi.one ++ [y.tx] } = { g with one := g.one ++ (x.its.take (l + 1)).map V.tx } ∧ RfG T (some ⟨ib, io, none⟩) tc (some ⟨kb, ko, none⟩) tkc w (w3.setCell ⟨w.heap.size + 1 + 1, 6, none⟩ (.slice a3 (gi.one.length + 1) c3)) { gi with one := gi.one ++ [y.tx] } a3 c3 ia ic ka kc) := ⟨hl, HEQ.out, HR1.out.more hown3 hgr3 hat3⟩
            clear HOW HNEW hown3 hgr3 hat3 HKC HR1 HEQ p6 q6
            go_roundw
            case rel => exact ⟨l + 1, _, _, _, by go_num, HL2⟩
            case measure => simp [intOf]; omega
          · obtain rfl : l = x.its.length := by omega
            have HR2 : Hid (RfJ (prow f) (j + 1) { g with one := g.one ++ x.its.map V.tx } ∧ RfG T (some ⟨ib, io, none⟩) tc (some ⟨kb, ko, none⟩) tkc w wr { g with one := g.one ++ x.its.map V.tx } oa oc ia ic ka kc) := by
              have e := HL.out.2.1
              rw [List.take_length] at e
              exact ⟨HJ2.out, by rw [← e]; exact HL.out.2.2⟩
            clear HKX HL HJ2
            go_wp2_with fail
            go_roundw
            case rel => exact ⟨j + 1, _, _, _, _, _, _, _, by go_num, HR2⟩
            case measure => simp [intOf]; omega
      · have hk : key = qRoute := congrArg Prod.fst hpc
        have q0 : (key.toList == [114, 111, 117, 116, 101]) = true := lit_true hk
        have HJ2 : Hid (RfJ (prow f) (j + 1) { g with route := x.tx }) := HNX.out _ key x rfl (by rw [hk]; exact rd1 g x) (by show g.one.length ≤ _; omega)
        have HR2 : Hid (RfJ (prow f) (j + 1) { g with route := x.tx } ∧ RfG T (some ⟨ib, io, none⟩) tc (some ⟨kb, ko, none⟩) tkc w ((wr.alloc (box6 x xa xc xk xkc)).setCell ⟨w.heap.size + 2, 0, none⟩ (.string x.tx)) { g with route := x.tx } oa oc ia ic ka kc) := ⟨HJ2.out, (HR.out.on (below_alloc wr (box6 x xa xc xk xkc))).setC 0 (.string x.tx) { g with route := x.tx } rfl rfl rfl⟩
        unfold box6 at HR2
        clear HJ2 HNX HR HXM HXV HFIN HRD HKN
        clear hk hpc
        go_wp2_with fail
        go_roundw
        case rel => exact ⟨j + 1, _, _, _, _, _, _, _, by go_num, HR2⟩
        case measure => simp [intOf]; omega
    · obtain rfl : j = n := by omega
      have hgf : g = f := by
        have := HJ.out.1.fold
        rw [List.take_of_length_le (by rw [HN.out]; exact Nat.le_refl _), HRD.out] at this
        exact this
      have HR := Lib.hid HJ.out.2
      have HFF := Lib.hid (HFIN.out _ _ _ _ _ _ _ _ _ _ _ _ _ HR.out hgf)
      rw [hgf] at HR
      rw [hgf] at HFF
      clear hgf HJ
      have hb3 := HR.out.b3
      have hb2 := HR.out.b2
      unfold box13 at hb3 hb2
      have HB2 := Lib.hid hb2
      obtain ⟨z0, z1, z2, z3, z4, z5, z6, z7, z8, z9, z10, z11, z12⟩ := thirteen_of_block hb3
      obtain ⟨u0, u1, u2, u3, u4, u5, u6, u7, u8, u9, u10, u11, u12⟩ := thirteen_of_block hb2
      obtain ⟨e0, e1, e2, e3, e4, e5, e6, e7, e8, e9, e10, e11, e12⟩ := thirteen_open hb2
      clear hb3 hb2 HKK HKI HPC HIT HKN HRD HFIN
      have hput := put13_at (v0 := .string f.route) (v1 := .int .i64 f.kind) (v2 := .bool f.need) (v3 := .bool f.bnd) (v4 := .int .i64 f.mn) (v5 := .int .i64 f.mx) (v6 := .slice oa f.one.length oc) (v7 := .int .i64 f.dv.kd) (v8 := .bool f.dv.bo) (v9 := .int .i64 f.dv.nu) (v10 := .string f.dv.tx) (v11 := .slice ia f.dv.its.length ic) (v12 := .slice ka f.dv.kys.length kc) rfl HB2.out
      have hbel := put13_below (v0 := .string f.route) (v1 := .int .i64 f.kind) (v2 := .bool f.need) (v3 := .bool f.bnd) (v4 := .int .i64 f.mn) (v5 := .int .i64 f.mx) (v6 := .slice oa f.one.length oc) (v7 := .int .i64 f.dv.kd) (v8 := .bool f.dv.bo) (v9 := .int .i64 f.dv.nu) (v10 := .string f.dv.tx) (v11 := .slice ia f.dv.its.length ic) (v12 := .slice ka f.dv.kys.length kc) HR.out.below (Nat.le_succ w.heap.size)
      have HPUT := Lib.hid hput
      have HBEL := Lib.hid hbel
      unfold put13 at HPUT HBEL HFF
      clear hput hbel HB2
      go_wp2_with fail
      generalize hwf : World.setCell _ _ _ = wf at HPUT HBEL HFF ⊢
      clear hwf z0  z1  z2  z3  z4  z5  z6  z7  z8  z9  z10  z11  z12 u0  u1  u2  u3  u4  u5  u6  u7  u8  u9  u10  u11  u12 e0  e1  e2  e3  e4  e5  e6  e7  e8  e9  e10  e11  e12
      obtain ⟨s0, s1, s2, s3, s4, s5, s6, s7, s8, s9, s10, s11, s12⟩ := thirteen_of_block HPUT.out
      refine bodyPost_ret (v := .agg (fcs f oa oc ia ic ka kc).toArray) (by simp [results, Tryz.results28, go_sem, fcs, s0, s1, s2, s3, s4, s5, s6, s7, s8, s9, s10, s11, s12] <;> rfl) rfl ⟨_, rfl, HFF.out, HBEL.out⟩
end Go.Proofs.YtejnoedlfbglcaaGreatDoor
