/- Terms of items in memory: the state of list.terms while it reads names. No conditions beyond those that each law states. -/
import Derived.Test.YtihdfkcoajpmjaaGreatDoorLtM
import Derived.Test.YtihdfkcoajpmjaaGreatDoorLtS
namespace Mh
open Go Go.RowKit
set_option linter.unusedVariables false
def nsOf (r : ByteArray) (X : V) : List ByteArray := (strsV (atR r X)).getD []
def TermOk (r : ByteArray) (X : V) : Prop := ∃ ns, strsV (atR r X) = some ns ∧ ∀ s ∈ ns, (slugB s).toList.isEmpty = false
theorem asc_ge {l : List Nat} (hp : l.Pairwise (· < ·)) : ∀ j (h : j < l.length), j ≤ l[j]
  | 0, h => Nat.zero_le _
  | j + 1, h => by
    have h1 := asc_ge hp j (by omega)
    have h2 := List.pairwise_iff_getElem.1 hp j (j + 1) (by omega) h (by omega)
    omega
theorem asc_len {l : List Nat} {i : Nat} (hp : l.Pairwise (· < ·)) (hb : ∀ x ∈ l, x ≤ i) : l.length ≤ i + 1 := by
  rcases Nat.eq_zero_or_pos l.length with h | h
  · omega
  · have h1 := asc_ge hp (l.length - 1) (by omega)
    have h2 := hb _ (List.getElem_mem (by omega : l.length - 1 < l.length))
    omega
/-- The last number of a row. -/
theorem lastN {w : World} {base e vc : Nat} {va : Option Addr} {l : List Nat} (h0 : l ≠ []) (h : w.ownsRow base e 1 (.slice va l.length vc) l.length (l.map encN)) :
    ∃ b off y, va = some ⟨b, off, none⟩ ∧ l.length ≤ vc ∧ vc ≤ maxLen ∧ l.getLast? = some y ∧ w.cell? ⟨b, off + (l.length - 1), none⟩ = some (.int .i64 (y : Int)) := by
  have hp : 0 < l.length := List.length_pos_iff.2 h0
  have hs := Sl.of_own h (by decide)
  rcases hs.2 with ⟨h0, _⟩ | ⟨b, off, c, hv, h1, h2, h3, _, h5⟩
  · omega
  · simp only [Value.slice.injEq] at hv
    obtain ⟨rfl, _, rfl⟩ := hv
    have hl : (l.map encN)[l.length - 1]? = some (encN l[l.length - 1]) := by rw [List.getElem?_map, List.getElem?_eq_getElem (by omega)]; rfl
    exact ⟨b, off, l[l.length - 1], rfl, h2, h3, by rw [List.getLast?_eq_getElem?, List.getElem?_eq_getElem (by omega)], h5 _ _ hl⟩
end Mh
namespace Go.Proofs.YtihdfkcoajpmjaaGreatDoor
open Go.RowKit Mh
set_option linter.unusedVariables false
/-- An item out of what had has returned. -/
theorem had_item {W0 w1 : World} {base : Nat} {v : Value} {rows : List Value} {is : List V} (hO : w1.ownsRow base 35 6 v is.length rows) (hT : VsAt W0 is rows) :
    ∃ ao c, v = .slice ao is.length c ∧ is.length ≤ maxLen ∧ ∀ k (h : k < is.length), ∃ b off ia ic ka kc, ao = some ⟨b, off, none⟩ ∧ VAt W0 is[k] (vcs is[k] ia ic ka kc) ∧
      ∀ (w : World), w.ownsRow base 35 6 v is.length rows → ∀ j (hj : j < 6), w.cell? ⟨b, off + k * 6 + j, none⟩ = some ((vcs is[k] ia ic ka kc)[j]'hj) := by
  obtain ⟨ao, c, rfl, hm, hs⟩ := Sl.shp (Sl.of_own hO (by decide))
  refine ⟨ao, c, rfl, hm, fun k h => ?_⟩
  obtain ⟨b, off, rfl, _, _, hlt, hc⟩ := hs (by omega)
  obtain ⟨c', h1, h2⟩ := VsAt.get is rows hT k h
  obtain ⟨ia, ic, ka, kc, rfl, _⟩ := h1.opened
  refine ⟨b, off, ia, ic, ka, kc, rfl, h1, fun w hw j hj => ?_⟩
  obtain ⟨ao2, c2, hv2, _, hs2⟩ := Sl.shp (Sl.of_own hw (by decide))
  obtain ⟨b2, off2, he2, _, _, _, hc2⟩ := hs2 (by omega)
  simp only [Value.slice.injEq] at hv2
  obtain ⟨rfl, _, rfl⟩ := hv2
  simp only [Option.some.injEq, Addr.mk.injEq, and_true] at he2
  obtain ⟨rfl, rfl⟩ := he2
  rw [Nat.add_assoc]
  refine hc2 _ _ ?_
  rw [h2 j hj]
  exact List.getElem?_eq_getElem hj
/-- The state. -/
structure TIn (M B : Nat) (w : World) (hv : Value) (nh : Nat) (rows : List Value) (T : List Tm) (R : List TmR) (wr : World) : Prop where
  tm : TmIn M B R wr
  eq : R.map TmR.t = T
  had : wr.ownsRow B 35 6 hv nh rows
  below : Below B w wr
  top : B ≤ wr.heap.size
section
variable {M B nh : Nat} {w W w' w2 : World} {hv : Value} {rows : List Value} {T : List Tm} {R : List TmR}
theorem TIn.keep (h : TIn M B w hv nh rows T R W) (hb : Below W.heap.size W w') : TIn M B w hv nh rows T R w' :=
  ⟨h.tm.keep hb, h.eq, own_belowL h.had hb, h.below.trans (hb.mono h.top), Nat.le_trans h.top hb.size⟩
theorem TIn.len (h : TIn M B w hv nh rows T R W) : R.length = T.length := by rw [← h.eq, List.length_map]
theorem TIn.at_ (h : TIn M B w hv nh rows T R W) {a : Nat} (ha : a < R.length) : T[a]'(by rw [← h.len]; exact ha) = R[a].t := by
  have := h.eq; subst this; simp
theorem TmIn.row_grow (h : TmIn M B R W) {a : Nat} (ha : a < R.length) {v' : Value} (hg : W.grownBy w2 R[a].v.ownBlock) {base e k n : Nat} {v : Value} {xs : List Value} (h1 : e ≠ 3) (h2 : e ≠ 30) (hr : W.ownsRow base e k v n xs) :
    (w2.setCell ⟨R[a].p, 2, none⟩ v').ownsRow base e k v n xs := by
  refine own_blk hr fun g hg2 => ?_
  obtain ⟨_, cur, hc⟩ := own_at hr hg2
  have hp : g ≠ R[a].p := fun e2 => by
    have := h.blk a ha
    rw [← e2, hc] at this
    simp only [Option.some.injEq, Obj.cells.injEq] at this
    exact h2 this.2.1
  have ho : some g ≠ R[a].v.ownBlock := fun e2 => by
    obtain ⟨_, cur2, hc2⟩ := own_at (h.own a ha) e2.symm
    rw [hc] at hc2
    simp only [Option.some.injEq, Obj.cells.injEq] at hc2
    exact h1 hc2.2.1
  rw [heap_setCell_other _ _ _ _ hp]
  exact hg.block g (Array.getElem?_eq_some_iff.1 hc).1 ho
theorem TIn.grow (h : TIn M B w hv nh rows T R W) {a : Nat} (ha : a < R.length) (x : Nat) (v' : Value) (hg : W.grownBy w2 R[a].v.ownBlock)
    (hown : w2.ownsRow B 3 1 v' (R[a].t.it.length + 1) (R[a].t.it.map encN ++ [encN x])) (hat : v'.ownBlock = R[a].v.ownBlock ∨ v'.ownBlock = some W.heap.size) :
    TIn M B w hv nh rows (T.set a ⟨R[a].t.nm, R[a].t.ti, R[a].t.it ++ [x]⟩) (R.set a ⟨⟨R[a].t.nm, R[a].t.ti, R[a].t.it ++ [x]⟩, R[a].p, v'⟩) (w2.setCell ⟨R[a].p, 2, none⟩ v') :=
  ⟨h.tm.grow ha x v' hg hown hat, by rw [set_map, h.eq], h.tm.row_grow ha hg (by decide) (by decide) h.had,
    (h.below.grown hg h.top (fun k hk => (World.ownsRow.lt (h.tm.own a ha) k hk).1)).setCell (h.tm.lo a ha) _, by have e : (w2.setCell ⟨R[a].p, 2, none⟩ v').heap.size = w2.heap.size := (by simp [World.setCell]); have := hg.size; have := h.top; omega⟩
theorem TmIn.row_new (h : TmIn M B R W) {ob : Obj} (hg : (W.alloc ob).grownBy w' (some M)) {base e k n : Nat} {v : Value} {xs : List Value} (hr : W.ownsRow base e k v n xs) : w'.ownsRow base e k v n xs := by
  have hb : Below W.heap.size W (W.alloc ob) := (Below.refl _ W).alloc (Nat.le_refl _) _
  have hr2 := own_belowL hr hb
  refine own_blk hr2 fun g hg2 => ?_
  obtain ⟨_, cur, hc⟩ := own_at hr2 hg2
  refine hg.block g (Array.getElem?_eq_some_iff.1 hc).1 (fun e2 => ?_)
  simp only [Option.some.injEq] at e2
  obtain ⟨es, c, ho⟩ := (h.keep hb).obj
  rw [← e2, hc] at ho; cases ho
theorem TIn.growX (h : TIn M B w hv nh rows T R W) {a : Nat} (ha : a < R.length) {x0 : TmR} (hx : R[a] = x0) (x : Nat) (v' : Value) (hg : W.grownBy w2 x0.v.ownBlock)
    (hown : w2.ownsRow B 3 1 v' (x0.t.it.length + 1) (x0.t.it.map encN ++ [encN x])) (hat : v'.ownBlock = x0.v.ownBlock ∨ v'.ownBlock = some W.heap.size) :
    TIn M B w hv nh rows (T.set a ⟨x0.t.nm, x0.t.ti, x0.t.it ++ [x]⟩) (R.set a ⟨⟨x0.t.nm, x0.t.ti, x0.t.it ++ [x]⟩, x0.p, v'⟩) (w2.setCell ⟨x0.p, 2, none⟩ v') := by
  subst hx; exact h.grow ha x v' hg hown hat
theorem TIn.rowX (h : TIn M B w hv nh rows T R W) {a : Nat} (ha : a < R.length) {x0 : TmR} (hx : R[a] = x0) {v' : Value} (hg : W.grownBy w2 x0.v.ownBlock) {base e k n : Nat} {v : Value} {xs : List Value} (h1 : e ≠ 3) (h2 : e ≠ 30) (hr : W.ownsRow base e k v n xs) :
    (w2.setCell ⟨x0.p, 2, none⟩ v').ownsRow base e k v n xs := by
  subst hx; exact h.tm.row_grow ha hg h1 h2 hr
theorem TIn.blkX (h : TIn M B w hv nh rows T R W) {a : Nat} (ha : a < R.length) {x0 : TmR} (hx : R[a] = x0) (hg : W.grownBy w2 x0.v.ownBlock) : w2.heap[x0.p]? = some (.cells (trCells x0) 30 (0, 0)) := by
  subst hx
  exact (hg.block _ (Array.getElem?_eq_some_iff.1 (h.tm.blk a ha)).1 (fun e => (h.tm.own_ne ha (e.symm)).2 a ha rfl)).trans (h.tm.blk a ha)
theorem TIn.new (h : TIn M B w hv nh rows T R W) (q s : ByteArray) (hq : findT q T = none)
    (hm : MapF Tryz.prog 9 w' M (R.length + 1) (fun x => if x = q then some (.pointer (some ⟨W.heap.size, 0, none⟩)) else lookR R x)) (hg : (W.alloc (.cells #[.string q, .string s, .slice none 0 0] 30)).grownBy w' (some M)) (hobj : ∃ es c, w'.heap[M]? = some (.map es c)) :
    TIn M B w hv nh rows (T ++ [⟨q, s, []⟩]) (R ++ [⟨⟨q, s, []⟩, W.heap.size, .slice none 0 0⟩]) w' :=
  ⟨h.tm.new q s (by rw [h.eq]; exact hq) hm hg h.top hobj, by rw [List.map_append, h.eq]; rfl, h.tm.row_new hg h.had,
    (h.below.alloc h.top _).grown hg (by have := h.top; first | omega | (simp; omega)) (fun k hk => by cases hk; exact h.tm.mlo), by have h1 := hg.size; have h2 := h.top; have e : (W.alloc (.cells #[.string q, .string s, .slice none 0 0] 30)).heap.size = W.heap.size + 1 := (by simp); omega⟩
/-- What the map gives. -/
theorem TIn.look_none (h : TIn M B w hv nh rows T R W) {q : ByteArray} (hq : findT q T = none) : lookR R q = none := by unfold lookR; rw [h.eq, hq]; rfl
theorem TIn.look_some (h : TIn M B w hv nh rows T R W) {q : ByteArray} {a : Nat} (hq : findT q T = some a) : ∃ ha : a < R.length, lookR R q = some (.pointer (some ⟨R[a].p, 0, none⟩)) := by
  obtain ⟨h1, _⟩ := findT_some hq
  have ha : a < R.length := by rw [h.len]; exact h1
  refine ⟨ha, ?_⟩
  unfold lookR; rw [h.eq, hq]
  exact congrArg some (ptrR_at ha)
end
end Go.Proofs.YtihdfkcoajpmjaaGreatDoor
namespace Mh
open Go Go.RowKit
set_option linter.unusedVariables false
theorem pickL_all {Q : V → Prop} (h0 : Q V.nil) {X : V} (h : ∀ x ∈ X.its, Q x) (key : ByteArray) : ∀ i, Q (pickL X key i) := by
  intro i
  induction i with
  | zero => exact h0
  | succ i ih =>
    unfold pickL
    split
    · by_cases hi : i < X.its.length
      · rw [List.getD_eq_getElem?_getD, List.getElem?_eq_getElem hi]; exact h _ (List.getElem_mem hi)
      · rw [List.getD_eq_getElem?_getD, List.getElem?_eq_none (by omega)]; exact h0
    · exact ih
theorem atL_all {Q : V → Prop} (h0 : Q V.nil) (hs : ∀ X, Q X → ∀ x ∈ X.its, Q x) : ∀ (st : List St) (X : V), Q X → Q (atL X st)
  | [], X, h => h
  | s :: st, X, h => by
    refine atL_all h0 hs st (X.inL s) ?_
    unfold V.inL
    split
    · exact pickL_all h0 (hs X h) _ _
    · split
      · rename_i h2
        rw [List.getD_eq_getElem?_getD, List.getElem?_eq_getElem h2.2.2]
        exact hs X h _ (List.getElem_mem h2.2.2)
      · exact h0
/-- What a right item has at a route: right, and not more. -/
theorem atR_ok {X : V} (h : X.lfOk) (hn : X.nodes ≤ 1048576) (r : ByteArray) : atR r X = V.nil ∨ ((atR r X).lfOk ∧ (atR r X).nodes ≤ 1048576) :=
  atL_all (Q := fun Z => Z = V.nil ∨ (Z.lfOk ∧ Z.nodes ≤ 1048576)) (.inl rfl) (fun Z hZ x hx => by
    rcases hZ with rfl | ⟨h1, h2⟩
    · simp [V.nil, V.its] at hx
    · have := nodess_mem Z.its x hx
      have := nodes_its Z
      exact .inr ⟨(lfsOk_mem _).1 ((lfOk_iff Z).1 h1).2 x hx, by omega⟩) _ X (.inr ⟨h, hn⟩)
theorem lf1_tx {X : V} (h : X.lf1) (h3 : X.kd = 3) : X.tx.size ≤ 5000 := by
  obtain ⟨_, h⟩ := h
  rw [if_neg (by omega), if_neg (by omega), if_neg (by omega)] at h
  have hg := h.2.2.2
  obtain ⟨k, b, n, t, is, ks⟩ := X
  simp only [V.good, V.good1] at hg
  exact hg.1.2.2.2.1
theorem str_sizes {Z : V} (h : Z = V.nil ∨ (Z.lfOk ∧ Z.nodes ≤ 1048576)) : Z.its.length ≤ 1048576 ∧ ∀ ns, strsV Z = some ns → ns.length ≤ 1048576 ∧ ∀ s ∈ ns, s.size ≤ 5000 := by
  rcases h with rfl | ⟨h1, h2⟩
  · refine ⟨by simp [V.nil, V.its], fun ns e => ?_⟩
    have : strsV V.nil = some [] := rfl
    rw [this] at e; cases e; simp
  · have hl := nodess_len Z.its
    have hi := nodes_its Z
    refine ⟨by omega, fun ns e => ?_⟩
    unfold strsV strsF at e
    split at e
    · cases e; simp
    · split at e
      · rename_i h3
        cases e
        refine ⟨by simp, fun s hs => ?_⟩
        simp only [List.mem_singleton] at hs
        subst hs
        exact lf1_tx ((lfOk_iff Z).1 h1).1 h3
      · split at e
        · split at e
          · rename_i hall
            cases e
            refine ⟨by rw [List.length_map]; omega, fun s hs => ?_⟩
            obtain ⟨x, hx, rfl⟩ := List.mem_map.1 hs
            have h3 := List.all_eq_true.1 hall x hx
            exact lf1_tx ((lfOk_iff x).1 ((lfsOk_mem _).1 ((lfOk_iff Z).1 h1).2 x hx)).1 (of_decide_eq_true h3)
          · cases e
        · cases e
end Mh
