/- Terms in memory: a map from names to pointers, each to a term's block, with a row of numbers of its own; how one is made, how its row grows. No conditions beyond those that each law states. -/
import Derived.Test.YtihdfkcoajpmjaaGreatDoorLtP
import Derived.Test.YtihdfkcoajpmjaaGreatDoorLtF
import Derived.Test.YtihdfkcoajpmjaaGreatDoorMp
import Derived.KernelRfl
namespace Mh
open Go Go.RowKit
set_option linter.unusedVariables false
/-- A term with its block and the slice of its numbers. -/
structure TmR where
  t : Tm
  p : Nat
  v : Value
instance inhTmR : Inhabited TmR := ⟨⟨default, 0, .slice none 0 0⟩⟩
def encN (x : Nat) : Value := .int .i64 (x : Int)
def ptrR (R : List TmR) (a : Nat) : Value := .pointer (some ⟨(R.getD a default).p, 0, none⟩)
def lookR (R : List TmR) (q : ByteArray) : Option Value := (findT q (R.map TmR.t)).map (ptrR R)
theorem getD_at {R : List TmR} {a : Nat} (h : a < R.length) : R.getD a default = R[a] := by simp [List.getD_eq_getElem?_getD, h]
theorem ptrR_at {R : List TmR} {a : Nat} (h : a < R.length) : ptrR R a = .pointer (some ⟨R[a].p, 0, none⟩) := by unfold ptrR; rw [getD_at h]
theorem findT_snoc_new {q : ByteArray} {T : List Tm} {t : Tm} (h : findT q T = none) (ht : t.nm = q) : findT q (T ++ [t]) = some T.length := by
  induction T with
  | nil => simp [findT, ht]
  | cons x T ih =>
    unfold findT at h
    by_cases e : x.nm = q
    · rw [if_pos e] at h; cases h
    · rw [if_neg e] at h
      have h2 : findT q T = none := by simpa using h
      show (if x.nm = q then some 0 else (findT q (T ++ [t])).map (· + 1)) = _
      rw [if_neg e, ih h2]; rfl
theorem findT_snoc_other {q : ByteArray} {T : List Tm} {t : Tm} (ht : t.nm ≠ q) : findT q (T ++ [t]) = findT q T := by
  induction T with
  | nil => simp [findT, ht]
  | cons x T ih =>
    show (if x.nm = q then some 0 else (findT q (T ++ [t])).map (· + 1)) = if x.nm = q then some 0 else (findT q T).map (· + 1)
    rw [ih]
theorem findT_set {q : ByteArray} {T : List Tm} {a : Nat} {t : Tm} (ha : a < T.length) (ht : t.nm = T[a].nm) : findT q (T.set a t) = findT q T := by
  induction T generalizing a with
  | nil => simp at ha
  | cons x T ih =>
    cases a with
    | zero =>
      show (if t.nm = q then some 0 else _) = if x.nm = q then some 0 else _
      have : t.nm = x.nm := ht
      rw [this]
    | succ a =>
      show (if x.nm = q then some 0 else (findT q (T.set a t)).map (· + 1)) = if x.nm = q then some 0 else (findT q T).map (· + 1)
      rw [ih (by simpa using ha) (by simpa using ht)]
theorem own_blk {w w' : World} {base e k : Nat} {v : Value} {n : Nat} {xs : List Value} (h : w.ownsRow base e k v n xs) (hb : ∀ g, v.ownBlock = some g → w'.heap[g]? = w.heap[g]?) : w'.ownsRow base e k v n xs := by
  refine ⟨h.1, ?_⟩
  rcases h.2 with h2 | ⟨g, cap, cur, rfl, hbg, hg, h4⟩
  · exact .inl h2
  · exact .inr ⟨g, cap, cur, rfl, hbg, (hb g rfl).trans hg, h4⟩
theorem own_at {w : World} {base e k : Nat} {v : Value} {n : Nat} {xs : List Value} (h : w.ownsRow base e k v n xs) {g : Nat} (hg : v.ownBlock = some g) : base ≤ g ∧ ∃ cur, w.heap[g]? = some (.cells cur e (0, 0)) := by
  rcases h.2 with ⟨rfl, _⟩ | ⟨g', cap, cur, rfl, hbg, hgg, h4⟩
  · simp [Value.ownBlock] at hg
  · simp only [Value.ownBlock, Option.some.injEq] at hg
    subst hg
    exact ⟨hbg, cur, hgg⟩
end Mh
namespace Go.Proofs.YtihdfkcoajpmjaaGreatDoor
open Go.RowKit Mh
set_option linter.unusedVariables false
def trCells (r : TmR) : Array Value := #[.string r.t.nm, .string r.t.ti, r.v]
/-- The terms that lie in memory, over block B. -/
structure TmIn (M B : Nat) (R : List TmR) (w : World) : Prop where
  blk : ∀ a (h : a < R.length), w.heap[R[a].p]? = some (.cells (trCells R[a]) 30 (0, 0))
  own : ∀ a (h : a < R.length), w.ownsRow B 3 1 R[a].v R[a].t.it.length (R[a].t.it.map encN)
  ndp : ∀ a b (h : a < R.length) (h' : b < R.length), a ≠ b → R[a].p ≠ R[b].p
  ndg : ∀ a b (h : a < R.length) (h' : b < R.length), a ≠ b → ∀ g, R[a].v.ownBlock = some g → R[b].v.ownBlock ≠ some g
  lo : ∀ a (h : a < R.length), B ≤ R[a].p
  map : MapF Tryz.prog 9 w M R.length (lookR R)
  mlo : B ≤ M
  obj : ∃ es c, w.heap[M]? = some (.map es c)
theorem TmIn.keep {M B : Nat} {R : List TmR} {w w' : World} (h : TmIn M B R w) (hb : Below w.heap.size w w') : TmIn M B R w' := by
  have lt : ∀ a (ha : a < R.length), R[a].p < w.heap.size := fun a ha => (Array.getElem?_eq_some_iff.1 (h.blk a ha)).1
  refine ⟨fun a ha => (hb.block _ (lt a ha)).trans (h.blk a ha), fun a ha => own_belowL (h.own a ha) hb, h.ndp, h.ndg, h.lo, h.map.below hb, h.mlo, ?_⟩
  obtain ⟨es, c, ho⟩ := h.obj
  exact ⟨es, c, (hb.block _ (Array.getElem?_eq_some_iff.1 ho).1).trans ho⟩
theorem TmIn.start (w : World) : TmIn w.heap.size w.heap.size [] (w.alloc (.map #[] 0)) :=
  ⟨fun a h => by simp at h, fun a h => by simp at h, fun a b h => by simp at h, fun a b h => by simp at h, fun a h => by simp at h, mapF_made w Tryz.prog 9, Nat.le_refl _, ⟨_, _, heap_alloc_new _ _⟩⟩
theorem tags_ne : (30 : Nat) ≠ 3 := by decide
/-- A term's own block is no term's block and no map. -/
theorem TmIn.own_ne {M B : Nat} {R : List TmR} {w : World} (h : TmIn M B R w) {a g : Nat} (ha : a < R.length) (hg : R[a].v.ownBlock = some g) : g ≠ M ∧ ∀ b (hb : b < R.length), g ≠ R[b].p := by
  obtain ⟨_, cur, hc⟩ := own_at (h.own a ha) hg
  refine ⟨fun e => ?_, fun b hb e => ?_⟩
  · obtain ⟨es, c, ho⟩ := h.obj
    rw [← e, hc] at ho; cases ho
  · have := h.blk b hb
    rw [← e, hc] at this
    simp only [Option.some.injEq, Obj.cells.injEq] at this
    exact tags_ne this.2.1.symm
theorem TmIn.p_ne {M B : Nat} {R : List TmR} {w : World} (h : TmIn M B R w) {a : Nat} (ha : a < R.length) : R[a].p ≠ M := fun e => by
  obtain ⟨es, c, ho⟩ := h.obj
  have := h.blk a ha
  rw [e, ho] at this; cases this
/-- A new term. -/
theorem TmIn.new {M B : Nat} {R : List TmR} {w w' : World} (h : TmIn M B R w) (q s : ByteArray) (hq : findT q (R.map TmR.t) = none)
    (hm : MapF Tryz.prog 9 w' M (R.length + 1) (fun x => if x = q then some (.pointer (some ⟨w.heap.size, 0, none⟩)) else lookR R x)) (hg : (w.alloc (.cells #[.string q, .string s, .slice none 0 0] 30)).grownBy w' (some M)) (hB : B ≤ w.heap.size) (hobj : ∃ es c, w'.heap[M]? = some (.map es c)) :
    TmIn M B (R ++ [⟨⟨q, s, []⟩, w.heap.size, .slice none 0 0⟩]) w' := by
  have hb : Below w.heap.size w (w.alloc (.cells #[.string q, .string s, .slice none 0 0] 30)) := (Below.refl _ w).alloc (Nat.le_refl _) _
  have hk := h.keep hb
  have lt : ∀ a (ha : a < R.length), R[a].p < w.heap.size := fun a ha => (Array.getElem?_eq_some_iff.1 (h.blk a ha)).1
  have lt1 : ∀ a (ha : a < R.length), R[a].p < (w.alloc (.cells #[.string q, .string s, .slice none 0 0] 30)).heap.size := fun a ha => (Array.getElem?_eq_some_iff.1 (hk.blk a ha)).1
  have hml := h.map.lt
  have ix : ∀ a (ha : a < (R ++ [(⟨⟨q, s, []⟩, w.heap.size, .slice none 0 0⟩ : TmR)]).length), (∃ h' : a < R.length, (R ++ [(⟨⟨q, s, []⟩, w.heap.size, .slice none 0 0⟩ : TmR)])[a] = R[a]) ∨ (a = R.length ∧ (R ++ [(⟨⟨q, s, []⟩, w.heap.size, .slice none 0 0⟩ : TmR)])[a] = ⟨⟨q, s, []⟩, w.heap.size, .slice none 0 0⟩) := fun a ha => by
    by_cases e : a < R.length
    · exact .inl ⟨e, List.getElem_append_left e⟩
    · simp only [List.length_append, List.length_singleton] at ha
      have e2 : a = R.length := by omega
      subst e2
      exact .inr ⟨rfl, by simp⟩
  refine ⟨fun a ha => ?_, fun a ha => ?_, fun a b ha hb2 hab => ?_, fun a b ha hb2 hab g hg2 => ?_, fun a ha => ?_, ?_, h.mlo, hobj⟩
  · rcases ix a ha with ⟨h', e⟩ | ⟨rfl, e⟩
    · rw [e]
      exact (hg.block _ (lt1 a h') (fun e2 => h.p_ne h' (by simpa using e2))).trans (hk.blk a h')
    · rw [e]
      exact (hg.block _ (by simp) (fun e2 => by simp at e2; omega)).trans (heap_alloc_new _ _)
  · rcases ix a ha with ⟨h', e⟩ | ⟨rfl, e⟩
    · rw [e]
      refine own_blk (hk.own a h') fun g hg2 => hg.block g ?_ (fun e2 => (h.own_ne h' hg2).1 (by simpa using e2))
      obtain ⟨_, cur, hc⟩ := own_at (hk.own a h') hg2
      exact (Array.getElem?_eq_some_iff.1 hc).1
    · rw [e]; exact World.ownsRow_nil _ _ _ _
  · rcases ix a ha with ⟨h1, e⟩ | ⟨rfl, e⟩ <;> rcases ix b hb2 with ⟨h2, e2⟩ | ⟨rfl, e2⟩
    · rw [e, e2]; exact h.ndp a b h1 h2 hab
    · rw [e, e2]; have := lt a h1; show R[a].p ≠ w.heap.size; omega
    · rw [e, e2]; have := lt b h2; show w.heap.size ≠ R[b].p; omega
    · exact absurd rfl hab
  · rcases ix a ha with ⟨h1, e⟩ | ⟨rfl, e⟩ <;> rcases ix b hb2 with ⟨h2, e2⟩ | ⟨rfl, e2⟩
    · rw [e] at hg2; rw [e2]; exact h.ndg a b h1 h2 hab g hg2
    · rw [e2]; simp [Value.ownBlock]
    · rw [e] at hg2; simp [Value.ownBlock] at hg2
    · exact absurd rfl hab
  · rcases ix a ha with ⟨h', e⟩ | ⟨rfl, e⟩
    · rw [e]; exact h.lo a h'
    · rw [e]; exact hB
  · have hl : (R ++ [(⟨⟨q, s, []⟩, w.heap.size, .slice none 0 0⟩ : TmR)]).length = R.length + 1 := by simp
    rw [hl]
    refine hm.ext fun x _ => ?_
    show lookR _ x = if x = q then some (.pointer (some ⟨w.heap.size, 0, none⟩)) else lookR R x
    unfold lookR
    rw [List.map_append]
    by_cases e : x = q
    · subst e
      rw [if_pos rfl]
      show (findT x (R.map TmR.t ++ [(⟨x, s, []⟩ : Tm)])).map _ = _
      rw [findT_snoc_new hq rfl]
      simp [ptrR]
    · rw [if_neg e]
      show (findT x (R.map TmR.t ++ [(⟨q, s, []⟩ : Tm)])).map _ = _
      rw [findT_snoc_other (fun e2 => e e2.symm)]
      cases hf : findT x (R.map TmR.t) with
      | none => rfl
      | some a =>
        obtain ⟨ha, _⟩ := findT_some hf
        have ha' : a < R.length := by simpa using ha
        show some (ptrR _ a) = some (ptrR R a)
        rw [ptrR_at ha', ptrR_at (by simp; omega), List.getElem_append_left ha']
theorem set_map (R : List TmR) (a : Nat) (r : TmR) : (R.set a r).map TmR.t = (R.map TmR.t).set a r.t := by rw [List.map_set]
theorem lookR_set {R : List TmR} {a : Nat} (ha : a < R.length) (r : TmR) (hn : r.t.nm = R[a].t.nm) (hp : r.p = R[a].p) (q : ByteArray) : lookR (R.set a r) q = lookR R q := by
  unfold lookR
  rw [set_map, findT_set (by simpa using ha) (by simpa using hn)]
  cases hf : findT q (R.map TmR.t) with
  | none => rfl
  | some b =>
    obtain ⟨hb, _⟩ := findT_some hf
    have hb' : b < R.length := by simpa using hb
    show some (ptrR _ b) = some (ptrR R b)
    rw [ptrR_at hb', ptrR_at (by simpa using hb'), List.getElem_set]
    split
    · rename_i e; subst e; rw [hp]
    · rfl
/-- One number more in a term's row. -/
theorem TmIn.grow {M B : Nat} {R : List TmR} {W w2 : World} (h : TmIn M B R W) {a : Nat} (ha : a < R.length) (x : Nat) (v' : Value) (hg : W.grownBy w2 R[a].v.ownBlock)
    (hown : w2.ownsRow B 3 1 v' (R[a].t.it.length + 1) (R[a].t.it.map encN ++ [encN x])) (hat : v'.ownBlock = R[a].v.ownBlock ∨ v'.ownBlock = some W.heap.size) :
    TmIn M B (R.set a ⟨⟨R[a].t.nm, R[a].t.ti, R[a].t.it ++ [x]⟩, R[a].p, v'⟩) (w2.setCell ⟨R[a].p, 2, none⟩ v') := by
  have lt : ∀ b (hb : b < R.length), R[b].p < W.heap.size := fun b hb => (Array.getElem?_eq_some_iff.1 (h.blk b hb)).1
  have pk : ∀ b (hb : b < R.length), w2.heap[R[b].p]? = some (.cells (trCells R[b]) 30 (0, 0)) := fun b hb =>
    (hg.block _ (lt b hb) (fun e => (h.own_ne ha (e.symm)).2 b hb rfl)).trans (h.blk b hb)
  have vne : v'.ownBlock ≠ some R[a].p := fun e => by
    rcases hat with e2 | e2
    · rw [e] at e2; exact (h.own_ne ha e2.symm).2 a ha rfl
    · rw [e] at e2; simp only [Option.some.injEq] at e2; have := lt a ha; omega
  have ix : ∀ b (hb : b < (R.set a (⟨⟨R[a].t.nm, R[a].t.ti, R[a].t.it ++ [x]⟩, R[a].p, v'⟩ : TmR)).length), (b = a ∧ (R.set a (⟨⟨R[a].t.nm, R[a].t.ti, R[a].t.it ++ [x]⟩, R[a].p, v'⟩ : TmR))[b] = ⟨⟨R[a].t.nm, R[a].t.ti, R[a].t.it ++ [x]⟩, R[a].p, v'⟩) ∨ (b ≠ a ∧ ∃ h' : b < R.length, (R.set a (⟨⟨R[a].t.nm, R[a].t.ti, R[a].t.it ++ [x]⟩, R[a].p, v'⟩ : TmR))[b] = R[b]) := fun b hb => by
    by_cases e : b = a
    · subst e; exact .inl ⟨rfl, by simp⟩
    · exact .inr ⟨e, by simpa using hb, List.getElem_set_ne (fun e2 => e e2.symm) _⟩
  have okb : ∀ b (hb : b < R.length), b ≠ a → (w2.setCell ⟨R[a].p, 2, none⟩ v').ownsRow B 3 1 R[b].v R[b].t.it.length (R[b].t.it.map encN) := fun b hb hne => by
    refine own_blk (h.own b hb) fun g hg2 => ?_
    rw [heap_setCell_other _ _ _ _ ((h.own_ne hb hg2).2 a ha)]
    obtain ⟨_, cur, hc⟩ := own_at (h.own b hb) hg2
    exact hg.block g (Array.getElem?_eq_some_iff.1 hc).1 (fun e => h.ndg a b ha hb (fun e2 => hne e2.symm) g e.symm hg2)
  refine ⟨fun b hb => ?_, fun b hb => ?_, fun b c hb hc hbc => ?_, fun b c hb hc hbc g hg2 => ?_, fun b hb => ?_, ?_, h.mlo, ?_⟩
  · rcases ix b hb with ⟨rfl, e⟩ | ⟨hne, h', e⟩
    · rw [e, heap_setCell_same _ _ 2 _ _ _ (pk b ha)]; rfl
    · rw [e, heap_setCell_other _ _ _ _ (h.ndp b a h' ha hne)]; exact pk b h'
  · rcases ix b hb with ⟨rfl, e⟩ | ⟨hne, h', e⟩
    · rw [e]
      have h2 : (w2.setCell ⟨R[b].p, 2, none⟩ v').ownsRow B 3 1 v' (R[b].t.it.length + 1) (R[b].t.it.map encN ++ [encN x]) :=
        own_blk hown fun g hg2 => heap_setCell_other _ _ _ _ (fun e2 => vne (by rw [hg2, e2]))
      simpa using h2
    · rw [e]; exact okb b h' hne
  · rcases ix b hb with ⟨rfl, e⟩ | ⟨h1, h1', e⟩ <;> rcases ix c hc with ⟨rfl, e2⟩ | ⟨h2, h2', e2⟩
    · exact absurd rfl hbc
    · rw [e, e2]; exact h.ndp b c ha h2' (fun x => h2 x.symm)
    · rw [e, e2]; exact h.ndp b c h1' ha h1
    · rw [e, e2]; exact h.ndp b c h1' h2' hbc
  · have new : ∀ k (hk : k < R.length), R[k].v.ownBlock ≠ some W.heap.size := fun k hk e => by
      obtain ⟨_, cur, hcu⟩ := own_at (h.own k hk) e
      have := (Array.getElem?_eq_some_iff.1 hcu).1
      omega
    rcases ix b hb with ⟨rfl, e⟩ | ⟨h1, h1', e⟩ <;> rcases ix c hc with ⟨rfl, e2⟩ | ⟨h2, h2', e2⟩
    · exact absurd rfl hbc
    · rw [e] at hg2; rw [e2]
      rcases hat with q | q
      · rw [q] at hg2; exact h.ndg b c ha h2' (fun x => h2 x.symm) g hg2
      · rw [q] at hg2; cases hg2; exact new c h2'
    · rw [e] at hg2; rw [e2]
      show v'.ownBlock ≠ some g
      rcases hat with q | q
      · rw [q]; exact h.ndg b c h1' ha h1 g hg2
      · rw [q]; intro x; cases x; exact new b h1' hg2
    · rw [e] at hg2; rw [e2]; exact h.ndg b c h1' h2' hbc g hg2
  · rcases ix b hb with ⟨rfl, e⟩ | ⟨hne, h', e⟩
    · rw [e]; exact h.lo b ha
    · rw [e]; exact h.lo b h'
  · have hM : (w2.setCell ⟨R[a].p, 2, none⟩ v').heap[M]? = W.heap[M]? := by
      rw [heap_setCell_other _ _ _ _ (fun e => h.p_ne ha e.symm)]
      exact hg.block M h.map.lt (fun e => (h.own_ne ha e.symm).1 rfl)
    rw [List.length_set]
    exact (h.map.block hM).ext fun q _ => lookR_set ha ⟨⟨R[a].t.nm, R[a].t.ti, R[a].t.it ++ [x]⟩, R[a].p, v'⟩ rfl rfl q
  · obtain ⟨es, c, ho⟩ := h.obj
    refine ⟨es, c, ?_⟩
    rw [heap_setCell_other _ _ _ _ (fun e => h.p_ne ha e.symm), hg.block M h.map.lt (fun e => (h.own_ne ha e.symm).1 rfl)]
    exact ho
end Go.Proofs.YtihdfkcoajpmjaaGreatDoor
