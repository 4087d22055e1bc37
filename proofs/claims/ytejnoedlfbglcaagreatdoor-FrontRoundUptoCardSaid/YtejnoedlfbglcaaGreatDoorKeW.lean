/- What stands in put: the value that is put together, its two rows owned. No walk. -/
import Derived.Test.YtejnoedlfbglcaaGreatDoorKeV0
namespace Go.Proofs.YtejnoedlfbglcaaGreatDoor
open Go.RowKit Mh
set_option linter.unusedVariables false

/-- A sub-slice from the start. -/
theorem _root_.Mh.Sl.head {k n c : Nat} {w : World} {a : Option Addr} {xs : List Value} (h : Sl k w (.slice a n c) n xs) (m : Nat) (hm : m ≤ n) : Sl k w (sliced a 0 m c k) m (xs.take (m * k)) := by
  unfold sliced
  by_cases h0 : m = 0
  · subst h0
    refine ⟨by simp, .inl ⟨rfl, ?_⟩⟩
    exact ⟨_, _, rfl⟩
  rcases h.2 with ⟨rfl, _⟩ | ⟨b, off, c', he, h1, h2, h3, h4, h5⟩
  · omega
  · simp only [Value.slice.injEq, true_and] at he
    obtain ⟨rfl, rfl⟩ := he
    have := h.sub 0 m c (by omega) (by omega) h3
    simp only [Nat.zero_mul, Nat.add_zero, List.drop_zero] at this
    rw [if_neg (by omega), Option.map_some, Addr.add_lit, Nat.zero_mul, Nat.add_zero]
    exact this
/-- A sub-slice to the end. -/
theorem _root_.Mh.Sl.rest {k n c : Nat} {w : World} {a : Option Addr} {xs : List Value} (h : Sl k w (.slice a n c) n xs) (m : Nat) (hm : m ≤ n) : Sl k w (sliced a m n c k) (n - m) (xs.drop (m * k)) := by
  unfold sliced
  have hx := h.1
  by_cases h0 : n - m = 0
  · refine ⟨?_, .inl ⟨h0, ?_⟩⟩
    · rw [List.length_drop, hx, h0, Nat.zero_mul]
      have : n = m := by omega
      subst this; omega
    · exact ⟨_, _, by rw [h0]⟩
  rcases h.2 with ⟨rfl, _⟩ | ⟨b, off, c', he, h1, h2, h3, h4, h5⟩
  · omega
  · simp only [Value.slice.injEq, true_and] at he
    obtain ⟨rfl, rfl⟩ := he
    have := h.sub m (n - m) (c - m) (by omega) (by omega) (by omega)
    rw [if_neg (by omega)]
    have e : (xs.drop (m * k)).take ((n - m) * k) = xs.drop (m * k) := by
      refine List.take_of_length_le ?_
      rw [List.length_drop, hx, Nat.sub_mul]; exact Nat.le_refl _
    rw [e] at this
    rw [Option.map_some, Addr.add_lit]
    exact this
theorem row_ne {w : World} {base e e' k k' n n' : Nat} {v v' : Value} {xs xs' : List Value} (h : w.ownsRow base e k v n xs) (h' : w.ownsRow base e' k' v' n' xs') (he : e ≠ e') : v.ownBlock = none ∨ v.ownBlock ≠ v'.ownBlock := by
  rcases h.2 with ⟨rfl, _⟩ | ⟨g, cap, cur, rfl, _, hg, _⟩
  · exact .inl rfl
  · refine .inr fun e1 => ?_
    rcases h'.2 with ⟨rfl, _⟩ | ⟨g', cap', cur', rfl, _, hg', _⟩
    · simp [Value.ownBlock] at e1
    · simp only [Value.ownBlock, Option.some.injEq] at e1
      subst e1
      rw [hg] at hg'
      simp only [Option.some.injEq, Obj.cells.injEq] at hg'
      exact he hg'.2.1
/-- What is hidden in put. -/
def putS (S : Nat → Bool) (w : World) (O : Nat) (kv iv : Value) (k : Nat) : Bool := own1 (own1 (fun k => S k || decide (k = w.heap.size ∨ k = w.heap.size + 1 ∨ k = w.heap.size + 2 ∨ k = O)) kv) iv k
theorem putS_false {S : Nat → Bool} {w : World} {O : Nat} {kv iv : Value} {k : Nat} : putS S w O kv iv k = false ↔ S k = false ∧ k ≠ w.heap.size ∧ k ≠ w.heap.size + 1 ∧ k ≠ w.heap.size + 2 ∧ k ≠ O ∧ kv.ownBlock ≠ some k ∧ iv.ownBlock ≠ some k := by
  unfold putS
  rw [own1_false, own1_false]
  simp only [Bool.or_eq_false_iff, decide_eq_false_iff_not, not_or]
  constructor
  · rintro ⟨⟨⟨a, b, c, d, e⟩, f⟩, g⟩; exact ⟨a, b, c, d, e, f, g⟩
  · rintro ⟨a, b, c, d, e, f, g⟩; exact ⟨⟨⟨a, b, c, d, e⟩, f⟩, g⟩
structure PutG (S : Nat → Bool) (T X : V) (ia : Option Addr) (ic : Nat) (ka : Option Addr) (kc : Nat) (xa : Option Addr) (xc : Nat) (xk : Option Addr) (xkc : Nat) (trows : List Value) (w : World) (O : Nat)
    (W : World) (kv iv sk si : Value) (kl : List ByteArray) (il : List V) (rows : List Value) : Prop where
  keys : W.ownsRow (w.heap.size + 3) 9 1 kv kl.length (kl.map Value.string)
  items : W.ownsRow (w.heap.size + 3) 29 6 iv il.length rows
  kne : kv.ownBlock ≠ some O
  ine : iv.ownBlock ≠ some O
  at_ : VsAt (veil (putS S w O kv iv) W) il rows
  bx : W.heap[O]? = some (.cells #[.int .i64 6, .bool false, .int .i64 0, .string ⟨#[]⟩, si, sk] 29 (0, 0))
  bt : W.heap[w.heap.size]? = some (box6 T ia ic ka kc)
  bX : W.heap[w.heap.size + 1]? = some (box6 X xa xc xk xkc)
  b0 : W.heap[w.heap.size + 2]? = some box0
  tk : Ss (veil (putS S w O kv iv) W) (.slice ka T.kys.length kc) T.kys
  ti : Sl 6 (veil (putS S w O kv iv) W) (.slice ia T.its.length ic) T.its.length trows
  tv : VsAt (veil (putS S w O kv iv) W) T.its trows
  x : VAt (veil (putS S w O kv iv) W) X (vcs X xa xc xk xkc)
  below : Below w.heap.size w W
  lo : w.heap.size + 3 ≤ O
  hi : O < W.heap.size
section
variable {S : Nat → Bool} {T X : V} {ia ka xa xk : Option Addr} {ic kc xc xkc O : Nat} {trows rows : List Value} {w W W' : World} {kv iv sk si : Value} {kl : List ByteArray} {il : List V}
/-- Blocks that put has not made or turned are as they were. -/
theorem PutG.move (h : PutG S T X ia ic ka kc xa xc xk xkc trows w O W kv iv sk si kl il rows) {kv' iv' sk' si' : Value} {kl' : List ByteArray} {il' : List V} {rows' : List Value}
    (hs : W.heap.size ≤ W'.heap.size) (hos : W'.os = W.os) (htape : W'.tape = W.tape) (hout : W'.output = W.output)
    (hb : ∀ k, k < W.heap.size → k ≠ O → kv.ownBlock ≠ some k → iv.ownBlock ≠ some k → W'.heap[k]? = W.heap[k]?)
    (hk : kv'.ownBlock = kv.ownBlock ∨ ∃ g, kv'.ownBlock = some g ∧ W.heap.size ≤ g) (hi : iv'.ownBlock = iv.ownBlock ∨ ∃ g, iv'.ownBlock = some g ∧ W.heap.size ≤ g)
    (hkeys : W'.ownsRow (w.heap.size + 3) 9 1 kv' kl'.length (kl'.map Value.string)) (hitems : W'.ownsRow (w.heap.size + 3) 29 6 iv' il'.length rows')
    (hat : VsAt (veil (putS S w O kv iv) W) il' rows')
    (hbx : W'.heap[O]? = some (.cells #[.int .i64 6, .bool false, .int .i64 0, .string ⟨#[]⟩, si', sk'] 29 (0, 0))) :
    PutG S T X ia ic ka kc xa xc xk xkc trows w O W' kv' iv' sk' si' kl' il' rows' := by
  have hK : Keeps (veil (putS S w O kv iv) W) (veil (putS S w O kv' iv') W') := by
    refine Keeps.veils hs fun k hk1 hs1 => ?_
    rw [putS_false] at hs1 ⊢
    obtain ⟨a, b, c, d, e, f, g⟩ := hs1
    refine ⟨⟨a, b, c, d, e, ?_, ?_⟩, hb k hk1 e f g⟩
    · rcases hk with h1 | ⟨g', h1, h2⟩
      · rw [h1]; exact f
      · rw [h1]; simp; omega
    · rcases hi with h1 | ⟨g', h1, h2⟩
      · rw [h1]; exact g
      · rw [h1]; simp; omega
  have hlo := h.lo
  have hhi := h.hi
  have hkl := h.keys.lt
  have hil := h.items.lt
  have hold : ∀ k, k < w.heap.size + 3 → W'.heap[k]? = W.heap[k]? := fun k hk => hb k (by omega) (by omega) (fun e => by have := (hkl k e).1; omega) (fun e => by have := (hil k e).1; omega)
  refine ⟨hkeys, hitems, ?_, ?_, hat.keeps hK, hbx, (hold _ (by omega)).trans h.bt, (hold _ (by omega)).trans h.bX, (hold _ (by omega)).trans h.b0, h.tk.keeps hK, h.ti.keeps hK, h.tv.keeps hK, h.x.keeps hK, ?_, hlo, by omega⟩
  · rcases hk with h1 | ⟨g', h1, h2⟩
    · rw [h1]; exact h.kne
    · rw [h1]; simp; omega
  · rcases hi with h1 | ⟨g', h1, h2⟩
    · rw [h1]; exact h.ine
    · rw [h1]; simp; omega
  · exact ⟨hos.trans h.below.os, htape.trans h.below.tape, hout.trans h.below.output, Nat.le_trans h.below.size hs, fun k hk => (hold k (by omega)).trans (h.below.block k hk)⟩
/-- Old blocks as they were. -/
theorem PutG.on (h : PutG S T X ia ic ka kc xa xc xk xkc trows w O W kv iv sk si kl il rows) (hb : Below W.heap.size W W') : PutG S T X ia ic ka kc xa xc xk xkc trows w O W' kv iv sk si kl il rows :=
  h.move hb.size hb.os hb.tape hb.output (fun k hk _ _ _ => hb.block k hk) (.inl rfl) (.inl rfl) (own_below h.keys hb) (own_below h.items hb) h.at_ ((hb.block O h.hi).trans h.bx)
/-- Keys appended. -/
theorem PutG.keysUp (h : PutG S T X ia ic ka kc xa xc xk xkc trows w O W kv iv sk si kl il rows) {kv' : Value} {kl' : List ByteArray} (hg : W.grownBy W' kv.ownBlock) (hat : kv'.ownBlock = kv.ownBlock ∨ kv'.ownBlock = some W.heap.size)
    (hown : W'.ownsRow (w.heap.size + 3) 9 1 kv' kl'.length (kl'.map Value.string)) : PutG S T X ia ic ka kc xa xc xk xkc trows w O W' kv' iv sk si kl' il rows :=
  h.move hg.size hg.os hg.tape hg.output (fun k hk _ hf _ => hg.block k hk (fun e => hf e.symm)) (hat.imp id fun e => ⟨_, e, Nat.le_refl _⟩) (.inl rfl) hown
    (h.items.kept hg (row_ne h.items h.keys (by decide))) h.at_ ((hg.block O h.hi (fun e => h.kne e.symm)).trans h.bx)
/-- Items appended. -/
theorem PutG.itemsUp (h : PutG S T X ia ic ka kc xa xc xk xkc trows w O W kv iv sk si kl il rows) {iv' : Value} {il' : List V} {rows' : List Value} (hg : W.grownBy W' iv.ownBlock) (hat : iv'.ownBlock = iv.ownBlock ∨ iv'.ownBlock = some W.heap.size)
    (hown : W'.ownsRow (w.heap.size + 3) 29 6 iv' il'.length rows') (hV : VsAt (veil (putS S w O kv iv) W) il' rows') : PutG S T X ia ic ka kc xa xc xk xkc trows w O W' kv iv' sk si kl il' rows' :=
  h.move hg.size hg.os hg.tape hg.output (fun k hk _ _ hf => hg.block k hk (fun e => hf e.symm)) (.inl rfl) (hat.imp id fun e => ⟨_, e, Nat.le_refl _⟩) 
    (h.keys.kept hg (row_ne h.keys h.items (by decide))) hown hV ((hg.block O h.hi (fun e => h.ine e.symm)).trans h.bx)
theorem own_setNe {w : World} {base e k n b o : Nat} {v u : Value} {xs : List Value} (h : w.ownsRow base e k v n xs) (hb : v.ownBlock ≠ some b) : (w.setCell ⟨b, o, none⟩ u).ownsRow base e k v n xs := by
  refine ⟨h.1, ?_⟩
  rcases h.2 with h2 | ⟨g, cap, cur, rfl, hbg, hg, h4⟩
  · exact .inl h2
  · exact .inr ⟨g, cap, cur, rfl, hbg, (heap_setCell_other w ⟨b, o, none⟩ g u (by rintro rfl; exact hb rfl)).trans hg, h4⟩
theorem PutG.storeK (h : PutG S T X ia ic ka kc xa xc xk xkc trows w O W kv iv sk si kl il rows) (u : Value) : PutG S T X ia ic ka kc xa xc xk xkc trows w O (W.setCell ⟨O, 5, none⟩ u) kv iv u si kl il rows :=
  h.move (by simp) rfl rfl rfl (fun k hk hne _ _ => heap_setCell_other _ _ _ _ hne) (.inl rfl) (.inl rfl) (own_setNe h.keys h.kne) (own_setNe h.items h.ine) h.at_ (heap_setCell_same _ _ 5 _ _ _ h.bx)
theorem PutG.storeI (h : PutG S T X ia ic ka kc xa xc xk xkc trows w O W kv iv sk si kl il rows) (u : Value) : PutG S T X ia ic ka kc xa xc xk xkc trows w O (W.setCell ⟨O, 4, none⟩ u) kv iv sk u kl il rows :=
  h.move (by simp) rfl rfl rfl (fun k hk hne _ _ => heap_setCell_other _ _ _ _ hne) (.inl rfl) (.inl rfl) (own_setNe h.keys h.kne) (own_setNe h.items h.ine) h.at_ (heap_setCell_same _ _ 4 _ _ _ h.bx)
theorem PutG.own_k (h : PutG S T X ia ic ka kc xa xc xk xkc trows w O W kv iv sk si kl il rows) {n : Nat} (hn : kl.length = n) : W.ownsRow (w.heap.size + 3) 9 1 kv n (kl.map Value.string) := by subst hn; exact h.keys
theorem PutG.own_i (h : PutG S T X ia ic ka kc xa xc xk xkc trows w O W kv iv sk si kl il rows) {n : Nat} (hn : il.length = n) : W.ownsRow (w.heap.size + 3) 29 6 iv n rows := by subst hn; exact h.items
theorem PutG.more (h : PutG S T X ia ic ka kc xa xc xk xkc trows w O W kv iv sk si kl il rows) : VsAt (veil (putS S w O kv iv) W) (il ++ [X]) (rows ++ vcs X xa xc xk xkc) := h.at_.append (VsAt.one h.x)
theorem PutG.done (h : PutG S T X ia ic ka kc xa xc xk xkc trows w O W kv iv sk si kl il rows) (hS : ∀ k, w.heap.size ≤ k → S k = false) (hk : ∀ s ∈ kl, s.size ≤ maxLen) (a b c d e f : Value) :
    VAt (veil S (put6 W (w.heap.size + 2) a b c d e f)) (.mk 6 false 0 ⟨#[]⟩ il kl) [.int .i64 6, .bool false, .int .i64 0, .string ⟨#[]⟩, iv, kv] := by
  have hK : Keeps (veil (putS S w O kv iv) W) (veil S (put6 W (w.heap.size + 2) a b c d e f)) := by
    refine Keeps.veils (by rw [put6_size]; exact Nat.le_refl _) fun k hk1 hs1 => ?_
    rw [putS_false] at hs1
    exact ⟨hs1.1, put6_other hs1.2.2.2.1⟩
  exact VAt.made (X := .mk 6 false 0 ⟨#[]⟩ il kl) rfl rfl (Nat.zero_le _) ⟨Sl.of_own_veil (own_put6Low h.keys (by omega)) (by decide) fun b hb => hS b (by omega), hk⟩ (Sl.of_own_veil (own_put6Low h.items (by omega)) (by decide) fun b hb => hS b (by omega)) (h.at_.keeps hK)
end
end Go.Proofs.YtejnoedlfbglcaaGreatDoor
