/- conf.remove: what stands in it. Conditions: as stated. -/
import Derived.Test.YtekknckdeedjnaaGreatDoorKeW
import Derived.Test.YtekknckdeedjnaaGreatDoorKeS
import Derived.Test.YtekknckdeedjnaaGreatDoorMdR
namespace Go.Proofs.YtekknckdeedjnaaGreatDoor
open Go.RowKit Mh
set_option linter.unusedVariables false

theorem _root_.Mh.own_take {w : World} {base e k n c L : Nat} {a : Option Addr} {xs : List Value} (h : w.ownsRow base e k (.slice a n c) n xs) (hL : L ≤ n) (hn : 0 < n) : w.ownsRow base e k (.slice a L c) L (xs.take (L * k)) := by
  refine ⟨?_, ?_⟩
  · rw [List.length_take, h.1]; exact Nat.min_eq_left (Nat.mul_le_mul_right _ hL)
  · rcases h.2 with ⟨_, h0⟩ | ⟨g, cap, cur, he, hb, hg, hnc, hcm, hcs, htake⟩
    · omega
    · simp only [Value.slice.injEq, true_and] at he
      obtain ⟨rfl, rfl⟩ := he
      refine .inr ⟨g, c, cur, rfl, hb, hg, by omega, hcm, hcs, ?_⟩
      rw [← htake, List.take_take, Nat.min_eq_left (Nat.mul_le_mul_right _ hL)]
theorem vrows_one : ∀ {w : World} {is : List V} {r : List Value}, VsAt w is r → ∀ u ∈ r, u.oneCell' = true := by
  intro w is
  induction is with
  | nil => intro r h; unfold VsAt at h; subst h; simp
  | cons x xs ih =>
    intro r h u hu
    unfold VsAt at h
    obtain ⟨c, r', rfl, hc, hx, hr⟩ := h
    rcases List.mem_append.1 hu with hu | hu
    · obtain ⟨_, _, _, _, rfl, _⟩ := hx.opened
      exact six_ones _ _ _ _ _ u hu
    · exact ih hr u hu
theorem _root_.Mh.VAt.vitems {w : World} {X : V} {ia ka : Option Addr} {ic kc : Nat} (h : VAt w X (vcs X ia ic ka kc)) : Ss w (.slice ka X.kys.length kc) X.kys ∧ ∃ rows, Sl 6 w (.slice ia X.its.length ic) X.its.length rows ∧ VsAt w X.its rows := by
  obtain ⟨ia', ic', ka', kc', he, _, _, _, h0, rows, h1, h2⟩ := h.opened
  simp only [vcs, List.cons.injEq, Value.slice.injEq, true_and, and_true] at he
  obtain ⟨⟨rfl, rfl⟩, rfl, rfl⟩ := he
  exact ⟨h0, rows, h1, h2⟩
theorem three_of_block {w : World} {g : Nat} {T : TypeId} {a b c : Value} (h : w.heap[g]? = some (.cells #[a, b, c] T (0, 0))) : w.cell? ⟨g, 0, none⟩ = some a ∧ w.cell? ⟨g, 1, none⟩ = some b ∧ w.cell? ⟨g, 2, none⟩ = some c := ⟨cellT h rfl, cellT h rfl, cellT h rfl⟩
theorem _root_.Mh.Sl.front {k n c : Nat} {w : World} {a : Option Addr} {xs : List Value} (h : Sl k w (.slice a n c) n xs) (m : Nat) (hm : m ≤ n) : Sl k w (.slice a m c) m (xs.take (m * k)) := by
  have h1 := h.head m hm
  have e : sliced a 0 m c k = .slice a m c := by
    unfold sliced
    have : (a.map fun x : Addr => x.add (0 * k)) = a := by cases a <;> simp [Addr.add]
    rw [this]
    simp
  rwa [e] at h1
theorem own_new {v : Value} {n k : Nat} (h : v.ownBlock = (Value.slice none 0 0).ownBlock ∨ v.ownBlock = some n) (hk : v.ownBlock = some k) : n ≤ k := by
  rcases h with h | h
  · rw [h] at hk; cases hk
  · rw [h] at hk; cases hk; exact Nat.le_refl _
def rstb (s : St) : Obj := .cells #[.string s.key, .int .i64 s.num, .bool false] 94
/-- What remove returns. -/
def RemOk (S : Nat → Bool) (R : V) (w : World) (e : Ending) (w' : World) : Prop :=
  ∃ ds : List Value, e = .returned (.tuple #[.agg ds.toArray, .int .i64 0]) ∧ Below w.heap.size w w' ∧ VAt (veil S w') R ds
/-- What is hidden of the call's own boxes. -/
def remS (S : Nat → Bool) (n : Nat) (k : Nat) : Bool := S k || decide (n ≤ k ∧ k < n + 2)
theorem remS_false {S : Nat → Bool} {n k : Nat} : remS S n k = false ↔ S k = false ∧ ¬ (n ≤ k ∧ k < n + 2) := by simp [remS]
structure RemIn (S : Nat → Bool) (X : V) (s : St) (w : World) (xa : Option Addr) (xc : Nat) (xk : Option Addr) (xkc : Nat) (W : World) : Prop where
  bx : W.heap[w.heap.size]? = some (box6 X xa xc xk xkc)
  b0 : W.heap[w.heap.size + 1]? = some box0
  bs : W.heap[w.heap.size + 1 + 1]? = some (rstb s)
  x : VAt (veil (remS S w.heap.size) W) X (vcs X xa xc xk xkc)
  below : Below w.heap.size w W
  size : w.heap.size + 3 ≤ W.heap.size
theorem RemIn.on {S : Nat → Bool} {X : V} {s : St} {w W W' : World} {xa xk : Option Addr} {xc xkc : Nat} (h : RemIn S X s w xa xc xk xkc W) (hb : Below W.heap.size W W') : RemIn S X s w xa xc xk xkc W' := by
  have hz := h.size
  exact ⟨(hb.block _ (by omega)).trans h.bx, (hb.block _ (by omega)).trans h.b0, (hb.block _ (by omega)).trans h.bs, h.x.keeps (Keeps.belows hb), h.below.trans (hb.mono h.below.size), Nat.le_trans hz hb.size⟩
theorem remIn_start (S : Nat → Bool) (X : V) (s : St) (w : World) (xa xk : Option Addr) (xc xkc : Nat) (hX : VAt (veil S w) X (vcs X xa xc xk xkc)) : RemIn S X s w xa xc xk xkc (((w.alloc (box6 X xa xc xk xkc)).alloc box0).alloc (rstb s)) := by
  have hK : Keeps (veil S w) (veil (remS S w.heap.size) (((w.alloc (box6 X xa xc xk xkc)).alloc box0).alloc (rstb s))) := by
    refine Keeps.veils (by simp; omega) fun k hk hs => ⟨by rw [remS_false]; exact ⟨hs, by omega⟩, ?_⟩
    rw [heap_alloc_old _ _ (by simp; omega), heap_alloc_old _ _ (by simp; omega), heap_alloc_old _ _ hk]
  refine ⟨?_, ?_, heap_new_at (by simp), hX.keeps hK, (((Below.refl w.heap.size w).alloc (Nat.le_refl _) _).alloc (by simp) _).alloc (by simp <;> omega) _, by simp⟩
  · rw [heap_alloc_old _ _ (by simp <;> omega), heap_alloc_old _ _ (by simp), heap_alloc_new]
  · rw [heap_alloc_old _ _ (by simp), heap_new_at (by simp)]
/-- The copy and its row of items. -/
def remR (S : Nat → Bool) (n OUT : Nat) (rv : Value) (k : Nat) : Bool := remS S n k || decide (k = OUT) || decide (rv.ownBlock = some k)
theorem remR_false {S : Nat → Bool} {n OUT : Nat} {rv : Value} {k : Nat} : remR S n OUT rv k = false ↔ remS S n k = false ∧ k ≠ OUT ∧ rv.ownBlock ≠ some k := by simp [remR, and_assoc]
structure RemRow (S : Nat → Bool) (X : V) (s : St) (w : World) (xa : Option Addr) (xc : Nat) (xk : Option Addr) (xkc : Nat) (W : World) (OUT : Nat) (rv kv : Value) (is : List V) (rows : List Value) : Prop where
  bx : W.heap[w.heap.size]? = some (box6 X xa xc xk xkc)
  b0 : W.heap[w.heap.size + 1]? = some box0
  bs : W.heap[w.heap.size + 1 + 1]? = some (rstb s)
  x : VAt (veil (remR S w.heap.size OUT rv) W) X (vcs X xa xc xk xkc)
  below : Below w.heap.size w W
  bout : W.heap[OUT]? = some (.cells #[.int .i64 X.kd, .bool X.bo, .int .i64 X.nu, .string X.tx, rv, kv] 25 (0, 0))
  own : W.ownsRow (OUT + 1) 25 6 rv is.length rows
  tv : VsAt (veil (remR S w.heap.size OUT rv) W) is rows
  lo : w.heap.size + 3 ≤ OUT
theorem RemRow.hi {S : Nat → Bool} {X : V} {s : St} {w W : World} {xa xk : Option Addr} {xc xkc OUT : Nat} {rv kv : Value} {is : List V} {rows : List Value} (h : RemRow S X s w xa xc xk xkc W OUT rv kv is rows) : OUT < W.heap.size := (Array.getElem?_eq_some_iff.1 h.bout).1
theorem RemRow.on {S : Nat → Bool} {X : V} {s : St} {w W W' : World} {xa xk : Option Addr} {xc xkc OUT : Nat} {rv kv : Value} {is : List V} {rows : List Value} (h : RemRow S X s w xa xc xk xkc W OUT rv kv is rows) (hb : Below W.heap.size W W') : RemRow S X s w xa xc xk xkc W' OUT rv kv is rows := by
  have hlt := h.hi
  have hz := h.lo
  exact ⟨(hb.block _ (by omega)).trans h.bx, (hb.block _ (by omega)).trans h.b0, (hb.block _ (by omega)).trans h.bs, h.x.keeps (Keeps.belows hb), h.below.trans (hb.mono h.below.size), (hb.block _ hlt).trans h.bout, own_below' h.own hb, h.tv.keeps (Keeps.belows hb), h.lo⟩
/-- The row is made: the items copied. -/
theorem RemRow.made {S : Nat → Bool} {X : V} {s : St} {w W w5 : World} {xa xk ra : Option Addr} {xc xkc rc : Nat} {rows : List Value} (h : RemIn S X s w xa xc xk xkc W) (hv : VsAt (veil (remS S w.heap.size) W) X.its rows)
    (hown : w5.ownsRow (W.heap.size + 1) 25 6 (.slice ra X.its.length rc) X.its.length rows) (hg : (W.alloc (box6 X xa xc xk xkc)).grownBy w5 none) :
    RemRow S X s w xa xc xk xkc (w5.setCell ⟨W.heap.size, 4, none⟩ (.slice ra X.its.length rc)) W.heap.size (.slice ra X.its.length rc) (.slice xk X.kys.length xkc) X.its rows := by
  have hz := h.size
  have hb : Below W.heap.size W w5 := ((Below.refl _ W).alloc (Nat.le_refl _) _).grown hg (by simp) (fun k hk => by cases hk)
  have hb2 : Below W.heap.size W (w5.setCell ⟨W.heap.size, 4, none⟩ (.slice ra X.its.length rc)) := hb.setCell (Nat.le_refl _) _
  have hbo : w5.heap[W.heap.size]? = some (box6 X xa xc xk xkc) := (hg.block _ (by simp) (by simp)).trans (heap_alloc_new _ _)
  have hK : Keeps (veil (remS S w.heap.size) W) (veil (remR S w.heap.size W.heap.size (.slice ra X.its.length rc)) (w5.setCell ⟨W.heap.size, 4, none⟩ (.slice ra X.its.length rc))) := by
    refine Keeps.veils (by simpa using hb.size) fun k hk hs => ⟨?_, hb2.block k hk⟩
    rw [remR_false]
    refine ⟨hs, by omega, fun e => ?_⟩
    have := (hown.lt k e).1
    omega
  have hh := h.on hb2
  exact ⟨hh.bx, hh.b0, hh.bs, h.x.keeps hK, hh.below, heap_setCell_same _ _ 4 _ _ _ hbo, own_setLow hown (by omega), hv.keeps hK, hz⟩
theorem rem_keeps {S : Nat → Bool} {X : V} {s : St} {w W w5 : World} {xa xk ra : Option Addr} {xc xkc rc : Nat} {rows : List Value} (h : RemIn S X s w xa xc xk xkc W)
    (hown : w5.ownsRow (W.heap.size + 1) 25 6 (.slice ra X.its.length rc) X.its.length rows) (hg : (W.alloc (box6 X xa xc xk xkc)).grownBy w5 none) :
    Keeps (veil (remS S w.heap.size) W) (veil (remR S w.heap.size W.heap.size (.slice ra X.its.length rc)) (w5.setCell ⟨W.heap.size, 4, none⟩ (.slice ra X.its.length rc))) ∧
      (∀ k, k < W.heap.size → (w5.setCell ⟨W.heap.size, 4, none⟩ (.slice ra X.its.length rc)).heap[k]? = W.heap[k]?) ∧ Below W.heap.size W (w5.setCell ⟨W.heap.size, 4, none⟩ (.slice ra X.its.length rc)) := by
  have hz := h.size
  have hb : Below W.heap.size W w5 := ((Below.refl _ W).alloc (Nat.le_refl _) _).grown hg (by simp) (fun k hk => by cases hk)
  have hb2 : Below W.heap.size W (w5.setCell ⟨W.heap.size, 4, none⟩ (.slice ra X.its.length rc)) := hb.setCell (Nat.le_refl _) _
  refine ⟨Keeps.veils (by simpa using hb.size) fun k hk hs => ⟨?_, hb2.block k hk⟩, fun k hk => hb2.block k hk, hb2⟩
  rw [remR_false]
  refine ⟨hs, by omega, fun e => ?_⟩
  have := (hown.lt k e).1
  omega
/-- Something is stored into the copy. -/
theorem RemRow.less {S : Nat → Bool} {X : V} {s : St} {w W w7 : World} {xa xk : Option Addr} {xc xkc OUT rb c5 n L M c7 : Nat} {a7 : Option Addr} {kv : Value} {rows : List Value}
    (h : RemRow S X s w xa xc xk xkc W OUT (.slice (some ⟨rb, 0, none⟩) n c5) kv X.its rows) (hL : L < X.its.length) (hM : M = L + 1)
    (hown : w7.ownsRow (OUT + 1) 25 6 (.slice a7 (L + (X.its.length - M)) c7) (L + (X.its.length - M)) (rows.take (L * 6) ++ rows.drop (M * 6))) (hg : W.grownBy w7 (Value.slice (some ⟨rb, 0, none⟩) L c5).ownBlock)
    (hat : (Value.slice a7 (L + (X.its.length - M)) c7).ownBlock = (Value.slice (some ⟨rb, 0, none⟩) L c5).ownBlock ∨ (Value.slice a7 (L + (X.its.length - M)) c7).ownBlock = some W.heap.size) :
    RemRow S X s w xa xc xk xkc (w7.setCell ⟨OUT, 4, none⟩ (.slice a7 (L + (X.its.length - M)) c7)) OUT (.slice a7 (L + (X.its.length - M)) c7) kv (X.its.take L ++ X.its.drop (L + 1)) (rows.take (L * 6) ++ rows.drop ((L + 1) * 6)) := by
  subst hM
  have hz := h.lo
  have hi := h.hi
  have hrb : OUT + 1 ≤ rb := (h.own.lt rb rfl).1
  have hb1 : ∀ k, k < W.heap.size → k ≠ rb → w7.heap[k]? = W.heap[k]? := fun k hk hne => hg.block k hk (by simp only [Value.ownBlock]; simp; omega)
  have hb : ∀ k, k < W.heap.size → k ≠ rb → k ≠ OUT → (w7.setCell ⟨OUT, 4, none⟩ (.slice a7 (L + (X.its.length - (L + 1))) c7)).heap[k]? = W.heap[k]? := fun k hk hne hno => by
    rw [heap_setCell_other _ _ _ _ (show k ≠ OUT from hno)]
    exact hb1 k hk hne
  have hK : Keeps (veil (remR S w.heap.size OUT (.slice (some ⟨rb, 0, none⟩) n c5)) W) (veil (remR S w.heap.size OUT (.slice a7 (L + (X.its.length - (L + 1))) c7)) (w7.setCell ⟨OUT, 4, none⟩ (.slice a7 (L + (X.its.length - (L + 1))) c7))) := by
    refine Keeps.veils (by simpa using hg.size) fun k hk hs => ?_
    rw [remR_false] at hs ⊢
    obtain ⟨h1, h2, h3⟩ := hs
    have h4 : k ≠ rb := fun e => h3 (by rw [e]; rfl)
    refine ⟨⟨h1, h2, fun e => ?_⟩, hb k hk h4 h2⟩
    rcases hat with h5 | h5
    · rw [h5] at e
      exact h3 e
    · rw [h5] at e
      cases e
      omega
  have hbo : w7.heap[OUT]? = some (.cells #[.int .i64 X.kd, .bool X.bo, .int .i64 X.nu, .string X.tx, .slice (some ⟨rb, 0, none⟩) n c5, kv] 25 (0, 0)) := (hb1 OUT hi (by omega)).trans h.bout
  refine ⟨(hb _ (by omega) (by omega) (by omega)).trans h.bx, (hb _ (by omega) (by omega) (by omega)).trans h.b0, (hb _ (by omega) (by omega) (by omega)).trans h.bs, h.x.keeps hK, ?_, heap_setCell_same _ _ 4 _ _ _ hbo, ?_, ?_, h.lo⟩
  · exact (h.below.grown hg h.below.size (fun k hk => by simp [Value.ownBlock] at hk; omega)).setCell (show w.heap.size ≤ OUT by omega) _
  · have := own_setLow (u := (Value.slice a7 (L + (X.its.length - (L + 1))) c7)) (o := 4) hown (show OUT < OUT + 1 by omega)
    rwa [show L + (X.its.length - (L + 1)) = (X.its.take L ++ X.its.drop (L + 1)).length by simp; omega] at this ⊢
  · exact ((h.tv.take L).append (h.tv.drop (L + 1))).keeps hK
theorem RemRow.storeK {S : Nat → Bool} {X : V} {s : St} {w W : World} {xa xk : Option Addr} {xc xkc OUT : Nat} {rv kv : Value} {is : List V} {rows : List Value} (h : RemRow S X s w xa xc xk xkc W OUT rv kv is rows) (u : Value) : RemRow S X s w xa xc xk xkc (W.setCell ⟨OUT, 5, none⟩ u) OUT rv u is rows := by
  have hz := h.lo
  have hb : ∀ k, k ≠ OUT → (W.setCell ⟨OUT, 5, none⟩ u).heap[k]? = W.heap[k]? := fun k hk => heap_setCell_other _ _ _ _ (show k ≠ OUT from hk)
  have hK : Keeps (veil (remR S w.heap.size OUT rv) W) (veil (remR S w.heap.size OUT rv) (W.setCell ⟨OUT, 5, none⟩ u)) := Keeps.veils (by simp) fun k hk hs => ⟨hs, hb k (remR_false.1 hs).2.1⟩
  exact ⟨(hb _ (by omega)).trans h.bx, (hb _ (by omega)).trans h.b0, (hb _ (by omega)).trans h.bs, h.x.keeps hK, h.below.setCell (show w.heap.size ≤ OUT by omega) _, heap_setCell_same _ _ 5 _ _ _ h.bout, own_setLow h.own (by omega), h.tv.keeps hK, hz⟩
/-- The copy is whole. -/
theorem RemRow.done {S : Nat → Bool} {X : V} {s : St} {w W : World} {xa xk : Option Addr} {xc xkc OUT : Nat} {rv kv : Value} {is : List V} {ks : List ByteArray} {rows : List Value} (h : RemRow S X s w xa xc xk xkc W OUT rv kv is rows) (hT : tab X) (hS : ∀ k, w.heap.size ≤ k → S k = false)
    {a b c d e f : Value} (hk : Ss (veil S (put6 W (w.heap.size + 1) a b c d e f)) kv ks) :
    VAt (veil S (put6 W (w.heap.size + 1) a b c d e f)) (.mk 6 false 0 ⟨#[]⟩ is ks) [.int .i64 X.kd, .bool X.bo, .int .i64 X.nu, .string X.tx, rv, kv] := by
  have hz := h.lo
  have hK : Keeps (veil (remR S w.heap.size OUT rv) W) (veil S (put6 W (w.heap.size + 1) a b c d e f)) := by
    refine Keeps.veils (by rw [put6_size]; exact Nat.le_refl _) fun k hk hs => ?_
    rw [remR_false, remS_false] at hs
    exact ⟨hs.1.1, put6_other (by omega)⟩
  obtain ⟨h1, h2, h3⟩ := hT.bare
  rw [h1, h2, h3, hT.2]
  exact VAt.made (X := .mk 6 false 0 ⟨#[]⟩ is ks) rfl rfl (Nat.zero_le _) hk (Sl.of_own_veil (own_put6Low h.own (by omega)) (by decide) fun b hb' => hS b (by omega)) (h.tv.keeps hK)
theorem rem_keys {S : Nat → Bool} {w W : World} {OUT e n : Nat} {kv : Value} {ks : List ByteArray} {xs : List Value} (hown : W.ownsRow (OUT + 1) e 1 kv n xs) (hn : n = ks.length) (hx : xs = ks.map Value.string) (hz : ∀ s ∈ ks, s.size ≤ maxLen) (hlo : w.heap.size + 3 ≤ OUT) (hS : ∀ k, w.heap.size ≤ k → S k = false)
    {a b c d e' f : Value} : Ss (veil S (put6 W (w.heap.size + 1) a b c d e' f)) kv ks := by
  subst hn hx
  exact ⟨Sl.of_own_veil (own_put6Low hown (by omega)) (by decide) fun b hb' => hS b (by omega), hz⟩
end Go.Proofs.YtekknckdeedjnaaGreatDoor
