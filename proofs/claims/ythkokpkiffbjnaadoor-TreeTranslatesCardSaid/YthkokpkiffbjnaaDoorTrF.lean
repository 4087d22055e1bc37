/- The checker of tree holds one page more: the three stores into its maps. Conditions: at most 1500 pages; strings of at most maxLen bytes. -/
import Derived.Test.YthkokpkiffbjnaaDoorTrS
namespace Mh
open Go Go.RowKit
set_option linter.unusedVariables false
def kwKey : ByteArray := ⟨#[107, 101, 121]⟩
/-- Addresses of the pages ahead. -/
def A1 (l : List Pg) (i : Nat) (s : ByteArray) : Prop := ∃ p ∈ l.take i, p.addr = s
/-- Keys of the pages ahead. -/
def A3 (l : List Pg) (i : Nat) (q : ByteArray × ByteArray × ByteArray) : Prop := ∃ p ∈ l.take i, q = (kwKey, p.lang, p.key) ∨ q = (trKey, p.lang, trL p.set p.key)
theorem A1_next {l : List Pg} {i : Nat} (hi : i < l.length) : A1 l (i + 1) = fun q => A1 l i q ∨ q = l[i].addr := by
  funext q
  apply propext
  unfold A1
  rw [List.take_add_one, List.getElem?_eq_getElem hi]
  constructor
  · rintro ⟨p, hp, rfl⟩
    rcases List.mem_append.1 hp with hp | hp
    · exact .inl ⟨p, hp, rfl⟩
    · have : p = l[i] := by simpa using hp
      rw [this]; exact .inr rfl
  · rintro (⟨p, hp, rfl⟩ | rfl)
    · exact ⟨p, List.mem_append.2 (.inl hp), rfl⟩
    · exact ⟨l[i], List.mem_append.2 (.inr (by simp)), rfl⟩
theorem A3_next {l : List Pg} {i : Nat} (hi : i < l.length) : A3 l (i + 1) = fun q => (A3 l i q ∨ q = (kwKey, l[i].lang, l[i].key)) ∨ q = (trKey, l[i].lang, trL l[i].set l[i].key) := by
  funext q
  apply propext
  unfold A3
  rw [List.take_add_one, List.getElem?_eq_getElem hi]
  constructor
  · rintro ⟨p, hp, h⟩
    rcases List.mem_append.1 hp with hp | hp
    · exact .inl (.inl ⟨p, hp, h⟩)
    · have : p = l[i] := by simpa using hp
      subst this
      rcases h with h | h
      · exact .inl (.inr h)
      · exact .inr h
  · rintro ((⟨p, hp, h⟩ | h) | h)
    · exact ⟨p, List.mem_append.2 (.inl hp), h⟩
    · exact ⟨l[i], List.mem_append.2 (.inr (by simp)), .inl h⟩
    · exact ⟨l[i], List.mem_append.2 (.inr (by simp)), .inr h⟩
end Mh
namespace Go.Proofs.YthkokpkiffbjnaaDoor
open Go.RowKit Mh
open Go.WideMaps (KeyLaw ArrKey)
set_option linter.unusedVariables false
def k3p (q : ByteArray × ByteArray × ByteArray) : Value := k3 q.1 q.2.1 q.2.2
/-- What the checker holds ahead of page i. -/
structure CkSt (L : List ByteArray) (l : List Pg) (W0 w : World) (C sb ab kb : Nat) (la : Option Addr) (lc : Nat) (pa : Option Addr) (pc : Nat) (i : Nat) : Prop where
  below : Below W0.heap.size W0 w
  langs : Ss W0 (.slice la L.length lc) L
  pages : PsAt W0 (.slice pa l.length pc) l
  blk : w.heap[C]? = some (.cells #[.slice la L.length lc, .slice pa l.length pc, .map (some sb), .map (some ab), .map (some kb)] 48 (0, 0))
  sec : SecM w sb 1500 l
  adr : SetM Tryd.prog 9 w ab i Value.string (A1 l i)
  key : SetM Tryd.prog 60 w kb (2 * i) k3p (A3 l i)
  hC : W0.heap.size ≤ C
  ha : W0.heap.size ≤ ab
  hk : W0.heap.size ≤ kb
  n1 : C ≠ ab
  n2 : C ≠ kb
  n3 : sb ≠ ab
  n4 : sb ≠ kb
  n5 : ab ≠ kb
theorem CkSt.on {L : List ByteArray} {l : List Pg} {W0 w w' : World} {C sb ab kb : Nat} {la pa : Option Addr} {lc pc i : Nat} (h : CkSt L l W0 w C sb ab kb la lc pa pc i) (hb : Below w.heap.size w w') : CkSt L l W0 w' C sb ab kb la lc pa pc i :=
  ⟨h.below.trans (hb.mono h.below.size), h.langs, h.pages, (hb.block _ (Array.getElem?_eq_some_iff.1 h.blk).1).trans h.blk, h.sec.block (hb.block _ h.sec.lt), h.adr.block (hb.block _ h.adr.lt), h.key.block (hb.block _ h.key.lt), h.hC, h.ha, h.hk, h.n1, h.n2, h.n3, h.n4, h.n5⟩
theorem setM_add {α : Type} {P : Program} {k t e : TypeId} {w : World} {b n : Nat} {key : α → Value} {A : α → Prop} (h : SetM P k w b n key A) (K : KeyLaw P k) (ht : P.underlying t = some (.map k e)) (hz : (zeroValue e).run P w = .ok (.bool false) w) (hinj : ∀ x y, key x = key y → x = y) (hn : n < maxLen) (s : α) (hs : ∃ kl, keyOf P k (key s) = some kl) :
    ∃ (g v0 : Value) (w1 w2 : World), (Instr.mapEntry t (.map (some b)) (key s)).run P w = .ok (.tuple #[v0, g]) w1 ∧ (Instr.entryStore t (.map (some b)) g (.bool true)).run P w1 = .ok () w2 ∧ SetM P k w2 b (n + 1) key (fun q => A q ∨ q = s) ∧ w.grownBy w1 (some b) ∧ w1.grownBy w2 (some b) := by
  obtain ⟨f, hM, hA⟩ := h
  obtain ⟨kl, hkl⟩ := hs
  obtain ⟨w1, v0, st, r1, ⟨u, m1⟩, s1, g1, _⟩ := hM.entry K ht hz hn hkl
  obtain ⟨w2, r2, m2, g2, _⟩ := m1.entryStore ht s1 (.bool true)
  refine ⟨goInt st, v0, w1, w2, r1, r2, ⟨_, m2, ?_⟩, g1, g2⟩
  rw [updV_again]
  exact setM_upd hA hinj s
/-- The blocks other than the two maps are as they were. -/
def Besides (u v : World) (ab kb : Nat) : Prop := ∀ b, b < u.heap.size → b ≠ ab → b ≠ kb → v.heap[b]? = u.heap[b]?
theorem besides_refl (u : World) (ab kb : Nat) : Besides u u ab kb := fun _ _ _ _ => rfl
theorem Besides.step {u v v' : World} {ab kb r : Nat} (h : Besides u v ab kb) (hs : u.heap.size ≤ v.heap.size) (g : v.grownBy v' (some r)) (hr : r = ab ∨ r = kb) : Besides u v' ab kb := fun b hb h1 h2 =>
  (g.block b (by omega) (fun e => by cases e; rcases hr with h | h; exact h1 h; exact h2 h)).trans (h b hb h1 h2)
theorem k3p_inj (x y : ByteArray × ByteArray × ByteArray) (h : k3p x = k3p y) : x = y := by
  unfold k3p at h
  rw [k3_inj] at h
  obtain ⟨a, b, c⟩ := x
  obtain ⟨d, e, f⟩ := y
  obtain ⟨h1, h2, h3⟩ := h
  simp only at h1 h2 h3
  rw [h1, h2, h3]
theorem ck_store {L : List ByteArray} {l : List Pg} (hl : l.length ≤ 1500) {W0 u : World} {C sb ab kb : Nat} {la pa : Option Addr} {lc pc i : Nat} (hi : i < l.length) (h : CkSt L l W0 u C sb ab kb la lc pa pc i)
    {x : Pg} (hx : l[i] = x) {TR : ByteArray} (hT : trL x.set x.key = TR) (ha : x.addr.size ≤ maxLen) (hlg : x.lang.size ≤ maxLen) (hk : x.key.size ≤ maxLen) (ht : TR.size ≤ maxLen) :
    ∃ (g1 g2 g3 v1 v2 v3 : Value) (w1 w2 w3 w4 w5 w6 : World),
      (Instr.mapEntry 33 (.map (some ab)) (.string x.addr)).run Tryd.prog u = .ok (.tuple #[v1, g1]) w1 ∧ (Instr.entryStore 33 (.map (some ab)) g1 (.bool true)).run Tryd.prog w1 = .ok () w2 ∧
      (Instr.mapEntry 46 (.map (some kb)) (.agg #[.string ⟨#[107, 101, 121]⟩, .string x.lang, .string x.key])).run Tryd.prog w2 = .ok (.tuple #[v2, g2]) w3 ∧ (Instr.entryStore 46 (.map (some kb)) g2 (.bool true)).run Tryd.prog w3 = .ok () w4 ∧
      (Instr.mapEntry 46 (.map (some kb)) (.agg #[.string ⟨#[116, 114, 97, 110, 115, 108, 97, 116, 105, 111, 110]⟩, .string x.lang, .string TR])).run Tryd.prog w4 = .ok (.tuple #[v3, g3]) w5 ∧ (Instr.entryStore 46 (.map (some kb)) g3 (.bool true)).run Tryd.prog w5 = .ok () w6 ∧
      Besides u w1 ab kb ∧ Besides u w2 ab kb ∧ Besides u w3 ab kb ∧ Besides u w4 ab kb ∧ Besides u w5 ab kb ∧ Besides u w6 ab kb ∧ u.heap.size ≤ w6.heap.size ∧ CkSt L l W0 w6 C sb ab kb la lc pa pc (i + 1) := by
  obtain ⟨g1, v1, w1, w2, r1, r2, m2, e1, e2⟩ := setM_add h.adr key1_law Tryd.underlying33 (zBool _) (fun a b e => by cases e; rfl) (by unfold maxLen; omega) x.addr (key1_of ha)
  have q2 := (h.key.block (e1.block kb h.key.lt (fun e => h.n5 (by cases e; rfl))))
  have q3 := (q2.block (e2.block kb q2.lt (fun e => h.n5 (by cases e; rfl))))
  obtain ⟨g2, v2, w3, w4, r3, r4, m4, e3, e4⟩ := setM_add q3 key3_arr.law Tryd.underlying46 (zBool _) k3p_inj (by unfold maxLen; omega) (kwKey, x.lang, x.key) (key3_of (show kwKey.size ≤ maxLen by decide) hlg hk)
  obtain ⟨g3, v3, w5, w6, r5, r6, m6, e5, e6⟩ := setM_add m4 key3_arr.law Tryd.underlying46 (zBool _) k3p_inj (by unfold maxLen; omega) (trKey, x.lang, TR) (key3_of (show trKey.size ≤ maxLen by decide) hlg ht)
  have z1 := e1.size; have z2 := e2.size; have z3 := e3.size; have z4 := e4.size; have z5 := e5.size; have z6 := e6.size
  have b1 := (besides_refl u ab kb).step (Nat.le_refl _) e1 (.inl rfl)
  have b2 := b1.step (by omega) e2 (.inl rfl)
  have b3 := b2.step (by omega) e3 (.inr rfl)
  have b4 := b3.step (by omega) e4 (.inr rfl)
  have b5 := b4.step (by omega) e5 (.inr rfl)
  have b6 := b5.step (by omega) e6 (.inr rfl)
  have hA3 := m2.block ((e3.block ab m2.lt (fun e => h.n5 (by cases e; rfl))))
  have hA4 := hA3.block ((e4.block ab hA3.lt (fun e => h.n5 (by cases e; rfl))))
  have hA5 := hA4.block ((e5.block ab hA4.lt (fun e => h.n5 (by cases e; rfl))))
  have hA6 := hA5.block ((e6.block ab hA5.lt (fun e => h.n5 (by cases e; rfl))))
  have hBB : Below W0.heap.size W0 w6 := h.below.trans (((((below_of_grown e1 h.ha h.below.size).trans (below_of_grown e2 h.ha (by have := h.below.size; omega))).trans ((below_of_grown e3 h.hk (by have := h.below.size; omega)).trans (below_of_grown e4 h.hk (by have := h.below.size; omega)))).trans ((below_of_grown e5 h.hk (by have := h.below.size; omega)).trans (below_of_grown e6 h.hk (by have := h.below.size; omega)))))
  refine ⟨g1, g2, g3, v1, v2, v3, w1, w2, w3, w4, w5, w6, r1, r2, r3, r4, r5, r6, b1, b2, b3, b4, b5, b6, by omega, hBB, h.langs, h.pages, (b6 C (Array.getElem?_eq_some_iff.1 h.blk).1 h.n1 h.n2).trans h.blk, h.sec.block (b6 sb h.sec.lt h.n3 h.n4), ?_, ?_, h.hC, h.ha, h.hk, h.n1, h.n2, h.n3, h.n4, h.n5⟩
  · rw [A1_next hi, hx]; exact hA6
  · rw [A3_next hi, hx, hT]; exact m6
end Go.Proofs.YthkokpkiffbjnaaDoor
