/- What stands in memory in (*reader).message; its closure flush. Conditions: as stated there. -/
import Derived.Test.YtdolpehcfifecaaGreatDoorMgZ
namespace Mh
open Go Go.RowKit
set_option linter.unusedVariables false
/-- Rows of two kinds of elements lie in two blocks. -/
theorem mown_apart {w : World} {base e k n base' e' k' n' : Nat} {v v' : Value} {xs xs' : List Value} (h : w.ownsRow base e k v n xs) (h' : w.ownsRow base' e' k' v' n' xs') (he : e ≠ e') : ∀ b, v.ownBlock = some b → v'.ownBlock ≠ some b := by
  intro b hb hb'
  rcases h.2 with ⟨rfl, _⟩ | ⟨g, cap, cur, rfl, hbg, hg, h4⟩
  · simp [Value.ownBlock] at hb
  · rcases h'.2 with ⟨rfl, _⟩ | ⟨g', cap', cur', rfl, hbg', hg', h4'⟩
    · simp [Value.ownBlock] at hb'
    · simp only [Value.ownBlock, Option.some.injEq] at hb hb'
      subst hb
      subst hb'
      rw [hg] at hg'
      simp only [Option.some.injEq, Obj.cells.injEq] at hg'
      exact he hg'.2.1
theorem mown_grown {w w3 : World} {base e k n : Nat} {v : Value} {xs : List Value} {ob : Obj} {bo : Option Nat} (h : w.ownsRow base e k v n xs) (hg : (w.alloc ob).grownBy w3 bo) (hne : ∀ b, v.ownBlock = some b → bo ≠ some b) : w3.ownsRow base e k v n xs := by
  refine ⟨h.1, ?_⟩
  rcases h.2 with h2 | ⟨g, cap, cur, rfl, hbg, hgb, h4⟩
  · exact .inl h2
  · have hlt := (Array.getElem?_eq_some_iff.1 hgb).1
    exact .inr ⟨g, cap, cur, rfl, hbg, (hg.block g (by simp; omega) (fun e => hne g rfl e.symm)).trans ((heap_alloc_old _ _ hlt).trans hgb), h4⟩
/-- The blocks that a message's rows do not lie in. -/
def msgS (n : Nat) (vo vp : Value) : Nat → Bool := own1 (own1 (bel n) vo) vp
theorem msgS_false {n k : Nat} {vo vp : Value} : msgS n vo vp k = false ↔ n ≤ k ∧ vo.ownBlock ≠ some k ∧ vp.ownBlock ≠ some k := by
  unfold msgS
  rw [own1_false, own1_false, bel_false]
  exact and_assoc
end Mh
namespace Go.Proofs.YtdolpehcfifecaaGreatDoor
open Go.RowKit Mh
set_option linter.unusedVariables false
theorem infoByte : (Tryz.prog.info? 5).map (fun i => (i.zero, i.size, i.bytes)) = some (some (.int .u8 0), 1, 1) := by kernel_rfl
structure MgIn (Q T : Nat) (s : ByteArray) (w wr : World) (m : Ms) (out : List Pc) (pl : List UInt8) (vo vp : Value) (rows : List Value) : Prop where
  p : MsAt Q T s m wr
  kept : Kept [Q] w wr
  bo : wr.heap[w.heap.size]? = some (.cells #[vo] 36 (0, 0))
  bp : wr.heap[w.heap.size + 1]? = some (.cells #[vp] 63 (0, 0))
  oo : wr.ownsRow (w.heap.size + 2) 71 3 vo out.length rows
  at_ : PcsAt (veil (msgS (w.heap.size + 2) vo vp) wr) out rows
  op : wr.ownsRow (w.heap.size + 2) 5 1 vp pl.length (byteCells pl)
section
variable {Q T : Nat} {s : ByteArray} {w wr : World} {m : Ms} {out : List Pc} {pl : List UInt8} {vo vp : Value} {rows : List Value}
theorem MgIn.lt (h : MgIn Q T s w wr m out pl vo vp rows) : w.heap.size + 1 < wr.heap.size := (Array.getElem?_eq_some_iff.1 h.bp).1
theorem MgIn.drewN (h : MgIn Q T s w wr m out pl vo vp rows) (n : Nat) : MgIn Q T s w (wr.drewN n) m out pl vo vp rows :=
  ⟨h.p.drewN n, h.kept.drewN n, h.bo, h.bp, h.oo, h.at_.keeps (Keeps.kept ((Kept.refl [] wr).drewN n) (by simp)), h.op⟩
theorem MgIn.call {m' : Ms} {w2 : World} (h : MgIn Q T s w wr m out pl vo vp rows) (hQ : Q < w.heap.size) (hp : MsAt Q T s m' w2) (hk : Kept [Q] wr w2) : MgIn Q T s w w2 m' out pl vo vp rows := by
  have hz := h.lt
  have hn : ∀ k, w.heap.size ≤ k → k ∉ [Q] := fun k hk hm => by simp at hm; omega
  refine ⟨hp, h.kept.trans hk, (hk.block _ (by omega) (hn _ (by omega))).trans h.bo, (hk.block _ (by omega) (hn _ (by omega))).trans h.bp, mown_kept h.oo hk (by simp; omega), h.at_.keeps (Keeps.kept hk ?_), mown_kept h.op hk (by simp; omega)⟩
  intro b hb
  simp at hb
  subst hb
  simp [msgS, own1, bel]; omega
theorem MgIn.seti (h : MgIn Q T s w wr m out pl vo vp rows) (hQ : Q < w.heap.size) (i : Nat) : MgIn Q T s w (wr.setCell ⟨Q, 1, none⟩ (.int .i64 i)) (m.at i) out pl vo vp rows :=
  h.call hQ (h.p.set1 i) ((Kept.refl _ _).set Q 1 (by simp) _)
theorem MgIn.start {w : World} (h : MsAt Q T s m w) (hQ : Q < w.heap.size) : MgIn Q T s w ((w.alloc (.cells #[.slice none 0 0] 36)).alloc (.cells #[.slice none 0 0] 63)) m [] [] (.slice none 0 0) (.slice none 0 0) [] :=
  ⟨(heap_alloc_old _ _ (by simp; omega)).trans ((heap_alloc_old _ _ hQ).trans h), ((Kept.refl _ _).alloc _).alloc _, (heap_alloc_old _ _ (by simp)).trans (heap_alloc_new _ _), heap_new_at (by simp), World.ownsRow_nil _ _ _ _, PcsAt.nil _, World.ownsRow_nil _ _ _ _⟩
/-- A piece more. -/
theorem MgIn.push {w3 : World} {P : Pc} {cs : List Value} {v' : Value} {ob : Obj} (h : MgIn Q T s w wr m out pl vo vp rows) (hQ : Q < w.heap.size) (hP : PcAt (veil (msgS (w.heap.size + 2) vo vp) wr) P cs)
    (hown : w3.ownsRow (w.heap.size + 2) 71 3 v' (out.length + 1) (rows ++ cs)) (hg : (wr.alloc ob).grownBy w3 vo.ownBlock) (hat : v'.ownBlock = vo.ownBlock ∨ v'.ownBlock = some (wr.alloc ob).heap.size) :
    MgIn Q T s w (w3.setCell ⟨w.heap.size, 0, none⟩ v') m (out ++ [P]) pl v' vp (rows ++ cs) := by
  have hz := h.lt
  have hol := h.oo.lt
  have hpl := h.op.lt
  have hsz := hg.size
  simp at hsz
  have hap := mown_apart h.oo h.op (by decide)
  have hne : ∀ k, k < w.heap.size + 2 → some k ≠ vo.ownBlock := fun k hk e => by have := (hol k e.symm).1; omega
  have hold : ∀ k, k < w.heap.size + 2 → w3.heap[k]? = wr.heap[k]? := fun k hk => (hg.block k (by simp; omega) (hne k hk)).trans (heap_alloc_old _ _ (by omega))
  have hK : Keeps (veil (msgS (w.heap.size + 2) vo vp) wr) (veil (msgS (w.heap.size + 2) v' vp) (w3.setCell ⟨w.heap.size, 0, none⟩ v')) := by
    refine Keeps.veils (by simp; omega) fun k hk hs => ?_
    rw [msgS_false] at hs ⊢
    refine ⟨⟨hs.1, ?_, hs.2.2⟩, (heap_setCell_other _ _ _ _ (by show k ≠ w.heap.size; omega)).trans ((hg.block k (by simp; omega) (fun e => hs.2.1 e.symm)).trans (heap_alloc_old _ _ hk))⟩
    rcases hat with e | e
    · rw [e]; exact hs.2.1
    · rw [e]; simp; omega
  refine ⟨?_, ?_, ?_, ?_, ?_, ?_, ?_⟩
  · exact ((heap_setCell_other _ _ _ _ (by show Q ≠ w.heap.size; omega)).trans (hold Q (by omega))).trans h.p
  · have k3 : Kept [Q] w w3 := ⟨hg.os.trans h.kept.os, hg.tape.trans h.kept.tape, hg.output.trans h.kept.output, by have := h.kept.size; omega, fun k hk1 hs => (hold k (by omega)).trans (h.kept.block k hk1 hs)⟩
    exact k3.setNew _ 0 (Nat.le_refl _) _
  · have hb3 := (hold w.heap.size (by omega)).trans h.bo
    rw [heap_setCell_same _ _ 0 _ _ _ hb3]; rfl
  · exact ((heap_setCell_other _ _ _ _ (by show w.heap.size + 1 ≠ w.heap.size; omega)).trans (hold _ (by omega))).trans h.bp
  · have := mown_setLow (b := w.heap.size) (o := 0) (u := v') hown (by omega)
    rwa [List.length_append]
  · exact PcsAt.append (h.at_.keeps hK) (PcsAt.one (hP.keeps hK))
  · exact mown_setLow (mown_grown h.op hg (fun b hb e => hap b e hb)) (by omega)
/-- A byte of plain text more. -/
theorem MgIn.byte {w3 : World} {c : UInt8} {v' : Value} {ob : Obj} (h : MgIn Q T s w wr m out pl vo vp rows) (hQ : Q < w.heap.size)
    (hown : w3.ownsRow (w.heap.size + 2) 5 1 v' (pl.length + 1) (byteCells pl ++ [.int .u8 c.toNat])) (hg : (wr.alloc ob).grownBy w3 vp.ownBlock) (hat : v'.ownBlock = vp.ownBlock ∨ v'.ownBlock = some (wr.alloc ob).heap.size) :
    MgIn Q T s w (w3.setCell ⟨w.heap.size + 1, 0, none⟩ v') m out (pl ++ [c]) vo v' rows := by
  have hz := h.lt
  have hol := h.oo.lt
  have hpl := h.op.lt
  have hsz := hg.size
  simp at hsz
  have hap := mown_apart h.oo h.op (by decide)
  have hne : ∀ k, k < w.heap.size + 2 → some k ≠ vp.ownBlock := fun k hk e => by have := (hpl k e.symm).1; omega
  have hold : ∀ k, k < w.heap.size + 2 → w3.heap[k]? = wr.heap[k]? := fun k hk => (hg.block k (by simp; omega) (hne k hk)).trans (heap_alloc_old _ _ (by omega))
  have hK : Keeps (veil (msgS (w.heap.size + 2) vo vp) wr) (veil (msgS (w.heap.size + 2) vo v') (w3.setCell ⟨w.heap.size + 1, 0, none⟩ v')) := by
    refine Keeps.veils (by simp; omega) fun k hk hs => ?_
    rw [msgS_false] at hs ⊢
    refine ⟨⟨hs.1, hs.2.1, ?_⟩, (heap_setCell_other _ _ _ _ (by show k ≠ w.heap.size + 1; omega)).trans ((hg.block k (by simp; omega) (fun e => hs.2.2 e.symm)).trans (heap_alloc_old _ _ hk))⟩
    rcases hat with e | e
    · rw [e]; exact hs.2.2
    · rw [e]; simp; omega
  refine ⟨?_, ?_, ?_, ?_, ?_, ?_, ?_⟩
  · exact ((heap_setCell_other _ _ _ _ (by show Q ≠ w.heap.size + 1; omega)).trans (hold Q (by omega))).trans h.p
  · have k3 : Kept [Q] w w3 := ⟨hg.os.trans h.kept.os, hg.tape.trans h.kept.tape, hg.output.trans h.kept.output, by have := h.kept.size; omega, fun k hk1 hs => (hold k (by omega)).trans (h.kept.block k hk1 hs)⟩
    exact k3.setNew _ 0 (by omega) _
  · exact ((heap_setCell_other _ _ _ _ (by show w.heap.size ≠ w.heap.size + 1; omega)).trans (hold _ (by omega))).trans h.bo
  · have hb3 := (hold (w.heap.size + 1) (by omega)).trans h.bp
    rw [heap_setCell_same _ _ 0 _ _ _ hb3]; rfl
  · exact mown_setLow (mown_grown h.oo hg (fun b hb e => hap b hb e)) (by omega)
  · exact h.at_.keeps hK
  · have := mown_setLow (b := w.heap.size + 1) (o := 0) (u := v') hown (by omega)
    rwa [List.length_append, byteCells_append]
/-- The plain text is behind. -/
theorem MgIn.clear (h : MgIn Q T s w wr m out pl vo vp rows) (hQ : Q < w.heap.size) : MgIn Q T s w (wr.setCell ⟨w.heap.size + 1, 0, none⟩ (.slice none 0 0)) m out [] vo (.slice none 0 0) rows := by
  have hz := h.lt
  refine ⟨(heap_setCell_other _ _ _ _ (by show Q ≠ w.heap.size + 1; omega)).trans h.p, h.kept.setNew _ _ (by omega) _, (heap_setCell_other _ _ _ _ (by show w.heap.size ≠ w.heap.size + 1; omega)).trans h.bo, heap_setCell_same _ _ 0 _ _ _ h.bp, mown_setLow h.oo (by omega), h.at_.keeps (Keeps.veils (by simp) fun k hk hs => ?_), World.ownsRow_nil _ _ _ _⟩
  rw [msgS_false] at hs ⊢
  exact ⟨⟨hs.1, hs.2.1, by simp [Value.ownBlock]⟩, heap_setCell_other _ _ _ _ (by show k ≠ w.heap.size + 1; omega)⟩
end
set_option maxRecDepth 100000 in
set_option maxHeartbeats 4000000 in
theorem gflush_any (Q T : Nat) (s : ByteArray) (w wr : World) (m : Ms) (out : List Pc) (pl : List UInt8) (vo vp : Value) (rows : List Value) (h : MgIn Q T s w wr m out pl vo vp rows) (hQ : Q < w.heap.size) (ho : out.length ≤ 2000000) (hp : pl.length ≤ 2000000) :
    Calls Tryz.prog 28 #[.pointer (some ⟨w.heap.size + 1, 0, none⟩), .pointer (some ⟨w.heap.size, 0, none⟩)] wr fun en w' => en = .returned (.tuple #[]) ∧ ∃ (vo' vp' : Value) (rows' : List Value), MgIn Q T s w w' m (flushL out pl) [] vo' vp' rows' := by
  obtain ⟨oa, oc, rfl⟩ := ownsRow_form h.oo
  obtain ⟨pa, pc, rfl⟩ := ownsRow_form h.op
  have H := Lib.hid h
  have d0 : wr.cell? ⟨w.heap.size, 0, none⟩ = some (.slice oa out.length oc) := cellT h.bo rfl
  have d1 : wr.cell? ⟨w.heap.size + 1, 0, none⟩ = some (.slice pa pl.length pc) := cellT h.bp rfl
  have f0 : wr.frozen? ⟨w.heap.size, 0, none⟩ = false := frozenT h.bo
  have f1 : wr.frozen? ⟨w.heap.size + 1, 0, none⟩ = false := frozenT h.bp
  have hz := h.lt
  clear h
  by_cases h0 : pl = []
  · subst h0
    have q : decide ((0 : Int) < (([] : List UInt8).length : Int)) = false := rfl
    have HE : Hid (flushL out [] = out) := rfl
    go_enter Tryz.func28, Tryz.ntmps28
    go_wp2_with fail
    all_goals go_end0
    all_goals exact ⟨rfl, _, _, rows, by rw [HE.out]; exact H.out⟩
  · have hpos := List.length_pos_iff.2 h0
    have q : decide (0 < pl.length) = true := decide_eq_true hpos
    have HE : Hid (flushL out pl = out ++ [.mk 0 ⟨pl.toArray⟩ []]) := by show _ = _; unfold flushL; rw [if_neg h0]
    have hcv := run_convert_own (P := Tryz.prog) wr 63 5 Tryz.underlying63 Tryz.underlying5 H.out.op 9 Tryz.underlying9
    obtain ⟨vi, hvi, hv0, hv1, hv2⟩ := info_parts infoPiece
    have HROW := Lib.hid (mown_below H.out.oo (below_alloc' wr (.cells #[.int .i64 0, .string ⟨pl.toArray⟩, .slice none 0 0] 71)))
    have HNEW := Lib.hid (mSl_lit wr [.int .i64 0, .string ⟨pl.toArray⟩, .slice none 0 0] 71 3 rfl)
    have HBO : Hid (∀ w3, (wr.alloc (.cells #[.int .i64 0, .string ⟨pl.toArray⟩, .slice none 0 0] 71)).grownBy w3 (Value.slice oa out.length oc).ownBlock → w3.heap[w.heap.size]? = wr.heap[w.heap.size]? ∧ w3.heap[w.heap.size + 1]? = wr.heap[w.heap.size + 1]?) := by
      intro w3 hg
      have hol := H.out.oo.lt
      exact ⟨(hg.block _ (by simp; omega) (fun e => by have := (hol _ e.symm).1; omega)).trans (heap_alloc_old _ _ (by omega)), (hg.block _ (by simp; omega) (fun e => by have := (hol _ e.symm).1; omega)).trans (heap_alloc_old _ _ (by omega))⟩
    have hsz : (⟨pl.toArray⟩ : ByteArray).size ≤ 2000000 := hp
    clear h0
    go_enter Tryz.func28, Tryz.ntmps28
    go_wp2_with (at_builtin; refine wpList_append_sl _ rfl _ _ 36 rfl (w.heap.size + 2) 71 vi (.agg #[.int .i64 0, .string ⟨#[]⟩, .slice none 0 0]) 3 48 Tryz.underlying36 hvi hv0 hv1 hv2 rfl (by decide) (.slice oa out.length oc) out.length rows rfl HROW.out _ 1 _ rfl HNEW.out (by simp [Value.oneCell']) (by unfold maxLen; omega) (by omega) (by simp; omega) ?_; intro v3 w3 hown3 hgr3 hat3; obtain ⟨a3, c3, rfl⟩ := ownsRow_form hown3; have HF := Lib.hid (H.out.push hQ (PcAt.made (k := 0) (t := ⟨pl.toArray⟩) (ws := []) rfl (by unfold maxLen; omega) (Sl.nil _ _ _ _) (WysAt.nil _)) hown3 hgr3 hat3); obtain ⟨fb0, fb1⟩ := HBO.out _ hgr3; have fb0 := fb0.trans H.out.bo; have fb1 := fb1.trans H.out.bp; have e0 : w3.cell? ⟨w.heap.size, 0, none⟩ = some (.slice oa out.length oc) := cellT fb0 rfl; have e1 : w3.cell? ⟨w.heap.size + 1, 0, none⟩ = some (.slice pa pl.length pc) := cellT fb1 rfl; have g0 : w3.frozen? ⟨w.heap.size, 0, none⟩ = false := frozenT fb0; have g1 : w3.frozen? ⟨w.heap.size + 1, 0, none⟩ = false := frozenT fb1; clear hown3 hgr3 hat3 fb0 fb1)
    all_goals go_end0
    all_goals exact ⟨rfl, _, _, _, by rw [HE.out]; exact HF.out.clear hQ⟩
end Go.Proofs.YtdolpehcfifecaaGreatDoor
