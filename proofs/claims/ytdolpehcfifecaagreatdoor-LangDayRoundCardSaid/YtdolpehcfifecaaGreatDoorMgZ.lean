/- (*reader).braces, message: their contracts, and what stands in memory in braces. Conditions as in the contracts. -/
import Derived.Test.YtdolpehcfifecaaGreatDoorMgY
import Derived.Test.YtdolpehcfifecaaGreatDoorApSl
import Derived.Deep.CutBlock
namespace Mh
open Go Go.RowKit
set_option linter.unusedVariables false
theorem mown_below {w w' : World} {base e k : Nat} {v : Value} {n : Nat} {xs : List Value} (h : w.ownsRow base e k v n xs) (hb : Below w.heap.size w w') : w'.ownsRow base e k v n xs := by
  refine ⟨h.1, ?_⟩
  rcases h.2 with h2 | ⟨g, cap, cur, rfl, hbg, hg, h4⟩
  · exact .inl h2
  · exact .inr ⟨g, cap, cur, rfl, hbg, (hb.block g (Array.getElem?_eq_some_iff.1 hg).1).trans hg, h4⟩
theorem mown_setLow {w : World} {base e k n b o : Nat} {v u : Value} {xs : List Value} (h : w.ownsRow base e k v n xs) (hb : b < base) : (w.setCell ⟨b, o, none⟩ u).ownsRow base e k v n xs := by
  refine ⟨h.1, ?_⟩
  rcases h.2 with h2 | ⟨g, cap, cur, rfl, hbg, hg, h4⟩
  · exact .inl h2
  · exact .inr ⟨g, cap, cur, rfl, hbg, (heap_setCell_other w ⟨b, o, none⟩ g u (by show g ≠ b; omega)).trans hg, h4⟩
theorem mown_kept {w w' : World} {S : List Nat} {base e k : Nat} {v : Value} {n : Nat} {xs : List Value} (h : w.ownsRow base e k v n xs) (hk : Kept S w w') (hS : ∀ b ∈ S, b < base) : w'.ownsRow base e k v n xs := by
  refine ⟨h.1, ?_⟩
  rcases h.2 with h2 | ⟨g, cap, cur, rfl, hbg, hg, h4⟩
  · exact .inl h2
  · exact .inr ⟨g, cap, cur, rfl, hbg, (hk.block g (Array.getElem?_eq_some_iff.1 hg).1 (fun hm => by have := hS _ hm; omega)).trans hg, h4⟩
theorem mSl_lit (w : World) (cs : List Value) (e k : Nat) (hk : cs.length = k) : Sl k (w.alloc (.cells cs.toArray e)) (.slice (some ⟨w.heap.size, 0, none⟩) 1 1) 1 cs := by
  refine ⟨by omega, .inr ⟨w.heap.size, 0, 1, rfl, by omega, by omega, by unfold maxLen; omega, by simp, fun i u hu => ?_⟩⟩
  rw [Nat.zero_add, cell_of_row _ _ _ _ _ _ (heap_alloc_new w _)]
  simpa using hu
/-- All blocks below a number. -/
def bel (n k : Nat) : Bool := decide (k < n)
theorem bel_false {n k : Nat} : bel n k = false ↔ n ≤ k := by simp [bel]
/-- A three-cell block that is written over. -/
def put3 (w : World) (g : Nat) (a b c : Value) : World := ((w.setCell ⟨g, 0, none⟩ a).setCell ⟨g, 1, none⟩ b).setCell ⟨g, 2, none⟩ c
theorem put3_at {w : World} {g : Nat} {T : TypeId} {a b c a' b' c' : Value} (h : w.heap[g]? = some (.cells #[a', b', c'] T (0, 0))) : (put3 w g a b c).heap[g]? = some (.cells #[a, b, c] T (0, 0)) :=
  heap_setCell_same _ _ 2 _ _ _ (heap_setCell_same _ _ 1 _ _ _ (heap_setCell_same _ _ 0 _ _ _ h))
theorem put3_other {w : World} {g k : Nat} {a b c : Value} (h : k ≠ g) : (put3 w g a b c).heap[k]? = w.heap[k]? := by
  unfold put3
  rw [heap_setCell_other _ _ _ _ h, heap_setCell_other _ _ _ _ h, heap_setCell_other _ _ _ _ h]
theorem put3_size {w : World} {g : Nat} {a b c : Value} : (put3 w g a b c).heap.size = w.heap.size := by simp [put3]
theorem three_of_block {w : World} {g : Nat} {T : TypeId} {a b c : Value} (h : w.heap[g]? = some (.cells #[a, b, c] T (0, 0))) :
    w.cell? ⟨g, 0, none⟩ = some a ∧ w.cell? ⟨g, 1, none⟩ = some b ∧ w.cell? ⟨g, 2, none⟩ = some c ∧ ∀ j, w.frozen? ⟨g, j, none⟩ = false :=
  ⟨cellT h rfl, cellT h rfl, cellT h rfl, fun _ => frozenT h⟩
/-- What fits a way's numbers. -/
def WyFit (W : Wy) (n : Nat) : Prop := W.wd.size ≤ n ∧ (Lit.int .i64 W.ex).wf = true ∧ (Lit.int .i64 W.fm).wf = true
theorem wf_of {n : Int} (h : -9223372036854775808 ≤ n ∧ n ≤ 9223372036854775807) : (Lit.int .i64 n).wf = true := by
  simp [Lit.wf]
  exact ⟨h.1, h.2⟩
theorem wayR_fit (kd : Int) (ws : List Wy) (u : ByteArray) : WyFit (wayR kd ws u).1 u.size := by
  have z : WyFit (.mk ⟨#[]⟩ 0 0 []) u.size := ⟨Nat.zero_le _, rfl, rfl⟩
  have y : WyFit (.mk u 0 0 []) u.size := ⟨Nat.le_refl _, rfl, rfl⟩
  unfold wayR
  split
  · unfold countP
    split
    · exact ⟨Nat.zero_le _, rfl, rfl⟩
    · split
      · exact ⟨Nat.zero_le _, wf_of (intP_wf _), rfl⟩
      · split
        · split
          · rename_i c h _
            exact ⟨Nat.zero_le _, rfl, wf_of (by show _ ≤ ((_ : Nat) : Int) ∧ ((_ : Nat) : Int) ≤ _; omega)⟩
          · exact z
        · exact z
  · split
    · exact z
    · split
      · exact y
      · exact y
theorem Ms.word_size (s : ByteArray) (m : Ms) : (Ms.word s m).1.size ≤ s.size := by
  show (s.extract _ _).size ≤ _
  rw [ByteArray.size_extract]; omega
theorem Ms.way_fit (s : ByteArray) (kd : Int) (ws : List Wy) (m : Ms) : WyFit (Ms.way s kd ws m).2 s.size := by
  have h := Ms.word_size s m
  unfold Ms.way
  simp only
  split
  · exact ⟨h, rfl, rfl⟩
  · rw [wayP_eq]
    have := wayR_fit kd ws (Ms.word s m).1
    exact ⟨Nat.le_trans this.1 h, this.2⟩
theorem Ms.way_ps (s : ByteArray) (kd : Int) (ws : List Wy) (m : Ms) : (Ms.way s kd ws m).2.ps = [] := by
  unfold Ms.way
  simp only
  split
  · rfl
  · rw [wayP_eq]; exact wayR_ps _ _ _
theorem mopen_way (s : ByteArray) (d : Nat) (kd : Int) (ws : List Wy) (m : Ms) : (mopen s d kd ws m).2.1 = (Ms.way s kd ws m).2 := by
  unfold mopen
  simp only
  split <;> rfl
theorem WyAt.with {w : World} {W : Wy} {n : Nat} {ps : List Pc} {pv : Value} {rows : List Value} (hf : WyFit W n) (hn : n ≤ maxLen) (h : Sl 3 w pv ps.length rows) (h2 : PcsAt w ps rows) : WyAt w (W.withPs ps) [.string W.wd, .int .i64 W.ex, .int .i64 W.fm, pv] :=
  WyAt.made (Nat.le_trans hf.1 hn) hf.2.1 hf.2.2 h h2
end Mh
namespace Go.Proofs.YtdolpehcfifecaaGreatDoor
open Go.RowKit Mh
set_option linter.unusedVariables false
theorem infoPiece : (Tryz.prog.info? 71).map (fun i => (i.zero, i.size, i.bytes)) = some (some (.agg #[.int .i64 0, .string ⟨#[]⟩, .slice none 0 0]), 3, 48) := by kernel_rfl
theorem infoWay : (Tryz.prog.info? 94).map (fun i => (i.zero, i.size, i.bytes)) = some (some (.agg #[.string ⟨#[]⟩, .int .i64 0, .int .i64 0, .slice none 0 0]), 4, 56) := by kernel_rfl
/-- What message leaves. -/
def MsgP (Q T : Nat) (s : ByteArray) (r : Ms × List Pc) (w : World) (en : Ending) (w' : World) : Prop := ∃ (v : Value) (rows : List Value), en = .returned v ∧ MsAt Q T s r.1 w' ∧ Kept [Q] w w' ∧ Sl 3 (veil (bel w.heap.size) w') v r.2.length rows ∧ PcsAt (veil (bel w.heap.size) w') r.2 rows
def MsgOk (d : Nat) : Prop := ∀ (Q T : Nat) (s : ByteArray) (m : Ms) (cnt : Bool) (w : World), MsAt Q T s m w → m.i ≤ s.size → m.n ≤ m.i → s.size ≤ 1000000 → EvAt w → 7 < Q →
  Calls Tryz.prog 15 #[.pointer (some ⟨Q, 0, none⟩), .int .i64 d, .bool cnt] w (MsgP Q T s (mloop s d cnt m [] []) w)
/-- What braces leaves. -/
def BrP (Q T : Nat) (s : ByteArray) (r : Ms × Pc) (w : World) (en : Ending) (w' : World) : Prop := ∃ cs : List Value, en = .returned (.agg cs.toArray) ∧ MsAt Q T s r.1 w' ∧ Kept [Q] w w' ∧ PcAt (veil (bel w.heap.size) w') r.2 cs
def BrOk (d : Nat) : Prop := ∀ (Q T : Nat) (s : ByteArray) (m : Ms) (cnt : Bool) (w : World), MsAt Q T s m w → m.i ≤ s.size → m.n ≤ m.i → s.size ≤ 1000000 → EvAt w → 7 < Q →
  Calls Tryz.prog 32 #[.pointer (some ⟨Q, 0, none⟩), .int .i64 d, .bool cnt] w (BrP Q T s (mbrace s d cnt m) w)
/-- What stands in memory in braces, once the piece is there. -/
structure BrIn (Q T : Nat) (s : ByteArray) (m : Ms) (w wr : World) (kd : Int) (name : ByteArray) (ws : List Wy) (vw : Value) (rows : List Value) (G : Nat) : Prop where
  p : MsAt Q T s m wr
  kept : Kept [Q] w wr
  rb : wr.heap[w.heap.size]? = some (.cells #[.int .i64 0, .string ⟨#[]⟩, .slice none 0 0] 71 (0, 0))
  pb : wr.heap[G]? = some (.cells #[.int .i64 kd, .string name, vw] 71 (0, 0))
  g : w.heap.size + 1 ≤ G
  own : wr.ownsRow (G + 1) 94 4 vw ws.length rows
  at_ : WysAt (veil (own1 (bel (G + 1)) vw) wr) ws rows
theorem BrIn.lt {Q T : Nat} {s : ByteArray} {m : Ms} {w wr : World} {kd : Int} {name : ByteArray} {ws : List Wy} {vw : Value} {rows : List Value} {G : Nat} (h : BrIn Q T s m w wr kd name ws vw rows G) : G < wr.heap.size := (Array.getElem?_eq_some_iff.1 h.pb).1
theorem BrIn.call {Q T : Nat} {s : ByteArray} {m m' : Ms} {w wr w2 : World} {kd : Int} {name : ByteArray} {ws : List Wy} {vw : Value} {rows : List Value} {G : Nat} (h : BrIn Q T s m w wr kd name ws vw rows G) (hQ : Q < w.heap.size) (hp : MsAt Q T s m' w2) (hk : Kept [Q] wr w2) : BrIn Q T s m' w w2 kd name ws vw rows G := by
  have hG := h.lt
  have hg := h.g
  have hn : ∀ k, w.heap.size ≤ k → k ∉ [Q] := fun k hk hm => by simp at hm; omega
  exact ⟨hp, h.kept.trans hk, (hk.block _ (by omega) (hn _ (by omega))).trans h.rb, (hk.block _ hG (hn _ (by omega))).trans h.pb, hg, mown_kept h.own hk (by simp; omega), h.at_.keeps (Keeps.kept hk (by simp [own1, bel]; omega))⟩
theorem BrIn.on {Q T : Nat} {s : ByteArray} {m : Ms} {w wr w2 : World} {kd : Int} {name : ByteArray} {ws : List Wy} {vw : Value} {rows : List Value} {G : Nat} (h : BrIn Q T s m w wr kd name ws vw rows G) (hQ : Q < w.heap.size) (hb : Below wr.heap.size wr w2) : BrIn Q T s m w w2 kd name ws vw rows G :=
  h.call hQ ((hb.block _ (Array.getElem?_eq_some_iff.1 h.p).1).trans h.p) (Kept.of_below hb)
theorem BrIn.seti {Q T : Nat} {s : ByteArray} {m : Ms} {w wr : World} {kd : Int} {name : ByteArray} {ws : List Wy} {vw : Value} {rows : List Value} {G : Nat} (h : BrIn Q T s m w wr kd name ws vw rows G) (hQ : Q < w.heap.size) (i : Nat) : BrIn Q T s (m.at i) w (wr.setCell ⟨Q, 1, none⟩ (.int .i64 i)) kd name ws vw rows G :=
  h.call hQ (h.p.set1 i) ((Kept.refl _ _).set Q 1 (by simp) _)
theorem BrIn.kind {Q T : Nat} {s : ByteArray} {m : Ms} {w wr : World} {kd : Int} {name : ByteArray} {ws : List Wy} {vw : Value} {rows : List Value} {G : Nat} (h : BrIn Q T s m w wr kd name ws vw rows G) (hQ : Q < w.heap.size) (kd' : Int) : BrIn Q T s m w (wr.setCell ⟨G, 0, none⟩ (.int .i64 kd')) kd' name ws vw rows G := by
  have hg := h.g
  refine ⟨(heap_setCell_other _ _ _ _ (by show Q ≠ G; omega)).trans h.p, h.kept.setNew _ _ (by omega) _, (heap_setCell_other _ _ _ _ (by show w.heap.size ≠ G; omega)).trans h.rb, heap_setCell_same _ _ 0 _ _ _ h.pb, hg, mown_setLow h.own (by omega), h.at_.keeps (Keeps.veils (by simp) fun k hk hs => ⟨hs, heap_setCell_other _ _ _ _ ?_⟩)⟩
  intro e
  have e : k = G := e
  subst e
  rw [own1_false, bel_false] at hs
  omega
/-- A block of the call's own, behind the piece and no row of it, turns. -/
theorem BrIn.far {Q T : Nat} {s : ByteArray} {m : Ms} {w wr : World} {kd : Int} {name : ByteArray} {ws : List Wy} {vw : Value} {rows : List Value} {G : Nat} (h : BrIn Q T s m w wr kd name ws vw rows G) (hQ : Q < w.heap.size) {X j : Nat} {u : Value} (hX : G < X) (hne : vw.ownBlock ≠ some X)
    (hat : WysAt (veil (fun k => own1 (bel (G + 1)) vw k || decide (k = X)) wr) ws rows) : BrIn Q T s m w (wr.setCell ⟨X, j, none⟩ u) kd name ws vw rows G := by
  have hg := h.g
  refine ⟨(heap_setCell_other _ _ _ _ (by show Q ≠ X; omega)).trans h.p, h.kept.setNew _ _ (by omega) _, (heap_setCell_other _ _ _ _ (by show w.heap.size ≠ X; omega)).trans h.rb, (heap_setCell_other _ _ _ _ (by show G ≠ X; omega)).trans h.pb, hg, ?_, ?_⟩
  · refine ⟨h.own.1, ?_⟩
    rcases h.own.2 with h2 | ⟨g, cap, cur, rfl, hbg, hgb, h4⟩
    · exact .inl h2
    · exact .inr ⟨g, cap, cur, rfl, hbg, (heap_setCell_other _ _ _ _ (by show g ≠ X; intro e; exact hne (by rw [← e]; rfl))).trans hgb, h4⟩
  · refine hat.keeps (Keeps.veils (by simp) fun k hk hs => ?_)
    rw [Bool.or_eq_false_iff, decide_eq_false_iff_not] at hs
    exact ⟨hs.1, heap_setCell_other _ _ _ _ hs.2⟩
/-- A way more. -/
theorem BrIn.more {Q T : Nat} {s : ByteArray} {m : Ms} {w wr w3 : World} {kd : Int} {name : ByteArray} {ws : List Wy} {vw v' : Value} {rows cs : List Value} {G : Nat} {W : Wy} {ob : Obj} (h : BrIn Q T s m w wr kd name ws vw rows G) (hQ : Q < w.heap.size)
    (hW : WyAt (veil (own1 (bel (G + 1)) vw) wr) W cs) (hown : w3.ownsRow (G + 1) 94 4 v' (ws.length + 1) (rows ++ cs)) (hg : (wr.alloc ob).grownBy w3 vw.ownBlock) (hat : v'.ownBlock = vw.ownBlock ∨ v'.ownBlock = some (wr.alloc ob).heap.size) :
    BrIn Q T s m w (w3.setCell ⟨G, 2, none⟩ v') kd name (ws ++ [W]) v' (rows ++ cs) G := by
  have hG := h.lt
  have hg0 := h.g
  have hol := h.own.lt
  have hsz := hg.size
  simp at hsz
  have hne : ∀ k, k < G + 1 → some k ≠ vw.ownBlock := fun k hk e => by have := (hol k e.symm).1; omega
  have hold : ∀ k, k < G + 1 → w3.heap[k]? = wr.heap[k]? := fun k hk => (hg.block k (by simp; omega) (hne k hk)).trans (heap_alloc_old _ _ (by omega))
  have hK : Keeps (veil (own1 (bel (G + 1)) vw) wr) (veil (own1 (bel (G + 1)) v') (w3.setCell ⟨G, 2, none⟩ v')) :=
    ((Keeps.belows ((Below.refl _ wr).alloc (Nat.le_refl _) ob)).trans (Keeps.grown hg hat)).trans (Keeps.veils (by simp) fun k hk1 hs => ⟨hs, heap_setCell_other _ _ _ _ (by
      intro e
      have e : k = G := e
      subst e
      rw [own1_false, bel_false] at hs
      omega)⟩)
  refine ⟨?_, ?_, ?_, ?_, hg0, ?_, ?_⟩
  · exact ((heap_setCell_other _ _ _ _ (by show Q ≠ G; omega)).trans (hold Q (by omega))).trans h.p
  · have k3 : Kept [Q] w w3 := ⟨hg.os.trans h.kept.os, hg.tape.trans h.kept.tape, hg.output.trans h.kept.output, by have := h.kept.size; omega, fun k hk1 hs => (hold k (by omega)).trans (h.kept.block k hk1 hs)⟩
    exact k3.setNew _ 2 (by omega) _
  · exact ((heap_setCell_other _ _ _ _ (by show w.heap.size ≠ G; omega)).trans (hold _ (by omega))).trans h.rb
  · have hb3 := (hold G (by omega)).trans h.pb
    rw [heap_setCell_same _ _ 2 _ _ _ hb3]; rfl
  · have := mown_setLow (b := G) (o := 2) (u := v') hown (by omega)
    rwa [List.length_append]
  · exact WysAt.append (h.at_.keeps hK) (WysAt.one (hW.keeps hK))
/-- The piece goes into the result. -/
theorem BrIn.fin {Q T : Nat} {s : ByteArray} {m : Ms} {w wr : World} {kd : Int} {name : ByteArray} {ws : List Wy} {vw : Value} {rows : List Value} {G : Nat} (h : BrIn Q T s m w wr kd name ws vw rows G) (hQ : Q < w.heap.size) (hkd : kd = 1 ∨ kd = 2 ∨ kd = 3) (hname : name.size ≤ maxLen) :
    MsAt Q T s m (put3 wr w.heap.size (.int .i64 kd) (.string name) vw) ∧ Kept [Q] w (put3 wr w.heap.size (.int .i64 kd) (.string name) vw) ∧
    PcAt (veil (bel w.heap.size) (put3 wr w.heap.size (.int .i64 kd) (.string name) vw)) (.mk kd name ws) [.int .i64 kd, .string name, vw] ∧
    (put3 wr w.heap.size (.int .i64 kd) (.string name) vw).heap[w.heap.size]? = some (.cells #[.int .i64 kd, .string name, vw] 71 (0, 0)) := by
  have hg := h.g
  have hlow : ∀ k, G + 1 ≤ k → bel w.heap.size k = false ∧ (put3 wr w.heap.size (.int .i64 kd) (.string name) vw).heap[k]? = wr.heap[k]? := fun k hk => ⟨by rw [bel_false]; omega, put3_other (by omega)⟩
  refine ⟨(put3_other (by omega)).trans h.p, ?_, PcAt.made (wf_of (by rcases hkd with rfl | rfl | rfl <;> omega)) hname (rows := rows) ?_ ?_, put3_at h.rb⟩
  · unfold put3
    exact ((h.kept.setNew _ _ (Nat.le_refl _) _).setNew _ _ (Nat.le_refl _) _).setNew _ _ (Nat.le_refl _) _
  · refine (Sl.of_own_veil (S := bel (G + 1)) h.own (by decide) fun b hb => by rw [bel_false]; exact hb).keeps (Keeps.veils (by rw [put3_size]; exact Nat.le_refl _) fun k hk hs => ?_)
    rw [bel_false] at hs
    exact hlow k hs
  · refine h.at_.keeps (Keeps.veils (by rw [put3_size]; exact Nat.le_refl _) fun k hk hs => ?_)
    rw [own1_false, bel_false] at hs
    exact hlow k hs.1
end Go.Proofs.YtdolpehcfifecaaGreatDoor
