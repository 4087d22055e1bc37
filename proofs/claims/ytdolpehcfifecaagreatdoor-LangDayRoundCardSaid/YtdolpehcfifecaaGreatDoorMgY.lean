/- (*reader).way: the word of a way, and whether it can be there. Conditions: the reader stands in the string; the ways so far lie apart from the reader; the variable strconv.ErrRange holds an error. -/
import Derived.Test.YtdolpehcfifecaaGreatDoorMgX
import Derived.Deep.CutBlock
import Derived.StillTailTactics
namespace Mh
open Go Go.RowKit
set_option linter.unusedVariables false
/-- What the word of a way gives, before it is held against the other ways. -/
def wayR (kd : Int) (ws : List Wy) (s : ByteArray) : Wy × Int :=
  if kd = 3 then countP s
  else if s = otherW ∧ ws ≠ [] then (.mk ⟨#[]⟩ 0 0 [], 0)
  else if s = otherW ∨ s.data.toList.head? = some 61 then (.mk s 0 0 [], 8)
  else (.mk s 0 0 [], 0)
def eOf (r : Wy × Int) (ws : List Wy) (k : Nat) : Int := if r.2 = 0 ∧ (ws.take k).any (fun x => sameWy x r.1) = true then 6 else r.2
theorem wayP_eq (kd : Int) (ws : List Wy) (s : ByteArray) : wayP kd ws s = ((wayR kd ws s).1, eOf (wayR kd ws s) ws ws.length) := by
  unfold eOf
  rw [List.take_length]
  rfl
theorem eOf_zero (r : Wy × Int) (ws : List Wy) : eOf r ws 0 = r.2 := by unfold eOf; rw [if_neg (by simp)]
theorem eOf_succ (r : Wy × Int) (ws : List Wy) (k : Nat) (h : k < ws.length) : eOf r ws (k + 1) = if eOf r ws k = 0 then (if sameWy ws[k] r.1 = true then 6 else 0) else eOf r ws k := by
  unfold eOf
  rw [List.take_succ_eq_append_getElem h, List.any_append]
  simp only [List.any_cons, List.any_nil, Bool.or_false, Bool.or_eq_true]
  by_cases h2 : r.2 = 0
  · by_cases ha : (ws.take k).any (fun x => sameWy x r.1) = true
    · rw [if_pos (show r.2 = 0 ∧ ((ws.take k).any (fun x => sameWy x r.1) = true ∨ sameWy ws[k] r.1 = true) from ⟨h2, .inl ha⟩)]
      rw [if_pos (show r.2 = 0 ∧ (ws.take k).any (fun x => sameWy x r.1) = true from ⟨h2, ha⟩)]
      rw [if_neg (show ¬ (6 : Int) = 0 by decide)]
    · rw [if_neg (show ¬ (r.2 = 0 ∧ (ws.take k).any (fun x => sameWy x r.1) = true) from fun h => ha h.2), if_pos h2]
      by_cases hb : sameWy ws[k] r.1 = true
      · rw [if_pos (show r.2 = 0 ∧ ((ws.take k).any (fun x => sameWy x r.1) = true ∨ sameWy ws[k] r.1 = true) from ⟨h2, .inr hb⟩), if_pos hb]
      · rw [if_neg (show ¬ (r.2 = 0 ∧ ((ws.take k).any (fun x => sameWy x r.1) = true ∨ sameWy ws[k] r.1 = true)) from fun h => h.2.elim ha hb), if_neg hb, h2]
  · rw [if_neg (show ¬ (r.2 = 0 ∧ ((ws.take k).any (fun x => sameWy x r.1) = true ∨ sameWy ws[k] r.1 = true)) from fun h => h2 h.1), if_neg (show ¬ (r.2 = 0 ∧ (ws.take k).any (fun x => sameWy x r.1) = true) from fun h => h2 h.1), if_neg h2]
theorem wayR_ps (kd : Int) (ws : List Wy) (s : ByteArray) : (wayR kd ws s).1.ps = [] := by
  unfold wayR
  split
  · unfold countP
    split
    · rfl
    · split
      · rfl
      · split
        · split <;> rfl
        · rfl
  · split
    · rfl
    · split <;> rfl
theorem WysAt.row {w : World} {a : Option Addr} {c n : Nat} {ws : List Wy} {rows : List Value} (hs : Sl 4 w (.slice a n c) n rows) (hn : n = ws.length) (h : WysAt w ws rows) (k : Nat) (hk : k < ws.length) :
    ∃ b off pa pc, a = some ⟨b, off, none⟩ ∧ n ≤ c ∧ c ≤ maxLen ∧ b < w.heap.size ∧ w.cell? ⟨b, off + k * 4, none⟩ = some (.string ws[k].wd) ∧ w.cell? ⟨b, off + k * 4 + 1, none⟩ = some (.int .i64 ws[k].ex) ∧ w.cell? ⟨b, off + k * 4 + 2, none⟩ = some (.int .i64 ws[k].fm) ∧ w.cell? ⟨b, off + k * 4 + 3, none⟩ = some (.slice pa ws[k].ps.length pc) := by
  subst hn
  obtain ⟨cs, h1, h2⟩ := h.get k hk
  obtain ⟨pa, pc, r, h3, _⟩ := h1.opened
  rcases hs.2 with ⟨h0, _⟩ | ⟨b, off, c', he, h4, h5, h6, h7, h8⟩
  · omega
  · simp only [Value.slice.injEq, true_and] at he
    obtain ⟨rfl, rfl⟩ := he
    subst h3
    refine ⟨b, off, pa, pc, rfl, h5, h6, h7, ?_, ?_, ?_, ?_⟩
    · have := h8 (k * 4 + 0) _ (by rw [h2 0 (by omega)]; rfl); rwa [Nat.add_zero] at this
    · have := h8 (k * 4 + 1) _ (by rw [h2 1 (by omega)]; rfl); rwa [← Nat.add_assoc] at this
    · have := h8 (k * 4 + 2) _ (by rw [h2 2 (by omega)]; rfl); rwa [← Nat.add_assoc] at this
    · have := h8 (k * 4 + 3) _ (by rw [h2 3 (by omega)]; rfl); rwa [← Nat.add_assoc] at this
theorem four_later {w w' : World} {b o : Nat} {x y z u : Value} (hk : Keeps w w') (h : w.cell? ⟨b, o, none⟩ = some x ∧ w.cell? ⟨b, o + 1, none⟩ = some y ∧ w.cell? ⟨b, o + 2, none⟩ = some z ∧ w.cell? ⟨b, o + 3, none⟩ = some u) :
    w'.cell? ⟨b, o, none⟩ = some x ∧ w'.cell? ⟨b, o + 1, none⟩ = some y ∧ w'.cell? ⟨b, o + 2, none⟩ = some z ∧ w'.cell? ⟨b, o + 3, none⟩ = some u :=
  ⟨hk.cell _ _ _ h.1, hk.cell _ _ _ h.2.1, hk.cell _ _ _ h.2.2.1, hk.cell _ _ _ h.2.2.2⟩
theorem below_alloc' (w : World) (o : Obj) : Below w.heap.size w (w.alloc o) := (Below.refl _ w).alloc (Nat.le_refl _) _
theorem mstr_ne {a b : ByteArray} (h : a ≠ b) : (a.toList == b.toList) = false := by
  rw [ByteArray.toList_eq, ByteArray.toList_eq]
  refine beq_false_of_ne fun e => h ?_
  cases a with | mk x => cases b with | mk y => cases x; cases y; simp only at e; rw [e]
/-- A veil over one block. -/
def onlyS (Q : Nat) (k : Nat) : Bool := decide (k = Q)
end Mh
namespace Go.Proofs.YtdolpehcfifecaaGreatDoor
open Go.RowKit Mh
set_option linter.unusedVariables false
/-- What stands in memory in way. -/
structure WaIn (Q T : Nat) (s : ByteArray) (m : Ms) (w wr : World) (kd : Int) (name : ByteArray) (sv : Value) (G : Nat) (W : Wy) : Prop where
  p : MsAt Q T s m wr
  kept : Kept [Q] w wr
  pb : wr.heap[w.heap.size]? = some (.cells #[.int .i64 kd, .string name, sv] 71 (0, 0))
  rb : wr.heap[w.heap.size + 1]? = some (.cells #[.string ⟨#[]⟩, .int .i64 0, .int .i64 0, .slice none 0 0] 94 (0, 0))
  wb : wr.heap[G]? = some (.cells #[.string W.wd, .int .i64 W.ex, .int .i64 W.fm, .slice none 0 0] 94 (0, 0))
  g : w.heap.size + 2 ≤ G
theorem WaIn.on {Q T : Nat} {s : ByteArray} {m : Ms} {w wr w2 : World} {kd : Int} {name : ByteArray} {sv : Value} {G : Nat} {W : Wy} (h : WaIn Q T s m w wr kd name sv G W) (hb : Below wr.heap.size wr w2) : WaIn Q T s m w w2 kd name sv G W := by
  have hG := (Array.getElem?_eq_some_iff.1 h.wb).1
  have hg := h.g
  exact ⟨(hb.block _ (Array.getElem?_eq_some_iff.1 h.p).1).trans h.p, h.kept.trans (Kept.of_below hb), (hb.block _ (by omega)).trans h.pb, (hb.block _ (by omega)).trans h.rb, (hb.block _ hG).trans h.wb, hg⟩
theorem WaIn.call {Q T : Nat} {s : ByteArray} {m m' : Ms} {w wr w2 : World} {kd : Int} {name : ByteArray} {sv : Value} {G : Nat} {W : Wy} (h : WaIn Q T s m w wr kd name sv G W) (hQ : Q < w.heap.size) (hp : MsAt Q T s m' w2) (hk : Kept [Q] wr w2) : WaIn Q T s m' w w2 kd name sv G W := by
  have hG := (Array.getElem?_eq_some_iff.1 h.wb).1
  have hg := h.g
  have hn : ∀ k, w.heap.size ≤ k → k ∉ [Q] := fun k hk hm => by simp at hm; omega
  exact ⟨hp, h.kept.trans hk, (hk.block _ (by omega) (hn _ (by omega))).trans h.pb, (hk.block _ (by omega) (hn _ (by omega))).trans h.rb, (hk.block _ hG (hn _ (by omega))).trans h.wb, hg⟩
theorem WaIn.put {Q T : Nat} {s : ByteArray} {m : Ms} {w wr : World} {kd : Int} {name : ByteArray} {sv : Value} {G : Nat} {W : Wy} (h : WaIn Q T s m w wr kd name sv G W) (hQ : Q < w.heap.size) (W' : Wy) : WaIn Q T s m w (put4 wr G (.string W'.wd) (.int .i64 W'.ex) (.int .i64 W'.fm) (.slice none 0 0)) kd name sv G W' := by
  have hg := h.g
  refine ⟨(put4_other (by omega)).trans h.p, ?_, (put4_other (by omega)).trans h.pb, (put4_other (by omega)).trans h.rb, put4_at h.wb, hg⟩
  unfold put4
  exact (((h.kept.setNew _ _ (by omega) _).setNew _ _ (by omega) _).setNew _ _ (by omega) _).setNew _ _ (by omega) _
theorem WaIn.putWd {Q T : Nat} {s : ByteArray} {m : Ms} {w wr : World} {kd : Int} {name : ByteArray} {sv : Value} {G : Nat} {u : ByteArray} {x f : Int} (h : WaIn Q T s m w wr kd name sv G (.mk u x f [])) (hQ : Q < w.heap.size) (u' : ByteArray) : WaIn Q T s m w (wr.setCell ⟨G, 0, none⟩ (.string u')) kd name sv G (.mk u' x f []) := by
  have hg := h.g
  exact ⟨(heap_setCell_other _ _ _ _ (by show Q ≠ G; omega)).trans h.p, h.kept.setNew _ _ (by omega) _, (heap_setCell_other _ _ _ _ (by show w.heap.size ≠ G; omega)).trans h.pb, (heap_setCell_other _ _ _ _ (by show w.heap.size + 1 ≠ G; omega)).trans h.rb, heap_setCell_same _ _ 0 _ _ _ h.wb, hg⟩
/-- The way goes into the result. -/
theorem WaIn.fin {Q T : Nat} {s : ByteArray} {m : Ms} {w wr : World} {kd : Int} {name : ByteArray} {sv : Value} {G : Nat} {W : Wy} (h : WaIn Q T s m w wr kd name sv G W) (hQ : Q < w.heap.size) :
    MsAt Q T s m (put4 wr (w.heap.size + 1) (.string W.wd) (.int .i64 W.ex) (.int .i64 W.fm) (.slice none 0 0)) ∧ Kept [Q] w (put4 wr (w.heap.size + 1) (.string W.wd) (.int .i64 W.ex) (.int .i64 W.fm) (.slice none 0 0)) ∧
    (put4 wr (w.heap.size + 1) (.string W.wd) (.int .i64 W.ex) (.int .i64 W.fm) (.slice none 0 0)).heap[w.heap.size + 1]? = some (.cells #[.string W.wd, .int .i64 W.ex, .int .i64 W.fm, .slice none 0 0] 94 (0, 0)) := by
  have hg := h.g
  refine ⟨(put4_other (by omega)).trans h.p, ?_, put4_at h.rb⟩
  unfold put4
  exact (((h.kept.setNew _ _ (by omega) _).setNew _ _ (by omega) _).setNew _ _ (by omega) _).setNew _ _ (by omega) _
set_option maxRecDepth 100000 in
set_option maxHeartbeats 8000000 in
theorem gway_any (Q T : Nat) (s : ByteArray) (m : Ms) (kd : Int) (name : ByteArray) (ws : List Wy) (a : Option Addr) (c : Nat) (rows : List Value) (w : World) (h : MsAt Q T s m w) (hi : m.i ≤ s.size) (hs : s.size ≤ 1000000) (hev : EvAt w) (hQ2 : 7 < Q)
    (hsl : Sl 4 (veil (onlyS Q) w) (.slice a ws.length c) ws.length rows) (hws : WysAt (veil (onlyS Q) w) ws rows) (hn : ws.length ≤ 1000000) :
    Calls Tryz.prog 53 #[.pointer (some ⟨Q, 0, none⟩), .agg #[.int .i64 kd, .string name, .slice a ws.length c]] w fun en w' => en = .returned (.agg #[.string (Ms.way s kd ws m).2.wd, .int .i64 (Ms.way s kd ws m).2.ex, .int .i64 (Ms.way s kd ws m).2.fm, .slice none 0 0]) ∧ MsAt Q T s (Ms.way s kd ws m).1 w' ∧ Kept [Q] w w' := by
  have hQ : Q < w.heap.size := (Array.getElem?_eq_some_iff.1 h).1
  have HROW := Lib.hid (fun k hk => WysAt.row hsl rfl hws k hk)
  have HEV := Lib.hid hev
  have HK0 : Hid (Kept [Q] w ((w.alloc (.cells #[.int .i64 kd, .string name, .slice a ws.length c] 71)).alloc (.cells #[.string ⟨#[]⟩, .int .i64 0, .int .i64 0, .slice none 0 0] 94))) := ((Kept.refl _ _).alloc _).alloc _
  have HB0 : Hid (((w.alloc (.cells #[.int .i64 kd, .string name, .slice a ws.length c] 71)).alloc (.cells #[.string ⟨#[]⟩, .int .i64 0, .int .i64 0, .slice none 0 0] 94)).heap[w.heap.size]? = some (.cells #[.int .i64 kd, .string name, .slice a ws.length c] 71 (0, 0))) := (heap_alloc_old _ _ (by simp)).trans (heap_alloc_new _ _)
  have HB1 : Hid (((w.alloc (.cells #[.int .i64 kd, .string name, .slice a ws.length c] 71)).alloc (.cells #[.string ⟨#[]⟩, .int .i64 0, .int .i64 0, .slice none 0 0] 94)).heap[w.heap.size + 1]? = some (.cells #[.string ⟨#[]⟩, .int .i64 0, .int .i64 0, .slice none 0 0] 94 (0, 0))) := heap_new_at (by simp)
  have HM0 : Hid (MsAt Q T s m ((w.alloc (.cells #[.int .i64 kd, .string name, .slice a ws.length c] 71)).alloc (.cells #[.string ⟨#[]⟩, .int .i64 0, .int .i64 0, .slice none 0 0] 94))) := (heap_alloc_old _ _ (by simp; omega)).trans ((heap_alloc_old _ _ hQ).trans h)
  have HWD := Lib.hid (gword_any Q T s m _ HM0.out hi hs)
  have HWAY : Hid (Ms.way s kd ws m = if (Ms.word s m).2.2.e ≠ 0 then ((Ms.word s m).2.2, .mk (Ms.word s m).1 0 0 []) else (if (wayP kd ws (Ms.word s m).1).2 ≠ 0 then (Ms.word s m).2.2.fail (Ms.word s m).2.1 (wayP kd ws (Ms.word s m).1).2 else (Ms.word s m).2.2, (wayP kd ws (Ms.word s m).1).1)) := rfl
  have HWE : Hid ((Ms.word s m).2.2.e = 0 → 0 < (Ms.word s m).1.size) := by
    intro he
    have h1 : (Ms.word s m).1.size = wordEnd s (skipP s m.i) - skipP s m.i := by
      show (s.extract _ _).size = _
      rw [ByteArray.size_extract]
      have := wordEnd_le (skipP_le hi)
      omega
    have h2 := wordEnd_ge s (skipP s m.i)
    by_cases hk : wordEnd s (skipP s m.i) = skipP s m.i
    · exfalso
      unfold Ms.word at he
      simp only [hk, if_true] at he
      exact Ms.wrong_e _ _ he
    · omega
  have hsz : (Ms.word s m).1.size ≤ 1000000 := by
    show (s.extract _ _).size ≤ _
    rw [ByteArray.size_extract]; omega
  have hat := Ms.word_n s m
  generalize Ms.way s kd ws m = RES at HWAY ⊢
  generalize Ms.word s m = WD at HWD HWAY HWE hsz hat
  obtain ⟨u, at_, m'⟩ := WD
  simp only at HWAY HWE hsz hat
  clear h hev hsl hws hat
  go_enter Tryz.func53, Tryz.ntmps53
  go_upto_block 0 with (go_at_call 49; refine HWD.out.mono ?_; rintro e w1 ⟨rfl, h1, h2⟩; have HP1 := Lib.hid h1; have HK1 := Lib.hid h2; clear h1 h2)
  have H1 : Hid (WaIn Q T s m' w (w1.alloc (.cells #[.string u, .int .i64 0, .int .i64 0, .slice none 0 0] 94)) kd name (.slice a ws.length c) w1.heap.size (.mk u 0 0 [])) := by
    have hz1 := HK1.out.size
    simp at hz1
    exact ⟨(heap_alloc_old _ _ (by omega)).trans HP1.out, (HK0.out.trans HK1.out).alloc _, (heap_alloc_old _ _ (by omega)).trans ((HK1.out.block w.heap.size (by simp; omega) (by simp; omega)).trans HB0.out), (heap_alloc_old _ _ (by omega)).trans ((HK1.out.block (w.heap.size + 1) (by simp) (by simp; omega)).trans HB1.out), heap_alloc_new _ _, hz1⟩
  have HEV1 : Hid (EvAt (w1.alloc (.cells #[.string u, .int .i64 0, .int .i64 0, .slice none 0 0] 94))) := HEV.out.kept H1.out.kept (by simp; omega)
  obtain ⟨W1, hW1⟩ : ∃ W1, W1 = (w1.alloc (.cells #[.string u, .int .i64 0, .int .i64 0, .slice none 0 0] 94)) := ⟨_, rfl⟩
  rw [← hW1] at H1 HEV1 ⊢
  clear hW1 HK0 HB0 HB1 HM0 HWD HP1 HK1
  generalize w1.heap.size = G at H1 ⊢
  have hG := H1.out.g
  obtain ⟨c0, c1, c2, c3, c4, fz⟩ := H1.out.p.cells
  obtain ⟨x0, x1, x2, x3, fx⟩ := four_of_block H1.out.wb
  obtain ⟨y0, y1, y2, y3, fy⟩ := four_of_block H1.out.rb
  have p0 : W1.cell? ⟨w.heap.size, 0, none⟩ = some (.int .i64 kd) := cellT H1.out.pb rfl
  have p2 : W1.cell? ⟨w.heap.size, 2, none⟩ = some (.slice a ws.length c) := cellT H1.out.pb rfl
  by_cases he : m'.e = 0
  · have be : (m'.e != 0) = false := by rw [bne_eq_false_iff_eq]; exact he
    have HRR : Hid (wayR kd ws u = if kd = 3 then countP u else if u = otherW ∧ ws ≠ [] then (.mk ⟨#[]⟩ 0 0 [], 0) else if u = otherW ∨ u.data.toList.head? = some 61 then (.mk u 0 0 [], 8) else (.mk u 0 0 [], 0)) := rfl
    have hu0 := HWE.out he
    have HH := Lib.hid (mhead_at hu0)
    have HR : Hid (RES = (if eOf (wayR kd ws u) ws ws.length ≠ 0 then m'.fail at_ (eOf (wayR kd ws u) ws ws.length) else m', (wayR kd ws u).1)) := by show _ = _; rw [HWAY.out, if_neg (by rw [he]; simp), wayP_eq]
    clear he HWAY HWE
    obtain ⟨R, hR⟩ : ∃ R, R = wayR kd ws u := ⟨_, rfl⟩
    rw [← hR] at HRR HR
    clear hR
    go_cut [8] from 18 to 51 (fun s8 wx => s8 = .int .i64 (R).2 ∧ Hid (WaIn Q T s m' w wx kd name (.slice a ws.length c) G (R).1))
    case first =>
      by_cases hk : kd = 3
      · have bk : (kd == 3) = true := by rw [beq_iff_eq]; exact hk
        have HE : Hid (R = countP u) := by show _ = _; rw [HRR.out, if_pos hk]
        have HCW := Lib.hid (gcountWay_any u W1 hsz hu0 HEV1.out)
        clear hk HRR x0 x1 x2 x3 fx
        go_wp2_with (go_at_call 63; refine HCW.out.mono ?_; rintro e w3 ⟨rfl, hb⟩; have H3 := Lib.hid (H1.out.on hb); obtain ⟨x0, x1, x2, x3, fx⟩ := four_of_block H3.out.wb; clear hb)
        have hput := H3.out.put hQ (countP u).1
        unfold put4 at hput
        go_meet
        exact ⟨by rw [HE.out], by rw [HE.out]; exact hput⟩
      have bk : (kd == 3) = false := by rw [beq_eq_false_iff_ne]; exact hk
      by_cases ho : u = otherW
      · have q : (u.toList == [111, 116, 104, 101, 114]) = true := mlist_at (by rw [ho]; rfl)
        by_cases hw0 : ws = []
        · have q2 : decide (0 < ws.length) = false := by rw [hw0]; rfl
          have HE : Hid (R = (.mk u 0 0 [], 8)) := by show _ = _; rw [HRR.out, if_neg hk, if_neg (fun h => h.2 hw0), if_pos (.inl ho)]
          clear hk HRR ho hw0
          go_wp2_with fail
          go_meet
          exact ⟨by rw [HE.out], by rw [HE.out]; exact H1⟩
        · have q2 : decide (0 < ws.length) = true := decide_eq_true (List.length_pos_iff.2 hw0)
          have HE : Hid (R = (.mk ⟨#[]⟩ 0 0 [], 0)) := by show _ = _; rw [HRR.out, if_neg hk, if_pos ⟨ho, hw0⟩]
          clear hk HRR ho hw0
          have hput := H1.out.putWd hQ ⟨#[]⟩
          go_wp2_with fail
          go_meet
          exact ⟨by rw [HE.out], by rw [HE.out]; exact hput⟩
      have q : (u.toList == [111, 116, 104, 101, 114]) = false := mlist_not (fun h => ho (by cases u with | mk d => cases d with | mk l => simp only at h; rw [h]; rfl))
      by_cases h61 : u[0].toNat = 61
      · have b61 : ((u[0].toNat : Int) == 61) = true := by rw [beq_iff_eq]; omega
        have HE : Hid (R = (.mk u 0 0 [], 8)) := by show _ = _; rw [HRR.out, if_neg hk, if_neg (fun h => ho h.1), if_pos (.inr (by rw [HH.out]; congr 1; exact UInt8.toNat_inj.1 h61))]
        clear hk HRR ho h61
        go_wp2_with fail
        go_meet
        exact ⟨by rw [HE.out], by rw [HE.out]; exact H1⟩
      · have b61 : ((u[0].toNat : Int) == 61) = false := by rw [beq_eq_false_iff_ne]; omega
        have HE : Hid (R = (.mk u 0 0 [], 0)) := by
          show _ = _
          rw [HRR.out, if_neg hk, if_neg (fun h => ho h.1), if_neg]
          rintro (h | h)
          · exact ho h
          · rw [HH.out] at h; exact h61 (by rw [Option.some.inj h]; rfl)
        clear hk HRR ho h61
        go_wp2_with fail
        go_meet
        exact ⟨by rw [HE.out], by rw [HE.out]; exact H1⟩
    case rest =>
      obtain ⟨rfl, H4⟩ := hcut
      clear H1 HEV1 c0 c1 c2 c3 c4 fz x0 x1 x2 x3 fx y0 y1 y2 y3 fy p0 p2 HRR
      have p2 : wc.cell? ⟨w.heap.size, 2, none⟩ = some (.slice a ws.length c) := cellT H4.out.pb rfl
      go_wp2_with fail
      go_loopw [8, 55] (fun v i wr => ∃ k : Nat, k ≤ ws.length ∧ v = .int .i64 (eOf R ws k) ∧ i = .int .i64 k ∧ Hid (WaIn Q T s m' w wr kd name (.slice a ws.length c) G R.1)) (fun _ i _ => ws.length - (intOf i).toNat)
      case atStart => exact ⟨0, Nat.zero_le _, by rw [eOf_zero], rfl, H4⟩
      case round =>
        obtain ⟨k, hk, rfl, rfl, HI⟩ := hrel
        clear H4 p2
        by_cases hlt : k < ws.length
        · obtain ⟨b, off, pa, pc, hae, hc1, hc2, hb, g0, g1, g2, g3⟩ := HROW.out k hlt
          unfold maxLen at hc2
          obtain ⟨d0, d1, d2, d3⟩ := four_later ((Keeps.kept HI.out.kept (by simp [onlyS])).trans (Keeps.bare (onlyS Q) wr)) ⟨g0, g1, g2, g3⟩
          have hba := below_alloc' wr (.cells #[.string ws[k].wd, .int .i64 ws[k].ex, .int .i64 ws[k].fm, .slice pa ws[k].ps.length pc] 94)
          have HX : Hid ((wr.alloc (.cells #[.string ws[k].wd, .int .i64 ws[k].ex, .int .i64 ws[k].fm, .slice pa ws[k].ps.length pc] 94)).heap[wr.heap.size]? = some (.cells #[.string ws[k].wd, .int .i64 ws[k].ex, .int .i64 ws[k].fm, .slice pa ws[k].ps.length pc] 94 (0, 0))) := heap_alloc_new _ _
          have HI2 := Lib.hid (HI.out.on hba)
          have HES := Lib.hid (eOf_succ R ws k hlt)
          subst hae
          clear hba g0 g1 g2 g3 HROW
          go_upto_region 15 with fail
          obtain ⟨W2, hW2⟩ : ∃ W2, W2 = wr.alloc (.cells #[.string ws[k].wd, .int .i64 ws[k].ex, .int .i64 ws[k].fm, .slice pa ws[k].ps.length pc] 94) := ⟨_, rfl⟩
          rw [← hW2] at HX HI2 ⊢
          clear hW2 d0 d1 d2 d3
          generalize wr.heap.size = XB at HX ⊢
          generalize eOf R ws k = E at HES ⊢
          obtain ⟨x0, x1, x2, x3, fx⟩ := four_of_block HX.out
          obtain ⟨y0, y1, y2, y3, fy⟩ := four_of_block HI2.out.wb
          have HSW : Hid (sameWy ws[k] R.1 = (decide (ws[k].wd = R.1.wd) && (decide (ws[k].ex = R.1.ex) && decide (ws[k].fm = R.1.fm)))) := rfl
          have hm : ws.length - (k + 1) < ws.length - k := by omega
          by_cases he : E = 0
          · have be : (E == 0) = true := by rw [beq_iff_eq]; exact he
            have HES2 : Hid (eOf R ws (k + 1) = if sameWy ws[k] R.1 = true then 6 else 0) := by show _ = _; rw [HES.out, if_pos he]
            subst he
            by_cases h1 : ws[k].wd = R.1.wd
            · have q1 : (ws[k].wd.toList == R.1.wd.toList) = true := by rw [h1]; simp
              by_cases h2 : ws[k].ex = R.1.ex
              · have q2 : (ws[k].ex == R.1.ex) = true := by rw [beq_iff_eq]; exact h2
                by_cases h3 : ws[k].fm = R.1.fm
                · have q3 : (ws[k].fm == R.1.fm) = true := by rw [beq_iff_eq]; exact h3
                  have HE2 : Hid (eOf R ws (k + 1) = 6) := by show _ = _; rw [HES2.out, if_pos (by rw [HSW.out, decide_eq_true h1, decide_eq_true h2, decide_eq_true h3]; rfl)]
                  clear h1 h2 h3
                  go_wp2_with fail
                  go_roundw
                  case rel => exact ⟨k + 1, by omega, by rw [HE2.out], by go_num, HI2⟩
                  case measure => simp [intOf]; omega
                · have q3 : (ws[k].fm == R.1.fm) = false := by rw [beq_eq_false_iff_ne]; exact h3
                  have HE2 : Hid (eOf R ws (k + 1) = 0) := by show _ = _; rw [HES2.out, if_neg (by rw [HSW.out, decide_eq_false h3]; simp)]
                  clear h1 h2 h3
                  go_wp2_with fail
                  go_roundw
                  case rel => exact ⟨k + 1, by omega, by rw [HE2.out], by go_num, HI2⟩
                  case measure => simp [intOf]; omega
              · have q2 : (ws[k].ex == R.1.ex) = false := by rw [beq_eq_false_iff_ne]; exact h2
                have HE2 : Hid (eOf R ws (k + 1) = 0) := by show _ = _; rw [HES2.out, if_neg (by rw [HSW.out, decide_eq_false h2]; simp)]
                clear h1 h2
                go_wp2_with fail
                go_roundw
                case rel => exact ⟨k + 1, by omega, by rw [HE2.out], by go_num, HI2⟩
                case measure => simp [intOf]; omega
            · have q1 : (ws[k].wd.toList == R.1.wd.toList) = false := mstr_ne h1
              have HE2 : Hid (eOf R ws (k + 1) = 0) := by show _ = _; rw [HES2.out, if_neg (by rw [HSW.out, decide_eq_false h1]; simp)]
              clear h1
              go_wp2_with fail
              go_roundw
              case rel => exact ⟨k + 1, by omega, by rw [HE2.out], by go_num, HI2⟩
              case measure => simp [intOf]; omega
          · have be : (E == 0) = false := by rw [beq_eq_false_iff_ne]; exact he
            have HE2 : Hid (eOf R ws (k + 1) = E) := by show _ = _; rw [HES.out, if_neg he]
            clear he
            go_wp2_with fail
            go_roundw
            case rel => exact ⟨k + 1, by omega, by rw [HE2.out], by go_num, HI2⟩
            case measure => simp [intOf]; omega
        · obtain rfl : k = ws.length := by omega
          generalize eOf R ws ws.length = E at HR ⊢
          obtain ⟨y0, y1, y2, y3, fy⟩ := four_of_block HI.out.wb
          obtain ⟨z0, z1, z2, z3, fz⟩ := four_of_block HI.out.rb
          by_cases he : E = 0
          · have be : (E != 0) = false := by rw [bne_eq_false_iff_eq]; exact he
            have HR : Hid (RES = (m', R.1)) := by show _ = _; rw [HR.out, if_neg (by rw [he]; simp)]
            clear he
            have hfin := HI.out.fin hQ
            unfold put4 at hfin
            go_wp2_with fail
            generalize hwf : World.setCell _ _ _ = wf at hfin ⊢
            clear hwf y0 y1 y2 y3 fy z0 z1 z2 z3 fz
            obtain ⟨s0, s1, s2, s3, _⟩ := four_of_block hfin.2.2
            exact bodyPost_ret (v := .agg #[.string R.1.wd, .int .i64 R.1.ex, .int .i64 R.1.fm, .slice none 0 0]) (by simp [results, Tryz.results53, go_sem, s0, s1, s2, s3]) rfl ⟨by rw [HR.out], by rw [HR.out]; exact hfin.1, hfin.2.1⟩
          · have be : (E != 0) = true := by rw [bne_iff_ne]; exact he
            have HR : Hid (RES = (m'.fail at_ E, R.1)) := by show _ = _; rw [HR.out, if_pos he]
            have HF := Lib.hid (gfail_any Q T s m' at_ E wr HI.out.p)
            clear he
            go_wp2_with (go_at_call 48; refine HF.out.mono ?_; rintro e w5 ⟨rfl, h1, h2⟩; have HI5 := Lib.hid (HI.out.call hQ h1 h2); clear h1 h2 y0 y1 y2 y3 fy z0 z1 z2 z3 fz; obtain ⟨y0, y1, y2, y3, fy⟩ := four_of_block HI5.out.wb; obtain ⟨z0, z1, z2, z3, fz⟩ := four_of_block HI5.out.rb)
            have hfin := HI5.out.fin hQ
            unfold put4 at hfin
            generalize hwf : World.setCell _ _ _ = wf at hfin ⊢
            clear hwf y0 y1 y2 y3 fy z0 z1 z2 z3 fz
            obtain ⟨s0, s1, s2, s3, _⟩ := four_of_block hfin.2.2
            exact bodyPost_ret (v := .agg #[.string R.1.wd, .int .i64 R.1.ex, .int .i64 R.1.fm, .slice none 0 0]) (by simp [results, Tryz.results53, go_sem, s0, s1, s2, s3]) rfl ⟨by rw [HR.out], by rw [HR.out]; exact hfin.1, hfin.2.1⟩
  · have be : (m'.e != 0) = true := by rw [bne_iff_ne]; exact he
    have HR : Hid (RES = (m', .mk u 0 0 [])) := by show _ = _; rw [HWAY.out, if_pos he]
    clear he HWAY
    have hfin := H1.out.fin hQ
    unfold put4 at hfin
    go_wp2_with fail
    generalize hwf : World.setCell _ _ _ = wf at hfin ⊢
    clear hwf c0 c1 c2 c3 c4 fz x0 x1 x2 x3 fx y0 y1 y2 y3 fy p0 p2
    obtain ⟨s0, s1, s2, s3, _⟩ := four_of_block hfin.2.2
    exact bodyPost_ret (v := .agg #[.string u, .int .i64 0, .int .i64 0, .slice none 0 0]) (by simp [results, Tryz.results53, go_sem, s0, s1, s2, s3, Wy.wd, Wy.ex, Wy.fm]) rfl ⟨by rw [HR.out]; rfl, by rw [HR.out]; exact hfin.1, hfin.2.1⟩
end Go.Proofs.YtdolpehcfifecaaGreatDoor
