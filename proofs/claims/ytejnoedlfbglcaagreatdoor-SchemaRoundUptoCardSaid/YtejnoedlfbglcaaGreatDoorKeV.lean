/- conf.clone: a value with all below, made anew. Conditions: the value is right and of at most 1000 values. -/
import Derived.Test.YtejnoedlfbglcaaGreatDoorKeK
import Derived.Test.YtejnoedlfbglcaaGreatDoorKeP6
import Derived.Test.YtejnoedlfbglcaaGreatDoorApSl
namespace Go.Proofs.YtejnoedlfbglcaaGreatDoor
open Go.RowKit Mh
set_option linter.unusedVariables false

theorem infoValue : (Tryz.prog.info? 29).map (fun i => (i.zero, i.size, i.bytes)) = some (some (.agg #[.int .i64 0, .bool false, .int .i64 0, .string ⟨#[]⟩, .slice none 0 0, .slice none 0 0]), 6, 88) := by kernel_rfl
theorem infoStr : (Tryz.prog.info? 9).map (fun i => (i.zero, i.size, i.bytes)) = some (some (.string ⟨#[]⟩), 1, 16) := by kernel_rfl
theorem _root_.Mh.own_below {w w' : World} {base e k : Nat} {v : Value} {n : Nat} {xs : List Value} (h : w.ownsRow base e k v n xs) (hb : Below w.heap.size w w') : w'.ownsRow base e k v n xs := by
  refine ⟨h.1, ?_⟩
  rcases h.2 with h2 | ⟨g, cap, cur, rfl, hbg, hg, h4⟩
  · exact .inl h2
  · exact .inr ⟨g, cap, cur, rfl, hbg, (hb.block g (Array.getElem?_eq_some_iff.1 hg).1).trans hg, h4⟩
theorem _root_.Mh.own_setLow {w : World} {base e k n b o : Nat} {v u : Value} {xs : List Value} (h : w.ownsRow base e k v n xs) (hb : b < base) : (w.setCell ⟨b, o, none⟩ u).ownsRow base e k v n xs := by
  refine ⟨h.1, ?_⟩
  rcases h.2 with h2 | ⟨g, cap, cur, rfl, hbg, hg, h4⟩
  · exact .inl h2
  · exact .inr ⟨g, cap, cur, rfl, hbg, (heap_setCell_other w ⟨b, o, none⟩ g u (by show g ≠ b; omega)).trans hg, h4⟩
/-- One element in a new block. -/
theorem _root_.Mh.Sl.lit (w : World) (cs : List Value) (e k : Nat) (hk : cs.length = k) : Sl k (w.alloc (.cells cs.toArray e)) (.slice (some ⟨w.heap.size, 0, none⟩) 1 1) 1 cs := by
  refine ⟨by omega, .inr ⟨w.heap.size, 0, 1, rfl, by omega, by omega, by unfold maxLen; omega, by simp, fun i u hu => ?_⟩⟩
  rw [Nat.zero_add, cell_of_row _ _ _ _ _ _ (heap_alloc_new w _)]
  simpa using hu
def lowS (w : World) (n k : Nat) : Bool := decide (k < w.heap.size + n)
structure CloneIn (X : V) (ia : Option Addr) (ic : Nat) (ka : Option Addr) (kc : Nat) (w wr : World) (j : Nat) (v : Value) (rows : List Value) : Prop where
  le : j ≤ X.its.length
  own : wr.ownsRow (w.heap.size + 2) 29 6 v j rows
  at_ : VsAt (veil (own1 (lowS w 2) v) wr) (X.its.take j) rows
  keys : Ss (veil (own1 (lowS w 2) v) wr) (.slice ka X.kys.length kc) X.kys
  bx : wr.heap[w.heap.size]? = some (box6 X ia ic ka kc)
  b0 : wr.heap[w.heap.size + 1]? = some box0
  below : Below w.heap.size w wr
  size : w.heap.size + 2 ≤ wr.heap.size
theorem CloneIn.step {X : V} {ia ka : Option Addr} {ic kc : Nat} {w wr w1 w2 w3 : World} {j : Nat} {v v' : Value} {rows ds : List Value} {ob : Obj} (h : CloneIn X ia ic ka kc w wr j v rows) (hj : j < X.its.length)
    (h1 : Below wr.heap.size wr w1) (h2 : Below w1.heap.size w1 w2) (hds : VAt (veil (fun k => decide (k < w1.heap.size)) w2) X.its[j] ds)
    (hown : w3.ownsRow (w.heap.size + 2) 29 6 v' (j + 1) (rows ++ ds)) (hgr : (w2.alloc ob).grownBy w3 v.ownBlock) (hat : v'.ownBlock = v.ownBlock ∨ v'.ownBlock = some (w2.alloc ob).heap.size) :
    CloneIn X ia ic ka kc w w3 (j + 1) v' (rows ++ ds) := by
  have hol := h.own.lt
  have hsz := h.size
  have hs1 := h1.size
  have hs2 := h2.size
  have hb : Below wr.heap.size wr (w2.alloc ob) := (h1.trans (h2.mono hs1)).alloc (by omega) _
  have hne : ∀ k, k < w.heap.size + 2 → some k ≠ v.ownBlock := fun k hk e => by have := (hol k e.symm).1; omega
  have hK : Keeps (veil (own1 (lowS w 2) v) wr) (veil (own1 (lowS w 2) v') w3) := (Keeps.belows hb).trans (Keeps.grown hgr hat)
  refine ⟨by omega, hown, ?_, h.keys.keeps hK, ?_, ?_, ?_, ?_⟩
  · rw [List.take_succ_eq_append_getElem hj]
    refine (h.at_.keeps hK).append (VsAt.one ?_)
    refine hds.keeps (Keeps.trans (Keeps.veils (w' := w2.alloc ob) (S' := own1 (lowS w 2) v) (by simp) fun k hk hs => ⟨?_, heap_alloc_old _ _ hk⟩) (Keeps.grown hgr hat))
    simp at hs
    rw [own1_false]
    exact ⟨by simp [lowS]; omega, fun e => by have := (hol k e).2; omega⟩
  · rw [hgr.block _ (by simp; omega) (hne _ (by omega)), hb.block _ (by omega)]; exact h.bx
  · rw [hgr.block _ (by simp; omega) (hne _ (by omega)), hb.block _ (by omega)]; exact h.b0
  · exact (h.below.trans (hb.mono (by omega))).grown hgr (by simp; omega) fun k hk => by have := (hol k hk).1; omega
  · have := hgr.size; simp at this; omega
theorem _root_.Mh.own_put6Low {w : World} {base e k n g : Nat} {v a b c d x y : Value} {xs : List Value} (h : w.ownsRow base e k v n xs) (hb : g < base) : (put6 w g a b c d x y).ownsRow base e k v n xs := by
  unfold put6
  exact own_setLow (own_setLow (own_setLow (own_setLow (own_setLow (own_setLow h hb) hb) hb) hb) hb) hb
theorem CloneIn.done_ {X : V} {ia ka va : Option Addr} {ic kc vc : Nat} {w wr : World} {rows : List Value} (h : CloneIn X ia ic ka kc w wr X.its.length (.slice va X.its.length vc) rows) (a b c d e f : Value) (hwf : (Lit.int .i64 X.kd).wf = true ∧ (Lit.int .i64 X.nu).wf = true ∧ X.tx.size ≤ maxLen) :
    VAt (veil (fun k => decide (k < w.heap.size)) (put6 (wr.setCell ⟨w.heap.size, 4, none⟩ (.slice va X.its.length vc)) (w.heap.size + 1) a b c d e f)) X (vcs X va vc ka kc) := by
  have hK : Keeps (veil (own1 (lowS w 2) (.slice va X.its.length vc)) wr) (veil (fun k => decide (k < w.heap.size)) (put6 (wr.setCell ⟨w.heap.size, 4, none⟩ (.slice va X.its.length vc)) (w.heap.size + 1) a b c d e f)) := by
    refine Keeps.veils (by rw [put6_size]; simp) fun k hk hs => ?_
    have h1 := (own1_false.1 hs).1
    simp [lowS] at h1
    refine ⟨by simp; omega, ?_⟩
    rw [put6_other (by omega), heap_setCell_other _ _ _ _ (by simp; omega)]
  refine VAt.made hwf.1 hwf.2.1 hwf.2.2 (h.keys.keeps hK) (Sl.of_own_veil (own_put6Low (own_setLow h.own (by omega)) (by omega)) (by decide) fun b hb => by simp; omega) ?_
  have := h.at_.keeps hK
  rwa [List.take_length] at this
theorem six_ones (X : V) (ia : Option Addr) (ic : Nat) (ka : Option Addr) (kc : Nat) : ∀ u ∈ vcs X ia ic ka kc, u.oneCell' = true := by simp [vcs, Value.oneCell']
theorem str_ones (l : List ByteArray) : ∀ u ∈ l.map Value.string, u.oneCell' = true := by
  intro u hu
  obtain ⟨s, _, rfl⟩ := List.mem_map.1 hu
  rfl
set_option maxRecDepth 100000 in
set_option maxHeartbeats 4000000 in
theorem clone_any : ∀ (M : Nat) (X : V), SizeOf.sizeOf X < M → X.mid → ∀ (cs : List Value) (w : World), VAt w X cs →
    Calls Tryz.prog 22 #[.agg cs.toArray] w fun e w' => ∃ ds : List Value, e = .returned (.agg ds.toArray) ∧ VAt (veil (fun k => decide (k < w.heap.size)) w') X ds ∧ Below w.heap.size w w' := by
  intro M
  induction M with
  | zero => intro X h; omega
  | succ M ih =>
    intro X hX hmid cs w h
    have HWF := Lib.hid h.wf
    obtain ⟨hil, hkl⟩ := hmid.len
    have HH := Lib.hid h
    obtain ⟨ia, ic, ka, kc, rfl, _, _, _, hss, rows, hS, hT⟩ := h.opened
    obtain ⟨_, _, hsl, hk⟩ := VsAt.item hS hT
    simp only [Value.slice.injEq] at hsl
    obtain ⟨rfl, _, rfl⟩ := hsl
    have HK := Lib.hid hk
    have HSS := Lib.hid hss
    have hsz : ∀ y ∈ X.its, SizeOf.sizeOf y < M := by
      obtain ⟨k, b, n, t, is, ks⟩ := X
      intro y hy
      have := size_item (k := k) (b := b) (n := n) (t := t) (ks := ks) (show y ∈ is from hy)
      omega
    have HIH : Hid (∀ k (h : k < X.its.length) (cs : List Value) (w : World), VAt w X.its[k] cs → Calls Tryz.prog 22 #[.agg cs.toArray] w fun e w' => ∃ ds : List Value, e = .returned (.agg ds.toArray) ∧ VAt (veil (fun k => decide (k < w.heap.size)) w') X.its[k] ds ∧ Below w.heap.size w w') := by
      intro k h
      exact ih X.its[k] (hsz _ (List.getElem_mem h)) (hmid.item _ (List.getElem_mem h))
    obtain ⟨vi, hvi, hv0, hv1, hv2⟩ := info_parts infoValue
    obtain ⟨si, hsi, hs0, hs1, hs2⟩ := info_parts infoStr
    have HB0 : Hid (Below w.heap.size w ((w.alloc (box6 X ia ic ka kc)).alloc box0)) := ((Below.refl w.heap.size w).alloc (Nat.le_refl _) _).alloc (by simp) _
    rw [vcs_arr]
    clear hk hss hS hT ih hX h hsz
    go_enter Tryz.func22, Tryz.ntmps22
    have HSS0 := Lib.hid (HSS.out.below HB0.out)
    unfold box6 box0 at HSS0
    go_wp2_with (at_builtin; refine wpList_append_sl _ rfl _ _ 27 rfl (w.heap.size + 2) 9 si (.string ⟨#[]⟩) 1 16 Tryz.underlying27 hsi hs0 hs1 hs2 rfl (by decide) (.slice none 0 0) 0 [] rfl (World.ownsRow_nil _ _ _ _) _ _ _ rfl HSS0.out.1 (str_ones _) (by unfold maxLen; omega) (by omega) (by simp) ?_; intro v1 w1 hown1 hgr1 hat1; obtain ⟨a1, c1, rfl⟩ := ownsRow_form hown1; have hn1 : w1.heap[w.heap.size]? = some (.cells #[.int .i64 X.kd, .bool X.bo, .int .i64 X.nu, .string X.tx, .slice ia X.its.length ic, .slice ka X.kys.length kc] 29 (0, 0)) := (hgr1.block _ (by simp; omega) (by simp [Value.ownBlock])).trans ((heap_alloc_old _ _ (by simp)).trans (heap_alloc_new _ _)); obtain ⟨s0, s1, s2, s3, s4, s5⟩ := six_of_block hn1; obtain ⟨f0, f1, f2, f3, f4, f5⟩ := six_open hn1; have HN1 := Lib.hid hn1; clear hn1)
    simp only [Nat.zero_add, List.nil_append] at hown1
    have HI : Hid (CloneIn X ia ic a1 c1 w (w1.setCell ⟨w.heap.size, 5, none⟩ (.slice a1 X.kys.length c1)) 0 (.slice none 0 0) []) := by
      refine ⟨by omega, World.ownsRow_nil _ _ _ _, by simp [VsAt], ⟨Sl.of_own_veil (own_setLow hown1 (by omega)) (by decide) fun b hb => by rw [own1_false]; exact ⟨by simp [lowS]; omega, by simp [Value.ownBlock]⟩, HSS.out.2⟩, heap_setCell_same _ _ 5 _ _ _ HN1.out, ?_, ?_, ?_⟩
      · rw [heap_setCell_other _ _ _ _ (by simp)]
        exact (hgr1.block _ (by simp) (by simp [Value.ownBlock])).trans (heap_new_at (by simp))
      · exact (HB0.out.grown hgr1 HB0.out.size (by simp [Value.ownBlock])).setCell (Nat.le_refl _) _
      · have := hgr1.size; simp at this ⊢; omega
    clear HSS HSS0 HB0 hown1 hgr1 hat1 s0 s1 s2 s3 s4 s5 f0 f1 f2 f3 f4 f5 HN1
    go_loopw [3, 13] (fun v i wr => ∃ (j : Nat) (rows : List Value), i = .int .i64 j ∧ Hid (CloneIn X ia ic a1 c1 w wr j v rows)) (fun _ i _ => X.its.length - (intOf i).toNat)
    case atStart => exact ⟨0, [], rfl, HI⟩
    case round =>
      obtain ⟨j, rows, rfl, HI⟩ := hrel
      obtain ⟨va, vc, rfl⟩ := ownsRow_form HI.out.own
      have hle := HI.out.le
      have hzr := HI.out.size
      by_cases hjl : j < X.its.length
      · obtain ⟨b, off, ja, jc, la, lc, rfl, hlt, hat, hc6⟩ := HK.out j hjl
        obtain ⟨d0, d1, d2, d3, d4, d5⟩ := six_later HI.out.below hlt hc6
        have HBn : Hid (Below wr.heap.size wr (wr.alloc (box6 X.its[j] ja jc la lc))) := (Below.refl _ wr).alloc (Nat.le_refl _) _
        have HCALL := Lib.hid (HIH.out j hjl _ (wr.alloc (box6 X.its[j] ja jc la lc)) (hat.keep (HI.out.below.trans (HBn.out.mono (by omega)))))
        rw [vcs_arr] at HCALL
        clear hc6 hat
        go_wp2_with fail
        refine HCALL.out.mono ?_
        rintro e w2 ⟨ds, rfl, hds, hb2⟩
        obtain ⟨za, zc, zk, zkc, rfl, _⟩ := hds.opened
        have HDS := Lib.hid hds
        have HB2 := Lib.hid hb2
        have hz2 := hb2.size
        rw [vcs_arr]
        clear hds hb2 HCALL d0 d1 d2 d3 d4 d5
        have hown2 : w2.ownsRow (w.heap.size + 2) 29 6 (.slice va j vc) j rows := own_below (own_below HI.out.own HBn.out) HB2.out
        have HROW := Lib.hid (hown2.alloc (.cells (vcs X.its[j] za zc zk zkc).toArray 29))
        have HNEW := Lib.hid (Sl.lit w2 (vcs X.its[j] za zc zk zkc) 29 6 rfl)
        rw [vcs_arr] at HROW HNEW
        simp at hz2
        clear hown2
        go_wp2_with (at_builtin; refine wpList_append_sl _ rfl _ _ 26 rfl (w.heap.size + 2) 29 vi (.agg #[.int .i64 0, .bool false, .int .i64 0, .string ⟨#[]⟩, .slice none 0 0, .slice none 0 0]) 6 88 Tryz.underlying26 hvi hv0 hv1 hv2 rfl (by decide) (.slice va j vc) j rows rfl HROW.out _ 1 _ rfl HNEW.out (six_ones _ _ _ _ _) (by unfold maxLen; omega) (by omega) (by simp; omega) ?_; intro v3 w3 hown3 hgr3 hat3)
        have HI2 := Lib.hid (HI.out.step hjl HBn.out HB2.out HDS.out hown3 hgr3 hat3)
        clear hown3 hgr3 hat3 HROW HNEW HB2 HDS HBn HI
        go_roundw
        case rel => exact ⟨j + 1, _, by go_num, HI2⟩
        case measure => simp [intOf]; omega
      · obtain rfl : j = X.its.length := by omega
        have hbx := HI.out.bx
        have hb0 := HI.out.b0
        unfold box6 at hbx
        unfold box0 at hb0
        obtain ⟨s0, s1, s2, s3, s4, s5⟩ := six_of_block hbx
        obtain ⟨f0, f1, f2, f3, f4, f5⟩ := six_open hbx
        obtain ⟨t0, t1, t2, t3, t4, t5⟩ := six_of_block hb0
        obtain ⟨g0, g1, g2, g3, g4, g5⟩ := six_open hb0
        go_wp2_with fail
        have hput := put6_at (a := .int .i64 X.kd) (b := .bool X.bo) (c := .int .i64 X.nu) (d := .string X.tx) (e := .slice va X.its.length vc) (f := .slice a1 X.kys.length c1) rfl ((heap_setCell_other wr ⟨w.heap.size, 4, none⟩ (w.heap.size + 1) (.slice va X.its.length vc) (by simp)).trans HI.out.b0)
        have hbel := put6_below (a := .int .i64 X.kd) (b := .bool X.bo) (c := .int .i64 X.nu) (d := .string X.tx) (e := .slice va X.its.length vc) (f := .slice a1 X.kys.length c1) (HI.out.below.setCell (p := ⟨w.heap.size, 4, none⟩) (Nat.le_refl _) (.slice va X.its.length vc)) (Nat.le_succ w.heap.size)
        have hat := HI.out.done_ (.int .i64 X.kd) (.bool X.bo) (.int .i64 X.nu) (.string X.tx) (.slice va X.its.length vc) (.slice a1 X.kys.length c1) HWF.out
        unfold put6 at hput hbel hat
        generalize hwf : World.setCell _ _ _ = wf at hput hbel hat ⊢
        clear hwf f0 f1 f2 f3 f4 f5 g0 g1 g2 g3 g4 g5 s0 s1 s2 s3 s4 s5 t0 t1 t2 t3 t4 t5 hbx hb0
        obtain ⟨s0, s1, s2, s3, s4, s5⟩ := six_of_block hput
        refine bodyPost_ret (v := .agg (vcs X va vc a1 c1).toArray) (by simp [results, Tryz.results22, go_sem, vcs, s0, s1, s2, s3, s4, s5] <;> rfl) rfl ⟨_, rfl, hat, hbel⟩
end Go.Proofs.YtejnoedlfbglcaaGreatDoor
