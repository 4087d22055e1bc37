/- MessageRound, the walk. Conditions: the message lies in memory; sums below 10^9; the variable strconv.ErrRange holds an error; the library's table of powers of ten is laid. -/
import Derived.Test.YtdolpehcfifecaaDoorMcu
import Derived.Test.YtdolpehcfifecaaDoorMbg
namespace Mh
open Go Go.RowKit
set_option linter.unusedVariables false
theorem Sl.bare {S : Nat → Bool} {k n : Nat} {w : World} {v : Value} {xs : List Value} (h : Sl k (veil S w) v n xs) : Sl k w v n xs := h.keeps (Keeps.bare S w)
mutual
theorem PcAt.ints {w : World} : ∀ {X : Pc} {cs : List Value}, PcAt w X cs → intsWs X.ws = true
  | .mk k t ws, cs, h => by
    unfold PcAt at h
    obtain ⟨wv, h1, h2, h3, rows, h4, h5⟩ := h
    exact WysAt.ints h5
theorem PcsAt.ints {w : World} : ∀ {xs : List Pc} {rows : List Value}, PcsAt w xs rows → intsPs xs = true
  | [], rows, h => by rw [intsPs]
  | .mk k t ws :: xs, rows, h => by
    unfold PcsAt at h
    obtain ⟨c, r, h1, h2, h3, h4⟩ := h
    rw [intsPs, Bool.and_eq_true]
    exact ⟨PcAt.ints h3, PcsAt.ints h4⟩
theorem WyAt.ints {w : World} : ∀ {X : Wy} {cs : List Value}, WyAt w X cs → (-9223372036854775808 ≤ X.ex ∧ X.ex ≤ 9223372036854775807) ∧ intsPs X.ps = true
  | .mk u x f ps, cs, h => by
    unfold WyAt at h
    obtain ⟨pv, h1, h2, h3, h4, rows, h5, h6⟩ := h
    exact ⟨bounds_i64 h3, PcsAt.ints h6⟩
theorem WysAt.ints {w : World} : ∀ {xs : List Wy} {rows : List Value}, WysAt w xs rows → intsWs xs = true
  | [], rows, h => by rw [intsWs]
  | .mk u x f ps :: xs, rows, h => by
    unfold WysAt at h
    obtain ⟨c, r, h1, h2, h3, h4⟩ := h
    have h5 := WyAt.ints h3
    rw [intsWs, Bool.and_eq_true, Bool.and_eq_true, decide_eq_true_eq]
    exact ⟨⟨h5.1, h5.2⟩, WysAt.ints h4⟩
end
theorem PsIn.ints {w : World} {v : Value} {ps : List Pc} (h : PsIn w v ps) : intsPs ps = true := by obtain ⟨rows, _, h⟩ := h; exact PcsAt.ints h
theorem written_cases (ps : List Pc) : ((writtenF ps).2 ≠ 0 ∧ (writtenF ps).1 = ⟨#[]⟩) ∨
    ((writtenF ps).2 = 0 ∧ (writtenF ps).1 = ⟨(wrPs ps).toArray⟩ ∧ formsPs false false ps = true ∧ bytePs ps = false ∧ twicePs ps = false ∧ deepPs ps + 1 ≤ 12 ∧ manyPs ps ≤ 100 ∧ (wrPs ps).length ≤ 2000) := by
  unfold writtenF
  by_cases h1 : formsPs false false ps = false
  · rw [if_pos h1]; exact .inl ⟨by decide, rfl⟩
  rw [if_neg h1]
  by_cases h2 : bytePs ps = true
  · rw [if_pos h2]; exact .inl ⟨by decide, rfl⟩
  rw [if_neg h2]
  by_cases h3 : twicePs ps = true
  · rw [if_pos h3]; exact .inl ⟨by decide, rfl⟩
  rw [if_neg h3]
  by_cases h4 : 12 < deepPs ps + 1
  · rw [if_pos h4]; exact .inl ⟨by decide, rfl⟩
  rw [if_neg h4]
  by_cases h5 : 100 < manyPs ps
  · rw [if_pos h5]; exact .inl ⟨by decide, rfl⟩
  rw [if_neg h5]
  by_cases h6 : 2000 < (wrPs ps).length
  · rw [if_pos h6]; exact .inl ⟨by decide, rfl⟩
  rw [if_neg h6]
  exact .inr ⟨rfl, rfl, by simpa using h1, by simpa using h2, by simpa using h3, by omega, by omega, by omega⟩
end Mh
namespace Go.Proofs.YtdolpehcfifecaaDoor
open Go.RowKit Mh
set_option linter.unusedVariables false
theorem mdrewN_below (w : World) (n : Nat) : Below w.heap.size w (w.drewN n) := ⟨rfl, rfl, rfl, Nat.le_refl _, fun _ _ => rfl⟩
theorem geq_any (v1 v2 : Value) (l : List ByteArray) (w : World) (h1 : Sl 1 w v1 l.length (l.map Value.string)) (h2 : Sl 1 w v2 l.length (l.map Value.string)) :
    Calls Tryd.prog 10 #[v1, v2] w fun e w' => e = .returned (.bool true) ∧ Below w.heap.size w w' := by
  obtain ⟨a1, c1, rfl, hm, hs1⟩ := sl_cells h1
  obtain ⟨a2, c2, rfl, _, hs2⟩ := sl_cells h2
  unfold maxLen at hm
  by_cases hn : 0 < l.length
  · obtain ⟨b1, o1, rfl, _, hc1⟩ := hs1 0 hn
    obtain ⟨b2, o2, rfl, _, hc2⟩ := hs2 0 hn
    have key : ∀ (b o : Nat), (∀ i u, (l.map Value.string)[i]? = some u → w.cell? ⟨b, o + i, none⟩ = some u) → ∀ j, j < l.length → w.cell? ⟨b, o + j, none⟩ = some (.string (l.getD j ByteArray.empty)) := by
      intro b o h j hj
      refine h j _ ?_
      rw [List.getElem?_map, List.getElem?_eq_getElem hj, List.getD, List.getElem?_eq_getElem hj]
      rfl
    refine (Tryd.slices_Equal_string b1 o1 l.length c1 b2 o2 l.length c2 l l w (Nat.le_refl _) (Nat.le_refl _) hm hm (key b1 o1 hc1) (key b2 o2 hc2)).mono ?_
    rintro e w' ⟨rfl, q, rfl⟩
    exact ⟨by simp, mdrewN_below _ _⟩
  · have e0 : l.length = 0 := by omega
    rw [e0]
    refine (Tryd.slices_Equal_string_empty a1 a2 c1 0 c2 w (by omega)).mono ?_
    rintro e w' ⟨rfl, rfl⟩
    exact ⟨rfl, Below.refl _ _⟩
set_option maxRecDepth 100000 in
set_option maxHeartbeats 8000000 in
theorem messageRound_walk (ps : List Pc) (pv : Value) (w : World) (hps : PsIn w pv ps) (hev : EvAt w) (ht : Tab10 w) (hd : deepPs ps ≤ 900000000) (hm : manyPs ps ≤ 900000000) (hw : (wrPs ps).length ≤ 1000000000) :
    Calls Tryd.prog 4 #[.agg #[pv]] w fun e w' => e = .returned (.bool true) ∧ Below w.heap.size w w' := by
  have hints := hps.ints
  obtain ⟨pa, pc, hpv, _⟩ := hps.item
  obtain ⟨W1, hW1⟩ : ∃ W1, W1 = w.alloc (.cells #[pv] 36) := ⟨_, rfl⟩
  have hb1 : Below w.heap.size w W1 := by rw [hW1]; exact (Below.refl _ w).alloc (Nat.le_refl _) _
  have hbx : W1.heap[w.heap.size]? = some (.cells #[pv] 36 (0, 0)) := by rw [hW1]; exact heap_alloc_new _ _
  have hz1 : w.heap.size < W1.heap.size := by rw [hW1]; simp
  have hes := hev.size
  have HEV : Hid (∀ w', Below w.heap.size w w' → EvAt w') := fun w' h => hev.keep h hes
  have HTB : Hid (∀ w', Below w.heap.size w w' → Tab10 w') := fun w' h => ht.next h
  have HPS : Hid (∀ w', Below w.heap.size w w' → PsIn w' pv ps) := fun w' h => hps.keep h
  have B1 : Below w.heap.size w W1 := hb1
  have HAW := Lib.hid (gawake_any W1 (HEV.out _ hb1))
  have HMS : Hid (∀ w' v, Below w.heap.size w w' → PsIn w' v ps → Calls Tryd.prog 7 #[.agg #[v]] w' fun e w2 => e = .returned (.tuple #[.string (writtenF ps).1, .int .i64 (writtenF ps).2]) ∧ Below w'.heap.size w' w2) := fun w' v h1 h2 => gmessageString_any ps v w' w' h2 (HTB.out _ h1) (Below.refl _ _) hd hm hw
  have HBX := Lib.hid hbx
  subst hpv
  rcases written_cases ps with ⟨hne, hs⟩ | ⟨hok, hs, hf, hby, htw, hdp, hmn, hln⟩
  · have q : ((writtenF ps).2 != 0) = true := by rw [bne_iff_ne]; exact hne
    rw [hs] at HMS
    generalize (writtenF ps).2 = r at HMS q
    clear hps hev ht hd hm hw hints hb1 hbx hes hne hs
    go_enter Tryd.func4, Tryd.ntmps4
    go_upto_region 1 with fail
    rw [← hW1]
    clear hW1
    go_wp2_with (first | (go_at_call 5; refine HAW.out.mono ?_; rintro e w2 ⟨rfl, hb2⟩; have B2 : Below w.heap.size w w2 := B1.trans (hb2.mono B1.size); have x2 : w2.cell? ⟨w.heap.size, 0, none⟩ = some (.slice pa ps.length pc) := cellT ((hb2.block _ hz1).trans HBX.out) rfl; clear hb2) | (go_at_call 7; refine (HMS.out _ _ B2 (HPS.out _ B2)).mono ?_; rintro e w3 ⟨rfl, hb3⟩; have B3 : Below w.heap.size w w3 := B2.trans (hb3.mono B2.size); clear hb3))
    go_ret
    exact ⟨rfl, B3⟩
  · obtain ⟨s, hse⟩ : ∃ s : ByteArray, s = ⟨(wrPs ps).toArray⟩ := ⟨_, rfl⟩
    have hsd : s.data.toList = wrPs ps := by rw [hse]
    have hsz : s.size ≤ 2000 := by rw [hse]; show (wrPs ps).toArray.size ≤ 2000; simpa using hln
    have hrd := readM_wr hsd hf hby htw hints hdp hmn hsz
    have HRD : Hid (∀ w', Below w.heap.size w w' → Calls Tryd.prog 8 #[.string s] w' fun e w2 => ∃ a c, e = .returned (.tuple #[.agg #[.slice a ps.length c], .int .i64 0, .int .i64 0]) ∧ Below w'.heap.size w' w2 ∧ PsIn w2 (.slice a ps.length c) ps) := fun w' h => by
      have h1 := readMessage_any s (by unfold maxLen; omega) w' (HEV.out _ h)
      rw [hrd] at h1
      refine h1.mono ?_
      rintro e w2 ⟨v, rows, rfl, hb, h2, h3⟩
      have hp : PsIn w2 v ps := ⟨rows, h2.bare, h3.keeps (Keeps.bare _ _)⟩
      obtain ⟨a, c, rfl, _⟩ := hp.item
      exact ⟨a, c, rfl, hb, hp⟩
    have HAR : Hid (∀ w' v, Below w.heap.size w w' → PsIn w' v ps → Calls Tryd.prog 9 #[.agg #[v]] w' fun e w2 => ∃ a c, e = .returned (.tuple #[.slice a (argsPs [] ps).length c, .int .i64 0]) ∧ w2.ownsRow w'.heap.size 9 1 (.slice a (argsPs [] ps).length c) (argsPs [] ps).length ((argsPs [] ps).map Value.string) ∧ Below w'.heap.size w' w2) := fun w' v h1 h2 => garguments_any ps v w' w' h2 (HTB.out _ h1) (Below.refl _ _) hd hm hw hok
    rw [hok, hs, ← hse] at HMS
    have hss : (s.toList == s.toList) = true := by simp
    generalize argsPs [] ps = L at HAR
    clear hps hev ht hd hm hw hints hb1 hbx hes hok hs hf hby htw hdp hmn hln hse hsd hrd hsz
    go_enter Tryd.func4, Tryd.ntmps4
    go_upto_region 1 with fail
    rw [← hW1]
    clear hW1
    go_upto_region 7 with (first | (go_at_call 5; refine HAW.out.mono ?_; rintro e w2 ⟨rfl, hb2⟩; have B2 : Below w.heap.size w w2 := B1.trans (hb2.mono B1.size); have E2 := Lib.hid ((hb2.block _ hz1).trans HBX.out); have x2 : w2.cell? ⟨w.heap.size, 0, none⟩ = some (.slice pa ps.length pc) := cellT E2.out rfl; clear hb2) | (go_at_call 7; refine (HMS.out _ _ B2 (HPS.out _ B2)).mono ?_; rintro e w3 ⟨rfl, hb3⟩; have B3 : Below w.heap.size w w3 := B2.trans (hb3.mono B2.size); have E3 := Lib.hid ((hb3.block _ (Array.getElem?_eq_some_iff.1 E2.out).1).trans E2.out); clear hb3) | (go_at_call 8; refine (HRD.out _ B3).mono ?_; rintro e w4 ⟨a4, c4, rfl, hb4, hp4⟩; have B4 : Below w.heap.size w w4 := B3.trans (hb4.mono B3.size); have E4 := Lib.hid ((hb4.block _ (Array.getElem?_eq_some_iff.1 E3.out).1).trans E3.out); have P4 := Lib.hid hp4; clear hb4 hp4))
    have HB5 : Below w4.heap.size w4 (w4.alloc (.cells #[.slice a4 ps.length c4] 36)) := (Below.refl _ w4).alloc (Nat.le_refl _) _
    have E5 := Lib.hid ((HB5.block _ (Array.getElem?_eq_some_iff.1 E4.out).1).trans E4.out)
    have F5 : Hid ((w4.alloc (.cells #[.slice a4 ps.length c4] 36)).heap[w4.heap.size]? = some (.cells #[.slice a4 ps.length c4] 36 (0, 0))) := heap_alloc_new _ _
    have P5 := Lib.hid (P4.out.keep HB5)
    have B5 : Below w.heap.size w (w4.alloc (.cells #[.slice a4 ps.length c4] 36)) := B4.trans (HB5.mono B4.size)
    obtain ⟨h, hh⟩ : ∃ h : Nat, h = w4.heap.size := ⟨_, rfl⟩
    rw [← hh] at F5 ⊢
    generalize w4.alloc (.cells #[.slice a4 ps.length c4] 36) = W5 at E5 F5 P5 B5 ⊢
    clear HB5 hh x2
    have y5 : W5.cell? ⟨h, 0, none⟩ = some (.slice a4 ps.length c4) := cellT F5.out rfl
    go_wp2_with (first
      | (go_at_call 7; refine (HMS.out _ _ B5 P5.out).mono ?_; rintro e w6 ⟨rfl, hb6⟩; have B6 : Below w.heap.size w w6 := B5.trans (hb6.mono B5.size); have E6 := Lib.hid ((hb6.block _ (Array.getElem?_eq_some_iff.1 E5.out).1).trans E5.out); have F6 := Lib.hid ((hb6.block _ (Array.getElem?_eq_some_iff.1 F5.out).1).trans F5.out); have P6 := Lib.hid (P5.out.keep hb6); have x6 : w6.cell? ⟨w.heap.size, 0, none⟩ = some (.slice pa ps.length pc) := cellT E6.out rfl; clear hb6)
      | (go_at_call 9; (with_reducible refine (HAR.out w6 _ B6 (HPS.out _ B6)).mono ?_); rintro e w7 ⟨a7, c7, rfl, ho7, hb7⟩; have B7 : Below w.heap.size w w7 := B6.trans (hb7.mono B6.size); have F7 := Lib.hid ((hb7.block _ (Array.getElem?_eq_some_iff.1 F6.out).1).trans F6.out); have P7 := Lib.hid (P6.out.keep hb7); have O7 := Lib.hid ho7; have y7 : w7.cell? ⟨h, 0, none⟩ = some (.slice a4 ps.length c4) := cellT F7.out rfl; clear hb7 ho7)
      | (go_at_call 9; (with_reducible refine (HAR.out w7 _ B7 P7.out).mono ?_); rintro e w8 ⟨a8, c8, rfl, ho8, hb8⟩; have B8 : Below w.heap.size w w8 := B7.trans (hb8.mono B7.size); have O78 := Lib.hid (mown_below O7.out hb8); have O8 := Lib.hid ho8; clear hb8 ho8)
      | (go_at_call 10; refine (geq_any _ _ L w8 (Sl.of_own O78.out (by decide)) (Sl.of_own O8.out (by decide))).mono ?_; rintro e w9 ⟨rfl, hb9⟩; have B9 : Below w.heap.size w w9 := B8.trans (hb9.mono B8.size); clear hb9))
    go_ret
    exact ⟨rfl, B9⟩
end Go.Proofs.YtdolpehcfifecaaDoor
