/- ship's attrs. Conditions: the scanner and the token in memory; its string's size; the library's variable MaxLen holds an integer. -/
import Derived.Test.YtoalbfffojpnmaaDoorTnC
import Derived.Test.YtoalbfffojpnmaaDoorTnD
namespace Go.Proofs.YtoalbfffojpnmaaDoor
open Go.RowKit Mh
set_option linter.unusedVariables false

theorem infoAtt : (Tryd.prog.info? 51).map (fun i => (i.zero, i.size, i.bytes)) = some (some (.agg #[.string ⟨#[]⟩, .string ⟨#[]⟩]), 2, 32) := by kernel_rfl
/-- The token at Y. -/
def TkAt (W : World) (Y : Nat) (t : Tk) : Prop := W.heap[Y]? = some (.cells t.cells.toArray 29 (0, 0))
structure AtIn (s : ByteArray) (X Y : Nat) (v : Value) (t : Tk) (w wr : World) (j : Nat) (va : Value) (n : Nat) (rows : List Value) : Prop where
  sc : Scn s X j v wr
  tk : TkAt wr Y { t with at_ := va }
  own : wr.ownsRow w.heap.size 51 2 va n rows
  kept : Kept [X, Y] w wr
  x : X < w.heap.size
  y : Y < w.heap.size
  le : j ≤ s.size
  nj : n ≤ j
theorem AtIn.ne {s : ByteArray} {X Y : Nat} {v : Value} {t : Tk} {w wr : World} {j : Nat} {va : Value} {n : Nat} {rows : List Value} (h : AtIn s X Y v t w wr j va n rows) : va.ownBlock ≠ some X ∧ va.ownBlock ≠ some Y := by
  have h1 := h.x; have h2 := h.y
  exact ⟨fun e => by have := (World.ownsRow.lt h.own X e).1; omega, fun e => by have := (World.ownsRow.lt h.own Y e).1; omega⟩
/-- Only the scanner's place has moved. -/
theorem AtIn.move {s : ByteArray} {X Y : Nat} {v : Value} {t : Tk} {w wr w' : World} {j j' : Nat} {va : Value} {n : Nat} {rows : List Value} (h : AtIn s X Y v t w wr j va n rows) (hXY : X ≠ Y) (hs : Scn s X j' v w') (hk : Kept [X] wr w') (hj : j ≤ j') (hj2 : j' ≤ s.size) : AtIn s X Y v t w w' j' va n rows := by
  have h1 := h.y
  have hY := (Array.getElem?_eq_some_iff.1 h.tk).1
  refine ⟨hs, (hk.block Y hY (by simpa using fun e => hXY e.symm)).trans h.tk, own_kept h.own hk (fun g hg => by simp; rintro rfl; exact h.ne.1 hg), h.kept.trans (hk.weaken (by simp)), h.x, h.y, hj2, by have := h.nj; omega⟩
theorem AtIn.below {s : ByteArray} {X Y : Nat} {v : Value} {t : Tk} {w wr w' : World} {j : Nat} {va : Value} {n : Nat} {rows : List Value} (h : AtIn s X Y v t w wr j va n rows) (hXY : X ≠ Y) (hb : Below wr.heap.size wr w') : AtIn s X Y v t w w' j va n rows :=
  h.move hXY (h.sc.below hb) (Kept.of_below hb) (Nat.le_refl _) h.le
theorem AtIn.push {s : ByteArray} {X Y : Nat} {v : Value} {t : Tk} {w wr w3 : World} {j : Nat} {va v3 : Value} {n : Nat} {rows row : List Value} (h : AtIn s X Y v t w wr j va n rows) (hXY : X ≠ Y) (hg : wr.grownBy w3 va.ownBlock) (ho : w3.ownsRow w.heap.size 51 2 v3 (n + 1) (rows ++ row)) (hat : v3.ownBlock = va.ownBlock ∨ v3.ownBlock = some wr.heap.size) (hn : n + 1 ≤ j) :
    AtIn s X Y v t w (w3.setCell ⟨Y, 4, none⟩ v3) j v3 (n + 1) (rows ++ row) := by
  have hX := h.sc.lt
  have hY := (Array.getElem?_eq_some_iff.1 h.tk).1
  have t3 : TkAt w3 Y { t with at_ := va } := (hg.block Y hY (fun e => h.ne.2 e.symm)).trans h.tk
  have hks := h.kept.size
  have hne : v3.ownBlock ≠ some Y := by
    rcases hat with e | e
    · rw [e]; exact h.ne.2
    · rw [e]; simp; omega
  have hk3 : Kept [X, Y] w w3 := ⟨hg.os.trans h.kept.os, hg.tape.trans h.kept.tape, hg.output.trans h.kept.output, Nat.le_trans hks hg.size, fun b hb hs => (hg.block b (by omega) (fun e => by have := (World.ownsRow.lt h.own b e.symm).1; omega)).trans (h.kept.block b hb hs)⟩
  refine ⟨?_, ?_, own_setNe ho hne, hk3.set Y 4 (by simp) _, h.x, h.y, h.le, hn⟩
  · exact (heap_setCell_other _ _ _ _ hXY).trans ((hg.block X hX (fun e => h.ne.1 e.symm)).trans h.sc)
  · unfold TkAt
    rw [heap_setCell_same _ _ 4 _ _ _ t3]
    rfl
theorem AtIn.same {s : ByteArray} {X Y : Nat} {v : Value} {t : Tk} {w wr w' : World} {j : Nat} {va : Value} {n : Nat} {rows : List Value} (h : AtIn s X Y v t w wr j va n rows) (sm : Same wr w') : AtIn s X Y v t w w' j va n rows :=
  ⟨h.sc.same sm, by unfold TkAt; rw [sm.heap]; exact h.tk, own_same h.own sm, h.kept.trans (sm.kept _), h.x, h.y, h.le, h.nj⟩
theorem AtIn.setA {s : ByteArray} {X Y : Nat} {v : Value} {t : Tk} {w wr : World} {j : Nat} {va : Value} {n : Nat} {rows : List Value} (h : AtIn s X Y v t w wr j va n rows) {A : Nat} (hA : w.heap.size ≤ A) (hne : va.ownBlock ≠ some A) (o : Nat) (u : Value) : AtIn s X Y v t w (wr.setCell ⟨A, o, none⟩ u) j va n rows := by
  have h1 := h.x; have h2 := h.y
  exact ⟨(heap_setCell_other _ _ _ _ (by show X ≠ A; omega)).trans h.sc, (heap_setCell_other _ _ _ _ (by show Y ≠ A; omega)).trans h.tk, own_setNe h.own hne, h.kept.setNew A o hA u, h.x, h.y, h.le, h.nj⟩
/-- An attribute at A. -/
def ArAt (W : World) (A : Nat) (a b : ByteArray) : Prop := W.heap[A]? = some (.cells #[.string a, .string b] 51 (0, 0))
/-- What attrs leaves. -/
structure AtOut (s : ByteArray) (X Y : Nat) (v : Value) (t : Tk) (w w' : World) (i : Nat) : Prop where
  ex : ∃ j va, i ≤ j ∧ j ≤ s.size ∧ Scn s X j v w' ∧ TkAt w' Y { t with at_ := va } ∧ ∃ a n c, va = .slice a n c
  kept : Kept [X, Y] w w'
theorem AtIn.out {s : ByteArray} {X Y : Nat} {v : Value} {t : Tk} {w wr : World} {j i : Nat} {va : Value} {n : Nat} {rows : List Value} (h : AtIn s X Y v t w wr j va n rows) (hij : i ≤ j) : AtOut s X Y v t w wr i :=
  ⟨⟨j, va, hij, h.le, h.sc, h.tk, by obtain ⟨a, c, e⟩ := ownsRow_form h.own; exact ⟨a, _, c, e⟩⟩, h.kept⟩
set_option maxRecDepth 100000 in
set_option maxHeartbeats 16000000 in
theorem attrs_any (s : ByteArray) (X Y i : Nat) (v : Value) (t : Tk) (m : Int) (w : World) (h : Scn s X i v w) (ht : TkAt w Y { t with at_ := .slice none 0 0 }) (hXY : X ≠ Y) (hi : i ≤ s.size) (hs : s.size ≤ 1000000) (hm : w.cell? ⟨0, 0, none⟩ = some (.int .i64 m)) (hX : X ≠ 0) (hY : Y ≠ 0) :
    Calls Tryd.prog 17 #[ptr X, ptr Y] w fun e w' => (∃ b, e = .returned (.bool b)) ∧ Hid (AtOut s X Y v t w w' i) := by
  have HA : Hid (AtIn s X Y v t w w i (.slice none 0 0) 0 []) := ⟨h, ht, World.ownsRow_nil _ _ _ _, Kept.refl _ _, h.lt, (Array.getElem?_eq_some_iff.1 ht).1, hi, by omega⟩
  have HM : Hid (∀ w2, Kept [X, Y] w w2 → w2.cell? ⟨0, 0, none⟩ = some (.int .i64 m)) := fun w2 k => (World.cell?_of_block (w := w) (a := ⟨0, 0, none⟩) (k.block _ (World.block_lt_of_cell? w _ hm) (by simp; exact ⟨fun e => hX e.symm, fun e => hY e.symm⟩))).trans hm
  have HLT := Lib.hid (fun n w => shLetter_any n w)
  have HNM := Lib.hid (fun j wr (hs2 : Scn s X j v wr) (hj : j ≤ s.size) => nameA_any s X j v wr hs2 hj (by omega))
  have HVL := Lib.hid (fun j wr (hs2 : Scn s X j v wr) (hj : j ≤ s.size) (hk : Kept [X, Y] w wr) => value_any s X j v m wr hs2 hj (by omega) (HM.out wr hk) hX)
  have HUN := Lib.hid (fun (t : ByteArray) w (ht : t.size ≤ s.size) => unescape_any t w (by omega))
  obtain ⟨vi, hvi, hv0, hv1, hv2⟩ := info_parts infoAtt
  clear h ht hm
  unfold ptr
  go_enter Tryd.func17, Tryd.ntmps17
  go_wp2_with fail
  go_loopw [] (fun wr => ∃ (j n : Nat) (va : Value) (rows : List Value), i ≤ j ∧ Hid (AtIn s X Y v t w wr j va n rows)) (fun wr => s.size - atS X wr)
  case atStart => exact ⟨i, 0, _, [], Nat.le_refl _, HA⟩
  case round =>
    obtain ⟨j, n, va, rows, hij, HI⟩ := hrel
    obtain ⟨c0, c1, c2, f1, f2⟩ := HI.out.sc.cells
    have HAT := Lib.hid HI.out.sc.atS
    have hj := HI.out.le
    have hnj := HI.out.nj
    by_cases hlt : j < s.size
    · have hltI : (j : Int) < s.size := by omega
      have hd : decide ((j : Int) < s.size) = true := decide_eq_true hltI
      go_wp2_with fail
      go_quiet (fail)
      have HI2 : Hid (AtIn s X Y v t w (wr.drewN nq) j va n rows) := HI.out.same ((Same.refl wr).drewN nq)
      generalize wr.drewN nq = w2 at *
      clear c0 c1 c2 f1 f2 HI
      obtain ⟨c0, c1, c2, f1, f2⟩ := HI2.out.sc.cells
      go_wp2_with fail
      go_quiet (fail)
      have HI3 : Hid (AtIn s X Y v t w (w2.drewN nq) j va n rows) := HI2.out.same ((Same.refl w2).drewN nq)
      generalize w2.drewN nq = w3 at *
      clear c0 c1 c2 f1 f2 HI2
      obtain ⟨c0, c1, c2, f1, f2⟩ := HI3.out.sc.cells
      have HSET : Hid (AtIn s X Y v t w (w3.setCell ⟨X, 1, none⟩ (.int .i64 ((j : Int) + 1))) (j + 1) va n rows ∧ atS X (w3.setCell ⟨X, 1, none⟩ (.int .i64 ((j : Int) + 1))) = j + 1) := by
        have h1 := HI3.out.sc.set1 (j + 1)
        rw [show ((j + 1 : Nat) : Int) = (j : Int) + 1 by omega] at h1
        exact ⟨HI3.out.move hXY h1 ((Kept.refl [X] w3).set X 1 (by simp) _) (by omega) (by omega), h1.atS⟩
      cases d1 : ((s[j].toNat : Int) == 62) with
      | true =>
        go_wp2_with fail
        go_ret
        exact ⟨⟨_, rfl⟩, HSET.out.1.out (by omega)⟩
      | false =>
        cases d2 : (letB (s[j].toNat : Int) || (s[j].toNat : Int) == 95 || (s[j].toNat : Int) == 58) with
        | false =>
          obtain ⟨d2a, d2b⟩ := Bool.or_eq_false_iff.1 d2
          obtain ⟨d2a, d2c⟩ := Bool.or_eq_false_iff.1 d2a
          have HL1 := Lib.hid (HLT.out (s[j].toNat : Int))
          rw [d2a] at HL1
          clear d2
          go_wp2_with (go_at_call 13; refine (HL1.out _).mono ?_; rintro e w' ⟨rfl, rfl⟩)
          go_roundw
          case rel => exact ⟨j + 1, n, va, rows, by omega, HSET.out.1⟩
          case measure => rw [HAT.out]; have := HSET.out.2; omega
        | true =>
          have HPR : Hid (attB (s[j].toNat : Int) = true) := by
            show _ = _
            unfold attB tagB
            rw [Bool.or_eq_true, Bool.or_eq_true] at d2
            rcases d2 with (h | h) | h <;> rw [h] <;> simp
          have HN1 := Lib.hid (HNM.out j w3 HI3.out.sc hj)
          go_upto_region 7 with fail
          go_cut [43] from 44 to 53 (fun v wx => v = .bool true ∧ wx = w3)
          case first =>
            have HL1 := Lib.hid (HLT.out (s[j].toNat : Int))
            cases e1 : letB (s[j].toNat : Int) with
            | true =>
              rw [e1] at HL1
              go_wp2_with (go_at_call 13; refine (HL1.out _).mono ?_; rintro e w' ⟨rfl, rfl⟩)
              go_meet
              exact ⟨rfl, rfl⟩
            | false =>
              rw [e1] at HL1
              cases e2 : ((s[j].toNat : Int) == 95) with
              | true =>
                go_wp2_with (go_at_call 13; refine (HL1.out _).mono ?_; rintro e w' ⟨rfl, rfl⟩)
                go_meet
                exact ⟨rfl, rfl⟩
              | false =>
                rw [e1, e2] at d2
                have e3 : ((s[j].toNat : Int) == 58) = true := d2
                go_wp2_with (go_at_call 13; refine (HL1.out _).mono ?_; rintro e w' ⟨rfl, rfl⟩)
                go_meet
                exact ⟨rfl, rfl⟩
          case rest =>
          obtain ⟨rfl, rfl⟩ := hcut
          clear d2 c0 c1 c2 f1 f2 d1
          go_wp2_with (go_at_call 15; refine HN1.out.mono ?_; rintro e w4 ⟨⟨nm, rfl⟩, HNm⟩)
          obtain ⟨j1, hj1, hj1z, hpr, sc4⟩ := HNm.out.ex
          have hj1p := hpr hlt HPR.out
          have HI4 : Hid (AtIn s X Y v t w w4 j1 va n rows) := HI3.out.move hXY sc4 HNm.out.kept hj1 hj1z
          clear hpr sc4 HI3 HN1 HNm HSET
          have HAB : Hid (ArAt (w4.alloc (.cells #[.string nm, .string ⟨#[]⟩] 51 (0, 0))) w4.heap.size nm ⟨#[]⟩) := heap_alloc_new _ _
          have HI5 : Hid (AtIn s X Y v t w (w4.alloc (.cells #[.string nm, .string ⟨#[]⟩] 51 (0, 0))) j1 va n rows) := HI4.out.below hXY (below_new _ _)
          have HOB : Hid (w.heap.size ≤ w4.heap.size ∧ va.ownBlock ≠ some w4.heap.size) := ⟨HI4.out.kept.size, fun e => by have := (World.ownsRow.lt HI4.out.own _ e).2; omega⟩
          generalize hA : w4.heap.size = A at *
          generalize w4.alloc (.cells #[.string nm, .string ⟨#[]⟩] 51 (0, 0)) = w5 at *
          clear hA HI4
          obtain ⟨c0, c1, c2, f1, f2⟩ := HI5.out.sc.cells
          go_cut [78] from 57 to 77 (fun v wx => (∃ b, v = .bool b ∧ (b = true → j1 < s.size)) ∧ Hid (Same w5 wx))
          case first =>
            by_cases hl1 : j1 < s.size
            · have hd : decide ((j1 : Int) < s.size) = true := decide_eq_true (by omega)
              have hl1I : (j1 : Int) < s.size := by omega
              cases d1 : ((s[j1].toNat : Int) == 61)
              all_goals
                go_quiet (fail)
                go_wp2_with fail
                go_meet
                exact ⟨⟨_, rfl, fun _ => hl1⟩, (Same.refl w5).drewN nq⟩
            · have hd : decide ((j1 : Int) < s.size) = false := decide_eq_false (by omega)
              go_quiet (fail)
              go_wp2_with fail
              go_meet
              exact ⟨⟨_, rfl, fun h => by cases h⟩, (Same.refl w5).drewN nq⟩
          case rest =>
          obtain ⟨⟨b, rfl, hb⟩, HSM⟩ := hcut
          clear c0 c1 c2 f1 f2
          have HI6 : Hid (AtIn s X Y v t w wc j1 va n rows) := HI5.out.same HSM.out
          have HAC : Hid (ArAt wc A nm ⟨#[]⟩) := by show _ = _; rw [HSM.out.heap]; exact HAB.out
          rename_i hk
          refine hk _ _ ?_
          clear hk
          go_cut [] from 79 to 89 (fun wx => ∃ (j2 : Nat) (val : ByteArray), j1 ≤ j2 ∧ j2 ≤ s.size ∧ Hid (AtIn s X Y v t w wx j2 va n rows) ∧ Hid (ArAt wx A nm val))
          case first =>
            cases b with
            | false =>
              go_wp2_with fail
              go_meet
              exact ⟨j1, ⟨#[]⟩, Nat.le_refl _, hj1z, HI6, HAC⟩
            | true =>
              have hl1 := hb rfl
              obtain ⟨c0, c1, c2, f1, f2⟩ := HI6.out.sc.cells
              have hS7 : Scn s X (j1 + 1) v (wc.setCell ⟨X, 1, none⟩ (.int .i64 ((j1 : Int) + 1))) := by
                have := HI6.out.sc.set1 (j1 + 1)
                rw [show ((j1 + 1 : Nat) : Int) = (j1 : Int) + 1 by omega] at this
                exact this
              have HI7 : Hid (AtIn s X Y v t w (wc.setCell ⟨X, 1, none⟩ (.int .i64 ((j1 : Int) + 1))) (j1 + 1) va n rows) := HI6.out.move hXY hS7 ((Kept.refl [X] wc).set X 1 (by simp) _) (by omega) (by omega)
              have hAX : A ≠ X := by have := HOB.out.1; have := HI6.out.x; omega
              have HA7 : Hid (ArAt (wc.setCell ⟨X, 1, none⟩ (.int .i64 ((j1 : Int) + 1))) A nm ⟨#[]⟩) := (heap_setCell_other _ _ _ _ hAX).trans HAC.out
              have HV1 := Lib.hid (HVL.out (j1 + 1) _ HI7.out.sc (by omega) HI7.out.kept)
              clear hS7
              go_wp2_with (first
                | (go_at_call 27; refine HV1.out.mono ?_; rintro e w6 ⟨⟨tv, rfl, htv⟩, HTo⟩; have HTV := Lib.hid htv; clear htv)
                | (go_at_call 26; refine (HUN.out _ _ HTV.out).mono ?_; rintro e w7 ⟨t2, rfl, _, hb7⟩; have HA8 : Hid (ArAt w7 A nm ⟨#[]⟩) := (hb7.block A (Nat.lt_of_lt_of_le (Array.getElem?_eq_some_iff.1 HA7.out).1 HTo.out.kept.size)).trans ((HTo.out.kept.block A (Array.getElem?_eq_some_iff.1 HA7.out).1 (by simpa using hAX)).trans HA7.out); have g1 : w7.cell? ⟨A, 1, none⟩ = some (.string ⟨#[]⟩) := cellT HA8.out rfl; have g2 : w7.frozen? ⟨A, 1, none⟩ = false := frozenT HA8.out; have HB7 := Lib.hid hb7; clear hb7))
              go_meet
              obtain ⟨j2, h21, h22, sc6⟩ := HTo.out.ex
              have hI8 : AtIn s X Y v t w w6 j2 va n rows := HI7.out.move hXY sc6 HTo.out.kept h21 h22
              refine ⟨j2, t2, by omega, h22, (hI8.below hXY HB7.out).setA HOB.out.1 HOB.out.2 1 _, ?_⟩
              show _ = _
              rw [heap_setCell_same _ _ 1 _ _ _ HA8.out]; rfl
          case rest =>
          obtain ⟨j2, val, h12, h2z, HI9, HA9⟩ := hcut
          clear HI6 HAC HI5 HAB
          have g1 : wc.cell? ⟨A, 0, none⟩ = some (.string nm) := cellT HA9.out rfl
          have g2 : wc.cell? ⟨A, 1, none⟩ = some (.string val) := cellT HA9.out rfl
          obtain ⟨vaa, vac, rfl⟩ := ownsRow_form HI9.out.own
          have g3 : wc.cell? ⟨Y, 4, none⟩ = some (.slice vaa n vac) := cellT HI9.out.tk rfl
          have hYl := (Array.getElem?_eq_some_iff.1 HI9.out.tk).1
          have hAl := (Array.getElem?_eq_some_iff.1 HA9.out).1
          have z1 : ∀ ob, (wc.alloc ob).cell? ⟨Y, 4, none⟩ = some (.slice vaa n vac) := fun ob => by rw [World.cell?_alloc_lt _ _ _ hYl]; exact g3
          have hn1 : n + 1 ≤ j2 := by omega
          have HX : Hid (∀ W, W = wc.alloc (.cells #[.string nm, .string val] 51 (0, 0)) ∨ W = (wc.alloc (.cells #[.string nm, .string val] 51 (0, 0))).drew → AtIn s X Y v t w W j2 (.slice vaa n vac) n rows ∧ Sl 2 W (.slice (some ⟨wc.heap.size, 0, none⟩) 1 1) 1 [.string nm, .string val] ∧ w.heap.size ≤ W.heap.size) := by
            intro W hW
            have hb : Below wc.heap.size wc W := by
              rcases hW with rfl | rfl
              · exact below_new wc _
              · exact (below_new wc _).drew
            have hc : W.heap[wc.heap.size]? = some (.cells #[.string nm, .string val] 51 (0, 0)) := by
              rcases hW with rfl | rfl
              · exact heap_alloc_new _ _
              · exact heap_alloc_new _ _
            have h1 := HI9.out.below hXY hb
            exact ⟨h1, Sl.one rfl hc, h1.kept.size⟩
          have HY : Hid (∀ W w3 a3 c3, (W = wc.alloc (.cells #[.string nm, .string val] 51 (0, 0)) ∨ W = (wc.alloc (.cells #[.string nm, .string val] 51 (0, 0))).drew) → W.grownBy w3 (Value.slice vaa n vac).ownBlock → w3.ownsRow w.heap.size 51 2 (.slice a3 (n + 1) c3) (n + 1) (rows ++ [.string nm, .string val]) → ((Value.slice a3 (n + 1) c3).ownBlock = (Value.slice vaa n vac).ownBlock ∨ (Value.slice a3 (n + 1) c3).ownBlock = some W.heap.size) →
              w3.cell? ⟨Y, 4, none⟩ = some (.slice vaa n vac) ∧ w3.frozen? ⟨Y, 4, none⟩ = false ∧ Hid (AtIn s X Y v t w (w3.setCell ⟨Y, 4, none⟩ (.slice a3 (n + 1) c3)) j2 (.slice a3 (n + 1) c3) (n + 1) (rows ++ [.string nm, .string val]))) := by
            intro W w3 a3 c3 hW hg ho hat
            have h1 := (HX.out W hW).1
            have t3 : TkAt w3 Y { t with at_ := .slice vaa n vac } := (hg.block Y (Array.getElem?_eq_some_iff.1 h1.tk).1 (fun e => h1.ne.2 e.symm)).trans h1.tk
            exact ⟨cellT t3 rfl, frozenT t3, h1.push hXY hg ho hat hn1⟩
          clear HI9 HA9 HOB
          go_wp2_with fail
          go_region_law (refine step_append_sl _ rfl _ _ 27 rfl w.heap.size 51 vi (.agg #[.string ⟨#[]⟩, .string ⟨#[]⟩]) 2 32 Tryd.underlying27 hvi hv0 hv1 hv2 rfl (by decide) (.slice vaa n vac) n rows rfl (HX.out _ (by first | exact .inl rfl | exact .inr rfl)).1.own _ 1 _ rfl (HX.out _ (by first | exact .inl rfl | exact .inr rfl)).2.1 (by simp [Value.oneCell']) (by unfold maxLen; omega) (by omega) (HX.out _ (by first | exact .inl rfl | exact .inr rfl)).2.2 ?_; intro v3 w9 hown3 hgr3 hat3; obtain ⟨a3, c3, rfl⟩ := ownsRow_form hown3; obtain ⟨z0, z2, HAI⟩ := HY.out _ _ _ _ (by first | exact .inl rfl | exact .inr rfl) hgr3 hown3 hat3)
          all_goals
            have HAF : Hid (AtIn s X Y v t w (w9.setCell ⟨Y, 4, none⟩ (.slice a3 (n + 1) c3)).drew j2 (.slice a3 (n + 1) c3) (n + 1) (rows ++ [.string nm, .string val])) := HAI.out.same (Same.refl _).drew
            have HM1 := Lib.hid HAI.out.sc.atS
            have HM2 := Lib.hid HAF.out.sc.atS
            go_wp2_with fail
            go_roundw
            case rel => exact ⟨j2, n + 1, _, _, by omega, by first | exact HAI | exact HAF⟩
            case measure => rw [HAT.out]; first | (have := HM1.out; omega) | (have := HM2.out; omega)
    · have hd : decide ((j : Int) < s.size) = false := decide_eq_false (by omega)
      go_wp2_with fail
      go_quiet (fail)
      go_wp2_with fail
      go_ret
      exact ⟨⟨_, rfl⟩, (HI.out.same ((Same.refl wr).drewN nq)).out hij⟩
end Go.Proofs.YtoalbfffojpnmaaDoor
