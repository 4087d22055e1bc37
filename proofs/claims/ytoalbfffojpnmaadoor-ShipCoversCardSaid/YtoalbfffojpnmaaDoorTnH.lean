/- ship's token. Conditions: the scanner and its tokens in memory; its string's size; the library's variable MaxLen holds an integer. -/
import Derived.Test.YtoalbfffojpnmaaDoorTnE
import Derived.Test.YtoalbfffojpnmaaDoorTnF
namespace Go.Proofs.YtoalbfffojpnmaaDoor
open Go.RowKit Mh
set_option linter.unusedVariables false

theorem push_in {b0 X : Nat} {s : ByteArray} {i : Nat} {l : List Tk} {w W : World} {v : Value} (h : St b0 X s i l w) (hv : Scn s X i v w) (t : Tk) (hW : W = w.alloc (.cells t.cells.toArray 29 (0, 0)) ∨ W = (w.alloc (.cells t.cells.toArray 29 (0, 0))).drew) :
    W.ownsRow b0 29 5 v l.length (l.flatMap Tk.cells) ∧ Sl 5 W (.slice (some ⟨w.heap.size, 0, none⟩) 1 1) 1 t.cells ∧ b0 ≤ W.heap.size ∧ Scn s X i v W ∧ Below w.heap.size w W ∧ v.ownBlock ≠ some X := by
  obtain ⟨v2, h1, h2, h3⟩ := h.ex
  have e : v2 = v := by
    have a := h1.cells.2.2.1
    have b := hv.cells.2.2.1
    rw [a] at b
    exact Option.some.inj b
  subst e
  have hb : Below w.heap.size w W := by
    rcases hW with rfl | rfl
    · exact below_new w _
    · exact (below_new w _).drew
  have hc : W.heap[w.heap.size]? = some (.cells t.cells.toArray 29 (0, 0)) := by
    rcases hW with rfl | rfl
    · exact heap_alloc_new _ _
    · exact heap_alloc_new _ _
  have h5 := h1.lt
  have h6 := h.lo
  have h7 := hb.size
  exact ⟨own_below h2 hb, Sl.one rfl hc, by omega, h1.below hb, hb, h3⟩
theorem push_out {b0 X : Nat} {s : ByteArray} {i : Nat} {l : List Tk} {w W w3 : World} {va : Option Addr} {vc : Nat} {a3 : Option Addr} {c3 : Nat} (h : St b0 X s i l w) (hv : Scn s X i (.slice va l.length vc) w) (t : Tk) (ht : ∃ a n c, t.at_ = .slice a n c) (hW : W = w.alloc (.cells t.cells.toArray 29 (0, 0)) ∨ W = (w.alloc (.cells t.cells.toArray 29 (0, 0))).drew)
    (hg : W.grownBy w3 (Value.slice va l.length vc).ownBlock) (ho : w3.ownsRow b0 29 5 (.slice a3 (l.length + 1) c3) (l.length + 1) (l.flatMap Tk.cells ++ t.cells)) (hat : (Value.slice a3 (l.length + 1) c3).ownBlock = (Value.slice va l.length vc).ownBlock ∨ (Value.slice a3 (l.length + 1) c3).ownBlock = some W.heap.size) :
    w3.cell? ⟨X, 2, none⟩ = some (.slice va l.length vc) ∧ w3.frozen? ⟨X, 2, none⟩ = false ∧ Hid (St b0 X s i (l ++ [t]) (w3.setCell ⟨X, 2, none⟩ (.slice a3 (l.length + 1) c3))) ∧ Hid (Below b0 w (w3.setCell ⟨X, 2, none⟩ (.slice a3 (l.length + 1) c3))) := by
  obtain ⟨o1, o2, o3, sc, hb, hneX⟩ := push_in h hv t hW
  have hXW := sc.lt
  have hXw := hv.lt
  have hWs := hb.size
  have hlo := h.lo
  have sc3 : Scn s X i (.slice va l.length vc) w3 := (hg.block X hXW (fun e => hneX e.symm)).trans sc
  have hne : (Value.slice a3 (l.length + 1) c3).ownBlock ≠ some X := by
    rcases hat with e | e
    · rw [e]; exact hneX
    · rw [e]; simp; omega
  have sc4 : Scn s X i (.slice a3 (l.length + 1) c3) (w3.setCell ⟨X, 2, none⟩ (.slice a3 (l.length + 1) c3)) := by
    unfold Scn; rw [heap_setCell_same _ _ 2 _ _ _ sc3]; rfl
  refine ⟨sc3.cells.2.2.1, sc3.cells.2.2.2.2, ⟨⟨_, sc4, ?_, hne⟩, hlo, ?_⟩, ?_⟩
  · have := own_setNe (u := .slice a3 (l.length + 1) c3) (o := 2) ho hne
    simpa using this
  · intro u hu
    rw [List.mem_append] at hu
    rcases hu with hu | hu
    · exact h.okc u hu
    · obtain rfl := List.mem_singleton.1 hu; exact ht
  · exact ((((hb.mono (by omega)).grown hg o3 (fun k hk => (World.ownsRow.lt o1 k hk).1))).setCell hlo _)
theorem tk_keep {X Y : Nat} {w W w3 : World} {t t' : Tk} {v u : Value} (hW : W = w.alloc (.cells t'.cells.toArray 29 (0, 0)) ∨ W = (w.alloc (.cells t'.cells.toArray 29 (0, 0))).drew) (hg : W.grownBy w3 v.ownBlock) (hne : v.ownBlock ≠ some Y) (hXY : X ≠ Y) (ht : TkAt w Y t) : TkAt (w3.setCell ⟨X, 2, none⟩ u) Y t := by
  have hY := (Array.getElem?_eq_some_iff.1 ht).1
  have h1 : TkAt W Y t := by
    rcases hW with rfl | rfl
    · exact (heap_alloc_old _ _ hY).trans ht
    · exact (heap_alloc_old _ _ hY).trans ht
  exact (heap_setCell_other _ _ _ _ (fun e => hXY e.symm)).trans ((hg.block Y (Array.getElem?_eq_some_iff.1 h1).1 (fun e => hne e.symm)).trans h1)
/-- What token leaves. -/
structure TkOut (b0 X : Nat) (s : ByteArray) (i : Nat) (w w' : World) : Prop where
  ex : ∃ i' l', i < i' ∧ i' ≤ s.size ∧ St b0 X s i' l' w' ∧ Good s l' ∧ End1 s l' i'
  low : Below b0 w w'
theorem tk_done {b0 X : Nat} {s : ByteArray} {i i' : Nat} {l : List Tk} {t : Tk} {w w' : World} (hg : Good s l) (he : End1 s l i) (hi : i < s.size) (h60 : byteAt s i = 60) (ha : t.a = i) (hk : t.k ≠ 1) (hii : i < i') (hz : i' ≤ s.size) (hs : St b0 X s i' (l ++ [t]) w') (hb : Below b0 w w') : TkOut b0 X s i w w' :=
  ⟨⟨i', _, hii, hz, hs, hg.snoc he ha ⟨by omega, fun _ => by rw [ha]; exact h60, fun h => absurd h hk⟩ (fun h => absurd h hk), End1.snoc (by omega) (fun h => absurd h hk)⟩, hb⟩
theorem beg_60 {s : ByteArray} {i : Nat} (h : begB s i = true) : byteAt s i = 60 ∧ i + 1 < s.size := by
  unfold begB at h
  rw [Bool.and_eq_true, Bool.and_eq_true] at h
  exact ⟨beq_iff_eq.1 h.1.1, of_decide_eq_true h.1.2⟩
set_option maxRecDepth 100000 in
set_option maxHeartbeats 16000000 in
theorem token_any (b0 X : Nat) (s : ByteArray) (i : Nat) (l : List Tk) (m : Int) (w : World) (h : St b0 X s i l w) (hg : Good s l) (he : End1 s l i) (hb : begB s i = true) (hi : i < s.size) (hs : s.size ≤ 1000000) (hl : l.length ≤ 900000) (hm : w.cell? ⟨0, 0, none⟩ = some (.int .i64 m)) (hgX : 0 < b0) :
    Calls Tryd.prog 10 #[ptr X] w fun e w' => e = .returned (.tuple #[]) ∧ Hid (TkOut b0 X s i w w') := by
  obtain ⟨h60, hi1⟩ := beg_60 hb
  obtain ⟨v, hv, hown, _⟩ := h.ex
  obtain ⟨va, vc, rfl⟩ := ownsRow_form hown
  have HOWN : Hid (∀ k, (Value.slice va l.length vc).ownBlock = some k → k < w.heap.size) := fun k e => (World.ownsRow.lt hown k e).2
  have HGL : Hid (0 < w.heap.size) := World.block_lt_of_cell? w _ hm
  have HGE : Hid (∀ (t : Tk) (j : Nat), t.a = i → t.k ≠ 1 → i < j → Good s (l ++ [t]) ∧ End1 s (l ++ [t]) j) := fun t j ha hk hij => ⟨hg.snoc he ha ⟨by omega, fun _ => by rw [ha]; exact h60, fun h => absurd h hk⟩ (fun h => absurd h hk), End1.snoc (by omega) (fun h => absurd h hk)⟩
  clear hown hb
  obtain ⟨c0, c1, c2, f1, f2⟩ := hv.cells
  obtain ⟨vi, hvi, hv0, hv1, hv2⟩ := info_parts infoTok
  have hXg : X ≠ 0 := by have := h.lo; omega
  have HM : Hid (∀ w2, Kept [X] w w2 → w2.cell? ⟨0, 0, none⟩ = some (.int .i64 m)) := fun w2 k => (World.cell?_of_block (w := w) (a := ⟨0, 0, none⟩) (k.block _ (World.block_lt_of_cell? w _ hm) (by simpa using fun e => hXg e.symm))).trans hm
  have H := Lib.hid h
  have HV := Lib.hid hv
  have HDN : Hid (∀ (t : Tk) (i' : Nat) (w' : World), t.a = i → t.k ≠ 1 → i < i' → i' ≤ s.size → St b0 X s i' (l ++ [t]) w' → Below b0 w w' → TkOut b0 X s i w w') := fun t i' w' ha hk hii hz hs2 hb2 => tk_done hg he hi h60 ha hk hii hz hs2 hb2
  have HHP := Lib.hid (fun (t p : ByteArray) w' => Tryd.strings_HasPrefix t p w')
  have HRS : Hid ((s.extract i s.size).size = s.size - i) := by show _ = _; simp
  have hiI : (i : Int) ≤ s.size := by omega
  clear h hv hm hg he
  unfold ptr
  go_enter Tryd.func10, Tryd.ntmps10
  cases hp : Lib.hasPrefix (s.extract i s.size).data.toList (⟨#[60, 33, 45, 45]⟩ : ByteArray).data.toList with
  | true =>
    have HP1 := Lib.hid (fun w' => HHP.out (s.extract i s.size) ⟨#[60, 33, 45, 45]⟩ w')
    have hlen : i + 4 ≤ s.size := by
      have h1 := hp
      rw [← Lib.hasPrefix_raw, Bool.and_eq_true] at h1
      have h3 : (4 : Nat) ≤ (s.extract i s.size).size := of_decide_eq_true h1.1
      have h2 := HRS.out
      omega
    have HP2 : Hid (∀ w', Calls Tryd.prog 6 #[.string (s.extract i s.size), .string ⟨#[60, 33, 45, 45]⟩] w' fun e w'' => e = .returned (.bool true) ∧ w' = w'') := fun w' => (HP1.out w').mono (fun e w'' h => ⟨by rw [h.1, hp], h.2.symm⟩)
    clear hp HP1 HHP
    have hsc2 : Scn s X (i + 4) (.slice va l.length vc) (w.setCell ⟨X, 1, none⟩ (.int .i64 ((i : Int) + 4))) := by
      have := HV.out.set1 (i + 4)
      rw [show ((i + 4 : Nat) : Int) = (i : Int) + 4 by omega] at this
      exact this
    have HK2 : Hid (Kept [X] w (w.setCell ⟨X, 1, none⟩ (.int .i64 ((i : Int) + 4)))) := (Kept.refl [X] w).set X 1 (by simp) _
    have HS2 := Lib.hid hsc2
    go_wp2_with (go_at_call 6; refine (HP2.out _).mono ?_; rintro e w' ⟨rfl, rfl⟩)
    clear c0 c1 c2 f1 f2
    generalize hw2 : w.setCell ⟨X, 1, none⟩ (.int .i64 ((i : Int) + 4)) = w2 at *
    clear hw2
    obtain ⟨c0, c1, c2, f1, f2⟩ := hsc2.cells
    have HSW : Hid (Same w2 w2) := Same.refl w2
    have HUT := Lib.hid (fun W (sm : Same w2 W) => upTo_any s ⟨#[45, 45, 62]⟩ X (i + 4) (.slice va l.length vc) m W (hsc2.same sm) (by omega) (by omega) (HM.out W (HK2.out.trans (sm.kept _))) (by decide))
    have HMV : Hid (∀ W w4 (sm : Same w2 W) {i' : Nat}, Scn s X i' (.slice va l.length vc) w4 → Kept [X] W w4 → St b0 X s i' l w4) := fun W w4 sm i' hsc hk => H.out.move HV.out hsc (HK2.out.trans ((sm.kept _).trans hk))
    have HLO : Hid (∀ W w4 (sm : Same w2 W), Kept [X] W w4 → Below b0 w w4) := fun W w4 sm hk => H.out.low (HK2.out.trans ((sm.kept _).trans hk))
    clear hsc2
    unfold ptr at HUT
    go_region_law (first
      | (refine step_append_sl _ rfl _ _ 23 rfl b0 29 vi (.agg #[.int .i64 0, .int .i64 0, .string ⟨#[]⟩, .string ⟨#[]⟩, .slice none 0 0]) 5 72 Tryd.underlying23 hvi hv0 hv1 hv2 rfl (by decide) (.slice va l.length vc) l.length (l.flatMap Tk.cells) rfl (push_in HST.out HSC.out ⟨4, i, ⟨#[]⟩, tx, .slice none 0 0⟩ (by first | exact .inl rfl | exact .inr rfl)).1 _ 1 _ rfl (push_in HST.out HSC.out ⟨4, i, ⟨#[]⟩, tx, .slice none 0 0⟩ (by first | exact .inl rfl | exact .inr rfl)).2.1 (by simp [Tk.cells, Value.oneCell']) (by unfold maxLen; omega) (by omega) (push_in HST.out HSC.out ⟨4, i, ⟨#[]⟩, tx, .slice none 0 0⟩ (by first | exact .inl rfl | exact .inr rfl)).2.2.1 ?_; intro v3 w5 hown3 hgr3 hat3; obtain ⟨a3, c3, rfl⟩ := ownsRow_form hown3; obtain ⟨z0, z1, HS5, HB5⟩ := push_out HST.out HSC.out ⟨4, i, ⟨#[]⟩, tx, .slice none 0 0⟩ ⟨_, _, _, rfl⟩ (by first | exact .inl rfl | exact .inr rfl) hgr3 hown3 hat3)
      | (go_simp; go_at_call 14; (with_reducible refine (HUT.out _ (by first | exact HSW.out | exact HSW.out.drew)).mono ?_); rintro e w4 ⟨⟨tx, rfl, _⟩, HTo⟩; obtain ⟨i', hii, hiz, hsc⟩ := HTo.out.ex; have HSC := Lib.hid hsc; obtain ⟨y0, y1, y2, y3, y4⟩ := hsc.cells; have y5 : ∀ ob, (w4.alloc ob).cell? ⟨X, 2, none⟩ = some (.slice va l.length vc) := (fun ob => by rw [World.cell?_alloc_lt _ _ _ hsc.lt]; exact y2); have HST := Lib.hid (HMV.out _ _ (by first | exact HSW.out | exact HSW.out.drew) HSC.out HTo.out.kept); have HLW := Lib.hid (HLO.out _ _ (by first | exact HSW.out | exact HSW.out.drew) HTo.out.kept); clear hsc))
    all_goals
      have HD := Lib.hid (HDN.out ⟨4, i, ⟨#[]⟩, tx, .slice none 0 0⟩ i' _ rfl (by simp) (by omega) hiz HS5.out (HLW.out.trans HB5.out))
      have HD2 := Lib.hid (HDN.out ⟨4, i, ⟨#[]⟩, tx, .slice none 0 0⟩ i' _ rfl (by simp) (by omega) hiz HS5.out.drew (HLW.out.trans HB5.out.drew))
      go_wp2_with fail
      go_end0
      exact ⟨rfl, by first | exact HD | exact HD2⟩
  | false =>
    have HP2 : Hid (∀ w', Calls Tryd.prog 6 #[.string (s.extract i s.size), .string ⟨#[60, 33, 45, 45]⟩] w' fun e w'' => e = .returned (.bool false) ∧ w' = w'') := fun w' => (HHP.out (s.extract i s.size) ⟨#[60, 33, 45, 45]⟩ w').mono (fun e w'' h => ⟨by rw [h.1, hp], h.2.symm⟩)
    clear hp HHP
    have hR2 : 2 ≤ (s.extract i s.size).size := by rw [HRS.out]; omega
    have hR1 : 1 < (s.extract i s.size).size := by omega
    have hR1I : (1 : Int) < ((s.extract i s.size).size : Nat) := by omega
    have hRsz := HRS.out
    have h1s : (1 : Int) < ((s.size - i : Nat) : Int) := by omega
    obtain ⟨c, hc⟩ : ∃ c : Nat, (s.extract i s.size)[1].toNat = c := ⟨_, rfl⟩
    have hc2 : (s[i + 1]'hi1).toNat = c := by rw [← hc]; congr 1; simp [ByteArray.getElem_eq_getElem_data]
    cases e1 : ((c : Int) == 33 || (c : Int) == 63) with
    | true =>
      have hlen : i + 2 ≤ s.size := by omega
      have hsc2 : Scn s X (i + 2) (.slice va l.length vc) (w.setCell ⟨X, 1, none⟩ (.int .i64 ((i : Int) + 2))) := by
        have := HV.out.set1 (i + 2)
        rw [show ((i + 2 : Nat) : Int) = (i : Int) + 2 by omega] at this
        exact this
      have HK2 : Hid (Kept [X] w (w.setCell ⟨X, 1, none⟩ (.int .i64 ((i : Int) + 2)))) := (Kept.refl [X] w).set X 1 (by simp) _
      have HS2 := Lib.hid hsc2
      cases e2 : ((c : Int) == 33)
      all_goals
        rw [e2] at e1
        first
        | (have e3 : ((c : Int) == 63) = true := e1)
        | skip
        clear e1
        go_wp2_with (go_at_call 6; refine (HP2.out _).mono ?_; rintro e w' ⟨rfl, rfl⟩)
        clear c0 c1 c2 f1 f2
        generalize hw2 : w.setCell ⟨X, 1, none⟩ (.int .i64 ((i : Int) + 2)) = w2 at *
        clear hw2
        obtain ⟨c0, c1, c2, f1, f2⟩ := hsc2.cells
        have HSW : Hid (Same w2 w2) := Same.refl w2
        have HUT := Lib.hid (fun W (sm : Same w2 W) => upTo_any s ⟨#[62]⟩ X (i + 2) (.slice va l.length vc) m W (hsc2.same sm) (by omega) (by omega) (HM.out W (HK2.out.trans (sm.kept _))) (by decide))
        have HMV : Hid (∀ W w4 (sm : Same w2 W) {i' : Nat}, Scn s X i' (.slice va l.length vc) w4 → Kept [X] W w4 → St b0 X s i' l w4) := fun W w4 sm i' hsc hk => H.out.move HV.out hsc (HK2.out.trans ((sm.kept _).trans hk))
        have HLO : Hid (∀ W w4 (sm : Same w2 W), Kept [X] W w4 → Below b0 w w4) := fun W w4 sm hk => H.out.low (HK2.out.trans ((sm.kept _).trans hk))
        clear hsc2
        unfold ptr at HUT
        go_region_law (first
          | (refine step_append_sl _ rfl _ _ 23 rfl b0 29 vi (.agg #[.int .i64 0, .int .i64 0, .string ⟨#[]⟩, .string ⟨#[]⟩, .slice none 0 0]) 5 72 Tryd.underlying23 hvi hv0 hv1 hv2 rfl (by decide) (.slice va l.length vc) l.length (l.flatMap Tk.cells) rfl (push_in HST.out HSC.out ⟨5, i, ⟨#[]⟩, tx, .slice none 0 0⟩ (by first | exact .inl rfl | exact .inr rfl)).1 _ 1 _ rfl (push_in HST.out HSC.out ⟨5, i, ⟨#[]⟩, tx, .slice none 0 0⟩ (by first | exact .inl rfl | exact .inr rfl)).2.1 (by simp [Tk.cells, Value.oneCell']) (by unfold maxLen; omega) (by omega) (push_in HST.out HSC.out ⟨5, i, ⟨#[]⟩, tx, .slice none 0 0⟩ (by first | exact .inl rfl | exact .inr rfl)).2.2.1 ?_; intro v3 w5 hown3 hgr3 hat3; obtain ⟨a3, c3, rfl⟩ := ownsRow_form hown3; obtain ⟨z0, z1, HS5, HB5⟩ := push_out HST.out HSC.out ⟨5, i, ⟨#[]⟩, tx, .slice none 0 0⟩ ⟨_, _, _, rfl⟩ (by first | exact .inl rfl | exact .inr rfl) hgr3 hown3 hat3)
          | (go_simp; go_at_call 14; (with_reducible refine (HUT.out _ (by first | exact HSW.out | exact HSW.out.drew)).mono ?_); rintro e w4 ⟨⟨tx, rfl, _⟩, HTo⟩; obtain ⟨i', hii, hiz, hsc⟩ := HTo.out.ex; have HSC := Lib.hid hsc; obtain ⟨y0, y1, y2, y3, y4⟩ := hsc.cells; have y5 : ∀ ob, (w4.alloc ob).cell? ⟨X, 2, none⟩ = some (.slice va l.length vc) := (fun ob => by rw [World.cell?_alloc_lt _ _ _ hsc.lt]; exact y2); have HST := Lib.hid (HMV.out _ _ (by first | exact HSW.out | exact HSW.out.drew) HSC.out HTo.out.kept); have HLW := Lib.hid (HLO.out _ _ (by first | exact HSW.out | exact HSW.out.drew) HTo.out.kept); clear hsc))
        all_goals
          have HD := Lib.hid (HDN.out ⟨5, i, ⟨#[]⟩, tx, .slice none 0 0⟩ i' _ rfl (by simp) (by omega) hiz HS5.out (HLW.out.trans HB5.out))
          have HD2 := Lib.hid (HDN.out ⟨5, i, ⟨#[]⟩, tx, .slice none 0 0⟩ i' _ rfl (by simp) (by omega) hiz HS5.out.drew (HLW.out.trans HB5.out.drew))
          go_wp2_with fail
          go_end0
          exact ⟨rfl, by first | exact HD | exact HD2⟩
    | false =>
      obtain ⟨e1, e2⟩ := Bool.or_eq_false_iff.1 e1
      cases e3 : ((c : Int) == 47) with
      | true =>
        have hlen : i + 2 ≤ s.size := by omega
        have hsc2 : Scn s X (i + 2) (.slice va l.length vc) (w.setCell ⟨X, 1, none⟩ (.int .i64 ((i : Int) + 2))) := by
          have := HV.out.set1 (i + 2)
          rw [show ((i + 2 : Nat) : Int) = (i : Int) + 2 by omega] at this
          exact this
        have HK2 : Hid (Kept [X] w (w.setCell ⟨X, 1, none⟩ (.int .i64 ((i : Int) + 2)))) := (Kept.refl [X] w).set X 1 (by simp) _
        have HS2 := Lib.hid hsc2
        have HN1 := Lib.hid (nameT_any s X (i + 2) (.slice va l.length vc) (w.setCell ⟨X, 1, none⟩ (.int .i64 ((i : Int) + 2))) hsc2 (by omega) (by omega))
        unfold ptr at HN1
        go_wp2_with (first | (go_at_call 6; refine (HP2.out _).mono ?_; rintro e w' ⟨rfl, rfl⟩) | (go_at_call 15; refine HN1.out.mono ?_; rintro e w3 ⟨⟨nm, rfl⟩, HNm⟩; obtain ⟨j1, hj1, hj1z, _, sc3⟩ := HNm.out.ex; have HK3 : Hid (Kept [X] w w3) := HK2.out.trans HNm.out.kept; have HUT3 := Lib.hid (upTo_any s ⟨#[62]⟩ X j1 (.slice va l.length vc) m w3 sc3 hj1z (by omega) (HM.out w3 HK3.out) (by decide)); unfold ptr at HUT3) | (go_at_call 14; refine HUT3.out.mono ?_; rintro e w4 ⟨⟨tx, rfl, _⟩, HTo⟩; obtain ⟨i', hii, hiz, hsc⟩ := HTo.out.ex; have HSC := Lib.hid hsc; obtain ⟨y0, y1, y2, y3, y4⟩ := hsc.cells; have y5 : ∀ ob, (w4.alloc ob).cell? ⟨X, 2, none⟩ = some (.slice va l.length vc) := (fun ob => by rw [World.cell?_alloc_lt _ _ _ hsc.lt]; exact y2); have HST := Lib.hid (H.out.move HV.out HSC.out (HK3.out.trans HTo.out.kept)); have HLW := Lib.hid (H.out.low (HK3.out.trans HTo.out.kept)); clear hsc) | (at_builtin; refine wpList_append_sl _ rfl _ _ 23 rfl b0 29 vi (.agg #[.int .i64 0, .int .i64 0, .string ⟨#[]⟩, .string ⟨#[]⟩, .slice none 0 0]) 5 72 Tryd.underlying23 hvi hv0 hv1 hv2 rfl (by decide) (.slice va l.length vc) l.length (l.flatMap Tk.cells) rfl (push_in HST.out HSC.out ⟨3, i, nm, ⟨#[]⟩, .slice none 0 0⟩ (by first | exact .inl rfl | exact .inr rfl)).1 _ 1 _ rfl (push_in HST.out HSC.out ⟨3, i, nm, ⟨#[]⟩, .slice none 0 0⟩ (by first | exact .inl rfl | exact .inr rfl)).2.1 (by simp [Tk.cells, Value.oneCell']) (by unfold maxLen; omega) (by omega) (push_in HST.out HSC.out ⟨3, i, nm, ⟨#[]⟩, .slice none 0 0⟩ (by first | exact .inl rfl | exact .inr rfl)).2.2.1 ?_; intro v3 w5 hown3 hgr3 hat3; obtain ⟨a3, c3, rfl⟩ := ownsRow_form hown3; obtain ⟨z0, z1, HS5, HB5⟩ := push_out HST.out HSC.out ⟨3, i, nm, ⟨#[]⟩, .slice none 0 0⟩ ⟨_, _, _, rfl⟩ (by first | exact .inl rfl | exact .inr rfl) hgr3 hown3 hat3))
        all_goals
          have HD := Lib.hid (HDN.out ⟨3, i, nm, ⟨#[]⟩, .slice none 0 0⟩ i' _ rfl (by simp) (by omega) hiz HS5.out (HLW.out.trans HB5.out))
          have HD2 := Lib.hid (HDN.out ⟨3, i, nm, ⟨#[]⟩, .slice none 0 0⟩ i' _ rfl (by simp) (by omega) hiz HS5.out.drew (HLW.out.trans HB5.out.drew))
          go_end0
          exact ⟨rfl, by first | exact HD | exact HD2⟩
      | false =>
        have hlen : i + 1 ≤ s.size := by omega
        have hsc2 : Scn s X (i + 1) (.slice va l.length vc) (w.setCell ⟨X, 1, none⟩ (.int .i64 ((i : Int) + 1))) := by
          have := HV.out.set1 (i + 1)
          rw [show ((i + 1 : Nat) : Int) = (i : Int) + 1 by omega] at this
          exact this
        have HK2 : Hid (Kept [X] w (w.setCell ⟨X, 1, none⟩ (.int .i64 ((i : Int) + 1)))) := (Kept.refl [X] w).set X 1 (by simp) _
        have HS2 := Lib.hid hsc2
        have HN1 := Lib.hid (nameT_any s X (i + 1) (.slice va l.length vc) (w.setCell ⟨X, 1, none⟩ (.int .i64 ((i : Int) + 1))) hsc2 (by omega) (by omega))
        unfold ptr at HN1
        go_wp2_with (first | (go_at_call 6; refine (HP2.out _).mono ?_; rintro e w' ⟨rfl, rfl⟩) | (go_at_call 15; refine HN1.out.mono ?_; rintro e w3 ⟨⟨nm, rfl⟩, HNm⟩; obtain ⟨j1, hj1, hj1z, _, sc3⟩ := HNm.out.ex; have HK3 : Hid (Kept [X] w w3) := HK2.out.trans HNm.out.kept))
        have hXl : X < w3.heap.size := sc3.lt
        have hYg : 0 < w3.heap.size := Nat.lt_of_lt_of_le HGL.out HK3.out.size
        have hwl := HK3.out.size
        have HAT := Lib.hid (attrs_any s X w3.heap.size j1 (.slice va l.length vc) ⟨2, i, nm, ⟨#[]⟩, .slice none 0 0⟩ m (w3.alloc (.cells #[.int .i64 2, .int .i64 (i : Int), .string nm, .string ⟨#[]⟩, .slice none 0 0] 29 (0, 0))) (sc3.below (below_new _ _)) (heap_alloc_new _ _) (by omega) hj1z hs (HM.out _ (HK3.out.alloc _)) hXg (by omega))
        unfold ptr at HAT
        have HKA : Hid (Kept [X] w (w3.alloc (.cells #[.int .i64 2, .int .i64 (i : Int), .string nm, .string ⟨#[]⟩, .slice none 0 0] 29 (0, 0)))) := HK3.out.alloc _
        have HNY : Hid ((Value.slice va l.length vc).ownBlock ≠ some w3.heap.size) := fun e => by have := HOWN.out _ e; omega
        have hXY : X ≠ w3.heap.size := by omega
        generalize hYe : w3.heap.size = Y at *
        have hYw : w.heap.size ≤ Y := hwl
        refine HAT.out.mono ?_
        rintro e w4 ⟨⟨b, rfl⟩, HAO⟩
        obtain ⟨j2, va', h12, h2z, sc5, tk5, xa, xn, xc, rfl⟩ := HAO.out.ex
        have HK5 : Hid (Kept [X] w w4) := HKA.out.call HAO.out.kept (fun b hb => by simp at hb; rcases hb with rfl | rfl; exact .inl (by simp); exact .inr hYw)
        have HSC := Lib.hid sc5
        have HST : Hid (St b0 X s j2 l w4) := H.out.move HV.out sc5 HK5.out
        have HTK : Hid (TkAt w4 Y ⟨2, i, nm, ⟨#[]⟩, .slice xa xn xc⟩) := tk5
        have HLW := Lib.hid (H.out.low HK5.out)
        clear HAT HKA
        obtain ⟨y0, y1, y2, y3, y4⟩ := sc5.cells
        have y5 : ∀ ob, (w4.alloc ob).cell? ⟨X, 2, none⟩ = some (.slice va l.length vc) := (fun ob => by rw [World.cell?_alloc_lt _ _ _ sc5.lt]; exact y2)
        have t0 : w4.cell? ⟨Y, 0, none⟩ = some (.int .i64 2) := cellT HTK.out rfl
        have t1 : w4.cell? ⟨Y, 1, none⟩ = some (.int .i64 (i : Int)) := cellT HTK.out rfl
        have t2 : w4.cell? ⟨Y, 2, none⟩ = some (.string nm) := cellT HTK.out rfl
        have t3 : w4.cell? ⟨Y, 3, none⟩ = some (.string ⟨#[]⟩) := cellT HTK.out rfl
        have t4 : w4.cell? ⟨Y, 4, none⟩ = some (.slice xa xn xc) := cellT HTK.out rfl
        clear tk5 c0 c1 c2 f1 f2
        go_wp2_with fail
        go_cut [] from 30 to 39 (fun wx => Hid (St b0 X s j2 (l ++ [⟨2, i, nm, ⟨#[]⟩, .slice xa xn xc⟩]) wx) ∧ Hid (Below b0 w wx) ∧ Hid (TkAt wx Y ⟨2, i, nm, ⟨#[]⟩, .slice xa xn xc⟩))
        case first =>
          go_region_law (refine step_append_sl _ rfl _ _ 23 rfl b0 29 vi (.agg #[.int .i64 0, .int .i64 0, .string ⟨#[]⟩, .string ⟨#[]⟩, .slice none 0 0]) 5 72 Tryd.underlying23 hvi hv0 hv1 hv2 rfl (by decide) (.slice va l.length vc) l.length (l.flatMap Tk.cells) rfl (push_in HST.out HSC.out ⟨2, i, nm, ⟨#[]⟩, .slice xa xn xc⟩ (by first | exact .inl rfl | exact .inr rfl)).1 _ 1 _ rfl (push_in HST.out HSC.out ⟨2, i, nm, ⟨#[]⟩, .slice xa xn xc⟩ (by first | exact .inl rfl | exact .inr rfl)).2.1 (by simp [Tk.cells, Value.oneCell']) (by unfold maxLen; omega) (by omega) (push_in HST.out HSC.out ⟨2, i, nm, ⟨#[]⟩, .slice xa xn xc⟩ (by first | exact .inl rfl | exact .inr rfl)).2.2.1 ?_; intro v3 w5 hown3 hgr3 hat3; obtain ⟨a3, c3, rfl⟩ := ownsRow_form hown3; obtain ⟨z0, z1, HS5, HB5⟩ := push_out HST.out HSC.out ⟨2, i, nm, ⟨#[]⟩, .slice xa xn xc⟩ ⟨_, _, _, rfl⟩ (by first | exact .inl rfl | exact .inr rfl) hgr3 hown3 hat3; have HTF := Lib.hid (tk_keep (u := .slice a3 (l.length + 1) c3) (t' := ⟨2, i, nm, ⟨#[]⟩, .slice xa xn xc⟩) (by first | exact .inl rfl | exact .inr rfl) hgr3 HNY.out hXY HTK.out))
          all_goals
            have HSD := Lib.hid HS5.out.drew
            have HBD := Lib.hid (HLW.out.trans HB5.out)
            have HBD2 := Lib.hid (HLW.out.trans HB5.out.drew)
            go_wp2_with fail
            go_meet
            exact ⟨by first | exact HS5 | exact HSD, by first | exact HBD | exact HBD2, by first | exact HTF | exact HTF.out⟩
        case rest =>
        obtain ⟨HS6, HB6, HT6⟩ := hcut
        have u2 : wc.cell? ⟨Y, 2, none⟩ = some (.string nm) := cellT HT6.out rfl
        have HD := Lib.hid (HDN.out ⟨2, i, nm, ⟨#[]⟩, .slice xa xn xc⟩ j2 wc rfl (by simp) (by omega) h2z HS6.out HB6.out)
        clear y0 y1 y2 y3 y4 y5 t0 t1 t2 t3 t4
        cases b with
        | false =>
          go_wp2_with fail
          go_end0
          exact ⟨rfl, HD⟩
        | true =>
        have HRW := Lib.hid (fun w => isRaw_any nm w)
        cases hr : rawB nm with
        | false =>
          rw [hr] at HRW
          go_wp2_with (go_at_call 18; refine (HRW.out _).mono ?_; rintro e w' ⟨rfl, rfl⟩)
          go_end0
          exact ⟨rfl, HD⟩
        | true =>
        rw [hr] at HRW
        have HRA := Lib.hid (raw_any b0 X s nm j2 (l ++ [⟨2, i, nm, ⟨#[]⟩, .slice xa xn xc⟩]) wc HS6.out h2z hs hr (by simp; omega))
        unfold ptr at HRA
        have HG2 := Lib.hid (HGE.out ⟨2, i, nm, ⟨#[]⟩, .slice xa xn xc⟩ j2 rfl (by simp) (by omega))
        clear hr
        go_wp2_with (first | (go_at_call 18; refine (HRW.out _).mono ?_; rintro e w' ⟨rfl, hw⟩; subst hw) | (go_at_call 19; refine HRA.out.mono ?_; rintro e w6 ⟨rfl, HRO⟩))
        go_end0
        obtain ⟨i', hji, hiz, hend, hst⟩ := HRO.out.ex
        obtain ⟨hG, hE⟩ := HG2.out
        refine ⟨rfl, ⟨?_, HB6.out.trans HRO.out.low⟩⟩
        by_cases hlt : j2 < i'
        · rw [if_pos hlt] at hst
          exact ⟨i', _, by omega, hiz, hst, hG.snoc hE (t := chTk s j2 i') rfl (own_ch hlt hiz) (fun _ h => by simp), End1.snoc (t := chTk s j2 i') hlt (fun _ => ⟨ch_end hlt hiz, hend⟩)⟩
        · rw [if_neg hlt] at hst
          obtain rfl : i' = j2 := by omega
          exact ⟨i', _, by omega, hiz, hst, hG, hE⟩
end Go.Proofs.YtoalbfffojpnmaaDoor
