/- lang.ReadRule at a rule's own text. Conditions: as stated. -/
import Derived.Test.YtgfoangacbajlaaDoorRuRi
namespace Go.Proofs.YtgfoangacbajlaaDoor
open Go.RowKit Mh
set_option linter.unusedVariables false

/-- What ReadRule returns at R's text. -/
def RdOk (R : List T) (w : World) (e : Ending) (w' : World) : Prop := ∃ fv, e = .returned (.tuple #[.agg #[fv], .int .i64 0, .int .i64 0]) ∧ RuAt w' R fv ∧ Below w.heap.size w w'
set_option maxRecDepth 100000 in
set_option maxHeartbeats 1000000 in
theorem read_nil (w : World) : Calls Tryd.prog 6 #[.string ⟨#[]⟩] w (RdOk [] w) := by
  go_enter Tryd.func6, Tryd.ntmps6
  go_wp2_with fail
  refine bodyPost_ret (v := .tuple #[.agg #[.slice none 0 0], .int .i64 0, .int .i64 0]) (by simp [results, Tryd.results6, go_sem]) rfl ⟨_, rfl, ⟨[], ⟨rfl, .inl ⟨rfl, none, 0, rfl⟩⟩, by unfold TsAt; rfl⟩, ?_⟩
  exact ((Below.refl _ w).alloc (Nat.le_refl _) _)

theorem RdIn.start {b : Nat} {s : ByteArray} {W w1 : World} {k : T} {ks : List T} {a : Option Addr} {c : Nat} (hb : b < W.heap.size)
    (hT : TAt (fresh W.heap.size none w1) k [.int .i64 k.op, .int .i64 k.mod, .int .i64 k.lo, .int .i64 k.hi, .slice a k.ks.length c]) (hS : SR b s (tailB sSemi (ks.map T.txt)) w1) (hK : Kept [b] W w1) :
    RdIn b (w1.heap.size + 1) s W (k :: ks) 1 [.int .i64 k.op, .int .i64 k.mod, .int .i64 k.lo, .int .i64 k.hi, .slice a k.ks.length c] (.slice (some ⟨w1.heap.size, 0, none⟩) 1 1)
      ((w1.alloc (.cells #[.int .i64 k.op, .int .i64 k.mod, .int .i64 k.lo, .int .i64 k.hi, .slice a k.ks.length c] 42)).alloc (.cells #[.slice (some ⟨w1.heap.size, 0, none⟩) 1 1] 24)) := by
  have hz := hK.size
  have h0 : ((w1.alloc (.cells #[.int .i64 k.op, .int .i64 k.mod, .int .i64 k.lo, .int .i64 k.hi, .slice a k.ks.length c] 42)).alloc (.cells #[.slice (some ⟨w1.heap.size, 0, none⟩) 1 1] 24)).heap[w1.heap.size]? = some (.cells #[.int .i64 k.op, .int .i64 k.mod, .int .i64 k.lo, .int .i64 k.hi, .slice a k.ks.length c] 42 (0, 0)) :=
    (heap_alloc_old _ _ (by simp)).trans (heap_alloc_new _ _)
  refine ⟨by omega, by simp, ⟨rfl, .inr ⟨_, 1, _, rfl, by omega, h0, by omega, by unfold maxLen; omega, rfl, rfl⟩⟩, by simp [Value.ownBlock], ?_, ?_, ?_, ?_, by omega⟩
  · refine TsAt.one ?_
    have hm : FrKept W.heap.size none w1 W.heap.size none (mask (w1.heap.size + 1) w1) :=
      ⟨by rw [mask_size]; exact Nat.le_refl _, fun k j u h1 h2 h3 => ⟨h1, h2, mask_cell_of h3 (by have := cell_lt h3; omega)⟩⟩
    exact (hm.trans (((FrKept.newRow w1 _).trans (FrKept.alloc _ _)).masked (w1.heap.size + 1))).tat hT
  · exact (hS.alloc _).alloc _
  · exact (hK.alloc _).alloc _
  · exact heap_new_at (by simp)
theorem RuAt.fr {B B' : Nat} {g g' : Option Nat} {w w' : World} {R : List T} {fv : Value} (h : FrKept B g w B' g' w') (hr : RuAt (fresh B g w) R fv) : RuAt (fresh B' g' w') R fv := by
  obtain ⟨rows, h1, h2⟩ := hr
  exact ⟨rows, Sl.fr h h1, h.tsat _ _ h2⟩
theorem RuAt.unfresh {B : Nat} {g : Option Nat} {w : World} {R : List T} {fv : Value} (hr : RuAt (fresh B g w) R fv) : RuAt w R fv := by
  obtain ⟨rows, h1, h2⟩ := hr
  exact ⟨rows, Sl.unfresh h1, TsAt.unfresh _ _ h2⟩
theorem RdIn.done {b o : Nat} {s : ByteArray} {W : World} {L : List T} {j : Nat} {rows : List Value} {v : Value} {wr : World} (h : RdIn b o s W L j rows v wr) (hj : ¬ j < L.length) : RuAt (fresh W.heap.size none wr) L v := by
  obtain rfl : j = L.length := by have := h.le; omega
  have ha := h.at_
  rw [List.take_length] at ha
  exact ⟨rows, Sl.of_own_fresh h.own, ((FrKept.outMask wr o).trans (FrKept.drop wr)).tsat _ _ ha⟩
theorem T.txt_pos (k : T) (h : k.form = true) : 0 < (T.txt k).length := by
  obtain ⟨op, m, lo, hi, ks⟩ := k
  unfold T.form at h
  unfold T.txt
  by_cases h2 : op = 2
  · subst h2
    rw [if_neg (by decide), if_pos (by decide)] at h
    simp only [Bool.and_eq_true, decide_eq_true_eq] at h
    match ks, h.1.1 with
    | k0 :: k1 :: kt, _ => simp only [T.txts_map, joinB, sAnd, if_true, List.map_cons, List.length_append, List.length_cons]; omega
  · by_cases h3 : op = 3
    · subst h3
      rw [if_neg (by decide), if_pos (by decide)] at h
      simp only [Bool.and_eq_true, decide_eq_true_eq] at h
      match ks, h.1.1 with
      | k0 :: k1 :: kt, _ => rw [if_neg (by decide), if_pos rfl]; simp only [T.txts_map, joinB, sOr, List.map_cons, List.length_append, List.length_cons]; omega
    · rw [if_neg h2, if_neg h3]
      split <;> simp [within]
theorem ruleTxt_pos (k : T) (ks : List T) (h : k.form = true) : 0 < (ruleTxt (k :: ks)).length := by
  rw [ruleTxt_cons, List.length_append]
  have := T.txt_pos k h
  omega
theorem okR.cnts {R : List T} (h : okR R) : T.cnts R ≤ 2097152 := by
  have h2 : ∀ l : List T, (∀ t ∈ l, t.cnt ≤ 20) → T.cnts l ≤ 20 * l.length := by
    intro l
    induction l with
    | nil => intro _; simp [T.cnts]
    | cons a l ih => intro h; unfold T.cnts; have := h a (by simp); have := ih (fun t ht => h t (by simp [ht])); simp only [List.length_cons]; omega
  have := h2 R (fun t ht => (h.2 t ht).1)
  have := h.1
  omega
set_option maxRecDepth 100000 in
set_option maxHeartbeats 4000000 in
theorem read_ok (k : T) (ks : List T) (hR : okR (k :: ks)) (s : ByteArray) (hs : s.size ≤ 2000) (ht : s.data.toList = ruleTxt (k :: ks)) (w : World) : Calls Tryd.prog 6 #[.string s] w (RdOk (k :: ks) w) := by
  obtain ⟨i0, hi, hz0, hz1, hz2⟩ := info_test
  obtain ⟨W, hW⟩ : ∃ W, W = (w.alloc (.cells #[.slice none 0 0] 24)).alloc (.cells #[.string s, .int .i64 0, .int .i64 0, .bool false, .bool false] 47) := ⟨_, rfl⟩
  have hWz : W.heap.size = w.heap.size + 2 := by rw [hW]; simp
  have hne : s ≠ ⟨#[]⟩ := by
    intro e
    have := ruleTxt_pos k ks (hR.2 k (by simp)).2.2.1
    rw [← ht, e] at this
    simp at this
  have hS0 : SR (w.heap.size + 1) s (T.txt k ++ tailB sSemi (ks.map T.txt)) W := by
    refine ⟨0, Nat.zero_le _, ?_, ?_⟩
    · rw [List.drop_zero, ht, ruleTxt_cons]
    · rw [hW]; exact heap_new_at (by simp)
  have HF1 : Hid (Calls Tryd.prog 12 #[.pointer (some ⟨w.heap.size + 1, 0, none⟩)] W (GotT (w.heap.size + 1) s k (tailB sSemi (ks.map T.txt)) W)) :=
    form_ok k (hR.2 k (by simp)).2.2.1 (hR.2 k (by simp)).2.2.2 _ s _ W hs (restO_semi _) hS0
  have HOK := Lib.hid hR
  have q0 : s.toList.isEmpty = false := by
    rw [ByteArray.toList_eq]
    cases e : s.data.toList with
    | nil => exact absurd (bext (b := ⟨#[]⟩) e) hne
    | cons a l => rfl
  clear hS0 ht hR hne
  go_enter Tryd.func6, Tryd.ntmps6
  go_wp2_with fail
  rw [← hW]
  have HWW := Lib.hid hW
  clear hW
  refine HF1.out.mono ?_
  rintro e w1 ⟨cs, rfl, hT, hS, hK⟩
  obtain ⟨a, c, rfl⟩ := hT.five
  have HST := Lib.hid (RdIn.start (by omega) hT hS hK)
  have hsz := hK.size
  clear hT hS hK
  go_wp2_with fail
  obtain ⟨L, hL⟩ : ∃ L, L = k :: ks := ⟨_, rfl⟩
  rw [← hL] at HOK HST
  have hlen : L.length ≤ 6 := HOK.out.1
  have HL := Lib.hid hL
  obtain ⟨b, hb⟩ : ∃ b, b = w.heap.size + 1 := ⟨_, rfl⟩
  obtain ⟨o, ho⟩ : ∃ o, o = w1.heap.size + 1 := ⟨_, rfl⟩
  rw [← hb, ← ho] at HST
  rw [← hb, ← ho]
  have hbW : b < W.heap.size := by omega
  have hoW : W.heap.size ≤ o := by omega
  have hbo : b ≠ o := by omega
  have HBB := Lib.hid hb
  have HOO := Lib.hid ho
  clear hL hb ho
  go_loopw [] (fun wr => ∃ (j : Nat) (rows : List Value) (ao : Option Addr) (c : Nat), j ≤ 6 ∧ Hid (RdIn b o s W L j rows (.slice ao j c) wr)) (fun wr => L.length - lenV ((wr.cell? ⟨o, 0, none⟩).getD (.bool false)))
  case atStart => exact ⟨1, _, _, _, by omega, HST⟩
  case round =>
    obtain ⟨j, rows, ao, c', hj, HI⟩ := hrel
    have hzr : W.heap.size ≤ wr.heap.size := HI.out.kept.size
    have holt := HI.out.olt
    by_cases hlt : j < L.length
    · have HIS : Hid (Calls Tryd.prog 13 #[.pointer (some ⟨b, 0, none⟩), .string ⟨#[59]⟩] wr fun e w' => e = .returned (.bool true) ∧ SR b s (sSemi ++ (T.txt L[j] ++ tailB sSemi ((L.drop (j + 1)).map T.txt))) w' ∧ Below wr.heap.size wr w') :=
        sr_is (HI.out.more hlt) hs true (by simp [sSemi, Lib.hasPrefix, List.isPrefixOf])
      have HTK : Hid (∀ w', SR b s (sSemi ++ (T.txt L[j] ++ tailB sSemi ((L.drop (j + 1)).map T.txt))) w' → Calls Tryd.prog 14 #[.pointer (some ⟨b, 0, none⟩), .string ⟨#[59, 32]⟩] w' fun e w2 => e = .returned (.tuple #[]) ∧ SR b s (T.txt L[j] ++ tailB sSemi ((L.drop (j + 1)).map T.txt)) w2 ∧ Kept [b] w' w2) :=
        fun w' h => sr_take (sign := ⟨#[59, 32]⟩) h hs
      have HFO : Hid (∀ w', SR b s (T.txt L[j] ++ tailB sSemi ((L.drop (j + 1)).map T.txt)) w' → Calls Tryd.prog 12 #[.pointer (some ⟨b, 0, none⟩)] w' (GotT b s L[j] (tailB sSemi ((L.drop (j + 1)).map T.txt)) w')) :=
        fun w' h => form_ok L[j] (HOK.out.2 _ (List.getElem_mem _)).2.2.1 (HOK.out.2 _ (List.getElem_mem _)).2.2.2 _ s _ w' hs (restO_semi _) h
      obtain ⟨X, hX⟩ : ∃ X, X = L[j] := ⟨_, rfl⟩
      rw [← hX] at HIS HTK HFO
      have HXX := Lib.hid hX
      clear hX
      go_wp2_with fail
      refine HIS.out.mono ?_
      rintro e w2 ⟨rfl, hS2, hB2⟩
      have HS2 := Lib.hid hS2
      have HB2 := Lib.hid hB2
      clear hS2 hB2
      go_wp2_with fail
      refine (HTK.out _ HS2.out).mono ?_
      rintro e w3 ⟨rfl, hS3, hK3⟩
      have hbad := hS3.bad
      have HS3 := Lib.hid hS3
      have HK3 : Hid (Kept [b] wr w3) := (Kept.of_below HB2.out).trans hK3
      have hz3 := HK3.out.size
      have g0 : w3.cell? ⟨o, 0, none⟩ = some (.slice ao j c') := cellT ((HK3.out.block o holt (by simp; omega)).trans HI.out.cell) rfl
      clear hS3 hK3
      go_wp2_with fail
      have HF3 := Lib.hid (HFO.out w3.drew HS3.out)
      have gr : wr.cell? ⟨o, 0, none⟩ = some (.slice ao j c') := cellT HI.out.cell rfl
      go_region_law (first | (refine step_append_at _ rfl _ _ 22 rfl W.heap.size 42 i0 (.agg #[.int .i64 0, .int .i64 0, .int .i64 0, .int .i64 0, .slice none 0 0]) 5 56 Tryd.underlying22 hi hz0 hz1 hz2 rfl (by decide) _ _ _ rfl (hown4.alloc _) ⟨w4.heap.size, 0, none⟩ 1 1 [.int .i64 X.op, .int .i64 X.mod, .int .i64 X.lo, .int .i64 X.hi, .slice a4 X.ks.length c4] rfl rfl (five_cells _ _ _ _ _ _ _) (by simp [Value.oneCell']) (by unfold maxLen; omega) (by omega) (Nat.le_trans hz4 (by simp)) ?_; intro v5 w5 hown5 hgr5 hat5; obtain ⟨a5, c5, rfl⟩ := ownsRow_form hown5; have h5 : w5.heap[o]? = some (.cells #[.slice ao j c'] 24 (0, 0)) := ((hgr5.block o (by simp; omega) (fun e => HI.out.ne e.symm)).trans (heap_alloc_old _ _ ho4)).trans ((HK4.out.block o holt (by simp; omega)).trans HI.out.cell); have g5 : w5.cell? ⟨o, 0, none⟩ = some (.slice ao j c') := cellT h5 rfl; have f5 : w5.frozen? ⟨o, 0, none⟩ = false := frozenT h5) | (go_simp; go_at_call 12; (with_reducible refine HF3.out.mono ?_); rintro e w4 ⟨cs, rfl, hT4, hS4, hK4⟩; obtain ⟨a4, c4, rfl⟩ := hT4.five; have HT4 := Lib.hid hT4; have HS4 := Lib.hid hS4; have HK4 : Hid (Kept [b] wr w4) := HK3.out.drew.trans hK4; have hz4 : W.heap.size ≤ w4.heap.size := Nat.le_trans hzr HK4.out.size; have ho4 : o < w4.heap.size := Nat.lt_of_lt_of_le holt HK4.out.size; have g4 : w4.cell? ⟨o, 0, none⟩ = some (.slice ao j c') := cellT ((HK4.out.block o holt (by simp; omega)).trans HI.out.cell) rfl; have hown4 := own_kept HI.out.own HK4.out hbW; have HKD : Hid (Kept [b] w3.drew w4) := hK4; clear hT4 hS4 hK4))
      all_goals
        have HN := Lib.hid (HI.out.step hbW hlt HK3.out.drew HK4.out (by rw [← HXX.out]; exact HT4.out) HS4.out hown5 hgr5 hat5)
        have hm5 : (w5.setCell ⟨o, 0, none⟩ (.slice a5 (j + 1) c5)).cell? ⟨o, 0, none⟩ = some (.slice a5 (j + 1) c5) := cellT HN.out.cell rfl
        go_wp2_with fail
        go_roundw
        case rel => exact ⟨j + 1, _, a5, c5, by omega, HN⟩
        case measure => rw [hm5, gr]; simp only [Option.getD_some, lenV]; omega
    · have HIS : Hid (Calls Tryd.prog 13 #[.pointer (some ⟨b, 0, none⟩), .string ⟨#[59]⟩] wr fun e w' => e = .returned (.bool false) ∧ SR b s [] w' ∧ Below wr.heap.size wr w') := by
        have h5 := HI.out.sr
        rw [List.drop_eq_nil_of_le (by omega)] at h5
        exact sr_is h5 hs false rfl
      go_wp2_with fail
      refine HIS.out.mono ?_
      rintro e w2 ⟨rfl, hS2, hB2⟩
      obtain ⟨i2, hi2, hd2, hR2⟩ := hS2
      obtain rfl : i2 = s.size := by
        have h6 := congrArg List.length hd2
        have hl : s.data.toList.length = s.size := by simp
        simp only [List.length_drop, List.length_nil] at h6
        omega
      have hK2 : Kept [b] wr w2 := Kept.of_below hB2
      have HD : Hid (RuAt (fresh W.heap.size none w2) L (.slice ao j c')) := (HI.out.done hlt).fr (FrKept.of_kept hK2 hbW)
      have HRF : Hid (Calls Tryd.prog 9 #[.agg #[.slice ao j c']] w2 (RF L w2)) := rfault_any L _ w2 HD.out.unfresh HOK.out.cnts
      have HKW : Hid (Kept [b] W w2) := HI.out.kept.trans hK2
      have hwW : w.heap.size < W.heap.size := by omega
      have hwb : w.heap.size ≠ b := by have := HBB.out; omega
      have HG2 : Hid (w2.heap[w.heap.size]? = some (.cells #[.slice none 0 0] 24 (0, 0))) := by
        refine (HKW.out.block w.heap.size hwW (by simp; exact hwb)).trans ?_
        rw [HWW.out]
        exact (heap_alloc_old _ _ (by simp)).trans (heap_alloc_new _ _)
      have HO2 : Hid (w2.heap[o]? = some (.cells #[.slice ao j c'] 24 (0, 0))) := (hK2.block o holt (by simp; omega)).trans HI.out.cell
      have HR2 : Hid (w2.heap[b]? = some (.cells #[.string s, .int .i64 s.size, .int .i64 0, .bool false, .bool false] 47 (0, 0))) := hR2
      have c1 : w2.cell? ⟨b, 1, none⟩ = some (.int .i64 s.size) := cellT HR2.out rfl
      have c3 : w2.cell? ⟨b, 3, none⟩ = some (.bool false) := cellT HR2.out rfl
      have c0 : w2.cell? ⟨o, 0, none⟩ = some (.slice ao j c') := cellT HO2.out rfl
      have hdd : decide ((s.size : Int) < (s.size : Int)) = false := by simp
      have ho2 : o < w2.heap.size := Nat.lt_of_lt_of_le holt hK2.size
      have hb2 : b < w2.heap.size := hR2.lt
      have hw2 : w.heap.size < w2.heap.size := Nat.lt_of_lt_of_le hwW HKW.out.size
      clear hd2 hR2 hB2 hK2 hi2
      go_wp2_with fail
      refine HRF.out.mono ?_
      rintro e w3 ⟨n, rfl, hn, hB3⟩
      obtain rfl : n = 0 := hn.2 HOK.out
      have d4 : w3.cell? ⟨b, 4, none⟩ = some (.bool false) := cellT ((hB3.block b hb2).trans HR2.out) rfl
      have d0 : w3.cell? ⟨o, 0, none⟩ = some (.slice ao j c') := cellT ((hB3.block o ho2).trans HO2.out) rfl
      have HG3 : Hid (w3.heap[w.heap.size]? = some (.cells #[.slice none 0 0] 24 (0, 0))) := (hB3.block w.heap.size hw2).trans HG2.out
      have e0 : w3.cell? ⟨w.heap.size, 0, none⟩ = some (.slice none 0 0) := cellT HG3.out rfl
      have f0 : w3.frozen? ⟨w.heap.size, 0, none⟩ = false := frozenT HG3.out
      have HB3 := Lib.hid hB3
      clear hB3 hn
      go_wp2_with fail
      have he : (w3.setCell ⟨w.heap.size, 0, none⟩ (.slice ao j c')).cell? ⟨w.heap.size, 0, none⟩ = some (.slice ao j c') := cellT (heap_setCell_same _ _ 0 _ _ _ HG3.out) rfl
      have HA : Hid (RuAt (w3.setCell ⟨w.heap.size, 0, none⟩ (.slice ao j c')) (k :: ks) (.slice ao j c')) := by
        show RuAt _ _ _
        rw [← HL.out]
        exact ((HD.out.fr (FrKept.of_kept (Kept.of_below HB3.out) hbW)).fr (FrKept.setOld w3 w.heap.size 0 _ (.inl hwW))).unfresh
      have HBW : Hid (Below w.heap.size w (w3.setCell ⟨w.heap.size, 0, none⟩ (.slice ao j c'))) := by
        have h1 : Below w.heap.size w W := by rw [HWW.out]; exact ((Below.refl _ w).alloc (Nat.le_refl _) _).alloc (by simp) _
        have h2 : Below w.heap.size W w2 := HKW.out.below (by omega) (by have := HBB.out; simp; omega)
        exact ((h1.trans h2).trans (HB3.out.mono (by omega))).setCell (Nat.le_refl _) _
      refine bodyPost_ret (v := .tuple #[.agg #[.slice ao j c'], .int .i64 0, .int .i64 0]) (by simp [results, Tryd.results6, go_sem, he]) rfl ⟨_, rfl, HA.out, HBW.out⟩
end Go.Proofs.YtgfoangacbajlaaDoor
