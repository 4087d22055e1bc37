/- lang.testText and RuleString: a right test's text, a right rule's text. Conditions: as stated; the library's table of powers of ten is laid. -/
import Derived.Test.YtgfoangacbajlaaDoorRuT
namespace Go.Proofs.YtgfoangacbajlaaDoor
open Go.RowKit Mh
set_option linter.unusedVariables false

theorem txt_op2 (m lo hi : Int) (ks : List T) : (T.mk 2 m lo hi ks).txt = joinB sAnd (T.txts 2 ks) := by unfold T.txt; rfl
theorem txt_op3 (m lo hi : Int) (ks : List T) : (T.mk 3 m lo hi ks).txt = joinB sOr (T.txts 3 ks) := by unfold T.txt; rfl
theorem txt_op4 (m lo hi : Int) (ks : List T) : (T.mk 4 m lo hi ks).txt = 33 :: 40 :: (joinB sOr (T.txts 4 ks) ++ [41]) := by unfold T.txt; rfl
theorem txt_op1 (m lo hi : Int) (ks : List T) : (T.mk 1 m lo hi ks).txt = within m lo hi := by unfold T.txt; rfl
theorem form_ops {op m lo hi : Int} {ks : List T} (h : (T.mk op m lo hi ks).form = true) : op = 1 ∨ op = 2 ∨ op = 3 ∨ op = 4 := by
  unfold T.form at h
  by_cases h1 : op = 1
  · exact .inl h1
  · rw [if_neg h1] at h
    by_cases h2 : op = 2 ∨ op = 3
    · omega
    · rw [if_neg h2] at h
      by_cases h4 : op = 4
      · omega
      · rw [if_neg h4] at h; cases h
theorem form_forms {op m lo hi : Int} {ks : List T} (h : (T.mk op m lo hi ks).form = true) (h1 : op ≠ 1) : T.forms op ks = true ∧ m = 0 ∧ lo = 0 ∧ hi = 0 ∧ 1 ≤ ks.length ∧ (op ≠ 4 → 2 ≤ ks.length) := by
  unfold T.form at h
  rw [if_neg h1] at h
  by_cases h2 : op = 2 ∨ op = 3
  · rw [if_pos h2] at h
    simp only [Bool.and_eq_true, decide_eq_true_eq] at h
    exact ⟨h.1.2, h.2.1, h.2.2.1, h.2.2.2, by omega, fun _ => h.1.1⟩
  · rw [if_neg h2] at h
    by_cases h4 : op = 4
    · rw [if_pos h4] at h
      simp only [Bool.and_eq_true, decide_eq_true_eq] at h
      exact ⟨h.1.2, h.2.1, h.2.2.1, h.2.2.2, h.1.1, fun h9 => absurd h4 h9⟩
    · rw [if_neg h4] at h; cases h
theorem rng_kids {op m lo hi : Int} {ks : List T} (h : (T.mk op m lo hi ks).rng = true) : T.rngs ks = true := by
  unfold T.rng at h; simp only [Bool.and_eq_true] at h; exact h.1
theorem rng_one {m lo hi : Int} {ks : List T} (h : (T.mk 1 m lo hi ks).rng = true) : (m = 0 ∨ 2 ≤ m ∧ m ≤ 1000000) ∧ 0 ≤ lo ∧ lo ≤ hi ∧ hi ≤ 1000000000 := by
  unfold T.rng at h; simp only [Bool.and_eq_true, if_true, decide_eq_true_eq] at h; exact h.2

set_option maxRecDepth 100000 in
set_option maxHeartbeats 4000000 in
theorem text_any : ∀ (M : Nat) (X : T), SizeOf.sizeOf X < M → X.form = true → X.rng = true → X.cnt ≤ 20 → ∀ (cs : List Value) (w : World), TAt w X cs → Tab10 w → TxtOk X cs w := by
  intro M
  induction M with
  | zero => intro X h; omega
  | succ M ih =>
    rintro ⟨op, m, lo, hi, ks⟩ hX hf hr hc cs w h htab
    unfold TAt at h
    obtain ⟨kv, rfl, rows, hS, hT⟩ := h
    obtain ⟨ao, c, rfl⟩ := hS.slice
    have hB0 : Below w.heap.size w (w.alloc (.cells #[.int .i64 op, .int .i64 m, .int .i64 lo, .int .i64 hi, .slice ao ks.length c] 42)) := (Below.refl _ w).alloc (Nat.le_refl _) _
    have HB0 := Lib.hid hB0
    have hck : T.cnts ks ≤ 20 := by unfold T.cnt at hc; omega
    have hops := form_ops hf
    by_cases h1 : op = 1
    · subst h1
      have hrg := rng_one hr
      unfold TxtOk
      rw [txt_op1]
      have HIT := Lib.hid (fun n (h0 : 0 ≤ n) (h1 : n ≤ 1000000000) w' (hb : Below w.heap.size w w') => itoa_any n h0 h1 w' (htab.next hb))
      have hl7 := dec_len 10 m.toNat (by omega) (by omega)
      have hl8 := dec_len 10 lo.toNat (by omega) (by omega)
      have hl9 := dec_len 10 hi.toNat (by omega) (by omega)
      obtain ⟨DM, hDM⟩ : ∃ d : ByteArray, d = ⟨(dec m).toArray⟩ := ⟨_, rfl⟩
      obtain ⟨DL, hDL⟩ : ∃ d : ByteArray, d = ⟨(dec lo).toArray⟩ := ⟨_, rfl⟩
      obtain ⟨DH, hDH⟩ : ∃ d : ByteArray, d = ⟨(dec hi).toArray⟩ := ⟨_, rfl⟩
      have zM : DM.size ≤ 10 := by rw [hDM]; show (dec m).toArray.size ≤ 10; simpa [dec] using hl7
      have zL : DL.size ≤ 10 := by rw [hDL]; show (dec lo).toArray.size ≤ 10; simpa [dec] using hl8
      have zH : DH.size ≤ 10 := by rw [hDH]; show (dec hi).toArray.size ≤ 10; simpa [dec] using hl9
      have HM : Hid (∀ w', Below w.heap.size w w' → Calls Tryd.prog 23 #[.int .i64 m] w' fun e w2 => e = .returned (.string DM) ∧ Below w'.heap.size w' w2) := by intro w' hb; rw [hDM]; exact HIT.out m (by omega) (by omega) w' hb
      have HL : Hid (∀ w', Below w.heap.size w w' → Calls Tryd.prog 23 #[.int .i64 lo] w' fun e w2 => e = .returned (.string DL) ∧ Below w'.heap.size w' w2) := by intro w' hb; rw [hDL]; exact HIT.out lo (by omega) (by omega) w' hb
      have HH : Hid (∀ w', Below w.heap.size w w' → Calls Tryd.prog 23 #[.int .i64 hi] w' fun e w2 => e = .returned (.string DH) ∧ Below w'.heap.size w' w2) := by intro w' hb; rw [hDH]; exact HIT.out hi (by omega) (by omega) w' hb
      -- the string as the walk builds it
      have one : (⟨#[110]⟩ : ByteArray).size = 1 := rfl
      have HA : Hid (∃ A : ByteArray, A = (if m = 0 then (⟨#[110]⟩ : ByteArray) else ⟨#[110]⟩ ++ (⟨#[37]⟩ ++ DM)) ∧ A.size ≤ 12) := by
        refine ⟨_, rfl, ?_⟩
        split
        · decide
        · rw [ByteArray.size_append, ByteArray.size_append]; show 1 + (1 + DM.size) ≤ 12; omega
      obtain ⟨A, hA, zA⟩ := HA.out
      have HF : Hid ((⟨(within m lo hi).toArray⟩ : ByteArray) = if hi = lo then A ++ (⟨#[61]⟩ ++ DL) else A ++ (⟨#[61]⟩ ++ DL) ++ (⟨#[46, 46]⟩ ++ DH)) := by
        refine bext ?_
        unfold within
        rw [hA, hDM, hDL, hDH]
        by_cases e1 : m = 0 <;> by_cases e2 : hi = lo <;> simp [e1, e2]
      have s1 := fun w => run_string_add_sum (P := Tryd.prog) (w := w) ⟨#[37]⟩ DM (by show 1 + DM.size ≤ _; omega)
      have s2 := fun w => run_string_add_sum (P := Tryd.prog) (w := w) ⟨#[110]⟩ (⟨#[37]⟩ ++ DM) (by rw [ByteArray.size_append]; show 1 + (1 + DM.size) ≤ _; omega)
      have s3 := fun w => run_string_add_sum (P := Tryd.prog) (w := w) ⟨#[61]⟩ DL (by show 1 + DL.size ≤ _; omega)
      have s5 := fun w => run_string_add_sum (P := Tryd.prog) (w := w) ⟨#[46, 46]⟩ DH (by show 2 + DH.size ≤ _; omega)
      have HS4 : Hid (∀ w, (Op.stringOp .add A (⟨#[61]⟩ ++ DL)).run Tryd.prog w = .ok (.string (A ++ (⟨#[61]⟩ ++ DL))) w) := fun w => run_string_add_sum (P := Tryd.prog) (w := w) A (⟨#[61]⟩ ++ DL) (by rw [ByteArray.size_append]; show A.size + (1 + DL.size) ≤ _; omega)
      have HS6 : Hid (∀ w, (Op.stringOp .add (A ++ (⟨#[61]⟩ ++ DL)) (⟨#[46, 46]⟩ ++ DH)).run Tryd.prog w = .ok (.string (A ++ (⟨#[61]⟩ ++ DL) ++ (⟨#[46, 46]⟩ ++ DH))) w) := fun w => run_string_add_sum (P := Tryd.prog) (w := w) (A ++ (⟨#[61]⟩ ++ DL)) (⟨#[46, 46]⟩ ++ DH) (by rw [ByteArray.size_append, ByteArray.size_append, ByteArray.size_append]; show A.size + (1 + DL.size) + (2 + DH.size) ≤ _; omega)
      unfold sv
      have HTabX := Lib.hid htab
      have HAe := Lib.hid hA
      clear hS hT ih hX hf hr hc htab HIT hDM hDL hDH hl7 hl8 hl9 hA HA hops
      have HT0 : Hid ((w.alloc (.cells #[.int .i64 1, .int .i64 m, .int .i64 lo, .int .i64 hi, .slice ao ks.length c] 42)).heap[w.heap.size]? = some (.cells #[.int .i64 1, .int .i64 m, .int .i64 lo, .int .i64 hi, .slice ao ks.length c] 42 (0, 0))) := heap_alloc_new _ _
      by_cases e1 : m = 0
      · have eA : (⟨#[110]⟩ : ByteArray) = A := by rw [HAe.out, if_pos e1]
        have q1 : (m != 0) = false := by rw [e1]; rfl
        have s4 := HS4.out
        have s6 := HS6.out
        rw [← eA] at s4 s6
        have HEA := Lib.hid eA
        clear e1 eA
        by_cases e2 : hi = lo
        · have q2 : (hi != lo) = false := by rw [e2]; simp
          have HFF : Hid ((⟨(within m lo hi).toArray⟩ : ByteArray) = A ++ (⟨#[61]⟩ ++ DL)) := by show _ = _; rw [HF.out, if_pos e2]
          clear e2
          go_enter Tryd.func10, Tryd.ntmps10
          go_wp2_with fail
          refine (HL.out _ HB0.out).mono ?_
          rintro e w2 ⟨rfl, hb2⟩
          have hT2 := (hb2.block w.heap.size (by simp)).trans HT0.out
          have m2 : w2.cell? ⟨w.heap.size, 1, none⟩ = some (.int .i64 m) := cellT hT2 rfl
          have l2 : w2.cell? ⟨w.heap.size, 2, none⟩ = some (.int .i64 lo) := cellT hT2 rfl
          have h2 : w2.cell? ⟨w.heap.size, 3, none⟩ = some (.int .i64 hi) := cellT hT2 rfl
          have HT2 := Lib.hid hT2
          have HB2 : Hid (Below w.heap.size w w2) := HB0.out.trans (hb2.mono HB0.out.size)
          have z2 : w.heap.size < w2.heap.size := Nat.lt_of_lt_of_le (by simp) hb2.size
          clear hT2 hb2
          go_wp2_with fail
          go_ret
          exact ⟨by rw [HFF.out, ← HEA.out]; rfl, HB2.out⟩
        · have q2 : (hi != lo) = true := by rw [bne_iff_ne]; exact e2
          have HFF : Hid ((⟨(within m lo hi).toArray⟩ : ByteArray) = A ++ (⟨#[61]⟩ ++ DL) ++ (⟨#[46, 46]⟩ ++ DH)) := by show _ = _; rw [HF.out, if_neg e2]
          clear e2
          go_enter Tryd.func10, Tryd.ntmps10
          go_wp2_with fail
          refine (HL.out _ HB0.out).mono ?_
          rintro e w2 ⟨rfl, hb2⟩
          have hT2 := (hb2.block w.heap.size (by simp)).trans HT0.out
          have m2 : w2.cell? ⟨w.heap.size, 1, none⟩ = some (.int .i64 m) := cellT hT2 rfl
          have l2 : w2.cell? ⟨w.heap.size, 2, none⟩ = some (.int .i64 lo) := cellT hT2 rfl
          have h2 : w2.cell? ⟨w.heap.size, 3, none⟩ = some (.int .i64 hi) := cellT hT2 rfl
          have HT2 := Lib.hid hT2
          have HB2 : Hid (Below w.heap.size w w2) := HB0.out.trans (hb2.mono HB0.out.size)
          have z2 : w.heap.size < w2.heap.size := Nat.lt_of_lt_of_le (by simp) hb2.size
          clear hT2 hb2
          go_wp2_with fail
          refine (HH.out _ HB2.out).mono ?_
          rintro e w3 ⟨rfl, hb3⟩
          have hT3 := (hb3.block w.heap.size z2).trans HT2.out
          have m3 : w3.cell? ⟨w.heap.size, 1, none⟩ = some (.int .i64 m) := cellT hT3 rfl
          have l3 : w3.cell? ⟨w.heap.size, 2, none⟩ = some (.int .i64 lo) := cellT hT3 rfl
          have h3 : w3.cell? ⟨w.heap.size, 3, none⟩ = some (.int .i64 hi) := cellT hT3 rfl
          have HT3 := Lib.hid hT3
          have HB3 : Hid (Below w.heap.size w w3) := HB2.out.trans (hb3.mono HB2.out.size)
          have z3 : w.heap.size < w3.heap.size := Nat.lt_of_lt_of_le z2 hb3.size
          clear hT3 hb3
          go_wp2_with fail
          go_ret
          exact ⟨by rw [HFF.out, ← HEA.out]; rfl, HB3.out⟩
      · have eA : (⟨#[110]⟩ ++ (⟨#[37]⟩ ++ DM) : ByteArray) = A := by rw [HAe.out, if_neg e1]
        have q1 : (m != 0) = true := by rw [bne_iff_ne]; exact e1
        have s4 := HS4.out
        have s6 := HS6.out
        rw [← eA] at s4 s6
        have HEA := Lib.hid eA
        clear e1 eA
        by_cases e2 : hi = lo
        · have q2 : (hi != lo) = false := by rw [e2]; simp
          have HFF : Hid ((⟨(within m lo hi).toArray⟩ : ByteArray) = A ++ (⟨#[61]⟩ ++ DL)) := by show _ = _; rw [HF.out, if_pos e2]
          clear e2
          go_enter Tryd.func10, Tryd.ntmps10
          go_wp2_with fail
          refine (HM.out _ HB0.out).mono ?_
          rintro e w1 ⟨rfl, hb1⟩
          have hT1 := (hb1.block w.heap.size (by simp)).trans HT0.out
          have m1 : w1.cell? ⟨w.heap.size, 1, none⟩ = some (.int .i64 m) := cellT hT1 rfl
          have l1 : w1.cell? ⟨w.heap.size, 2, none⟩ = some (.int .i64 lo) := cellT hT1 rfl
          have h1 : w1.cell? ⟨w.heap.size, 3, none⟩ = some (.int .i64 hi) := cellT hT1 rfl
          have HT1 := Lib.hid hT1
          have HB1 : Hid (Below w.heap.size w w1) := HB0.out.trans (hb1.mono HB0.out.size)
          have z1 : w.heap.size < w1.heap.size := Nat.lt_of_lt_of_le (by simp) hb1.size
          clear hT1 hb1
          go_wp2_with fail
          refine (HL.out _ HB1.out).mono ?_
          rintro e w2 ⟨rfl, hb2⟩
          have hT2 := (hb2.block w.heap.size z1).trans HT1.out
          have m2 : w2.cell? ⟨w.heap.size, 1, none⟩ = some (.int .i64 m) := cellT hT2 rfl
          have l2 : w2.cell? ⟨w.heap.size, 2, none⟩ = some (.int .i64 lo) := cellT hT2 rfl
          have h2 : w2.cell? ⟨w.heap.size, 3, none⟩ = some (.int .i64 hi) := cellT hT2 rfl
          have HT2 := Lib.hid hT2
          have HB2 : Hid (Below w.heap.size w w2) := HB1.out.trans (hb2.mono HB1.out.size)
          have z2 : w.heap.size < w2.heap.size := Nat.lt_of_lt_of_le z1 hb2.size
          clear hT2 hb2
          go_wp2_with fail
          go_ret
          exact ⟨by rw [HFF.out, ← HEA.out]; rfl, HB2.out⟩
        · have q2 : (hi != lo) = true := by rw [bne_iff_ne]; exact e2
          have HFF : Hid ((⟨(within m lo hi).toArray⟩ : ByteArray) = A ++ (⟨#[61]⟩ ++ DL) ++ (⟨#[46, 46]⟩ ++ DH)) := by show _ = _; rw [HF.out, if_neg e2]
          clear e2
          go_enter Tryd.func10, Tryd.ntmps10
          go_wp2_with fail
          refine (HM.out _ HB0.out).mono ?_
          rintro e w1 ⟨rfl, hb1⟩
          have hT1 := (hb1.block w.heap.size (by simp)).trans HT0.out
          have m1 : w1.cell? ⟨w.heap.size, 1, none⟩ = some (.int .i64 m) := cellT hT1 rfl
          have l1 : w1.cell? ⟨w.heap.size, 2, none⟩ = some (.int .i64 lo) := cellT hT1 rfl
          have h1 : w1.cell? ⟨w.heap.size, 3, none⟩ = some (.int .i64 hi) := cellT hT1 rfl
          have HT1 := Lib.hid hT1
          have HB1 : Hid (Below w.heap.size w w1) := HB0.out.trans (hb1.mono HB0.out.size)
          have z1 : w.heap.size < w1.heap.size := Nat.lt_of_lt_of_le (by simp) hb1.size
          clear hT1 hb1
          go_wp2_with fail
          refine (HL.out _ HB1.out).mono ?_
          rintro e w2 ⟨rfl, hb2⟩
          have hT2 := (hb2.block w.heap.size z1).trans HT1.out
          have m2 : w2.cell? ⟨w.heap.size, 1, none⟩ = some (.int .i64 m) := cellT hT2 rfl
          have l2 : w2.cell? ⟨w.heap.size, 2, none⟩ = some (.int .i64 lo) := cellT hT2 rfl
          have h2 : w2.cell? ⟨w.heap.size, 3, none⟩ = some (.int .i64 hi) := cellT hT2 rfl
          have HT2 := Lib.hid hT2
          have HB2 : Hid (Below w.heap.size w w2) := HB1.out.trans (hb2.mono HB1.out.size)
          have z2 : w.heap.size < w2.heap.size := Nat.lt_of_lt_of_le z1 hb2.size
          clear hT2 hb2
          go_wp2_with fail
          refine (HH.out _ HB2.out).mono ?_
          rintro e w3 ⟨rfl, hb3⟩
          have hT3 := (hb3.block w.heap.size z2).trans HT2.out
          have m3 : w3.cell? ⟨w.heap.size, 1, none⟩ = some (.int .i64 m) := cellT hT3 rfl
          have l3 : w3.cell? ⟨w.heap.size, 2, none⟩ = some (.int .i64 lo) := cellT hT3 rfl
          have h3 : w3.cell? ⟨w.heap.size, 3, none⟩ = some (.int .i64 hi) := cellT hT3 rfl
          have HT3 := Lib.hid hT3
          have HB3 : Hid (Below w.heap.size w w3) := HB2.out.trans (hb3.mono HB2.out.size)
          have z3 : w.heap.size < w3.heap.size := Nat.lt_of_lt_of_le z2 hb3.size
          clear hT3 hb3
          go_wp2_with fail
          go_ret
          exact ⟨by rw [HFF.out, ← HEA.out]; rfl, HB3.out⟩
    · obtain ⟨hfs, rfl, rfl, rfl, hl1, hl2⟩ := form_forms hf h1
      have hrs := rng_kids hr
      have HJ : Hid (∀ sign : ByteArray, sign.size = 3 → Calls Tryd.prog 22 #[.string sign, .pointer (some ⟨w.heap.size, 0, none⟩)] (w.alloc (.cells #[.int .i64 op, .int .i64 0, .int .i64 0, .int .i64 0, .slice ao ks.length c] 42)) fun e w' => e = .returned (sv (joinB sign.data.toList (T.txts op ks))) ∧ Below (w.alloc (.cells #[.int .i64 op, .int .i64 0, .int .i64 0, .int .i64 0, .slice ao ks.length c] 42)).heap.size (w.alloc (.cells #[.int .i64 op, .int .i64 0, .int .i64 0, .int .i64 0, .slice ao ks.length c] 42)) w') := by
        intro sign hsz
        refine rjoin_any op 0 0 0 ks ao c rows sign w.heap.size _ (heap_alloc_new _ _) (hS.below hB0) (hT.keep hB0 _ _) hck (fun k hk => ⟨(forms_kid op ks hfs k hk).1, rngs_kid ks hrs k hk⟩) hsz (htab.next hB0) ?_
        intro k hk cs' w' hat htb
        have hm := List.getElem_mem hk
        exact ih ks[k] (by have := T.size_kid (op := op) (m := 0) (lo := 0) (hi := 0) hm; omega) (forms_kid op ks hfs _ hm).1 (rngs_kid ks hrs _ hm) (by have := T.cnts_mem ks _ hm; omega) cs' w' hat htb
      have HLN : Hid ((joinB sOr (T.txts op ks)).length ≤ 4000) := by
        have h2 := joinB_len sOr (T.txts op ks)
        have h3 := T.txts_len op ks hfs hrs
        have e2 : sOr.length = 3 := rfl
        rw [e2] at h2
        show _ ≤ 4000
        omega
      clear hS hT ih hX hf hr hc htab hB0 hfs hrs hck
      have hops' : op = 2 ∨ op = 3 ∨ op = 4 := by omega
      clear hops h1
      unfold TxtOk
      rcases hops' with rfl | rfl | rfl
      · rw [txt_op2]
        have HJ1 := Lib.hid (HJ.out ⟨#[32, 38, 32]⟩ rfl)
        clear HJ
        go_enter Tryd.func10, Tryd.ntmps10
        go_wp2_with fail
        refine HJ1.out.mono ?_
        rintro e w1 ⟨rfl, hb1⟩
        have HB1 : Hid (Below w.heap.size w w1) := HB0.out.trans (hb1.mono (by simp))
        clear hb1
        go_wp2_with fail
        go_ret
        exact ⟨rfl, HB1.out⟩
      · rw [txt_op3]
        have HJ1 := Lib.hid (HJ.out ⟨#[32, 124, 32]⟩ rfl)
        clear HJ
        go_enter Tryd.func10, Tryd.ntmps10
        go_wp2_with fail
        refine HJ1.out.mono ?_
        rintro e w1 ⟨rfl, hb1⟩
        have HB1 : Hid (Below w.heap.size w w1) := HB0.out.trans (hb1.mono (by simp))
        clear hb1
        go_wp2_with fail
        go_ret
        exact ⟨rfl, HB1.out⟩
      · rw [txt_op4]
        have HJ1 := Lib.hid (HJ.out ⟨#[32, 124, 32]⟩ rfl)
        obtain ⟨J, hJ⟩ : ∃ J : ByteArray, J = ⟨(joinB sOr (T.txts 4 ks)).toArray⟩ := ⟨_, rfl⟩
        have zJ : J.size ≤ 4000 := by rw [hJ]; show (joinB sOr (T.txts 4 ks)).toArray.size ≤ 4000; simpa using HLN.out
        have HJ2 : Hid (Calls Tryd.prog 22 #[.string ⟨#[32, 124, 32]⟩, .pointer (some ⟨w.heap.size, 0, none⟩)] (w.alloc (.cells #[.int .i64 4, .int .i64 0, .int .i64 0, .int .i64 0, .slice ao ks.length c] 42)) fun e w' => e = .returned (.string J) ∧ Below (w.alloc (.cells #[.int .i64 4, .int .i64 0, .int .i64 0, .int .i64 0, .slice ao ks.length c] 42)).heap.size (w.alloc (.cells #[.int .i64 4, .int .i64 0, .int .i64 0, .int .i64 0, .slice ao ks.length c] 42)) w') := by
          rw [hJ]; exact HJ1.out
        have HFF : Hid ((⟨#[33, 40]⟩ ++ J ++ ⟨#[41]⟩ : ByteArray) = ⟨(33 :: 40 :: (joinB sOr (T.txts 4 ks) ++ [41])).toArray⟩) := by
          refine bext ?_
          rw [hJ]; simp
        have s1 := fun w => run_string_add_sum (P := Tryd.prog) (w := w) ⟨#[33, 40]⟩ J (by show 2 + J.size ≤ _; omega)
        have s2 := fun w => run_string_add_sum (P := Tryd.prog) (w := w) (⟨#[33, 40]⟩ ++ J) ⟨#[41]⟩ (by rw [ByteArray.size_append]; show 2 + J.size + 1 ≤ _; omega)
        clear HJ HJ1 hJ
        go_enter Tryd.func10, Tryd.ntmps10
        go_wp2_with fail
        refine HJ2.out.mono ?_
        rintro e w1 ⟨rfl, hb1⟩
        have HB1 : Hid (Below w.heap.size w w1) := HB0.out.trans (hb1.mono (by simp))
        clear hb1
        go_wp2_with fail
        go_ret
        exact ⟨by unfold sv; rw [← HFF.out]; rfl, HB1.out⟩
end Go.Proofs.YtgfoangacbajlaaDoor
