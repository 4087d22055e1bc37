/- conf.isControl, isWord; (*scanner).fail; the parser's cells. · (*scanner).text's closure; what a scan leaves; how a text goes on, byte by byte. · (*scanner).text: a string, byte by byte. Conditions: the parser's cells; a string of at most 2^40 bytes. -/
import Derived.Test.YtejnoedlfbglcaaGreatDoorKeG
import Derived.Test.YtejnoedlfbglcaaGreatDoorPaP
import Derived.Test.YtejnoedlfbglcaaGreatDoorKept
import Derived.Test.YtejnoedlfbglcaaGreatDoorPrB
import Derived.Test.YtejnoedlfbglcaaGreatDoorReH
namespace Go.Proofs.YtejnoedlfbglcaaGreatDoor
open Go.RowKit Mh
set_option linter.unusedVariables false

theorem isControl_any (c : UInt8) (w : World) : Calls Tryz.prog 45 #[.int .u8 c.toNat] w fun e w' => e = .returned (.bool (ctlB c)) ∧ w' = w := by
  have fin : ∀ b1 b2 b3 : Bool, decide ((c.toNat : Int) < 32) = b1 → ((c.toNat : Int) != 9) = b2 → ((c.toNat : Int) != 10) = b3 → ctlB c = (b1 && (b2 && b3)) := by
    intro b1 b2 b3 h1 h2 h3
    unfold ctlB
    rw [← h1, ← h2, ← h3]
    congr 1
    · simp only [decide_eq_decide]; omega
    · congr 1
      · rw [Bool.eq_iff_iff]; simp only [Bool.not_eq_true', decide_eq_false_iff_not, bne_iff_ne]; omega
      · rw [Bool.eq_iff_iff]; simp only [Bool.not_eq_true', decide_eq_false_iff_not, bne_iff_ne]; omega
  obtain ⟨b1, h1⟩ : ∃ b, decide ((c.toNat : Int) < 32) = b := ⟨_, rfl⟩
  obtain ⟨b2, h2⟩ : ∃ b, ((c.toNat : Int) != 9) = b := ⟨_, rfl⟩
  obtain ⟨b3, h3⟩ : ∃ b, ((c.toNat : Int) != 10) = b := ⟨_, rfl⟩
  have F := Lib.hid (fin _ _ _ h1 h2 h3)
  clear fin
  cases b1 <;> cases b2 <;> cases b3 <;>
  · go_enter Tryz.func45, Tryz.ntmps45
    go_wp2_with fail
    go_ret
    exact ⟨by rw [F.out]; rfl, rfl⟩
set_option maxHeartbeats 4000000 in
theorem isWord_any (c : UInt8) (w : World) : Calls Tryz.prog 62 #[.int .u8 c.toNat] w fun e w' => e = .returned (.bool (wordB c)) ∧ w' = w := by
  have HS := Lib.hid (fun w => ksmall_any c w)
  have HD := Lib.hid (fun w => kdigit_any c w)
  have fin : ∀ b1 b2 b3 b4 b5 b6 b7 : Bool, smallB c = b1 → decide ((65 : Int) ≤ (c.toNat : Int)) = b2 → decide ((c.toNat : Int) ≤ 90) = b3 → digB c = b4 → ((c.toNat : Int) == 45) = b5 → ((c.toNat : Int) == 95) = b6 → decide ((128 : Int) ≤ (c.toNat : Int)) = b7 → wordB c = (b1 || (b2 && b3) || b4 || b5 || b6 || b7) := by
    intro b1 b2 b3 b4 b5 b6 b7 h1 h2 h3 h4 h5 h6 h7
    unfold wordB upB
    rw [← h1, ← h2, ← h3, ← h4, ← h5, ← h6, ← h7]
    have e1 : decide (65 ≤ c.toNat ∧ c.toNat ≤ 90) = (decide ((65 : Int) ≤ (c.toNat : Int)) && decide ((c.toNat : Int) ≤ 90)) := by
      rw [Bool.eq_iff_iff]; simp only [Bool.and_eq_true, decide_eq_true_eq]; omega
    have e2 : decide (c.toNat = 45) = ((c.toNat : Int) == 45) := by rw [Bool.eq_iff_iff]; simp only [decide_eq_true_eq, beq_iff_eq]; omega
    have e3 : decide (c.toNat = 95) = ((c.toNat : Int) == 95) := by rw [Bool.eq_iff_iff]; simp only [decide_eq_true_eq, beq_iff_eq]; omega
    have e4 : decide (128 ≤ c.toNat) = decide ((128 : Int) ≤ (c.toNat : Int)) := by rw [Bool.eq_iff_iff]; simp only [decide_eq_true_eq]; omega
    rw [e1, e2, e3, e4]
  obtain ⟨b1, h1⟩ : ∃ b, smallB c = b := ⟨_, rfl⟩
  obtain ⟨b2, h2⟩ : ∃ b, decide ((65 : Int) ≤ (c.toNat : Int)) = b := ⟨_, rfl⟩
  obtain ⟨b3, h3⟩ : ∃ b, decide ((c.toNat : Int) ≤ 90) = b := ⟨_, rfl⟩
  obtain ⟨b4, h4⟩ : ∃ b, digB c = b := ⟨_, rfl⟩
  obtain ⟨b5, h5⟩ : ∃ b, ((c.toNat : Int) == 45) = b := ⟨_, rfl⟩
  obtain ⟨b6, h6⟩ : ∃ b, ((c.toNat : Int) == 95) = b := ⟨_, rfl⟩
  obtain ⟨b7, h7⟩ : ∃ b, decide ((128 : Int) ≤ (c.toNat : Int)) = b := ⟨_, rfl⟩
  have F := Lib.hid (fin _ _ _ _ _ _ _ h1 h2 h3 h4 h5 h6 h7)
  rw [h1] at HS
  rw [h4] at HD
  clear fin h1 h4
  cases b1 with
  | true =>
    go_enter Tryz.func62, Tryz.ntmps62
    go_wp2_with (go_at_call 65; refine (HS.out _).mono ?_; rintro e w' ⟨rfl, rfl⟩)
    go_ret
    exact ⟨by rw [F.out]; rfl, rfl⟩
  | false =>
    cases b2 <;> cases b3 <;> cases b4 <;> cases b5 <;> cases b6 <;> cases b7 <;>
    · go_enter Tryz.func62, Tryz.ntmps62
      go_wp2_with (first | (go_at_call 65; refine (HS.out _).mono ?_; rintro e w' ⟨rfl, rfl⟩) | (go_at_call 66; refine (HD.out _).mono ?_; rintro e w' ⟨rfl, rfl⟩))
      go_ret
      exact ⟨by rw [F.out]; rfl, rfl⟩
/-- A parser's state. -/
structure Ps where
  i : Nat
  k : Int
  ta : Int
  tx : ByteArray
  at_ : Int
  e : Int
  vs : Int
def Ps.row (s : ByteArray) (q : Ps) : Array Value := #[.string s, .int .i64 q.i, .int .i64 q.k, .int .i64 q.ta, .string q.tx, .int .i64 q.at_, .int .i64 q.e, .int .i64 q.vs]
def PsAt (Q T : Nat) (s : ByteArray) (q : Ps) (w : World) : Prop := w.heap[Q]? = some (.cells (q.row s) T (0, 0))
theorem PsAt.cells {Q T : Nat} {s : ByteArray} {q : Ps} {w : World} (h : PsAt Q T s q w) : w.cell? ⟨Q, 0, none⟩ = some (.string s) ∧ w.cell? ⟨Q, 1, none⟩ = some (.int .i64 q.i) ∧ w.cell? ⟨Q, 2, none⟩ = some (.int .i64 q.k) ∧ w.cell? ⟨Q, 3, none⟩ = some (.int .i64 q.ta) ∧ w.cell? ⟨Q, 4, none⟩ = some (.string q.tx) ∧ w.cell? ⟨Q, 5, none⟩ = some (.int .i64 q.at_) ∧ w.cell? ⟨Q, 6, none⟩ = some (.int .i64 q.e) ∧ w.cell? ⟨Q, 7, none⟩ = some (.int .i64 q.vs) ∧ (∀ j, w.frozen? ⟨Q, j, none⟩ = false) :=
  ⟨cellT h rfl, cellT h rfl, cellT h rfl, cellT h rfl, cellT h rfl, cellT h rfl, cellT h rfl, cellT h rfl, fun j => frozenT h⟩
theorem PsAt.set1 {Q T : Nat} {s : ByteArray} {q : Ps} {w : World} (h : PsAt Q T s q w) (i : Nat) : PsAt Q T s { q with i := i } (w.setCell ⟨Q, 1, none⟩ (.int .i64 i)) := by
  unfold PsAt; rw [heap_setCell_same _ _ 1 _ _ _ h]; rfl
theorem PsAt.setF {Q T : Nat} {s : ByteArray} {q : Ps} {w : World} (h : PsAt Q T s q w) (a e : Int) : PsAt Q T s { q with at_ := a, e := e } ((w.setCell ⟨Q, 5, none⟩ (.int .i64 a)).setCell ⟨Q, 6, none⟩ (.int .i64 e)) := by
  unfold PsAt
  have h1 : (w.setCell ⟨Q, 5, none⟩ (.int .i64 a)).heap[Q]? = some (.cells (({ q with at_ := a } : Ps).row s) T (0, 0)) := by rw [heap_setCell_same _ _ 5 _ _ _ h]; rfl
  rw [heap_setCell_same _ _ 6 _ _ _ h1]; rfl
theorem PsAt.setT {Q T : Nat} {s : ByteArray} {q : Ps} {w : World} (h : PsAt Q T s q w) (k ta : Int) (tx : ByteArray) : PsAt Q T s { q with k := k, ta := ta, tx := tx } (((w.setCell ⟨Q, 2, none⟩ (.int .i64 k)).setCell ⟨Q, 3, none⟩ (.int .i64 ta)).setCell ⟨Q, 4, none⟩ (.string tx)) := by
  unfold PsAt
  have h1 : (w.setCell ⟨Q, 2, none⟩ (.int .i64 k)).heap[Q]? = some (.cells (({ q with k := k } : Ps).row s) T (0, 0)) := by rw [heap_setCell_same _ _ 2 _ _ _ h]; rfl
  have h2 : ((w.setCell ⟨Q, 2, none⟩ (.int .i64 k)).setCell ⟨Q, 3, none⟩ (.int .i64 ta)).heap[Q]? = some (.cells (({ q with k := k, ta := ta } : Ps).row s) T (0, 0)) := by rw [heap_setCell_same _ _ 3 _ _ _ h1]; rfl
  rw [heap_setCell_same _ _ 4 _ _ _ h2]; rfl
set_option maxHeartbeats 4000000 in
/-- The first error is kept. -/
theorem fail_any (Q T : Nat) (s : ByteArray) (q : Ps) (a e : Int) (w : World) (h : PsAt Q T s q w) :
    Calls Tryz.prog 46 #[.pointer (some ⟨Q, 0, none⟩), .int .i64 a, .int .i64 e] w fun en w' => en = .returned (.tuple #[]) ∧ PsAt Q T s (if q.e = 0 then { q with at_ := a, e := e } else q) w' ∧ Kept [Q] w w' := by
  obtain ⟨c0, c1, c2, c3, c4, c5, c6, c7, fz⟩ := h.cells
  have H := Lib.hid h
  clear h
  by_cases h0 : q.e = 0
  · have b0 : (q.e == 0) = true := by rw [h0]; rfl
    rw [if_pos h0]
    clear h0
    go_enter Tryz.func46, Tryz.ntmps46
    go_wp2_with fail
    all_goals go_end0
    all_goals exact ⟨rfl, H.out.setF a e, ((Kept.refl [Q] w).set Q 5 (by simp) _).set Q 6 (by simp) _⟩
  · have b0 : (q.e == 0) = false := beq_false_of_ne h0
    rw [if_neg h0]
    clear h0
    go_enter Tryz.func46, Tryz.ntmps46
    go_wp2_with fail
    all_goals go_end0
    all_goals exact ⟨rfl, H.out, Kept.refl [Q] w⟩
end Go.Proofs.YtejnoedlfbglcaaGreatDoor
namespace Mh
open Go Go.RowKit
set_option linter.unusedVariables false
/-- How a text that has begun ends, in terms of what is still to be read. -/
def textJ (L : List UInt8) (o : Option (List UInt8 × List UInt8)) : Option (List UInt8 × List UInt8) := match o with
  | none => none
  | some (t, r) => some (L ++ t, r)
theorem textJ_nil (o : Option (List UInt8 × List UInt8)) : textJ [] o = o := by
  cases o with
  | none => rfl
  | some p => rfl
theorem textF_cons (c : UInt8) (l : List UInt8) : textF (c :: l) = (if c.toNat = 34 then some ([], l) else if c.toNat = 10 then none else if ctlB c = true then none else if c.toNat = 92 then (match l with | [] => none | d :: l' => match escB d with | none => none | some e => match textF l' with | none => none | some (o, r) => some (e :: o, r)) else match textF l with | none => none | some (o, r) => some (c :: o, r)) := by
  rw [textF.eq_def]
  cases l <;> rfl
theorem textJ_byte {L l : List UInt8} {c : UInt8} (h1 : c.toNat ≠ 34) (h2 : c.toNat ≠ 10) (h3 : ctlB c = false) (h4 : c.toNat ≠ 92) : textJ L (textF (c :: l)) = textJ (L ++ [c]) (textF l) := by
  rw [textF_cons, if_neg h1, if_neg h2, if_neg (by rw [h3]; simp), if_neg h4]
  cases textF l with
  | none => rfl
  | some p => obtain ⟨o, r⟩ := p; simp [textJ]
theorem textJ_esc {L l : List UInt8} {c d e : UInt8} (h4 : c.toNat = 92) (he : escB d = some e) : textJ L (textF (c :: d :: l)) = textJ (L ++ [e]) (textF l) := by
  have h3 : ctlB c = false := by unfold ctlB; rw [h4]; rfl
  rw [textF_cons, if_neg (by omega), if_neg (by omega), if_neg (by rw [h3]; simp), if_pos h4]
  simp only [he]
  cases textF l with
  | none => rfl
  | some p => obtain ⟨o, r⟩ := p; simp [textJ]
theorem textF_ctl {l : List UInt8} {c : UInt8} (h3 : ctlB c = true) : textF (c :: l) = none := by
  have h : c.toNat ≠ 34 := fun e => by unfold ctlB at h3; rw [e] at h3; simp at h3
  rw [textF_cons, if_neg h]
  by_cases hn : c.toNat = 10
  · rw [if_pos hn]
  · rw [if_neg hn, if_pos h3]
theorem textF_lone {c : UInt8} (h4 : c.toNat = 92) : textF [c] = none := by
  have h3 : ctlB c = false := by unfold ctlB; rw [h4]; rfl
  rw [textF_cons, if_neg (by omega), if_neg (by omega), if_neg (by rw [h3]; simp), if_pos h4]
theorem textF_bad {l : List UInt8} {c d : UInt8} (h4 : c.toNat = 92) (he : escB d = none) : textF (c :: d :: l) = none := by
  have h3 : ctlB c = false := by unfold ctlB; rw [h4]; rfl
  rw [textF_cons, if_neg (by omega), if_neg (by omega), if_neg (by rw [h3]; simp), if_pos h4]
  simp only [he]
theorem textF_quote {l : List UInt8} {c : UInt8} (h : c.toNat = 34) : textF (c :: l) = some ([], l) := by rw [textF_cons, if_pos h]
theorem textF_line {l : List UInt8} {c : UInt8} (h : c.toNat = 10) : textF (c :: l) = none := by rw [textF_cons, if_neg (by omega), if_pos h]
theorem drop_at {s : ByteArray} {j : Nat} (h : j < s.size) : s.data.toList.drop j = s[j] :: s.data.toList.drop (j + 1) := by
  have hl : j < s.data.toList.length := by rw [Array.length_toList]; exact h
  rw [List.drop_eq_getElem_cons hl, Go.Proofs.YtejnoedlfbglcaaGreatDoor.data_at s j h hl]
theorem drop_end {s : ByteArray} {j : Nat} (h : s.size ≤ j) : s.data.toList.drop j = [] := List.drop_eq_nil_of_le (by rw [Array.length_toList]; exact h)
def tkK : Tk → Int
  | .fin => 0
  | .word _ => 1
  | .text _ => 2
  | .sign c => c.toNat
def tkT : Tk → ByteArray
  | .fin => ⟨#[]⟩
  | .word s => ⟨s.toArray⟩
  | .text s => ⟨s.toArray⟩
  | .sign _ => ⟨#[]⟩
end Mh
namespace Go.Proofs.YtejnoedlfbglcaaGreatDoor
open Go.RowKit Mh
set_option linter.unusedVariables false
/-- What a scan leaves. -/
def Scan (s : ByteArray) (q q' : Ps) (o : Option (Tk × List UInt8)) : Prop :=
  q'.vs = q.vs ∧ q'.i ≤ s.size ∧ match o with
    | some (t, r) => q'.e = 0 ∧ q'.at_ = q.at_ ∧ q'.k = tkK t ∧ q'.tx = tkT t ∧ (0 ≤ q'.ta ∧ q'.ta ≤ s.size) ∧ s.data.toList.drop q'.i = r
    | none => q'.e ≠ 0 ∧ 0 ≤ q'.at_ ∧ q'.at_ ≤ s.size
set_option maxHeartbeats 4000000 in
theorem wrong_any (p4 p5 : Nat) (i what a e : Int) (w : World) (h4 : w.heap[p4]? = some (.cells #[.int .i64 a] 3 (0, 0))) (h5 : w.heap[p5]? = some (.cells #[.int .i64 e] 30 (0, 0))) (hne : p4 ≠ p5) :
    Calls Tryz.prog 86 #[.int .i64 i, .int .i64 what, .pointer (some ⟨p5, 0, none⟩), .pointer (some ⟨p4, 0, none⟩)] w fun en w' => en = .returned (.tuple #[]) ∧
      w'.heap[p4]? = some (.cells #[.int .i64 (if e = 0 then i else a)] 3 (0, 0)) ∧ w'.heap[p5]? = some (.cells #[.int .i64 (if e = 0 then what else e)] 30 (0, 0)) ∧ Kept [p4, p5] w w' := by
  have c4 := cellT (i := 0) h4 rfl
  have c5 := cellT (i := 0) h5 rfl
  have f4 : w.frozen? ⟨p4, 0, none⟩ = false := frozenT h4
  have f5 : w.frozen? ⟨p5, 0, none⟩ = false := frozenT h5
  have H4 := Lib.hid h4
  have H5 := Lib.hid h5
  clear h4 h5
  by_cases h0 : e = 0
  · subst h0
    rw [if_pos rfl, if_pos rfl]
    have c5' : (w.setCell ⟨p4, 0, none⟩ (.int .i64 i)).cell? ⟨p5, 0, none⟩ = some (.int .i64 0) := (cell_far_set _ _ _ _ _ _ hne).trans c5
    go_enter Tryz.func86, Tryz.ntmps86
    go_wp2_with fail
    all_goals go_end0
    all_goals
      refine ⟨rfl, ?_, ?_, ((Kept.refl [p4, p5] w).set p4 0 (by simp) _).set p5 0 (by simp) _⟩
      · rw [heap_setCell_other _ _ _ _ (by show p4 ≠ p5; exact hne), heap_setCell_same _ _ 0 _ _ _ H4.out]; rfl
      · have : (w.setCell ⟨p4, 0, none⟩ (.int .i64 i)).heap[p5]? = some (.cells #[.int .i64 0] 30 (0, 0)) := by rw [heap_setCell_other _ _ _ _ (by show p5 ≠ p4; exact hne.symm)]; exact H5.out
        rw [heap_setCell_same _ _ 0 _ _ _ this]; rfl
  · have b0 : (e == 0) = false := beq_false_of_ne h0
    rw [if_neg h0, if_neg h0]
    clear h0
    go_enter Tryz.func86, Tryz.ntmps86
    go_wp2_with fail
    all_goals go_end0
    all_goals exact ⟨rfl, H4.out, H5.out, Kept.refl _ w⟩
end Go.Proofs.YtejnoedlfbglcaaGreatDoor
namespace Go.Proofs.YtejnoedlfbglcaaGreatDoor
open Go.RowKit Mh
set_option linter.unusedVariables false

/-- The index of an escape's letter. -/
def escK (d : UInt8) : Int := if d.toNat = 110 then 0 else if d.toNat = 116 then 1 else if d.toNat = 34 then 2 else if d.toNat = 92 then 3 else -1
theorem escK_any (d : UInt8) (w : World) : Calls Tryz.prog 64 #[.string ⟨#[110, 116, 34, 92]⟩, .int .u8 d.toNat] w fun e w' => e = .returned (.int .i64 (escK d)) ∧ w' = w := by
  have h := Tryz.strings_IndexByte ⟨#[110, 116, 34, 92]⟩ (d.toNat : Int) w
  have ed : (d.toNat : Int).toNat.toUInt8 = d := by simp
  have ne : ∀ n : Nat, n < 256 → d.toNat ≠ n → (UInt8.ofNat n == d) = false := fun n hn hd => beq_false_of_ne fun e => hd (by rw [← e, UInt8.toNat_ofNat']; omega)
  have e : Lib.indexByte [110, 116, 34, 92] d = escK d := by
    unfold escK
    by_cases h1 : d.toNat = 110
    · rw [if_pos h1, u8_of h1]; rfl
    by_cases h2 : d.toNat = 116
    · rw [if_neg h1, if_pos h2, u8_of h2]; rfl
    by_cases h3 : d.toNat = 34
    · rw [if_neg h1, if_neg h2, if_pos h3, u8_of h3]; rfl
    by_cases h4 : d.toNat = 92
    · rw [if_neg h1, if_neg h2, if_neg h3, if_pos h4, u8_of h4]; rfl
    rw [if_neg h1, if_neg h2, if_neg h3, if_neg h4]
    have e1 : ((110 : UInt8) == d) = false := ne 110 (by omega) h1
    have e2 : ((116 : UInt8) == d) = false := ne 116 (by omega) h2
    have e3 : ((34 : UInt8) == d) = false := ne 34 (by omega) h3
    have e4 : ((92 : UInt8) == d) = false := ne 92 (by omega) h4
    simp [Lib.indexByte, e1, e2, e3, e4]
  rw [ed] at h
  rw [← e]
  exact h
theorem escK_none {d : UInt8} (h : escB d = none) : escK d = -1 := by
  unfold escB at h
  unfold escK
  by_cases h1 : d.toNat = 110
  · rw [if_pos h1] at h; cases h
  by_cases h2 : d.toNat = 116
  · rw [if_neg h1, if_pos h2] at h; cases h
  by_cases h3 : d.toNat = 34
  · rw [if_neg h1, if_neg h2, if_pos h3] at h; cases h
  by_cases h4 : d.toNat = 92
  · rw [if_neg h1, if_neg h2, if_neg h3, if_pos h4] at h; cases h
  rw [if_neg h1, if_neg h2, if_neg h3, if_neg h4]
theorem escK_some {d e : UInt8} (h : escB d = some e) : (escK d = 0 ∧ e = 10) ∨ (escK d = 1 ∧ e = 9) ∨ (escK d = 2 ∧ e = 34) ∨ (escK d = 3 ∧ e = 92) := by
  unfold escB at h
  unfold escK
  by_cases h1 : d.toNat = 110
  · rw [if_pos h1] at h ⊢; cases h; exact .inl ⟨rfl, rfl⟩
  by_cases h2 : d.toNat = 116
  · rw [if_neg h1, if_pos h2] at h ⊢; cases h; exact .inr (.inl ⟨rfl, rfl⟩)
  by_cases h3 : d.toNat = 34
  · rw [if_neg h1, if_neg h2, if_pos h3] at h ⊢; cases h; exact .inr (.inr (.inl ⟨rfl, rfl⟩))
  by_cases h4 : d.toNat = 92
  · rw [if_neg h1, if_neg h2, if_neg h3, if_pos h4] at h ⊢; cases h; exact .inr (.inr (.inr ⟨rfl, rfl⟩))
  rw [if_neg h1, if_neg h2, if_neg h3, if_neg h4] at h
  cases h
/-- What stands in text's loop. -/
structure TxIn (Q T : Nat) (s : ByteArray) (q : Ps) (w wr : World) (L : List UInt8) (j : Nat) (ca ce : Int) (v : Value) : Prop where
  le : j ≤ s.size
  own : wr.ownsRow (w.heap.size + 3) 5 1 v L.length (byteCells L)
  len : L.length ≤ j
  p : PsAt Q T s q wr
  tk : wr.heap[w.heap.size]? = some (.cells #[.int .i64 2, .int .i64 q.i, .string ⟨#[]⟩] 67 (0, 0))
  b4 : wr.heap[w.heap.size + 1]? = some (.cells #[.int .i64 ca] 3 (0, 0))
  b5 : wr.heap[w.heap.size + 2]? = some (.cells #[.int .i64 ce] 30 (0, 0))
  below : Below w.heap.size w wr
  ok : ce = 0 → textF (s.data.toList.drop (q.i + 1)) = textJ L (textF (s.data.toList.drop j))
  bad : ce ≠ 0 → textF (s.data.toList.drop (q.i + 1)) = none ∧ 0 ≤ ca ∧ ca ≤ s.size
/-- An error's place is kept: the first. -/
theorem TxIn.wrong {Q T : Nat} {s : ByteArray} {q : Ps} {w wr w2 : World} {L : List UInt8} {j : Nat} {ca ce what : Int} {v : Value} (h : TxIn Q T s q w wr L j ca ce v) (hQ : Q < w.heap.size) (hw : what ≠ 0) (hb : ce = 0 → textF (s.data.toList.drop j) = none)
    (h4 : w2.heap[w.heap.size + 1]? = some (.cells #[.int .i64 (if ce = 0 then (j : Int) else ca)] 3 (0, 0))) (h5 : w2.heap[w.heap.size + 2]? = some (.cells #[.int .i64 (if ce = 0 then what else ce)] 30 (0, 0))) (hk : Kept [w.heap.size + 1, w.heap.size + 2] wr w2) :
    TxIn Q T s q w w2 L j (if ce = 0 then (j : Int) else ca) (if ce = 0 then what else ce) v := by
  have hz : w.heap.size + 2 < wr.heap.size := (Array.getElem?_eq_some_iff.1 h.b5).1
  refine ⟨h.le, ?_, h.len, ?_, ?_, h4, h5, ?_, ?_, ?_⟩
  · refine ⟨h.own.1, ?_⟩
    rcases h.own.2 with e | ⟨g, cap, cur, rfl, hbg, hg, h6⟩
    · exact .inl e
    · exact .inr ⟨g, cap, cur, rfl, hbg, (hk.block g (Array.getElem?_eq_some_iff.1 hg).1 (by simp; omega)).trans hg, h6⟩
  · exact (hk.block Q (by omega) (by simp; omega)).trans h.p
  · exact (hk.block _ (by omega) (by simp)).trans h.tk
  · exact h.below.trans (hk.below h.below.size (fun b hb => by simp at hb; omega))
  · intro e
    by_cases h0 : ce = 0
    · rw [if_pos h0] at e; exact absurd e hw
    · rw [if_neg h0] at e; exact absurd e h0
  · intro e
    by_cases h0 : ce = 0
    · rw [if_pos h0]
      refine ⟨?_, by omega, by have := h.le; omega⟩
      rw [h.ok h0, hb h0]; rfl
    · rw [if_neg h0]; exact h.bad h0
/-- A byte more. -/
theorem TxIn.next {Q T : Nat} {s : ByteArray} {q : Ps} {w wr w2 w3 : World} {L : List UInt8} {j j' : Nat} {ca ce : Int} {v v' : Value} {c : UInt8} (h : TxIn Q T s q w wr L j ca ce v) (hQ : Q < w.heap.size) (h2 : Below wr.heap.size wr w2)
    (hj : j < j') (hj' : j' ≤ s.size) (hok : ce = 0 → textJ L (textF (s.data.toList.drop j)) = textJ (L ++ [c]) (textF (s.data.toList.drop j')))
    (hown : w3.ownsRow (w.heap.size + 3) 5 1 v' (L ++ [c]).length (byteCells (L ++ [c]))) (hg : w2.grownBy w3 v.ownBlock) : TxIn Q T s q w w3 (L ++ [c]) j' ca ce v' := by
  have hz : w.heap.size + 2 < wr.heap.size := (Array.getElem?_eq_some_iff.1 h.b5).1
  have hne : ∀ k, k < w.heap.size + 3 → some k ≠ v.ownBlock := fun k hk e => by have := (h.own.lt k e.symm).1; omega
  have hold : ∀ k, k < w.heap.size + 3 → w3.heap[k]? = wr.heap[k]? := fun k hk => (hg.block k (by have := h2.size; omega) (hne k hk)).trans (h2.block k (by omega))
  refine ⟨hj', hown, by rw [List.length_append]; have := h.len; simp; omega, (hold Q (by omega)).trans h.p, (hold _ (by omega)).trans h.tk, (hold _ (by omega)).trans h.b4, (hold _ (by omega)).trans h.b5, ?_, fun e => (h.ok e).trans (hok e), h.bad⟩
  have hb2 : Below w.heap.size w w2 := h.below.trans (h2.mono h.below.size)
  exact hb2.grown hg hb2.size (fun k e => by have := (h.own.lt k e).1; omega)
end Go.Proofs.YtejnoedlfbglcaaGreatDoor
