/- Words of settings: what strconv.Atoi gives of a word that has an integer's form; the word's value. No program but in the last laws. · conf.wordValue: the value of a word. Conditions: a string of at most 10^9 bytes; the variable strconv.ErrRange holds an error. -/
import Derived.Test.YtejnoedlfbglcaaGreatDoorRdB
import Derived.Test.YtejnoedlfbglcaaGreatDoorKeK
import Derived.Lib.AtoiAll
import Derived.Test.YtejnoedlfbglcaaGreatDoorKeP6
namespace Mh
open Go Go.RowKit
set_option linter.unusedVariables false
theorem fold_ge (l : List UInt8) : ∀ a : Nat, a ≤ l.foldl (fun n c => 10 * n + (c.toNat - 48)) a := by
  induction l with
  | nil => intro a; exact Nat.le_refl _
  | cons c l ih => intro a; rw [List.foldl_cons]; have := ih (10 * a + (c.toNat - 48)); omega
theorem parse_dig : ∀ (l : List UInt8) (a : Nat), (∀ c ∈ l, 48 ≤ c.toNat ∧ c.toNat ≤ 57) → a < 18446744073709551616 →
    (∃ u, Lib.parseUint10 a l = .ok u ∧ Lib.decFrom a l = some u) ∨ (Lib.parseUint10 a l = .range ∧ ∃ u, Lib.decFrom a l = some u ∧ 18446744073709551616 ≤ u) := by
  intro l
  induction l with
  | nil => intro a _ _; exact .inl ⟨a, rfl, rfl⟩
  | cons c l ih =>
    intro a h ha
    have hc := h c (by simp)
    have hl := fun x hx => h x (List.mem_cons_of_mem _ hx)
    have hd := decFrom_dfold l (a * 10 + (c.toNat - 48)) hl
    have hg := fold_ge l (a * 10 + (c.toNat - 48))
    have e : Lib.decFrom a (c :: l) = Lib.decFrom (a * 10 + (c.toNat - 48)) l := by
      simp only [Lib.decFrom, Lib.digitVal, if_pos hc]
    rw [e]
    simp only [Lib.parseUint10, if_pos hc]
    by_cases h1 : 1844674407370955162 ≤ a
    · rw [if_pos h1]
      exact .inr ⟨rfl, _, hd, by omega⟩
    · rw [if_neg h1]
      by_cases h2 : 18446744073709551616 ≤ a * 10 + (c.toNat - 48)
      · rw [if_pos h2]
        exact .inr ⟨rfl, _, hd, by omega⟩
      · rw [if_neg h2]
        exact ih _ hl (by omega)
theorem mag_dig {l : List UInt8} (h0 : l ≠ []) (h : ∀ c ∈ l, 48 ≤ c.toNat ∧ c.toNat ≤ 57) :
    (∃ u, Lib.parseMag l = .ok u ∧ Lib.decNat l = some u) ∨ (Lib.parseMag l = .range ∧ ∃ u, Lib.decNat l = some u ∧ 18446744073709551616 ≤ u) := by
  have h1 := parse_dig l 0 h (by omega)
  unfold Lib.parseMag Lib.decNat
  rw [if_neg h0, if_neg (by cases l with | nil => exact absurd rfl h0 | cons a l => simp)]
  exact h1
theorem digs_of {l : List UInt8} (h : l.all digB = true) : ∀ c ∈ l, 48 ≤ c.toNat ∧ c.toNat ≤ 57 := fun c hc => of_decide_eq_true (List.all_eq_true.1 h c hc)
/-- How strconv.Atoi ends at a word that has an integer's form. -/
theorem atoi_form {w : List UInt8} (h : isIntL w = true) :
    (∃ n, Lib.atoiAll w = .ok n ∧ Lib.atoi w = some n ∧ -9223372036854775808 ≤ n ∧ n ≤ 9223372036854775807) ∨
    (Lib.atoiAll w = .range ∧ ∃ n, Lib.atoi w = some n ∧ ¬ (-9223372036854775808 ≤ n ∧ n ≤ 9223372036854775807)) := by
  cases w with
  | nil => cases h
  | cons c r =>
    by_cases h45 : c.toNat = 45
    · have hr : r ≠ [] ∧ r.all digB = true := by
        simp only [isIntL, if_pos h45, Bool.and_eq_true] at h
        exact ⟨by intro e; subst e; simp at h, h.2⟩
      have hc : (c == 45) = true := by rw [beq_iff_eq]; exact UInt8.toNat_inj.1 h45
      simp only [Lib.atoiAll, Lib.atoi, if_pos hc, if_pos (Or.inr h45 : c.toNat = 43 ∨ c.toNat = 45)]
      rcases mag_dig hr.1 (digs_of hr.2) with ⟨u, e1, e2⟩ | ⟨e1, u, e2, hu⟩
      · rw [e1, e2]
        simp only [h45]
        by_cases hb : 9223372036854775808 < u
        · right
          refine ⟨by simp [hb], -(u : Int), rfl, by omega⟩
        · left
          refine ⟨-(u : Int), by simp [hb], rfl, by omega, by omega⟩
      · rw [e1, e2]
        exact .inr ⟨rfl, -(u : Int), rfl, by omega⟩
    · have hr : (c :: r).all digB = true := by
        simp only [isIntL, if_neg h45] at h
        simpa using h
      have hdc := digs_of hr c (by simp)
      have hc : (c == 45) = false := beq_false_of_ne fun e => h45 (by rw [e]; rfl)
      have hc2 : (c == 43) = false := beq_false_of_ne fun e => by rw [e] at hdc; exact absurd hdc.1 (by decide)
      have h43 : ¬ (c.toNat = 43 ∨ c.toNat = 45) := by omega
      simp only [Lib.atoiAll, Lib.atoi, hc, hc2, if_neg h43]
      rcases mag_dig (l := c :: r) (by simp) (digs_of hr) with ⟨u, e1, e2⟩ | ⟨e1, u, e2, hu⟩
      · rw [e1]
        simp only [e2, h45]
        by_cases hb : 9223372036854775808 ≤ u
        · right
          refine ⟨by simp [hb], u, by simp, by omega⟩
        · left
          refine ⟨u, by simp [hb], by simp, by omega, by omega⟩
      · rw [e1]
        simp only [e2]
        exact .inr ⟨by simp, u, by simp, by omega⟩
/-- Whether an integer's form begins with a nought that does not belong. -/
def leadB (w : List UInt8) : Bool := decide ((Lib.trimPrefix w [45]).head? = some 48) && decide (w ≠ [48])
def leafV (k : Int) (b : Bool) (n : Int) : V := .mk k b n ⟨#[]⟩ [] []
theorem wordF_nil {w : List UInt8} (h : w = [110, 105, 108]) : wordF w = some (leafV 0 false 0) := by unfold wordF; rw [if_pos h]; rfl
theorem wordF_yes {w : List UInt8} (h0 : w ≠ [110, 105, 108]) (h : w = [121, 101, 115]) : wordF w = some (leafV 1 true 0) := by unfold wordF; rw [if_neg h0, if_pos h]; rfl
theorem wordF_no {w : List UInt8} (h0 : w ≠ [110, 105, 108]) (h1 : w ≠ [121, 101, 115]) (h : w = [110, 111]) : wordF w = some (leafV 1 false 0) := by unfold wordF; rw [if_neg h0, if_neg h1, if_pos h]; rfl
theorem wordF_int {w : List UInt8} (h0 : w ≠ [110, 105, 108]) (h1 : w ≠ [121, 101, 115]) (h2 : w ≠ [110, 111]) (hi : isIntL w = true) :
    (leadB w = true ∧ wordF w = none) ∨ (leadB w = false ∧ Lib.atoiAll w = .range ∧ wordF w = none) ∨ (leadB w = false ∧ ∃ n, Lib.atoiAll w = .ok n ∧ wordF w = some (leafV 2 false n) ∧ -9223372036854775808 ≤ n ∧ n ≤ 9223372036854775807) := by
  unfold wordF
  rw [if_neg h0, if_neg h1, if_neg h2, if_pos hi]
  cases hl : leadB w with
  | true =>
    have h3 : (Lib.trimPrefix w [45]).head? = some 48 ∧ w ≠ [48] := by unfold leadB at hl; simpa using hl
    exact .inl ⟨rfl, by rw [if_pos h3]⟩
  | false =>
    have h3 : ¬ ((Lib.trimPrefix w [45]).head? = some 48 ∧ w ≠ [48]) := by
      unfold leadB at hl
      rw [Bool.and_eq_false_iff, decide_eq_false_iff_not, decide_eq_false_iff_not] at hl
      rintro ⟨a, b⟩
      rcases hl with hl | hl
      · exact hl a
      · exact hl b
    rw [if_neg h3]
    rcases atoi_form hi with ⟨n, e1, e2, e3, e4⟩ | ⟨e1, n, e2, e3⟩
    · exact .inr (.inr ⟨rfl, n, e1, by rw [e2]; simp only; rw [if_pos ⟨e3, e4⟩]; rfl, e3, e4⟩)
    · exact .inr (.inl ⟨rfl, e1, by rw [e2]; simp only; rw [if_neg e3]⟩)
theorem wordF_day {w : List UInt8} (h0 : w ≠ [110, 105, 108]) (h1 : w ≠ [121, 101, 115]) (h2 : w ≠ [110, 111]) (hi : isIntL w = false) : wordF w = (dayF w).map (leafV 4 false) := by
  unfold wordF
  rw [if_neg h0, if_neg h1, if_neg h2, if_neg (by rw [hi]; simp)]
  cases dayF w <;> rfl
theorem ymd_in {y m d : Nat} (h1 : 1970 ≤ y) (h2 : y ≤ 2199) (h3 : 1 ≤ m) (h4 : m ≤ 12) (h5 : 1 ≤ d) (h6 : (d : Int) ≤ Cal.md y m) : 0 ≤ Cal.bef y + Cal.cum y m + d - 1 ∧ Cal.bef y + Cal.cum y m + d - 1 ≤ 84005 := by
  have hy : Cal.Ymd (Cal.bef y + Cal.cum y m + d - 1) y m d := ⟨by omega, by omega, by omega, by omega, by omega, by omega, by omega⟩
  have h := ymd_next hy
  have h0 := Cal.bef_bd y (by omega) (by omega)
  have h9 := Cal.bef_bd (y + 1) (by omega) (by omega)
  omega
theorem dayF_in {w : List UInt8} {n : Int} (h : dayF w = some n) : 0 ≤ n ∧ n ≤ 84005 := by
  unfold dayF at h
  split at h
  · split at h
    · simp only at h
      split at h
      · rename_i hc
        cases h
        obtain ⟨a1, a2, a3, a4, a5, a6⟩ := hc
        exact ymd_in a1 a2 a3 a4 a5 a6
      · cases h
    · cases h
  · cases h
end Mh
namespace Go.Proofs.YtejnoedlfbglcaaGreatDoor
open Go.RowKit Mh
set_option linter.unusedVariables false
theorem word_lit {s : ByteArray} {l : List UInt8} (h : s.data.toList = l) : (s.toList == l) = true := by rw [ByteArray.toList_eq, h]; exact beq_self_eq_true _
theorem word_not {s : ByteArray} {l : List UInt8} (h : s.data.toList ≠ l) : (s.toList == l) = false := by rw [ByteArray.toList_eq]; exact beq_false_of_ne h
end Go.Proofs.YtejnoedlfbglcaaGreatDoor
namespace Go.Proofs.YtejnoedlfbglcaaGreatDoor
open Go.RowKit Mh
set_option linter.unusedVariables false

def leafC (k : Int) (b : Bool) (n : Int) : Array Value := #[.int .i64 k, .bool b, .int .i64 n, .string ⟨#[]⟩, .slice none 0 0, .slice none 0 0]
/-- What a reader of words gives. -/
def WvP (o : Option V) (w : World) (e : Ending) (w' : World) : Prop := ∃ (k : Int) (b : Bool) (n z : Int), e = .returned (.tuple #[.agg (leafC k b n), .int .i64 z]) ∧ Below w.heap.size w w' ∧ (0 ≤ k ∧ k ≤ 6) ∧ (-9223372036854775808 ≤ n ∧ n ≤ 9223372036854775807) ∧ match o with
  | some v => z = 0 ∧ v = leafV k b n
  | none => z ≠ 0
theorem WvP.some {o : Option V} {k : Int} {b : Bool} {n : Int} {w w' : World} (h : o = some (leafV k b n)) (hk : 0 ≤ k ∧ k ≤ 6) (hn : -9223372036854775808 ≤ n ∧ n ≤ 9223372036854775807) (hb : Below w.heap.size w w') : WvP o w (.returned (.tuple #[.agg (leafC k b n), .int .i64 0])) w' := by
  subst h; exact ⟨k, b, n, 0, rfl, hb, hk, hn, rfl, rfl⟩
theorem WvP.none {o : Option V} {z : Int} {w w' : World} (h : o = none) (hz : z ≠ 0) (hb : Below w.heap.size w w') : WvP o w (.returned (.tuple #[.agg (leafC 0 false 0), .int .i64 z])) w' := by
  subst h; exact ⟨0, false, 0, z, rfl, hb, by omega, by omega, hz⟩
/-- The variable strconv.ErrRange holds an error. -/
def EvAt (w : World) : Prop := ∃ tp p, w.cell? ⟨3, 0, none⟩ = some (.iface tp p)
theorem EvAt.keep {w w' : World} {B : Nat} (h : EvAt w) (hb : Below B w w') (hB : 3 + 1 ≤ B) : EvAt w' := by
  obtain ⟨tp, p, h⟩ := h
  exact ⟨tp, p, (hb.cell (p := ⟨3, 0, none⟩) (by show 3 < B; omega)).trans h⟩
theorem atoi_ok (s : ByteArray) (hs : s.size ≤ 1000000000) (n : Int) (h : Lib.atoiAll s.data.toList = .ok n) (w : World) :
    Calls Tryz.prog 78 #[.string s] w fun e w' => e = .returned (.tuple #[.int .i64 n, .nilIface]) ∧ Below w.heap.size w w' := by
  refine (Tryz.strconv_Atoi_ok s (by omega) n h w).mono ?_
  rintro e w' ⟨rfl, hw⟩
  refine ⟨rfl, ?_⟩
  rcases hw with rfl | ⟨t, rfl⟩
  · exact Below.refl _ _
  · exact Go.Joins.below_bytesWorld _ _ _ _ (Nat.le_refl _)
theorem atoi_far (s : ByteArray) (hs : s.size ≤ 1000000000) (h : Lib.atoiAll s.data.toList = .range) (w : World) (hev : EvAt w) :
    Calls Tryz.prog 78 #[.string s] w fun e w' => ∃ tp p, e = .returned (.tuple #[.int .i64 (Lib.atoiSat s.data.toList), .iface tp p]) ∧ Below w.heap.size w w' := by
  obtain ⟨tp, p, hv⟩ := hev
  refine (Tryz.strconv_Atoi_range s (by omega) h _ w hv (.inr ⟨tp, p, rfl⟩)).mono ?_
  rintro e w' ⟨N, rfl, _, _, hb⟩
  exact ⟨_, _, rfl, hb⟩
theorem EvAt.size {w : World} (h : EvAt w) : 3 + 1 ≤ w.heap.size := by
  obtain ⟨tp, p, h⟩ := h
  have := World.block_lt_of_cell? w _ h
  exact this
theorem atoiSat_in (l : List UInt8) : -9223372036854775808 ≤ Lib.atoiSat l ∧ Lib.atoiSat l ≤ 9223372036854775807 := by unfold Lib.atoiSat; split <;> omega
theorem trim_head {u : ByteArray} {w : List UInt8} (hu : u.data.toList = Lib.trimPrefix w [45]) (h : 0 < u.size) : ((Lib.trimPrefix w [45]).head? = some 48) ↔ u[0].toNat = 48 := by
  rw [← hu]
  have e : u.data.toList = u[0] :: u.data.toList.drop 1 := by
    have hl : 0 < u.data.toList.length := by rw [Array.length_toList]; exact h
    have := List.drop_eq_getElem_cons hl
    exact this
  rw [e]
  simp only [List.head?_cons, Option.some.injEq]
  constructor
  · intro e; rw [e]; rfl
  · intro e; exact UInt8.toNat_inj.1 e
theorem leaf_new (w : World) : (w.alloc (.cells (leafC 0 false 0) 29)).heap[w.heap.size]? = some (.cells (leafC 0 false 0) 29 (0, 0)) := heap_alloc_new _ _
set_option maxRecDepth 100000 in
set_option maxHeartbeats 16000000 in
theorem wordValue_any (s : ByteArray) (hs : s.size ≤ 1000000000) (w : World) (hev : EvAt w) : Calls Tryz.prog 67 #[.string s] w (WvP (wordF s.data.toList) w) := by
  have HB0 : Hid (Below w.heap.size w (w.alloc (.cells (leafC 0 false 0) 29))) := (Below.refl _ _).alloc (Nat.le_refl _) _
  have h3 := hev.size
  have HEV : Hid (∀ w', Below w.heap.size w w' → EvAt w') := fun w' hb => hev.keep hb h3
  clear hev
  by_cases h0 : s.data.toList = [110, 105, 108]
  · have HF := Lib.hid (wordF_nil h0)
    have q0 := word_lit h0
    clear h0
    go_enter Tryz.func67, Tryz.ntmps67
    go_wp2_with fail
    exact bodyPost_ret (v := .tuple #[.agg (leafC 0 false 0), .int .i64 0]) (by simp [results, Tryz.results67, go_sem, leafC]) rfl (WvP.some HF.out (by omega) (by omega) HB0.out)
  have q0 := word_not h0
  by_cases h1 : s.data.toList = [121, 101, 115]
  · have HF := Lib.hid (wordF_yes h0 h1)
    have q1 := word_lit h1
    have HB1 : Hid (Below w.heap.size w (w.alloc (.cells (leafC 1 true 0) 29))) := (Below.refl _ _).alloc (Nat.le_refl _) _
    clear h0 h1
    go_enter Tryz.func67, Tryz.ntmps67
    go_wp2_with fail
    exact bodyPost_ret (v := .tuple #[.agg (leafC 1 true 0), .int .i64 0]) (by simp [results, Tryz.results67, go_sem, leafC]) rfl (WvP.some HF.out (by omega) (by omega) HB1.out)
  have q1 := word_not h1
  by_cases h2 : s.data.toList = [110, 111]
  · have HF := Lib.hid (wordF_no h0 h1 h2)
    have q2 := word_lit h2
    have HB1 : Hid (Below w.heap.size w (w.alloc (.cells (leafC 1 false 0) 29))) := (Below.refl _ _).alloc (Nat.le_refl _) _
    clear h0 h1 h2
    go_enter Tryz.func67, Tryz.ntmps67
    go_wp2_with fail
    exact bodyPost_ret (v := .tuple #[.agg (leafC 1 false 0), .int .i64 0]) (by simp [results, Tryz.results67, go_sem, leafC]) rfl (WvP.some HF.out (by omega) (by omega) HB1.out)
  have q2 := word_not h2
  have HL := Lib.hid (leaf_new w)
  have HI := Lib.hid (fun w => isInteger_any s w (by unfold maxLen; omega))
  cases hi : isIntL s.data.toList with
  | false =>
    have HF := Lib.hid (wordF_day h0 h1 h2 hi)
    have HR := Lib.hid (fun w => readDay_any s hs w)
    rw [hi] at HI
    have HIN : Hid (∀ n, dayF s.data.toList = some n → 0 ≤ n ∧ n ≤ 84005) := fun n h => dayF_in h
    clear h0 h1 h2 hi
    go_enter Tryz.func67, Tryz.ntmps67
    go_wp2_with (go_at_call 77; refine (HI.out _).mono ?_; rintro e w' ⟨rfl, rfl⟩)
    refine (HR.out _).mono ?_
    rintro e w2 ⟨n, z, rfl, hb, hz⟩
    have HB2 : Hid (Below w.heap.size w w2) := HB0.out.trans (hb.mono HB0.out.size)
    have HL2 : Hid (w2.heap[w.heap.size]? = some (.cells (leafC 0 false 0) 29 (0, 0))) := (hb.block _ (by simp)).trans HL.out
    have hz3 := hb.size
    simp at hz3
    obtain ⟨f0, f1, f2, f3, f4, f5⟩ := six_open HL2.out
    obtain ⟨d0, d1, d2, d3, d4, d5⟩ := six_of_block HL2.out
    have HZ := Lib.hid hz
    clear hb hz
    by_cases hz0 : z = 0
    · subst hz0
      go_wp2_with fail
      have HIN2 : Hid (wordF s.data.toList = some (leafV 4 false n) ∧ 0 ≤ n ∧ n ≤ 84005) := by
        have h1 := HZ.out
        have h2 := HF.out
        have h3 := HIN.out
        cases hd : dayF s.data.toList with
        | none => rw [hd] at h1; exact absurd rfl h1
        | some x => rw [hd] at h1 h2; obtain ⟨rfl, _⟩ := h1; exact ⟨h2, h3 _ hd⟩
      have hput := put6_at (a := .int .i64 4) (b := .bool false) (c := .int .i64 n) (d := .string ⟨#[]⟩) (e := .slice none 0 0) (f := .slice none 0 0) rfl HL2.out
      have hbel := put6_below (a := .int .i64 4) (b := .bool false) (c := .int .i64 n) (d := .string ⟨#[]⟩) (e := .slice none 0 0) (f := .slice none 0 0) HB2.out (Nat.le_refl w.heap.size)
      unfold put6 at hput hbel
      generalize hwf : World.setCell _ _ _ = wf at hput hbel ⊢
      clear hwf f0 f1 f2 f3 f4 f5 d0 d1 d2 d3 d4 d5
      obtain ⟨s0, s1, s2, s3, s4, s5⟩ := six_of_block hput
      exact bodyPost_ret (v := .tuple #[.agg (leafC 4 false n), .int .i64 0]) (by simp [results, Tryz.results67, go_sem, leafC, s0, s1, s2, s3, s4, s5]) rfl (WvP.some HIN2.out.1 (by omega) (by have := HIN2.out.2; omega) hbel)
    · have HNO : Hid (wordF s.data.toList = none) := by
        have h1 := HZ.out
        have h2 := HF.out
        cases hd : dayF s.data.toList with
        | none => rw [hd] at h2; exact h2
        | some x => rw [hd] at h1; exact absurd h1.2 hz0
      go_wp2_with fail
      have hput := put6_at (a := .int .i64 0) (b := .bool false) (c := .int .i64 0) (d := .string ⟨#[]⟩) (e := .slice none 0 0) (f := .slice none 0 0) rfl HL2.out
      have hbel := put6_below (a := .int .i64 0) (b := .bool false) (c := .int .i64 0) (d := .string ⟨#[]⟩) (e := .slice none 0 0) (f := .slice none 0 0) HB2.out (Nat.le_refl w.heap.size)
      unfold put6 at hput hbel
      generalize hwf : World.setCell _ _ _ = wf at hput hbel ⊢
      clear hwf f0 f1 f2 f3 f4 f5 d0 d1 d2 d3 d4 d5
      obtain ⟨s0, s1, s2, s3, s4, s5⟩ := six_of_block hput
      exact bodyPost_ret (v := .tuple #[.agg (leafC 0 false 0), .int .i64 z]) (by simp [results, Tryz.results67, go_sem, leafC, s0, s1, s2, s3, s4, s5]) rfl (WvP.none HNO.out hz0 hbel)
  | true =>
    have HTR := Lib.hid (fun w => Tryz.strings_TrimPrefix s ⟨#[45]⟩ w)
    have e45 : (⟨#[45]⟩ : ByteArray).data.toList = [45] := rfl
    rw [e45] at HTR
    obtain ⟨u, hu⟩ : ∃ u : ByteArray, u = ⟨(Lib.trimPrefix s.data.toList [45]).toArray⟩ := ⟨_, rfl⟩
    have hul : u.data.toList = Lib.trimPrefix s.data.toList [45] := by rw [hu]
    rw [← hu] at HTR
    have hu0 : 0 < u.size := by
      have h1 := isInt_trim s.data.toList
      rw [hi, ← hul] at h1
      rcases Nat.eq_zero_or_pos u.size with h2 | h2
      · have : u.data.toList = [] := List.eq_nil_of_length_eq_zero (by simpa using h2)
        rw [this] at h1; cases h1
      · exact h2
    have hthd := trim_head hul hu0
    have HFI := Lib.hid (wordF_int h0 h1 h2 hi)
    rw [hi] at HI
    clear hu hul h0 h1 h2 hi e45
    have hus : (0 : Int) < u.size := by omega
    by_cases hl48 : u[0].toNat = 48
    · have b48 : ((u[0].toNat : Int) == 48) = true := by rw [beq_iff_eq]; omega
      by_cases hw48 : s.data.toList = [48]
      · have q48 : (s.toList == [48]) = true := word_lit hw48
        have HLB : Hid (leadB s.data.toList = false) := by show _ = _; unfold leadB; rw [hw48]; rfl
        clear hthd hl48 hw48
        rcases HFI.out with ⟨e, _⟩ | ⟨_, e1, e2⟩ | ⟨_, n, e1, e2, e3, e4⟩
        · exact absurd (HLB.out.symm.trans e) (by decide)
        · have HNO := Lib.hid e2
          have HAT := Lib.hid (fun w hv => atoi_far s hs e1 w hv)
          clear e1 e2 HFI HLB
          go_enter Tryz.func67, Tryz.ntmps67
          go_wp2_with (first | (go_at_call 77; refine (HI.out _).mono ?_; rintro e w' ⟨rfl, rfl⟩) | (go_at_call 88; refine (HTR.out _).mono ?_; rintro e w' ⟨rfl, rfl⟩))
          refine (HAT.out _ (HEV.out _ HB0.out)).mono ?_
          rintro e w2 ⟨tp, p, rfl, hb⟩
          have HB2 : Hid (Below w.heap.size w w2) := HB0.out.trans (hb.mono HB0.out.size)
          have HL2 : Hid (w2.heap[w.heap.size]? = some (.cells (leafC 0 false 0) 29 (0, 0))) := (hb.block _ (by simp)).trans HL.out
          have hz3 := hb.size
          simp at hz3
          obtain ⟨f0, f1, f2, f3, f4, f5⟩ := six_open HL2.out
          obtain ⟨d0, d1, d2, d3, d4, d5⟩ := six_of_block HL2.out
          clear hb
          go_wp2_with fail
          have hput := put6_at (a := .int .i64 0) (b := .bool false) (c := .int .i64 0) (d := .string ⟨#[]⟩) (e := .slice none 0 0) (f := .slice none 0 0) rfl HL2.out
          have hbel := put6_below (a := .int .i64 0) (b := .bool false) (c := .int .i64 0) (d := .string ⟨#[]⟩) (e := .slice none 0 0) (f := .slice none 0 0) HB2.out (Nat.le_refl w.heap.size)
          unfold put6 at hput hbel
          generalize hwf : World.setCell _ _ _ = wf at hput hbel ⊢
          clear hwf f0 f1 f2 f3 f4 f5 d0 d1 d2 d3 d4 d5
          obtain ⟨s0, s1, s2, s3, s4, s5⟩ := six_of_block hput
          exact bodyPost_ret (v := .tuple #[.agg (leafC 0 false 0), .int .i64 2]) (by simp [results, Tryz.results67, go_sem, leafC, s0, s1, s2, s3, s4, s5]) rfl (WvP.none HNO.out (by decide) hbel)
        · have HNO := Lib.hid e2
          have HAT := Lib.hid (fun w => atoi_ok s hs n e1 w)
          clear e1 e2 HFI HLB
          go_enter Tryz.func67, Tryz.ntmps67
          go_wp2_with (first | (go_at_call 77; refine (HI.out _).mono ?_; rintro e w' ⟨rfl, rfl⟩) | (go_at_call 88; refine (HTR.out _).mono ?_; rintro e w' ⟨rfl, rfl⟩))
          refine (HAT.out _).mono ?_
          rintro e w2 ⟨rfl, hb⟩
          have HB2 : Hid (Below w.heap.size w w2) := HB0.out.trans (hb.mono HB0.out.size)
          have HL2 : Hid (w2.heap[w.heap.size]? = some (.cells (leafC 0 false 0) 29 (0, 0))) := (hb.block _ (by simp)).trans HL.out
          have hz3 := hb.size
          simp at hz3
          obtain ⟨f0, f1, f2, f3, f4, f5⟩ := six_open HL2.out
          obtain ⟨d0, d1, d2, d3, d4, d5⟩ := six_of_block HL2.out
          clear hb
          go_wp2_with fail
          have hput := put6_at (a := .int .i64 2) (b := .bool false) (c := .int .i64 n) (d := .string ⟨#[]⟩) (e := .slice none 0 0) (f := .slice none 0 0) rfl HL2.out
          have hbel := put6_below (a := .int .i64 2) (b := .bool false) (c := .int .i64 n) (d := .string ⟨#[]⟩) (e := .slice none 0 0) (f := .slice none 0 0) HB2.out (Nat.le_refl w.heap.size)
          unfold put6 at hput hbel
          generalize hwf : World.setCell _ _ _ = wf at hput hbel ⊢
          clear hwf f0 f1 f2 f3 f4 f5 d0 d1 d2 d3 d4 d5
          obtain ⟨s0, s1, s2, s3, s4, s5⟩ := six_of_block hput
          exact bodyPost_ret (v := .tuple #[.agg (leafC 2 false n), .int .i64 0]) (by simp [results, Tryz.results67, go_sem, leafC, s0, s1, s2, s3, s4, s5]) rfl (WvP.some HNO.out (by omega) ⟨e3, e4⟩ hbel)
      · have q48 : (s.toList == [48]) = false := word_not hw48
        have HLB : Hid (leadB s.data.toList = true) := by show _ = _; unfold leadB; rw [decide_eq_true (hthd.2 hl48), decide_eq_true hw48]; rfl
        clear hthd hl48 hw48
        have HNO : Hid (wordF s.data.toList = none) := by
          rcases HFI.out with ⟨_, e⟩ | ⟨e, _⟩ | ⟨e, _⟩
          · exact e
          · exact absurd (HLB.out.symm.trans e) (by decide)
          · exact absurd (HLB.out.symm.trans e) (by decide)
        go_enter Tryz.func67, Tryz.ntmps67
        go_wp2_with (first | (go_at_call 77; refine (HI.out _).mono ?_; rintro e w' ⟨rfl, rfl⟩) | (go_at_call 88; refine (HTR.out _).mono ?_; rintro e w' ⟨rfl, rfl⟩))
        exact bodyPost_ret (v := .tuple #[.agg (leafC 0 false 0), .int .i64 8]) (by simp [results, Tryz.results67, go_sem, leafC]) rfl (WvP.none HNO.out (by decide) HB0.out)
    · have b48 : ((u[0].toNat : Int) == 48) = false := by rw [beq_eq_false_iff_ne]; omega
      have HLB : Hid (leadB s.data.toList = false) := by show _ = _; unfold leadB; rw [decide_eq_false (fun e => hl48 (hthd.1 e))]; rfl
      clear hthd hl48
      rcases HFI.out with ⟨e, _⟩ | ⟨_, e1, e2⟩ | ⟨_, n, e1, e2, e3, e4⟩
      · exact absurd (HLB.out.symm.trans e) (by decide)
      · have HNO := Lib.hid e2
        have HAT := Lib.hid (fun w hv => atoi_far s hs e1 w hv)
        clear e1 e2 HFI HLB
        go_enter Tryz.func67, Tryz.ntmps67
        go_wp2_with (first | (go_at_call 77; refine (HI.out _).mono ?_; rintro e w' ⟨rfl, rfl⟩) | (go_at_call 88; refine (HTR.out _).mono ?_; rintro e w' ⟨rfl, rfl⟩))
        refine (HAT.out _ (HEV.out _ HB0.out)).mono ?_
        rintro e w2 ⟨tp, p, rfl, hb⟩
        have HB2 : Hid (Below w.heap.size w w2) := HB0.out.trans (hb.mono HB0.out.size)
        have HL2 : Hid (w2.heap[w.heap.size]? = some (.cells (leafC 0 false 0) 29 (0, 0))) := (hb.block _ (by simp)).trans HL.out
        have hz3 := hb.size
        simp at hz3
        obtain ⟨f0, f1, f2, f3, f4, f5⟩ := six_open HL2.out
        obtain ⟨d0, d1, d2, d3, d4, d5⟩ := six_of_block HL2.out
        clear hb
        go_wp2_with fail
        have hput := put6_at (a := .int .i64 0) (b := .bool false) (c := .int .i64 0) (d := .string ⟨#[]⟩) (e := .slice none 0 0) (f := .slice none 0 0) rfl HL2.out
        have hbel := put6_below (a := .int .i64 0) (b := .bool false) (c := .int .i64 0) (d := .string ⟨#[]⟩) (e := .slice none 0 0) (f := .slice none 0 0) HB2.out (Nat.le_refl w.heap.size)
        unfold put6 at hput hbel
        generalize hwf : World.setCell _ _ _ = wf at hput hbel ⊢
        clear hwf f0 f1 f2 f3 f4 f5 d0 d1 d2 d3 d4 d5
        obtain ⟨s0, s1, s2, s3, s4, s5⟩ := six_of_block hput
        exact bodyPost_ret (v := .tuple #[.agg (leafC 0 false 0), .int .i64 2]) (by simp [results, Tryz.results67, go_sem, leafC, s0, s1, s2, s3, s4, s5]) rfl (WvP.none HNO.out (by decide) hbel)
      · have HNO := Lib.hid e2
        have HAT := Lib.hid (fun w => atoi_ok s hs n e1 w)
        clear e1 e2 HFI HLB
        go_enter Tryz.func67, Tryz.ntmps67
        go_wp2_with (first | (go_at_call 77; refine (HI.out _).mono ?_; rintro e w' ⟨rfl, rfl⟩) | (go_at_call 88; refine (HTR.out _).mono ?_; rintro e w' ⟨rfl, rfl⟩))
        refine (HAT.out _).mono ?_
        rintro e w2 ⟨rfl, hb⟩
        have HB2 : Hid (Below w.heap.size w w2) := HB0.out.trans (hb.mono HB0.out.size)
        have HL2 : Hid (w2.heap[w.heap.size]? = some (.cells (leafC 0 false 0) 29 (0, 0))) := (hb.block _ (by simp)).trans HL.out
        have hz3 := hb.size
        simp at hz3
        obtain ⟨f0, f1, f2, f3, f4, f5⟩ := six_open HL2.out
        obtain ⟨d0, d1, d2, d3, d4, d5⟩ := six_of_block HL2.out
        clear hb
        go_wp2_with fail
        have hput := put6_at (a := .int .i64 2) (b := .bool false) (c := .int .i64 n) (d := .string ⟨#[]⟩) (e := .slice none 0 0) (f := .slice none 0 0) rfl HL2.out
        have hbel := put6_below (a := .int .i64 2) (b := .bool false) (c := .int .i64 n) (d := .string ⟨#[]⟩) (e := .slice none 0 0) (f := .slice none 0 0) HB2.out (Nat.le_refl w.heap.size)
        unfold put6 at hput hbel
        generalize hwf : World.setCell _ _ _ = wf at hput hbel ⊢
        clear hwf f0 f1 f2 f3 f4 f5 d0 d1 d2 d3 d4 d5
        obtain ⟨s0, s1, s2, s3, s4, s5⟩ := six_of_block hput
        exact bodyPost_ret (v := .tuple #[.agg (leafC 2 false n), .int .i64 0]) (by simp [results, Tryz.results67, go_sem, leafC, s0, s1, s2, s3, s4, s5]) rfl (WvP.some HNO.out (by omega) ⟨e3, e4⟩ hbel)
end Go.Proofs.YtejnoedlfbglcaaGreatDoor
