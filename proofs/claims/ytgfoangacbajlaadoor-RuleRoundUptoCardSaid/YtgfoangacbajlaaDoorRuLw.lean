/- RuleRound: the walk. Conditions: all tests together are at most 2^21; the library's table of powers of ten is laid. -/
import Derived.Test.YtgfoangacbajlaaDoorRuRd
import Derived.Test.YtgfoangacbajlaaDoorRuV
import Derived.Test.YtgfoangacbajlaaDoorRuY
import Derived.Test.YtgfoangacbajlaaDoorAwG
import Derived.Outline
namespace Go.Proofs.YtgfoangacbajlaaDoor.LRule
open Go.ChangeShapes Go.WideShapes Go.ChangeAt Go.RowKit Mh
open Go.ChangeMaps (open_string shut_string)
set_option linter.unusedVariables false

theorem read_any (R : List T) (hR : okR R) (hl : (ruleTxt R).length ≤ 2000) (w : World) : Calls Tryd.prog 6 #[sv (ruleTxt R)] w (RdOk R w) := by
  match R, hR, hl with
  | [], _, _ => exact read_nil w
  | k :: ks, hR, hl => exact read_ok k ks hR ⟨(ruleTxt (k :: ks)).toArray⟩ (by show (ruleTxt (k :: ks)).toArray.size ≤ 2000; simpa using hl) rfl w

set_option maxRecDepth 100000 in
set_option maxHeartbeats 4000000 in
theorem walk (R : List T) (fv : Value) (n : Int) (h0 : -9223372036854775808 ≤ n) (h1 : n ≤ 9223372036854775807) (w : World) (h : RuAt w R fv) (hcnt : T.cnts R ≤ 2097152) (htab : Tab10 w) :
    Calls Tryd.prog 3 #[.agg #[fv], .int .i64 n] w fun e w' => e = .returned (.bool true) ∧ Below w.heap.size w w' := by
  have HA := Lib.hid (fun w' => awakeLang_any w')
  have HS := Lib.hid (fun w' (hb : Below w.heap.size w w') => rstring_any R fv w' (h.below hb) hcnt (htab.next hb))
  have HF := Lib.hid (fun w' (hb : Below w.heap.size w w') (hok : okR R) => Form_any R fv n h0 h1 w' (h.below hb) hok hcnt)
  have HQ := Lib.hid (fun qv w' (hq : RuAt w' R qv) (ht : Tab10 w') => rstring_any R qv w' hq hcnt ht)
  have HG := Lib.hid (fun qv w' (hq : RuAt w' R qv) (hok : okR R) => Form_any R qv n h0 h1 w' hq hok hcnt)
  have HT := Lib.hid htab
  have hfx : fidx R n.natAbs ≤ R.length := fidx_le R n.natAbs
  obtain ⟨rows, hSl, hTs⟩ := h
  obtain ⟨ao, c, rfl⟩ := hSl.slice
  have hB0 : Below w.heap.size w (w.alloc (.cells #[.slice ao R.length c] 24)) := (Below.refl _ w).alloc (Nat.le_refl _) _
  have HB0 := Lib.hid hB0
  clear hSl hTs htab hB0
  go_enter Tryd.func3, Tryd.ntmps3
  go_wp2_with fail
  refine (HA.out _).mono ?_
  rintro e w1 ⟨rfl, hb1⟩
  have HB1 : Hid (Below w.heap.size w w1) := HB0.out.trans (hb1.mono (by simp))
  have HR1 : Hid (w1.heap[w.heap.size]? = some (.cells #[.slice ao R.length c] 24 (0, 0))) := (hb1.block w.heap.size (by simp)).trans (heap_alloc_new _ _)
  have r1 : w1.cell? ⟨w.heap.size, 0, none⟩ = some (.slice ao R.length c) := cellT HR1.out rfl
  have hz1 : w.heap.size < w1.heap.size := by have := hb1.size; simp at this; omega
  clear hb1
  go_wp2_with fail
  refine (HS.out _ HB1.out).mono ?_
  rintro e w2 (⟨x, hx, _, rfl, hb2⟩ | ⟨hok, hlen, rfl, hb2⟩)
  · have HB2 : Hid (Below w.heap.size w w2) := HB1.out.trans (hb2.mono HB1.out.size)
    have q : (x != 0) = true := by simpa using hx
    clear hb2 hx
    go_wp2_with fail
    go_ret
    exact ⟨rfl, HB2.out⟩
  · have HB2 : Hid (Below w.heap.size w w2) := HB1.out.trans (hb2.mono HB1.out.size)
    have HR2 : Hid (w2.heap[w.heap.size]? = some (.cells #[.slice ao R.length c] 24 (0, 0))) := (hb2.block w.heap.size hz1).trans HR1.out
    have hz2 : w.heap.size < w2.heap.size := Nat.lt_of_lt_of_le hz1 hb2.size
    have HRD := Lib.hid (read_any R hok hlen w2)
    have HOK := Lib.hid hok
    have HLEN := Lib.hid hlen
    obtain ⟨S, hS⟩ : ∃ S : ByteArray, S = ⟨(ruleTxt R).toArray⟩ := ⟨_, rfl⟩
    unfold sv at HRD ⊢
    rw [← hS] at HRD ⊢
    have HSS := Lib.hid hS
    clear hb2 hok hlen hS
    go_wp2_with fail
    refine HRD.out.mono ?_
    rintro e w3 ⟨qv, rfl, hq3, hb3⟩
    have hq3' := hq3
    obtain ⟨qrows, qS, _⟩ := hq3'
    obtain ⟨qa, qc, rfl⟩ := qS.slice
    clear qS
    have HB3 : Hid (Below w.heap.size w w3) := HB2.out.trans (hb3.mono HB2.out.size)
    have HR3 : Hid (w3.heap[w.heap.size]? = some (.cells #[.slice ao R.length c] 24 (0, 0))) := (hb3.block w.heap.size hz2).trans HR2.out
    have hz3 : w.heap.size < w3.heap.size := Nat.lt_of_lt_of_le hz2 hb3.size
    have hn3 : Below w3.heap.size w3 (w3.alloc (.cells #[.slice qa R.length qc] 24)) := (Below.refl _ w3).alloc (Nat.le_refl _) _
    have HQ3 := Lib.hid (HQ.out _ _ (hq3.below hn3) ((HT.out.next HB3.out).next hn3))
    have HQR := Lib.hid hq3
    have HN3 := Lib.hid hn3
    clear hb3 hn3 hq3
    go_wp2_with fail
    refine HQ3.out.mono ?_
    rintro e w4 (⟨x, _, hx, _, _⟩ | ⟨_, _, rfl, hb4⟩)
    · exact absurd ⟨HOK.out, HLEN.out⟩ hx
    have HB4 : Hid (Below w3.heap.size w3 w4) := HN3.out.trans (hb4.mono (by simp))
    have HW4 : Hid (Below w.heap.size w w4) := HB3.out.trans (HB4.out.mono (Nat.le_of_lt hz3))
    have HR4 : Hid (w4.heap[w.heap.size]? = some (.cells #[.slice ao R.length c] 24 (0, 0))) := (HB4.out.block w.heap.size hz3).trans HR3.out
    have HQ4 : Hid (w4.heap[w3.heap.size]? = some (.cells #[.slice qa R.length qc] 24 (0, 0))) := (hb4.block w3.heap.size (by simp)).trans (heap_alloc_new _ _)
    have r4 : w4.cell? ⟨w.heap.size, 0, none⟩ = some (.slice ao R.length c) := cellT HR4.out rfl
    have hz4 : w.heap.size < w4.heap.size := Nat.lt_of_lt_of_le hz3 HB4.out.size
    have hq4 : w3.heap.size < w4.heap.size := by have := hb4.size; simp at this; omega
    have HF4 := Lib.hid (HF.out _ HW4.out HOK.out)
    unfold sv
    rw [← HSS.out]
    clear hb4
    go_wp2_with fail
    refine HF4.out.mono ?_
    rintro e w5 ⟨rfl, hb5⟩
    have HB5 : Hid (Below w3.heap.size w3 w5) := HB4.out.trans (hb5.mono HB4.out.size)
    have HW5 : Hid (Below w.heap.size w w5) := HW4.out.trans (hb5.mono (Nat.le_of_lt hz4))
    have HR5 : Hid (w5.heap[w.heap.size]? = some (.cells #[.slice ao R.length c] 24 (0, 0))) := (hb5.block w.heap.size hz4).trans HR4.out
    have q5 : w5.cell? ⟨w3.heap.size, 0, none⟩ = some (.slice qa R.length qc) := cellT ((hb5.block w3.heap.size hq4).trans HQ4.out) rfl
    have HG5 := Lib.hid (HG.out _ _ (HQR.out.below HB5.out) HOK.out)
    have hz5 : w.heap.size < w5.heap.size := Nat.lt_of_lt_of_le hz4 hb5.size
    obtain ⟨F, hF⟩ : ∃ F, F = fidx R n.natAbs := ⟨_, rfl⟩
    unfold FRM at HG5
    rw [← hF] at HG5 hfx ⊢
    clear hb5 hF
    go_wp2_with fail
    refine HG5.out.mono ?_
    rintro e w6 ⟨rfl, hb6⟩
    have HW6 : Hid (Below w.heap.size w w6) := HW5.out.trans (hb6.mono (Nat.le_of_lt hz5))
    have r6 : w6.cell? ⟨w.heap.size, 0, none⟩ = some (.slice ao R.length c) := cellT ((hb6.block w.heap.size hz5).trans HR5.out) rfl
    have t1 : (S.toList == S.toList) = true := by simp
    have t2 : ((F : Int) == (F : Int)) = true := by simp
    have t3 : decide ((0 : Int) ≤ (F : Int)) = true := decide_eq_true (by omega)
    have t4 : decide ((F : Int) ≤ (R.length : Int)) = true := decide_eq_true (by omega)
    clear hb6
    go_wp2_with fail
    go_ret
    exact ⟨rfl, HW6.out⟩
end Go.Proofs.YtgfoangacbajlaaDoor.LRule
