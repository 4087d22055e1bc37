/- lang.RuleString: an error, or a right rule's text of at most 2000 bytes. Conditions: all tests together are at most 2^21; the library's table of powers of ten is laid. -/
import Derived.Test.YtgfoangacbajlaaDoorRuU
namespace Go.Proofs.YtgfoangacbajlaaDoor
open Go.RowKit Mh
set_option linter.unusedVariables false

def RSTR (R : List T) (w : World) (e : Ending) (w' : World) : Prop :=
  (∃ n : Int, n ≠ 0 ∧ ¬ (okR R ∧ (ruleTxt R).length ≤ 2000) ∧ e = .returned (.tuple #[.string ⟨#[]⟩, .int .i64 n]) ∧ Below w.heap.size w w') ∨
  (okR R ∧ (ruleTxt R).length ≤ 2000 ∧ e = .returned (.tuple #[sv (ruleTxt R), .int .i64 0]) ∧ Below w.heap.size w w')

set_option maxRecDepth 100000 in
set_option maxHeartbeats 4000000 in
theorem rstring_any (R : List T) (fv : Value) (w : World) (h : RuAt w R fv) (hcnt : T.cnts R ≤ 2097152) (htab : Tab10 w) : Calls Tryd.prog 5 #[.agg #[fv]] w (RSTR R w) := by
  obtain ⟨si, hsi, hsz0, hsz1, hsz2⟩ := info_parts infoStr'
  have hB0 : Below w.heap.size w (w.alloc (.cells #[fv] 24)) := (Below.refl _ w).alloc (Nat.le_refl _) _
  have HRF := Lib.hid (rfault_any R fv _ (h.below hB0) hcnt)
  obtain ⟨rows, hS, hT⟩ := h
  obtain ⟨ao, c, rfl, hk⟩ := kid_at hS hT
  have HK := Lib.hid hk
  have HB0 := Lib.hid hB0
  have HTAB := Lib.hid htab
  clear hS hT hk hB0 htab hcnt
  go_enter Tryd.func5, Tryd.ntmps5
  go_wp2_with fail
  refine HRF.out.mono ?_
  rintro e w1 ⟨n, rfl, hn, hb1⟩
  have hT1 := (hb1.block w.heap.size (by simp)).trans (heap_alloc_new _ _)
  have r0 : w1.cell? ⟨w.heap.size, 0, none⟩ = some (.slice ao R.length c) := cellT hT1 rfl
  have HB1 : Hid (Below w.heap.size w w1) := HB0.out.trans (hb1.mono (by simp))
  have HN := Lib.hid hn
  clear hb1 hT1 hn
  by_cases hn0 : n = 0
  · have HOK := Lib.hid (HN.out.1 hn0)
    subst hn0
    have hlen : R.length ≤ 6 := HOK.out.1
    clear HRF HN
    have hz1 : w.heap.size ≤ w1.heap.size := HB1.out.size
    have HB1c := HB1
    go_wp2_with fail
    go_loopw [5, 17] (fun v i wr => ∃ k : Nat, k ≤ R.length ∧ i = .int .i64 k ∧ Hid (Below w.heap.size w wr) ∧ w.heap.size ≤ wr.heap.size ∧ wr.ownsRow w.heap.size 9 1 v k (((R.map T.txt).take k).map sv)) (fun _ i _ => R.length - (intOf i).toNat)
    case atStart => exact ⟨0, by omega, rfl, HB1.out, hz1, World.ownsRow_nil _ _ _ _⟩
    case round =>
      clear hz1 HB1 HB1c
      obtain ⟨k, hkk, rfl, HB, hzr, hown⟩ := hrel
      by_cases hkl : k < R.length
      · obtain ⟨b, off, a4, v4, rfl, hlt, hat, c0, c1, c2, c3, c4⟩ := HK.out k hkl
        obtain ⟨d0, d1, d2, d3, d4⟩ := kid_later HB.out hlt c0 c1 c2 c3 c4
        have hBn : Below wr.heap.size wr (wr.alloc (.cells #[.int .i64 R[k].op, .int .i64 R[k].mod, .int .i64 R[k].lo, .int .i64 R[k].hi, .slice a4 R[k].ks.length v4] 42)) := (Below.refl _ wr).alloc (Nat.le_refl _) _
        have hBn2 := HB.out.trans (hBn.mono hzr)
        have hok := HOK.out.2 R[k] (List.getElem_mem hkl)
        have HCALL := Lib.hid (text_any _ R[k] (Nat.lt_succ_self _) hok.2.2.1 hok.2.2.2 hok.1 _ _ (hat.keep hBn2) (HTAB.out.next hBn2))
        have HBn := Lib.hid hBn2
        have HOW := Lib.hid (hown.alloc (.cells #[.int .i64 R[k].op, .int .i64 R[k].mod, .int .i64 R[k].lo, .int .i64 R[k].hi, .slice a4 R[k].ks.length v4] 42))
        obtain ⟨oa, oc, rfl⟩ := ownsRow_form hown
        have HTS : Hid ((R.map T.txt).take (k + 1) = (R.map T.txt).take k ++ [T.txt R[k]]) := by
          show _ = _
          rw [List.take_succ_eq_append_getElem (by simpa using hkl)]
          simp
        unfold TxtOk sv at HCALL
        obtain ⟨S, hSS⟩ : ∃ S : ByteArray, S = ⟨(T.txt R[k]).toArray⟩ := ⟨_, rfl⟩
        rw [← hSS] at HCALL
        have HSS := Lib.hid hSS
        clear hat c0 c1 c2 c3 c4 hBn hBn2 hown hok hSS
        go_wp2_with fail
        refine HCALL.out.mono ?_
        rintro e w2 ⟨rfl, hb2⟩
        have HB2 : Hid (Below w.heap.size w w2) := HBn.out.trans (hb2.mono (by simp; omega))
        have HO2 := Lib.hid (ownsRow_keep2 HOW.out hb2)
        have hz2 : w.heap.size ≤ w2.heap.size := HB2.out.size
        clear hb2
        go_wp2_with (at_builtin; refine wpList_append1 HB2.out rfl _ _ 40 rfl 9 si (.string ⟨#[]⟩) 16 Tryd.underlying40 hsi hsz0 hsz1 hsz2 rfl _ _ _ rfl HO2.out _ rfl rfl (by unfold maxLen; omega) (by omega) (Nat.le_refl _) hz2 ?_; intro v' w' hown' hbel' hsz')
        go_roundw
        case rel => exact ⟨k + 1, by omega, by go_num, hbel', hsz', by rw [HTS.out, List.map_append]; rw [HSS.out] at hown'; exact hown'⟩
        case measure => simp [intOf]; omega
      · have eT : (R.map T.txt).take k = R.map T.txt := List.take_of_length_le (by simp; omega)
        rw [eT] at hown
        have hlj : (joinB [59, 32] (R.map T.txt)).length ≤ 10000 := by
          have h1 : (joinB [59, 32] (R.map T.txt)).length ≤ ((R.map T.txt).map fun p => p.length + 2).sum := joinB_len [59, 32] (R.map T.txt)
          have h2 : ∀ l : List T, (∀ t ∈ l, t ∈ R) → ((l.map T.txt).map fun p => p.length + 2).sum ≤ l.length * 802 := by
            intro l
            induction l with
            | nil => intro _; simp
            | cons a l ih =>
              intro h
              have h3 := ih (fun k hk => h k (by simp [hk]))
              have h4 := HOK.out.2 a (h a (by simp))
              have h5 := T.txt_len a h4.2.2.1 h4.2.2.2
              simp only [List.map_cons, List.sum_cons, List.length_cons]
              omega
          have h6 := h2 R (fun t ht => ht)
          omega
        have HJ := Lib.hid (fun v (hv : wr.ownsRow w.heap.size 9 1 v k ((R.map T.txt).map sv)) => join_any v (R.map T.txt) k ⟨#[59, 32]⟩ wr (by simp; omega) hv (by show (joinB [59, 32] _).length ≤ _; omega) (by omega))
        have HJ2 := Lib.hid (HJ.out _ hown)
        obtain ⟨oa, oc, rfl⟩ := ownsRow_form hown
        obtain ⟨J, hJ⟩ : ∃ J : ByteArray, J = ⟨(ruleTxt R).toArray⟩ := ⟨_, rfl⟩
        have hJz : J.size = (ruleTxt R).length := by rw [hJ]; show (ruleTxt R).toArray.size = _; simp
        have hJz2 : J.size ≤ 10000 := by rw [hJz]; exact hlj
        have HJ3 : Hid (Calls Tryd.prog 11 #[.slice oa k oc, .string ⟨#[59, 32]⟩] wr fun e w' => e = .returned (.string J) ∧ Below wr.heap.size wr w') := by
          rw [hJ]; exact HJ2.out
        have HJE := Lib.hid hJ
        have HJZ := Lib.hid hJz
        clear hown eT HJ HJ2 hJ hJz hlj
        by_cases hbig : 2000 < J.size
        · have q : decide ((2000 : Int) < (J.size : Int)) = true := decide_eq_true (by omega)
          have q2 : decide (2000 < J.size) = true := decide_eq_true hbig
          go_wp2_with fail
          refine HJ3.out.mono ?_
          rintro e w2 ⟨rfl, hb2⟩
          have HB2 : Hid (Below w.heap.size w w2) := HB.out.trans (hb2.mono hzr)
          clear hb2
          go_wp2_with fail
          go_ret2
          exact .inl ⟨4, by decide, fun h => by have := h.2; rw [← HJZ.out] at this; omega, rfl, HB2.out⟩
        · have q : decide ((2000 : Int) < (J.size : Int)) = false := decide_eq_false (by omega)
          have q2 : decide (2000 < J.size) = false := decide_eq_false hbig
          have HFIN : Hid (∀ w2, Below w.heap.size w w2 → RSTR R w (.returned (.tuple #[.string J, .int .i64 0])) w2) := by
            intro w2 hw2
            refine .inr ⟨HOK.out, by rw [← HJZ.out]; omega, ?_, hw2⟩
            rw [HJE.out]; rfl
          go_wp2_with fail
          refine HJ3.out.mono ?_
          rintro e w2 ⟨rfl, hb2⟩
          have HB2 : Hid (Below w.heap.size w w2) := HB.out.trans (hb2.mono hzr)
          clear hb2
          go_wp2_with fail
          go_ret2
          exact HFIN.out _ HB2.out
  · have q : (n != 0) = true := by simpa using hn0
    have HN0 := Lib.hid hn0
    clear hn0
    go_wp2_with fail
    go_ret2
    exact .inl ⟨n, HN0.out, fun h => HN0.out (HN.out.2 h.1), rfl, HB1.out⟩
end Go.Proofs.YtgfoangacbajlaaDoor
