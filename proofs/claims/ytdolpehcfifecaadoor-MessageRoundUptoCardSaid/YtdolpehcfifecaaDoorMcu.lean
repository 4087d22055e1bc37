/- lang.written, MessageString, Arguments. Conditions: where the pieces lie; sums below 10^9; the library's table of powers of ten. -/
import Derived.Test.YtdolpehcfifecaaDoorMct
import Derived.Test.YtdolpehcfifecaaDoorMcl
import Derived.Test.YtdolpehcfifecaaDoorMcj
namespace Mh
open Go Go.RowKit
set_option linter.unusedVariables false
/-- What written gives. -/
def writtenF (ps : List Pc) : ByteArray × Int :=
  if formsPs false false ps = false then (⟨#[]⟩, 1) else if bytePs ps = true then (⟨#[]⟩, 9) else if twicePs ps = true then (⟨#[]⟩, 6)
  else if 12 < deepPs ps + 1 then (⟨#[]⟩, 13) else if 100 < manyPs ps then (⟨#[]⟩, 4) else if 2000 < (wrPs ps).length then (⟨#[]⟩, 4) else (⟨(wrPs ps).toArray⟩, 0)
theorem below_of_none {w w' : World} (h : w.grownBy w' none) : Below w.heap.size w w' := ⟨h.os, h.tape, h.output, h.size, fun k hk => h.block k hk (by simp)⟩
end Mh
namespace Go.Proofs.YtdolpehcfifecaaDoor
open Go.RowKit Mh
set_option linter.unusedVariables false
set_option maxRecDepth 100000 in
set_option maxHeartbeats 8000000 in
theorem gwritten_any (ps : List Pc) (pv : Value) (W0 w : World) (hps : PsIn W0 pv ps) (ht : Tab10 W0) (hb : Below W0.heap.size W0 w) (hd : deepPs ps ≤ 900000000) (hm : manyPs ps ≤ 900000000) (hw : (wrPs ps).length ≤ 1000000000) :
    Calls Tryd.prog 14 #[.agg #[pv]] w fun e w' => e = .returned (.tuple #[.string (writtenF ps).1, .int .i64 (writtenF ps).2]) ∧ Below w.heap.size w w' := by
  obtain ⟨pa, pc, hpv, hpl, _⟩ := hps.item
  have CF : Hid (∀ w', Below W0.heap.size W0 w' → Calls Tryd.prog 23 #[pv, .bool false] w' fun e w2 => e = .returned (.bool (formsPs false false ps)) ∧ Below w'.heap.size w' w2) := fun w' h => gform_any _ ps (Nat.lt_succ_self _) false pv w' (hps.keep h)
  have CB : Hid (∀ w', Below W0.heap.size W0 w' → Calls Tryd.prog 24 #[pv] w' fun e w2 => e = .returned (.bool (bytePs ps)) ∧ Below w'.heap.size w' w2) := fun w' h => gbyte_any _ ps (Nat.lt_succ_self _) pv w' (hps.keep h)
  have CT : Hid (∀ w', Below W0.heap.size W0 w' → Calls Tryd.prog 25 #[pv] w' fun e w2 => e = .returned (.bool (twicePs ps)) ∧ Below w'.heap.size w' w2) := fun w' h => gtwice_any _ ps (Nat.lt_succ_self _) pv w' (hps.keep h)
  have CD : Hid (∀ w', Below W0.heap.size W0 w' → Calls Tryd.prog 26 #[pv] w' fun e w2 => e = .returned (.int .i64 (deepPs ps + 1 : Nat)) ∧ Below w'.heap.size w' w2) := fun w' h => gdeep_any _ ps (Nat.lt_succ_self _) (by omega) pv w' (hps.keep h)
  have CM : Hid (∀ w', Below W0.heap.size W0 w' → Calls Tryd.prog 27 #[pv] w' fun e w2 => e = .returned (.int .i64 (manyPs ps : Nat)) ∧ Below w'.heap.size w' w2) := fun w' h => gmany_any _ ps (Nat.lt_succ_self _) (by omega) pv w' (hps.keep h)
  have CW : Hid (∀ w', Below W0.heap.size W0 w' → Calls Tryd.prog 28 #[.slice none 0 0, pv] w' fun e w2 => ∃ a c, e = .returned (.slice a (wrPs ps).length c) ∧ w2.ownsRow W0.heap.size 5 1 (.slice a (wrPs ps).length c) (wrPs ps).length (byteCells (wrPs ps)) ∧ Below w'.heap.size w' w2) := fun w' h => by
    refine (gwritePieces_any W0 ht _ ps (Nat.lt_succ_self _) pv hps [] (.slice none 0 0) w' h (World.ownsRow_nil _ _ _ _) (by show 0 + _ ≤ _; omega)).mono ?_
    rintro e w2 ⟨v, rfl, h2⟩
    rw [List.nil_append] at h2
    obtain ⟨a, c, rfl⟩ := ownsRow_form h2.own
    exact ⟨a, c, rfl, h2.own, below_of_none h2.grown⟩
  have HR : Hid (writtenF ps = if formsPs false false ps = false then (⟨#[]⟩, 1) else if bytePs ps = true then (⟨#[]⟩, 9) else if twicePs ps = true then (⟨#[]⟩, 6)
    else if 12 < deepPs ps + 1 then (⟨#[]⟩, 13) else if 100 < manyPs ps then (⟨#[]⟩, 4) else if 2000 < (wrPs ps).length then (⟨#[]⟩, 4) else (⟨(wrPs ps).toArray⟩, 0)) := rfl
  generalize writtenF ps = R at HR ⊢
  generalize formsPs false false ps = F0 at CF HR
  generalize bytePs ps = B0 at CB HR
  generalize twicePs ps = T0 at CT HR
  have hd1 : deepPs ps + 1 ≤ 1000000000 := by omega
  generalize deepPs ps + 1 = D0 at CD HR hd1
  generalize manyPs ps = M0 at CM HR hm
  generalize wrPs ps = L at CW HR hw
  obtain ⟨W1, hW1⟩ : ∃ W1, W1 = w.alloc (.cells #[pv] 36) := ⟨_, rfl⟩
  have hb1 : Below w.heap.size w W1 := by rw [hW1]; exact (Below.refl _ w).alloc (Nat.le_refl _) _
  have hz1 : w.heap.size < W1.heap.size := by rw [hW1]; simp
  have hbx : W1.heap[w.heap.size]? = some (.cells #[pv] 36 (0, 0)) := by rw [hW1]; exact heap_alloc_new _ _
  have HB1 := Lib.hid hb1
  have B1 : Below W0.heap.size W0 W1 := hb.trans (hb1.mono hb.size)
  have HZ := Lib.hid hb.size
  have HBX := Lib.hid hbx
  have HZ1 := Lib.hid hz1
  have x1 : W1.cell? ⟨w.heap.size, 0, none⟩ = some pv := cellT hbx rfl
  subst hpv
  clear hps ht hb hd hb1 hz1 hbx hpl
  cases F0 with
  | false =>
    have HF : Hid (R = (⟨#[]⟩, 1)) := (HR.out.trans rfl)
    clear HR
    go_enter Tryd.func14, Tryd.ntmps14
    go_upto_region 1 with fail
    rw [← hW1]
    clear hW1
    go_wp2_with (first | (go_at_call 23; refine (CF.out _ B1).mono ?_; rintro e w2 ⟨rfl, hb2⟩; have B2 : Below W0.heap.size W0 w2 := B1.trans (hb2.mono B1.size); have E2 : Hid (w2.heap[w.heap.size]? = some (.cells #[.slice pa ps.length pc] 36 (0, 0))) := (hb2.block _ HZ1.out).trans HBX.out; have G2 : Hid (Below w.heap.size w w2) := HB1.out.trans (hb2.mono HB1.out.size); have x2 : w2.cell? ⟨w.heap.size, 0, none⟩ = some (.slice pa ps.length pc) := cellT E2.out rfl; clear hb2))
    go_ret2
    exact ⟨by rw [HF.out]; rfl, G2.out⟩
  | true =>
    rw [if_neg (by simp)] at HR
    cases B0 with
    | true =>
      have HF : Hid (R = (⟨#[]⟩, 9)) := (HR.out.trans rfl)
      clear HR
      go_enter Tryd.func14, Tryd.ntmps14
      go_upto_region 1 with fail
      rw [← hW1]
      clear hW1
      go_wp2_with (first | (go_at_call 23; refine (CF.out _ B1).mono ?_; rintro e w2 ⟨rfl, hb2⟩; have B2 : Below W0.heap.size W0 w2 := B1.trans (hb2.mono B1.size); have E2 : Hid (w2.heap[w.heap.size]? = some (.cells #[.slice pa ps.length pc] 36 (0, 0))) := (hb2.block _ HZ1.out).trans HBX.out; have G2 : Hid (Below w.heap.size w w2) := HB1.out.trans (hb2.mono HB1.out.size); have x2 : w2.cell? ⟨w.heap.size, 0, none⟩ = some (.slice pa ps.length pc) := cellT E2.out rfl; clear hb2) | (go_at_call 24; refine (CB.out _ B2).mono ?_; rintro e w3 ⟨rfl, hb3⟩; have B3 : Below W0.heap.size W0 w3 := B2.trans (hb3.mono B2.size); have E3 : Hid (w3.heap[w.heap.size]? = some (.cells #[.slice pa ps.length pc] 36 (0, 0))) := (hb3.block _ (Array.getElem?_eq_some_iff.1 E2.out).1).trans E2.out; have G3 : Hid (Below w.heap.size w w3) := G2.out.trans (hb3.mono G2.out.size); have x3 : w3.cell? ⟨w.heap.size, 0, none⟩ = some (.slice pa ps.length pc) := cellT E3.out rfl; clear hb3))
      go_ret2
      exact ⟨by rw [HF.out]; rfl, G3.out⟩
    | false =>
      rw [if_neg (by simp)] at HR
      cases T0 with
      | true =>
        have HF : Hid (R = (⟨#[]⟩, 6)) := (HR.out.trans rfl)
        clear HR
        go_enter Tryd.func14, Tryd.ntmps14
        go_upto_region 1 with fail
        rw [← hW1]
        clear hW1
        go_wp2_with (first | (go_at_call 23; refine (CF.out _ B1).mono ?_; rintro e w2 ⟨rfl, hb2⟩; have B2 : Below W0.heap.size W0 w2 := B1.trans (hb2.mono B1.size); have E2 : Hid (w2.heap[w.heap.size]? = some (.cells #[.slice pa ps.length pc] 36 (0, 0))) := (hb2.block _ HZ1.out).trans HBX.out; have G2 : Hid (Below w.heap.size w w2) := HB1.out.trans (hb2.mono HB1.out.size); have x2 : w2.cell? ⟨w.heap.size, 0, none⟩ = some (.slice pa ps.length pc) := cellT E2.out rfl; clear hb2) | (go_at_call 24; refine (CB.out _ B2).mono ?_; rintro e w3 ⟨rfl, hb3⟩; have B3 : Below W0.heap.size W0 w3 := B2.trans (hb3.mono B2.size); have E3 : Hid (w3.heap[w.heap.size]? = some (.cells #[.slice pa ps.length pc] 36 (0, 0))) := (hb3.block _ (Array.getElem?_eq_some_iff.1 E2.out).1).trans E2.out; have G3 : Hid (Below w.heap.size w w3) := G2.out.trans (hb3.mono G2.out.size); have x3 : w3.cell? ⟨w.heap.size, 0, none⟩ = some (.slice pa ps.length pc) := cellT E3.out rfl; clear hb3) | (go_at_call 25; refine (CT.out _ B3).mono ?_; rintro e w4 ⟨rfl, hb4⟩; have B4 : Below W0.heap.size W0 w4 := B3.trans (hb4.mono B3.size); have E4 : Hid (w4.heap[w.heap.size]? = some (.cells #[.slice pa ps.length pc] 36 (0, 0))) := (hb4.block _ (Array.getElem?_eq_some_iff.1 E3.out).1).trans E3.out; have G4 : Hid (Below w.heap.size w w4) := G3.out.trans (hb4.mono G3.out.size); have x4 : w4.cell? ⟨w.heap.size, 0, none⟩ = some (.slice pa ps.length pc) := cellT E4.out rfl; clear hb4))
        go_ret2
        exact ⟨by rw [HF.out]; rfl, G4.out⟩
      | false =>
        rw [if_neg (by simp)] at HR
        by_cases h12 : 12 < D0
        · have a0 : decide ((12 : Int) < (D0 : Int)) = true := decide_eq_true (by omega)
          have a1 : decide (12 < D0) = true := decide_eq_true h12
          rw [if_pos h12] at HR
          clear h12
          have HF : Hid (R = (⟨#[]⟩, 13)) := (HR.out.trans rfl)
          clear HR
          go_enter Tryd.func14, Tryd.ntmps14
          go_upto_region 1 with fail
          rw [← hW1]
          clear hW1
          go_wp2_with (first | (go_at_call 23; refine (CF.out _ B1).mono ?_; rintro e w2 ⟨rfl, hb2⟩; have B2 : Below W0.heap.size W0 w2 := B1.trans (hb2.mono B1.size); have E2 : Hid (w2.heap[w.heap.size]? = some (.cells #[.slice pa ps.length pc] 36 (0, 0))) := (hb2.block _ HZ1.out).trans HBX.out; have G2 : Hid (Below w.heap.size w w2) := HB1.out.trans (hb2.mono HB1.out.size); have x2 : w2.cell? ⟨w.heap.size, 0, none⟩ = some (.slice pa ps.length pc) := cellT E2.out rfl; clear hb2) | (go_at_call 24; refine (CB.out _ B2).mono ?_; rintro e w3 ⟨rfl, hb3⟩; have B3 : Below W0.heap.size W0 w3 := B2.trans (hb3.mono B2.size); have E3 : Hid (w3.heap[w.heap.size]? = some (.cells #[.slice pa ps.length pc] 36 (0, 0))) := (hb3.block _ (Array.getElem?_eq_some_iff.1 E2.out).1).trans E2.out; have G3 : Hid (Below w.heap.size w w3) := G2.out.trans (hb3.mono G2.out.size); have x3 : w3.cell? ⟨w.heap.size, 0, none⟩ = some (.slice pa ps.length pc) := cellT E3.out rfl; clear hb3) | (go_at_call 25; refine (CT.out _ B3).mono ?_; rintro e w4 ⟨rfl, hb4⟩; have B4 : Below W0.heap.size W0 w4 := B3.trans (hb4.mono B3.size); have E4 : Hid (w4.heap[w.heap.size]? = some (.cells #[.slice pa ps.length pc] 36 (0, 0))) := (hb4.block _ (Array.getElem?_eq_some_iff.1 E3.out).1).trans E3.out; have G4 : Hid (Below w.heap.size w w4) := G3.out.trans (hb4.mono G3.out.size); have x4 : w4.cell? ⟨w.heap.size, 0, none⟩ = some (.slice pa ps.length pc) := cellT E4.out rfl; clear hb4) | (go_at_call 26; refine (CD.out _ B4).mono ?_; rintro e w5 ⟨rfl, hb5⟩; have B5 : Below W0.heap.size W0 w5 := B4.trans (hb5.mono B4.size); have E5 : Hid (w5.heap[w.heap.size]? = some (.cells #[.slice pa ps.length pc] 36 (0, 0))) := (hb5.block _ (Array.getElem?_eq_some_iff.1 E4.out).1).trans E4.out; have G5 : Hid (Below w.heap.size w w5) := G4.out.trans (hb5.mono G4.out.size); have x5 : w5.cell? ⟨w.heap.size, 0, none⟩ = some (.slice pa ps.length pc) := cellT E5.out rfl; clear hb5))
          go_ret2
          exact ⟨by rw [HF.out]; rfl, G5.out⟩
        · have a0 : decide ((12 : Int) < (D0 : Int)) = false := decide_eq_false (by omega)
          have a1 : decide (12 < D0) = false := decide_eq_false h12
          rw [if_neg h12] at HR
          by_cases h100 : 100 < M0
          · have b0 : decide ((100 : Int) < (M0 : Int)) = true := decide_eq_true (by omega)
            have b1 : decide (100 < M0) = true := decide_eq_true h100
            rw [if_pos h100] at HR
            clear h12 h100
            have HF : Hid (R = (⟨#[]⟩, 4)) := (HR.out.trans rfl)
            clear HR
            go_enter Tryd.func14, Tryd.ntmps14
            go_upto_region 1 with fail
            rw [← hW1]
            clear hW1
            go_wp2_with (first | (go_at_call 23; refine (CF.out _ B1).mono ?_; rintro e w2 ⟨rfl, hb2⟩; have B2 : Below W0.heap.size W0 w2 := B1.trans (hb2.mono B1.size); have E2 : Hid (w2.heap[w.heap.size]? = some (.cells #[.slice pa ps.length pc] 36 (0, 0))) := (hb2.block _ HZ1.out).trans HBX.out; have G2 : Hid (Below w.heap.size w w2) := HB1.out.trans (hb2.mono HB1.out.size); have x2 : w2.cell? ⟨w.heap.size, 0, none⟩ = some (.slice pa ps.length pc) := cellT E2.out rfl; clear hb2) | (go_at_call 24; refine (CB.out _ B2).mono ?_; rintro e w3 ⟨rfl, hb3⟩; have B3 : Below W0.heap.size W0 w3 := B2.trans (hb3.mono B2.size); have E3 : Hid (w3.heap[w.heap.size]? = some (.cells #[.slice pa ps.length pc] 36 (0, 0))) := (hb3.block _ (Array.getElem?_eq_some_iff.1 E2.out).1).trans E2.out; have G3 : Hid (Below w.heap.size w w3) := G2.out.trans (hb3.mono G2.out.size); have x3 : w3.cell? ⟨w.heap.size, 0, none⟩ = some (.slice pa ps.length pc) := cellT E3.out rfl; clear hb3) | (go_at_call 25; refine (CT.out _ B3).mono ?_; rintro e w4 ⟨rfl, hb4⟩; have B4 : Below W0.heap.size W0 w4 := B3.trans (hb4.mono B3.size); have E4 : Hid (w4.heap[w.heap.size]? = some (.cells #[.slice pa ps.length pc] 36 (0, 0))) := (hb4.block _ (Array.getElem?_eq_some_iff.1 E3.out).1).trans E3.out; have G4 : Hid (Below w.heap.size w w4) := G3.out.trans (hb4.mono G3.out.size); have x4 : w4.cell? ⟨w.heap.size, 0, none⟩ = some (.slice pa ps.length pc) := cellT E4.out rfl; clear hb4) | (go_at_call 26; refine (CD.out _ B4).mono ?_; rintro e w5 ⟨rfl, hb5⟩; have B5 : Below W0.heap.size W0 w5 := B4.trans (hb5.mono B4.size); have E5 : Hid (w5.heap[w.heap.size]? = some (.cells #[.slice pa ps.length pc] 36 (0, 0))) := (hb5.block _ (Array.getElem?_eq_some_iff.1 E4.out).1).trans E4.out; have G5 : Hid (Below w.heap.size w w5) := G4.out.trans (hb5.mono G4.out.size); have x5 : w5.cell? ⟨w.heap.size, 0, none⟩ = some (.slice pa ps.length pc) := cellT E5.out rfl; clear hb5) | (go_at_call 27; refine (CM.out _ B5).mono ?_; rintro e w6 ⟨rfl, hb6⟩; have B6 : Below W0.heap.size W0 w6 := B5.trans (hb6.mono B5.size); have E6 : Hid (w6.heap[w.heap.size]? = some (.cells #[.slice pa ps.length pc] 36 (0, 0))) := (hb6.block _ (Array.getElem?_eq_some_iff.1 E5.out).1).trans E5.out; have G6 : Hid (Below w.heap.size w w6) := G5.out.trans (hb6.mono G5.out.size); have x6 : w6.cell? ⟨w.heap.size, 0, none⟩ = some (.slice pa ps.length pc) := cellT E6.out rfl; clear hb6))
            go_ret2
            exact ⟨by rw [HF.out]; rfl, G6.out⟩
          · have b0 : decide ((100 : Int) < (M0 : Int)) = false := decide_eq_false (by omega)
            have b1 : decide (100 < M0) = false := decide_eq_false h100
            rw [if_neg h100] at HR
            clear h12 h100
            go_enter Tryd.func14, Tryd.ntmps14
            go_upto_region 1 with fail
            rw [← hW1]
            clear hW1
            go_upto_region 12 with (first | (go_at_call 23; refine (CF.out _ B1).mono ?_; rintro e w2 ⟨rfl, hb2⟩; have B2 : Below W0.heap.size W0 w2 := B1.trans (hb2.mono B1.size); have E2 : Hid (w2.heap[w.heap.size]? = some (.cells #[.slice pa ps.length pc] 36 (0, 0))) := (hb2.block _ HZ1.out).trans HBX.out; have G2 : Hid (Below w.heap.size w w2) := HB1.out.trans (hb2.mono HB1.out.size); have x2 : w2.cell? ⟨w.heap.size, 0, none⟩ = some (.slice pa ps.length pc) := cellT E2.out rfl; clear hb2) | (go_at_call 24; refine (CB.out _ B2).mono ?_; rintro e w3 ⟨rfl, hb3⟩; have B3 : Below W0.heap.size W0 w3 := B2.trans (hb3.mono B2.size); have E3 : Hid (w3.heap[w.heap.size]? = some (.cells #[.slice pa ps.length pc] 36 (0, 0))) := (hb3.block _ (Array.getElem?_eq_some_iff.1 E2.out).1).trans E2.out; have G3 : Hid (Below w.heap.size w w3) := G2.out.trans (hb3.mono G2.out.size); have x3 : w3.cell? ⟨w.heap.size, 0, none⟩ = some (.slice pa ps.length pc) := cellT E3.out rfl; clear hb3) | (go_at_call 25; refine (CT.out _ B3).mono ?_; rintro e w4 ⟨rfl, hb4⟩; have B4 : Below W0.heap.size W0 w4 := B3.trans (hb4.mono B3.size); have E4 : Hid (w4.heap[w.heap.size]? = some (.cells #[.slice pa ps.length pc] 36 (0, 0))) := (hb4.block _ (Array.getElem?_eq_some_iff.1 E3.out).1).trans E3.out; have G4 : Hid (Below w.heap.size w w4) := G3.out.trans (hb4.mono G3.out.size); have x4 : w4.cell? ⟨w.heap.size, 0, none⟩ = some (.slice pa ps.length pc) := cellT E4.out rfl; clear hb4) | (go_at_call 26; refine (CD.out _ B4).mono ?_; rintro e w5 ⟨rfl, hb5⟩; have B5 : Below W0.heap.size W0 w5 := B4.trans (hb5.mono B4.size); have E5 : Hid (w5.heap[w.heap.size]? = some (.cells #[.slice pa ps.length pc] 36 (0, 0))) := (hb5.block _ (Array.getElem?_eq_some_iff.1 E4.out).1).trans E4.out; have G5 : Hid (Below w.heap.size w w5) := G4.out.trans (hb5.mono G4.out.size); have x5 : w5.cell? ⟨w.heap.size, 0, none⟩ = some (.slice pa ps.length pc) := cellT E5.out rfl; clear hb5) | (go_at_call 27; refine (CM.out _ B5).mono ?_; rintro e w6 ⟨rfl, hb6⟩; have B6 : Below W0.heap.size W0 w6 := B5.trans (hb6.mono B5.size); have E6 : Hid (w6.heap[w.heap.size]? = some (.cells #[.slice pa ps.length pc] 36 (0, 0))) := (hb6.block _ (Array.getElem?_eq_some_iff.1 E5.out).1).trans E5.out; have G6 : Hid (Below w.heap.size w w6) := G5.out.trans (hb6.mono G5.out.size); have x6 : w6.cell? ⟨w.heap.size, 0, none⟩ = some (.slice pa ps.length pc) := cellT E6.out rfl; clear hb6) | (go_at_call 28; refine (CW.out _ B6).mono ?_; rintro e w7 ⟨a7, c7, rfl, hown7, hb7⟩; have HO7 := Lib.hid hown7; have G7 : Hid (Below w.heap.size w w7) := G6.out.trans (hb7.mono G6.out.size); clear hown7 hb7))
            clear x1 x2 x3 x4 x5 x6
            have hcv := run_convert_own (P := Tryd.prog) w7 62 5 Tryd.underlying62 Tryd.underlying5 HO7.out 9 Tryd.underlying9
            by_cases hl : 2000 < L.length
            · have HF : Hid (R = (⟨#[]⟩, 4)) := by show _ = _; rw [HR.out, if_pos hl]
              clear HR
              go_wp2_with fail
              go_ret2
              exact ⟨by rw [HF.out]; rfl, G7.out⟩
            · have HF : Hid (R = (⟨L.toArray⟩, 0)) := by show _ = _; rw [HR.out, if_neg hl]
              clear HR
              go_wp2_with fail
              go_ret2
              exact ⟨by rw [HF.out]; rfl, G7.out⟩
set_option maxHeartbeats 4000000 in
theorem gmessageString_any (ps : List Pc) (pv : Value) (W0 w : World) (hps : PsIn W0 pv ps) (ht : Tab10 W0) (hb : Below W0.heap.size W0 w) (hd : deepPs ps ≤ 900000000) (hm : manyPs ps ≤ 900000000) (hw : (wrPs ps).length ≤ 1000000000) :
    Calls Tryd.prog 7 #[.agg #[pv]] w fun e w' => e = .returned (.tuple #[.string (writtenF ps).1, .int .i64 (writtenF ps).2]) ∧ Below w.heap.size w w' := by
  obtain ⟨pa, pc, hpv, _⟩ := hps.item
  have hb1 : Below w.heap.size w (w.alloc (.cells #[pv] 36)) := (Below.refl _ w).alloc (Nat.le_refl _) _
  have HC := Lib.hid (gwritten_any ps pv W0 (w.alloc (.cells #[pv] 36)) hps ht (hb.trans (hb1.mono hb.size)) hd hm hw)
  have HB1 := Lib.hid hb1
  obtain ⟨s, hs⟩ : ∃ s, s = (writtenF ps).1 := ⟨_, rfl⟩
  obtain ⟨r, hr⟩ : ∃ r, r = (writtenF ps).2 := ⟨_, rfl⟩
  rw [← hs, ← hr] at HC ⊢
  subst hpv
  clear hps ht hb hd hm hw hb1 hs hr
  go_enter Tryd.func7, Tryd.ntmps7
  go_wp2_with (go_at_call 14; refine HC.out.mono ?_; rintro e w2 ⟨rfl, hb2⟩; have G2 : Hid (Below w.heap.size w w2) := HB1.out.trans (hb2.mono HB1.out.size); clear hb2)
  go_ret2
  exact ⟨rfl, G2.out⟩
set_option maxHeartbeats 4000000 in
theorem garguments_any (ps : List Pc) (pv : Value) (W0 w : World) (hps : PsIn W0 pv ps) (ht : Tab10 W0) (hb : Below W0.heap.size W0 w) (hd : deepPs ps ≤ 900000000) (hm : manyPs ps ≤ 900000000) (hw : (wrPs ps).length ≤ 1000000000) (hok : (writtenF ps).2 = 0) :
    Calls Tryd.prog 9 #[.agg #[pv]] w fun e w' => ∃ a c, e = .returned (.tuple #[.slice a (argsPs [] ps).length c, .int .i64 0]) ∧ w'.ownsRow W0.heap.size 9 1 (.slice a (argsPs [] ps).length c) (argsPs [] ps).length ((argsPs [] ps).map Value.string) ∧ Below w.heap.size w w' := by
  obtain ⟨pa, pc, hpv, _⟩ := hps.item
  obtain ⟨W1, hW1⟩ : ∃ W1, W1 = w.alloc (.cells #[pv] 36) := ⟨_, rfl⟩
  have hb1 : Below w.heap.size w W1 := by rw [hW1]; exact (Below.refl _ w).alloc (Nat.le_refl _) _
  have hbx : W1.heap[w.heap.size]? = some (.cells #[pv] 36 (0, 0)) := by rw [hW1]; exact heap_alloc_new _ _
  have hz1 : w.heap.size < W1.heap.size := by rw [hW1]; simp
  have HC := Lib.hid (gwritten_any ps pv W0 W1 hps ht (hb.trans (hb1.mono hb.size)) hd hm hw)
  rw [hok] at HC
  have HA : Hid (∀ w', Below W0.heap.size W0 w' → Calls Tryd.prog 16 #[.slice none 0 0, pv] w' fun e w2 => ∃ a c, e = .returned (.slice a (argsPs [] ps).length c) ∧ w2.ownsRow W0.heap.size 9 1 (.slice a (argsPs [] ps).length c) (argsPs [] ps).length ((argsPs [] ps).map Value.string) ∧ Below w'.heap.size w' w2) := fun w' h => by
    refine (gargs_any W0 _ ps (Nat.lt_succ_self _) pv hps [] (.slice none 0 0) w' h (World.ownsRow_nil _ _ _ _) (by show 0 + _ ≤ _; omega)).mono ?_
    rintro e w2 ⟨v, rfl, h2⟩
    obtain ⟨a, c, rfl⟩ := ownsRow_form h2.own
    exact ⟨a, c, rfl, h2.own, below_of_none h2.grown⟩
  have HB1 := Lib.hid hb1
  have HB0 := Lib.hid hb
  have HBX := Lib.hid hbx
  obtain ⟨s, hs⟩ : ∃ s, s = (writtenF ps).1 := ⟨_, rfl⟩
  rw [← hs] at HC
  generalize argsPs [] ps = L at HA ⊢
  have x1 : W1.cell? ⟨w.heap.size, 0, none⟩ = some pv := cellT hbx rfl
  subst hpv
  clear hps ht hb hd hm hw hb1 hs hok hbx
  go_enter Tryd.func9, Tryd.ntmps9
  go_upto_region 1 with fail
  rw [← hW1]
  clear hW1
  go_wp2_with (first | (go_at_call 14; refine HC.out.mono ?_; rintro e w2 ⟨rfl, hb2⟩; have E2 : Hid (w2.heap[w.heap.size]? = some (.cells #[.slice pa ps.length pc] 36 (0, 0))) := (hb2.block _ hz1).trans HBX.out; have G2 : Hid (Below w.heap.size w w2) := HB1.out.trans (hb2.mono HB1.out.size); have x2 : w2.cell? ⟨w.heap.size, 0, none⟩ = some (.slice pa ps.length pc) := cellT E2.out rfl; clear hb2) | (go_at_call 16; refine (HA.out _ (HB0.out.trans (G2.out.mono HB0.out.size))).mono ?_; rintro e w3 ⟨a3, c3, rfl, hown3, hb3⟩; have HO3 := Lib.hid hown3; have G3 : Hid (Below w.heap.size w w3) := G2.out.trans (hb3.mono G2.out.size); clear hown3 hb3))
  go_ret2
  exact ⟨_, _, rfl, HO3.out, G3.out⟩
end Go.Proofs.YtdolpehcfifecaaDoor
