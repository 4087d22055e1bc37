/- lang.tests, levels, testForm, testRange: what each returns. Conditions: a test has at most 2^21 tests. -/
import Derived.Test.YtdolpehcfifecaaGreatDoorProg
import Derived.Test.YtdolpehcfifecaaGreatDoorTAt
import Derived.Test.YtdolpehcfifecaaGreatDoorShp
import Derived.Outline
namespace Go.Proofs.YtdolpehcfifecaaGreatDoor
open Go.RowKit Mh
set_option linter.unusedVariables false

/-- The kids of a test, one by one. -/
theorem kid_at {w : World} {kv : Value} {ks : List T} {rows : List Value} (hS : Sl 5 w kv ks.length rows) (hT : TsAt w ks rows) :
    ∃ ao c, kv = .slice ao ks.length c ∧ ∀ k (h : k < ks.length), ∃ b off a4 c4, ao = some ⟨b, off, none⟩ ∧ b < w.heap.size ∧ TAt w ks[k] [.int .i64 ks[k].op, .int .i64 ks[k].mod, .int .i64 ks[k].lo, .int .i64 ks[k].hi, .slice a4 ks[k].ks.length c4] ∧
      w.cell? ⟨b, off + k * 5, none⟩ = some (.int .i64 ks[k].op) ∧ w.cell? ⟨b, off + k * 5 + 1, none⟩ = some (.int .i64 ks[k].mod) ∧ w.cell? ⟨b, off + k * 5 + 2, none⟩ = some (.int .i64 ks[k].lo) ∧ w.cell? ⟨b, off + k * 5 + 3, none⟩ = some (.int .i64 ks[k].hi) ∧ w.cell? ⟨b, off + k * 5 + 4, none⟩ = some (.slice a4 ks[k].ks.length c4) := by
  obtain ⟨ao, c, rfl, _, hs⟩ := Sl.shape hS
  refine ⟨ao, c, rfl, fun k h => ?_⟩
  obtain ⟨b, off, rfl, _, _, hlt, hc⟩ := hs (by omega)
  obtain ⟨c', h1, h2⟩ := TsAt.get ks rows hT k h
  obtain ⟨a4, c4, rfl⟩ := h1.five
  refine ⟨b, off, a4, c4, rfl, hlt, h1, ?_, ?_, ?_, ?_, ?_⟩
  · exact hc _ _ (h2 0 (by omega))
  · rw [Nat.add_assoc]; exact hc _ _ (h2 1 (by omega))
  · rw [Nat.add_assoc]; exact hc _ _ (h2 2 (by omega))
  · rw [Nat.add_assoc]; exact hc _ _ (h2 3 (by omega))
  · rw [Nat.add_assoc]; exact hc _ _ (h2 4 (by omega))
/-- The cells of a kid later on. -/
theorem kid_later {w wr : World} {b o : Nat} {v0 v1 v2 v3 v4 : Value} (hb : Below w.heap.size w wr) (hlt : b < w.heap.size)
    (c0 : w.cell? ⟨b, o, none⟩ = some v0) (c1 : w.cell? ⟨b, o + 1, none⟩ = some v1) (c2 : w.cell? ⟨b, o + 2, none⟩ = some v2) (c3 : w.cell? ⟨b, o + 3, none⟩ = some v3) (c4 : w.cell? ⟨b, o + 4, none⟩ = some v4) :
    wr.cell? ⟨b, o, none⟩ = some v0 ∧ wr.cell? ⟨b, o + 1, none⟩ = some v1 ∧ wr.cell? ⟨b, o + 2, none⟩ = some v2 ∧ wr.cell? ⟨b, o + 3, none⟩ = some v3 ∧ wr.cell? ⟨b, o + 4, none⟩ = some v4 :=
  ⟨(hb.cell (p := ⟨b, _, none⟩) hlt).trans c0, (hb.cell (p := ⟨b, _, none⟩) hlt).trans c1, (hb.cell (p := ⟨b, _, none⟩) hlt).trans c2, (hb.cell (p := ⟨b, _, none⟩) hlt).trans c3, (hb.cell (p := ⟨b, _, none⟩) hlt).trans c4⟩

set_option maxHeartbeats 1000000 in
theorem tests_any : ∀ (M : Nat) (X : T), SizeOf.sizeOf X < M → X.cnt ≤ 2097152 → ∀ (cs : List Value) (w : World), TAt w X cs →
    Calls Tryz.prog 35 #[.agg cs.toArray] w fun e w' => e = .returned (.int .i64 (X.ts : Nat)) ∧ Below w.heap.size w w' := by
  intro M
  induction M with
  | zero => intro X h; omega
  | succ M ih =>
    rintro ⟨op, m, lo, hi, ks⟩ hX hcnt cs w h
    unfold TAt at h
    obtain ⟨kv, rfl, rows, hS, hT⟩ := h
    obtain ⟨ao, c, rfl, hk⟩ := kid_at hS hT
    have HK := Lib.hid hk
    have hlen : ks.length ≤ 2097152 := by have := T.cnts_len ks; unfold T.cnt at hcnt; omega
    have HIH : Hid (∀ k (h : k < ks.length) (cs : List Value) (w : World), TAt w ks[k] cs → Calls Tryz.prog 35 #[.agg cs.toArray] w fun e w' => e = .returned (.int .i64 (ks[k].ts : Nat)) ∧ Below w.heap.size w w') := by
      intro k h
      have hm := List.getElem_mem h
      exact ih ks[k] (by have := T.size_kid (op := op) (m := m) (lo := lo) (hi := hi) hm; omega) (by have := T.cnts_mem ks _ hm; unfold T.cnt at hcnt; omega)
    have HR : Hid (T.tsl ks 1 = (T.mk op m lo hi ks).ts) := by show _ = _; unfold T.ts; rfl
    have HC : Hid (1 + T.cnts ks ≤ 2097152) := by unfold T.cnt at hcnt; exact hcnt
    obtain ⟨R, hR⟩ : ∃ R, R = (T.mk op m lo hi ks).ts := ⟨_, rfl⟩
    rw [← hR] at HR ⊢
    clear hS hT hk ih hcnt hX hR
    go_enter Tryz.func35, Tryz.ntmps35
    go_wp2_with fail
    go_loopw [3, 9] (fun x i wr => ∃ (k n : Nat), k ≤ ks.length ∧ i = .int .i64 k ∧ x = .int .i64 n ∧ n ≤ 2097152 ∧ Hid (T.tsl (ks.drop k) n = R ∧ n + T.cnts (ks.drop k) ≤ 2097152) ∧ Hid (Below w.heap.size w wr) ∧ w.heap.size + 1 ≤ wr.heap.size) (fun _ i _ => ks.length - (intOf i).toNat)
    case atStart => exact ⟨0, 1, by omega, rfl, rfl, by omega, ⟨by rw [List.drop_zero]; exact HR.out, by rw [List.drop_zero]; exact HC.out⟩, (Below.refl _ w).alloc (Nat.le_refl _) _, by simp⟩
    case round =>
      obtain ⟨k, n, hk, rfl, rfl, hn, HI, HB, hzr⟩ := hrel
      by_cases hkl : k < ks.length
      · obtain ⟨b, off, a4, v4, rfl, hlt, hat, c0, c1, c2, c3, c4⟩ := HK.out k hkl
        obtain ⟨d0, d1, d2, d3, d4⟩ := kid_later HB.out hlt c0 c1 c2 c3 c4
        have hdr : ks.drop k = ks[k] :: ks.drop (k + 1) := List.drop_eq_getElem_cons hkl
        have hBn : Below wr.heap.size wr (wr.alloc (.cells #[.int .i64 ks[k].op, .int .i64 ks[k].mod, .int .i64 ks[k].lo, .int .i64 ks[k].hi, .slice a4 ks[k].ks.length v4] 76)) := (Below.refl _ wr).alloc (Nat.le_refl _) _
        have hBn2 := HB.out.trans (hBn.mono HB.out.size)
        have HCALL := Lib.hid (HIH.out k hkl _ _ (hat.keep hBn2))
        have hI := HI.out
        rw [hdr] at hI
        unfold T.tsl T.cnts at hI
        have hts := T.ts_le ks[k]
        by_cases hbr : 20 < n
        · have HF : Hid (n = R) := by have := hI.1; rw [if_pos hbr] at this; exact this
          have q : decide ((20 : Int) < (n : Int)) = true := decide_eq_true (by omega)
          have q2 : decide (20 < n) = true := decide_eq_true hbr
          have HB2 := Lib.hid hBn2
          clear hI hdr hBn hBn2 c0 c1 c2 c3 c4 hat HI hts
          go_wp2_with fail
          go_ret
          exact ⟨by rw [HF.out]; rfl, HB2.out⟩
        · have HF : Hid (T.tsl (ks.drop (k + 1)) (n + ks[k].ts) = R ∧ n + ks[k].ts + T.cnts (ks.drop (k + 1)) ≤ 2097152) := by
            refine ⟨?_, by omega⟩
            have := hI.1; rw [if_neg hbr] at this; exact this
          have q : decide ((20 : Int) < (n : Int)) = false := decide_eq_false (by omega)
          have q2 : decide (20 < n) = false := decide_eq_false hbr
          have hnt : n + ks[k].ts ≤ 2097152 := by omega
          obtain ⟨t, ht⟩ : ∃ t, t = ks[k].ts := ⟨_, rfl⟩
          rw [← ht] at HCALL HF hnt
          have HB2 := Lib.hid hBn2
          clear hI hdr hBn hBn2 c0 c1 c2 c3 c4 hat HI hts ht
          go_wp2_with fail
          refine HCALL.out.mono ?_
          rintro e w2 ⟨rfl, hb2⟩
          have HB3 : Hid (Below w.heap.size w w2) := HB2.out.trans (hb2.mono HB2.out.size)
          have hz3 : w.heap.size + 1 ≤ w2.heap.size := by have := hb2.size; simp at this; omega
          clear hb2
          go_wp2_with fail
          go_roundw
          case rel => exact ⟨k + 1, n + t, by omega, by go_num, by go_num, hnt, HF, HB3, hz3⟩
          case measure => simp [intOf]; omega
      · have HF : Hid (n = R) := by have := HI.out.1; rw [List.drop_eq_nil_of_le (by omega)] at this; unfold T.tsl at this; exact this
        go_wp2_with fail
        go_ret
        exact ⟨by rw [HF.out]; rfl, HB.out⟩

set_option maxHeartbeats 1000000 in
theorem levels_any : ∀ (M : Nat) (X : T), SizeOf.sizeOf X < M → X.cnt ≤ 2097152 → ∀ (cs : List Value) (w : World), TAt w X cs →
    Calls Tryz.prog 36 #[.agg cs.toArray] w fun e w' => e = .returned (.int .i64 (X.lev : Nat)) ∧ Below w.heap.size w w' := by
  intro M
  induction M with
  | zero => intro X h; omega
  | succ M ih =>
    rintro ⟨op, m, lo, hi, ks⟩ hX hcnt cs w h
    unfold TAt at h
    obtain ⟨kv, rfl, rows, hS, hT⟩ := h
    obtain ⟨ao, c, rfl, hk⟩ := kid_at hS hT
    have HK := Lib.hid hk
    have hlen : ks.length ≤ 2097152 := by have := T.cnts_len ks; unfold T.cnt at hcnt; omega
    have HIH : Hid (∀ k (h : k < ks.length) (cs : List Value) (w : World), TAt w ks[k] cs → Calls Tryz.prog 36 #[.agg cs.toArray] w fun e w' => e = .returned (.int .i64 (ks[k].lev : Nat)) ∧ Below w.heap.size w w') := by
      intro k h
      have hm := List.getElem_mem h
      exact ih ks[k] (by have := T.size_kid (op := op) (m := m) (lo := lo) (hi := hi) hm; omega) (by have := T.cnts_mem ks _ hm; unfold T.cnt at hcnt; omega)
    have HL : Hid (∀ k (h : k < ks.length), ks[k].lev ≤ 2097152) := fun k h => by
      have := T.cnts_mem ks _ (List.getElem_mem h); have := T.lev_le ks[k]; unfold T.cnt at hcnt; omega
    have HR : Hid ((T.mk op m lo hi ks).lev = T.levs ks + 1) := by show _ = _; unfold T.lev; rfl
    have hRb : T.levs ks ≤ 2097152 := by have := T.levs_le ks; unfold T.cnt at hcnt; omega
    obtain ⟨R, hR⟩ : ∃ R, R = T.levs ks := ⟨_, rfl⟩
    rw [HR.out, ← hR]
    rw [← hR] at hRb
    have HRR := Lib.hid hR
    clear hS hT hk ih hcnt hX hR HR
    go_enter Tryz.func36, Tryz.ntmps36
    go_wp2_with fail
    go_loopw [3, 9] (fun x i wr => ∃ (k n : Nat), k ≤ ks.length ∧ i = .int .i64 k ∧ x = .int .i64 n ∧ n ≤ 2097152 ∧ Hid (max n (T.levs (ks.drop k)) = R) ∧ Hid (Below w.heap.size w wr) ∧ w.heap.size + 1 ≤ wr.heap.size) (fun _ i _ => ks.length - (intOf i).toNat)
    case atStart => exact ⟨0, 0, by omega, rfl, rfl, by omega, by show _ = _; rw [List.drop_zero, HRR.out]; exact Nat.zero_max _, (Below.refl _ w).alloc (Nat.le_refl _) _, by simp⟩
    case round =>
      obtain ⟨k, n, hk, rfl, rfl, hn, HI, HB, hzr⟩ := hrel
      by_cases hkl : k < ks.length
      · obtain ⟨b, off, a4, v4, rfl, hlt, hat, c0, c1, c2, c3, c4⟩ := HK.out k hkl
        obtain ⟨d0, d1, d2, d3, d4⟩ := kid_later HB.out hlt c0 c1 c2 c3 c4
        have hdr : ks.drop k = ks[k] :: ks.drop (k + 1) := List.drop_eq_getElem_cons hkl
        have hBn : Below wr.heap.size wr (wr.alloc (.cells #[.int .i64 ks[k].op, .int .i64 ks[k].mod, .int .i64 ks[k].lo, .int .i64 ks[k].hi, .slice a4 ks[k].ks.length v4] 76)) := (Below.refl _ wr).alloc (Nat.le_refl _) _
        have hBn2 := HB.out.trans (hBn.mono HB.out.size)
        have HCALL := Lib.hid (HIH.out k hkl _ _ (hat.keep hBn2))
        have hI := HI.out
        rw [hdr] at hI
        unfold T.levs at hI
        have hl := HL.out k hkl
        have HF : Hid (max (max n ks[k].lev) (T.levs (ks.drop (k + 1))) = R) := by show _ = _; rw [Nat.max_assoc]; exact hI
        obtain ⟨t, ht⟩ : ∃ t, t = ks[k].lev := ⟨_, rfl⟩
        rw [← ht] at HCALL HF hl
        have hmax : max (n : Int) (t : Int) = ((max n t : Nat) : Int) := by omega
        have hmb : max n t ≤ 2097152 := by omega
        have HB2 := Lib.hid hBn2
        clear hI hdr hBn hBn2 c0 c1 c2 c3 c4 hat HI ht
        go_wp2_with fail
        refine HCALL.out.mono ?_
        rintro e w2 ⟨rfl, hb2⟩
        have HB3 : Hid (Below w.heap.size w w2) := HB2.out.trans (hb2.mono HB2.out.size)
        have hz3 : w.heap.size + 1 ≤ w2.heap.size := by have := hb2.size; simp at this; omega
        clear hb2
        go_wp2_with fail
        go_roundw
        case rel => exact ⟨k + 1, max n t, by omega, by go_num, by first | rfl | (rw [hmax]), hmb, HF, HB3, hz3⟩
        case measure => simp [intOf]; omega
      · have HF : Hid (n = R) := by have := HI.out; rw [List.drop_eq_nil_of_le (by omega)] at this; unfold T.levs at this; rw [Nat.max_zero] at this; exact this
        go_wp2_with fail
        go_ret
        exact ⟨by rw [HF.out]; rfl, HB.out⟩
end Go.Proofs.YtdolpehcfifecaaGreatDoor
