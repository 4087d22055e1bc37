/- lang's reader of rules: all, at the right text: the tests read and, where they are many, the All of them. Conditions: as stated. -/
import Derived.Test.YtgfoangacbajlaaDoorRuO
namespace Go.Proofs.YtgfoangacbajlaaDoor
open Go.RowKit Mh
set_option linter.unusedVariables false

theorem tailB_len2 : ∀ l : List (List UInt8), l.length ≤ (tailB sAnd l).length
  | [] => by simp
  | p :: l => by
    have := tailB_len2 l
    have e : sAnd.length = 3 := rfl
    rw [tailB_cons]
    simp only [List.length_append, List.length_cons, e]
    omega
/-- What all reads: one test, or the All of many. -/
def allOf : List T → T
  | [k] => k
  | ks => .mk 2 0 0 0 ks
theorem allOf_many : ∀ L : List T, 1 < L.length → allOf L = .mk 2 0 0 0 L
  | [], h => by simp at h
  | [_], h => by simp at h
  | _ :: _ :: _, _ => rfl
/-- The result's place filled. -/
theorem five_done {b : Nat} {s : ByteArray} {r : List UInt8} {w W w2 : World} (hb : b < w.heap.size) (hW : W.heap.size = w.heap.size + 1) (h0 : Kept [b] w W) (hS : SR b s r w2) (hK : Kept [b] W w2) (v0 v1 v2 v3 v4 : Value) :
    SR b s r (((((w2.setCell ⟨w.heap.size, 0, none⟩ v0).setCell ⟨w.heap.size, 1, none⟩ v1).setCell ⟨w.heap.size, 2, none⟩ v2).setCell ⟨w.heap.size, 3, none⟩ v3).setCell ⟨w.heap.size, 4, none⟩ v4) ∧
    Kept [b] w (((((w2.setCell ⟨w.heap.size, 0, none⟩ v0).setCell ⟨w.heap.size, 1, none⟩ v1).setCell ⟨w.heap.size, 2, none⟩ v2).setCell ⟨w.heap.size, 3, none⟩ v3).setCell ⟨w.heap.size, 4, none⟩ v4) ∧
    FrKept W.heap.size none w2 w.heap.size none (((((w2.setCell ⟨w.heap.size, 0, none⟩ v0).setCell ⟨w.heap.size, 1, none⟩ v1).setCell ⟨w.heap.size, 2, none⟩ v2).setCell ⟨w.heap.size, 3, none⟩ v3).setCell ⟨w.heap.size, 4, none⟩ v4) := by
  have hne : b ≠ w.heap.size := by omega
  refine ⟨((((hS.set _ _ _ hne).set _ _ _ hne).set _ _ _ hne).set _ _ _ hne).set _ _ _ hne, ?_, ?_⟩
  · exact (((((h0.trans hK).setNew _ _ (by simp) _).setNew _ _ (by simp) _).setNew _ _ (by simp) _).setNew _ _ (by simp) _).setNew _ _ (by simp) _
  · have st : ∀ (x : World) (o : Nat) (v : Value), FrKept W.heap.size none x W.heap.size none (x.setCell ⟨w.heap.size, o, none⟩ v) := fun x o v => FrKept.setOld x _ o v (.inl (by omega))
    exact (((((st _ _ _).trans (st _ _ _)).trans (st _ _ _)).trans (st _ _ _)).trans (st _ _ _)).trans (FrKept.wider (by omega) (by simp))
theorem SomeIn.one {b : Nat} {s : ByteArray} {w : World} {sg : List UInt8} {k : T} {r : List UInt8} {rows : List Value} {v : Value} {wr w2 : World} (h : SomeIn b s w sg itm [k] r 1 rows v wr) (hb : b < w.heap.size) (hK : Kept [b] wr w2) :
    ∃ g c a' c', v = .slice (some ⟨g, 0, none⟩) 1 c ∧ w.heap.size ≤ g ∧ g < w2.heap.size ∧ w2.cell? ⟨g, 0, none⟩ = some (.int .i64 k.op) ∧ w2.cell? ⟨g, 1, none⟩ = some (.int .i64 k.mod) ∧ w2.cell? ⟨g, 2, none⟩ = some (.int .i64 k.lo) ∧ w2.cell? ⟨g, 3, none⟩ = some (.int .i64 k.hi) ∧
      w2.cell? ⟨g, 4, none⟩ = some (.slice a' k.ks.length c') ∧ TAt (fresh w.heap.size none w2) k [.int .i64 k.op, .int .i64 k.mod, .int .i64 k.lo, .int .i64 k.hi, .slice a' k.ks.length c'] := by
  obtain ⟨h1, h2, h3, h4, h5, h6⟩ := h
  have h4 := ((FrKept.of_kept hK hb).trans (FrKept.drop w2)).tsat _ _ h4
  have h3 := own_kept h3 hK hb
  simp only [List.take_succ_cons, List.take_zero] at h4
  unfold TsAt at h4
  obtain ⟨c, q, rfl, hc, hT, hq⟩ := h4
  unfold TsAt at hq
  subst hq
  obtain ⟨a', c', rfl⟩ := hT.five
  rw [List.append_nil] at h3
  rcases h3.2 with ⟨_, h0⟩ | ⟨g, cap, cur, rfl, hbg, hg, hnc, hcm, hcs, htake⟩
  · omega
  · have hc : ∀ i u, [Value.int .i64 k.op, .int .i64 k.mod, .int .i64 k.lo, .int .i64 k.hi, .slice a' k.ks.length c'][i]? = some u → w2.cell? ⟨g, i, none⟩ = some u := by
      intro i u hu
      rw [cell_of_row _ _ _ _ _ _ hg]
      rw [← htake, List.getElem?_take] at hu
      split at hu
      · simpa using hu
      · cases hu
    exact ⟨g, cap, a', c', rfl, hbg, (Array.getElem?_eq_some_iff.1 hg).1, hc 0 _ rfl, hc 1 _ rfl, hc 2 _ rfl, hc 3 _ rfl, hc 4 _ rfl, hT⟩

set_option maxRecDepth 100000 in
set_option maxHeartbeats 4000000 in
theorem all_walk (N : Nat) (hsg : SingleOk N) (k : T) (ks : List T) (hk : ∀ x ∈ k :: ks, SizeOf.sizeOf x < N ∧ x.form = true ∧ x.rng = true ∧ x.op ≠ 2) (nn B : Bool) (hn : ks = [] → B = true → nn = true) (b : Nat) (s : ByteArray) (r : List UInt8) (w : World)
    (hs : s.size ≤ 2000) (hr : restA r) (hB : Lib.hasPrefix (itm k ++ (tailB sAnd (ks.map itm) ++ r)) [40] = B) (h : SR b s (itm k ++ (tailB sAnd (ks.map itm) ++ r)) w) :
    Calls Tryd.prog 41 #[.pointer (some ⟨b, 0, none⟩), .bool nn] w (GotT b s (allOf (k :: ks)) r w) := by
  obtain ⟨i0, hi, hz0, hz1, hz2⟩ := info_test
  obtain ⟨W, hW⟩ : ∃ W, W = w.alloc (.cells #[.int .i64 0, .int .i64 0, .int .i64 0, .int .i64 0, .slice none 0 0] 42) := ⟨_, rfl⟩
  have hb := h.lt
  have hWz : W.heap.size = w.heap.size + 1 := by rw [hW]; simp
  have hSW : SR b s (itm k ++ (tailB sAnd (ks.map itm) ++ r)) W := by rw [hW]; exact h.alloc _
  have HWK : Hid (Kept [b] w W) := by show Kept _ _ _; rw [hW]; exact (Kept.refl _ _).alloc _
  have HWR : Hid (W.heap[w.heap.size]? = some (.cells #[.int .i64 0, .int .i64 0, .int .i64 0, .int .i64 0, .slice none 0 0] 42 (0, 0))) := by show _ = _; rw [hW]; exact heap_alloc_new _ _
  have HI0 := Lib.hid (sr_is (sign := ⟨#[40]⟩) hSW hs B hB)
  have HR := Lib.hid hr
  have hk0 := hk k (by simp)
  have HA1 : Hid (∀ w', SR b s (itm k ++ (tailB sAnd (ks.map itm) ++ r)) w' → Calls Tryd.prog 55 #[.pointer (some ⟨b, 0, none⟩)] w' (GotT b s k (tailB sAnd (ks.map itm) ++ r) w')) :=
    fun w' h => hsg k hk0.1 hk0.2.1 hk0.2.2.1 hk0.2.2.2 b s _ w' hs (restS_and hr _) h
  have HSG := Lib.hid hsg
  have hbW : b < W.heap.size := by omega
  have HS0 := Lib.hid hSW
  have HB0 := Lib.hid hn
  clear hsg hr h hSW hB hk0 hn
  go_enter Tryd.func41, Tryd.ntmps41
  go_wp2_with fail
  rw [← hW]
  have HWW := Lib.hid hW
  clear hW
  refine HI0.out.mono ?_
  rintro e w0 ⟨rfl, hS0, hB0⟩
  have HS00 := Lib.hid hS0
  have HK00 := Lib.hid (Kept.of_below (S := [b]) hB0)
  have hz00 := hB0.size
  clear hS0 hB0
  go_wp2_with fail
  refine (HA1.out _ HS00.out).mono ?_
  rintro e w1 ⟨cs, rfl, hT, hS, hK⟩
  obtain ⟨a, c, rfl⟩ := hT.five
  have HT := Lib.hid hT
  have HS := Lib.hid hS
  have HK := Lib.hid (HK00.out.trans hK)
  have hsz := HK.out.size
  clear hT hS hK
  go_wp2_with fail
  obtain ⟨L, hL⟩ : ∃ L, L = k :: ks := ⟨_, rfl⟩
  have HLN : Hid (L.length ≤ 2001) := by
    show _ ≤ _
    obtain ⟨i, h1, h2, _⟩ := HS0.out
    have h3 := congrArg List.length h2
    have hl : s.data.toList.length = s.size := by simp
    have h4 := tailB_len2 (ks.map itm)
    simp only [List.length_drop, List.length_append, List.length_map] at h3 h4
    rw [hL, List.length_cons]
    omega
  have HL := Lib.hid hL
  have HK0 := Lib.hid hk
  have hlen2 := HLN.out
  clear hk hL
  go_loopw [6] (fun v wr => ∃ (j : Nat) (rows : List Value), j ≤ 2001 ∧ wr.ownsRow W.heap.size 42 5 v j rows ∧ Hid (SomeIn b s W sAnd itm L r j rows v wr)) (fun v _ => L.length - lenV v)
  case atStart =>
    refine ⟨1, [.int .i64 k.op, .int .i64 k.mod, .int .i64 k.lo, .int .i64 k.hi, .slice a k.ks.length c], by omega, ?own, ?hid⟩
    case own => exact ⟨rfl, .inr ⟨_, 1, _, rfl, by omega, heap_alloc_new _ _, by omega, by unfold maxLen; omega, rfl, rfl⟩⟩
    case hid =>
      refine ⟨by omega, by rw [HL.out]; simp, ⟨rfl, .inr ⟨_, 1, _, rfl, by omega, heap_alloc_new _ _, by omega, by unfold maxLen; omega, rfl, rfl⟩⟩, ?_, ?_, ?_⟩
      · rw [HL.out]; exact TsAt.one (((FrKept.wider hz00 (by simp)).trans (FrKept.newRow _ _)).tat HT.out)
      · rw [HL.out]; exact HS.out.alloc _
      · exact HK.out.alloc _
  case round =>
    obtain ⟨j, rows, hj, hown, HI⟩ := hrel
    obtain ⟨ao, ac, rfl⟩ := ownsRow_form hown
    have hzr : W.heap.size ≤ wr.heap.size := HI.out.2.2.2.2.2.size
    by_cases hlt : j < L.length
    · have hx : L[j] ∈ k :: ks := by rw [← HL.out]; exact List.getElem_mem _
      have HX : Hid (SizeOf.sizeOf L[j] < N ∧ L[j].form = true ∧ L[j].rng = true ∧ L[j].op ≠ 2) := HK0.out _ hx
      have HM := Lib.hid (sr_more_yes (sign := ⟨#[32, 38, 32]⟩) (HI.out.more hlt) hs rfl)
      have HAL : Hid (∀ w', SR b s (itm L[j] ++ (tailB sAnd ((L.drop (j + 1)).map itm) ++ r)) w' → Calls Tryd.prog 55 #[.pointer (some ⟨b, 0, none⟩)] w' (GotT b s L[j] (tailB sAnd ((L.drop (j + 1)).map itm) ++ r) w')) :=
        fun w' h => HSG.out _ HX.out.1 HX.out.2.1 HX.out.2.2.1 HX.out.2.2.2 b s _ w' hs (restS_and HR.out _) h
      obtain ⟨X, hX⟩ : ∃ X, X = L[j] := ⟨_, rfl⟩
      rw [← hX] at HM HAL
      have HXX := Lib.hid hX
      clear hX hx HX
      go_wp2_with fail
      refine HM.out.mono ?_
      rintro e w2 ⟨rfl, hS2, hK2⟩
      have HS2 := Lib.hid hS2
      have HK2 := Lib.hid hK2
      clear hS2 hK2
      go_wp2_with fail
      refine (HAL.out _ HS2.out).mono ?_
      rintro e w3 ⟨cs, rfl, hT3, hS3, hK3⟩
      obtain ⟨a', c', rfl⟩ := hT3.five
      have HT3 := Lib.hid hT3
      have HS3 := Lib.hid hS3
      have HK3 := Lib.hid (HK2.out.trans hK3)
      have hown3 := own_kept hown HK3.out hbW
      have hz3 : W.heap.size ≤ w3.heap.size := Nat.le_trans hzr HK3.out.size
      clear hT3 hS3 hK3
      go_wp2_with (at_builtin; refine wpList_append_own_at _ rfl _ _ 22 rfl W.heap.size 42 i0 (.agg #[.int .i64 0, .int .i64 0, .int .i64 0, .int .i64 0, .slice none 0 0]) 5 56 Tryd.underlying22 hi hz0 hz1 hz2 rfl (by decide) _ _ _ rfl (hown3.alloc _) ⟨w3.heap.size, 0, none⟩ 1 1 [.int .i64 X.op, .int .i64 X.mod, .int .i64 X.lo, .int .i64 X.hi, .slice a' X.ks.length c'] rfl rfl (five_cells _ _ _ _ _ _ _) (by simp [Value.oneCell']) (by unfold maxLen; omega) (by omega) (by simp; omega) ?_; intro v' w' hown' hgr hnil hat)
      go_roundw
      case rel =>
        refine ⟨j + 1, _, by omega, hown', ?_⟩
        exact HI.out.step hbW hlt HK2.out HK3.out (by rw [← HXX.out]; exact HT3.out) HS3.out hown' hgr hat
      case measure =>
        obtain ⟨x, y, e⟩ := ownsRow_form hown'
        subst e
        simp only [lenV]
        omega
    · have HMN : Hid (Calls Tryd.prog 42 #[.pointer (some ⟨b, 0, none⟩), .string ⟨#[32, 38, 32]⟩] wr fun e w' => e = .returned (.bool false) ∧ SR b s r w' ∧ Kept [b] wr w') := by
        have h5 := HI.out.2.2.2.2.1
        rw [List.drop_eq_nil_of_le (by omega)] at h5
        exact sr_more_no h5 hs rfl HR.out.2
      go_wp2_with fail
      refine HMN.out.mono ?_
      rintro e w2 ⟨rfl, hS2, hK2⟩
      have HS2 := Lib.hid hS2
      have HK2 := Lib.hid hK2
      have HDN := Lib.hid (HI.out.done hbW hlt hK2 hS2)
      have hjl : j = L.length := by have := HI.out.2.1; omega
      subst hjl
      have hR2 : w2.heap[w.heap.size]? = some (.cells #[.int .i64 0, .int .i64 0, .int .i64 0, .int .i64 0, .slice none 0 0] 42 (0, 0)) :=
        ((HI.out.2.2.2.2.2.trans hK2).block _ (by omega) (by simp; omega)).trans HWR.out
      have s0 : w2.frozen? ⟨w.heap.size, 0, none⟩ = false := frozenT hR2
      have s1 : w2.frozen? ⟨w.heap.size, 1, none⟩ = false := frozenT hR2
      have s2 : w2.frozen? ⟨w.heap.size, 2, none⟩ = false := frozenT hR2
      have s3 : w2.frozen? ⟨w.heap.size, 3, none⟩ = false := frozenT hR2
      have s4 : w2.frozen? ⟨w.heap.size, 4, none⟩ = false := frozenT hR2
      have r0 : w2.cell? ⟨w.heap.size, 0, none⟩ = some (.int .i64 0) := cellT hR2 rfl
      have r1 : w2.cell? ⟨w.heap.size, 1, none⟩ = some (.int .i64 0) := cellT hR2 rfl
      have r2 : w2.cell? ⟨w.heap.size, 2, none⟩ = some (.int .i64 0) := cellT hR2 rfl
      have r3 : w2.cell? ⟨w.heap.size, 3, none⟩ = some (.int .i64 0) := cellT hR2 rfl
      have r4 : w2.cell? ⟨w.heap.size, 4, none⟩ = some (.slice none 0 0) := cellT hR2 rfl
      clear hS2 hK2 hR2
      by_cases hone : 1 < L.length
      · have q1 : decide ((1 : Int) < (L.length : Int)) = true := decide_eq_true (by omega)
        have HF := Lib.hid (five_done (b := b) (s := s) (r := r) (w := w) (W := W) (w2 := w2) (by omega) hWz HWK.out HS2.out (HI.out.2.2.2.2.2.trans HK2.out) (.int .i64 2) (.int .i64 0) (.int .i64 0) (.int .i64 0) (.slice ao L.length ac))
        go_wp2_with fail
        refine bodyPost_ret (v := .agg #[.int .i64 2, .int .i64 0, .int .i64 0, .int .i64 0, .slice ao L.length ac]) ?_ rfl ⟨[.int .i64 2, .int .i64 0, .int .i64 0, .int .i64 0, .slice ao L.length ac], rfl, ?_, HF.out.1, HF.out.2.1⟩
        · simp [results, Tryd.results41, go_sem, r0, r1, r2, r3, r4]
        · rw [← HL.out]
          obtain ⟨v, rows', e1, e2, e3, _, _⟩ := HDN.out
          obtain rfl : v = .slice ao L.length ac := by injection e1 with e; exact e.symm
          rw [allOf_many L hone]
          unfold TAt
          exact ⟨_, rfl, rows', e2.fr HF.out.2.2, HF.out.2.2.tsat _ _ e3⟩
      · have q1 : decide ((1 : Int) < (L.length : Int)) = false := decide_eq_false (by omega)
        have c3 := HS2.out.bad
        have hks : ks = [] := by have := HL.out; rw [this, List.length_cons] at hone; exact List.length_eq_zero_iff.1 (by omega)
        have hL1 : L = [k] := by rw [HL.out, hks]
        have hnn := HB0.out hks
        have HI1 := HI.out
        rw [hL1] at HI1
        obtain ⟨g, gc, a', c', hv, hg1, hg2, g0, g1, g2, g3, g4, hTk⟩ := HI1.one hbW HK2.out
        have hlen1 : L.length = 1 := by rw [hL1]; rfl
        injection hv with hv1 hv2 hv3
        subst hv1 hv3
        clear hv2
        have HTK := Lib.hid hTk
        have HL1 := Lib.hid hL1
        have HF := Lib.hid (five_done (b := b) (s := s) (r := r) (w := w) (W := W) (w2 := w2) (by omega) hWz HWK.out HS2.out (HI.out.2.2.2.2.2.trans HK2.out) (.int .i64 k.op) (.int .i64 k.mod) (.int .i64 k.lo) (.int .i64 k.hi) (.slice a' k.ks.length c'))
        have hgw : g ≠ w.heap.size := by omega
        have hzw : w.heap.size < w2.heap.size := by omega
        clear hTk hL1 HI1
        cases B
        · go_wp2_with fail
          refine bodyPost_ret (v := .agg #[.int .i64 k.op, .int .i64 k.mod, .int .i64 k.lo, .int .i64 k.hi, .slice a' k.ks.length c']) ?_ rfl ⟨[.int .i64 k.op, .int .i64 k.mod, .int .i64 k.lo, .int .i64 k.hi, .slice a' k.ks.length c'], rfl, ?_, HF.out.1, HF.out.2.1⟩
          · simp [results, Tryd.results41, go_sem, r0, r1, r2, r3, r4]
          · rw [hks]
            exact HF.out.2.2.tat HTK.out
        · obtain rfl := hnn rfl
          go_wp2_with fail
          refine bodyPost_ret (v := .agg #[.int .i64 k.op, .int .i64 k.mod, .int .i64 k.lo, .int .i64 k.hi, .slice a' k.ks.length c']) ?_ rfl ⟨[.int .i64 k.op, .int .i64 k.mod, .int .i64 k.lo, .int .i64 k.hi, .slice a' k.ks.length c'], rfl, ?_, HF.out.1, HF.out.2.1⟩
          · simp [results, Tryd.results41, go_sem, r0, r1, r2, r3, r4]
          · rw [hks]
            exact HF.out.2.2.tat HTK.out
end Go.Proofs.YtgfoangacbajlaaDoor
