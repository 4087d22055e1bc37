/- asset.tokensFault, needed. Conditions: where the tokens lie; how many there are. -/
import Derived.Test.YtckinhebbhflgaaTkL
import Derived.RegionTactic
import Derived.ChangeAlike
namespace Go.Proofs.Ytckinhebbhflgaa
open Go.RowKit Mh
set_option linter.unusedVariables false

def okT (t : Tk) : Prop := 1 ≤ t.kind ∧ t.kind ≤ 4 ∧ t.text ≠ [] ∧ (t.kind = 4 → t.text = [32])
theorem goodT.ok {sc : Bool} {t : Tk} (h : goodT sc t) : okT t := by
  rcases h with ⟨h1, h2, _⟩ | ⟨h1, q, b, h2, _⟩ | ⟨h1, c, h2, _⟩ | ⟨h1, h2⟩
  · exact ⟨by omega, by omega, h2, fun h => by omega⟩
  · exact ⟨by omega, by omega, by rw [h2]; simp, fun h => by omega⟩
  · exact ⟨by omega, by omega, by rw [h2]; simp, fun h => by omega⟩
  · exact ⟨by omega, by omega, by rw [h2]; simp, fun _ => h2⟩
theorem cat_append (a b : List Tk) : cat (a ++ b) = cat a ++ cat b := by
  induction a with
  | nil => rfl
  | cons t a ih => rw [List.cons_append, cat_cons, cat_cons, ih, List.append_assoc]
theorem cat_take_le (l : List Tk) (k : Nat) : (cat (l.take k)).length ≤ (cat l).length := by
  have h : cat l = cat (l.take k) ++ cat (l.drop k) := by rw [← cat_append, List.take_append_drop]
  rw [h, List.length_append]
  omega
set_option maxRecDepth 100000 in
set_option maxHeartbeats 4000000 in
theorem fault_ok (l : List Tk) (v : Value) (w : World) (h : Sl 2 w v l.length (rowsT l)) (hl : l.length ≤ 20000) (hc : (cat l).length ≤ 200000) (hok : ∀ t ∈ l, okT t) :
    Calls Try.prog 16 #[v] w fun e w' => e = .returned (.int .i64 0) ∧ Below w.heap.size w w' := by
  obtain ⟨ao, c, rfl, hk⟩ := tok_at h
  have HK := Lib.hid hk
  have HOK := Lib.hid hok
  have HCT : Hid (∀ k, (cat (l.take k)).length ≤ 200000) := fun k => Nat.le_trans (cat_take_le l k) hc
  clear h hk hok hc
  go_enter Try.func16, Try.ntmps16
  go_wp2_with fail
  go_loopw [3, 11] (fun x i wr => ∃ k n : Nat, k ≤ l.length ∧ i = .int .i64 k ∧ x = .int .i64 n ∧ n ≤ 200000 ∧ Hid (n = (cat (l.take k)).length) ∧ Hid (Below w.heap.size w wr)) (fun _ i _ => l.length - (intOf i).toNat)
  case atStart => exact ⟨0, 0, Nat.zero_le _, rfl, rfl, by omega, rfl, Below.refl _ _⟩
  case round =>
    obtain ⟨k, n, hk, rfl, rfl, hn, HN, HB⟩ := hrel
    have hzr := HB.out.size
    by_cases hkl : k < l.length
    · obtain ⟨b, off, rfl, hlt, c0, c1⟩ := HK.out k hkl
      have d0 := (HB.out.cell (p := ⟨b, off + k * 2, none⟩) hlt).trans c0
      have d1 := (HB.out.cell (p := ⟨b, off + k * 2 + 1, none⟩) hlt).trans c1
      obtain ⟨o1, o2, o3, o4⟩ := HOK.out _ (List.getElem_mem hkl)
      have HC1 : Hid ((cat (l.take (k + 1))).length = n + l[k].text.length) := by
        show _ = _
        rw [List.take_succ_eq_append_getElem hkl, cat_append, List.length_append, HN.out]
        simp [cat]
      have hn1 : n + l[k].text.length ≤ 200000 := by rw [← HC1.out]; exact HCT.out _
      obtain ⟨K, hK⟩ : ∃ K, K = l[k].kind := ⟨_, rfl⟩
      obtain ⟨S, hS⟩ : ∃ S : ByteArray, S = ⟨l[k].text.toArray⟩ := ⟨_, rfl⟩
      have hSz : S.size = l[k].text.length := by rw [hS]; show l[k].text.toArray.size = _; simp
      rw [← hSz] at HC1 hn1
      have HB1 : Hid (Below w.heap.size w (wr.alloc (.cells #[.int .i64 K, .string S] 33))) := HB.out.alloc hzr _
      have q1 : decide (K < 1) = false := by rw [hK]; exact decide_eq_false (by omega)
      have q2 : decide (4 < K) = false := by rw [hK]; exact decide_eq_false (by omega)
      have q3 : S.toList.isEmpty = false := by
        rw [ByteArray.toList_eq, hS]
        show l[k].text.isEmpty = false
        cases e : l[k].text with
        | nil => exact absurd e o3
        | cons a b => rfl
      rw [← hK] at d0
      rw [← hS] at d1
      by_cases h4 : K = 4
      · have hS4 : S = ⟨#[32]⟩ := by rw [hS, o4 (by rw [← hK]; exact h4)]
        subst h4
        clear c0 c1 o1 o2 o3 o4 hK hS hSz q3
        subst hS4
        go_wp2_with fail
        go_roundw
        case rel => exact ⟨k + 1, n + 1, by omega, by go_num, by go_num, hn1, HC1.out.symm, HB1⟩
        case measure => simp [intOf]; omega
      · have q4 : (K == 4) = false := beq_eq_false_iff_ne.2 h4
        clear c0 c1 o1 o2 o3 o4 hK hS hSz h4
        go_wp2_with fail
        go_roundw
        case rel => exact ⟨k + 1, n + S.size, by omega, by go_num, by go_num, hn1, HC1.out.symm, HB1⟩
        case measure => simp [intOf]; omega
    · obtain rfl : k = l.length := by omega
      have q : decide ((200000 : Int) < (n : Int)) = false := decide_eq_false (by omega)
      go_wp2_with fail
      go_ret
      exact ⟨rfl, HB.out⟩
def prevT (l : List Tk) (i : Nat) : Option Tk := if i = 0 then none else l[i - 1]?
set_option maxRecDepth 100000 in
set_option maxHeartbeats 4000000 in
theorem needed_any (kind : Int) (l : List Tk) (v : Value) (i : Nat) (hi : i < l.length) (w : World) (h : Sl 2 w v l.length (rowsT l)) (hn : l.length ≤ 1000000) :
    Calls Try.prog 31 #[.int .i64 kind, v, .int .i64 i] w fun e w' => e = .returned (.bool (needd kind (prevT l i) l[i + 1]?)) ∧ Below w.heap.size w w' := by
  obtain ⟨ao, c, rfl, hk⟩ := tok_at h
  have HK := Lib.hid hk
  clear h hk
  by_cases h0 : i = 0
  · subst h0
    have HX : Hid (needd kind (prevT l 0) l[0 + 1]? = false) := rfl
    generalize needd kind (prevT l 0) l[0 + 1]? = X at *
    go_enter Try.func31, Try.ntmps31
    go_wp2_with fail
    go_ret
    exact ⟨by rw [HX.out]; rfl, Below.refl _ _⟩
  · have q0 : ((i : Int) == 0) = false := beq_eq_false_iff_ne.2 (by omega)
    by_cases h1 : i + 1 = l.length
    · have HX : Hid (needd kind (prevT l i) l[i + 1]? = false) := by
        show _ = _
        rw [List.getElem?_eq_none (by omega)]
        cases prevT l i <;> rfl
      have q1 : ((i : Int) == (l.length : Int) - 1) = true := by rw [beq_iff_eq]; omega
      generalize needd kind (prevT l i) l[i + 1]? = X at *
      clear h1
      go_enter Try.func31, Try.ntmps31
      go_wp2_with fail
      go_ret
      exact ⟨by rw [HX.out]; rfl, Below.refl _ _⟩
    · obtain ⟨m, hm⟩ : ∃ m, m = i - 1 := ⟨_, rfl⟩
      obtain ⟨p, hp⟩ : ∃ p, p = i + 1 := ⟨_, rfl⟩
      have hm2 : m < l.length := by omega
      have hp2 : p < l.length := by omega
      have q1 : ((i : Int) == (l.length : Int) - 1) = false := beq_eq_false_iff_ne.2 (by omega)
      have a1 : (i : Int) - 1 = (m : Int) := by omega
      have a2 : (i : Int) + 1 = (p : Int) := by omega
      obtain ⟨b, off, hao, hlt, c0, c1⟩ := HK.out m hm2
      obtain ⟨b', off', hao', hlt', e0, e1⟩ := HK.out p hp2
      rw [hao] at hao'
      simp only [Option.some.injEq, Addr.mk.injEq, and_true] at hao'
      obtain ⟨rfl, rfl⟩ := hao'
      subst hao
      have HX : Hid (needd kind (prevT l i) l[i + 1]? = needd kind (some l[m]) (some l[p])) := by
        show _ = _
        unfold prevT
        rw [if_neg h0, ← hm, ← hp, List.getElem?_eq_getElem hm2, List.getElem?_eq_getElem hp2]
      generalize needd kind (prevT l i) l[i + 1]? = X at *
      obtain ⟨K1, hK1⟩ : ∃ K, K = l[m].kind := ⟨_, rfl⟩
      obtain ⟨T1, hT1⟩ : ∃ S : ByteArray, S = ⟨l[m].text.toArray⟩ := ⟨_, rfl⟩
      obtain ⟨K2, hK2⟩ : ∃ K, K = l[p].kind := ⟨_, rfl⟩
      obtain ⟨T2, hT2⟩ : ∃ S : ByteArray, S = ⟨l[p].text.toArray⟩ := ⟨_, rfl⟩
      have HX2 : Hid (X = needd kind (some ⟨K1, T1.data.toList⟩) (some ⟨K2, T2.data.toList⟩)) := by
        show _ = _
        rw [HX.out, hK1, hT1, hK2, hT2]
      rw [← hK1] at c0
      rw [← hT1] at c1
      rw [← hK2] at e0
      rw [← hT2] at e1
      clear HX hK1 hT1 hK2 hT2 h0 h1 hm hp
      go_enter Try.func31, Try.ntmps31
      go_wp2_with fail
      go_region
      · obtain ⟨W, hW⟩ : ∃ W, W = ((w.alloc (.cells #[.int .i64 K1, .string T1] 33)).alloc (.cells #[.int .i64 K2, .string T2] 33)).drew := ⟨_, rfl⟩
        rw [← hW]
        have HB : Hid (Below w.heap.size w W) := by show Below _ _ _; rw [hW]; exact (((Below.refl _ w).alloc (Nat.le_refl _) _).alloc (by simp) _).drew
        have hz : w.heap.size + 1 < W.heap.size := by rw [hW]; show _ < (World.alloc _ _).heap.size; simp
        have H0 : Hid (W.heap[w.heap.size]? = some (.cells #[.int .i64 K1, .string T1] 33 (0, 0))) := by show _ = _; rw [hW]; exact (heap_alloc_old _ _ (by simp)).trans (heap_alloc_new _ _)
        have H1 : Hid (W.heap[w.heap.size + 1]? = some (.cells #[.int .i64 K2, .string T2] 33 (0, 0))) := by show _ = _; rw [hW]; exact heap_new_at (by simp)
        have r0 : W.cell? ⟨w.heap.size, 0, none⟩ = some (.int .i64 K1) := cellT H0.out rfl
        have r1 : W.cell? ⟨w.heap.size, 1, none⟩ = some (.string T1) := cellT H0.out rfl
        have s0 : W.cell? ⟨w.heap.size + 1, 0, none⟩ = some (.int .i64 K2) := cellT H1.out rfl
        have s1 : W.cell? ⟨w.heap.size + 1, 1, none⟩ = some (.string T2) := cellT H1.out rfl
        clear hW c0 c1 e0 e1
        by_cases hk : kind = 1
        · subst hk
          have HX3 : Hid (X = (!(am ⟨K1, T1.data.toList⟩ S1) && !(am ⟨K2, T2.data.toList⟩ S2))) := HX2.out
          have HA1 := Lib.hid (fun w' => among_any K1 T1 ⟨#[123, 125, 59, 58, 44, 62]⟩ w')
          have HA2 := Lib.hid (fun w' => among_any K2 T2 ⟨#[123, 125, 59, 44, 62]⟩ w')
          have e1 : (⟨#[123, 125, 59, 58, 44, 62]⟩ : ByteArray).data.toList = S1 := rfl
          have e2 : (⟨#[123, 125, 59, 44, 62]⟩ : ByteArray).data.toList = S2 := rfl
          rw [e1] at HA1
          rw [e2] at HA2
          clear e1 e2
          generalize am ⟨K1, T1.data.toList⟩ S1 = A1 at *
          generalize am ⟨K2, T2.data.toList⟩ S2 = A2 at *
          cases A1 with
          | true =>
            go_wp2_with fail
            refine (HA1.out W).mono ?_
            rintro e w2 ⟨rfl, hb2⟩
            have HW2 : Hid (Below w.heap.size w w2) := HB.out.trans (hb2.mono (by omega))
            clear hb2
            go_wp2_with fail
            go_ret
            exact ⟨by rw [HX3.out]; rfl, HW2.out⟩
          | false =>
            go_wp2_with fail
            refine (HA1.out W).mono ?_
            rintro e w2 ⟨rfl, hb2⟩
            have HW2 : Hid (Below w.heap.size w w2) := HB.out.trans (hb2.mono (by omega))
            have u0 : w2.cell? ⟨w.heap.size + 1, 0, none⟩ = some (.int .i64 K2) := cellT ((hb2.block (w.heap.size + 1) (by omega)).trans H1.out) rfl
            have u1 : w2.cell? ⟨w.heap.size + 1, 1, none⟩ = some (.string T2) := cellT ((hb2.block (w.heap.size + 1) (by omega)).trans H1.out) rfl
            have hz2 := hb2.size
            clear hb2
            go_wp2_with fail
            refine (HA2.out w2).mono ?_
            rintro e w3 ⟨rfl, hb3⟩
            have HW3 : Hid (Below w.heap.size w w3) := HW2.out.trans (hb3.mono (by omega))
            clear hb3
            go_wp2_with fail
            go_ret
            exact ⟨by rw [HX3.out]; rfl, HW3.out⟩
        · have q : (kind == 1) = false := beq_eq_false_iff_ne.2 hk
          have HX3 : Hid (X = (decide (K1 = K2) && (decide (K1 = 1) || decide (K1 = 3)))) := by show _ = _; rw [HX2.out]; unfold needd; simp only [if_neg hk]
          clear hk
          go_wp2_with fail
          all_goals go_ret
          all_goals (refine ⟨?_, HB.out⟩; rw [HX3.out]; refine congrArg Ending.returned (congrArg Value.bool (Bool.eq_iff_iff.2 ?_)); simp <;> omega)
      · obtain ⟨W, hW⟩ : ∃ W, W = ((w.alloc (.cells #[.int .i64 K2, .string T2] 33)).alloc (.cells #[.int .i64 K1, .string T1] 33)).drew := ⟨_, rfl⟩
        rw [← hW]
        have HB : Hid (Below w.heap.size w W) := by show Below _ _ _; rw [hW]; exact (((Below.refl _ w).alloc (Nat.le_refl _) _).alloc (by simp) _).drew
        have hz : w.heap.size + 1 < W.heap.size := by rw [hW]; show _ < (World.alloc _ _).heap.size; simp
        have H0 : Hid (W.heap[w.heap.size]? = some (.cells #[.int .i64 K2, .string T2] 33 (0, 0))) := by show _ = _; rw [hW]; exact (heap_alloc_old _ _ (by simp)).trans (heap_alloc_new _ _)
        have H1 : Hid (W.heap[w.heap.size + 1]? = some (.cells #[.int .i64 K1, .string T1] 33 (0, 0))) := by show _ = _; rw [hW]; exact heap_new_at (by simp)
        have r0 : W.cell? ⟨w.heap.size + 1, 0, none⟩ = some (.int .i64 K1) := cellT H1.out rfl
        have r1 : W.cell? ⟨w.heap.size + 1, 1, none⟩ = some (.string T1) := cellT H1.out rfl
        have s0 : W.cell? ⟨w.heap.size, 0, none⟩ = some (.int .i64 K2) := cellT H0.out rfl
        have s1 : W.cell? ⟨w.heap.size, 1, none⟩ = some (.string T2) := cellT H0.out rfl
        clear hW c0 c1 e0 e1
        by_cases hk : kind = 1
        · subst hk
          have HX3 : Hid (X = (!(am ⟨K1, T1.data.toList⟩ S1) && !(am ⟨K2, T2.data.toList⟩ S2))) := HX2.out
          have HA1 := Lib.hid (fun w' => among_any K1 T1 ⟨#[123, 125, 59, 58, 44, 62]⟩ w')
          have HA2 := Lib.hid (fun w' => among_any K2 T2 ⟨#[123, 125, 59, 44, 62]⟩ w')
          have e1 : (⟨#[123, 125, 59, 58, 44, 62]⟩ : ByteArray).data.toList = S1 := rfl
          have e2 : (⟨#[123, 125, 59, 44, 62]⟩ : ByteArray).data.toList = S2 := rfl
          rw [e1] at HA1
          rw [e2] at HA2
          clear e1 e2
          generalize am ⟨K1, T1.data.toList⟩ S1 = A1 at *
          generalize am ⟨K2, T2.data.toList⟩ S2 = A2 at *
          cases A1 with
          | true =>
            go_wp2_with fail
            refine (HA1.out W).mono ?_
            rintro e w2 ⟨rfl, hb2⟩
            have HW2 : Hid (Below w.heap.size w w2) := HB.out.trans (hb2.mono (by omega))
            clear hb2
            go_wp2_with fail
            go_ret
            exact ⟨by rw [HX3.out]; rfl, HW2.out⟩
          | false =>
            go_wp2_with fail
            refine (HA1.out W).mono ?_
            rintro e w2 ⟨rfl, hb2⟩
            have HW2 : Hid (Below w.heap.size w w2) := HB.out.trans (hb2.mono (by omega))
            have u0 : w2.cell? ⟨w.heap.size, 0, none⟩ = some (.int .i64 K2) := cellT ((hb2.block (w.heap.size) (by omega)).trans H0.out) rfl
            have u1 : w2.cell? ⟨w.heap.size, 1, none⟩ = some (.string T2) := cellT ((hb2.block (w.heap.size) (by omega)).trans H0.out) rfl
            have hz2 := hb2.size
            clear hb2
            go_wp2_with fail
            refine (HA2.out w2).mono ?_
            rintro e w3 ⟨rfl, hb3⟩
            have HW3 : Hid (Below w.heap.size w w3) := HW2.out.trans (hb3.mono (by omega))
            clear hb3
            go_wp2_with fail
            go_ret
            exact ⟨by rw [HX3.out]; rfl, HW3.out⟩
        · have q : (kind == 1) = false := beq_eq_false_iff_ne.2 hk
          have HX3 : Hid (X = (decide (K1 = K2) && (decide (K1 = 1) || decide (K1 = 3)))) := by show _ = _; rw [HX2.out]; unfold needd; simp only [if_neg hk]
          clear hk
          go_wp2_with fail
          all_goals go_ret
          all_goals (refine ⟨?_, HB.out⟩; rw [HX3.out]; refine congrArg Ending.returned (congrArg Value.bool (Bool.eq_iff_iff.2 ?_)); simp <;> omega)
end Go.Proofs.Ytckinhebbhflgaa
