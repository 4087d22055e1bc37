/- asset.MapString at a right bundle. Conditions: as stated. -/
import Derived.Test.YtccmnhpkbbhomaaDoorProg
import Derived.Test.YtccmnhpkbbhomaaDoorBf
import Derived.Test.YtccmnhpkbbhomaaDoorB32
import Derived.Outline
namespace Go.Proofs.YtccmnhpkbbhomaaDoor
open Go.RowKit Mh
set_option linter.unusedVariables false

theorem all_okB {l : List UInt8} (h : partB l = true) : 1 ≤ l.length ∧ l.length ≤ 40 ∧ ∀ c ∈ l, okB (c.toNat : Int) = true := by
  unfold partB at h
  simp only [Bool.and_eq_true, decide_eq_true_eq, List.all_eq_true] at h
  exact ⟨h.1.1.1.1, h.1.1.1.2, h.2⟩
theorem pathB_bytes (l : List UInt8) (h : pathB l = true) : l ≠ [] ∧ l.length ≤ 200 ∧ (10 : UInt8) ∉ l ∧ (32 : UInt8) ∉ l := by
  unfold pathB at h
  simp only [Bool.and_eq_true, decide_eq_true_eq, List.all_eq_true] at h
  obtain ⟨h1, h2⟩ := h
  have no : ∀ c : UInt8, c ≠ 47 → okB (c.toNat : Int) = false → c ∉ l := by
    intro c hc hok hm
    rcases spl_mem 47 c l hm with h3 | ⟨p, hp, hx⟩
    · exact hc h3
    · rw [(all_okB (h2 p hp)).2.2 c hx] at hok; cases hok
  refine ⟨?_, h1, no 10 (by decide) (by decide), no 32 (by decide) (by decide)⟩
  rintro rfl
  have := (all_okB (h2 [] (by simp [spl]))).1
  simp at this

set_option maxRecDepth 100000 in
set_option maxHeartbeats 2000000 in
theorem mapString_any (P : List ByteArray) (N : List Nat) (body : ByteArray) (pv ev : Value) (w : World) (h : BG w P N body pv ev) (hg : goodL P) (hN : ∀ n ∈ N, n < 32768) (hml : ML 0 w) :
    Calls Tryd.prog 10 #[.agg #[.string body, pv, ev]] w fun e w' => e = .returned (.tuple #[.string ⟨(mapText P N).toArray⟩, .int .i64 0]) ∧ Below w.heap.size w w' := by
  have hba : Below w.heap.size w (w.alloc (.cells #[.string body, pv, ev] 27)) := (Below.refl _ w).alloc (Nat.le_refl _) _
  have hB2 := h.below hba
  have hF := Lib.hid (bf_any P N body pv ev _ hB2)
  have HPF := Lib.hid (fun w' (hb : Below w.heap.size w w') => pf_any pv P w' (h.1.below hb) (hml.below hb hml.lt))
  obtain ⟨hp, he, hpn, hn, hbs, hmx⟩ := h
  obtain ⟨pa, pc, rfl, _, hps⟩ := Sl.shape hp.1
  obtain ⟨ea, ec, rfl, _, hes⟩ := Sl.shape he
  have HP : Hid (∀ i (hi : i < P.length), ∃ b off, pa = some ⟨b, off, none⟩ ∧ b < w.heap.size ∧ w.cell? ⟨b, off + i, none⟩ = some (.string P[i])) := by
    intro i hi
    obtain ⟨b, off, e, _, _, hlt, hc⟩ := hps (by omega)
    exact ⟨b, off, e, hlt, hc i _ (by simp [hi])⟩
  have HE : Hid (∀ i (hi : i < N.length), ∃ b off, ea = some ⟨b, off, none⟩ ∧ b < w.heap.size ∧ w.cell? ⟨b, off + i, none⟩ = some (.int .i64 (sm N (i + 1) : Nat))) := by
    intro i hi
    obtain ⟨b, off, e, _, _, hlt, hc⟩ := hes (by omega)
    exact ⟨b, off, e, hlt, hc i _ (by rw [List.getElem?_map, ends_get N i hi]; rfl)⟩
  have HG := Lib.hid hg
  have HN := Lib.hid hN
  have HPN := Lib.hid hpn
  have HBA := Lib.hid hba
  have hPl : P.length ≤ 40 := by omega
  clear hp he hps hes hbs hg hN hba hB2 hml hpn
  go_enter Tryd.func10, Tryd.ntmps10
  go_wp2_with fail
  refine hF.out.mono ?_
  rintro e w1 ⟨rfl, hb1⟩
  have hT1 := (hb1.block w.heap.size (by simp)).trans (heap_alloc_new _ _)
  have c1 : w1.cell? ⟨w.heap.size, 1, none⟩ = some (.slice pa P.length pc) := cellT hT1 rfl
  have HT1 := Lib.hid hT1
  have HB1 : Hid (Below w.heap.size w w1) := HBA.out.trans (hb1.mono (by simp))
  have HZ1 : Hid (w.heap.size < w1.heap.size) := by have := hb1.size; simp at this; show _ < _; omega
  clear hb1 hT1
  go_wp2_with fail
  refine (HPF.out _ HB1.out).mono ?_
  rintro e w2 ⟨n, rfl, hn0, hb2⟩
  obtain rfl : n = 0 := hn0.2 HG.out
  have hT2 := (hb2.block w.heap.size HZ1.out).trans HT1.out
  have d1 : w2.cell? ⟨w.heap.size, 1, none⟩ = some (.slice pa P.length pc) := cellT hT2 rfl
  have d2 : w2.cell? ⟨w.heap.size, 2, none⟩ = some (.slice ea N.length ec) := cellT hT2 rfl
  have HB2 : Hid (Below w.heap.size w w2) := HB1.out.trans (hb2.mono (by have := HZ1.out; omega))
  clear hb2 hT2 hn0 c1
  go_wp2_with fail
  go_loop [6, 7, 24] (fun s x i => ∃ k : Nat, k ≤ P.length ∧ i = .int .i64 k ∧ x = .int .i64 (sm N k : Nat) ∧ s = .string ⟨(mapText (P.take k) (N.take k)).toArray⟩) (fun _ _ i => P.length - (intOf i).toNat)
  case atStart => exact ⟨0, by omega, rfl, by rw [sm_zero]; rfl, rfl⟩
  case round =>
    obtain ⟨k, hk, rfl, rfl, rfl⟩ := hrel
    by_cases hkl : k < P.length
    · have hkn : k < N.length := by have := HPN.out; omega
      obtain ⟨b, off, rfl, hlt, hc⟩ := HP.out k hkl
      obtain ⟨b', off', rfl, hlt', hc'⟩ := HE.out k hkn
      have e1 := (HB2.out.cell (p := ⟨b, off + k, none⟩) hlt).trans hc
      have e2 := (HB2.out.cell (p := ⟨b', off' + k, none⟩) hlt').trans hc'
      have hstep := sm_succ N k hkn
      have hNk := HN.out N[k] (List.getElem_mem hkn)
      have hsm : sm N (k + 1) ≤ 200000 := by have := sm_le N (k + 1) N.length (by omega); rw [sm_all N _ (Nat.le_refl _)] at this; omega
      have HTX := Lib.hid (mapText_snoc P N k hkl hkn)
      have htl := mapText_len 40 (P.take k) (N.take k) (fun q hq => by
        obtain ⟨i, hi, rfl⟩ := List.mem_iff_getElem.1 (List.mem_of_mem_take hq)
        have := (pathB_bytes _ (HG.out.1 i hi)).2.1
        simpa using this) (fun n hn => HN.out n (List.mem_of_mem_take hn)) (by rw [List.length_take]; omega)
      have hpl : P[k].size ≤ 200 := by have := (pathB_bytes _ (HG.out.1 k hkl)).2.1; simpa using this
      obtain ⟨p, hp⟩ : ∃ p, p = P[k] := ⟨_, rfl⟩
      obtain ⟨m, hm⟩ : ∃ m, m = N[k] := ⟨_, rfl⟩
      obtain ⟨s1, hs1⟩ : ∃ s1, s1 = sm N (k + 1) := ⟨_, rfl⟩
      obtain ⟨s0, hs0⟩ : ∃ s0, s0 = sm N k := ⟨_, rfl⟩
      obtain ⟨S, hS⟩ : ∃ S : ByteArray, S = ⟨(mapText (P.take k) (N.take k)).toArray⟩ := ⟨_, rfl⟩
      obtain ⟨B, hB⟩ : ∃ B : ByteArray, B = ⟨(b32 m).toArray⟩ := ⟨_, rfl⟩
      have hBl : B.size ≤ 3 := by rw [hB]; show (b32 m).toArray.size ≤ 3; simpa using (b32_len m (by rw [hm]; exact hNk)).2
      have hSl : S.size ≤ 8200 := by rw [hS]; show (mapText (P.take k) (N.take k)).toArray.size ≤ 8200; simpa using htl
      have HB32 : Hid (∀ w, Calls Tryd.prog 33 #[.int .i64 m] w fun e w' => e = .returned (.string B) ∧ w = w') := by intro w; rw [hB]; exact base32_any m w (by rw [hm]; exact hNk)
      rw [← hp] at e1 hpl
      rw [← hs1] at e2 hsm hstep
      rw [← hs0] at hstep
      rw [← hm] at hstep
      rw [← hs0, ← hS]
      have hsub : (s1 : Int) - (s0 : Int) = (m : Int) := by omega
      have HR : Hid ((⟨(mapText (P.take (k + 1)) (N.take (k + 1))).toArray⟩ : ByteArray) = S ++ (p ++ ⟨#[32]⟩ ++ B ++ ⟨#[10]⟩)) := by
        refine bext ?_
        show mapText (P.take (k + 1)) (N.take (k + 1)) = _
        rw [HTX.out, hS, hB, hp, hm]
        simp [mapLine]
      have HS1 := Lib.hid hs1
      have a1 := fun w => run_string_add_sum (P := Tryd.prog) (w := w) p ⟨#[32]⟩ (by rw [show (⟨#[32]⟩ : ByteArray).size = 1 from rfl]; omega)
      have a2 := fun w => run_string_add_sum (P := Tryd.prog) (w := w) (p ++ ⟨#[32]⟩) B (by rw [ByteArray.size_append, show (⟨#[32]⟩ : ByteArray).size = 1 from rfl]; omega)
      have a3 := fun w => run_string_add_sum (P := Tryd.prog) (w := w) (p ++ ⟨#[32]⟩ ++ B) ⟨#[10]⟩ (by rw [ByteArray.size_append, ByteArray.size_append, show (⟨#[32]⟩ : ByteArray).size = 1 from rfl, show (⟨#[10]⟩ : ByteArray).size = 1 from rfl]; omega)
      have a4 := fun w => run_string_add_sum (P := Tryd.prog) (w := w) S (p ++ ⟨#[32]⟩ ++ B ++ ⟨#[10]⟩) (by rw [ByteArray.size_append, ByteArray.size_append, ByteArray.size_append, show (⟨#[32]⟩ : ByteArray).size = 1 from rfl, show (⟨#[10]⟩ : ByteArray).size = 1 from rfl]; omega)
      clear hc hc' hp hm hs1 hs0 hS hB htl hNk hBl hpl hstep
      go_wp2_with (go_at_call 33; ((with_reducible refine (HB32.out _).mono ?_); rintro e w' ⟨rfl, rfl⟩))
      go_round
      case rel => exact ⟨k + 1, by omega, by go_num, by rw [HS1.out], by rw [HR.out]⟩
      case measure => simp [intOf]; omega
    · obtain rfl : k = P.length := by omega
      have e1 : P.take P.length = P := List.take_length
      have e2 : N.take P.length = N := by rw [HPN.out]; exact List.take_length
      rw [e1, e2]
      clear e1 e2
      go_wp2_with fail
      go_ret2
      exact ⟨rfl, HB2.out⟩
end Go.Proofs.YtccmnhpkbbhomaaDoor
