/- lang's reader of rules: single, at the right text. Conditions: as stated. -/
import Derived.Test.YtgfoangacbajlaaDoorRuAl
namespace Go.Proofs.YtgfoangacbajlaaDoor
open Go.RowKit Mh
set_option linter.unusedVariables false

set_option maxRecDepth 100000 in
set_option maxHeartbeats 4000000 in
theorem single_within (m lo hi : Int) (b : Nat) (s : ByteArray) (r : List UInt8) (w : World) (hg : (m = 0 ∨ 2 ≤ m ∧ m ≤ 1000000) ∧ 0 ≤ lo ∧ lo ≤ hi ∧ hi ≤ 1000000000) (hs : s.size ≤ 2000) (hr : restS r) (h : SR b s (within m lo hi ++ r) w) :
    Calls Tryd.prog 55 #[.pointer (some ⟨b, 0, none⟩)] w (GotT b s (.mk 1 m lo hi []) r w) := by
  obtain ⟨W, hW⟩ : ∃ W, W = w.alloc (.cells #[.int .i64 0, .int .i64 0, .int .i64 0, .int .i64 0, .slice none 0 0] 42) := ⟨_, rfl⟩
  have hb := h.lt
  have hWz : W.heap.size = w.heap.size + 1 := by rw [hW]; simp
  have hSW : SR b s (within m lo hi ++ r) W := by rw [hW]; exact h.alloc _
  have HWK : Hid (Kept [b] w W) := by show Kept _ _ _; rw [hW]; exact (Kept.refl _ _).alloc _
  have HWR : Hid (W.heap[w.heap.size]? = some (.cells #[.int .i64 0, .int .i64 0, .int .i64 0, .int .i64 0, .slice none 0 0] 42 (0, 0))) := by show _ = _; rw [hW]; exact heap_alloc_new _ _
  have HS0 := Lib.hid hSW
  have c3 := h.bad
  have hbne : b ≠ w.heap.size := by omega
  have HI1 : Hid (∀ w', SR b s (within m lo hi ++ r) w' → Calls Tryd.prog 13 #[.pointer (some ⟨b, 0, none⟩), .string ⟨#[40]⟩] w' fun e w2 => e = .returned (.bool false) ∧ SR b s (within m lo hi ++ r) w2 ∧ Below w'.heap.size w' w2) :=
    fun w' h => sr_is (sign := ⟨#[40]⟩) h hs false (by simp [within, Lib.hasPrefix, List.isPrefixOf])
  have HI2 : Hid (∀ w', SR b s (within m lo hi ++ r) w' → Calls Tryd.prog 13 #[.pointer (some ⟨b, 0, none⟩), .string ⟨#[33]⟩] w' fun e w2 => e = .returned (.bool false) ∧ SR b s (within m lo hi ++ r) w2 ∧ Below w'.heap.size w' w2) :=
    fun w' h => sr_is (sign := ⟨#[33]⟩) h hs false (by simp [within, Lib.hasPrefix, List.isPrefixOf])
  have HWI : Hid (∀ w', SR b s (within m lo hi ++ r) w' → Calls Tryd.prog 67 #[.pointer (some ⟨b, 0, none⟩)] w' fun e w2 => e = .returned (.agg #[.int .i64 1, .int .i64 m, .int .i64 lo, .int .i64 hi, .slice none 0 0]) ∧ SR b s r w2 ∧ Kept [b] w' w2) :=
    fun w' h => sr_within h hr.noDigit hr.noDot hs hg
  clear hr h hSW hg
  go_enter Tryd.func55, Tryd.ntmps55
  go_wp2_with fail
  rw [← hW]
  have HWW := Lib.hid hW
  clear hW c3
  refine (HI1.out _ HS0.out).mono ?_
  rintro e w1 ⟨rfl, hS1, hB1⟩
  have HS1 := Lib.hid hS1
  have HK1 := Lib.hid (Kept.of_below (S := [b]) hB1)
  clear hS1 hB1
  go_wp2_with fail
  refine (HI2.out _ HS1.out).mono ?_
  rintro e w2 ⟨rfl, hS2, hB2⟩
  have HS2 := Lib.hid hS2
  have HK2 := Lib.hid (HK1.out.trans (Kept.of_below (S := [b]) hB2))
  clear hS2 hB2
  go_wp2_with fail
  refine (HWI.out _ HS2.out).mono ?_
  rintro e w3 ⟨rfl, hS3, hK3⟩
  have HS3 := Lib.hid hS3
  have HK3 := Lib.hid (HK2.out.trans hK3)
  clear hS3 hK3
  have hR2 : w3.heap[w.heap.size]? = some (.cells #[.int .i64 0, .int .i64 0, .int .i64 0, .int .i64 0, .slice none 0 0] 42 (0, 0)) :=
    (HK3.out.block _ (by omega) (by simp; omega)).trans HWR.out
  have s0 : w3.frozen? ⟨w.heap.size, 0, none⟩ = false := frozenT hR2
  have s1 : w3.frozen? ⟨w.heap.size, 1, none⟩ = false := frozenT hR2
  have s2 : w3.frozen? ⟨w.heap.size, 2, none⟩ = false := frozenT hR2
  have s3 : w3.frozen? ⟨w.heap.size, 3, none⟩ = false := frozenT hR2
  have s4 : w3.frozen? ⟨w.heap.size, 4, none⟩ = false := frozenT hR2
  have r0 : w3.cell? ⟨w.heap.size, 0, none⟩ = some (.int .i64 0) := cellT hR2 rfl
  have r1 : w3.cell? ⟨w.heap.size, 1, none⟩ = some (.int .i64 0) := cellT hR2 rfl
  have r2 : w3.cell? ⟨w.heap.size, 2, none⟩ = some (.int .i64 0) := cellT hR2 rfl
  have r3 : w3.cell? ⟨w.heap.size, 3, none⟩ = some (.int .i64 0) := cellT hR2 rfl
  have r4 : w3.cell? ⟨w.heap.size, 4, none⟩ = some (.slice none 0 0) := cellT hR2 rfl
  have HF := Lib.hid (five_done (b := b) (s := s) (r := r) (w := w) (W := W) (w2 := w3) hb hWz HWK.out HS3.out HK3.out (.int .i64 1) (.int .i64 m) (.int .i64 lo) (.int .i64 hi) (.slice none 0 0))
  clear hR2
  go_wp2_with fail
  refine bodyPost_ret (v := .agg #[.int .i64 1, .int .i64 m, .int .i64 lo, .int .i64 hi, .slice none 0 0]) ?_ rfl ⟨[.int .i64 1, .int .i64 m, .int .i64 lo, .int .i64 hi, .slice none 0 0], rfl, ?_, HF.out.1, HF.out.2.1⟩
  · simp [results, Tryd.results55, go_sem, r0, r1, r2, r3, r4]
  · unfold TAt
    exact ⟨_, rfl, [], ⟨rfl, .inl ⟨rfl, none, 0, rfl⟩⟩, by unfold TsAt; rfl⟩

set_option maxRecDepth 100000 in
set_option maxHeartbeats 4000000 in
theorem single_some (N : Nat) (hso : SomeOk N) (k : T) (ks : List T) (h1 : 1 ≤ ks.length) (hk : ∀ x ∈ k :: ks, SizeOf.sizeOf x < N ∧ x.form = true ∧ x.rng = true) (h3 : ∀ x ∈ k :: ks, x.op ≠ 3) (b : Nat) (s : ByteArray) (r : List UInt8) (w : World) (hs : s.size ≤ 2000) (h : SR b s (40 :: (itm k ++ (tailB sOr (ks.map itm) ++ 41 :: r))) w) :
    Calls Tryd.prog 55 #[.pointer (some ⟨b, 0, none⟩)] w (GotT b s (.mk 3 0 0 0 (k :: ks)) r w) := by
  obtain ⟨W, hW⟩ : ∃ W, W = w.alloc (.cells #[.int .i64 0, .int .i64 0, .int .i64 0, .int .i64 0, .slice none 0 0] 42) := ⟨_, rfl⟩
  obtain ⟨q, hq⟩ : ∃ q, q = itm k ++ (tailB sOr (ks.map itm) ++ 41 :: r) := ⟨_, rfl⟩
  rw [← hq] at h
  have hb := h.lt
  have hWz : W.heap.size = w.heap.size + 1 := by rw [hW]; simp
  have hSW : SR b s (40 :: q) W := by rw [hW]; exact h.alloc _
  have HWK : Hid (Kept [b] w W) := by show Kept _ _ _; rw [hW]; exact (Kept.refl _ _).alloc _
  have HWR : Hid (W.heap[w.heap.size]? = some (.cells #[.int .i64 0, .int .i64 0, .int .i64 0, .int .i64 0, .slice none 0 0] 42 (0, 0))) := by show _ = _; rw [hW]; exact heap_alloc_new _ _
  have HS0 := Lib.hid hSW
  have c3 := h.bad
  have hbne : b ≠ w.heap.size := by omega
  have HI1 : Hid (∀ w', SR b s (40 :: q) w' → Calls Tryd.prog 13 #[.pointer (some ⟨b, 0, none⟩), .string ⟨#[40]⟩] w' fun e w2 => e = .returned (.bool true) ∧ SR b s (40 :: q) w2 ∧ Below w'.heap.size w' w2) :=
    fun w' h => sr_is (sign := ⟨#[40]⟩) h hs true (by simp [Lib.hasPrefix, List.isPrefixOf])
  have HSO : Hid (∀ w', SR b s q w' → Calls Tryd.prog 27 #[.pointer (some ⟨b, 0, none⟩), .bool false] w' (GotTs b s (k :: ks) (41 :: r) w')) :=
    fun w' h => hso k ks hk false (fun x hx e => absurd e (h3 x hx)) b s (41 :: r) w' hs ⟨⟨fun c hc => by simp at hc; subst hc; right; left; rfl, by simp [Lib.hasPrefix, List.isPrefixOf]⟩, by simp [Lib.hasPrefix, List.isPrefixOf]⟩ (by rw [← hq]; exact h)
  have HCL : Hid (∀ w', SR b s (41 :: r) w' → Calls Tryd.prog 66 #[.pointer (some ⟨b, 0, none⟩)] w' fun e w2 => e = .returned (.tuple #[]) ∧ SR b s r w2 ∧ Kept [b] w' w2) := fun w' h => sr_close h hs
  clear h hSW hk hso
  go_enter Tryd.func55, Tryd.ntmps55
  go_wp2_with fail
  rw [← hW]
  have HWW := Lib.hid hW
  clear hW c3
  refine (HI1.out _ HS0.out).mono ?_
  rintro e w1 ⟨rfl, hS1, hB1⟩
  have HS1 := Lib.hid hS1
  have HK1 := Lib.hid (Kept.of_below (S := [b]) hB1)
  clear hS1 hB1
  obtain ⟨i, hi1, hi2, hi3⟩ := HS1.out
  have a1 : w1.cell? ⟨b, 1, none⟩ = some (.int .i64 i) := cellT hi3 rfl
  have af : w1.frozen? ⟨b, 1, none⟩ = false := frozenT hi3
  have hsp := sr_pos (p := [40]) hi1 hi2
  have HS2 : Hid (SR b s q (w1.setCell ⟨b, 1, none⟩ (.int .i64 ((i : Int) + 1)))) := ⟨i + 1, hsp.1, hsp.2, heap_setCell_same _ _ 1 _ _ _ hi3⟩
  have HK2 := Lib.hid (HK1.out.set b 1 (by simp) (.int .i64 ((i : Int) + 1)))
  have hi9 : i ≤ 2000 := by omega
  clear hi1 hi2 hi3 hsp
  go_wp2_with fail
  refine (HSO.out _ HS2.out).mono ?_
  rintro e w4 ⟨v, rows, rfl, hSl, hTs, hS4, hK4⟩
  obtain ⟨va, vc, rfl⟩ := hSl.slice
  have HSl := Lib.hid hSl
  have HTs := Lib.hid hTs
  have HS4 := Lib.hid hS4
  have HK4 := Lib.hid (HK2.out.trans hK4)
  have c4 := hS4.bad
  have q1 : ((ks.length : Int) + 1 == 1) = false := by rw [beq_eq_false_iff_ne]; omega
  clear hSl hTs hS4 hK4
  go_wp2_with fail
  refine (HCL.out _ HS4.out).mono ?_
  rintro e w5 ⟨rfl, hS5, hK5⟩
  have HS5 := Lib.hid hS5
  have HK5 := Lib.hid (HK4.out.trans hK5)
  have HK45 := Lib.hid hK5
  clear hS5 hK5
  have hR2 : w5.heap[w.heap.size]? = some (.cells #[.int .i64 0, .int .i64 0, .int .i64 0, .int .i64 0, .slice none 0 0] 42 (0, 0)) :=
    (HK5.out.block _ (by omega) (by simp; omega)).trans HWR.out
  have s0 : w5.frozen? ⟨w.heap.size, 0, none⟩ = false := frozenT hR2
  have s1 : w5.frozen? ⟨w.heap.size, 1, none⟩ = false := frozenT hR2
  have s2 : w5.frozen? ⟨w.heap.size, 2, none⟩ = false := frozenT hR2
  have s3 : w5.frozen? ⟨w.heap.size, 3, none⟩ = false := frozenT hR2
  have s4 : w5.frozen? ⟨w.heap.size, 4, none⟩ = false := frozenT hR2
  have r0 : w5.cell? ⟨w.heap.size, 0, none⟩ = some (.int .i64 0) := cellT hR2 rfl
  have r1 : w5.cell? ⟨w.heap.size, 1, none⟩ = some (.int .i64 0) := cellT hR2 rfl
  have r2 : w5.cell? ⟨w.heap.size, 2, none⟩ = some (.int .i64 0) := cellT hR2 rfl
  have r3 : w5.cell? ⟨w.heap.size, 3, none⟩ = some (.int .i64 0) := cellT hR2 rfl
  have r4 : w5.cell? ⟨w.heap.size, 4, none⟩ = some (.slice none 0 0) := cellT hR2 rfl
  have HF := Lib.hid (five_done (b := b) (s := s) (r := r) (w := w) (W := W) (w2 := w5) hb hWz HWK.out HS5.out HK5.out (.int .i64 3) (.int .i64 0) (.int .i64 0) (.int .i64 0) (.slice va (ks.length + 1) vc))
  have HZ : Hid (W.heap.size ≤ (w1.setCell ⟨b, 1, none⟩ (.int .i64 ((i : Int) + 1))).heap.size) := HK2.out.size
  have hbz : b < (w1.setCell ⟨b, 1, none⟩ (.int .i64 ((i : Int) + 1))).heap.size := HS2.out.lt
  clear hR2
  have HBZ := Lib.hid hbz
  clear hbz
  go_wp2_with fail
  refine bodyPost_ret (v := .agg #[.int .i64 3, .int .i64 0, .int .i64 0, .int .i64 0, .slice va (ks.length + 1) vc]) ?_ rfl ⟨[.int .i64 3, .int .i64 0, .int .i64 0, .int .i64 0, .slice va (ks.length + 1) vc], rfl, ?_, HF.out.1, HF.out.2.1⟩
  · simp [results, Tryd.results55, go_sem, r0, r1, r2, r3, r4]
  · have hfk := ((FrKept.of_kept (g := none) HK45.out HBZ.out).trans (FrKept.wider HZ.out (by simp))).trans HF.out.2.2
    unfold TAt
    exact ⟨_, rfl, rows, HSl.out.fr hfk, hfk.tsat _ _ HTs.out⟩

set_option maxRecDepth 100000 in
set_option maxHeartbeats 4000000 in
theorem single_none (N : Nat) (hso : SomeOk N) (k : T) (ks : List T) (hk : ∀ x ∈ k :: ks, SizeOf.sizeOf x < N ∧ x.form = true ∧ x.rng = true) (b : Nat) (s : ByteArray) (r : List UInt8) (w : World) (hs : s.size ≤ 2000) (h : SR b s (33 :: 40 :: (itm k ++ (tailB sOr (ks.map itm) ++ 41 :: r))) w) :
    Calls Tryd.prog 55 #[.pointer (some ⟨b, 0, none⟩)] w (GotT b s (.mk 4 0 0 0 (k :: ks)) r w) := by
  obtain ⟨W, hW⟩ : ∃ W, W = w.alloc (.cells #[.int .i64 0, .int .i64 0, .int .i64 0, .int .i64 0, .slice none 0 0] 42) := ⟨_, rfl⟩
  obtain ⟨q, hq⟩ : ∃ q, q = itm k ++ (tailB sOr (ks.map itm) ++ 41 :: r) := ⟨_, rfl⟩
  rw [← hq] at h
  have hb := h.lt
  have hWz : W.heap.size = w.heap.size + 1 := by rw [hW]; simp
  have hSW : SR b s (33 :: 40 :: q) W := by rw [hW]; exact h.alloc _
  have HWK : Hid (Kept [b] w W) := by show Kept _ _ _; rw [hW]; exact (Kept.refl _ _).alloc _
  have HWR : Hid (W.heap[w.heap.size]? = some (.cells #[.int .i64 0, .int .i64 0, .int .i64 0, .int .i64 0, .slice none 0 0] 42 (0, 0))) := by show _ = _; rw [hW]; exact heap_alloc_new _ _
  have HS0 := Lib.hid hSW
  have c3 := h.bad
  have hbne : b ≠ w.heap.size := by omega
  have HI1 : Hid (∀ w', SR b s (33 :: 40 :: q) w' → Calls Tryd.prog 13 #[.pointer (some ⟨b, 0, none⟩), .string ⟨#[40]⟩] w' fun e w2 => e = .returned (.bool false) ∧ SR b s (33 :: 40 :: q) w2 ∧ Below w'.heap.size w' w2) :=
    fun w' h => sr_is (sign := ⟨#[40]⟩) h hs false (by simp [Lib.hasPrefix, List.isPrefixOf])
  have HSO : Hid (∀ w', SR b s q w' → Calls Tryd.prog 27 #[.pointer (some ⟨b, 0, none⟩), .bool true] w' (GotTs b s (k :: ks) (41 :: r) w')) :=
    fun w' h => hso k ks hk true (fun _ _ _ => rfl) b s (41 :: r) w' hs ⟨⟨fun c hc => by simp at hc; subst hc; right; left; rfl, by simp [Lib.hasPrefix, List.isPrefixOf]⟩, by simp [Lib.hasPrefix, List.isPrefixOf]⟩ (by rw [← hq]; exact h)
  have HCL : Hid (∀ w', SR b s (41 :: r) w' → Calls Tryd.prog 66 #[.pointer (some ⟨b, 0, none⟩)] w' fun e w2 => e = .returned (.tuple #[]) ∧ SR b s r w2 ∧ Kept [b] w' w2) := fun w' h => sr_close h hs
  have HI2 : Hid (∀ w', SR b s (33 :: 40 :: q) w' → Calls Tryd.prog 13 #[.pointer (some ⟨b, 0, none⟩), .string ⟨#[33]⟩] w' fun e w2 => e = .returned (.bool true) ∧ SR b s (33 :: 40 :: q) w2 ∧ Below w'.heap.size w' w2) :=
    fun w' h => sr_is (sign := ⟨#[33]⟩) h hs true (by simp [Lib.hasPrefix, List.isPrefixOf])
  have HTA : Hid (∀ w', SR b s (33 :: 40 :: q) w' → Calls Tryd.prog 14 #[.pointer (some ⟨b, 0, none⟩), .string ⟨#[33, 40]⟩] w' fun e w2 => e = .returned (.tuple #[]) ∧ SR b s q w2 ∧ Kept [b] w' w2) :=
    fun w' h => sr_take (sign := ⟨#[33, 40]⟩) h hs
  clear h hSW hk hso
  go_enter Tryd.func55, Tryd.ntmps55
  go_wp2_with fail
  rw [← hW]
  have HWW := Lib.hid hW
  clear hW c3
  refine (HI1.out _ HS0.out).mono ?_
  rintro e w1 ⟨rfl, hS1, hB1⟩
  have HS1 := Lib.hid hS1
  have HK1 := Lib.hid (Kept.of_below (S := [b]) hB1)
  clear hS1 hB1
  go_wp2_with fail
  refine (HI2.out _ HS1.out).mono ?_
  rintro e w2 ⟨rfl, hS2, hB2⟩
  have HS2' := Lib.hid hS2
  have HK2' := Lib.hid (HK1.out.trans (Kept.of_below (S := [b]) hB2))
  clear hS2 hB2
  go_wp2_with fail
  refine (HTA.out _ HS2'.out).mono ?_
  rintro e w3 ⟨rfl, hS3, hK3⟩
  have HS2 := Lib.hid hS3
  have HK2 := Lib.hid (HK2'.out.trans hK3)
  clear hS3 hK3
  go_wp2_with fail
  refine (HSO.out _ HS2.out).mono ?_
  rintro e w4 ⟨v, rows, rfl, hSl, hTs, hS4, hK4⟩
  obtain ⟨va, vc, rfl⟩ := hSl.slice
  have HSl := Lib.hid hSl
  have HTs := Lib.hid hTs
  have HS4 := Lib.hid hS4
  have HK4 := Lib.hid (HK2.out.trans hK4)
  clear hSl hTs hS4 hK4
  go_wp2_with fail
  refine (HCL.out _ HS4.out).mono ?_
  rintro e w5 ⟨rfl, hS5, hK5⟩
  have HS5 := Lib.hid hS5
  have HK5 := Lib.hid (HK4.out.trans hK5)
  have HK45 := Lib.hid hK5
  clear hS5 hK5
  have hR2 : w5.heap[w.heap.size]? = some (.cells #[.int .i64 0, .int .i64 0, .int .i64 0, .int .i64 0, .slice none 0 0] 42 (0, 0)) :=
    (HK5.out.block _ (by omega) (by simp; omega)).trans HWR.out
  have s0 : w5.frozen? ⟨w.heap.size, 0, none⟩ = false := frozenT hR2
  have s1 : w5.frozen? ⟨w.heap.size, 1, none⟩ = false := frozenT hR2
  have s2 : w5.frozen? ⟨w.heap.size, 2, none⟩ = false := frozenT hR2
  have s3 : w5.frozen? ⟨w.heap.size, 3, none⟩ = false := frozenT hR2
  have s4 : w5.frozen? ⟨w.heap.size, 4, none⟩ = false := frozenT hR2
  have r0 : w5.cell? ⟨w.heap.size, 0, none⟩ = some (.int .i64 0) := cellT hR2 rfl
  have r1 : w5.cell? ⟨w.heap.size, 1, none⟩ = some (.int .i64 0) := cellT hR2 rfl
  have r2 : w5.cell? ⟨w.heap.size, 2, none⟩ = some (.int .i64 0) := cellT hR2 rfl
  have r3 : w5.cell? ⟨w.heap.size, 3, none⟩ = some (.int .i64 0) := cellT hR2 rfl
  have r4 : w5.cell? ⟨w.heap.size, 4, none⟩ = some (.slice none 0 0) := cellT hR2 rfl
  have HF := Lib.hid (five_done (b := b) (s := s) (r := r) (w := w) (W := W) (w2 := w5) hb hWz HWK.out HS5.out HK5.out (.int .i64 4) (.int .i64 0) (.int .i64 0) (.int .i64 0) (.slice va (ks.length + 1) vc))
  have HZ : Hid (W.heap.size ≤ w3.heap.size) := HK2.out.size
  have hbz : b < w3.heap.size := HS2.out.lt
  clear hR2
  have HBZ := Lib.hid hbz
  clear hbz
  go_wp2_with fail
  refine bodyPost_ret (v := .agg #[.int .i64 4, .int .i64 0, .int .i64 0, .int .i64 0, .slice va (ks.length + 1) vc]) ?_ rfl ⟨[.int .i64 4, .int .i64 0, .int .i64 0, .int .i64 0, .slice va (ks.length + 1) vc], rfl, ?_, HF.out.1, HF.out.2.1⟩
  · simp [results, Tryd.results55, go_sem, r0, r1, r2, r3, r4]
  · have hfk := ((FrKept.of_kept (g := none) HK45.out HBZ.out).trans (FrKept.wider HZ.out (by simp))).trans HF.out.2.2
    unfold TAt
    exact ⟨_, rfl, rows, HSl.out.fr hfk, hfk.tsat _ _ HTs.out⟩
end Go.Proofs.YtgfoangacbajlaaDoor
