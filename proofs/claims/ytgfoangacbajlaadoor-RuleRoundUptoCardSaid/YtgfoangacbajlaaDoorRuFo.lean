/- lang's reader of rules: form, at the right text. Conditions: as stated. -/
import Derived.Test.YtgfoangacbajlaaDoorRuOk
namespace Go.Proofs.YtgfoangacbajlaaDoor
open Go.RowKit Mh
set_option linter.unusedVariables false

set_option maxRecDepth 100000 in
set_option maxHeartbeats 4000000 in
theorem ruform_many (k : T) (ks : List T) (h1 : 1 ≤ ks.length) (hk : ∀ x ∈ k :: ks, x.form = true ∧ x.rng = true ∧ x.op ≠ 3) (b : Nat) (s : ByteArray) (r : List UInt8) (w : World) (hs : s.size ≤ 2000) (hr : restO r) (h : SR b s (itm k ++ (tailB sOr (ks.map itm) ++ r)) w) :
    Calls Tryd.prog 12 #[.pointer (some ⟨b, 0, none⟩)] w (GotT b s (.mk 3 0 0 0 (k :: ks)) r w) := by
  obtain ⟨W, hW⟩ : ∃ W, W = w.alloc (.cells #[.int .i64 0, .int .i64 0, .int .i64 0, .int .i64 0, .slice none 0 0] 42) := ⟨_, rfl⟩
  obtain ⟨N, hN⟩ : ∃ N, N = SizeOf.sizeOf (k :: ks) := ⟨_, rfl⟩
  have hb := h.lt
  have hWz : W.heap.size = w.heap.size + 1 := by rw [hW]; simp
  have hSW : SR b s (itm k ++ (tailB sOr (ks.map itm) ++ r)) W := by rw [hW]; exact h.alloc _
  have HWK : Hid (Kept [b] w W) := by show Kept _ _ _; rw [hW]; exact (Kept.refl _ _).alloc _
  have HWR : Hid (W.heap[w.heap.size]? = some (.cells #[.int .i64 0, .int .i64 0, .int .i64 0, .int .i64 0, .slice none 0 0] 42 (0, 0))) := by show _ = _; rw [hW]; exact heap_alloc_new _ _
  have HSO : Hid (Calls Tryd.prog 27 #[.pointer (some ⟨b, 0, none⟩), .bool false] W (GotTs b s (k :: ks) r W)) :=
    some_ok N k ks (fun x hx => ⟨by rw [hN]; exact List.sizeOf_lt_of_mem hx, (hk x hx).1, (hk x hx).2.1⟩) false (fun x hx e => absurd e (hk x hx).2.2) b s r W hs hr hSW
  have hbW : b < W.heap.size := by omega
  clear h hSW hk hN hr
  go_enter Tryd.func12, Tryd.ntmps12
  go_wp2_with fail
  rw [← hW]
  have HWW := Lib.hid hW
  clear hW
  refine HSO.out.mono ?_
  rintro e w5 ⟨v, rows, rfl, hSl, hTs, hS4, hK4⟩
  obtain ⟨va, vc, rfl⟩ := hSl.slice
  have HSl := Lib.hid hSl
  have HTs := Lib.hid hTs
  have HS5 := Lib.hid hS4
  have HK5 := Lib.hid hK4
  have q1 : ((ks.length : Int) + 1 == 1) = false := by rw [beq_eq_false_iff_ne]; omega
  clear hSl hTs hS4 hK4
  have hR2 : w5.heap[w.heap.size]? = some (.cells #[.int .i64 0, .int .i64 0, .int .i64 0, .int .i64 0, .slice none 0 0] 42 (0, 0)) :=
    (HK5.out.block _ (by omega) (by simp; omega)).trans HWR.out
  have s0 : w5.frozen? ⟨w.heap.size, 0, none⟩ = false := frozenT hR2
  have s1 : w5.frozen? ⟨w.heap.size, 1, none⟩ = false := frozenT hR2
  have s2 : w5.frozen? ⟨w.heap.size, 2, none⟩ = false := frozenT hR2
  have s3 : w5.frozen? ⟨w.heap.size, 3, none⟩ = false := frozenT hR2
  have s4 : w5.frozen? ⟨w.heap.size, 4, none⟩ = false := frozenT hR2
  have r0 : w5.cell? ⟨w.heap.size, 0, none⟩ = some (.int .i64 0) := cellT hR2 rfl
  have r1 : w5.cell? ⟨w.heap.size, 1, none⟩ = some (.int .i64 0) := cellT hR2 rfl
  have r2 : w5.cell? ⟨w.heap.size, 2, none⟩ = some (.int .i64 0) := cellT hR2 rfl
  have r3 : w5.cell? ⟨w.heap.size, 3, none⟩ = some (.int .i64 0) := cellT hR2 rfl
  have r4 : w5.cell? ⟨w.heap.size, 4, none⟩ = some (.slice none 0 0) := cellT hR2 rfl
  have HF := Lib.hid (five_done (b := b) (s := s) (r := r) (w := w) (W := W) (w2 := w5) hb hWz HWK.out HS5.out HK5.out (.int .i64 3) (.int .i64 0) (.int .i64 0) (.int .i64 0) (.slice va (ks.length + 1) vc))
  clear hR2
  go_wp2_with fail
  refine bodyPost_ret (v := .agg #[.int .i64 3, .int .i64 0, .int .i64 0, .int .i64 0, .slice va (ks.length + 1) vc]) ?_ rfl ⟨[.int .i64 3, .int .i64 0, .int .i64 0, .int .i64 0, .slice va (ks.length + 1) vc], rfl, ?_, HF.out.1, HF.out.2.1⟩
  · simp [results, Tryd.results12, go_sem, r0, r1, r2, r3, r4]
  · unfold TAt
    exact ⟨_, rfl, rows, HSl.out.fr HF.out.2.2, HF.out.2.2.tsat _ _ HTs.out⟩
set_option maxRecDepth 100000 in
set_option maxHeartbeats 4000000 in
theorem ruform_one (k : T) (hk : ∀ x ∈ [k], x.form = true ∧ x.rng = true ∧ x.op ≠ 3) (b : Nat) (s : ByteArray) (r : List UInt8) (w : World) (hs : s.size ≤ 2000) (hr : restO r) (h : SR b s (itm k ++ (tailB sOr (([] : List T).map itm) ++ r)) w) :
    Calls Tryd.prog 12 #[.pointer (some ⟨b, 0, none⟩)] w (GotT b s k r w) := by
  obtain ⟨W, hW⟩ : ∃ W, W = w.alloc (.cells #[.int .i64 0, .int .i64 0, .int .i64 0, .int .i64 0, .slice none 0 0] 42) := ⟨_, rfl⟩
  obtain ⟨N, hN⟩ : ∃ N, N = SizeOf.sizeOf [k] := ⟨_, rfl⟩
  have hb := h.lt
  have hWz : W.heap.size = w.heap.size + 1 := by rw [hW]; simp
  have hSW : SR b s (itm k ++ (tailB sOr (([] : List T).map itm) ++ r)) W := by rw [hW]; exact h.alloc _
  have HWK : Hid (Kept [b] w W) := by show Kept _ _ _; rw [hW]; exact (Kept.refl _ _).alloc _
  have HWR : Hid (W.heap[w.heap.size]? = some (.cells #[.int .i64 0, .int .i64 0, .int .i64 0, .int .i64 0, .slice none 0 0] 42 (0, 0))) := by show _ = _; rw [hW]; exact heap_alloc_new _ _
  have HSO : Hid (Calls Tryd.prog 27 #[.pointer (some ⟨b, 0, none⟩), .bool false] W (GotTs b s [k] r W)) :=
    some_ok N k [] (fun x hx => ⟨by rw [hN]; exact List.sizeOf_lt_of_mem hx, (hk x hx).1, (hk x hx).2.1⟩) false (fun x hx e => absurd e (hk x hx).2.2) b s r W hs hr hSW
  have hbW : b < W.heap.size := by omega
  clear h hSW hk hN hr
  go_enter Tryd.func12, Tryd.ntmps12
  go_wp2_with fail
  rw [← hW]
  have HWW := Lib.hid hW
  clear hW
  refine HSO.out.mono ?_
  rintro e w5 ⟨v, rows, rfl, hSl, hTs, hS4, hK4⟩
  obtain ⟨g, off, c, a', c', rfl, hg1, g0, g1, g2, g3, g4, hT⟩ : ∃ g off c a' c', v = .slice (some ⟨g, off, none⟩) 1 c ∧ W.heap.size ≤ g ∧ w5.cell? ⟨g, off, none⟩ = some (.int .i64 k.op) ∧ w5.cell? ⟨g, off + 1, none⟩ = some (.int .i64 k.mod) ∧ w5.cell? ⟨g, off + 2, none⟩ = some (.int .i64 k.lo) ∧ w5.cell? ⟨g, off + 3, none⟩ = some (.int .i64 k.hi) ∧
      w5.cell? ⟨g, off + 4, none⟩ = some (.slice a' k.ks.length c') ∧ TAt (fresh W.heap.size none w5) k [.int .i64 k.op, .int .i64 k.mod, .int .i64 k.lo, .int .i64 k.hi, .slice a' k.ks.length c'] := by
    unfold TsAt at hTs
    obtain ⟨c, q, rfl, hc, hT, hq⟩ := hTs
    unfold TsAt at hq
    subst hq
    obtain ⟨a', c', rfl⟩ := hT.five
    rcases hSl.2 with ⟨h0, _⟩ | ⟨g, off, cc, rfl, _, _, _, _, hcell⟩
    · simp at h0
    · have h0 := fresh_cell.1 (hcell 0 _ rfl)
      exact ⟨g, off, cc, a', c', rfl, h0.1, h0.2.2, (fresh_cell.1 (hcell 1 _ rfl)).2.2, (fresh_cell.1 (hcell 2 _ rfl)).2.2, (fresh_cell.1 (hcell 3 _ rfl)).2.2, (fresh_cell.1 (hcell 4 _ rfl)).2.2, hT⟩
  have HT := Lib.hid hT
  have hgw : g ≠ w.heap.size := by omega
  have HS5 := Lib.hid hS4
  have HK5 := Lib.hid hK4
  clear hSl hTs hS4 hK4 hT
  have hR2 : w5.heap[w.heap.size]? = some (.cells #[.int .i64 0, .int .i64 0, .int .i64 0, .int .i64 0, .slice none 0 0] 42 (0, 0)) :=
    (HK5.out.block _ (by omega) (by simp; omega)).trans HWR.out
  have s0 : w5.frozen? ⟨w.heap.size, 0, none⟩ = false := frozenT hR2
  have s1 : w5.frozen? ⟨w.heap.size, 1, none⟩ = false := frozenT hR2
  have s2 : w5.frozen? ⟨w.heap.size, 2, none⟩ = false := frozenT hR2
  have s3 : w5.frozen? ⟨w.heap.size, 3, none⟩ = false := frozenT hR2
  have s4 : w5.frozen? ⟨w.heap.size, 4, none⟩ = false := frozenT hR2
  have r0 : w5.cell? ⟨w.heap.size, 0, none⟩ = some (.int .i64 0) := cellT hR2 rfl
  have r1 : w5.cell? ⟨w.heap.size, 1, none⟩ = some (.int .i64 0) := cellT hR2 rfl
  have r2 : w5.cell? ⟨w.heap.size, 2, none⟩ = some (.int .i64 0) := cellT hR2 rfl
  have r3 : w5.cell? ⟨w.heap.size, 3, none⟩ = some (.int .i64 0) := cellT hR2 rfl
  have r4 : w5.cell? ⟨w.heap.size, 4, none⟩ = some (.slice none 0 0) := cellT hR2 rfl
  have HF := Lib.hid (five_done (b := b) (s := s) (r := r) (w := w) (W := W) (w2 := w5) hb hWz HWK.out HS5.out HK5.out (.int .i64 k.op) (.int .i64 k.mod) (.int .i64 k.lo) (.int .i64 k.hi) (.slice a' k.ks.length c'))
  clear hR2
  go_wp2_with fail
  refine bodyPost_ret (v := .agg #[.int .i64 k.op, .int .i64 k.mod, .int .i64 k.lo, .int .i64 k.hi, .slice a' k.ks.length c']) ?_ rfl ⟨[.int .i64 k.op, .int .i64 k.mod, .int .i64 k.lo, .int .i64 k.hi, .slice a' k.ks.length c'], rfl, ?_, HF.out.1, HF.out.2.1⟩
  · simp [results, Tryd.results12, go_sem, r0, r1, r2, r3, r4]
  · exact HF.out.2.2.tat HT.out
end Go.Proofs.YtgfoangacbajlaaDoor
