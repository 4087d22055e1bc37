/- lang's reader of messages at "{": each of its functions there. No conditions but where the reader stands. -/
import Derived.Test.YtgfoangacbajlaaDoorProg
import Derived.Test.YtgfoangacbajlaaDoorBase
import Derived.Test.YtgfoangacbajlaaDoorKept
import Derived.Deep.QuietTactic
import Derived.BigQuiet
import Derived.Outline
import Derived.Deep.RegionLaw
import Derived.RegionTactic
import Derived.ChangeAlike
import Derived.Test.YtgfoangacbajlaaDoorRuAp
namespace Go.Proofs.YtgfoangacbajlaaDoor
open Go.RowKit Mh
set_option linter.unusedVariables false

/-- A reader of "{" at i, its error e at a, p pieces. -/
def gRd (i a e p : Int) : Obj := .cells #[.string ⟨#[123]⟩, .int .i64 i, .int .i64 a, .int .i64 e, .int .i64 p] 54 (0, 0)

theorem gfail_1 (b : Nat) (w : World) (h : w.heap[b]? = some (gRd 1 0 0 1)) :
    Calls Tryd.prog 44 #[.pointer (some ⟨b, 0, none⟩), .int .i64 1, .int .i64 8] w fun e w' => e = .returned (.tuple #[]) ∧ w'.heap[b]? = some (gRd 1 1 8 1) ∧ Kept [b] w w' := by
  have c3 : w.cell? ⟨b, 3, none⟩ = some (.int .i64 0) := cellT h rfl
  have c2 : w.cell? ⟨b, 2, none⟩ = some (.int .i64 0) := cellT h rfl
  have f2 : w.frozen? ⟨b, 2, none⟩ = false := frozenT h
  have f3 : w.frozen? ⟨b, 3, none⟩ = false := frozenT h
  have H := Lib.hid h
  clear h
  go_enter Tryd.func44, Tryd.ntmps44
  go_wp2
  go_end0
  refine ⟨rfl, ?_, ?_⟩
  · exact heap_setCell_same _ _ 3 _ _ _ (heap_setCell_same _ _ 2 _ _ _ H.out)
  · exact ((Kept.refl [b] w).set b 2 (by simp) _).set b 3 (by simp) _
theorem gpiece_0 (b : Nat) (w : World) (h : w.heap[b]? = some (gRd 0 0 0 0)) :
    Calls Tryd.prog 35 #[.pointer (some ⟨b, 0, none⟩), .int .i64 0] w fun e w' => e = .returned (.tuple #[]) ∧ w'.heap[b]? = some (gRd 0 0 0 1) ∧ Kept [b] w w' := by
  have c4 : w.cell? ⟨b, 4, none⟩ = some (.int .i64 0) := cellT h rfl
  have f4 : w.frozen? ⟨b, 4, none⟩ = false := frozenT h
  have H := Lib.hid h
  clear h
  go_enter Tryd.func35, Tryd.ntmps35
  go_wp2
  go_end0
  exact ⟨rfl, heap_setCell_same _ _ 4 _ _ _ H.out, (Kept.refl [b] w).set b 4 (by simp) _⟩
theorem gcontrol (w : World) : Calls Tryd.prog 33 #[.int .u8 123] w fun e w' => e = .returned (.bool false) ∧ w = w' := by
  go_enter Tryd.func33, Tryd.ntmps33
  go_wp2
  go_ret
  exact ⟨rfl, rfl⟩
theorem gflush (p o : Nat) (w : World) (h : w.cell? ⟨p, 0, none⟩ = some (.slice none 0 0)) : Calls Tryd.prog 32 #[.pointer (some ⟨p, 0, none⟩), .pointer (some ⟨o, 0, none⟩)] w fun e w' => e = .returned (.tuple #[]) ∧ w = w' := by
  go_enter Tryd.func32, Tryd.ntmps32
  go_wp2
  go_end0
  exact ⟨rfl, rfl⟩
set_option maxRecDepth 100000 in
theorem gskip_1 (b : Nat) (w : World) (h : w.heap[b]? = some (gRd 1 0 0 1)) :
    Calls Tryd.prog 56 #[.pointer (some ⟨b, 0, none⟩)] w fun e w' => e = .returned (.tuple #[]) ∧ w'.heap[b]? = some (gRd 1 0 0 1) ∧ Kept [b] w w' := by
  have c0 : w.cell? ⟨b, 0, none⟩ = some (.string ⟨#[123]⟩) := cellT h rfl
  have c1 : w.cell? ⟨b, 1, none⟩ = some (.int .i64 1) := cellT h rfl
  have H := Lib.hid h
  clear h
  go_enter Tryd.func56, Tryd.ntmps56
  go_wp2
  refine wp_loop_rounds 1 ?_
  rw [rounds_succ]
  go_wp2
  go_quiet (fail)
  go_wp2
  go_end0
  exact ⟨rfl, H.out, (Kept.refl _ _).drewN _⟩
set_option maxRecDepth 100000 in
theorem gwrong_1 (b : Nat) (w : World) (h : w.heap[b]? = some (gRd 1 0 0 1)) :
    Calls Tryd.prog 34 #[.pointer (some ⟨b, 0, none⟩)] w fun e w' => e = .returned (.tuple #[]) ∧ w'.heap[b]? = some (gRd 1 1 8 1) ∧ Kept [b] w w' := by
  have c0 : w.cell? ⟨b, 0, none⟩ = some (.string ⟨#[123]⟩) := cellT h rfl
  have c1 : w.cell? ⟨b, 1, none⟩ = some (.int .i64 1) := cellT h rfl
  have H := Lib.hid h
  clear h
  go_enter Tryd.func34, Tryd.ntmps34
  go_wp2
  go_quiet (fail)
  go_wp2_with fail
  refine (gfail_1 b (w.drewN _) H.out).mono ?_
  rintro e w' ⟨rfl, h1, h2⟩
  go_wp2_with fail
  go_end0
  exact ⟨rfl, h1, ((Kept.refl _ _).drewN _).trans h2⟩
set_option maxRecDepth 100000 in
theorem gword_1 (b : Nat) (w : World) (h : w.heap[b]? = some (gRd 1 0 0 1)) :
    Calls Tryd.prog 45 #[.pointer (some ⟨b, 0, none⟩)] w fun e w' => e = .returned (.tuple #[.string ⟨#[]⟩, .int .i64 1]) ∧ w'.heap[b]? = some (gRd 1 1 8 1) ∧ Kept [b] w w' := by
  have HS := Lib.hid (gskip_1 b w h)
  clear h
  go_enter Tryd.func45, Tryd.ntmps45
  go_wp2_with fail
  refine HS.out.mono ?_
  rintro e w1 ⟨rfl, h1, k1⟩
  have c0 : w1.cell? ⟨b, 0, none⟩ = some (.string ⟨#[123]⟩) := cellT h1 rfl
  have c1 : w1.cell? ⟨b, 1, none⟩ = some (.int .i64 1) := cellT h1 rfl
  have H1 := Lib.hid h1
  have K1 := Lib.hid k1
  clear h1 k1
  go_wp2_with fail
  refine wp_loop_rounds 1 ?_
  rw [rounds_succ]
  go_wp2_with fail
  refine (gwrong_1 b w1 H1.out).mono ?_
  rintro e w2 ⟨rfl, h2, k2⟩
  have d0 : w2.cell? ⟨b, 0, none⟩ = some (.string ⟨#[123]⟩) := cellT h2 rfl
  have d1 : w2.cell? ⟨b, 1, none⟩ = some (.int .i64 1) := cellT h2 rfl
  have f1 : w2.frozen? ⟨b, 1, none⟩ = false := frozenT h2
  have H2 := Lib.hid h2
  have K2 : Hid (Kept [b] w w2) := K1.out.trans k2
  clear h2 k2
  go_wp2_with fail
  refine bodyPost_ret (v := .tuple #[.string ⟨#[]⟩, .int .i64 1]) (by simp [results, Tryd.results45, go_sem] <;> rfl) rfl ⟨rfl, heap_setCell_same _ _ 1 _ _ _ H2.out, K2.out.set b 1 (by simp) _⟩
set_option maxRecDepth 100000 in
theorem gbraces_1 (b : Nat) (w : World) (h : w.heap[b]? = some (gRd 1 0 0 1)) :
    Calls Tryd.prog 36 #[.pointer (some ⟨b, 0, none⟩), .int .i64 1, .bool false] w fun e w' => e = .returned (.agg #[.int .i64 1, .string ⟨#[]⟩, .slice none 0 0]) ∧ w'.heap[b]? = some (gRd 1 1 8 1) ∧ Kept [b] w w' := by
  have hlt : b < w.heap.size := (Array.getElem?_eq_some_iff.1 h).1
  have H := Lib.hid h
  clear h
  go_enter Tryd.func36, Tryd.ntmps36
  go_wp2_with fail
  refine (gword_1 b _ ((heap_alloc_old _ _ hlt).trans H.out)).mono ?_
  rintro e w1 ⟨rfl, h1, k1⟩
  have c3 : w1.cell? ⟨b, 3, none⟩ = some (.int .i64 8) := cellT h1 rfl
  have HB : Hid (Kept [b] w w1) := ((Kept.refl [b] w).alloc _).trans k1
  have hz : w.heap.size < w1.heap.size := by have := k1.size; simp at this; omega
  have hb1 : b < w1.heap.size := by omega
  have hT1 : w1.heap[w.heap.size]? = some (.cells #[.int .i64 0, .string ⟨#[]⟩, .slice none 0 0] 77 (0, 0)) := (k1.block _ (by simp) (by simp; omega)).trans (heap_alloc_new _ _)
  have H1 := Lib.hid h1
  have HT1 := Lib.hid hT1
  have r0 : w1.cell? ⟨w.heap.size, 0, none⟩ = some (.int .i64 0) := cellT hT1 rfl
  have r1 : w1.cell? ⟨w.heap.size, 1, none⟩ = some (.string ⟨#[]⟩) := cellT hT1 rfl
  have r2 : w1.cell? ⟨w.heap.size, 2, none⟩ = some (.slice none 0 0) := cellT hT1 rfl
  have g0 : w1.frozen? ⟨w.heap.size, 0, none⟩ = false := frozenT hT1
  have g1 : w1.frozen? ⟨w.heap.size, 1, none⟩ = false := frozenT hT1
  have g2 : w1.frozen? ⟨w.heap.size, 2, none⟩ = false := frozenT hT1
  clear h1 k1 hT1
  go_wp2_with fail
  obtain ⟨wf, hwf⟩ : ∃ wf, wf = (((w1.setCell ⟨w.heap.size, 0, none⟩ (.int .i64 1)).setCell ⟨w.heap.size, 1, none⟩ (.string ⟨#[]⟩)).setCell ⟨w.heap.size, 2, none⟩ (.slice none 0 0)).alloc (.cells #[.int .i64 1, .string ⟨#[]⟩, .slice none 0 0] 77) := ⟨_, rfl⟩
  have hPf : wf.heap[w.heap.size]? = some (.cells #[.int .i64 1, .string ⟨#[]⟩, .slice none 0 0] 77 (0, 0)) := by
    rw [hwf, heap_alloc_old _ _ (by simpa using hz)]
    exact heap_setCell_same _ _ 2 _ _ _ (heap_setCell_same _ _ 1 _ _ _ (heap_setCell_same _ _ 0 _ _ _ HT1.out))
  have hKf : Kept [b] w wf := by
    rw [hwf]
    refine Kept.alloc ?_ _
    repeat (refine Kept.setNew ?_ _ _ (Nat.le_refl _) _)
    exact HB.out
  have hbf : wf.heap[b]? = some (gRd 1 1 8 1) := by
    rw [hwf, heap_alloc_old _ _ (by simpa using hb1)]
    refine (Kept.block (S := [w.heap.size]) (w := w1) ?_ b hb1 (by simp; omega)).trans H1.out
    repeat (refine Kept.set ?_ _ _ (by simp) _)
    exact Kept.refl _ _
  have s0 : wf.cell? ⟨w.heap.size, 0, none⟩ = some (.int .i64 1) := cellT hPf rfl
  have s1 : wf.cell? ⟨w.heap.size, 1, none⟩ = some (.string ⟨#[]⟩) := cellT hPf rfl
  have s2 : wf.cell? ⟨w.heap.size, 2, none⟩ = some (.slice none 0 0) := cellT hPf rfl
  rw [← hwf]
  refine bodyPost_ret (v := .agg #[.int .i64 1, .string ⟨#[]⟩, .slice none 0 0]) (by simp [results, Tryd.results36, go_sem, s0, s1, s2]) rfl ⟨rfl, hbf, hKf⟩
theorem infoPiece : (Tryd.prog.info? 77).map (fun i => (i.zero, i.size, i.bytes)) = some (some (.agg #[.int .i64 0, .string ⟨#[]⟩, .slice none 0 0]), 3, 48) := by kernel_rfl
theorem info_piece : ∃ i0, Tryd.prog.info? 77 = some i0 ∧ i0.zero = some (.agg #[.int .i64 0, .string ⟨#[]⟩, .slice none 0 0]) ∧ i0.size = 3 ∧ i0.bytes = 48 := by
  have h := infoPiece
  cases e : Tryd.prog.info? 77 with
  | none => rw [e] at h; cases h
  | some i0 =>
    rw [e] at h
    simp only [Option.map_some, Option.some.injEq, Prod.mk.injEq] at h
    exact ⟨i0, rfl, h⟩
theorem three_cells (w : World) (x0 x1 x2 : Value) (t : TypeId) : ∀ j u, [x0, x1, x2][j]? = some u → (w.alloc (.cells #[x0, x1, x2] t)).cell? ((⟨w.heap.size, 0, none⟩ : Addr).add j) = some u := by
  intro j u hj
  rw [Addr.add_lit, cell_of_row _ _ _ _ _ _ (heap_alloc_new w _)]
  simpa using hj
set_option maxRecDepth 100000 in
set_option maxHeartbeats 2000000 in
theorem gmessage_0 (b : Nat) (w : World) (h : w.heap[b]? = some (gRd 0 0 0 0)) :
    Calls Tryd.prog 17 #[.pointer (some ⟨b, 0, none⟩), .int .i64 1, .bool false] w fun e w' => ∃ v, e = .returned v ∧ w'.heap[b]? = some (gRd 1 1 8 1) ∧ Kept [b] w w' := by
  obtain ⟨i0, hi, iz0, iz1, iz2⟩ := info_piece
  have hlt : b < w.heap.size := (Array.getElem?_eq_some_iff.1 h).1
  have c0 : w.cell? ⟨b, 0, none⟩ = some (.string ⟨#[123]⟩) := cellT h rfl
  have c1 : w.cell? ⟨b, 1, none⟩ = some (.int .i64 0) := cellT h rfl
  have c3 : w.cell? ⟨b, 3, none⟩ = some (.int .i64 0) := cellT h rfl
  have H := Lib.hid h
  have HF := Lib.hid (fun p o w (h : w.cell? ⟨p, 0, none⟩ = some (.slice none 0 0)) => gflush p o w h)
  have HC := Lib.hid (fun w => gcontrol w)
  clear h
  go_enter Tryd.func17, Tryd.ntmps17
  go_wp2_with fail
  refine wp_loop_rounds 2 ?_
  rw [rounds_succ]
  go_wp2_with fail
  go_quiet (fail)
  go_wp2_with fail
  go_quiet (fail)
  go_wp2_with fail
  generalize hW : World.drewN _ _ = W
  have hWz : W.heap.size = w.heap.size + 2 := by rw [← hW]; show (World.alloc _ _).heap.size = _; simp
  have hWb : W.heap[b]? = some (gRd 0 0 0 0) := by rw [← hW]; exact (heap_alloc_old _ _ (by simp; omega)).trans ((heap_alloc_old _ _ hlt).trans H.out)
  have hWo : W.heap[w.heap.size]? = some (.cells #[.slice none 0 0] 34 (0, 0)) := by rw [← hW]; exact (heap_alloc_old _ _ (by simp)).trans (heap_alloc_new _ _)
  have hWp : W.heap[w.heap.size + 1]? = some (.cells #[.slice none 0 0] 61 (0, 0)) := by rw [← hW]; exact heap_new_at (by simp)
  have HKW : Hid (Kept [b] w W) := by
    show Kept _ _ _
    rw [← hW]
    exact (((Kept.refl [b] w).alloc _).alloc _).drewN _
  have p0 : W.cell? ⟨w.heap.size + 1, 0, none⟩ = some (.slice none 0 0) := cellT hWp rfl
  have HWb := Lib.hid hWb
  have HWo := Lib.hid hWo
  have HWp := Lib.hid hWp
  have b1 : W.cell? ⟨b, 1, none⟩ = some (.int .i64 0) := cellT hWb rfl
  clear hW hWb hWo hWp
  refine (HC.out W).mono ?_
  rintro e w' ⟨rfl, rfl⟩
  go_wp2_with fail
  refine (HF.out _ _ W p0).mono ?_
  rintro e w' ⟨rfl, rfl⟩
  go_wp2_with fail
  refine (gpiece_0 b W HWb.out).mono ?_
  rintro e w2 ⟨rfl, h2, k2⟩
  have d1 : w2.cell? ⟨b, 1, none⟩ = some (.int .i64 0) := cellT h2 rfl
  have d3 : w2.cell? ⟨b, 3, none⟩ = some (.int .i64 0) := cellT h2 rfl
  have e1 : w2.frozen? ⟨b, 1, none⟩ = false := frozenT h2
  have HK2 : Hid (Kept [b] W w2) := k2
  have hz2 : w.heap.size + 2 ≤ w2.heap.size := by have := k2.size; omega
  have H2 := Lib.hid h2
  clear h2 k2
  go_wp2_with fail
  obtain ⟨w3, hw3⟩ : ∃ w3, w3 = w2.setCell ⟨b, 1, none⟩ (.int .i64 1) := ⟨_, rfl⟩
  rw [← hw3]
  have h3 : w3.heap[b]? = some (gRd 1 0 0 1) := by rw [hw3]; exact heap_setCell_same _ _ 1 _ _ _ H2.out
  have k3 : Kept [b] W w3 := by rw [hw3]; exact HK2.out.set b 1 (by simp) _
  have hz3 : w.heap.size + 2 ≤ w3.heap.size := by have := k3.size; omega
  have hs3 : w.heap.size < w3.heap.size := by omega
  have hb3 : b < w3.heap.size := by omega
  have HO3 : Hid (w3.heap[w.heap.size]? = some (.cells #[.slice none 0 0] 34 (0, 0))) := (k3.block _ (by omega) (by simp; omega)).trans HWo.out
  have HP3 : Hid (w3.heap[w.heap.size + 1]? = some (.cells #[.slice none 0 0] 61 (0, 0))) := (k3.block _ (by omega) (by simp; omega)).trans HWp.out
  have g0 : w3.cell? ⟨w.heap.size, 0, none⟩ = some (.slice none 0 0) := cellT HO3.out rfl
  have HK3 := Lib.hid k3
  have HB3 := Lib.hid (gbraces_1 b w3.drew h3)
  clear h3 k3 hw3
  go_region_law (first | (refine step_append_at _ rfl _ _ 34 rfl w.heap.size 77 i0 (.agg #[.int .i64 0, .string ⟨#[]⟩, .slice none 0 0]) 3 48 Tryd.underlying34 hi iz0 iz1 iz2 rfl (by decide) (.slice none 0 0) 0 [] rfl ⟨rfl, .inl ⟨rfl, rfl⟩⟩ ⟨w4.heap.size, 0, none⟩ 1 1 [.int .i64 1, .string ⟨#[]⟩, .slice none 0 0] rfl rfl (three_cells _ _ _ _ _) (by simp [Value.oneCell']) (by unfold maxLen; omega) (by omega) (Nat.le_trans hz4 (by simp)) ?_; intro v5 w5 hown5 hgr5 hat5; obtain ⟨a5, c5, rfl⟩ := ownsRow_form hown5; have HO5 : Hid (w5.heap[w.heap.size]? = some (.cells #[.slice none 0 0] 34 (0, 0))) := (hgr5.block _ (by simp; omega) (by simp [Value.ownBlock])).trans ((heap_alloc_old _ _ hs4).trans HO4.out); have HP5 : Hid (w5.heap[w.heap.size + 1]? = some (.cells #[.slice none 0 0] 61 (0, 0))) := (hgr5.block _ (by simp; omega) (by simp [Value.ownBlock])).trans ((heap_alloc_old _ _ (by omega)).trans HP4.out); have HR5 : Hid (w5.heap[b]? = some (gRd 1 1 8 1)) := (hgr5.block _ (by simp; omega) (by simp [Value.ownBlock])).trans ((heap_alloc_old _ _ (by omega)).trans H4.out); have g5 : w5.cell? ⟨w.heap.size, 0, none⟩ = some (.slice none 0 0) := cellT HO5.out rfl; have f5 : w5.frozen? ⟨w.heap.size, 0, none⟩ = false := frozenT HO5.out) | (go_simp; go_at_call 36; (with_reducible refine HB3.out.mono ?_); rintro e w4 ⟨rfl, h4, k4⟩; have H4 := Lib.hid h4; have HK4 : Hid (Kept [b] w3.drew w4) := k4; have hz4 : w.heap.size ≤ w4.heap.size := Nat.le_trans (Nat.le_of_lt hs3) k4.size; have hz4' : w.heap.size + 2 ≤ w4.heap.size := Nat.le_trans hz3 k4.size; have hs4 : w.heap.size < w4.heap.size := Nat.lt_of_lt_of_le hs3 k4.size; have HO4 : Hid (w4.heap[w.heap.size]? = some (.cells #[.slice none 0 0] 34 (0, 0))) := (k4.block _ hs3 (by simp; omega)).trans HO3.out; have HP4 : Hid (w4.heap[w.heap.size + 1]? = some (.cells #[.slice none 0 0] 61 (0, 0))) := (k4.block _ hz3 (by simp; omega)).trans HP3.out; have g4 : w4.cell? ⟨w.heap.size, 0, none⟩ = some (.slice none 0 0) := cellT HO4.out rfl; clear h4 k4))
  all_goals
    obtain ⟨w6, hw6⟩ : ∃ w6, w6 = w5.setCell ⟨w.heap.size, 0, none⟩ (.slice a5 1 c5) := ⟨_, rfl⟩
    rw [← hw6]
    have hb6 : Hid (w6.heap[b]? = some (gRd 1 1 8 1)) := by
      show _ = _
      rw [hw6]
      exact (heap_setCell_other w5 ⟨w.heap.size, 0, none⟩ b _ (by simp; omega)).trans HR5.out
    have hp6 : Hid (w6.heap[w.heap.size + 1]? = some (.cells #[.slice none 0 0] 61 (0, 0))) := by
      show _ = _
      rw [hw6]
      exact (heap_setCell_other w5 ⟨w.heap.size, 0, none⟩ _ _ (by simp)).trans HP5.out
    have ho6 : Hid (w6.heap[w.heap.size]? = some (.cells #[.slice a5 1 c5] 34 (0, 0))) := by
      show _ = _
      rw [hw6]
      exact heap_setCell_same _ _ 0 _ _ _ HO5.out
    have hk6 : Hid (Kept [b] w w6) := by
      show Kept _ _ _
      rw [hw6]
      have h1 : Kept [b] w w4 := ((HKW.out.trans HK3.out).trans (Kept.refl _ _).drew).trans HK4.out
      have h2 := h1.alloc (.cells #[.int .i64 1, .string ⟨#[]⟩, .slice none 0 0] 77)
      have h3 : Kept [b] w w5 := ⟨hgr5.os.trans h2.os, hgr5.tape.trans h2.tape, hgr5.output.trans h2.output, Nat.le_trans h2.size hgr5.size, fun k hk1 hk2 => (hgr5.block k (by have := h2.size; omega) (by simp [Value.ownBlock])).trans (h2.block k hk1 hk2)⟩
      exact h3.setNew _ 0 (Nat.le_refl _) _
    have q3 : w6.cell? ⟨b, 3, none⟩ = some (.int .i64 8) := cellT hb6.out rfl
    have qp : w6.cell? ⟨w.heap.size + 1, 0, none⟩ = some (.slice none 0 0) := cellT hp6.out rfl
    have qo : w6.cell? ⟨w.heap.size, 0, none⟩ = some (.slice a5 1 c5) := cellT ho6.out rfl
    clear hw6 hgr5 hown5 hat5 g0 g4 g5 f5
    go_wp2_with fail
    rw [rounds_succ]
    go_wp2_with fail
    go_quiet (fail)
    go_wp2_with fail
    refine (HF.out _ _ (w6.drewN _) qp).mono ?_
    rintro e w' ⟨rfl, rfl⟩
    go_wp2_with fail
    go_ret
    exact ⟨_, rfl, hb6.out, hk6.out.drewN _⟩
set_option maxRecDepth 100000 in
theorem readMessage_open (w : World) : Calls Tryd.prog 8 #[.string ⟨#[123]⟩] w fun e w' => e = .returned (.tuple #[.agg #[.slice none 0 0], .int .i64 1, .int .i64 8]) ∧ Below w.heap.size w w' := by
  have HM := Lib.hid (fun b w' (hh : w'.heap[b]? = some (gRd 0 0 0 0)) => gmessage_0 b w' hh)
  go_enter Tryd.func8, Tryd.ntmps8
  go_wp2_with fail
  refine (HM.out (w.heap.size + 1) _ (heap_new_at (by simp))).mono ?_
  rintro e w1 ⟨v, rfl, h1, hb1⟩
  have c2 : w1.cell? ⟨w.heap.size + 1, 2, none⟩ = some (.int .i64 1) := cellT h1 rfl
  have c3 : w1.cell? ⟨w.heap.size + 1, 3, none⟩ = some (.int .i64 8) := cellT h1 rfl
  have hT1 : w1.heap[w.heap.size]? = some (.cells #[.slice none 0 0] 36 (0, 0)) := (hb1.block _ (by simp; omega) (by simp)).trans ((heap_alloc_old _ _ (by simp)).trans (heap_alloc_new _ _))
  have r0 : w1.cell? ⟨w.heap.size, 0, none⟩ = some (.slice none 0 0) := cellT hT1 rfl
  have f0 : w1.frozen? ⟨w.heap.size, 0, none⟩ = false := frozenT hT1
  have HB : Hid (Below w.heap.size w w1) := (((Below.refl w.heap.size w).alloc (Nat.le_refl _) _).alloc (by simp) _).trans (hb1.below (by simp; omega) (by simp))
  clear h1 hb1 hT1
  go_wp2_with fail
  go_region
  all_goals
    go_wp2
    refine bodyPost_ret (v := .tuple #[.agg #[.slice none 0 0], .int .i64 1, .int .i64 8]) (by simp [results, Tryd.results8, go_sem, r0]) rfl ⟨rfl, ?_⟩
    refine Below.drew ?_
    repeat (refine Below.setCell ?_ (by simp) _)
    exact HB.out
theorem awakeLang_any (w : World) : Calls Tryd.prog 4 #[] w fun e w' => e = .returned (.bool true) ∧ Below w.heap.size w w' := by
  go_enter Tryd.func4, Tryd.ntmps4
  go_wp2_with fail
  refine (readMessage_open w).mono ?_
  rintro e w1 ⟨rfl, hb⟩
  have HB := Lib.hid hb
  have hz := hb.size
  clear hb
  go_wp2_with fail
  go_ret
  refine ⟨rfl, ?_⟩
  exact HB.out.alloc hz _
end Go.Proofs.YtgfoangacbajlaaDoor
