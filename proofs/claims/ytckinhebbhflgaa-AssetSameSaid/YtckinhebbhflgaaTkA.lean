/- asset's scanner: add. Conditions: where the scanner and its row lie; bounds. -/
import Derived.Test.YtckinhebbhflgaaTkK
import Derived.Test.YtckinhebbhflgaaRuAp
import Derived.Deep.RegionLaw
import Derived.Laws.DeepStrings4
namespace Go.Proofs.Ytckinhebbhflgaa
open Go.RowKit Mh
set_option linter.unusedVariables false

theorem infoPlaced : (Try.prog.info? 72).map (fun i => (i.zero, i.size, i.bytes)) = some (some (.agg #[.int .i64 0, .string ⟨#[]⟩, .int .i64 0, .int .i64 0]), 4, 40) := by kernel_rfl
theorem info_placed : ∃ i0, Try.prog.info? 72 = some i0 ∧ i0.zero = some (.agg #[.int .i64 0, .string ⟨#[]⟩, .int .i64 0, .int .i64 0]) ∧ i0.size = 4 ∧ i0.bytes = 40 := by
  have h := infoPlaced
  cases e : Try.prog.info? 72 with
  | none => rw [e] at h; cases h
  | some i0 =>
    rw [e] at h
    simp only [Option.map_some, Option.some.injEq, Prod.mk.injEq] at h
    exact ⟨i0, rfl, h⟩
theorem four_cells (w : World) (x0 x1 x2 x3 : Value) (t : TypeId) : ∀ j u, [x0, x1, x2, x3][j]? = some u → (w.alloc (.cells #[x0, x1, x2, x3] t)).cell? ((⟨w.heap.size, 0, none⟩ : Addr).add j) = some u := by
  intro j u hj
  rw [Addr.add_lit, cell_of_row _ _ _ _ _ _ (heap_alloc_new w _)]
  simpa using hj
/-- What add lays. -/
def addT (s : ByteArray) (kind : Int) (f t : Nat) : ByteArray := if kind = 4 then ⟨#[32]⟩ else s.extract f t
set_option maxRecDepth 100000 in
set_option maxHeartbeats 2000000 in
theorem add_any (b : Nat) (s : ByteArray) (sc : Bool) (v : Value) (n : Nat) (rows : List Value) (w : World) (h : Sc b s sc v w) (hown : w.ownsRow (b + 1) 72 4 v n rows) (kind : Int) (f t : Nat) (hf : f ≤ t) (ht : t ≤ s.size) (hs : s.size ≤ 1000000) (hn : n ≤ 1000000) :
    Calls Try.prog 22 #[.pointer (some ⟨b, 0, none⟩), .int .i64 kind, .int .i64 f, .int .i64 t] w fun e w' =>
      e = .returned (.tuple #[]) ∧ (∃ v', Sc b s sc v' w' ∧ w'.ownsRow (b + 1) 72 4 v' (n + 1) (rows ++ [.int .i64 kind, .string (addT s kind f t), .int .i64 f, .int .i64 t])) ∧ Below b w w' := by
  obtain ⟨i0, hi, iz0, iz1, iz2⟩ := info_placed
  have hblt := h.lt
  have c0 := h.s
  obtain ⟨S, hS⟩ : ∃ S, S = s.extract f t := ⟨_, rfl⟩
  have hsl : ∀ w, (Instr.slice 9 (.string s) (some (.int .i64 (f : Int))) (some (.int .i64 (t : Int))) none).run Try.prog w = .ok (.string S) w := by
    intro w
    rw [run_slice_string_if (P := Try.prog) (w := w) 9 s .i64 .i64 (f : Int) (t : Int) Try.underlying9, if_pos ⟨by omega, by omega⟩, if_pos ⟨by omega, by omega⟩, hS]
    rfl
  have HS := Lib.hid hS
  have HH := Lib.hid h
  have HOW := Lib.hid hown
  clear h hown hS
  by_cases hk : kind = 4
  · subst hk
    go_enter Try.func22, Try.ntmps22
    go_wp2_with fail
    obtain ⟨W1, hW1⟩ : ∃ W1, W1 = w.alloc (.cells #[.int .i64 4, .string ⟨#[32]⟩, .int .i64 f, .int .i64 t] 72) := ⟨_, rfl⟩
    rw [← hW1]
    have hz1 : Hid (W1.heap.size = w.heap.size + 1) := by show _ = _; rw [hW1]; simp
    have HP : Hid (W1.heap[w.heap.size]? = some (.cells #[.int .i64 4, .string ⟨#[32]⟩, .int .i64 f, .int .i64 t] 72 (0, 0))) := by show _ = _; rw [hW1]; exact heap_alloc_new _ _
    have HH1 : Hid (Sc b s sc v W1) := by show _ = _; rw [hW1]; exact (heap_alloc_old _ _ hblt).trans HH.out
    have hown1 : W1.drew.ownsRow (b + 1) 72 4 v n rows := by show W1.ownsRow _ _ _ _ _ _; rw [hW1]; exact HOW.out.alloc _
    have HB1 : Hid (Below b w W1) := by show Below _ _ _; rw [hW1]; exact (Below.refl _ w).alloc (Nat.le_of_lt hblt) _
    obtain ⟨ao, co, rfl⟩ := ownsRow_form hown1
    have p0 : W1.cell? ⟨w.heap.size, 0, none⟩ = some (.int .i64 4) := cellT HP.out rfl
    have p1 : W1.cell? ⟨w.heap.size, 1, none⟩ = some (.string ⟨#[32]⟩) := cellT HP.out rfl
    have p2 : W1.cell? ⟨w.heap.size, 2, none⟩ = some (.int .i64 f) := cellT HP.out rfl
    have p3 : W1.cell? ⟨w.heap.size, 3, none⟩ = some (.int .i64 t) := cellT HP.out rfl
    have x2 : W1.cell? ⟨b, 2, none⟩ = some (.slice ao n co) := HH1.out.o
    have hb1 : b < W1.heap.size := by have := hz1.out; omega
    have hw1 : w.heap.size < W1.heap.size := by have := hz1.out; omega
    have hbd : b + 1 ≤ W1.drew.heap.size := hb1
    have hgn : ∀ g, Value.ownBlock (.slice ao n co) = some g → b + 1 ≤ g := by
      intro g hg
      rcases hown1.2 with ⟨e, _⟩ | ⟨g', cap, cur, e, hbg, _⟩
      · rw [e] at hg; cases hg
      · rw [e] at hg; simp only [Value.ownBlock, Option.some.injEq] at hg; omega
    clear hW1 c0
    go_region_law (refine step_append_at _ rfl _ _ 36 rfl (b + 1) 72 i0 (.agg #[.int .i64 0, .string ⟨#[]⟩, .int .i64 0, .int .i64 0]) 4 40 Try.underlying36 hi iz0 iz1 iz2 rfl (by decide) _ _ _ rfl (hown1.alloc _) ⟨W1.heap.size, 0, none⟩ 1 1 [.int .i64 4, .string ⟨#[32]⟩, .int .i64 f, .int .i64 t] rfl rfl (four_cells W1.drew _ _ _ _ _) (by simp [Value.oneCell']) (by unfold maxLen; omega) (by omega) (Nat.le_trans hbd (by simp)) ?_; intro v5 w5 hown5 hgr5 hat5; obtain ⟨a5, c5, rfl⟩ := ownsRow_form hown5; have HX5 : Hid (w5.heap[b]? = some (.cells #[.string s, .bool sc, .slice ao n co] 50 (0, 0))) := ((hgr5.block b (by simp; omega) (fun e => by have := hgn b e.symm; omega)).trans (heap_alloc_old _ _ hb1)).trans HH1.out; have g5 : w5.cell? ⟨b, 2, none⟩ = some (.slice ao n co) := cellT HX5.out rfl; have f5 : w5.frozen? ⟨b, 2, none⟩ = false := frozenT HX5.out)
    all_goals
      have HS5 : Hid (Sc b s sc (.slice a5 (n + 1) c5) (w5.setCell ⟨b, 2, none⟩ (.slice a5 (n + 1) c5))) := heap_setCell_same _ _ 2 _ _ _ HX5.out
      have HO5 : Hid ((w5.setCell ⟨b, 2, none⟩ (.slice a5 (n + 1) c5)).ownsRow (b + 1) 72 4 (.slice a5 (n + 1) c5) (n + 1) (rows ++ [.int .i64 4, .string ⟨#[32]⟩, .int .i64 f, .int .i64 t])) := by
        refine ⟨hown5.1, ?_⟩
        rcases hown5.2 with h2 | ⟨g, cap, cur, e, hbg, hg, h4⟩
        · exact .inl h2
        · exact .inr ⟨g, cap, cur, e, hbg, (heap_setCell_other w5 ⟨b, 2, none⟩ g _ (by simp; omega)).trans hg, h4⟩
      have HB5 : Hid (Below b w (w5.setCell ⟨b, 2, none⟩ (.slice a5 (n + 1) c5))) := by
        have h1 : Below b W1 w5 := ⟨hgr5.os, hgr5.tape, hgr5.output, Nat.le_trans (by simp) hgr5.size, fun k hk => (hgr5.block k (by simp; omega) (fun e => by have := hgn k e.symm; omega)).trans (heap_alloc_old _ _ (by omega))⟩
        exact (HB1.out.trans h1).setCell (Nat.le_refl _) _
      clear hown5 hgr5 hat5 g5 f5
      go_wp2_with fail
      go_end0
      exact ⟨rfl, ⟨_, HS5.out, by unfold addT; rw [if_pos rfl]; exact HO5.out⟩, HB5.out⟩
  · have q : (kind == 4) = false := beq_eq_false_iff_ne.2 hk
    have HKK := Lib.hid hk
    clear hk
    go_enter Try.func22, Try.ntmps22
    go_wp2_with fail
    obtain ⟨W1, hW1⟩ : ∃ W1, W1 = w.alloc (.cells #[.int .i64 kind, .string S, .int .i64 f, .int .i64 t] 72) := ⟨_, rfl⟩
    rw [← hW1]
    have hz1 : Hid (W1.heap.size = w.heap.size + 1) := by show _ = _; rw [hW1]; simp
    have HP : Hid (W1.heap[w.heap.size]? = some (.cells #[.int .i64 kind, .string S, .int .i64 f, .int .i64 t] 72 (0, 0))) := by show _ = _; rw [hW1]; exact heap_alloc_new _ _
    have HH1 : Hid (Sc b s sc v W1) := by show _ = _; rw [hW1]; exact (heap_alloc_old _ _ hblt).trans HH.out
    have hown1 : W1.drew.ownsRow (b + 1) 72 4 v n rows := by show W1.ownsRow _ _ _ _ _ _; rw [hW1]; exact HOW.out.alloc _
    have HB1 : Hid (Below b w W1) := by show Below _ _ _; rw [hW1]; exact (Below.refl _ w).alloc (Nat.le_of_lt hblt) _
    obtain ⟨ao, co, rfl⟩ := ownsRow_form hown1
    have p0 : W1.cell? ⟨w.heap.size, 0, none⟩ = some (.int .i64 kind) := cellT HP.out rfl
    have p1 : W1.cell? ⟨w.heap.size, 1, none⟩ = some (.string S) := cellT HP.out rfl
    have p2 : W1.cell? ⟨w.heap.size, 2, none⟩ = some (.int .i64 f) := cellT HP.out rfl
    have p3 : W1.cell? ⟨w.heap.size, 3, none⟩ = some (.int .i64 t) := cellT HP.out rfl
    have x2 : W1.cell? ⟨b, 2, none⟩ = some (.slice ao n co) := HH1.out.o
    have hb1 : b < W1.heap.size := by have := hz1.out; omega
    have hw1 : w.heap.size < W1.heap.size := by have := hz1.out; omega
    have hbd : b + 1 ≤ W1.drew.heap.size := hb1
    have hgn : ∀ g, Value.ownBlock (.slice ao n co) = some g → b + 1 ≤ g := by
      intro g hg
      rcases hown1.2 with ⟨e, _⟩ | ⟨g', cap, cur, e, hbg, _⟩
      · rw [e] at hg; cases hg
      · rw [e] at hg; simp only [Value.ownBlock, Option.some.injEq] at hg; omega
    clear hW1 c0
    go_region_law (refine step_append_at _ rfl _ _ 36 rfl (b + 1) 72 i0 (.agg #[.int .i64 0, .string ⟨#[]⟩, .int .i64 0, .int .i64 0]) 4 40 Try.underlying36 hi iz0 iz1 iz2 rfl (by decide) _ _ _ rfl (hown1.alloc _) ⟨W1.heap.size, 0, none⟩ 1 1 [.int .i64 kind, .string S, .int .i64 f, .int .i64 t] rfl rfl (four_cells W1.drew _ _ _ _ _) (by simp [Value.oneCell']) (by unfold maxLen; omega) (by omega) (Nat.le_trans hbd (by simp)) ?_; intro v5 w5 hown5 hgr5 hat5; obtain ⟨a5, c5, rfl⟩ := ownsRow_form hown5; have HX5 : Hid (w5.heap[b]? = some (.cells #[.string s, .bool sc, .slice ao n co] 50 (0, 0))) := ((hgr5.block b (by simp; omega) (fun e => by have := hgn b e.symm; omega)).trans (heap_alloc_old _ _ hb1)).trans HH1.out; have g5 : w5.cell? ⟨b, 2, none⟩ = some (.slice ao n co) := cellT HX5.out rfl; have f5 : w5.frozen? ⟨b, 2, none⟩ = false := frozenT HX5.out)
    all_goals
      have HS5 : Hid (Sc b s sc (.slice a5 (n + 1) c5) (w5.setCell ⟨b, 2, none⟩ (.slice a5 (n + 1) c5))) := heap_setCell_same _ _ 2 _ _ _ HX5.out
      have HO5 : Hid ((w5.setCell ⟨b, 2, none⟩ (.slice a5 (n + 1) c5)).ownsRow (b + 1) 72 4 (.slice a5 (n + 1) c5) (n + 1) (rows ++ [.int .i64 kind, .string S, .int .i64 f, .int .i64 t])) := by
        refine ⟨hown5.1, ?_⟩
        rcases hown5.2 with h2 | ⟨g, cap, cur, e, hbg, hg, h4⟩
        · exact .inl h2
        · exact .inr ⟨g, cap, cur, e, hbg, (heap_setCell_other w5 ⟨b, 2, none⟩ g _ (by simp; omega)).trans hg, h4⟩
      have HB5 : Hid (Below b w (w5.setCell ⟨b, 2, none⟩ (.slice a5 (n + 1) c5))) := by
        have h1 : Below b W1 w5 := ⟨hgr5.os, hgr5.tape, hgr5.output, Nat.le_trans (by simp) hgr5.size, fun k hk => (hgr5.block k (by simp; omega) (fun e => by have := hgn k e.symm; omega)).trans (heap_alloc_old _ _ (by omega))⟩
        exact (HB1.out.trans h1).setCell (Nat.le_refl _) _
      clear hown5 hgr5 hat5 g5 f5
      go_wp2_with fail
      go_end0
      exact ⟨rfl, ⟨_, HS5.out, by unfold addT; rw [if_neg HKK.out, ← HS.out]; exact HO5.out⟩, HB5.out⟩
end Go.Proofs.Ytckinhebbhflgaa
