/- sync.Once's parts, one goroutine: the lock that is free, the store and the unlock that are deferred. Conditions: the cells of the Once. · (*strings.Replacer).build at conf's eight strings: a table of bytes, four of which are replaced. Conditions: the replacer's strings. · (*strings.Replacer).build at conf's eight strings, the walk. Conditions: the replacer's strings. · strings.Replacer at conf's eight strings: built once (sync.Once). Conditions: the replacer's cells. · strings.NewReplacer at conf's eight strings. Conditions: the strings in memory. -/
import Derived.Test.YtejnoedlfbglcaaGreatDoorProg
import Derived.Test.YtejnoedlfbglcaaGreatDoorKept
import Derived.Tactics
import Derived.Tactics2
import Derived.Defers
import Derived.Laws.Pointers
import Derived.Laws.LoneSync
import Derived.RegionTactic
import Derived.RegionCalls
import Derived.ChangeAlike
import Derived.Test.YtejnoedlfbglcaaGreatDoorKeV0
import Derived.Deep.CutRange
import Derived.Deep.WholeRow
import Derived.Laws.Tables
import Derived.Deep.AppendLies
namespace Go.Proofs.YtejnoedlfbglcaaGreatDoor
open Go.RowKit Mh
set_option linter.unusedVariables false

theorem rc_disable (w : World) : (callFunc 150 #[]).run Tryz.prog w = .ok (.value (.tuple #[])) w := run_call_mark0 Tryz.func150 (by kernel_rfl) (by kernel_rfl) (by kernel_rfl) .disable (by kernel_rfl) w
theorem rc_enable (w : World) : (callFunc 152 #[]).run Tryz.prog w = .ok (.value (.tuple #[])) w := run_call_mark0 Tryz.func152 (by kernel_rfl) (by kernel_rfl) (by kernel_rfl) .enable (by kernel_rfl) w
theorem rc_acquire (a : Addr) (w : World) : (callFunc 153 #[.pointer (some a)]).run Tryz.prog w = .ok (.value (.tuple #[])) w := run_call_marked Tryz.func153 (by kernel_rfl) (by kernel_rfl) (by kernel_rfl) .acquire (by kernel_rfl) a w
theorem rc_merge (a : Addr) (w : World) : (callFunc 155 #[.pointer (some a)]).run Tryz.prog w = .ok (.value (.tuple #[])) w := run_call_marked Tryz.func155 (by kernel_rfl) (by kernel_rfl) (by kernel_rfl) .releaseMerge (by kernel_rfl) a w

/-- '(*sync/atomic.Bool).Store(true)', entered as a deferred call: the cell holds 1. -/
theorem store_deferred (a : Addr) (x : Value) (u : FrameMode) (w : World) (hc : w.cell? a = some x) (hz : w.frozen? a = false) :
    CallsD Tryz.prog 128 #[.pointer (some a), .bool true] u w fun e u' w' => u' = u ∧ (e = .returned (.tuple #[]) ∧ w' = w.drew.setCell a (.int .u32 1)) := by
  have hc' : w.drew.cell? a = some x := by go_simp
  have hz' : w.drew.frozen? a = false := by go_simp
  have hst := run_call_store (P := Tryz.prog) Tryz.func141 (by kernel_rfl) (by kernel_rfl) (by kernel_rfl) (by kernel_rfl) (k := .u32) (y := 1) hc' hz'
  go_enter_d Tryz.func128, Tryz.ntmps128
  go_wp2
  go_region_calls
  all_goals (go_end0; exact ⟨rfl, rfl⟩)

set_option maxRecDepth 100000 in
set_option maxHeartbeats 4000000 in
/-- '(*sync.Mutex).Unlock', entered as a deferred call, the lock held and nobody waiting (state 1): state 0. -/
theorem unlock_deferred (a : Addr) (u : FrameMode) (w : World) (hc : w.cell? a = some (.int .i32 1)) (hz : w.frozen? a = false) :
    CallsD Tryz.prog 127 #[.pointer (some a)] u w fun e u' w' => u' = u ∧ (e = .returned (.tuple #[]) ∧ w' = w.setCell a (.int .i32 0)) := by
  have hd := rc_disable
  have he := rc_enable
  have hr := rc_merge
  have hadd := run_call_add (P := Tryz.prog) Tryz.func156 (by kernel_rfl) (by kernel_rfl) (by kernel_rfl) .i32 (by kernel_rfl) (y := -1) (s := 0) hc hz (by simp [go_sem]; rfl)
  have hcv := run_convert_to_unsafe (P := Tryz.prog) (src := 209) (dst := 213) Tryz.underlying209 Tryz.underlying213 (by kernel_rfl) hc
  go_enter_d Tryz.func127, Tryz.ntmps127
  go_wp2
  go_end0
  go_wp2
  all_goals go_end0
  all_goals exact ⟨rfl, rfl⟩

set_option maxRecDepth 100000 in
set_option maxHeartbeats 4000000 in
/-- '(*sync.Mutex).Lock', the lock free (state 0): state 1. -/
theorem lock_free (a : Addr) (w : World) (hc : w.cell? a = some (.int .i32 0)) (hz : w.frozen? a = false) :
    Calls Tryz.prog 126 #[.pointer (some a)] w fun e w' => e = .returned (.tuple #[]) ∧ w' = w.setCell a (.int .i32 1) := by
  have hd := rc_disable
  have he := rc_enable
  have ha := rc_acquire
  have hcas := run_call_cas_hit (P := Tryz.prog) Tryz.func151 (by kernel_rfl) (by kernel_rfl) (by kernel_rfl) .i32 (by kernel_rfl) (y := 1) hc hz
  have hc' : (w.setCell a (.int .i32 1)).cell? a = some (.int .i32 1) := World.cell?_setCell_same w a _ hc
  have hcv := run_convert_to_unsafe (P := Tryz.prog) (src := 209) (dst := 213) Tryz.underlying209 Tryz.underlying213 (by kernel_rfl) hc'
  go_enter Tryz.func126, Tryz.ntmps126
  go_wp2
  first | go_end0 | (simp only [Exit.inBlock, Exit.then]; refine bodyPost_ret (results_none rfl _ _ _) rfl ?_) | refine bodyPost_ret (results_none rfl _ _ _) rfl ?_
  go_wp2
  all_goals go_end0
  all_goals exact ⟨rfl, rfl⟩
end Go.Proofs.YtejnoedlfbglcaaGreatDoor
namespace Go.Proofs.YtejnoedlfbglcaaGreatDoor
open Go.RowKit Mh
set_option linter.unusedVariables false

theorem bsr_mk (w : World) : (Instr.makeSlice 27 (.int .i64 0) (.int .i64 4)).run Tryz.prog w = .ok (.slice (some ⟨w.heap.size, 0, none⟩) 0 4) (w.alloc (.cells #[.string ⟨#[]⟩, .string ⟨#[]⟩, .string ⟨#[]⟩, .string ⟨#[]⟩] 9)) := by kernel_rfl
theorem zero_list : Tryz.zeroCells177.toList = List.replicate 257 (Value.slice none 0 0) := by kernel_rfl
noncomputable def bsrRow (v : Value) : Array Value := (Tryz.zeroCells177.toList.set 256 v).toArray
theorem bsr_store (w : World) (ob : Obj) (b : Nat) : (storeCells ⟨w.heap.size + 1, 0, none⟩ (Tryz.zeroCells177.toList.set 256 (.slice (some ⟨b, 0, none⟩) 0 4))).run Tryz.prog ((w.alloc ob).alloc (.cells Tryz.zeroCells177 177)) = .ok () ((w.alloc ob).alloc (.cells (bsrRow (.slice (some ⟨b, 0, none⟩) 0 4)) 177)) := by
  have := run_storeCells_new (P := Tryz.prog) (w.alloc ob) 177 Tryz.zeroCells177 (bsrRow (.slice (some ⟨b, 0, none⟩) 0 4)) (by unfold bsrRow; kernel_rfl) (by unfold bsrRow; kernel_rfl) ?_
  · rw [show (w.alloc ob).heap.size = w.heap.size + 1 by simp] at this
    exact this
  · rw [Array.all_eq_true_iff_forall_mem]
    intro x hx
    simp only [bsrRow, List.mem_toArray] at hx
    rcases List.mem_or_eq_of_mem_set hx with h | rfl
    · rw [zero_list, List.mem_replicate] at h
      rw [h.2]; rfl
    · rfl
theorem bsr_get (v : Value) (c : Nat) (h : c < 256) : (bsrRow v)[c]? = some (.slice none 0 0) := by
  unfold bsrRow
  rw [zero_list, List.getElem?_toArray, List.getElem?_set_ne (by omega), List.getElem?_replicate, if_pos (by omega)]
theorem bsr_last (v : Value) : (bsrRow v)[256]? = some v := by
  unfold bsrRow
  rw [zero_list, List.getElem?_toArray, List.getElem?_set_self (by rw [List.length_replicate]; omega)]
def oldnew : List ByteArray := [⟨#[10]⟩, ⟨#[92, 110]⟩, ⟨#[9]⟩, ⟨#[92, 116]⟩, ⟨#[34]⟩, ⟨#[92, 34]⟩, ⟨#[92]⟩, ⟨#[92, 92]⟩]
/-- The bytes that are replaced, and the second byte of what they are replaced by. -/
def pairs : List (Nat × UInt8) := [(92, 92), (34, 34), (9, 116), (10, 110)]
/-- The table at B with the first k bytes put in. -/
structure BsAt (w : World) (B : Nat) (k : Nat) (v : Value) (W : World) : Prop where
  own : W.ownsRow w.heap.size 9 1 v k ((pairs.take k).map fun p => Value.string ⟨#[UInt8.ofNat p.1]⟩)
  at_ : ∀ p ∈ pairs.take k, ∃ P c, W.cell? ⟨B, p.1, none⟩ = some (.slice (some ⟨P, 0, none⟩) 2 c) ∧ 2 ≤ c ∧ c ≤ maxLen ∧ W.cell? ⟨P, 0, none⟩ = some (.int .u8 92) ∧ W.cell? ⟨P, 1, none⟩ = some (.int .u8 (p.2.toNat : Int)) ∧ w.heap.size ≤ P ∧ P ≠ B ∧ v.ownBlock ≠ some P
  rest : ∀ c, c < 256 → (∀ p ∈ pairs.take k, p.1 ≠ c) → W.cell? ⟨B, c, none⟩ = some (.slice none 0 0)
  last : W.cell? ⟨B, 256, none⟩ = some v
  open_ : ∀ c, W.frozen? ⟨B, c, none⟩ = false
  below : Below w.heap.size w W
  lo : w.heap.size ≤ B
  ne : v.ownBlock ≠ some B
theorem BsAt.start (w : World) : BsAt w (w.heap.size + 1) 0 (.slice (some ⟨w.heap.size, 0, none⟩) 0 4) ((w.alloc (.cells #[.string ⟨#[]⟩, .string ⟨#[]⟩, .string ⟨#[]⟩, .string ⟨#[]⟩] 9)).alloc (.cells (bsrRow (.slice (some ⟨w.heap.size, 0, none⟩) 0 4)) 177)) := by
  have hb : ((w.alloc (.cells #[.string ⟨#[]⟩, .string ⟨#[]⟩, .string ⟨#[]⟩, .string ⟨#[]⟩] 9)).alloc (.cells (bsrRow (.slice (some ⟨w.heap.size, 0, none⟩) 0 4)) 177)).heap[w.heap.size + 1]? = some (.cells (bsrRow (.slice (some ⟨w.heap.size, 0, none⟩) 0 4)) 177 (0, 0)) := heap_new_at (by simp)
  refine ⟨?_, fun p hp => by simp [pairs] at hp, fun c hc _ => cellT hb (bsr_get _ c hc), cellT hb (bsr_last _), fun c => frozenT hb, ((Below.refl _ w).alloc (Nat.le_refl _) _).alloc (by simp) _, by omega, by simp [Value.ownBlock]⟩
  refine ⟨by simp [pairs], .inr ⟨w.heap.size, 4, _, rfl, Nat.le_refl _, (heap_alloc_old _ _ (by simp)).trans (heap_alloc_new _ _), by omega, by unfold maxLen; omega, rfl, by simp [pairs]⟩⟩
theorem grown_setCell_own (w : World) (a : Addr) (u : Value) : w.grownBy (w.setCell a u) (some a.block) :=
  ⟨rfl, rfl, rfl, by simp [World.setCell], fun k _ hk => heap_setCell_other w a k u (fun e => hk (e ▸ rfl))⟩
theorem cell_far_set (w : World) (B i q j : Nat) (u : Value) (h : B ≠ q) : (w.setCell ⟨B, i, none⟩ u).cell? ⟨q, j, none⟩ = w.cell? ⟨q, j, none⟩ :=
  World.cell?_setCell_other w ⟨B, i, none⟩ ⟨q, j, none⟩ u (fun e => h (congrArg Addr.block e))
theorem cell_other_off (w : World) (B i j : Nat) (u : Value) (h : i ≠ j) : (w.setCell ⟨B, i, none⟩ u).cell? ⟨B, j, none⟩ = w.cell? ⟨B, j, none⟩ :=
  World.cell?_setCell_other w ⟨B, i, none⟩ ⟨B, j, none⟩ u (fun e => h (congrArg Addr.off e))
theorem pairs_inj : ∀ p ∈ pairs, ∀ q ∈ pairs, p.1 = q.1 → p = q := by decide
theorem pairs_lt : ∀ p ∈ pairs, p.1 < 256 := by decide
theorem pairs_ne {k : Nat} {o : Nat} {x : UInt8} (hp : pairs[k]? = some (o, x)) {p : Nat × UInt8} (h : p ∈ pairs.take k) : p.1 ≠ o := by
  have hk : k < 4 := (List.getElem?_eq_some_iff.1 hp).1
  have hk4 : k = 0 ∨ k = 1 ∨ k = 2 ∨ k = 3 := by omega
  rcases hk4 with rfl | rfl | rfl | rfl <;> simp [pairs] at hp h <;> obtain ⟨rfl, rfl⟩ := hp
  · subst h; decide
  · rcases h with rfl | rfl <;> decide
  · rcases h with rfl | rfl | rfl <;> decide
theorem BsAt.kept {w W W2 w3 : World} {B k : Nat} {v : Value} (h : BsAt w B k v W) (h2 : Below W.heap.size W W2) (hg : W2.grownBy w3 v.ownBlock) (c : Nat) (u : Value) (hu : W.cell? ⟨B, c, none⟩ = some u) : w3.cell? ⟨B, c, none⟩ = some u ∧ w3.frozen? ⟨B, c, none⟩ = false := by
  have hlt : B < W.heap.size := World.block_lt_of_cell? W _ hu
  have hl2 : B < W2.heap.size := Nat.lt_of_lt_of_le hlt h2.size
  have hne : some B ≠ v.ownBlock := fun e => h.ne e.symm
  exact ⟨((hg.cell_far ⟨B, c, none⟩ hl2 hne).trans (h2.cell hlt)).trans hu, ((hg.frozen_far ⟨B, c, none⟩ hl2 hne).trans (h2.frozen hlt)).trans (h.open_ c)⟩
theorem BsAt.slot {w W W2 w3 : World} {B k : Nat} {v : Value} (h : BsAt w B k v W) (h2 : Below W.heap.size W W2) (hg : W2.grownBy w3 v.ownBlock) (c : Nat) (hc : c < 256) (u u' : Value) (hu : W.cell? ⟨B, c, none⟩ = some u) (ob : Obj) :
    (((w3.setCell ⟨B, 256, none⟩ u').alloc ob).drew).cell? ⟨B, c, none⟩ = some u ∧ (((w3.setCell ⟨B, 256, none⟩ u').alloc ob).drew).frozen? ⟨B, c, none⟩ = false := by
  have hl : B < W.heap.size := World.block_lt_of_cell? W _ hu
  have hl3 : B < (w3.setCell ⟨B, 256, none⟩ u').heap.size := by have := h2.size; have := hg.size; simp; omega
  have hk := h.kept h2 hg c u hu
  constructor
  · show ((w3.setCell ⟨B, 256, none⟩ u').alloc ob).cell? _ = _
    rw [World.cell?_alloc_lt _ _ _ hl3, cell_other_off _ _ _ _ _ (by omega)]
    exact hk.1
  · show ((w3.setCell ⟨B, 256, none⟩ u').alloc ob).frozen? _ = _
    rw [World.frozen?_alloc_past _ _ _ hl3, World.frozen?_setCell]
    exact hk.2
theorem BsAt.next0 {w W W2 w3 : World} {B k : Nat} {v v' : Value} {o : Nat} {x : UInt8} {m : Nat} (h : BsAt w B k v W) (hp : pairs[k]? = some (o, x)) (h2 : Below W.heap.size W W2) (hg : W2.grownBy w3 v.ownBlock)
    (hown : w3.ownsRow w.heap.size 9 1 v' (k + 1) (((pairs.take k).map fun p => Value.string ⟨#[UInt8.ofNat p.1]⟩) ++ [.string ⟨#[UInt8.ofNat o]⟩])) (hat : v'.ownBlock = v.ownBlock ∨ v'.ownBlock = some W2.heap.size) (hm : 2 ≤ m ∧ m ≤ maxLen) (row : Array Value) (mk : Nat × Nat) (hr0 : row[0]? = some (.int .u8 92)) (hr1 : row[1]? = some (.int .u8 (x.toNat : Int))) :
    BsAt w B (k + 1) v' (((w3.setCell ⟨B, 256, none⟩ v').drew.alloc (.cells row 5 mk)).setCell ⟨B, o, none⟩ (.slice (some ⟨w3.heap.size, 0, none⟩) 2 m)) := by
  have htk : pairs.take (k + 1) = pairs.take k ++ [(o, x)] := by rw [List.take_add_one, hp]; rfl
  have hmem : (o, x) ∈ pairs := List.mem_of_getElem? hp
  have hklt : k < pairs.length := (List.getElem?_eq_some_iff.1 hp).1
  have ho : o < 256 := pairs_lt _ hmem
  have hBW : B < W.heap.size := World.block_lt_of_cell? W _ h.last
  have hW2 : W.heap.size ≤ W2.heap.size := h2.size
  have h3 : W2.heap.size ≤ w3.heap.size := hg.size
  have hfresh : ∀ q, q < W.heap.size → v.ownBlock ≠ some q → v'.ownBlock ≠ some q := by
    intro q hq hne e
    rcases hat with e2 | e2
    · exact hne (e2 ▸ e)
    · rw [e2] at e; simp only [Option.some.injEq] at e; omega
  have hBne : v'.ownBlock ≠ some B := hfresh B hBW h.ne
  have hv3 : ∀ q, v'.ownBlock = some q → q < w3.heap.size := by
    intro q hq
    rcases hown.2 with ⟨rfl, _⟩ | ⟨g, cap, cur, rfl, hbg, hg2, _⟩
    · simp [Value.ownBlock] at hq
    · simp only [Value.ownBlock, Option.some.injEq] at hq
      exact hq ▸ (Array.getElem?_eq_some_iff.1 hg2).1
  -- cells of an old block other than B
  have hold : ∀ q j u, q < W.heap.size → q ≠ B → v.ownBlock ≠ some q → W.cell? ⟨q, j, none⟩ = some u →
      (((w3.setCell ⟨B, 256, none⟩ v').drew.alloc (.cells row 5 mk)).setCell ⟨B, o, none⟩ (.slice (some ⟨w3.heap.size, 0, none⟩) 2 m)).cell? ⟨q, j, none⟩ = some u := by
    intro q j u hq hqB hqv hu
    rw [cell_far_set _ _ _ _ _ _ (fun e => hqB e.symm), World.cell?_alloc_lt _ _ _ (by show q < _; simp; omega), show ∀ a, (w3.setCell ⟨B, 256, none⟩ v').drew.cell? a = (w3.setCell ⟨B, 256, none⟩ v').cell? a from fun _ => rfl, cell_far_set _ _ _ _ _ _ (fun e => hqB e.symm)]
    exact ((hg.cell_far ⟨q, j, none⟩ (by show q < _; omega) (fun e => hqv e.symm)).trans (h2.cell hq)).trans hu
  have hB3 : B < (w3.setCell ⟨B, 256, none⟩ v').drew.heap.size := by simp; omega
  have hdc : ∀ a, (w3.setCell ⟨B, 256, none⟩ v').drew.cell? a = (w3.setCell ⟨B, 256, none⟩ v').cell? a := fun _ => rfl
  have hdf : ∀ a, (w3.setCell ⟨B, 256, none⟩ v').drew.frozen? a = (w3.setCell ⟨B, 256, none⟩ v').frozen? a := fun _ => rfl
  have hcells : ∀ c u, W.cell? ⟨B, c, none⟩ = some u → c ≠ 256 → c ≠ o →
      (((w3.setCell ⟨B, 256, none⟩ v').drew.alloc (.cells row 5 mk)).setCell ⟨B, o, none⟩ (.slice (some ⟨w3.heap.size, 0, none⟩) 2 m)).cell? ⟨B, c, none⟩ = some u := by
    intro c u hu h256 hco
    rw [cell_other_off _ _ _ _ _ (fun e => hco e.symm), World.cell?_alloc_lt _ _ _ hB3, hdc, cell_other_off _ _ _ _ _ (fun e => h256 e.symm)]
    exact (h.kept h2 hg c u hu).1
  have k256 := h.kept h2 hg 256 _ h.last
  have ko := h.kept h2 hg o _ (h.rest o ho (fun p hpt => pairs_ne hp hpt))
  refine ⟨?_, ?_, ?_, ?_, ?_, ?_, h.lo, hBne⟩
  · rw [htk, List.map_append]
    have e1 : (w3.setCell ⟨B, 256, none⟩ v').ownsRow w.heap.size 9 1 v' (k + 1) (((pairs.take k).map fun p => Value.string ⟨#[UInt8.ofNat p.1]⟩) ++ [.string ⟨#[UInt8.ofNat o]⟩]) := hown.kept (grown_setCell_own _ _ _) (.inr hBne)
    exact (World.ownsRow.alloc (w := (w3.setCell ⟨B, 256, none⟩ v').drew) (e1.kept (row := none) ⟨rfl, rfl, rfl, Nat.le_refl _, fun _ _ _ => rfl⟩ (by cases v'.ownBlock <;> simp)) _).kept (grown_setCell_own _ _ _) (.inr hBne)
  · intro p hp2
    rw [htk, List.mem_append] at hp2
    rcases hp2 with hp2 | hp2
    · obtain ⟨P, c, e1, e2, e3, e4, e5, e6, e7, e8⟩ := h.at_ p hp2
      have hPlt : P < W.heap.size := World.block_lt_of_cell? W _ e4
      have hne : p.1 ≠ o := pairs_ne hp hp2
      have hlt := pairs_lt p (List.mem_of_mem_take hp2)
      exact ⟨P, c, hcells _ _ e1 (by omega) hne, e2, e3, hold _ _ _ hPlt e7 e8 e4, hold _ _ _ hPlt e7 e8 e5, e6, e7, hfresh P hPlt e8⟩
    · rw [List.mem_singleton] at hp2
      subst hp2
      refine ⟨w3.heap.size, m, World.cell?_setCell_same _ _ _ (u := .slice none 0 0) ?_, hm.1, hm.2, ?_, ?_, ?_, by omega, fun e => by have := hv3 _ e; omega⟩
      · rw [World.cell?_alloc_lt _ _ _ hB3, hdc, cell_other_off _ _ _ _ _ (by omega)]
        exact ko.1
      · rw [cell_far_set _ _ _ _ _ _ (by simp; omega)]; exact (cell_of_row _ _ _ _ _ _ (heap_new_at (by simp))).trans hr0
      · rw [cell_far_set _ _ _ _ _ _ (by simp; omega)]; exact (cell_of_row _ _ _ _ _ _ (heap_new_at (by simp))).trans hr1
      · have := h.lo; omega
  · intro c hc hne
    refine hcells c _ (h.rest c hc (fun p hp2 => hne p (by rw [htk]; exact List.mem_append_left _ hp2))) (by omega) (fun e => hne (o, x) (by rw [htk]; simp) e.symm)
  · rw [cell_other_off _ _ _ _ _ (by omega), World.cell?_alloc_lt _ _ _ hB3, hdc]
    exact World.cell?_setCell_same _ _ _ k256.1
  · intro c
    rw [World.frozen?_setCell, World.frozen?_alloc_past _ _ _ hB3, hdf, World.frozen?_setCell]
    have := hg.frozen_far ⟨B, c, none⟩ (by show B < W2.heap.size; omega) (fun e => h.ne e.symm)
    rw [this, h2.frozen (show (⟨B, c, none⟩ : Addr).block < W.heap.size from hBW)]
    exact h.open_ c
  · have hb3 : Below w.heap.size w w3 := by
      have hl : w.heap.size ≤ W.heap.size := h.below.size
      have hb2 : Below w.heap.size w W2 := h.below.trans (h2.mono hl)
      refine ⟨hg.os.trans hb2.os, hg.tape.trans hb2.tape, hg.output.trans hb2.output, by omega, fun i hi => ?_⟩
      refine (hg.block i (by omega) (fun e => ?_)).trans (hb2.block i hi)
      rcases h.own.2 with ⟨rfl, _⟩ | ⟨g, cap, cur, rfl, hbg, _⟩
      · simp [Value.ownBlock] at e
      · simp only [Value.ownBlock, Option.some.injEq] at e; omega
    exact ((hb3.setCell (p := ⟨B, 256, none⟩) h.lo _).drew.alloc (by simp; have := hb3.size; omega) _).setCell (p := ⟨B, o, none⟩) h.lo _
theorem BsAt.next {w W W2 w3 : World} {B k : Nat} {v v' : Value} {o : Nat} {x : UInt8} {m : Nat} (h : BsAt w B k v W) (hp : pairs[k]? = some (o, x)) (h2 : Below W.heap.size W W2) (hg : W2.grownBy w3 v.ownBlock)
    (hown : w3.ownsRow w.heap.size 9 1 v' (k + 1) (((pairs.take k).map fun p => Value.string ⟨#[UInt8.ofNat p.1]⟩) ++ [.string ⟨#[UInt8.ofNat o]⟩])) (hat : v'.ownBlock = v.ownBlock ∨ v'.ownBlock = some W2.heap.size) (hm : 2 ≤ m ∧ m ≤ maxLen) (row : Array Value) (mk : Nat × Nat) (hr0 : row[0]? = some (.int .u8 92)) (hr1 : row[1]? = some (.int .u8 (x.toNat : Int))) :
    BsAt w B (k + 1) v' (((w3.setCell ⟨B, 256, none⟩ v').alloc (.cells row 5 mk)).setCell ⟨B, o, none⟩ (.slice (some ⟨w3.heap.size, 0, none⟩) 2 m)).drew :=
  BsAt.next0 h hp h2 hg hown hat hm row mk hr0 hr1
end Go.Proofs.YtejnoedlfbglcaaGreatDoor
namespace Go.Proofs.YtejnoedlfbglcaaGreatDoor
open Go.RowKit Mh
set_option linter.unusedVariables false

theorem one_back (w : World) (c : UInt8) : (convert 63 9 (.slice (some ⟨w.heap.size, 0, none⟩) 1 1)).run Tryz.prog (w.alloc (.cells #[.int .u8 (c.toNat : Int)] 5)) = .ok (.string ⟨#[c]⟩) (w.alloc (.cells #[.int .u8 (c.toNat : Int)] 5)) := by
  refine run_convert_bytes_back (P := Tryz.prog) (w.alloc (.cells #[.int .u8 (c.toNat : Int)] 5)) 63 9 5 ⟨w.heap.size, 0, none⟩ 1 [c] Tryz.underlying63 Tryz.underlying5 Tryz.underlying9 (fun j hj => ?_)
  have : j = 0 := by simpa using hj
  subst this
  exact cellT (heap_alloc_new _ _) rfl
theorem nil_bytes (w : World) : (binOp .eql 63 (.slice none 0 0) (.slice none 0 0)).run Tryz.prog w = .ok (.bool true) w := by kernel_rfl

set_option maxRecDepth 100000 in
set_option maxHeartbeats 16000000 in
theorem build_any (R q o oc : Nat) (w : World) (h4 : w.cell? ⟨R, 4, none⟩ = some (.slice (some ⟨q, o, none⟩) 8 oc)) (hq : ∀ i (h : i < 8), w.cell? ⟨q, o + i, none⟩ = some (.string (oldnew[i]'h))) :
    Calls Tryz.prog 113 #[.pointer (some ⟨R, 0, none⟩)] w fun e w' => ∃ B v, e = .returned (.iface 178 (.pointer (some ⟨B, 0, none⟩))) ∧ BsAt w B 4 v w' := by
  have hqb : q < w.heap.size := World.block_lt_of_cell? w _ (hq 0 (by omega))
  have HQ : Hid (∀ W, Below w.heap.size w W → W.cell? ⟨q, o, none⟩ = some (.string ⟨#[10]⟩) ∧ W.cell? ⟨q, o + 1, none⟩ = some (.string ⟨#[92, 110]⟩) ∧ W.cell? ⟨q, o + 2, none⟩ = some (.string ⟨#[9]⟩) ∧ W.cell? ⟨q, o + 3, none⟩ = some (.string ⟨#[92, 116]⟩) ∧ W.cell? ⟨q, o + 4, none⟩ = some (.string ⟨#[34]⟩) ∧ W.cell? ⟨q, o + 5, none⟩ = some (.string ⟨#[92, 34]⟩) ∧ W.cell? ⟨q, o + 6, none⟩ = some (.string ⟨#[92]⟩) ∧ W.cell? ⟨q, o + 7, none⟩ = some (.string ⟨#[92, 92]⟩)) := fun W hb =>
    ⟨(hb.cell (p := ⟨q, o, none⟩) hqb).trans (hq 0 (by omega)), (hb.cell (p := ⟨q, o + 1, none⟩) hqb).trans (hq 1 (by omega)), (hb.cell (p := ⟨q, o + 2, none⟩) hqb).trans (hq 2 (by omega)), (hb.cell (p := ⟨q, o + 3, none⟩) hqb).trans (hq 3 (by omega)), (hb.cell (p := ⟨q, o + 4, none⟩) hqb).trans (hq 4 (by omega)), (hb.cell (p := ⟨q, o + 5, none⟩) hqb).trans (hq 5 (by omega)), (hb.cell (p := ⟨q, o + 6, none⟩) hqb).trans (hq 6 (by omega)), (hb.cell (p := ⟨q, o + 7, none⟩) hqb).trans (hq 7 (by omega))⟩
  obtain ⟨c0, c1, c2, c3, c4, c5, c6, c7⟩ := HQ.out w (Below.refl _ _)
  obtain ⟨si, hsi, hs0, hs1, hs2⟩ := info_parts infoStr
  clear hq hqb
  go_enter Tryz.func113, Tryz.ntmps113
  go_wp2_with fail
  go_loopw [4, 5] (fun b i wr => wr = w ∧ ((b = .bool true ∧ i = .int .i64 0) ∨ (b = .bool false ∧ (i = .int .i64 2 ∨ i = .int .i64 4 ∨ i = .int .i64 6 ∨ i = .int .i64 8)))) (fun _ i _ => 8 - (intOf i).toNat)
  case atStart => exact ⟨rfl, .inl ⟨rfl, rfl⟩⟩
  case round =>
    obtain ⟨rfl, hrel⟩ := hrel
    rcases hrel with ⟨rfl, rfl⟩ | ⟨rfl, hi⟩
    · go_wp2_with fail
      go_roundw
      case rel => exact ⟨by first | trivial | rfl, .inr ⟨rfl, .inl rfl⟩⟩
      case measure => simp [intOf]
    rcases hi with rfl | rfl | rfl | rfl
    · go_wp2_with fail
      go_roundw
      case rel => exact ⟨by first | trivial | rfl, .inr ⟨rfl, .inr (.inl rfl)⟩⟩
      case measure => simp [intOf]
    · go_wp2_with fail
      go_roundw
      case rel => exact ⟨by first | trivial | rfl, .inr ⟨rfl, .inr (.inr (.inl rfl))⟩⟩
      case measure => simp [intOf]
    · go_wp2_with fail
      go_roundw
      case rel => exact ⟨by first | trivial | rfl, .inr ⟨rfl, .inr (.inr (.inr rfl))⟩⟩
      case measure => simp [intOf]
    · have hmk := bsr_mk
      have hst := bsr_store
      go_upto_region 27 with fail
      have HS := Lib.hid (BsAt.start wr)
      clear hmk hst c0 c1 c2 c3 c4 c5 c6 c7 h4
      obtain ⟨wo, rfl⟩ : ∃ wo : World, wo = wr := ⟨_, rfl⟩
      go_wp2_with fail
      go_loopw [12] (fun i wr => ∃ (k : Nat) (v : Value), i = .int .i64 (6 - 2 * (k : Int)) ∧ Hid (k ≤ 4 ∧ BsAt wo (wo.heap.size + 1) k v wr)) (fun i _ => (intOf i + 2).toNat)
      case atStart => exact ⟨0, _, rfl, ⟨by omega, HS.out⟩⟩
      case round =>
        clear HS
        obtain ⟨k, v, rfl, HK⟩ := hrel
        have hk4 := HK.out.1
        obtain ⟨va, vc, rfl⟩ := ownsRow_form HK.out.2.own
        obtain ⟨c0, c1, c2, c3, c4, c5, c6, c7⟩ := HQ.out wr HK.out.2.below
        have l256 := HK.out.2.last
        have ff := HK.out.2.open_
        have hk : k = 0 ∨ k = 1 ∨ k = 2 ∨ k = 3 ∨ k = 4 := by omega
        rcases hk with rfl | rfl | rfl | rfl | rfl
        · have hx : ((⟨#[92]⟩ : ByteArray)[0]'(by decide)).toNat = 92 := rfl
          have hcmp := nil_bytes wr
          have hcb : (convert 63 9 (.slice (some ⟨wr.heap.size, 0, none⟩) 1 1)).run Tryz.prog (wr.alloc (.cells #[.int .u8 92] 5)) = .ok (.string ⟨#[92]⟩) (wr.alloc (.cells #[.int .u8 92] 5)) := one_back wr 92
          have hcs := fun w => run_bytes_of_string (P := Tryz.prog) w 9 63 5 ⟨#[92, 92]⟩ Tryz.underlying9 Tryz.underlying63 Tryz.underlying5
          have n0 := HK.out.2.rest 92 (by omega) (by decide)
          have HOW := Lib.hid ((HK.out.2.own.alloc (.cells #[.int .u8 92] 5)).alloc (.cells #[.string ⟨#[92]⟩] 9))
          have HNEW : Hid (Sl 1 ((wr.alloc (.cells #[.int .u8 92] 5)).alloc (.cells #[.string ⟨#[92]⟩] 9)) (.slice (some ⟨wr.heap.size + 1, 0, none⟩) 1 1) 1 [.string ⟨#[92]⟩]) := by have := Sl.lit (wr.alloc (.cells #[.int .u8 92] 5)) [.string ⟨#[92]⟩] 9 1 rfl; rwa [show (wr.alloc (.cells #[.int .u8 92] 5)).heap.size = wr.heap.size + 1 by simp] at this
          have hbs : wo.heap.size ≤ ((wr.alloc (.cells #[.int .u8 92] 5)).alloc (.cells #[.string ⟨#[92]⟩] 9)).heap.size := by have := HK.out.2.below.size; simp; omega
          have HB2 := Lib.hid (((Below.refl _ wr).alloc (Nat.le_refl _) (.cells #[.int .u8 92] 5)).alloc (by simp) (.cells #[.string ⟨#[92]⟩] 9))
          have HKC : Hid (∀ (w3 : World), ((wr.alloc (.cells #[.int .u8 92] 5)).alloc (.cells #[.string ⟨#[92]⟩] 9)).grownBy w3 (Value.slice va 0 vc).ownBlock → w3.cell? ⟨wo.heap.size + 1, 256, none⟩ = some (.slice va 0 vc) ∧ w3.frozen? ⟨wo.heap.size + 1, 256, none⟩ = false ∧ w3.cell? ⟨wo.heap.size + 1, 92, none⟩ = some (.slice none 0 0) ∧ w3.frozen? ⟨wo.heap.size + 1, 92, none⟩ = false) := fun w3 hg => ⟨(HK.out.2.kept HB2.out hg _ _ l256).1, (HK.out.2.kept HB2.out hg _ _ l256).2, (HK.out.2.kept HB2.out hg _ _ n0).1, (HK.out.2.kept HB2.out hg _ _ n0).2⟩
          have HKD : Hid (∀ (w3 : World), ((wr.alloc (.cells #[.int .u8 92] 5)).alloc (.cells #[.string ⟨#[92]⟩] 9)).grownBy w3 (Value.slice va 0 vc).ownBlock → ∀ (u' : Value) (ob : Obj), (((w3.setCell ⟨wo.heap.size + 1, 256, none⟩ u').alloc ob).drew).cell? ⟨wo.heap.size + 1, 92, none⟩ = some (.slice none 0 0) ∧ (((w3.setCell ⟨wo.heap.size + 1, 256, none⟩ u').alloc ob).drew).frozen? ⟨wo.heap.size + 1, 92, none⟩ = false) := fun w3 hg u' ob => HK.out.2.slot HB2.out hg _ (by omega) _ u' n0 ob
          go_wp2_with (at_builtin; refine wpList_append_sl _ rfl _ _ 27 rfl wo.heap.size 9 si (.string ⟨#[]⟩) 1 16 Tryz.underlying27 hsi hs0 hs1 hs2 rfl (by decide) (.slice va 0 vc) 0 _ rfl HOW.out _ 1 _ rfl HNEW.out (by simp [Value.oneCell']) (by unfold maxLen; omega) (by omega) hbs ?_; intro v3 w3 hown3 hgr3 hat3; obtain ⟨a3, c3, rfl⟩ := ownsRow_form hown3; obtain ⟨p1, p2, p3, p4⟩ := HKC.out _ hgr3; have q3 := fun u' ob => (HKD.out _ hgr3 u' ob).1; have q4 := fun u' ob => (HKD.out _ hgr3 u' ob).2)
          go_roundw
          case rel => exact ⟨1, _, by first | rfl | simp, ⟨by omega, by exact BsAt.next HK.out.2 (o := 92) (x := 92) rfl HB2.out hgr3 hown3 (by first | exact hat3 | simpa using hat3) ⟨grownCap_ge _ _ _ _, grownCap_le_maxLen _ _ _ _ (by unfold maxLen; omega)⟩ _ _ (bytesRow_at _ _ 0 (by decide)) (bytesRow_at _ _ 1 (by decide))⟩⟩
          case measure => simp [intOf]
        · have hx : ((⟨#[34]⟩ : ByteArray)[0]'(by decide)).toNat = 34 := rfl
          have hcmp := nil_bytes wr
          have hcb : (convert 63 9 (.slice (some ⟨wr.heap.size, 0, none⟩) 1 1)).run Tryz.prog (wr.alloc (.cells #[.int .u8 34] 5)) = .ok (.string ⟨#[34]⟩) (wr.alloc (.cells #[.int .u8 34] 5)) := one_back wr 34
          have hcs := fun w => run_bytes_of_string (P := Tryz.prog) w 9 63 5 ⟨#[92, 34]⟩ Tryz.underlying9 Tryz.underlying63 Tryz.underlying5
          have n0 := HK.out.2.rest 34 (by omega) (by decide)
          have HOW := Lib.hid ((HK.out.2.own.alloc (.cells #[.int .u8 34] 5)).alloc (.cells #[.string ⟨#[34]⟩] 9))
          have HNEW : Hid (Sl 1 ((wr.alloc (.cells #[.int .u8 34] 5)).alloc (.cells #[.string ⟨#[34]⟩] 9)) (.slice (some ⟨wr.heap.size + 1, 0, none⟩) 1 1) 1 [.string ⟨#[34]⟩]) := by have := Sl.lit (wr.alloc (.cells #[.int .u8 34] 5)) [.string ⟨#[34]⟩] 9 1 rfl; rwa [show (wr.alloc (.cells #[.int .u8 34] 5)).heap.size = wr.heap.size + 1 by simp] at this
          have hbs : wo.heap.size ≤ ((wr.alloc (.cells #[.int .u8 34] 5)).alloc (.cells #[.string ⟨#[34]⟩] 9)).heap.size := by have := HK.out.2.below.size; simp; omega
          have HB2 := Lib.hid (((Below.refl _ wr).alloc (Nat.le_refl _) (.cells #[.int .u8 34] 5)).alloc (by simp) (.cells #[.string ⟨#[34]⟩] 9))
          have HKC : Hid (∀ (w3 : World), ((wr.alloc (.cells #[.int .u8 34] 5)).alloc (.cells #[.string ⟨#[34]⟩] 9)).grownBy w3 (Value.slice va 1 vc).ownBlock → w3.cell? ⟨wo.heap.size + 1, 256, none⟩ = some (.slice va 1 vc) ∧ w3.frozen? ⟨wo.heap.size + 1, 256, none⟩ = false ∧ w3.cell? ⟨wo.heap.size + 1, 34, none⟩ = some (.slice none 0 0) ∧ w3.frozen? ⟨wo.heap.size + 1, 34, none⟩ = false) := fun w3 hg => ⟨(HK.out.2.kept HB2.out hg _ _ l256).1, (HK.out.2.kept HB2.out hg _ _ l256).2, (HK.out.2.kept HB2.out hg _ _ n0).1, (HK.out.2.kept HB2.out hg _ _ n0).2⟩
          have HKD : Hid (∀ (w3 : World), ((wr.alloc (.cells #[.int .u8 34] 5)).alloc (.cells #[.string ⟨#[34]⟩] 9)).grownBy w3 (Value.slice va 1 vc).ownBlock → ∀ (u' : Value) (ob : Obj), (((w3.setCell ⟨wo.heap.size + 1, 256, none⟩ u').alloc ob).drew).cell? ⟨wo.heap.size + 1, 34, none⟩ = some (.slice none 0 0) ∧ (((w3.setCell ⟨wo.heap.size + 1, 256, none⟩ u').alloc ob).drew).frozen? ⟨wo.heap.size + 1, 34, none⟩ = false) := fun w3 hg u' ob => HK.out.2.slot HB2.out hg _ (by omega) _ u' n0 ob
          go_wp2_with (at_builtin; refine wpList_append_sl _ rfl _ _ 27 rfl wo.heap.size 9 si (.string ⟨#[]⟩) 1 16 Tryz.underlying27 hsi hs0 hs1 hs2 rfl (by decide) (.slice va 1 vc) 1 _ rfl HOW.out _ 1 _ rfl HNEW.out (by simp [Value.oneCell']) (by unfold maxLen; omega) (by omega) hbs ?_; intro v3 w3 hown3 hgr3 hat3; obtain ⟨a3, c3, rfl⟩ := ownsRow_form hown3; obtain ⟨p1, p2, p3, p4⟩ := HKC.out _ hgr3; have q3 := fun u' ob => (HKD.out _ hgr3 u' ob).1; have q4 := fun u' ob => (HKD.out _ hgr3 u' ob).2)
          go_roundw
          case rel => exact ⟨2, _, by first | rfl | simp, ⟨by omega, by exact BsAt.next HK.out.2 (o := 34) (x := 34) rfl HB2.out hgr3 hown3 (by first | exact hat3 | simpa using hat3) ⟨grownCap_ge _ _ _ _, grownCap_le_maxLen _ _ _ _ (by unfold maxLen; omega)⟩ _ _ (bytesRow_at _ _ 0 (by decide)) (bytesRow_at _ _ 1 (by decide))⟩⟩
          case measure => simp [intOf]
        · have hx : ((⟨#[9]⟩ : ByteArray)[0]'(by decide)).toNat = 9 := rfl
          have hcmp := nil_bytes wr
          have hcb : (convert 63 9 (.slice (some ⟨wr.heap.size, 0, none⟩) 1 1)).run Tryz.prog (wr.alloc (.cells #[.int .u8 9] 5)) = .ok (.string ⟨#[9]⟩) (wr.alloc (.cells #[.int .u8 9] 5)) := one_back wr 9
          have hcs := fun w => run_bytes_of_string (P := Tryz.prog) w 9 63 5 ⟨#[92, 116]⟩ Tryz.underlying9 Tryz.underlying63 Tryz.underlying5
          have n0 := HK.out.2.rest 9 (by omega) (by decide)
          have HOW := Lib.hid ((HK.out.2.own.alloc (.cells #[.int .u8 9] 5)).alloc (.cells #[.string ⟨#[9]⟩] 9))
          have HNEW : Hid (Sl 1 ((wr.alloc (.cells #[.int .u8 9] 5)).alloc (.cells #[.string ⟨#[9]⟩] 9)) (.slice (some ⟨wr.heap.size + 1, 0, none⟩) 1 1) 1 [.string ⟨#[9]⟩]) := by have := Sl.lit (wr.alloc (.cells #[.int .u8 9] 5)) [.string ⟨#[9]⟩] 9 1 rfl; rwa [show (wr.alloc (.cells #[.int .u8 9] 5)).heap.size = wr.heap.size + 1 by simp] at this
          have hbs : wo.heap.size ≤ ((wr.alloc (.cells #[.int .u8 9] 5)).alloc (.cells #[.string ⟨#[9]⟩] 9)).heap.size := by have := HK.out.2.below.size; simp; omega
          have HB2 := Lib.hid (((Below.refl _ wr).alloc (Nat.le_refl _) (.cells #[.int .u8 9] 5)).alloc (by simp) (.cells #[.string ⟨#[9]⟩] 9))
          have HKC : Hid (∀ (w3 : World), ((wr.alloc (.cells #[.int .u8 9] 5)).alloc (.cells #[.string ⟨#[9]⟩] 9)).grownBy w3 (Value.slice va 2 vc).ownBlock → w3.cell? ⟨wo.heap.size + 1, 256, none⟩ = some (.slice va 2 vc) ∧ w3.frozen? ⟨wo.heap.size + 1, 256, none⟩ = false ∧ w3.cell? ⟨wo.heap.size + 1, 9, none⟩ = some (.slice none 0 0) ∧ w3.frozen? ⟨wo.heap.size + 1, 9, none⟩ = false) := fun w3 hg => ⟨(HK.out.2.kept HB2.out hg _ _ l256).1, (HK.out.2.kept HB2.out hg _ _ l256).2, (HK.out.2.kept HB2.out hg _ _ n0).1, (HK.out.2.kept HB2.out hg _ _ n0).2⟩
          have HKD : Hid (∀ (w3 : World), ((wr.alloc (.cells #[.int .u8 9] 5)).alloc (.cells #[.string ⟨#[9]⟩] 9)).grownBy w3 (Value.slice va 2 vc).ownBlock → ∀ (u' : Value) (ob : Obj), (((w3.setCell ⟨wo.heap.size + 1, 256, none⟩ u').alloc ob).drew).cell? ⟨wo.heap.size + 1, 9, none⟩ = some (.slice none 0 0) ∧ (((w3.setCell ⟨wo.heap.size + 1, 256, none⟩ u').alloc ob).drew).frozen? ⟨wo.heap.size + 1, 9, none⟩ = false) := fun w3 hg u' ob => HK.out.2.slot HB2.out hg _ (by omega) _ u' n0 ob
          go_wp2_with (at_builtin; refine wpList_append_sl _ rfl _ _ 27 rfl wo.heap.size 9 si (.string ⟨#[]⟩) 1 16 Tryz.underlying27 hsi hs0 hs1 hs2 rfl (by decide) (.slice va 2 vc) 2 _ rfl HOW.out _ 1 _ rfl HNEW.out (by simp [Value.oneCell']) (by unfold maxLen; omega) (by omega) hbs ?_; intro v3 w3 hown3 hgr3 hat3; obtain ⟨a3, c3, rfl⟩ := ownsRow_form hown3; obtain ⟨p1, p2, p3, p4⟩ := HKC.out _ hgr3; have q3 := fun u' ob => (HKD.out _ hgr3 u' ob).1; have q4 := fun u' ob => (HKD.out _ hgr3 u' ob).2)
          go_roundw
          case rel => exact ⟨3, _, by first | rfl | simp, ⟨by omega, by exact BsAt.next HK.out.2 (o := 9) (x := 116) rfl HB2.out hgr3 hown3 (by first | exact hat3 | simpa using hat3) ⟨grownCap_ge _ _ _ _, grownCap_le_maxLen _ _ _ _ (by unfold maxLen; omega)⟩ _ _ (bytesRow_at _ _ 0 (by decide)) (bytesRow_at _ _ 1 (by decide))⟩⟩
          case measure => simp [intOf]
        · have hx : ((⟨#[10]⟩ : ByteArray)[0]'(by decide)).toNat = 10 := rfl
          have hcmp := nil_bytes wr
          have hcb : (convert 63 9 (.slice (some ⟨wr.heap.size, 0, none⟩) 1 1)).run Tryz.prog (wr.alloc (.cells #[.int .u8 10] 5)) = .ok (.string ⟨#[10]⟩) (wr.alloc (.cells #[.int .u8 10] 5)) := one_back wr 10
          have hcs := fun w => run_bytes_of_string (P := Tryz.prog) w 9 63 5 ⟨#[92, 110]⟩ Tryz.underlying9 Tryz.underlying63 Tryz.underlying5
          have n0 := HK.out.2.rest 10 (by omega) (by decide)
          have HOW := Lib.hid ((HK.out.2.own.alloc (.cells #[.int .u8 10] 5)).alloc (.cells #[.string ⟨#[10]⟩] 9))
          have HNEW : Hid (Sl 1 ((wr.alloc (.cells #[.int .u8 10] 5)).alloc (.cells #[.string ⟨#[10]⟩] 9)) (.slice (some ⟨wr.heap.size + 1, 0, none⟩) 1 1) 1 [.string ⟨#[10]⟩]) := by have := Sl.lit (wr.alloc (.cells #[.int .u8 10] 5)) [.string ⟨#[10]⟩] 9 1 rfl; rwa [show (wr.alloc (.cells #[.int .u8 10] 5)).heap.size = wr.heap.size + 1 by simp] at this
          have hbs : wo.heap.size ≤ ((wr.alloc (.cells #[.int .u8 10] 5)).alloc (.cells #[.string ⟨#[10]⟩] 9)).heap.size := by have := HK.out.2.below.size; simp; omega
          have HB2 := Lib.hid (((Below.refl _ wr).alloc (Nat.le_refl _) (.cells #[.int .u8 10] 5)).alloc (by simp) (.cells #[.string ⟨#[10]⟩] 9))
          have HKC : Hid (∀ (w3 : World), ((wr.alloc (.cells #[.int .u8 10] 5)).alloc (.cells #[.string ⟨#[10]⟩] 9)).grownBy w3 (Value.slice va 3 vc).ownBlock → w3.cell? ⟨wo.heap.size + 1, 256, none⟩ = some (.slice va 3 vc) ∧ w3.frozen? ⟨wo.heap.size + 1, 256, none⟩ = false ∧ w3.cell? ⟨wo.heap.size + 1, 10, none⟩ = some (.slice none 0 0) ∧ w3.frozen? ⟨wo.heap.size + 1, 10, none⟩ = false) := fun w3 hg => ⟨(HK.out.2.kept HB2.out hg _ _ l256).1, (HK.out.2.kept HB2.out hg _ _ l256).2, (HK.out.2.kept HB2.out hg _ _ n0).1, (HK.out.2.kept HB2.out hg _ _ n0).2⟩
          have HKD : Hid (∀ (w3 : World), ((wr.alloc (.cells #[.int .u8 10] 5)).alloc (.cells #[.string ⟨#[10]⟩] 9)).grownBy w3 (Value.slice va 3 vc).ownBlock → ∀ (u' : Value) (ob : Obj), (((w3.setCell ⟨wo.heap.size + 1, 256, none⟩ u').alloc ob).drew).cell? ⟨wo.heap.size + 1, 10, none⟩ = some (.slice none 0 0) ∧ (((w3.setCell ⟨wo.heap.size + 1, 256, none⟩ u').alloc ob).drew).frozen? ⟨wo.heap.size + 1, 10, none⟩ = false) := fun w3 hg u' ob => HK.out.2.slot HB2.out hg _ (by omega) _ u' n0 ob
          go_wp2_with (at_builtin; refine wpList_append_sl _ rfl _ _ 27 rfl wo.heap.size 9 si (.string ⟨#[]⟩) 1 16 Tryz.underlying27 hsi hs0 hs1 hs2 rfl (by decide) (.slice va 3 vc) 3 _ rfl HOW.out _ 1 _ rfl HNEW.out (by simp [Value.oneCell']) (by unfold maxLen; omega) (by omega) hbs ?_; intro v3 w3 hown3 hgr3 hat3; obtain ⟨a3, c3, rfl⟩ := ownsRow_form hown3; obtain ⟨p1, p2, p3, p4⟩ := HKC.out _ hgr3; have q3 := fun u' ob => (HKD.out _ hgr3 u' ob).1; have q4 := fun u' ob => (HKD.out _ hgr3 u' ob).2)
          go_roundw
          case rel => exact ⟨4, _, by first | rfl | simp, ⟨by omega, by exact BsAt.next HK.out.2 (o := 10) (x := 110) rfl HB2.out hgr3 hown3 (by first | exact hat3 | simpa using hat3) ⟨grownCap_ge _ _ _ _, grownCap_le_maxLen _ _ _ _ (by unfold maxLen; omega)⟩ _ _ (bytesRow_at _ _ 0 (by decide)) (bytesRow_at _ _ 1 (by decide))⟩⟩
          case measure => simp [intOf]
        · clear HQ
          go_wp2_with fail
          go_ret
          exact ⟨_, _, rfl, HK.out.2⟩
end Go.Proofs.YtejnoedlfbglcaaGreatDoor
namespace Go.Proofs.YtejnoedlfbglcaaGreatDoor
open Go.RowKit Mh
set_option linter.unusedVariables false

/-- The table at B, ready to be read. -/
structure Bsr (b0 : Nat) (W : World) (B : Nat) : Prop where
  at_ : ∀ p ∈ pairs, ∃ P c, W.cell? ⟨B, p.1, none⟩ = some (.slice (some ⟨P, 0, none⟩) 2 c) ∧ 2 ≤ c ∧ c ≤ maxLen ∧ W.cell? ⟨P, 0, none⟩ = some (.int .u8 92) ∧ W.cell? ⟨P, 1, none⟩ = some (.int .u8 (p.2.toNat : Int)) ∧ b0 ≤ P
  rest : ∀ c, c < 256 → (∀ p ∈ pairs, p.1 ≠ c) → W.cell? ⟨B, c, none⟩ = some (.slice none 0 0)
  last : ∃ g c, W.cell? ⟨B, 256, none⟩ = some (.slice (some ⟨g, 0, none⟩) 4 c) ∧ b0 ≤ g ∧ W.cell? ⟨g, 0, none⟩ = some (.string ⟨#[92]⟩) ∧ W.cell? ⟨g, 1, none⟩ = some (.string ⟨#[34]⟩) ∧ W.cell? ⟨g, 2, none⟩ = some (.string ⟨#[9]⟩) ∧ W.cell? ⟨g, 3, none⟩ = some (.string ⟨#[10]⟩)
  lo : b0 ≤ B
theorem Bsr.keep {b0 : Nat} {W W' : World} {B : Nat} (h : Bsr b0 W B) (hk : ∀ b, b0 ≤ b → b < W.heap.size → W'.heap[b]? = W.heap[b]?) : Bsr b0 W' B := by
  have hc : ∀ q j u, b0 ≤ q → W.cell? ⟨q, j, none⟩ = some u → W'.cell? ⟨q, j, none⟩ = some u := fun q j u hq hu =>
    (World.cell?_of_block (w := W) (a := ⟨q, j, none⟩) (hk q hq (World.block_lt_of_cell? W _ hu))).trans hu
  refine ⟨fun p hp => ?_, fun c hc2 hn => hc _ _ _ h.lo (h.rest c hc2 hn), ?_, h.lo⟩
  · obtain ⟨P, c, e1, e2, e3, e4, e5, e6⟩ := h.at_ p hp
    exact ⟨P, c, hc _ _ _ h.lo e1, e2, e3, hc _ _ _ e6 e4, hc _ _ _ e6 e5, e6⟩
  · obtain ⟨g, c, e1, e2, e3, e4, e5, e6⟩ := h.last
    exact ⟨g, c, hc _ _ _ h.lo e1, e2, hc _ _ _ e2 e3, hc _ _ _ e2 e4, hc _ _ _ e2 e5, hc _ _ _ e2 e6⟩
theorem BsAt.ready {w W : World} {B : Nat} {v : Value} (h : BsAt w B 4 v W) : Bsr w.heap.size W B := by
  have ht : pairs.take 4 = pairs := rfl
  refine ⟨fun p hp => ?_, fun c hc hn => h.rest c hc (by rw [ht]; exact hn), ?_, h.lo⟩
  · obtain ⟨P, c, e1, e2, e3, e4, e5, e6, _⟩ := h.at_ p (by rw [ht]; exact hp)
    exact ⟨P, c, e1, e2, e3, e4, e5, e6⟩
  · obtain ⟨g, c, hv⟩ : ∃ g c, v = .slice (some ⟨g, 0, none⟩) 4 c := by
      rcases h.own.2 with ⟨_, e⟩ | ⟨g, c, cur, e, _⟩
      · simp at e
      · exact ⟨g, c, e⟩
    subst hv
    have hl := h.last
    rcases h.own.2 with ⟨e, _⟩ | ⟨g', c', cur, e, hg, hh, _, _, _, ht4⟩
    · cases e
    · cases e
      have hcell : ∀ i u, ((pairs.take 4).map fun p => Value.string ⟨#[UInt8.ofNat p.1]⟩)[i]? = some u → i < 4 → W.cell? ⟨g, i, none⟩ = some u := by
        intro i u hu hi
        rw [cell_of_row _ _ _ _ _ _ hh]
        have : (cur.toList.take (4 * 1))[i]? = some u := by rw [ht4]; exact hu
        rw [List.getElem?_take, if_pos (by omega)] at this
        simpa using this
      exact ⟨g, c, hl, hg, hcell 0 _ rfl (by omega), hcell 1 _ rfl (by omega), hcell 2 _ rfl (by omega), hcell 3 _ rfl (by omega)⟩
/-- What a replacer's first use leaves. -/
structure Once (R : Nat) (w w' : World) : Prop where
  bsr : ∃ B, Bsr w.heap.size w' B ∧ w'.cell? ⟨R, 3, none⟩ = some (.iface 178 (.pointer (some ⟨B, 0, none⟩)))
  kept : Kept [R] w w'
  c0 : w'.cell? ⟨R, 0, none⟩ = w.cell? ⟨R, 0, none⟩
  c1 : w'.cell? ⟨R, 1, none⟩ = w.cell? ⟨R, 1, none⟩
  f : ∀ i, w'.frozen? ⟨R, i, none⟩ = w.frozen? ⟨R, i, none⟩
set_option maxRecDepth 100000 in
set_option maxHeartbeats 4000000 in
theorem buildOnce_any (R q o oc : Nat) (w : World) (x3 : Value) (h3 : w.cell? ⟨R, 3, none⟩ = some x3) (h4 : w.cell? ⟨R, 4, none⟩ = some (.slice (some ⟨q, o, none⟩) 8 oc)) (hq : ∀ i (h : i < 8), w.cell? ⟨q, o + i, none⟩ = some (.string (oldnew[i]'h)))
    (f3 : w.frozen? ⟨R, 3, none⟩ = false) (f4 : w.frozen? ⟨R, 4, none⟩ = false) :
    Calls Tryz.prog 95 #[.pointer (some ⟨R, 0, none⟩)] w fun e w' => e = .returned (.tuple #[]) ∧ Hid (Once R w w') := by
  have HC := Lib.hid (build_any R q o oc w h4 hq)
  have hR : R < w.heap.size := World.block_lt_of_cell? w _ h3
  have HK : Hid (∀ w1, Below w.heap.size w w1 → w1.cell? ⟨R, 3, none⟩ = some x3 ∧ w1.cell? ⟨R, 4, none⟩ = some (.slice (some ⟨q, o, none⟩) 8 oc) ∧ w1.frozen? ⟨R, 3, none⟩ = false ∧ w1.frozen? ⟨R, 4, none⟩ = false) := fun w1 hb =>
    ⟨(hb.cell (p := ⟨R, 3, none⟩) hR).trans h3, (hb.cell (p := ⟨R, 4, none⟩) hR).trans h4, (hb.frozen (p := ⟨R, 3, none⟩) hR).trans f3, (hb.frozen (p := ⟨R, 4, none⟩) hR).trans f4⟩
  clear h3 h4 hq f3 f4
  go_enter Tryz.func95, Tryz.ntmps95
  go_wp2_with (go_at_call 113; refine HC.out.mono ?_; rintro e w1 ⟨B, v, rfl, hb⟩; obtain ⟨z3, z4, y3, y4⟩ := HK.out _ hb.below)
  all_goals go_end0
  all_goals refine ⟨rfl, ?_⟩
  all_goals exact ⟨⟨B, hb.ready.keep (fun b h1 _ => by rw [heap_setCell_other _ _ _ _ (by show b ≠ R; omega), heap_setCell_other _ _ _ _ (by show b ≠ R; omega)]), (cell_other_off _ _ _ _ _ (by omega)).trans (World.cell?_setCell_same _ _ _ z3)⟩,
    ((Kept.of_below hb.below).set R 3 (by simp) _).set R 4 (by simp) _, (cell_other_off _ _ _ _ _ (by omega)).trans ((cell_other_off _ _ _ _ _ (by omega)).trans (hb.below.cell (p := ⟨R, 0, none⟩) hR)),
    (cell_other_off _ _ _ _ _ (by omega)).trans ((cell_other_off _ _ _ _ _ (by omega)).trans (hb.below.cell (p := ⟨R, 1, none⟩) hR)), fun i => by rw [World.frozen?_setCell, World.frozen?_setCell]; exact hb.below.frozen (p := ⟨R, i, none⟩) hR⟩
theorem load_not (a : Addr) (w : World) (h0 : w.cell? a = some (.int .u32 0)) : Calls Tryz.prog 111 #[.pointer (some a)] w fun e w' => e = .returned (.bool false) ∧ w' = w := by
  have hl := run_call_load (P := Tryz.prog) Tryz.func125 (by kernel_rfl) (by kernel_rfl) (by kernel_rfl) .u32 (by kernel_rfl) h0
  go_enter Tryz.func111, Tryz.ntmps111
  go_wp2
  all_goals go_ret
  all_goals exact ⟨rfl, rfl⟩
/-- What the first use leaves, from outside. -/
structure Used (R : Nat) (w w' : World) : Prop where
  bsr : ∃ B, Bsr w.heap.size w' B ∧ w'.cell? ⟨R, 3, none⟩ = some (.iface 178 (.pointer (some ⟨B, 0, none⟩)))
  kept : Kept [R] w w'
theorem Once.used {R : Nat} {w w2 : World} {u : Value} (h : Once R (w.setCell ⟨R, 1, none⟩ u) w2) (hR : R < w.heap.size) (x y : Value) : Used R w ((w2.drew.setCell ⟨R, 0, none⟩ x).setCell ⟨R, 1, none⟩ y) := by
  have hs : (w.setCell ⟨R, 1, none⟩ u).heap.size = w.heap.size := by simp
  obtain ⟨B, hb, h3⟩ := h.bsr
  rw [hs] at hb
  refine ⟨⟨B, hb.keep (fun b h1 _ => ?_), ?_⟩, ?_⟩
  · rw [heap_setCell_other _ _ _ _ (by show b ≠ R; omega), heap_setCell_other _ _ _ _ (by show b ≠ R; omega)]; rfl
  · exact (cell_other_off _ _ _ _ _ (by omega)).trans ((cell_other_off _ _ _ _ _ (by omega)).trans h3)
  · exact (((((Kept.refl [R] w).set R 1 (by simp) u).trans h.kept).drew).set R 0 (by simp) x).set R 1 (by simp) y
set_option maxRecDepth 100000 in
set_option maxHeartbeats 4000000 in
theorem slow_any (R q o oc : Nat) (w : World) (x3 : Value) (h0 : w.cell? ⟨R, 0, none⟩ = some (.int .u32 0)) (h1 : w.cell? ⟨R, 1, none⟩ = some (.int .i32 0)) (h3 : w.cell? ⟨R, 3, none⟩ = some x3) (h4 : w.cell? ⟨R, 4, none⟩ = some (.slice (some ⟨q, o, none⟩) 8 oc))
    (hq : ∀ i (h : i < 8), w.cell? ⟨q, o + i, none⟩ = some (.string (oldnew[i]'h))) (hqR : q ≠ R) (hf : ∀ i, w.frozen? ⟨R, i, none⟩ = false) :
    Calls Tryz.prog 112 #[.pointer (some ⟨R, 0, none⟩), .func (.func 95) #[.pointer (some ⟨R, 0, none⟩)] #[]] w fun e w' => e = .returned (.tuple #[]) ∧ Hid (Used R w w') := by
  have hR : R < w.heap.size := World.block_lt_of_cell? w _ h3
  have h01 : (w.setCell ⟨R, 1, none⟩ (.int .i32 1)).cell? ⟨R, 0, none⟩ = some (.int .u32 0) := (cell_other_off _ _ _ _ _ (by omega)).trans h0
  have HL := Lib.hid (load_not ⟨R, 0, none⟩ (w.setCell ⟨R, 1, none⟩ (.int .i32 1)) h01)
  have hnot : ∀ (x : Bool) (w : World), (Op.unary .not (.bool x)).run Tryz.prog w = .ok (.bool (!x)) w := fun _ _ => rfl
  have HB := Lib.hid (buildOnce_any R q o oc (w.setCell ⟨R, 1, none⟩ (.int .i32 1)) x3 ((cell_other_off _ _ _ _ _ (by omega)).trans h3) ((cell_other_off _ _ _ _ _ (by omega)).trans h4) (fun i h => (cell_far_set _ _ _ _ _ _ (fun e => hqR e.symm)).trans (hq i h)) (by rw [World.frozen?_setCell]; exact hf 3) (by rw [World.frozen?_setCell]; exact hf 4))
  have f1 := hf 1
  have HF := Lib.hid (fun w2 (ho : Once R (w.setCell ⟨R, 1, none⟩ (.int .i32 1)) w2) => show w2.cell? ⟨R, 0, none⟩ = some (.int .u32 0) ∧ w2.cell? ⟨R, 1, none⟩ = some (.int .i32 1) ∧ (∀ i, w2.frozen? ⟨R, i, none⟩ = false) from
    ⟨ho.c0.trans h01, ho.c1.trans (World.cell?_setCell_same _ _ _ h1), fun i => by rw [ho.f i, World.frozen?_setCell]; exact hf i⟩)
  clear h3 h4 hq h0 hf
  go_enter_defers Tryz.func112, Tryz.ntmps112
  go_wp2_with (first | (go_at_call 126; refine (lock_free ⟨R, 1, none⟩ _ h1 f1).mono ?_; rintro e w' ⟨rfl, rfl⟩) | (go_at_call 111; refine HL.out.mono ?_; rintro e w' ⟨rfl, rfl⟩) | (go_at_call 95; refine HB.out.mono ?_; rintro e w2 ⟨rfl, ho⟩; obtain ⟨d0, d1, df⟩ := HF.out _ ho.out))
  refine leaves_cons (f := 128) (args := #[.pointer (some ⟨R, 0, none⟩), .bool true]) (by simp) (by simp [go_sem]) ?_
  refine (store_deferred ⟨R, 0, none⟩ (.int .u32 0) .returning _ d0 (df 0)).mono ?_
  rintro e u' w'' ⟨rfl, rfl, rfl⟩
  refine leaves_cons (f := 127) (args := #[.pointer (some ⟨R, 1, none⟩)]) (by simp [settle]) (by simp [go_sem]) ?_
  refine (unlock_deferred ⟨R, 1, none⟩ _ (w2.drew.setCell ⟨R, 0, none⟩ (.int .u32 1)) ((cell_other_off w2.drew R 0 1 _ (by omega)).trans d1) ((World.frozen?_setCell w2.drew _ _ _).trans (df 1))).mono ?_
  rintro e u' w'' ⟨rfl, rfl, rfl⟩
  have hu := Lib.hid (ho.out.used hR (.int .u32 1) (.int .i32 0))
  simp [Leaves, settle, results, Tryz.results112]
  exact hu
set_option maxRecDepth 100000 in
set_option maxHeartbeats 4000000 in
theorem do_any (R q o oc : Nat) (w : World) (x3 : Value) (h0 : w.cell? ⟨R, 0, none⟩ = some (.int .u32 0)) (h1 : w.cell? ⟨R, 1, none⟩ = some (.int .i32 0)) (h3 : w.cell? ⟨R, 3, none⟩ = some x3) (h4 : w.cell? ⟨R, 4, none⟩ = some (.slice (some ⟨q, o, none⟩) 8 oc))
    (hq : ∀ i (h : i < 8), w.cell? ⟨q, o + i, none⟩ = some (.string (oldnew[i]'h))) (hqR : q ≠ R) (hf : ∀ i, w.frozen? ⟨R, i, none⟩ = false) :
    Calls Tryz.prog 94 #[.pointer (some ⟨R, 0, none⟩), .func (.func 95) #[.pointer (some ⟨R, 0, none⟩)] #[]] w fun e w' => e = .returned (.tuple #[]) ∧ Hid (Used R w w') := by
  have HL := Lib.hid (load_not ⟨R, 0, none⟩ w h0)
  have hnot : ∀ (x : Bool) (w : World), (Op.unary .not (.bool x)).run Tryz.prog w = .ok (.bool (!x)) w := fun _ _ => rfl
  have HS := Lib.hid (slow_any R q o oc w x3 h0 h1 h3 h4 hq hqR hf)
  clear h0 h1 h3 h4 hq hf
  go_enter Tryz.func94, Tryz.ntmps94
  go_wp2_with (first | (go_at_call 111; refine HL.out.mono ?_; rintro e w' ⟨rfl, rfl⟩) | (go_at_call 112; refine HS.out.mono ?_; rintro e w2 ⟨rfl, ho⟩))
  all_goals go_end0
  all_goals exact ⟨rfl, ho⟩
end Go.Proofs.YtejnoedlfbglcaaGreatDoor
namespace Go.Proofs.YtejnoedlfbglcaaGreatDoor
open Go.RowKit Mh
set_option linter.unusedVariables false

structure Rpl (b0 : Nat) (W : World) (R : Nat) : Prop where
  c0 : W.cell? ⟨R, 0, none⟩ = some (.int .u32 0)
  c1 : W.cell? ⟨R, 1, none⟩ = some (.int .i32 0)
  c3 : W.cell? ⟨R, 3, none⟩ = some Value.nilIface
  f : ∀ i, W.frozen? ⟨R, i, none⟩ = false
  lo : b0 ≤ R
  c4 : ∃ q c, W.cell? ⟨R, 4, none⟩ = some (.slice (some ⟨q, 0, none⟩) 8 c) ∧ q ≠ R ∧ ∀ i (h : i < 8), W.cell? ⟨q, 0 + i, none⟩ = some (.string (oldnew[i]'h))
theorem Rpl.mk_ {w W : World} {v : Value} (hown : W.ownsRow w.heap.size 9 1 v 8 (oldnew.map Value.string)) (hl : w.heap.size ≤ W.heap.size) : Rpl w.heap.size (W.alloc (.cells #[.int .u32 0, .int .i32 0, .int .u32 0, Value.nilIface, v] 135)) W.heap.size := by
  have hb := heap_alloc_new W (.cells #[.int .u32 0, .int .i32 0, .int .u32 0, Value.nilIface, v] 135)
  refine ⟨cellT hb rfl, cellT hb rfl, cellT hb rfl, fun i => frozenT hb, hl, ?_⟩
  rcases hown.2 with ⟨_, e⟩ | ⟨g, c, cur, rfl, hg, hh, _, _, _, ht⟩
  · simp at e
  · have hlt := (Array.getElem?_eq_some_iff.1 hh).1
    refine ⟨g, c, cellT hb rfl, by omega, fun i hi => ?_⟩
    rw [Nat.zero_add, World.cell?_alloc_lt _ _ _ hlt, cell_of_row _ _ _ _ _ _ hh]
    have : (cur.toList.take (8 * 1))[i]? = some (Value.string (oldnew[i]'hi)) := by rw [ht, List.getElem?_map, List.getElem?_eq_getElem hi]; rfl
    rw [List.getElem?_take, if_pos (by omega)] at this
    simpa using this
set_option maxRecDepth 100000 in
set_option maxHeartbeats 4000000 in
theorem new_any (u : Value) (w : World) (h : Sl 1 w u 8 (oldnew.map Value.string)) :
    Calls Tryz.prog 82 #[u] w fun e w' => ∃ R, e = .returned (.pointer (some ⟨R, 0, none⟩)) ∧ Hid (Rpl w.heap.size w' R) ∧ Below w.heap.size w w' := by
  obtain ⟨si, hsi, hs0, hs1, hs2⟩ := info_parts infoStr
  obtain ⟨ua, uc, rfl⟩ : ∃ ua uc, u = .slice ua 8 uc := by
    rcases h.2 with ⟨e, _⟩ | ⟨b, o, c, e, _⟩
    · cases e
    · exact ⟨_, _, e⟩
  have HS := Lib.hid h
  clear h
  go_enter Tryz.func82, Tryz.ntmps82
  go_wp2_with (at_builtin; refine wpList_append_sl _ rfl _ _ 27 rfl w.heap.size 9 si (.string ⟨#[]⟩) 1 16 Tryz.underlying27 hsi hs0 hs1 hs2 rfl (by decide) (.slice none 0 0) 0 [] rfl (World.ownsRow_nil _ _ _ _) _ 8 _ rfl HS.out (by simp [oldnew, Value.oneCell']) (by unfold maxLen; omega) (by omega) (Nat.le_refl _) ?_; intro v3 w3 hown3 hgr3 hat3; obtain ⟨a3, c3, rfl⟩ := ownsRow_form hown3)
  have hb3 : Below w.heap.size w w3 := (Below.refl _ w).grown hgr3 (Nat.le_refl _) (fun k e => by cases e)
  go_ret
  exact ⟨_, rfl, Rpl.mk_ (by simpa using hown3) hb3.size, hb3.alloc hb3.size _⟩
end Go.Proofs.YtejnoedlfbglcaaGreatDoor
