/- conf.digits at widths 4 and 2; dayString, DayString. Conditions: the number is at most 9999. -/
import Derived.Test.YtkcbnmhdaaokhaaDoorDay2
import Derived.Outline
namespace Go.Proofs.YtkcbnmhdaaokhaaDoor
open Go.RowKit Mh Mh.Cal
set_option linter.unusedVariables false

theorem byteI (k : Nat) (z : Int) (h : z = k) : UInt8.ofNat z.toNat = UInt8.ofNat k := by subst h; rfl
theorem digs2_nums (y : Nat) : strOfNums [48 + (y : Int) / 10 % 10, 48 + (y : Int) % 10] = ⟨(digs y 2).toArray⟩ := by
  rw [digs2]
  simp only [strOfNums, List.map_cons, List.map_nil]
  rw [← byteI (48 + y / 10 % 10) (48 + (y : Int) / 10 % 10) rfl, ← byteI (48 + y % 10) (48 + (y : Int) % 10) rfl]
theorem digs4_nums (y : Nat) : strOfNums [48 + (y : Int) / 10 / 10 / 10 % 10, 48 + (y : Int) / 10 / 10 % 10, 48 + (y : Int) / 10 % 10, 48 + (y : Int) % 10] = ⟨(digs y 4).toArray⟩ := by
  have e : digs y 4 = [UInt8.ofNat (48 + y / 10 / 10 / 10 % 10), UInt8.ofNat (48 + y / 10 / 10 % 10), UInt8.ofNat (48 + y / 10 % 10), UInt8.ofNat (48 + y % 10)] := rfl
  rw [e]
  simp only [strOfNums, List.map_cons, List.map_nil]
  rw [← byteI (48 + y / 10 / 10 / 10 % 10) (48 + (y : Int) / 10 / 10 / 10 % 10) rfl, ← byteI (48 + y / 10 / 10 % 10) (48 + (y : Int) / 10 / 10 % 10) rfl, ← byteI (48 + y / 10 % 10) (48 + (y : Int) / 10 % 10) rfl, ← byteI (48 + y % 10) (48 + (y : Int) % 10) rfl]
theorem four_cells (a b c d : Int) (k : Nat) (h : k < 4) : (#[Value.int .u8 a, .int .u8 b, .int .u8 c, .int .u8 d] : Array Value)[k]? = some (.int .u8 ([a, b, c, d].getD k 0)) := by
  match k, h with
  | 0, _ => rfl
  | 1, _ => rfl
  | 2, _ => rfl
  | 3, _ => rfl

set_option maxRecDepth 100000 in
theorem digits2 (y : Nat) (w : World) (h : y ≤ 9999) : Calls Tryd.prog 83 #[.int .i64 y, .int .i64 2] w fun e w' => e = .returned (.string ⟨(digs y 2).toArray⟩) ∧ Below w.heap.size w w' := by
  have hmk : ∀ w : World, (Instr.makeSlice 169 (.int .i64 2) (.int .i64 2)).run Tryd.prog w = .ok (.slice (some ⟨w.heap.size, 0, none⟩) 2 2) (w.alloc (.cells #[.int .u8 0, .int .u8 0] 5)) := fun _ => by kernel_rfl
  have hcv := run_convert_bytes_arg (P := Tryd.prog) (w.alloc (.cells #[.int .u8 (48 + (y : Int) / 10 % 10), .int .u8 (48 + (y : Int) % 10)] 5)) 169 5 Tryd.underlying169 Tryd.underlying5 w.heap.size 0 2 2 [48 + (y : Int) / 10 % 10, 48 + (y : Int) % 10] rfl
    (fun i hi => by rw [Nat.zero_add]; match i, hi with | 0, _ => exact cellT (heap_alloc_new _ _) rfl | 1, _ => exact cellT (heap_alloc_new _ _) rfl) 9 Tryd.underlying9
  rw [digs2_nums] at hcv
  generalize (⟨(digs y 2).toArray⟩ : ByteArray) = S at *
  go_enter Tryd.func83, Tryd.ntmps83
  go_wp2_with fail
  refine wp_loop_rounds 3 ?_
  rw [rounds_succ]
  go_wp2_with fail
  rw [rounds_succ]
  go_wp2_with fail
  rw [rounds_succ]
  go_wp2_with fail
  go_ret
  exact ⟨rfl, (Below.refl _ _).alloc (Nat.le_refl _) _⟩

set_option maxRecDepth 100000 in
theorem digits4 (y : Nat) (w : World) (h : y ≤ 9999) : Calls Tryd.prog 83 #[.int .i64 y, .int .i64 4] w fun e w' => e = .returned (.string ⟨(digs y 4).toArray⟩) ∧ Below w.heap.size w w' := by
  have hmk : ∀ w : World, (Instr.makeSlice 169 (.int .i64 4) (.int .i64 4)).run Tryd.prog w = .ok (.slice (some ⟨w.heap.size, 0, none⟩) 4 4) (w.alloc (.cells #[.int .u8 0, .int .u8 0, .int .u8 0, .int .u8 0] 5)) := fun _ => by kernel_rfl
  have hcv := run_convert_bytes_arg (P := Tryd.prog) (w.alloc (.cells #[.int .u8 (48 + (y : Int) / 10 / 10 / 10 % 10), .int .u8 (48 + (y : Int) / 10 / 10 % 10), .int .u8 (48 + (y : Int) / 10 % 10), .int .u8 (48 + (y : Int) % 10)] 5)) 169 5 Tryd.underlying169 Tryd.underlying5 w.heap.size 0 4 4 [48 + (y : Int) / 10 / 10 / 10 % 10, 48 + (y : Int) / 10 / 10 % 10, 48 + (y : Int) / 10 % 10, 48 + (y : Int) % 10] rfl
    (fun i hi => by rw [Nat.zero_add]; match i, hi with | 0, _ => exact cellT (heap_alloc_new _ _) rfl | 1, _ => exact cellT (heap_alloc_new _ _) rfl | 2, _ => exact cellT (heap_alloc_new _ _) rfl | 3, _ => exact cellT (heap_alloc_new _ _) rfl) 9 Tryd.underlying9
  rw [digs4_nums] at hcv
  generalize (⟨(digs y 4).toArray⟩ : ByteArray) = S at *
  go_enter Tryd.func83, Tryd.ntmps83
  go_wp2_with fail
  refine wp_loop_rounds 5 ?_
  rw [rounds_succ]
  go_wp2_with fail
  rw [rounds_succ]
  go_wp2_with fail
  rw [rounds_succ]
  go_wp2_with fail
  rw [rounds_succ]
  go_wp2_with fail
  rw [rounds_succ]
  go_wp2_with fail
  go_ret
  exact ⟨rfl, (Below.refl _ _).alloc (Nat.le_refl _) _⟩
end Go.Proofs.YtkcbnmhdaaokhaaDoor
