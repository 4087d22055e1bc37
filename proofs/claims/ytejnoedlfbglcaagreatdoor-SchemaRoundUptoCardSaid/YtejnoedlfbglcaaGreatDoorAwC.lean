/- conf.Parse of "=" fails: the scanner's part. No conditions. -/
import Derived.Test.YtejnoedlfbglcaaGreatDoorProg
import Derived.Test.YtejnoedlfbglcaaGreatDoorShelf
import Derived.Test.YtejnoedlfbglcaaGreatDoorKept
import Derived.Deep.QuietTactic
import Derived.BigQuiet
import Derived.RegionTactic
import Derived.ChangeAlike
import Derived.Outline
namespace Go.Proofs.YtejnoedlfbglcaaGreatDoor
open Go.RowKit Mh
set_option linter.unusedVariables false

/-- A parser at the one sign, its error e. -/
abbrev cRd (e : Int) : Obj := .cells #[.string ⟨#[61]⟩, .int .i64 0, .int .i64 0, .int .i64 0, .string ⟨#[]⟩, .int .i64 0, .int .i64 e, .int .i64 1] 71 (0, 0)

theorem cfail_8 (b : Nat) (w : World) (h : w.heap[b]? = some (cRd 0)) :
    Calls Tryz.prog 46 #[.pointer (some ⟨b, 0, none⟩), .int .i64 0, .int .i64 8] w fun e w' => e = .returned (.tuple #[]) ∧ w'.heap[b]? = some (cRd 8) ∧ Kept [b] w w' := by
  have c6 : w.cell? ⟨b, 6, none⟩ = some (.int .i64 0) := cellT h rfl
  have c5 : w.cell? ⟨b, 5, none⟩ = some (.int .i64 0) := cellT h rfl
  have f5 : w.frozen? ⟨b, 5, none⟩ = false := frozenT h
  have f6 : w.frozen? ⟨b, 6, none⟩ = false := frozenT h
  have H := Lib.hid h
  clear h
  go_enter Tryz.func46, Tryz.ntmps46
  go_wp2
  go_end0
  refine ⟨rfl, ?_, ?_⟩
  · exact heap_setCell_same _ _ 6 _ _ _ (heap_setCell_same _ _ 5 _ _ _ H.out)
  · exact ((Kept.refl [b] w).set b 5 (by simp) _).set b 6 (by simp) _

theorem cIsControl_61 (w : World) : Calls Tryz.prog 45 #[.int .u8 61] w fun e w' => e = .returned (.bool false) ∧ w = w' := by
  go_enter Tryz.func45, Tryz.ntmps45
  go_wp2_with fail
  go_ret
  exact ⟨rfl, rfl⟩
theorem cIsSmall_61 (w : World) : Calls Tryz.prog 65 #[.int .u8 61] w fun e w' => e = .returned (.bool false) ∧ w = w' := by
  go_enter Tryz.func65, Tryz.ntmps65
  go_wp2_with fail
  go_ret
  exact ⟨rfl, rfl⟩
theorem cIsDigit_61 (w : World) : Calls Tryz.prog 66 #[.int .u8 61] w fun e w' => e = .returned (.bool false) ∧ w = w' := by
  go_enter Tryz.func66, Tryz.ntmps66
  go_wp2_with fail
  go_ret
  exact ⟨rfl, rfl⟩
theorem cIsWord_61 (w : World) : Calls Tryz.prog 62 #[.int .u8 61] w fun e w' => e = .returned (.bool false) ∧ w = w' := by
  go_enter Tryz.func62, Tryz.ntmps62
  go_wp2_with (first | (go_at_call 65; refine (cIsSmall_61 _).mono ?_; rintro e w' ⟨rfl, rfl⟩) | (go_at_call 66; refine (cIsDigit_61 _).mono ?_; rintro e w' ⟨rfl, rfl⟩))
  go_ret
  exact ⟨rfl, rfl⟩

theorem idx61 (w : World) : Calls Tryz.prog 64 #[.string ⟨#[91, 93, 123, 125, 59]⟩, .int .u8 61] w fun e w' => e = .returned (.int .i64 (-1)) ∧ w' = w := by
  have h := Tryz.strings_IndexByte ⟨#[91, 93, 123, 125, 59]⟩ 61 w
  have e : Lib.indexByte (⟨#[91, 93, 123, 125, 59]⟩ : ByteArray).data.toList (61 : Int).toNat.toUInt8 = -1 := by decide
  rw [e] at h
  exact h

set_option maxRecDepth 100000 in
theorem cread_61 (b : Nat) (w : World) (h : w.heap[b]? = some (cRd 0)) :
    Calls Tryz.prog 47 #[.pointer (some ⟨b, 0, none⟩), .int .u8 61] w fun e w' => e = .returned (.tuple #[]) ∧ w'.heap[b]? = some (cRd 8) ∧ Kept [b] w w' := by
  have c1 : w.cell? ⟨b, 1, none⟩ = some (.int .i64 0) := cellT h rfl
  have HF := Lib.hid (cfail_8 b w h)
  clear h
  go_enter Tryz.func47, Tryz.ntmps47
  go_wp2_with (first | (go_at_call 62; refine (cIsWord_61 _).mono ?_; rintro e w' ⟨rfl, rfl⟩) | (go_at_call 64; refine (idx61 _).mono ?_; rintro e w' ⟨rfl, rfl⟩))
  refine HF.out.mono ?_
  rintro e w1 ⟨rfl, h1, hb1⟩
  go_wp2_with fail
  go_end0
  exact ⟨rfl, h1, hb1⟩

set_option maxRecDepth 100000 in
theorem cnext_61 (b : Nat) (w : World) (h : w.heap[b]? = some (cRd 0)) :
    Calls Tryz.prog 30 #[.pointer (some ⟨b, 0, none⟩), .bool false] w fun e w' => e = .returned (.tuple #[]) ∧ w'.heap[b]? = some (cRd 8) ∧ Kept [b] w w' := by
  have c0 : w.cell? ⟨b, 0, none⟩ = some (.string ⟨#[61]⟩) := cellT h rfl
  have c1 : w.cell? ⟨b, 1, none⟩ = some (.int .i64 0) := cellT h rfl
  have HF := Lib.hid (fun n => cread_61 b (w.drewN n) h)
  clear h
  go_enter Tryz.func30, Tryz.ntmps30
  go_wp2_with fail
  refine wp_loop_rounds 1 ?_
  rw [rounds_succ]
  go_wp2_with fail
  go_quiet (fail)
  go_wp2_with fail
  go_quiet (fail)
  go_wp2_with (go_at_call 45; refine (cIsControl_61 _).mono ?_; rintro e w' ⟨rfl, rfl⟩)
  refine (HF.out _).mono ?_
  rintro e w1 ⟨rfl, h1, hb1⟩
  have HB := Lib.hid hb1
  clear hb1
  go_wp2_with fail
  refine bodyPost_ret (v := .tuple #[]) (by simp [results, Tryz.results30, go_sem]) rfl ⟨rfl, h1, ?_⟩
  exact ((Kept.refl _ _).drewN _).trans HB.out

abbrev zVal (k : Int) : Array Value := #[.int .i64 k, .bool false, .int .i64 0, .string ⟨#[]⟩, .slice none 0 0, .slice none 0 0]
theorem vcells {k : Int} {w : World} {g : Nat} (h : w.heap[g]? = some (.cells (zVal k) 29 (0, 0))) :
    w.cell? ⟨g, 0, none⟩ = some (.int .i64 k) ∧ w.cell? ⟨g, 1, none⟩ = some (.bool false) ∧ w.cell? ⟨g, 2, none⟩ = some (.int .i64 0) ∧ w.cell? ⟨g, 3, none⟩ = some (.string ⟨#[]⟩) ∧ w.cell? ⟨g, 4, none⟩ = some (.slice none 0 0) ∧
    w.cell? ⟨g, 5, none⟩ = some (.slice none 0 0) ∧ ∀ i, w.frozen? ⟨g, i, none⟩ = false :=
  ⟨cellT h rfl, cellT h rfl, cellT h rfl, cellT h rfl, cellT h rfl, cellT h rfl, fun i => frozenT h⟩

set_option maxRecDepth 100000 in
theorem centries_8 (b : Nat) (w : World) (h : w.heap[b]? = some (cRd 8)) :
    Calls Tryz.prog 31 #[.pointer (some ⟨b, 0, none⟩), .int .i64 0, .int .i64 1] w fun e w' => e = .returned (.agg (zVal 6)) ∧ Kept [] w w' := by
  have hlt : b < w.heap.size := (Array.getElem?_eq_some_iff.1 h).1
  have c6 : w.cell? ⟨b, 6, none⟩ = some (.int .i64 8) := cellT h rfl
  clear h
  go_enter Tryz.func31, Tryz.ntmps31
  go_wp2_with fail
  refine wp_loop_rounds 1 ?_
  rw [rounds_succ]
  go_wp2_with fail
  refine bodyPost_ret (v := .agg (zVal 6)) (by simp [results, Tryz.results31, go_sem]) rfl ⟨rfl, ?_⟩
  exact ((Kept.refl _ _).alloc _).alloc _

theorem cposition_0 (w : World) :
    Calls Tryz.prog 32 #[.string ⟨#[61]⟩, .int .i64 0] w fun e w' => e = .returned (.agg #[.int .i64 1, .int .i64 1]) ∧ w' = w.alloc (.cells #[.int .i64 1, .int .i64 1] 40) := by
  have h1 := fun w => Tryz.strings_Count_one ⟨#[]⟩ 10 w
  have e1 : Lib.countByte (⟨#[]⟩ : ByteArray).data.toList 10 = 0 := by decide
  rw [e1] at h1
  have h2 := fun w => Tryz.strings_LastIndexByte ⟨#[]⟩ 10 (by decide) w
  have e2 : Lib.lastIndexByte ⟨#[]⟩ 10 = -1 := by decide
  rw [e2] at h2
  have H1 := Lib.hid h1
  have H2 := Lib.hid h2
  clear h1 h2 e1 e2
  go_enter Tryz.func32, Tryz.ntmps32
  go_wp2_with (first | (go_at_call 51; refine (H1.out _).mono ?_; rintro e w' ⟨rfl, rfl⟩) | (go_at_call 52; refine (H2.out _).mono ?_; rintro e w' ⟨rfl, rfl⟩))
  refine bodyPost_ret (v := .agg #[.int .i64 1, .int .i64 1]) (by simp [results, Tryz.results32, go_sem]) rfl ⟨rfl, rfl⟩
end Go.Proofs.YtejnoedlfbglcaaGreatDoor
