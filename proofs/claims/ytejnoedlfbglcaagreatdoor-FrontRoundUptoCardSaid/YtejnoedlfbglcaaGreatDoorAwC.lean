/- conf.Parse of "=" fails: the scanner's part. No conditions. · conf.Parse of "=", and awakeConf. No conditions. · awakeConf returns true. No conditions. -/
import Derived.Test.YtejnoedlfbglcaaGreatDoorProg
import Derived.Test.YtejnoedlfbglcaaGreatDoorShelf
import Derived.Test.YtejnoedlfbglcaaGreatDoorKept
import Derived.Deep.QuietTactic
import Derived.BigQuiet
import Derived.RegionTactic
import Derived.ChangeAlike
import Derived.Outline
import Derived.BigRegion
import Derived.Deep.RegionHeld3
namespace Go.Proofs.YtejnoedlfbglcaaGreatDoor
open Go.RowKit Mh
set_option linter.unusedVariables false

/-- A parser at the one sign, its error e. -/
abbrev cRd (e : Int) : Obj := .cells #[.string ⟨#[61]⟩, .int .i64 0, .int .i64 0, .int .i64 0, .string ⟨#[]⟩, .int .i64 0, .int .i64 e, .int .i64 1] 71 (0, 0)

theorem cfail_8 (b : Nat) (w : World) (h : w.heap[b]? = some (cRd 0)) :
    Calls Tryz.prog 46 #[.pointer (some ⟨b, 0, none⟩), .int .i64 0, .int .i64 8] w fun e w' => e = .returned (.tuple #[]) ∧ w'.heap[b]? = some (cRd 8) ∧ Kept [b] w w' := by
  have c6 : w.cell? ⟨b, 6, none⟩ = some (.int .i64 0) := cellT h rfl
  have c5 : w.cell? ⟨b, 5, none⟩ = some (.int .i64 0) := cellT h rfl
  have f5 : w.frozen? ⟨b, 5, none⟩ = false := frozenT h
  have f6 : w.frozen? ⟨b, 6, none⟩ = false := frozenT h
  have H := Lib.hid h
  clear h
  go_enter Tryz.func46, Tryz.ntmps46
  go_wp2
  go_end0
  refine ⟨rfl, ?_, ?_⟩
  · exact heap_setCell_same _ _ 6 _ _ _ (heap_setCell_same _ _ 5 _ _ _ H.out)
  · exact ((Kept.refl [b] w).set b 5 (by simp) _).set b 6 (by simp) _

theorem cIsControl_61 (w : World) : Calls Tryz.prog 45 #[.int .u8 61] w fun e w' => e = .returned (.bool false) ∧ w = w' := by
  go_enter Tryz.func45, Tryz.ntmps45
  go_wp2_with fail
  go_ret
  exact ⟨rfl, rfl⟩
theorem cIsSmall_61 (w : World) : Calls Tryz.prog 65 #[.int .u8 61] w fun e w' => e = .returned (.bool false) ∧ w = w' := by
  go_enter Tryz.func65, Tryz.ntmps65
  go_wp2_with fail
  go_ret
  exact ⟨rfl, rfl⟩
theorem cIsDigit_61 (w : World) : Calls Tryz.prog 66 #[.int .u8 61] w fun e w' => e = .returned (.bool false) ∧ w = w' := by
  go_enter Tryz.func66, Tryz.ntmps66
  go_wp2_with fail
  go_ret
  exact ⟨rfl, rfl⟩
theorem cIsWord_61 (w : World) : Calls Tryz.prog 62 #[.int .u8 61] w fun e w' => e = .returned (.bool false) ∧ w = w' := by
  go_enter Tryz.func62, Tryz.ntmps62
  go_wp2_with (first | (go_at_call 65; refine (cIsSmall_61 _).mono ?_; rintro e w' ⟨rfl, rfl⟩) | (go_at_call 66; refine (cIsDigit_61 _).mono ?_; rintro e w' ⟨rfl, rfl⟩))
  go_ret
  exact ⟨rfl, rfl⟩

theorem idx61 (w : World) : Calls Tryz.prog 64 #[.string ⟨#[91, 93, 123, 125, 59]⟩, .int .u8 61] w fun e w' => e = .returned (.int .i64 (-1)) ∧ w' = w := by
  have h := Tryz.strings_IndexByte ⟨#[91, 93, 123, 125, 59]⟩ 61 w
  have e : Lib.indexByte (⟨#[91, 93, 123, 125, 59]⟩ : ByteArray).data.toList (61 : Int).toNat.toUInt8 = -1 := by decide
  rw [e] at h
  exact h

set_option maxRecDepth 100000 in
theorem cread_61 (b : Nat) (w : World) (h : w.heap[b]? = some (cRd 0)) :
    Calls Tryz.prog 47 #[.pointer (some ⟨b, 0, none⟩), .int .u8 61] w fun e w' => e = .returned (.tuple #[]) ∧ w'.heap[b]? = some (cRd 8) ∧ Kept [b] w w' := by
  have c1 : w.cell? ⟨b, 1, none⟩ = some (.int .i64 0) := cellT h rfl
  have HF := Lib.hid (cfail_8 b w h)
  clear h
  go_enter Tryz.func47, Tryz.ntmps47
  go_wp2_with (first | (go_at_call 62; refine (cIsWord_61 _).mono ?_; rintro e w' ⟨rfl, rfl⟩) | (go_at_call 64; refine (idx61 _).mono ?_; rintro e w' ⟨rfl, rfl⟩))
  refine HF.out.mono ?_
  rintro e w1 ⟨rfl, h1, hb1⟩
  go_wp2_with fail
  go_end0
  exact ⟨rfl, h1, hb1⟩

set_option maxRecDepth 100000 in
theorem cnext_61 (b : Nat) (w : World) (h : w.heap[b]? = some (cRd 0)) :
    Calls Tryz.prog 30 #[.pointer (some ⟨b, 0, none⟩), .bool false] w fun e w' => e = .returned (.tuple #[]) ∧ w'.heap[b]? = some (cRd 8) ∧ Kept [b] w w' := by
  have c0 : w.cell? ⟨b, 0, none⟩ = some (.string ⟨#[61]⟩) := cellT h rfl
  have c1 : w.cell? ⟨b, 1, none⟩ = some (.int .i64 0) := cellT h rfl
  have HF := Lib.hid (fun n => cread_61 b (w.drewN n) h)
  clear h
  go_enter Tryz.func30, Tryz.ntmps30
  go_wp2_with fail
  refine wp_loop_rounds 1 ?_
  rw [rounds_succ]
  go_wp2_with fail
  go_quiet (fail)
  go_wp2_with fail
  go_quiet (fail)
  go_wp2_with (go_at_call 45; refine (cIsControl_61 _).mono ?_; rintro e w' ⟨rfl, rfl⟩)
  refine (HF.out _).mono ?_
  rintro e w1 ⟨rfl, h1, hb1⟩
  have HB := Lib.hid hb1
  clear hb1
  go_wp2_with fail
  refine bodyPost_ret (v := .tuple #[]) (by simp [results, Tryz.results30, go_sem]) rfl ⟨rfl, h1, ?_⟩
  exact ((Kept.refl _ _).drewN _).trans HB.out

abbrev zVal (k : Int) : Array Value := #[.int .i64 k, .bool false, .int .i64 0, .string ⟨#[]⟩, .slice none 0 0, .slice none 0 0]
theorem vcells {k : Int} {w : World} {g : Nat} (h : w.heap[g]? = some (.cells (zVal k) 29 (0, 0))) :
    w.cell? ⟨g, 0, none⟩ = some (.int .i64 k) ∧ w.cell? ⟨g, 1, none⟩ = some (.bool false) ∧ w.cell? ⟨g, 2, none⟩ = some (.int .i64 0) ∧ w.cell? ⟨g, 3, none⟩ = some (.string ⟨#[]⟩) ∧ w.cell? ⟨g, 4, none⟩ = some (.slice none 0 0) ∧
    w.cell? ⟨g, 5, none⟩ = some (.slice none 0 0) ∧ ∀ i, w.frozen? ⟨g, i, none⟩ = false :=
  ⟨cellT h rfl, cellT h rfl, cellT h rfl, cellT h rfl, cellT h rfl, cellT h rfl, fun i => frozenT h⟩

set_option maxRecDepth 100000 in
theorem centries_8 (b : Nat) (w : World) (h : w.heap[b]? = some (cRd 8)) :
    Calls Tryz.prog 31 #[.pointer (some ⟨b, 0, none⟩), .int .i64 0, .int .i64 1] w fun e w' => e = .returned (.agg (zVal 6)) ∧ Kept [] w w' := by
  have hlt : b < w.heap.size := (Array.getElem?_eq_some_iff.1 h).1
  have c6 : w.cell? ⟨b, 6, none⟩ = some (.int .i64 8) := cellT h rfl
  clear h
  go_enter Tryz.func31, Tryz.ntmps31
  go_wp2_with fail
  refine wp_loop_rounds 1 ?_
  rw [rounds_succ]
  go_wp2_with fail
  refine bodyPost_ret (v := .agg (zVal 6)) (by simp [results, Tryz.results31, go_sem]) rfl ⟨rfl, ?_⟩
  exact ((Kept.refl _ _).alloc _).alloc _

theorem cposition_0 (w : World) :
    Calls Tryz.prog 32 #[.string ⟨#[61]⟩, .int .i64 0] w fun e w' => e = .returned (.agg #[.int .i64 1, .int .i64 1]) ∧ w' = w.alloc (.cells #[.int .i64 1, .int .i64 1] 40) := by
  have h1 := fun w => Tryz.strings_Count_one ⟨#[]⟩ 10 w
  have e1 : Lib.countByte (⟨#[]⟩ : ByteArray).data.toList 10 = 0 := by decide
  rw [e1] at h1
  have h2 := fun w => Tryz.strings_LastIndexByte ⟨#[]⟩ 10 (by decide) w
  have e2 : Lib.lastIndexByte ⟨#[]⟩ 10 = -1 := by decide
  rw [e2] at h2
  have H1 := Lib.hid h1
  have H2 := Lib.hid h2
  clear h1 h2 e1 e2
  go_enter Tryz.func32, Tryz.ntmps32
  go_wp2_with (first | (go_at_call 51; refine (H1.out _).mono ?_; rintro e w' ⟨rfl, rfl⟩) | (go_at_call 52; refine (H2.out _).mono ?_; rintro e w' ⟨rfl, rfl⟩))
  refine bodyPost_ret (v := .agg #[.int .i64 1, .int .i64 1]) (by simp [results, Tryz.results32, go_sem]) rfl ⟨rfl, rfl⟩
end Go.Proofs.YtejnoedlfbglcaaGreatDoor
namespace Go.Proofs.YtejnoedlfbglcaaGreatDoor
open Go.RowKit Mh
set_option linter.unusedVariables false

def Tz (g : Nat) (w : World) : Prop := w.heap[g]? = some (.cells (zVal 0) 29 (0, 0))
def Pp (g : Nat) (a b : Int) (w : World) : Prop := w.heap[g]? = some (.cells #[.int .i64 a, .int .i64 b] 40 (0, 0))
theorem tz_drew {g : Nat} {w : World} (h : Tz g w) : Tz g w.drew := h
theorem tz_alloc {g : Nat} {w : World} {o : Obj} (h : Tz g w) : Tz g (w.alloc o) := (heap_alloc_old _ _ (Array.getElem?_eq_some_iff.1 h).1).trans h
theorem tz_far {g b i : Nat} {v : Value} {w : World} (hb : g ≠ b) (h : Tz g w) : Tz g (w.setCell ⟨b, i, none⟩ v) := (heap_setCell_other _ _ _ _ hb).trans h
theorem tz0 {g : Nat} {w : World} (h : Tz g w) : Tz g (w.setCell ⟨g, 0, none⟩ (.int .i64 0)) := heap_setCell_same _ _ 0 _ _ _ h
theorem tz1 {g : Nat} {w : World} (h : Tz g w) : Tz g (w.setCell ⟨g, 1, none⟩ (.bool false)) := heap_setCell_same _ _ 1 _ _ _ h
theorem tz2 {g : Nat} {w : World} (h : Tz g w) : Tz g (w.setCell ⟨g, 2, none⟩ (.int .i64 0)) := heap_setCell_same _ _ 2 _ _ _ h
theorem tz3 {g : Nat} {w : World} (h : Tz g w) : Tz g (w.setCell ⟨g, 3, none⟩ (.string ⟨#[]⟩)) := heap_setCell_same _ _ 3 _ _ _ h
theorem tz4 {g : Nat} {w : World} (h : Tz g w) : Tz g (w.setCell ⟨g, 4, none⟩ (.slice none 0 0)) := heap_setCell_same _ _ 4 _ _ _ h
theorem tz5 {g : Nat} {w : World} (h : Tz g w) : Tz g (w.setCell ⟨g, 5, none⟩ (.slice none 0 0)) := heap_setCell_same _ _ 5 _ _ _ h
theorem pp_drew {g : Nat} {a b : Int} {w : World} (h : Pp g a b w) : Pp g a b w.drew := h
theorem pp_alloc {g : Nat} {a b : Int} {w : World} {o : Obj} (h : Pp g a b w) : Pp g a b (w.alloc o) := (heap_alloc_old _ _ (Array.getElem?_eq_some_iff.1 h).1).trans h
theorem pp_far {g c i : Nat} {a b : Int} {v : Value} {w : World} (hb : g ≠ c) (h : Pp g a b w) : Pp g a b (w.setCell ⟨c, i, none⟩ v) := (heap_setCell_other _ _ _ _ hb).trans h
theorem pp0 {g : Nat} {a b x : Int} {w : World} (h : Pp g x b w) : Pp g a b (w.setCell ⟨g, 0, none⟩ (.int .i64 a)) := heap_setCell_same _ _ 0 _ _ _ h
theorem pp1 {g : Nat} {a b x : Int} {w : World} (h : Pp g a x w) : Pp g a b (w.setCell ⟨g, 1, none⟩ (.int .i64 b)) := heap_setCell_same _ _ 1 _ _ _ h

set_option maxRecDepth 100000 in
set_option maxHeartbeats 20000000 in
theorem parse_eq (w : World) :
    Calls Tryz.prog 12 #[.string ⟨#[61]⟩] w fun e w' => e = .returned (.tuple #[.agg (zVal 0), .agg #[.int .i64 1, .int .i64 1], .int .i64 8]) ∧ Below w.heap.size w w' := by
  have HN := Lib.hid (fun b w' (hh : w'.heap[b]? = some (cRd 0)) => cnext_61 b w' hh)
  have HE := Lib.hid (fun b w' (hh : w'.heap[b]? = some (cRd 8)) => centries_8 b w' hh)
  have HP := Lib.hid (fun w => cposition_0 w)
  go_enter Tryz.func12, Tryz.ntmps12
  go_wp2_with fail
  refine (HN.out (w.heap.size + 2) _ (heap_new_at (by simp))).mono ?_
  rintro e w1 ⟨rfl, h1, hb1⟩
  have hz1 : w.heap.size + 2 < w1.heap.size := by have := hb1.size; simp at this; omega
  have hT1 : w1.heap[w.heap.size]? = some (.cells (zVal 0) 29 (0, 0)) := (hb1.block _ (by simp; omega) (by simp)).trans ((heap_alloc_old _ _ (by simp; omega)).trans ((heap_alloc_old _ _ (by simp)).trans (heap_alloc_new _ _)))
  have hP1 : w1.heap[w.heap.size + 1]? = some (.cells #[.int .i64 0, .int .i64 0] 40 (0, 0)) := (hb1.block _ (by simp) (by simp)).trans ((heap_alloc_old _ _ (by simp)).trans (heap_new_at (by simp)))
  have HB1 : Hid (Below w.heap.size w w1) := ((((Below.refl w.heap.size w).alloc (Nat.le_refl _) _).alloc (by simp) _).alloc (by simp; omega) _).trans (hb1.below (by simp; omega) (by simp))
  have HT1 := Lib.hid hT1
  have HP1 := Lib.hid hP1
  have H1 := Lib.hid h1
  clear hb1 hT1 hP1 h1
  go_wp2_with fail
  refine (HE.out (w.heap.size + 2) _ H1.out).mono ?_
  rintro e w2 ⟨rfl, hb2⟩
  obtain ⟨w3, hw3⟩ : ∃ w3, w3 = w2.alloc (.cells (zVal 6) 29) := ⟨_, rfl⟩
  have hz2 : w.heap.size + 2 < w2.heap.size := by have := hb2.size; omega
  have hz3 : w.heap.size + 2 < w3.heap.size := by rw [hw3]; simp; omega
  have hz3c : w.heap.size + 1 + 1 < w3.heap.size := by omega
  have hz3a : w.heap.size < w3.heap.size := by omega
  have hz3b : w.heap.size + 1 < w3.heap.size := by omega
  have hK : Hid (Kept [] w1 w3) := by rw [hw3]; exact hb2.alloc _
  have hT3 := (hK.out.block w.heap.size (by omega) (by simp)).trans HT1.out
  have hP3 := (hK.out.block (w.heap.size + 1) (by omega) (by simp)).trans HP1.out
  have hR3 := (hK.out.block (w.heap.size + 2) hz1 (by simp)).trans H1.out
  have HB3 : Hid (Below w.heap.size w w3) := HB1.out.trans (hK.out.below (by omega) (by simp))
  have HTz : Tz w.heap.size w3 := hT3
  have HPp : Pp (w.heap.size + 1) 0 0 w3 := hP3
  have c5 : w3.cell? ⟨w.heap.size + 1 + 1, 5, none⟩ = some (.int .i64 0) := cellT hR3 rfl
  have c6 : w3.cell? ⟨w.heap.size + 1 + 1, 6, none⟩ = some (.int .i64 8) := cellT hR3 rfl
  obtain ⟨r0, r1, r2, r3, r4, r5, g0⟩ := vcells hT3
  have p0 : w3.cell? ⟨w.heap.size + 1, 0, none⟩ = some (.int .i64 0) := cellT hP3 rfl
  have p1 : w3.cell? ⟨w.heap.size + 1, 1, none⟩ = some (.int .i64 0) := cellT hP3 rfl
  have q0 : w3.frozen? ⟨w.heap.size + 1, 0, none⟩ = false := frozenT hP3
  have q1 : w3.frozen? ⟨w.heap.size + 1, 1, none⟩ = false := frozenT hP3
  have f0 := g0 0
  have f1 := g0 1
  have f2 := g0 2
  have f3 := g0 3
  have f4 := g0 4
  have f5 := g0 5
  have d6 : w2.cell? ⟨w.heap.size + 1 + 1, 6, none⟩ = some (.int .i64 8) := cellT ((hb2.block (w.heap.size + 2) hz1 (by simp)).trans H1.out) rfl
  have HW3 := Lib.hid hw3
  clear g0 hb2 hT3 hP3 hR3 hw3
  go_wp2_with fail
  rw [← HW3.out]
  go_region_with (go_at_call 32; ((with_reducible refine (HP.out _).mono ?_); rintro e w4 ⟨rfl, rfl⟩))
  all_goals
    clear HN HE HP H1 HT1 HP1 HB1 hK HW3 c5 c6 d6
    go_simp
    rename_i hk
    refine hk _ _ ?_
    clear hk
    refine wp_ret ?_
    show bodyPost Tryz.prog Tryz.f12 (fun e w' => e = .returned (.tuple #[.agg (zVal 0), .agg #[.int .i64 1, .int .i64 1], .int .i64 8]) ∧ Below w.heap.size w w') Exit.ret _ _
    generalize hwf : World.drew _ = wf
    have hT : Tz w.heap.size wf := by
      rw [← hwf]
      repeat (first | with_reducible refine tz_drew ?_ | with_reducible refine tz_alloc ?_ | with_reducible refine tz0 ?_ | with_reducible refine tz1 ?_ | with_reducible refine tz2 ?_ | with_reducible refine tz3 ?_ | with_reducible refine tz4 ?_ | with_reducible refine tz5 ?_ | with_reducible refine tz_far (by omega) ?_)
      exact HTz
    have hP : Pp (w.heap.size + 1) 1 1 wf := by
      rw [← hwf]
      repeat (first | with_reducible refine pp_drew ?_ | with_reducible refine pp_alloc ?_ | with_reducible refine pp0 (x := 0) ?_ | with_reducible refine pp1 (x := 0) ?_ | with_reducible refine pp_far (by omega) ?_)
      exact HPp
    have hB : Below w.heap.size w wf := by
      rw [← hwf]
      repeat (first | with_reducible refine Below.drew ?_ | with_reducible refine Below.setCell ?_ (by simp) _ | with_reducible refine Below.alloc ?_ (by simp; omega) _)
      exact HB3.out
    clear hwf r0 r1 r2 r3 r4 r5 p0 p1 q0 q1 f0 f1 f2 f3 f4 f5 HTz HPp HB3
    unfold Tz at hT
    unfold Pp at hP
    obtain ⟨r0, r1, r2, r3, r4, r5, g0⟩ := vcells hT
    have p0 : wf.cell? ⟨w.heap.size + 1, 0, none⟩ = some (.int .i64 1) := cellT hP rfl
    have p1 : wf.cell? ⟨w.heap.size + 1, 1, none⟩ = some (.int .i64 1) := cellT hP rfl
    refine bodyPost_ret (v := .tuple #[.agg (zVal 0), .agg #[.int .i64 1, .int .i64 1], .int .i64 8]) ?_ rfl ⟨rfl, hB⟩
    simp [results, Tryz.results12, go_sem, r0, r1, r2, r3, r4, r5, p0, p1]
end Go.Proofs.YtejnoedlfbglcaaGreatDoor
namespace Go.Proofs.YtejnoedlfbglcaaGreatDoor
open Go.RowKit Mh
set_option linter.unusedVariables false
theorem awakeConf_any (w : World) : Calls Tryz.prog 7 #[] w fun e w' => e = .returned (.bool true) ∧ Below w.heap.size w w' := by
  go_enter Tryz.func7, Tryz.ntmps7
  go_wp2_with fail
  refine (parse_eq w).mono ?_
  rintro e w1 ⟨rfl, hb⟩
  have HB := Lib.hid hb
  have hz := hb.size
  clear hb
  go_wp2_with fail
  go_ret
  refine ⟨rfl, ?_⟩
  first
    | exact HB.out
    | exact HB.out.alloc hz _
    | exact (HB.out.alloc hz _).alloc (by simp; omega) _
end Go.Proofs.YtejnoedlfbglcaaGreatDoor
