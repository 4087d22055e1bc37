/- list.Pager: what it returns. No conditions beyond those that each states. -/
import Derived.Test.YtkcbnmhdaaokhaaDoorProg
import Derived.Test.YtkcbnmhdaaokhaaDoorApk
import Derived.Test.YtkcbnmhdaaokhaaDoorSl
import Derived.Test.YtkcbnmhdaaokhaaDoorPagP
import Derived.Outline
namespace Go.Proofs.YtkcbnmhdaaokhaaDoor
open Go.RowKit Mh
set_option linter.unusedVariables false

theorem infoPart : (Tryd.prog.info? 64).map (fun i => (i.zero, i.size, i.bytes)) = some (some (.agg #[.int .i64 0, .int .i64 0, .int .i64 0]), 3, 24) := by kernel_rfl

theorem pager_bad (many size : Int) (w : World) (h : many < 0 ∨ 2000 < many ∨ size < 1 ∨ 2000 < size) :
    Calls Tryd.prog 25 #[.int .i64 many, .int .i64 size] w fun e w' => e = .returned (.tuple #[.slice none 0 0, .int .i64 2]) ∧ w = w' := by
  by_cases h1 : many < 0
  · clear h
    go_enter Tryd.func25, Tryd.ntmps25
    go_wp2
    go_ret2
    exact ⟨rfl, rfl⟩
  by_cases h2 : 2000 < many
  · clear h
    go_enter Tryd.func25, Tryd.ntmps25
    go_wp2
    go_ret2
    exact ⟨rfl, rfl⟩
  by_cases h3 : size < 1
  · clear h
    go_enter Tryd.func25, Tryd.ntmps25
    go_wp2
    go_ret2
    exact ⟨rfl, rfl⟩
  have h4 : 2000 < size := by omega
  clear h
  go_enter Tryd.func25, Tryd.ntmps25
  go_wp2
  go_ret2
  exact ⟨rfl, rfl⟩

/-- What Pager returns where it returns parts. -/
def PagOk (many size : Nat) (w : World) (e : Ending) (w' : World) : Prop :=
  ∃ (K : Nat) (v : Value), e = .returned (.tuple #[v, .int .i64 0]) ∧ Below w.heap.size w w' ∧ Sl 3 w' v K (partsC many size K) ∧ 1 ≤ K ∧ (K = 1 ∨ (K - 1) * size < many) ∧ many ≤ K * size

theorem pag_num (k : Nat) : ((k : Int) + 1) = ((k + 1 : Nat) : Int) := by simp
set_option maxRecDepth 100000 in
set_option maxHeartbeats 1000000 in
theorem pager_ok (many size : Nat) (w : World) (hm : many ≤ 2000) (hs : 1 ≤ size) (hs2 : size ≤ 2000) :
    Calls Tryd.prog 25 #[.int .i64 many, .int .i64 size] w (PagOk many size w) := by
  obtain ⟨i0, hi, hz0, hz1, hz2⟩ := info_parts infoPart
  go_enter Tryd.func25, Tryd.ntmps25
  go_wp2
  go_loopw [6, 7] (fun v f wr => ∃ k F : Nat, k ≤ 2001 ∧ F ≤ 4000 ∧ Hid (F = k * size ∧ (k = 0 ∨ k = 1 ∨ (k - 1) * size < many)) ∧ f = .int .i64 F ∧ wr.ownsRow w.heap.size 64 3 v k (partsC many size k) ∧ Below w.heap.size w wr ∧ w.heap.size ≤ wr.heap.size)
    (fun _ f _ => 4001 - (intOf f).toNat)
  case atStart => exact ⟨0, 0, by omega, by omega, ⟨by simp, .inl rfl⟩, rfl, World.ownsRow_nil _ _ _ _, Below.refl _ _, Nat.le_refl _⟩
  case round =>
    obtain ⟨k, F, hk, hF, HK, rfl, hown, hbr, hzr⟩ := hrel
    obtain ⟨ao, c, rfl⟩ := ownsRow_form hown
    by_cases hlt : F < many
    · have hk2 : k ≤ 2000 := by
        have h := HK.out.1
        have := Nat.mul_le_mul_left k hs
        omega
      go_wp2_with (at_builtin; refine wpList_appendK hbr rfl _ _ 60 rfl 64 i0 (.agg #[.int .i64 0, .int .i64 0, .int .i64 0]) 3 24 Tryd.underlying60 hi hz0 hz1 hz2 rfl (by decide) _ _ _ rfl hown _ rfl rfl (by simp [Value.oneCell']) (by unfold maxLen; omega) (by omega) (Nat.le_refl _) hzr ?_; intro v' w' hown' hbel' hsz')
      go_roundw
      case rel =>
        refine ⟨k + 1, F + size, by omega, by omega, ⟨by have h := HK.out.1; rw [Nat.succ_mul]; omega, .inr (.inr (by have h := HK.out.1; rw [Nat.add_sub_cancel]; omega))⟩, by go_num, ?_, hbel', hsz'⟩
        rw [partsC_succ]
        unfold partC
        rw [← HK.out.1]
        simpa using hown'
      case measure => simp [intOf]; omega
    · by_cases hk0 : k = 0
      · subst hk0
        obtain rfl : F = 0 := by have := HK.out.1; simpa using this
        go_wp2_with (at_builtin; refine wpList_appendK hbr rfl _ _ 60 rfl 64 i0 (.agg #[.int .i64 0, .int .i64 0, .int .i64 0]) 3 24 Tryd.underlying60 hi hz0 hz1 hz2 rfl (by decide) _ _ _ rfl hown _ rfl rfl (by simp [Value.oneCell']) (by unfold maxLen; omega) (by omega) (Nat.le_refl _) hzr ?_; intro v' w' hown' hbel' hsz')
        go_roundw
        case rel =>
          refine ⟨1, size, by omega, by omega, ⟨by simp, .inr (.inl rfl)⟩, by go_num, ?_, hbel', hsz'⟩
          show w'.ownsRow _ _ 3 v' 1 (partsC many size 0 ++ partC many size 0)
          unfold partC
          simpa using hown'
        case measure => simp [intOf]; omega
      · have hF0 : 0 < F := by have h := HK.out.1; have := Nat.mul_le_mul (show 1 ≤ k by omega) hs; omega
        have HS := Lib.hid (Sl.of_own hown (by decide))
        have HB := Lib.hid hbr
        go_wp2_with fail
        go_ret2
        exact ⟨k, _, rfl, HB.out, HS.out, by omega, HK.out.2.resolve_left hk0, by have h := HK.out.1; omega⟩
end Go.Proofs.YtkcbnmhdaaokhaaDoor
