/- same: whether two values are one by their order. -/
import Derived.Test.YtejnoedlfbglcaaGreatDoorCmp
namespace Go.Proofs.YtejnoedlfbglcaaGreatDoor
open Go.RowKit Mh
set_option linter.unusedVariables false

theorem same_any (X Y : V) (cs ds : List Value) (w : World) (hX : VAt w X cs) (hY : VAt w Y ds) :
    Calls Tryz.prog 9 #[.agg cs.toArray, .agg ds.toArray] w fun e w' => e = .returned (.bool (V.cmp X Y == 0)) ∧ Below w.heap.size w w' := by
  have C := Lib.hid (fun w' (hb : Below w.heap.size w w') => cmp_any _ X (Nat.lt_succ_self _) Y cs ds w' (hX.keep hb) (hY.keep hb))
  obtain ⟨a0, a1, a2, a3, a4, a5, rfl⟩ := six hX.length
  obtain ⟨b0, b1, b2, b3, b4, b5, rfl⟩ := six hY.length
  generalize V.cmp X Y = z at *
  have HB : Hid (Below w.heap.size w ((w.alloc (.cells #[a0, a1, a2, a3, a4, a5] 29)).alloc (.cells #[b0, b1, b2, b3, b4, b5] 29))) := ((Below.refl w.heap.size w).alloc (Nat.le_refl _) _).alloc (by simp) _
  clear hX hY
  go_enter Tryz.func9, Tryz.ntmps9
  go_wp2_with fail
  refine (C.out _ HB.out).mono ?_
  rintro e w1 ⟨rfl, hb1⟩
  have HB1 : Hid (Below w.heap.size w w1) := HB.out.trans (hb1.mono (by simp <;> omega))
  clear hb1 HB C
  go_wp2_with fail
  go_ret
  exact ⟨rfl, HB1.out⟩
end Go.Proofs.YtejnoedlfbglcaaGreatDoor
