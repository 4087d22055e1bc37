/- awakeConf returns true. No conditions. -/
import Derived.Test.YtejnoedlfbglcaaGreatDoorAwC2
namespace Go.Proofs.YtejnoedlfbglcaaGreatDoor
open Go.RowKit Mh
set_option linter.unusedVariables false
theorem awakeConf_any (w : World) : Calls Tryz.prog 7 #[] w fun e w' => e = .returned (.bool true) ∧ Below w.heap.size w w' := by
  go_enter Tryz.func7, Tryz.ntmps7
  go_wp2_with fail
  refine (parse_eq w).mono ?_
  rintro e w1 ⟨rfl, hb⟩
  have HB := Lib.hid hb
  have hz := hb.size
  clear hb
  go_wp2_with fail
  go_ret
  refine ⟨rfl, ?_⟩
  first
    | exact HB.out
    | exact HB.out.alloc hz _
    | exact (HB.out.alloc hz _).alloc (by simp; omega) _
end Go.Proofs.YtejnoedlfbglcaaGreatDoor
