/- awakeConf returns true. No conditions. -/
import Derived.Test.YtkcbnmhdaaokhaaDoorAwC2
namespace Go.Proofs.YtkcbnmhdaaokhaaDoor
open Go.RowKit Mh
set_option linter.unusedVariables false
theorem awakeConf_any (w : World) : Calls Tryd.prog 17 #[] w fun e w' => e = .returned (.bool true) ∧ Below w.heap.size w w' := by
  go_enter Tryd.func17, Tryd.ntmps17
  go_wp2_with fail
  refine (parse_eq w).mono ?_
  rintro e w1 ⟨rfl, hb⟩
  have HB := Lib.hid hb
  have hz := hb.size
  clear hb
  go_wp2_with fail
  go_ret
  refine ⟨rfl, ?_⟩
  first
    | exact HB.out
    | exact HB.out.alloc hz _
    | exact (HB.out.alloc hz _).alloc (by simp; omega) _
end Go.Proofs.YtkcbnmhdaaokhaaDoor
