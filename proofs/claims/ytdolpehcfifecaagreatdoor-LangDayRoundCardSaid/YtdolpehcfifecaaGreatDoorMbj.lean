/- A world behind draws, below. No program but in the imports. -/
import Derived.Test.YtdolpehcfifecaaGreatDoorMbh
import Derived.Test.YtdolpehcfifecaaGreatDoorMgZ
namespace Mh
open Go Go.RowKit
set_option linter.unusedVariables false
theorem mbelow_drewN2 {B : Nat} {w w' : World} (h : Below B w w') (n : Nat) : Below B w (w'.drewN n) := ⟨h.os, h.tape, h.output, h.size, h.block⟩
end Mh
