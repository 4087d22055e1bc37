/- A region that draws its order, whose operations only read and whose callees make memory but write none: one walk, in the order of the text. Over any program. -/
import Derived.Test.YthkokpkiffbjnaaDoorBase
import Derived.BigQuiet
namespace Mh
open Go Go.RowKit
set_option linter.unusedVariables false
/-- The worlds that have grown out of w. -/
def Grown (w : World) : Type := { w' : World // Below w.heap.size w w' }
instance grownNonempty (w : World) : Nonempty (Grown w) := ⟨⟨w, Below.refl _ _⟩⟩
theorem wp_region_quietB {P : Program} {id : Nat} {Q : Exit → Act → World → Prop} {a : Act} {w : World} {l : List Oper} (hm : P.follows .mixedOrders = true) (hB : Region.lexB .any l.toArray = true)
    (h : wpQuiet P l.toArray (fun w' => ∃ q : Grown w, w' = q.1) (fun a' => ∀ w', (∃ q : Grown w, w' = q.1) → Q .normal a' w') l a) : (Code.region id l.toArray true).wp P Q a w :=
  wp_region_quiet (C := fun w' => ∃ q : Grown w, w' = q.1) hm hB ⟨⟨w.drew, (Below.refl _ w).drew⟩, rfl⟩ (by simpa using h)
theorem quietB {P : Program} {f : FuncId} {args : Array Value} {w : World} {q : Grown w} {v : Value} (h : Calls P f args q.1 fun e w'' => e = .returned v ∧ Below q.1.heap.size q.1 w'') :
    Calls P f args q.1 fun e w'' => e = .returned v ∧ ∃ q' : Grown w, w'' = q'.1 :=
  h.mono fun e w'' ⟨h1, h2⟩ => ⟨h1, ⟨w'', q.2.trans (h2.mono q.2.size)⟩, rfl⟩
theorem quietS {P : Program} {f : FuncId} {args : Array Value} {w : World} {q : Grown w} {v : Value} (h : Calls P f args q.1 fun e w'' => e = .returned v ∧ w'' = q.1) :
    Calls P f args q.1 fun e w'' => e = .returned v ∧ ∃ q' : Grown w, w'' = q'.1 :=
  h.mono fun e w'' ⟨h1, h2⟩ => ⟨h1, q, h2⟩
theorem grown_cell {w : World} {a : Addr} {v : Value} (h : w.cell? a = some v) (q : Grown w) : q.1.cell? a = some v := (q.2.cell (World.block_lt_of_cell? w a h)).trans h
end Mh
