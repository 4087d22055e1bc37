/- Blocks of six cells that are written over; a box of a value. No program but the number of the type. -/
import Derived.Test.YtihdfkcoajpmjaaGreatDoorProg
import Derived.Test.YtihdfkcoajpmjaaGreatDoorKept
import Derived.Test.YtihdfkcoajpmjaaGreatDoorVeil
namespace Go.Proofs.YtihdfkcoajpmjaaGreatDoor
open Go.RowKit Mh
set_option linter.unusedVariables false

/-- The zero value's cells. -/
def zv : List Value := [.int .i64 0, .bool false, .int .i64 0, .string ⟨#[]⟩, .slice none 0 0, .slice none 0 0]
theorem zv_at (w : World) : VAt w V.nil zv := by
  unfold V.nil VAt
  refine ⟨.slice none 0 0, .slice none 0 0, rfl, rfl, rfl, by decide, ⟨⟨rfl, .inl ⟨rfl, none, 0, rfl⟩⟩, by simp⟩, [], ⟨rfl, .inl ⟨rfl, none, 0, rfl⟩⟩, by simp [VsAt]⟩
/-- A six-cell block that is written over. -/
def put6 (w : World) (g : Nat) (a b c d e f : Value) : World := (((((w.setCell ⟨g, 0, none⟩ a).setCell ⟨g, 1, none⟩ b).setCell ⟨g, 2, none⟩ c).setCell ⟨g, 3, none⟩ d).setCell ⟨g, 4, none⟩ e).setCell ⟨g, 5, none⟩ f
theorem put6_at {w : World} {g : Nat} {T : TypeId} {a b c d e f : Value} {cs : Array Value} (hc : cs.size = 6) (h : w.heap[g]? = some (.cells cs T (0, 0))) : (put6 w g a b c d e f).heap[g]? = some (.cells #[a, b, c, d, e, f] T (0, 0)) := by
  obtain ⟨l⟩ := cs
  match l, hc with
  | [x0, x1, x2, x3, x4, x5], _ =>
    exact heap_setCell_same _ _ 5 _ _ _ (heap_setCell_same _ _ 4 _ _ _ (heap_setCell_same _ _ 3 _ _ _ (heap_setCell_same _ _ 2 _ _ _ (heap_setCell_same _ _ 1 _ _ _ (heap_setCell_same _ _ 0 _ _ _ h)))))
theorem put6_below {w w' : World} {B g : Nat} {a b c d e f : Value} (h : Below B w w') (hg : B ≤ g) : Below B w (put6 w' g a b c d e f) := by
  unfold put6
  exact ((((((h.setCell hg _).setCell hg _).setCell hg _).setCell hg _).setCell hg _).setCell hg _)
theorem six_of_block {w : World} {g : Nat} {T : TypeId} {a b c d e f : Value} (h : w.heap[g]? = some (.cells #[a, b, c, d, e, f] T (0, 0))) :
    w.cell? ⟨g, 0, none⟩ = some a ∧ w.cell? ⟨g, 1, none⟩ = some b ∧ w.cell? ⟨g, 2, none⟩ = some c ∧ w.cell? ⟨g, 3, none⟩ = some d ∧ w.cell? ⟨g, 4, none⟩ = some e ∧ w.cell? ⟨g, 5, none⟩ = some f :=
  ⟨cellT h rfl, cellT h rfl, cellT h rfl, cellT h rfl, cellT h rfl, cellT h rfl⟩
theorem six_open {w : World} {g : Nat} {T : TypeId} {a b c d e f : Value} (h : w.heap[g]? = some (.cells #[a, b, c, d, e, f] T (0, 0))) :
    w.frozen? ⟨g, 0, none⟩ = false ∧ w.frozen? ⟨g, 1, none⟩ = false ∧ w.frozen? ⟨g, 2, none⟩ = false ∧ w.frozen? ⟨g, 3, none⟩ = false ∧ w.frozen? ⟨g, 4, none⟩ = false ∧ w.frozen? ⟨g, 5, none⟩ = false :=
  ⟨frozenT h, frozenT h, frozenT h, frozenT h, frozenT h, frozenT h⟩
theorem put6_other {w : World} {g k : Nat} {a b c d e f : Value} (h : k ≠ g) : (put6 w g a b c d e f).heap[k]? = w.heap[k]? := by
  unfold put6
  rw [heap_setCell_other _ _ _ _ h, heap_setCell_other _ _ _ _ h, heap_setCell_other _ _ _ _ h, heap_setCell_other _ _ _ _ h, heap_setCell_other _ _ _ _ h, heap_setCell_other _ _ _ _ h]
theorem put6_size {w : World} {g : Nat} {a b c d e f : Value} : (put6 w g a b c d e f).heap.size = w.heap.size := by simp [put6]


/-- The block of a box, six cells of a value. -/
def box6 (X : V) (ia : Option Addr) (ic : Nat) (ka : Option Addr) (kc : Nat) : Obj := .cells #[.int .i64 X.kd, .bool X.bo, .int .i64 X.nu, .string X.tx, .slice ia X.its.length ic, .slice ka X.kys.length kc] 35 (0, 0)
def box0 : Obj := .cells #[.int .i64 0, .bool false, .int .i64 0, .string ⟨#[]⟩, .slice none 0 0, .slice none 0 0] 35 (0, 0)
end Go.Proofs.YtihdfkcoajpmjaaGreatDoor
