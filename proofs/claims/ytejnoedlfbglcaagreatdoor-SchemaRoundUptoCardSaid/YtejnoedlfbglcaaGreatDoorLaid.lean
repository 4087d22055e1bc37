/- Worlds that hold a seat's listed tables, for the witness: a table's cells by its datum (one or two levels of aggregates over integers). -/
import Derived.WalkKit
import Derived.ProofKit
import Derived.OpenShut
import Derived.Deep.DeepHandedRow
import Derived.Lib.LaidTab
namespace Mh
open Go Go.RowKit
def litV : DataW Unit → Value
  | .lit (.int k z) => .int k z
  | _ => .bool false
def flat1 : DataW Unit → List Value
  | .agg l => l.map litV
  | d => [litV d]
def flat2 : DataW Unit → List Value
  | .agg l => l.flatMap flat1
  | d => [litV d]
def layTab (g : Nat) (d : DataW Unit) (w : World) : World :=
  { w with heap := w.heap.modify g fun
      | .cells _ t frozen => .cells (flat2 d).toArray t frozen
      | o => o }
def errTextV : DataW Unit → ByteArray
  | .iface _ (.ptr (.agg [.lit (.string l)])) => ⟨l.toArray⟩
  | _ => ⟨#[]⟩
/-- A variable that holds an error made of a literal: a block for its text, behind all others. -/
def layErr (g tp ts : Nat) (d : DataW Unit) (w : World) : World :=
  { w with heap := (w.heap.modify g fun
      | .cells _ t frozen => .cells #[.iface tp (.pointer (some ⟨w.heap.size, 0, none⟩))] t frozen
      | o => o).push (.cells #[.string (errTextV d)] ts (0, 0)) }
end Mh
