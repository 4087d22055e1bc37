/- One element of k cells appended to what the call owns. Conditions: sizes. No program. -/
import Derived.Test.YtkcbnmhdaaokhaaDoorBase
namespace Mh
open Go Go.RowKit
set_option linter.unusedVariables false
section
variable {P : Program} {ops : Array Oper} {rest : List Oper} {o : Oper} {a : Act} {Q : Exit → Act → World → Prop}
theorem wpList_appendK {B base : Nat} {W w0 : World} (hbel : Below B W w0) (hgd : o.guard = none) (s x : Operand) (t : TypeId)
    (ho : o.op = .call { callee := .builtin .append, args := #[s, x], argTypes := #[t, t] })
    (e : TypeId) (i : TypeInfo) (z : Value) (k bytes : Nat) (ht : P.underlying t = some (.slice e)) (hi : P.info? e = some i) (hz : i.zero = some z)
    (hsize : i.size = k) (hby : i.bytes = bytes) (hzs : z.cells.size = k) (hk : 0 < k)
    (v : Value) (n : Nat) (xs : List Value) (hs : a.eval s = v) (hown : w0.ownsRow base e k v n xs)
    (cs : Array Value) (hcs : cs.size = k) (hx : a.eval x = .slice (some ⟨w0.heap.size, 0, none⟩) 1 1) (h1 : ∀ u ∈ cs.toList, u.oneCell' = true)
    (h63 : n + 1 ≤ maxLen) (hbytes : (n + 1) * bytes ≤ 140737488355328) (hB : B ≤ base) (hbase : base ≤ w0.heap.size)
    (h : ∀ v' w', w'.ownsRow base e k v' (n + 1) (xs ++ cs.toList) → Below B W w' → base ≤ w'.heap.size → wpList P ops Q rest (a.put o.dst v') w') :
    wpList P ops Q (o :: rest) a (w0.alloc (.cells cs e)) := by
  refine wpList_append_own _ hgd s x t ho base e i z k bytes ht hi hz hsize hby hzs hk v n xs hs (hown.alloc _) ⟨w0.heap.size, 0, none⟩ 1 1 cs.toList hx (by simp [hcs]) ?_ h1 h63 hbytes (by simp; omega) ?_
  · intro j u hj
    rw [Addr.add_lit, cell_of_row _ _ _ _ _ _ (heap_alloc_new w0 _)]
    simpa using hj
  · intro v' w' hown' hgr _
    refine h v' w' hown' ?_ ?_
    · refine (hbel.alloc (by omega) _).grown hgr (by simp; omega) ?_
      intro k hk
      have := hown.lt k hk
      omega
    · have := hgr.size
      simp at this
      omega
end
end Mh
