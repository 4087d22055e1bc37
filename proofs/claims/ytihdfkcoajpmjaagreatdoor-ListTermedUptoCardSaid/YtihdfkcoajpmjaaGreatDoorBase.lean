/- Small laws over any program: bytes that the call owns, a byte appended, a string made of them; masks of integers. No conditions beyond those that each states. -/
import Derived.WalkKit
import Derived.Handy
import Derived.Lib.Hide
import Derived.Laws.BytesArg
import Derived.Lib.MinMax
namespace Mh
open Go Go.RowKit
set_option linter.unusedVariables false

/-- Bytes as cells. -/
def byteCells (l : List UInt8) : List Value := l.map fun c => .int .u8 (c.toNat : Int)
theorem byteCells_length (l : List UInt8) : (byteCells l).length = l.length := by simp [byteCells]
theorem byteCells_append (a b : List UInt8) : byteCells (a ++ b) = byteCells a ++ byteCells b := by simp [byteCells]

/-- Behind a contract that ends in 'Below': old cells and marks read as before. -/
theorem bcell {W w1 : World} (hb : Below W.heap.size W w1) : (∀ b o, b < W.heap.size → w1.cell? ⟨b, o, none⟩ = W.cell? ⟨b, o, none⟩) ∧ (∀ b o, b < W.heap.size → w1.frozen? ⟨b, o, none⟩ = W.frozen? ⟨b, o, none⟩) :=
  ⟨fun b o h => hb.cell (p := ⟨b, o, none⟩) h, fun b o h => hb.frozen (p := ⟨b, o, none⟩) h⟩

theorem cellT {w : World} {g i : Nat} {cs : Array Value} {t : TypeId} {v : Value} (h : w.heap[g]? = some (.cells cs t (0, 0))) (hv : cs[i]? = some v) : w.cell? ⟨g, i, none⟩ = some v := (cell_of_row w g i cs t (0, 0) h).trans hv
theorem frozenT {w : World} {g i : Nat} {cs : Array Value} {t : TypeId} (h : w.heap[g]? = some (.cells cs t (0, 0))) : w.frozen? ⟨g, i, none⟩ = false := frozen_of_row w g i cs t h

theorem take_snoc (s : ByteArray) (k : Nat) (h : k < s.size) : s.data.toList.take (k + 1) = s.data.toList.take k ++ [s[k]] := by
  rw [List.take_succ_eq_append_getElem (by simpa using h)]; rfl

theorem u32_and255 (x : Int) (h0 : 0 ≤ x) (h1 : x < 4294967296) : bits .and .u32 x 255 = x % 256 :=
  bits_mask .u32 32 (by decide) (fun n h0 h1 => by rw [IntKind.wrap_u32]; exact Int.emod_eq_of_lt h0 h1) 8 (by decide) x h0 h1
theorem u32_and15 (x : Int) (h0 : 0 ≤ x) (h1 : x < 4294967296) : bits .and .u32 x 15 = x % 16 :=
  bits_mask .u32 32 (by decide) (fun n h0 h1 => by rw [IntKind.wrap_u32]; exact Int.emod_eq_of_lt h0 h1) 4 (by decide) x h0 h1
theorem i64_and63 (x : Int) (h0 : 0 ≤ x) (h1 : x < 4294967296) : bits .and .i64 x 63 = x % 64 :=
  bits_mask .i64 32 (by decide) (fun n h0 h1 => by rw [IntKind.wrap_i64]; omega) 6 (by decide) x h0 h1

section
variable {P : Program} {ops : Array Oper} {rest : List Oper} {o : Oper} {a : Act} {Q : Exit → Act → World → Prop}

/-- One element appended to what the call owns: 'out = append(out, x)', x laid in a block of its own just before. -/
theorem wpList_append1 {B base : Nat} {W w0 : World} (hbel : Below B W w0) (hgd : o.guard = none) (s x : Operand) (t : TypeId)
    (ho : o.op = .call { callee := .builtin .append, args := #[s, x], argTypes := #[t, t] })
    (e : TypeId) (i : TypeInfo) (z : Value) (bytes : Nat) (ht : P.underlying t = some (.slice e)) (hi : P.info? e = some i) (hz : i.zero = some z)
    (hsize : i.size = 1) (hby : i.bytes = bytes) (hzs : z.cells.size = 1)
    (v : Value) (n : Nat) (xs : List Value) (hs : a.eval s = v) (hown : w0.ownsRow base e 1 v n xs)
    (val : Value) (hx : a.eval x = .slice (some ⟨w0.heap.size, 0, none⟩) 1 1) (h1 : val.oneCell' = true)
    (h63 : n + 1 ≤ maxLen) (hbytes : (n + 1) * bytes ≤ 140737488355328) (hB : B ≤ base) (hbase : base ≤ w0.heap.size)
    (h : ∀ v' w', w'.ownsRow base e 1 v' (n + 1) (xs ++ [val]) → Below B W w' → base ≤ w'.heap.size → wpList P ops Q rest (a.put o.dst v') w') :
    wpList P ops Q (o :: rest) a (w0.alloc (.cells #[val] e)) := by
  refine wpList_append_own _ hgd s x t ho base e i z 1 bytes ht hi hz hsize hby hzs (by decide) v n xs hs (hown.alloc _) ⟨w0.heap.size, 0, none⟩ 1 1 [val] hx rfl ?_ ?_ h63 hbytes (by simp; omega) ?_
  · intro j u hj
    have hlt : j < 1 := (List.getElem?_eq_some_iff.1 hj).1
    rw [Addr.add_lit, cell_of_row _ _ _ _ _ _ (heap_alloc_new w0 _)]
    simpa using hj
  · intro u hu
    simp at hu
    subst hu
    exact h1
  · intro v' w' hown' hgr _
    refine h v' w' hown' ?_ ?_
    · refine (hbel.alloc (by omega) _).grown hgr (by simp; omega) ?_
      intro k hk
      have := hown.lt k hk
      omega
    · have := hgr.size
      simp at this
      omega

theorem ownsRow_form {w : World} {base e k : Nat} {v : Value} {n : Nat} {xs : List Value} (h : w.ownsRow base e k v n xs) : ∃ ao c, v = .slice ao n c := by
  rcases h.2 with ⟨rfl, rfl⟩ | ⟨g, cap, cur, rfl, _⟩
  · exact ⟨_, _, rfl⟩
  · exact ⟨_, _, rfl⟩
theorem ownsRow_pos {w : World} {base e k : Nat} {v : Value} {n : Nat} {xs : List Value} (h : w.ownsRow base e k v n xs) (hn : 0 < n) : ∃ g c, v = .slice (some ⟨g, 0, none⟩) n c ∧ base ≤ g ∧ g < w.heap.size := by
  rcases h.2 with ⟨_, h0⟩ | ⟨g, cap, cur, rfl, hb, hg, _⟩
  · omega
  · exact ⟨g, cap, rfl, hb, (Array.getElem?_eq_some_iff.1 hg).1⟩

/-- The same as a step of a region that draws its order; what lies below 'base' is as it was. -/
theorem step_append1 {B base : Nat} {W w0 w : World} {E : Prop} {K : Act → World → Prop} {val : Value} {e : TypeId} (hw0 : w = w0.alloc (.cells #[val] e)) (hbel : Below B W w0) (hgd : o.guard = none) (s x : Operand) (t : TypeId)
    (ho : o.op = .call { callee := .builtin .append, args := #[s, x], argTypes := #[t, t] })
    (i : TypeInfo) (z : Value) (bytes : Nat) (ht : P.underlying t = some (.slice e)) (hi : P.info? e = some i) (hz : i.zero = some z)
    (hsize : i.size = 1) (hby : i.bytes = bytes) (hzs : z.cells.size = 1)
    (v : Value) (n : Nat) (xs : List Value) (hs : a.eval s = v) (hown : w0.ownsRow base e 1 v n xs)
    (hx : a.eval x = .slice (some ⟨w0.heap.size, 0, none⟩) 1 1) (h1 : val.oneCell' = true)
    (h63 : n + 1 ≤ maxLen) (hbytes : (n + 1) * bytes ≤ 140737488355328) (hB : B ≤ base) (hbase : base ≤ w0.heap.size)
    (h : ∀ g cap w', w'.ownsRow base e 1 (.slice (some ⟨g, 0, none⟩) (n + 1) cap) (n + 1) (xs ++ [val]) → Below B W w' → base ≤ w'.heap.size → (∀ k, k < base → w'.heap[k]? = w0.heap[k]?) → K (a.put o.dst (.slice (some ⟨g, 0, none⟩) (n + 1) cap)) w') :
    if Region.wanted o (yielded ops a.tmps) = true then Oper.wp P o a w K Q else E := by
  have hw : Region.wanted o (yielded ops a.tmps) = true := by simp [Region.wanted, hgd]
  rw [if_pos hw, hw0]
  refine wp_append_own _ s x t ho base e i z 1 bytes ht hi hz hsize hby hzs (by decide) v n xs hs (hown.alloc _) ⟨w0.heap.size, 0, none⟩ 1 1 [val] hx rfl ?_ ?_ h63 hbytes (by simp; omega) ?_
  · intro j u hj
    have hlt : j < 1 := (List.getElem?_eq_some_iff.1 hj).1
    rw [Addr.add_lit, cell_of_row _ _ _ _ _ _ (heap_alloc_new w0 _)]
    simpa using hj
  · intro u hu
    simp at hu
    subst hu
    exact h1
  · intro v' w' hown' hgr _
    obtain ⟨g, c, rfl, _⟩ := ownsRow_pos hown' (by omega)
    refine h g c w' hown' ?_ ?_ ?_
    · refine (hbel.alloc (by omega) _).grown hgr (by simp; omega) ?_
      intro k hk
      have := hown.lt k hk
      omega
    · have := hgr.size
      simp at this
      omega
    · intro k hk
      rw [hgr.block k (by simp; omega) ?_, heap_alloc_old w0 _ (by omega)]
      intro e
      have := hown.lt k e.symm
      omega

/-- One byte appended to bytes that the call owns. -/
theorem wpList_append_byte {B base : Nat} {W w0 : World} (hbel : Below B W w0) (hgd : o.guard = none) (s x : Operand) (t : TypeId)
    (ho : o.op = .call { callee := .builtin .append, args := #[s, x], argTypes := #[t, t] })
    (e : TypeId) (i : TypeInfo) (z : Value) (ht : P.underlying t = some (.slice e)) (hi : P.info? e = some i) (hz : i.zero = some z)
    (hsize : i.size = 1) (hby : i.bytes = 1) (hzs : z.cells.size = 1)
    (v : Value) (l : List UInt8) (hs : a.eval s = v) (hown : w0.ownsRow base e 1 v l.length (byteCells l))
    (c : UInt8) (hx : a.eval x = .slice (some ⟨w0.heap.size, 0, none⟩) 1 1)
    (hlen : l.length + 1 ≤ 140737488355328) (hB : B ≤ base) (hbase : base ≤ w0.heap.size)
    (h : ∀ v' w', w'.ownsRow base e 1 v' (l ++ [c]).length (byteCells (l ++ [c])) → Below B W w' → base ≤ w'.heap.size → wpList P ops Q rest (a.put o.dst v') w') :
    wpList P ops Q (o :: rest) a (w0.alloc (.cells #[.int .u8 (c.toNat : Int)] e)) := by
  refine wpList_append1 hbel hgd s x t ho e i z 1 ht hi hz hsize hby hzs v _ _ hs hown _ hx rfl (by simp only [maxLen]; omega) (by omega) hB hbase ?_
  intro v' w' h1 h2 h3
  exact h v' w' (by simpa [byteCells_append, byteCells] using h1) h2 h3

/-- The first bytes of a block of the call's own appended to bytes that the call owns: 'out = append(out, b[:m]...)'. -/
theorem wpList_append_block {B base : Nat} {W w0 : World} {cur : Array Value} (hbel : Below B W w0) (hgd : o.guard = none) (s x : Operand) (t : TypeId)
    (ho : o.op = .call { callee := .builtin .append, args := #[s, x], argTypes := #[t, t] })
    (e : TypeId) (i : TypeInfo) (z : Value) (ht : P.underlying t = some (.slice e)) (hi : P.info? e = some i) (hz : i.zero = some z)
    (hsize : i.size = 1) (hby : i.bytes = 1) (hzs : z.cells.size = 1)
    (v : Value) (l : List UInt8) (hs : a.eval s = v) (hown : w0.ownsRow base e 1 v l.length (byteCells l))
    (m c : Nat) (l2 : List UInt8) (hx : a.eval x = .slice (some ⟨w0.heap.size, 0, none⟩) m c) (hm : l2.length = m) (hcur : cur.toList.take m = byteCells l2)
    (hlen : l.length + m ≤ 140737488355328) (hB : B ≤ base) (hbase : base ≤ w0.heap.size)
    (h : ∀ v' w', w'.ownsRow base e 1 v' (l ++ l2).length (byteCells (l ++ l2)) → Below B W w' → base ≤ w'.heap.size → wpList P ops Q rest (a.put o.dst v') w') :
    wpList P ops Q (o :: rest) a (w0.alloc (.cells cur e)) := by
  refine wpList_append_own _ hgd s x t ho base e i z 1 1 ht hi hz hsize hby hzs (by decide) v _ _ hs (hown.alloc _) ⟨w0.heap.size, 0, none⟩ m c (byteCells l2) hx (by simp [byteCells, hm]) ?_ ?_ (by simp only [maxLen]; omega) (by omega) (by simp; omega) ?_
  · intro j u hj
    rw [Addr.add_lit, cell_of_row _ _ _ _ _ _ (heap_alloc_new w0 _)]
    rw [← hcur, List.getElem?_take] at hj
    split at hj
    · simpa using hj
    · cases hj
  · intro u hu
    obtain ⟨c, _, rfl⟩ := List.mem_map.1 hu
    rfl
  · intro v' w' hown' hgr _
    refine h v' w' (by simpa [byteCells, hm] using hown') ?_ ?_
    · refine (hbel.alloc (by omega) _).grown hgr (by simp; omega) ?_
      intro k hk
      have := hown.lt k hk
      omega
    · have := hgr.size
      simp at this
      omega

/-- The string that owned bytes make. -/
theorem run_convert_own (w : World) (src e : TypeId) (hs : P.underlying src = some (.slice e)) (he : P.underlying e = some (.int .u8)) {base : Nat} {v : Value} {l : List UInt8}
    (hown : w.ownsRow base e 1 v l.length (byteCells l)) : ∀ dst, P.underlying dst = some .string → (convert src dst v).run P w = .ok (.string ⟨l.toArray⟩) w := by
  intro dst hd
  rcases hown.2 with ⟨rfl, hn⟩ | ⟨g, cap, cur, rfl, hb, hg, hnc, hcm, hcs, htake⟩
  · obtain rfl : l = [] := List.eq_nil_of_length_eq_zero hn
    exact run_convert_bytes_nil w src e hs he 0 0 dst hd
  · have hr := run_convert_bytes_arg (P := P) w src e hs he g 0 l.length cap (l.map fun c => (c.toNat : Int)) (by simp) ?_ dst hd
    · rw [hr]
      congr 2
      simp [strOfNums, Function.comp_def]
    · intro i hi
      rw [Nat.zero_add, cell_of_row _ _ _ _ _ _ hg]
      have h2 : (byteCells l)[i]? = some (.int .u8 (l[i].toNat : Int)) := by simp [byteCells, hi]
      rw [← htake, List.getElem?_take] at h2
      rw [if_pos (by omega)] at h2
      simpa [List.getD, hi] using h2
end
end Mh
