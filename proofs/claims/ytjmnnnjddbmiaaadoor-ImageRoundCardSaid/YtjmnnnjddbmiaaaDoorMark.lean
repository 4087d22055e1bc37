/- Bytes that the call owns and whose row bears the run-time's mark behind its last cell (what []byte(s) lays): one byte more appended; the string that they make. No program. -/
import Derived.Test.YtjmnnnjddbmiaaaDoorBase
import Derived.ProofKit
namespace Mh
open Go Go.RowKit
set_option linter.unusedVariables false

def RowM (w : World) (base : Nat) (e : TypeId) (v : Value) (l : List UInt8) : Prop :=
  ∃ g cap cur fz, v = .slice (some ⟨g, 0, none⟩) l.length cap ∧ base ≤ g ∧ w.heap[g]? = some (.cells cur e fz) ∧ (fz.2 = 0 ∨ cur.size ≤ fz.1) ∧ l.length ≤ cap ∧ cap ≤ maxLen ∧ cur.size = cap ∧ cur.toList.take l.length = byteCells l

theorem RowM.alloc {w : World} {base : Nat} {e : TypeId} {v : Value} {l : List UInt8} (h : RowM w base e v l) (o : Obj) : RowM (w.alloc o) base e v l := by
  obtain ⟨g, cap, cur, fz, h1, h2, h3, h4⟩ := h
  exact ⟨g, cap, cur, fz, h1, h2, by rw [heap_alloc_old w o (Array.getElem?_eq_some_iff.1 h3).1]; exact h3, h4⟩
theorem RowM.drew {w : World} {base : Nat} {e : TypeId} {v : Value} {l : List UInt8} (h : RowM w base e v l) : RowM w.drew base e v l := h

/-- What []byte(s) lays. -/
theorem rowM_made (w : World) (base : Nat) (e : TypeId) (s : ByteArray) (hb : base ≤ w.heap.size) (hs : s.size ≤ maxLen) :
    RowM (w.drew.alloc (.cells (bytesRow s (grownCap w s.size 0 e)) e ((bytesRow s (grownCap w s.size 0 e)).size, (bytesRow s (grownCap w s.size 0 e)).size + 1))) base e (.slice (some ⟨w.heap.size, 0, none⟩) s.size (grownCap w s.size 0 e)) s.data.toList := by
  have hge := grownCap_ge w s.size 0 e
  have hz : (bytesRow s (grownCap w s.size 0 e)).size = grownCap w s.size 0 e := by
    have : s.data.size = s.size := rfl
    simp [bytesRow, this]
    omega
  refine ⟨w.heap.size, grownCap w s.size 0 e, _, _, ?_, hb, heap_alloc_new w.drew _, .inr (Nat.le_refl _), ?_, grownCap_le_maxLen w _ _ _ hs, hz, ?_⟩
  · simp
  · simpa using hge
  · have h1 : (bytesRow s (grownCap w s.size 0 e)).toList = byteCells s.data.toList ++ List.replicate (grownCap w s.size 0 e - s.size) (Value.int .u8 0) := by
      simp [bytesRow, byteCells]
    rw [h1]
    have h2 : s.data.toList.length = (byteCells s.data.toList).length := by simp [byteCells]
    rw [h2]
    exact List.take_left

theorem RowM.cell {w : World} {base : Nat} {e : TypeId} {l : List UInt8} {g cap : Nat} (h : RowM w base e (.slice (some ⟨g, 0, none⟩) l.length cap) l) (i : Nat) (hi : i < l.length) : w.cell? ⟨g, i, none⟩ = some (.int .u8 (l[i].toNat : Int)) := by
  obtain ⟨g', cap', cur, fz, hv, hb, hg, hf, hnc, hcm, hcs, ht⟩ := h
  cases hv
  rw [cell_of_row _ _ _ _ _ _ hg]
  have h2 : (byteCells l)[i]? = some (.int .u8 (l[i].toNat : Int)) := by simp [byteCells, hi]
  rw [← ht, List.getElem?_take] at h2
  rw [if_pos (by omega)] at h2
  simpa using h2

section
variable {P : Program}

/-- The string that they make. -/
theorem run_convert_rowM (w : World) (src e : TypeId) (hs : P.underlying src = some (.slice e)) (he : P.underlying e = some (.int .u8)) {base : Nat} {v : Value} {l : List UInt8}
    (h : RowM w base e v l) : ∀ dst, P.underlying dst = some .string → (convert src dst v).run P w = .ok (.string ⟨l.toArray⟩) w := by
  intro dst hd
  have h' := h
  obtain ⟨g, cap, cur, fz, rfl, _⟩ := h
  have hr := run_convert_bytes_arg (P := P) w src e hs he g 0 l.length cap (l.map fun c => (c.toNat : Int)) (by simp) ?_ dst hd
  · rw [hr]
    congr 2
    simp [strOfNums, Function.comp_def]
  · intro i hi
    rw [Nat.zero_add, h'.cell i hi]
    simp [hi]

theorem run_append_markRoom (w : World) (t ty e : TypeId) (i : TypeInfo) (ht : P.underlying t = some (.slice e)) (hi : P.info? e = some i) (hs1 : i.size = 1)
    (g sLen sCap : Nat) (cur : Array Value) (fz : Nat × Nat) (hg : w.heap[g]? = some (.cells cur e fz)) (hfz : fz.2 = 0 ∨ cur.size ≤ fz.1)
    (ab c : Nat) (u : Value) (hnew : w.cell? ⟨ab, 0, none⟩ = some u) (h1 : u.oneCell' = true) (hroom : sLen + 1 ≤ sCap) (hfit : sLen < cur.size) :
    (Builtin.append_ #[t, t] ty #[.slice (some ⟨g, 0, none⟩) sLen sCap, .slice (some ⟨ab, 0, none⟩) 1 c]).run P w =
      .ok (.slice (some ⟨g, 0, none⟩) (sLen + 1) sCap) (w.setRow g (cur.setIfInBounds sLen u)) := by
  have hf := run_firstCells_some (P := P) w 1 1 ⟨ab, 0, none⟩ 1 c [u] rfl (by
    intro j v hj
    cases j with
    | zero => simp at hj; subst hj; simpa [Addr.add_lit] using hnew
    | succ j => simp at hj)
  have hcell : w.cell? ⟨g, sLen, none⟩ = some cur[sLen] := by simp [World.cell?, hg, hfit]
  have hfro : w.frozen? ⟨g, sLen, none⟩ = false := by
    obtain ⟨lo, hi'⟩ := fz
    simp only [World.frozen?, hg, Bool.and_eq_false_iff, decide_eq_false_iff_not]
    rcases hfz with h | h
    · right; simp only at h; omega
    · left; simp only at h; omega
  have hst : (store (⟨g, sLen, none⟩ : Addr) u).run P w = .ok () (w.setRow g (cur.setIfInBounds sLen u)) := by
    rw [run_store P w _ u _ h1, hcell]
    simp [hfro, setCell_eq_setRow w g sLen cur e fz u hg]
  simp [Builtin.append_, run_underlying ht, Go.sizeOf, typeInfo, hi, hs1, Builtin.lenOf, hroom, hf, Addr.add_lit, storeCells, hst]

theorem run_append_byteM (w : World) (base : Nat) (t ty e : TypeId) (i : TypeInfo) (z : Value) (ht : P.underlying t = some (.slice e)) (hi : P.info? e = some i) (hz : i.zero = some z)
    (hsize : i.size = 1) (hby : i.bytes = 1) (hzs : z.cells.size = 1)
    (v : Value) (l : List UInt8) (hown : RowM w base e v l) (ab c : Nat) (b : UInt8) (hnew : w.cell? ⟨ab, 0, none⟩ = some (.int .u8 (b.toNat : Int)))
    (hlen : l.length + 1 ≤ 140737488355328) (hbase : base ≤ w.heap.size) :
    ∃ v' w', (Builtin.append_ #[t, t] ty #[v, .slice (some ⟨ab, 0, none⟩) 1 c]).run P w = .ok v' w' ∧ RowM w' base e v' (l ++ [b]) ∧ w.grownBy w' v.ownBlock := by
  have hown' := hown
  obtain ⟨g, cap, cur, fz, rfl, hbg, hg, hfz, hnc, hcm, hcs, htake⟩ := hown
  by_cases hroom : l.length + 1 ≤ cap
  · have hr := run_append_markRoom (P := P) w t ty e i ht hi hsize g l.length cap cur fz hg hfz ab c _ hnew rfl hroom (by omega)
    refine ⟨_, _, hr, ⟨g, cap, _, fz, by simp, hbg, setRow_heap w g cur _ e _ hg, by simpa using hfz, by simpa using hroom, hcm, by simpa using hcs, ?_⟩, ⟨rfl, rfl, rfl, by simp, fun k _ hk => setRow_other w g k _ (fun e => hk (by simp [Value.ownBlock, e]))⟩⟩
    have hlt : l.length < cur.toList.length := by simp; omega
    rw [Array.toList_setIfInBounds, List.length_append, List.length_singleton, byteCells_append]
    rw [List.take_add_one, List.getElem?_set_self hlt, List.take_set_of_le (Nat.le_refl _), htake]
    rfl
  · have holds : ∀ j u, (byteCells l)[j]? = some u → w.cell? ((⟨g, 0, none⟩ : Addr).add j) = some u := by
      intro j u hj
      have hjl : j < l.length := by
        have := (List.getElem?_eq_some_iff.1 hj).1
        simpa [byteCells] using this
      rw [Addr.add_lit, Nat.zero_add, hown'.cell j hjl]
      rw [← hj]
      simp [byteCells, hjl]
    have hr := run_append_grow (P := P) w t ty e i z ht hi hz ⟨g, 0, none⟩ l.length cap (byteCells l) (by simp [byteCells, hsize]) holds ⟨ab, 0, none⟩ 1 c [.int .u8 (b.toNat : Int)] (by simp [hsize]) (by
      intro j u hj
      cases j with
      | zero => simp at hj; subst hj; simpa [Addr.add_lit] using hnew
      | succ j => simp at hj) (by omega) (by omega) (growslice_fits (by omega) (by rw [hby]; omega))
    have hge := grownCap_ge w (l.length + 1) cap e
    have hcm' : grownCap w (l.length + 1) cap e ≤ maxLen := grownCap_le_maxLen w _ _ _ (by simp only [maxLen]; omega)
    refine ⟨_, _, hr, ⟨w.heap.size, _, _, _, by simp, hbase, heap_alloc_new w.drew _, .inl rfl, by simpa using hge, hcm', ?_, ?_⟩, ⟨rfl, rfl, rfl, by simp, fun k hk _ => heap_alloc_old w.drew _ hk⟩⟩
    · simp [size_zeroCells, hzs, byteCells]
      omega
    · have e2 : (l ++ [b]).length = (byteCells l ++ [Value.int .u8 (b.toNat : Int)]).length := by simp [byteCells]
      rw [e2, byteCells_append]
      simp only [Array.toList_append]
      exact List.take_left

theorem wpList_append_byteM {ops : Array Oper} {rest : List Oper} {o : Oper} {a : Act} {Q : Exit → Act → World → Prop} {B base : Nat} {W w0 : World} (hbel : Below B W w0) (hgd : o.guard = none) (s x : Operand) (t : TypeId)
    (ho : o.op = .call { callee := .builtin .append, args := #[s, x], argTypes := #[t, t] })
    (e : TypeId) (i : TypeInfo) (z : Value) (ht : P.underlying t = some (.slice e)) (hi : P.info? e = some i) (hz : i.zero = some z)
    (hsize : i.size = 1) (hby : i.bytes = 1) (hzs : z.cells.size = 1)
    (v : Value) (l : List UInt8) (hs : a.eval s = v) (hown : RowM w0 base e v l)
    (c : UInt8) (hx : a.eval x = .slice (some ⟨w0.heap.size, 0, none⟩) 1 1)
    (hlen : l.length + 1 ≤ 140737488355328) (hB : B ≤ base) (hbase : base ≤ w0.heap.size)
    (h : ∀ v' w', RowM w' base e v' (l ++ [c]) → Below B W w' → base ≤ w'.heap.size → wpList P ops Q rest (a.put o.dst v') w') :
    wpList P ops Q (o :: rest) a (w0.alloc (.cells #[.int .u8 (c.toNat : Int)] e)) := by
  have hlt : ∀ k, v.ownBlock = some k → base ≤ k ∧ k < w0.heap.size := by
    intro k hk
    obtain ⟨g, cap, cur, fz, rfl, hb, hg, _⟩ := hown
    simp [Value.ownBlock] at hk
    subst hk
    exact ⟨hb, (Array.getElem?_eq_some_iff.1 hg).1⟩
  obtain ⟨v', w', hr, h2, h3⟩ := run_append_byteM (P := P) (w0.alloc (.cells #[.int .u8 (c.toNat : Int)] e)) base t o.type e i z ht hi hz hsize hby hzs v l (hown.alloc _) w0.heap.size 1 c
    (by rw [cell_of_row _ _ _ _ _ _ (heap_alloc_new w0 _)]; rfl) hlen (by simp; omega)
  refine wpList_plain hgd fun K hK => ?_
  unfold Oper.wp execOp
  simp only [ho, resolve, invoke, builtin, Sem.run_bind, Sem.run_pure, Result.andThen_ok, List.map_toArray, List.map_cons, List.map_nil, hs, hx, hr]
  refine hK _ _ (h v' w' h2 ?_ ?_)
  · refine (hbel.alloc (by omega) _).grown h3 (by simp; omega) ?_
    intro k hk
    have := hlt k hk
    omega
  · have := h3.size
    simp at this
    omega
end
end Mh
