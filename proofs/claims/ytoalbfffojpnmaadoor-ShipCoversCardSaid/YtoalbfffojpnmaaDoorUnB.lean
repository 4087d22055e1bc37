/- The generic replacer of mark.Unescape's five pairs: its block, its bytes' numbers (plain). -/
import Derived.Test.YtoalbfffojpnmaaDoorUnA
import Derived.Laws.Cells
namespace Mh
open Go Go.RowKit
set_option linter.unusedVariables false
/-- The pairs. -/
def unL : List ByteArray := [⟨#[38, 97, 109, 112, 59]⟩, ⟨#[38]⟩, ⟨#[38, 108, 116, 59]⟩, ⟨#[60]⟩, ⟨#[38, 103, 116, 59]⟩, ⟨#[62]⟩, ⟨#[38, 113, 117, 111, 116, 59]⟩, ⟨#[34]⟩, ⟨#[38, 35, 51, 57, 59]⟩, ⟨#[39]⟩]
def byteN (s : ByteArray) : List Nat := s.data.toList.map UInt8.toNat
def preU (k : Nat) : List Nat := (List.range k).flatMap fun i => byteN (unL.getD (2 * i) ⟨#[]⟩)
theorem preU_succ (k : Nat) : preU (k + 1) = preU k ++ byteN (unL.getD (2 * k) ⟨#[]⟩) := by
  unfold preU; rw [List.range_succ, List.flatMap_append]; simp
def mkB (l : List Nat) (c : Nat) : Int := if c ∈ l then 1 else 0
def gRow (tab : Value) (ts : Int) (f : Nat → Int) : List Value := [.string ⟨#[]⟩, .int .i64 0, .string ⟨#[]⟩, .pointer none, tab, .int .i64 ts] ++ (List.range 256).map fun c => .int .u8 (f c)
theorem gRow_get (tab : Value) (ts : Int) (f : Nat → Int) {c : Nat} (h : c < 256) : (gRow tab ts f)[6 + c]? = some (.int .u8 (f c)) := by
  unfold gRow
  rw [List.getElem?_append_right (by simp)]
  simp [h]
theorem gRow_set (tab : Value) (ts : Int) (f : Nat → Int) {c : Nat} (h : c < 256) (x : Int) : (gRow tab ts f).set (6 + c) (.int .u8 x) = gRow tab ts (fun d => if d = c then x else f d) := by
  unfold gRow
  rw [List.set_append_right _ _ (by simp)]
  congr 1
  simp only [List.length_cons, List.length_nil, Nat.zero_add, Nat.reduceAdd, Nat.add_sub_cancel_left]
  apply List.ext_getElem?
  intro i
  rw [List.getElem?_set]
  by_cases e : c = i
  · subst e; simp [h]
  · have e2 : ¬ i = c := fun z => e z.symm
    by_cases hi : i < 256 <;> simp [e, e2, hi]
theorem gRow_congr (tab : Value) (ts : Int) {f g : Nat → Int} (h : ∀ c, c < 256 → f c = g c) : gRow tab ts f = gRow tab ts g := by
  unfold gRow
  congr 1
  apply List.map_congr_left
  intro c hc
  rw [h c (List.mem_range.1 hc)]
theorem gRow_set5 (tab : Value) (ts x : Int) (f : Nat → Int) : (gRow tab ts f).set 5 (.int .i64 x) = gRow tab x f := rfl
theorem gRow_set4 (tab t2 : Value) (ts : Int) (f : Nat → Int) : (gRow tab ts f).set 4 t2 = gRow t2 ts f := rfl
theorem gRow_5 (tab : Value) (ts : Int) (f : Nat → Int) : (gRow tab ts f)[5]? = some (.int .i64 ts) := rfl
theorem gRow_4 (tab : Value) (ts : Int) (f : Nat → Int) : (gRow tab ts f)[4]? = some tab := rfl
theorem mkB_snoc (l : List Nat) (c : Nat) : (fun d => if d = c then (1 : Int) else mkB l d) = mkB (l ++ [c]) := by
  funext d
  unfold mkB
  by_cases e : d = c <;> simp [e]
/-- Which bytes are a key's, how many below a byte, and each byte's number. -/
def inK (c : Nat) : Int := mkB (preU 5) c
def cntK (c : Nat) : Int := ((List.range c).map inK).sum
def mpK (c : Nat) : Int := if inK c = 0 then 14 else cntK c
theorem inK_01 (c : Nat) : inK c = 0 ∨ inK c = 1 := by unfold inK mkB; split <;> simp
theorem cntK_succ (c : Nat) : cntK (c + 1) = cntK c + inK c := by unfold cntK; rw [List.range_succ]; simp
theorem cntK_bounds (c : Nat) : 0 ≤ cntK c ∧ cntK c ≤ c := by
  induction c with
  | zero => exact ⟨by decide, by decide⟩
  | succ c ih => rw [cntK_succ]; rcases inK_01 c with h | h <;> rw [h] <;> omega
theorem cntK_mono {c d : Nat} (h : c ≤ d) : cntK c ≤ cntK d := by
  induction d with
  | zero => obtain rfl : c = 0 := by omega
            exact Int.le_refl _
  | succ d ih =>
    by_cases e : c = d + 1
    · subst e; exact Int.le_refl _
    · rw [cntK_succ]; have := ih (by omega); rcases inK_01 d with h | h <;> omega
theorem cntK_all : cntK 256 = 14 := by decide +kernel
theorem mpK_lt (c : Nat) (h : c < 256) : 0 ≤ mpK c ∧ mpK c ≤ 14 := by
  unfold mpK
  split
  · omega
  · have h1 := cntK_bounds c
    have h2 := cntK_mono (c := c) (d := 256) (by omega)
    rw [cntK_all] at h2
    exact ⟨h1.1, h2⟩
set_option maxRecDepth 100000 in
theorem gRow_start : gRow (.slice none 0 0) 0 (mkB (preU 0)) = [.string ⟨#[]⟩, .int .i64 0, .string ⟨#[]⟩, .pointer none, .slice none 0 0, .int .i64 0] ++ List.replicate 256 (.int .u8 0) := by
  unfold gRow
  congr 1
theorem run_index_arr {P : Program} (t e : TypeId) (n : Nat) (cs : Array Value) (hu : P.underlying t = some (.array n e)) (hs : ∀ w, (Go.sizeOf e).run P w = .ok 1 w) (ha : ∀ w, (isAgg e).run P w = .ok false w) (i : Nat) (hi : i < n) (v : Value) (hv : cs[i]? = some v) (w : World) :
    (Instr.index t (.agg cs) (.int .i64 (i : Int))).run P w = .ok v w := by
  simp [Instr.index, run_underlying hu, asIntOf, hi, go_sem, part, hs, ha, hv]
theorem below_new (w : World) (o : Obj) : Below w.heap.size w (w.alloc o) := (Below.refl _ w).alloc (Nat.le_refl _) _
/-- An array by value, out of the midst of a block. -/
theorem run_loadVar_part {P : Program} (w : World) (g o : Nat) (ty : TypeId) (cs : List Value) (n : Nat) (e : TypeId) (hc : ∀ j v, cs[j]? = some v → w.cell? ⟨g, o + j, none⟩ = some v)
    (hu : P.underlying ty = some (.array n e)) (hi : (P.info? ty).map (·.size) = some cs.length) :
    (loadVar ty ⟨g, o, none⟩).run P w = .ok (.agg cs.toArray) w := by
  have hl : (loadCells ⟨g, o, none⟩ cs.length).run P w = .ok cs.toArray w :=
    run_loadCells_list (P := P) w ⟨g, o, none⟩ cs (fun j v hv => by rw [Addr.add_lit]; exact hc j v hv)
  cases hq : P.info? ty with
  | none => simp [hq] at hi
  | some i =>
    have hs : i.size = cs.length := by simpa [hq] using hi
    have hagg : (isAgg ty).run P w = .ok true w := by
      unfold isAgg
      rw [Sem.run_bind, run_underlying hu w]
      simp_all
    simp [loadVar, Sem.run_bind, hagg, Go.sizeOf, typeInfo, hq, hs, hl]
theorem wp_load_part {P : Program} {o : Oper} {a : Act} {w : World} {K : Act → World → Prop} {Q : Exit → Act → World → Prop} (ty : TypeId) (x : Operand) (ho : o.op = .load ty x)
    (g f : Nat) (hx : a.eval x = .pointer (some ⟨g, f, none⟩)) (cs : List Value) (n : Nat) (e : TypeId) (hc : ∀ j v, cs[j]? = some v → w.cell? ⟨g, f + j, none⟩ = some v)
    (hu : P.underlying ty = some (.array n e)) (hi : (P.info? ty).map (·.size) = some cs.length)
    (h : K (a.put o.dst (.agg cs.toArray)) w) : o.wp P a w K Q := by
  unfold Oper.wp execOp
  simp only [ho, hx, Instr.loadAt, Instr.sureAddr, Sem.run_bind, Sem.run_pure, Result.andThen_ok, run_loadVar_part w g f ty cs n e hc hu hi]
  exact h
end Mh
