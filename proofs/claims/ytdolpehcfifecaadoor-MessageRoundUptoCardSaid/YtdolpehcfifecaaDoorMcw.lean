/- A message that was read as an argument, as it lies in memory; its weight is bounded by what was read. Conditions: none. -/
import Derived.Test.YtdolpehcfifecaaDoorMcv
import Derived.Test.YtdolpehcfifecaaDoorRows
import Derived.Lib.SmallJoins
import Derived.Deep.Slices
import Derived.Deep.Fields
import Derived.ChangeSame
namespace Mh
open Go Go.RowKit Go.ChangeShapes Go.WideShapes Go.Deep
set_option linter.unusedVariables false
mutual
/-- The weight of a piece. -/
def szP : Pc → Nat | .mk _ t ws => 1 + t.size + szWs ws
def szPs : List Pc → Nat
  | [] => 0
  | x :: l => szP x + szPs l
def szW : Wy → Nat | .mk u _ _ ps => 1 + u.size + szPs ps
def szWs : List Wy → Nat
  | [] => 0
  | x :: l => szW x + szWs l
end
theorem szPs_sum (l : List Pc) : szPs l = (l.map szP).sum := by
  induction l with
  | nil => rfl
  | cons x l ih => rw [szPs, ih]; rfl
theorem szWs_sum (l : List Wy) : szWs l = (l.map szW).sum := by
  induction l with
  | nil => rfl
  | cons x l ih => rw [szWs, ih]; rfl
mutual
theorem many_sz : ∀ ps : List Pc, manyPs ps ≤ szPs ps
  | [] => by rw [manyPs]; exact Nat.zero_le _
  | .mk k t ws :: l => by rw [manyPs, szPs, szP]; have := manyW_sz ws; have := many_sz l; omega
theorem manyW_sz : ∀ ws : List Wy, manyWs ws ≤ szWs ws
  | [] => by rw [manyWs]; exact Nat.zero_le _
  | .mk u x f ps :: l => by rw [manyWs, szWs, szW]; have := many_sz ps; have := manyW_sz l; omega
end
mutual
theorem deep_sz : ∀ ps : List Pc, deepPs ps ≤ szPs ps
  | [] => by rw [deepPs]; exact Nat.zero_le _
  | .mk k t ws :: l => by rw [deepPs, szPs, szP]; have := deepW_sz ws; have := deep_sz l; omega
theorem deepW_sz : ∀ ws : List Wy, deepWs ws ≤ szWs ws
  | [] => by rw [deepWs]; exact Nat.zero_le _
  | .mk u x f ps :: l => by rw [deepWs, szWs, szW]; have := deep_sz ps; have := deepW_sz l; omega
end
theorem kind_len (k : Int) : (kindTx k).length ≤ 8 := by
  unfold kindTx
  split
  · decide
  · split <;> decide
theorem wayTx_len {k : Int} {u : ByteArray} {x f : Int} {ps : List Pc} (hx : -9223372036854775808 ≤ x ∧ x ≤ 9223372036854775807) (hf : -9223372036854775808 ≤ f ∧ f ≤ 9223372036854775807) : (wayTx k (.mk u x f ps)).length ≤ u.size + 21 := by
  unfold wayTx
  split
  · have : otherW.data.toList.length = 5 := rfl
    omega
  split
  · have : (Wy.mk u x f ps).wd.data.toList.length = u.size := by show u.data.toList.length = _; simp
    omega
  split
  · have := mitoa_len x hx.1 hx.2
    show (61 :: Lib.itoa x).length ≤ _
    simp only [List.length_cons]; omega
  · have := mitoa_len f hf.1 hf.2
    show (Lib.itoa f).length ≤ _
    omega
mutual
/-- Numbers of the machine. -/
def numsPs : List Pc → Prop
  | [] => True
  | .mk _ _ ws :: l => numsWs ws ∧ numsPs l
def numsWs : List Wy → Prop
  | [] => True
  | .mk _ x f ps :: l => ((-9223372036854775808 ≤ x ∧ x ≤ 9223372036854775807) ∧ (-9223372036854775808 ≤ f ∧ f ≤ 9223372036854775807)) ∧ numsPs ps ∧ numsWs l
end
mutual
theorem wr_sz : ∀ ps : List Pc, numsPs ps → (wrPs ps).length ≤ 40 * szPs ps
  | [], _ => by rw [wrPs]; exact Nat.zero_le _
  | .mk k t ws :: l, h => by
    rw [numsPs] at h
    rw [wrPs, szPs, szP, List.length_append, wrP]
    have h1 := wrW_sz k true ws h.1
    have h2 := wr_sz l h.2
    have h3 := kind_len k
    have h4 := esc_len t.data.toList
    have h5 : t.data.toList.length = t.size := by simp
    split
    · omega
    · split
      · simp only [List.length_cons, List.length_nil]; omega
      · simp only [List.length_cons, List.length_append, List.length_nil]; omega
theorem wrW_sz (k : Int) : ∀ (b : Bool) (ws : List Wy), numsWs ws → (wrWs k b ws).length ≤ 40 * szWs ws
  | b, [], _ => by rw [wrWs]; exact Nat.zero_le _
  | b, .mk u x f ps :: l, h => by
    rw [numsWs] at h
    rw [wrWs, szWs, szW]
    have h1 := wr_sz ps h.2.1
    have h2 := wrW_sz k false l h.2.2
    have h3 := wayTx_len (k := k) (u := u) (ps := []) h.1.1 h.1.2
    have h4 : (if b = true then [44] else ([] : List UInt8)).length ≤ 1 := by split <;> simp
    simp only [List.length_append, List.length_cons, List.length_nil] at h4 ⊢
    omega
end
mutual
theorem PcAt.nums {w : World} : ∀ {X : Pc} {cs : List Value}, PcAt w X cs → numsWs X.ws
  | .mk k t ws, cs, h => by
    unfold PcAt at h
    obtain ⟨wv, h1, h2, h3, rows, h4, h5⟩ := h
    exact WysAt.nums h5
theorem PcsAt.nums {w : World} : ∀ {xs : List Pc} {rows : List Value}, PcsAt w xs rows → numsPs xs
  | [], rows, h => by rw [numsPs]; trivial
  | .mk k t ws :: xs, rows, h => by
    unfold PcsAt at h
    obtain ⟨c, r, h1, h2, h3, h4⟩ := h
    rw [numsPs]
    exact ⟨PcAt.nums h3, PcsAt.nums h4⟩
theorem WyAt.nums {w : World} : ∀ {X : Wy} {cs : List Value}, WyAt w X cs → ((-9223372036854775808 ≤ X.ex ∧ X.ex ≤ 9223372036854775807) ∧ (-9223372036854775808 ≤ X.fm ∧ X.fm ≤ 9223372036854775807)) ∧ numsPs X.ps
  | .mk u x f ps, cs, h => by
    unfold WyAt at h
    obtain ⟨pv, h1, h2, h3, h4, rows, h5, h6⟩ := h
    exact ⟨⟨bounds_i64 h3, bounds_i64 h4⟩, PcsAt.nums h6⟩
theorem WysAt.nums {w : World} : ∀ {xs : List Wy} {rows : List Value}, WysAt w xs rows → numsWs xs
  | [], rows, h => by rw [numsWs]; trivial
  | .mk u x f ps :: xs, rows, h => by
    unfold WysAt at h
    obtain ⟨c, r, h1, h2, h3, h4⟩ := h
    have h5 := WyAt.nums h3
    rw [numsWs]
    exact ⟨h5.1, h5.2, WysAt.nums h4⟩
end
theorem PcsAt.mk {w : World} (f : Nat → Pc) (g : Nat → List Value) : ∀ (n k : Nat), (∀ i, i < n → PcAt w (f (k + i)) (g (k + i))) → PcsAt w ((List.range' k n).map f) ((List.range' k n).flatMap g) := by
  intro n
  induction n with
  | zero => intro k _; exact PcsAt.nil w
  | succ n ih =>
    intro k h
    have e : List.range' k (n + 1) = k :: List.range' (k + 1) n := rfl
    rw [e, List.map_cons, List.flatMap_cons]
    unfold PcsAt
    have h0 := h 0 (by omega)
    rw [Nat.add_zero] at h0
    exact ⟨g k, _, rfl, h0.length, h0, ih (k + 1) (fun i hi => by have := h (i + 1) (by omega); rwa [show k + (i + 1) = k + 1 + i by omega] at this)⟩
theorem WysAt.mk {w : World} (f : Nat → Wy) (g : Nat → List Value) : ∀ (n k : Nat), (∀ i, i < n → WyAt w (f (k + i)) (g (k + i))) → WysAt w ((List.range' k n).map f) ((List.range' k n).flatMap g) := by
  intro n
  induction n with
  | zero => intro k _; exact WysAt.nil w
  | succ n ih =>
    intro k h
    have e : List.range' k (n + 1) = k :: List.range' (k + 1) n := rfl
    rw [e, List.map_cons, List.flatMap_cons]
    unfold WysAt
    have h0 := h 0 (by omega)
    rw [Nat.add_zero] at h0
    exact ⟨g k, _, rfl, h0.length, h0, ih (k + 1) (fun i hi => by have := h (i + 1) (by omega); rwa [show k + (i + 1) = k + 1 + i by omega] at this)⟩
variable {H : Type} {enc : TypeId × Value → H} {P : Program} {w : World}
/-- The slice word of a slice that was read, its elements of k cells each; and how many values it holds. -/
theorem open_sl_rowsB {t e : TypeId} {k fuel : Nat} {held : Bool} {u : Value} {x : DataW H × List MemPlace} (ht : P.underlying t = some (.slice e)) (hc : P.cellsOf e = k) (hk : 0 < k)
    (h : DataW.trod enc P w 0 (fun _ => true) held fuel t [u] = some x) :
    ∃ (len n : Nat) (g : Nat → List Value) (y : Nat → DataW H × List MemPlace), Sl k w u len ((List.range len).flatMap g) ∧ n < fuel ∧ (∀ i, i < len → (g i).length = k ∧ DataW.trod enc P w 0 (fun _ => true) held n e (g i) = some (y i)) ∧
      (len = 0 ∨ ∃ es sp, x.1 = .slice es sp ∧ es = (List.range len).map fun i => (y i).1) := by
  rcases DataW.trod_slice ht h with ⟨hcs, hx0⟩ | ⟨a, len, cap, elems, rest, n, hfu, hcs, hx0, _, hl, hm, hlen, hel, _, _⟩
  · simp only [List.cons.injEq, and_true] at hcs
    subst hcs
    have hf : 0 < fuel := by
      cases fuel with
      | zero => simp [DataW.trod] at h
      | succ n => omega
    exact ⟨0, 0, fun _ => [], fun _ => x, ⟨by simp, .inl ⟨rfl, none, 0, rfl⟩⟩, hf, fun i hi => by omega, .inl rfl⟩
  · simp only [List.cons.injEq, and_true] at hcs
    subst hcs
    have hrow : ∀ i, i < len → ∃ cs', w.cells? 0 (a.add (i * P.cellsOf e)) (P.cellsOf e) = some cs' ∧ ∃ z, DataW.trod enc P w 0 (fun _ => true) held n e cs' = some z := by
      intro i hi
      have := hel i hi
      rw [List.getElem?_eq_getElem (by omega)] at this
      obtain ⟨cs', h1, h2⟩ := Option.bind_eq_some_iff.1 this
      exact ⟨cs', h1, _, h2⟩
    rw [hc] at hrow
    have gx : ∃ (g : Nat → List Value) (y : Nat → DataW H × List MemPlace), ∀ i, i < len → w.cells? 0 (a.add (i * k)) k = some (g i) ∧ DataW.trod enc P w 0 (fun _ => true) held n e (g i) = some (y i) := by
      have h2 : ∀ i, ∃ p : List Value × (DataW H × List MemPlace), i < len → w.cells? 0 (a.add (i * k)) k = some p.1 ∧ DataW.trod enc P w 0 (fun _ => true) held n e p.1 = some p.2 := by
        intro i
        by_cases hi : i < len
        · obtain ⟨cs', h1, z, h2⟩ := hrow i hi
          exact ⟨(cs', z), fun _ => ⟨h1, h2⟩⟩
        · exact ⟨([], x), fun h => absurd h hi⟩
      exact ⟨fun i => (h2 i).choose.1, fun i => (h2 i).choose.2, fun i hi => (h2 i).choose_spec hi⟩
    obtain ⟨g, y, hg⟩ := gx
    have hyy : elems = (List.range len).map y := by
      apply List.ext_getElem?
      intro i
      by_cases hi : i < len
      · have h9 := hel i hi
        rw [hc, (hg i hi).1] at h9
        rw [← h9]
        simp only [Option.bind_some]
        rw [(hg i hi).2]
        simp [hi]
      · rw [List.getElem?_eq_none (by omega), List.getElem?_eq_none (by simp; omega)]
    have hbk : len = 0 ∨ ∃ es sp, x.1 = .slice es sp ∧ es = (List.range len).map fun i => (y i).1 := .inr (by
      rw [hx0, hyy]
      exact ⟨_, _, rfl, by rw [List.map_map]; rfl⟩)
    have hgl : ∀ i, i < len → (g i).length = k := fun i hi => (World.cells?_some (hg i hi).1).2.1
    have hlenr : ∀ m, m ≤ len → ((List.range m).flatMap g).length = m * k := by
      intro m
      induction m with
      | zero => intro _; simp
      | succ m ih =>
        intro hm
        rw [List.range_succ, List.flatMap_append, List.length_append, ih (by omega)]
        simp only [List.flatMap_cons, List.flatMap_nil, List.append_nil]
        rw [hgl m (by omega), Nat.succ_mul]
    have hget : ∀ m, m ≤ len → ∀ i, i < m → ∀ j, j < k → ((List.range m).flatMap g)[i * k + j]? = (g i)[j]? := by
      intro m
      induction m with
      | zero => intro _ i hi; omega
      | succ m ih =>
        intro hm i hi j hj
        rw [List.range_succ, List.flatMap_append]
        by_cases him : i < m
        · have : (i + 1) * k ≤ m * k := Nat.mul_le_mul_right k him
          rw [Nat.succ_mul] at this
          rw [List.getElem?_append_left (by rw [hlenr m (by omega)]; omega)]
          exact ih (by omega) i him j hj
        · obtain rfl : i = m := by omega
          rw [List.getElem?_append_right (by rw [hlenr i (by omega)]; omega), hlenr i (by omega), Nat.add_sub_cancel_left]
          simp
    refine ⟨len, n, g, y, ⟨hlenr len (Nat.le_refl _), ?_⟩, by omega, fun i hi => ⟨hgl i hi, (hg i hi).2⟩, hbk⟩
    by_cases hn : len = 0
    · subst hn; exact .inl ⟨rfl, _, _, rfl⟩
    · obtain ⟨b, off, s⟩ := a
      have hcell : ∀ i (hi : i < len) j (hj : j < k), w.cell? ((⟨b, off, s⟩ : Addr).add (i * k + j)) = some ((g i)[j]'(by rw [hgl i hi]; exact hj)) := by
        intro i hi j hj
        obtain ⟨_, _, hat⟩ := World.cells?_some (hg i hi).1
        rw [← add_add, hat j hj, List.getElem?_eq_getElem]
      have h0 := hcell 0 (by omega) 0 hk
      have hs : s = none := by
        cases s with
        | none => rfl
        | some z =>
          exfalso
          simp only [Addr.add] at h0
          unfold World.cell? at h0
          split at h0
          · simp at h0
          · cases h0
      subst hs
      refine .inr ⟨b, off, cap, rfl, by omega, hl, hm, ?_, ?_⟩
      · have := World.block_lt_of_cell? w _ h0
        rwa [Addr.add_lit] at this
      intro q u hu
      have hq : q < len * k := by rw [← hlenr len (Nat.le_refl _)]; exact (List.getElem?_eq_some_iff.1 hu).1
      have hd : q = q / k * k + q % k := by rw [Nat.mul_comm]; exact (Nat.div_add_mod q k).symm
      have hi : q / k < len := Nat.div_lt_of_lt_mul (by rwa [Nat.mul_comm] at hq)
      have hj : q % k < k := Nat.mod_lt _ hk
      have h3 := hget len (Nat.le_refl _) (q / k) hi (q % k) hj
      rw [← hd, hu] at h3
      have h4 := hcell (q / k) hi (q % k) hj
      rw [← hd, Addr.add_lit] at h4
      rw [h4, h3, List.getElem?_eq_getElem]



end Mh
namespace Go.Proofs.YtdolpehcfifecaaDoor
open Go.ChangeShapes Go.WideShapes Go.ChangeAt Go.RowKit Go.Deep Mh
set_option linter.unusedVariables false
theorem bulkAll_sum {H : Type} (l : List (DataW H)) : Rows.uptoBulkAll l = (l.map Rows.uptoBulk).sum := by
  induction l with
  | nil => rfl
  | cons a l ih => simp only [Rows.uptoBulkAll, ih, List.map_cons, List.sum_cons]
theorem bulk_str {H : Type} (s : ByteArray) : Rows.uptoBulk (.lit (.string s.data.toList) : DataW H) = s.size + 1 := by
  simp only [Rows.uptoBulk, Array.length_toList]; rfl
theorem sum_leR {f g : Nat → Nat} (n : Nat) (h : ∀ i, i < n → f i ≤ g i) : ((List.range n).map f).sum ≤ ((List.range n).map g).sum := by
  induction n with
  | zero => simp
  | succ n ih =>
    have h1 := ih (fun i hi => h i (by omega))
    have h2 := h n (by omega)
    simp only [List.range_succ, List.map_append, List.sum_append, List.map_cons, List.map_nil, List.sum_cons, List.sum_nil]
    omega
set_option maxRecDepth 100000 in
set_option maxHeartbeats 4000000 in
theorem open_pieces {H : Type} {enc : TypeId × Value → H} {w : World} : ∀ (N fuel : Nat), fuel < N →
    (∀ (u : Value) (x : DataW H × List MemPlace), DataW.trod enc Tryd.prog w 0 (fun _ => true) true fuel 34 [u] = some x → ∃ ps : List Pc, PsIn w u ps ∧ szPs ps ≤ Rows.uptoBulk x.1) ∧
    (∀ (u : Value) (x : DataW H × List MemPlace), DataW.trod enc Tryd.prog w 0 (fun _ => true) true fuel 64 [u] = some x → ∃ ws : List Wy, WsIn w u ws ∧ szWs ws ≤ Rows.uptoBulk x.1) := by
  intro N
  induction N with
  | zero => intro fuel h; omega
  | succ N ih =>
    intro fuel hN
    have ci : Tryd.prog.cellsOf 3 = 1 := by kernel_rfl
    have cs : Tryd.prog.cellsOf 9 = 1 := by kernel_rfl
    have cw : Tryd.prog.cellsOf 64 = 1 := by kernel_rfl
    have cp : Tryd.prog.cellsOf 34 = 1 := by kernel_rfl
    constructor
    · intro u x h
      obtain ⟨len, n', g, y, hS, hn, hg, hbk⟩ := open_sl_rowsB Tryd.underlying34 (show Tryd.prog.cellsOf 66 = 3 by kernel_rfl) (by decide) h
      have hx : ∀ i, ∃ X : Pc, i < len → PcAt w X (g i) ∧ szP X ≤ Rows.uptoBulk (y i).1 := by
        intro i
        by_cases hi : i < len
        · obtain ⟨hgl, hgt⟩ := hg i hi
          obtain ⟨xs, n, hfu, hx0, hlen, hxl, hf⟩ := DataW.trod_struct Tryd.underlying66 hgt
          generalize g i = l at *
          match l, hgl with
          | [c0, c1, c2], _ =>
          match xs, hxl with
          | [x0, x1, x2], _ =>
          have h0 := hf 0 _ rfl
          have h1 := hf 1 _ rfl
          have h2 := hf 2 _ rfl
          change DataW.trod enc Tryd.prog w 0 (fun _ => true) true n 3 (([c0, c1, c2].drop 0).take (Tryd.prog.cellsOf 3)) = some x0 at h0
          change DataW.trod enc Tryd.prog w 0 (fun _ => true) true n 9 (([c0, c1, c2].drop 1).take (Tryd.prog.cellsOf 9)) = some x1 at h1
          change DataW.trod enc Tryd.prog w 0 (fun _ => true) true n 64 (([c0, c1, c2].drop 2).take (Tryd.prog.cellsOf 64)) = some x2 at h2
          rw [ci] at h0
          rw [cs] at h1
          rw [cw] at h2
          obtain ⟨a0, e0, _, w0⟩ := DataW.trod_int Tryd.underlying3 h0
          obtain ⟨a1, e1, d1, w1⟩ := DataW.trod_string Tryd.underlying9 h1
          simp only [List.drop_zero, List.drop_succ_cons, List.take_succ_cons, List.take_zero, List.cons.injEq, and_true] at e0 e1 h2
          subst e0 e1
          obtain ⟨ws, ⟨rows, hs1, hs2⟩, hsz⟩ := (ih n (by omega)).2 c2 x2 h2
          refine ⟨.mk a0 a1 ws, fun _ => ⟨PcAt.made w0 w1 hs1 hs2, ?_⟩⟩
          rw [hx0, szP]
          simp only [List.map_cons, List.map_nil, Rows.uptoBulk, Rows.uptoBulkAll]
          rw [d1, bulk_str]
          omega
        · exact ⟨.mk 0 ⟨#[]⟩ [], fun h => absurd h hi⟩
      have hvs := PcsAt.mk (w := w) (fun i => (hx i).choose) g len 0 (fun i hi => by rw [Nat.zero_add]; exact ((hx i).choose_spec hi).1)
      rw [← List.range_eq_range'] at hvs
      refine ⟨(List.range len).map fun i => (hx i).choose, ⟨(List.range len).flatMap g, by simpa using hS, hvs⟩, ?_⟩
      rw [szPs_sum, List.map_map]
      have h1 := sum_leR (f := szP ∘ fun i => (hx i).choose) (g := fun i => Rows.uptoBulk (y i).1) len (fun i hi => ((hx i).choose_spec hi).2)
      refine Nat.le_trans h1 ?_
      rcases hbk with h0 | ⟨es, sp, he, hes⟩
      · rw [h0]; simp
      · rw [he]
        simp only [Rows.uptoBulk]
        rw [bulkAll_sum, hes, List.map_map]
        show _ ≤ _ + _ + 1
        have : ((List.range len).map fun i => Rows.uptoBulk (y i).1).sum = ((List.range len).map (Rows.uptoBulk ∘ fun i => (y i).1)).sum := rfl
        omega
    · intro u x h
      obtain ⟨len, n', g, y, hS, hn, hg, hbk⟩ := open_sl_rowsB Tryd.underlying64 (show Tryd.prog.cellsOf 73 = 4 by kernel_rfl) (by decide) h
      have hx : ∀ i, ∃ X : Wy, i < len → WyAt w X (g i) ∧ szW X ≤ Rows.uptoBulk (y i).1 := by
        intro i
        by_cases hi : i < len
        · obtain ⟨hgl, hgt⟩ := hg i hi
          obtain ⟨xs, n, hfu, hx0, hlen, hxl, hf⟩ := DataW.trod_struct Tryd.underlying73 hgt
          generalize g i = l at *
          match l, hgl with
          | [c0, c1, c2, c3], _ =>
          match xs, hxl with
          | [x0, x1, x2, x3], _ =>
          have h0 := hf 0 _ rfl
          have h1 := hf 1 _ rfl
          have h2 := hf 2 _ rfl
          have h3 := hf 3 _ rfl
          change DataW.trod enc Tryd.prog w 0 (fun _ => true) true n 9 (([c0, c1, c2, c3].drop 0).take (Tryd.prog.cellsOf 9)) = some x0 at h0
          change DataW.trod enc Tryd.prog w 0 (fun _ => true) true n 3 (([c0, c1, c2, c3].drop 1).take (Tryd.prog.cellsOf 3)) = some x1 at h1
          change DataW.trod enc Tryd.prog w 0 (fun _ => true) true n 3 (([c0, c1, c2, c3].drop 2).take (Tryd.prog.cellsOf 3)) = some x2 at h2
          change DataW.trod enc Tryd.prog w 0 (fun _ => true) true n 34 (([c0, c1, c2, c3].drop 3).take (Tryd.prog.cellsOf 34)) = some x3 at h3
          rw [cs] at h0
          rw [ci] at h1 h2
          rw [cp] at h3
          obtain ⟨a0, e0, d0, w0⟩ := DataW.trod_string Tryd.underlying9 h0
          obtain ⟨a1, e1, _, w1⟩ := DataW.trod_int Tryd.underlying3 h1
          obtain ⟨a2, e2, _, w2⟩ := DataW.trod_int Tryd.underlying3 h2
          simp only [List.drop_zero, List.drop_succ_cons, List.take_succ_cons, List.take_zero, List.cons.injEq, and_true] at e0 e1 e2 h3
          subst e0 e1 e2
          obtain ⟨ps, ⟨rows, hs1, hs2⟩, hsz⟩ := (ih n (by omega)).1 c3 x3 h3
          refine ⟨.mk a0 a1 a2 ps, fun _ => ⟨WyAt.made w0 w1 w2 hs1 hs2, ?_⟩⟩
          rw [hx0, szW]
          simp only [List.map_cons, List.map_nil, Rows.uptoBulk, Rows.uptoBulkAll]
          rw [d0, bulk_str]
          omega
        · exact ⟨.mk ⟨#[]⟩ 0 0 [], fun h => absurd h hi⟩
      have hvs := WysAt.mk (w := w) (fun i => (hx i).choose) g len 0 (fun i hi => by rw [Nat.zero_add]; exact ((hx i).choose_spec hi).1)
      rw [← List.range_eq_range'] at hvs
      refine ⟨(List.range len).map fun i => (hx i).choose, ⟨(List.range len).flatMap g, by simpa using hS, hvs⟩, ?_⟩
      rw [szWs_sum, List.map_map]
      have h1 := sum_leR (f := szW ∘ fun i => (hx i).choose) (g := fun i => Rows.uptoBulk (y i).1) len (fun i hi => ((hx i).choose_spec hi).2)
      refine Nat.le_trans h1 ?_
      rcases hbk with h0 | ⟨es, sp, he, hes⟩
      · rw [h0]; simp
      · rw [he]
        simp only [Rows.uptoBulk]
        rw [bulkAll_sum, hes, List.map_map]
        show _ ≤ _ + _ + 1
        have : ((List.range len).map fun i => Rows.uptoBulk (y i).1).sum = ((List.range len).map (Rows.uptoBulk ∘ fun i => (y i).1)).sum := rfl
        omega
set_option maxRecDepth 100000 in
theorem open_message {H : Type} {enc : TypeId × Value → H} {W : World} {base : Nat} {v : Value} {d : DataW H} {p : List MemPlace} (hv : Value.okWide Tryd.prog W .any base 36 v) (h : DataW.Trod enc Tryd.prog W 0 (fun _ => true) true 36 v d p) :
    ∃ (ps : List Pc) (pv : Value), v = .agg #[pv] ∧ PsIn W pv ps ∧ szPs ps ≤ Rows.uptoBulk d ∧ numsPs ps := by
  obtain ⟨cs, rfl, hsz⟩ := okWide_struct Tryd.underlying36 hv
  obtain ⟨fuel, hf⟩ := h
  obtain ⟨y0, n, hx, hl, h0⟩ := trod_struct1 Tryd.underlying36 hf
  have hc1 : cs.size = 1 := by
    have : cs.toList.length = Tryd.prog.cellsOf 36 := hl
    rw [show Tryd.prog.cellsOf 36 = 1 by kernel_rfl] at this
    simpa using this
  obtain ⟨fv, rfl⟩ : ∃ fv, cs = #[fv] := by
    match cs, hc1 with
    | ⟨[a]⟩, _ => exact ⟨a, rfl⟩
  have h1 : DataW.trod enc Tryd.prog W 0 (fun _ => true) true n 34 [fv] = some y0 := h0
  obtain ⟨ps, hps, hc⟩ := (open_pieces _ n (Nat.lt_succ_self _)).1 fv y0 h1
  refine ⟨ps, fv, rfl, hps, ?_, by obtain ⟨rows, _, h⟩ := hps; exact PcsAt.nums h⟩
  have hd : d = .agg [y0.1] := by injection hx
  rw [hd]
  simp only [Rows.uptoBulk, Rows.uptoBulkAll]
  omega
end Go.Proofs.YtdolpehcfifecaaDoor
