/- Redirects that were read as an argument, their strings bounded by what was read. -/
import Derived.Test.YtdjcificgilimaaDoorShB
import Derived.Test.YtdjcificgilimaaDoorVAt
import Derived.Test.YtdjcificgilimaaDoorShO
import Derived.Test.YtdjcificgilimaaDoorRows
namespace Mh
open Go Go.RowKit Go.ChangeShapes Go.WideShapes Go.Deep
set_option linter.unusedVariables false
variable {H : Type} {enc : TypeId × Value → H} {P : Program} {w : World}
/-- The slice word of a slice that was read, its elements of k cells each; and how many values it holds. -/
theorem open_sl_rowsM {t e : TypeId} {k fuel : Nat} {held : Bool} {u : Value} {x : DataW H × List MemPlace} (ht : P.underlying t = some (.slice e)) (hc : P.cellsOf e = k) (hk : 0 < k)
    (h : DataW.trod enc P w 0 (fun _ => true) held fuel t [u] = some x) :
    ∃ (len n : Nat) (g : Nat → List Value) (y : Nat → DataW H × List MemPlace), Sl k w u len ((List.range len).flatMap g) ∧ n < fuel ∧ (∀ i, i < len → (g i).length = k ∧ DataW.trod enc P w 0 (fun _ => true) held n e (g i) = some (y i)) ∧
      (∀ i, i < len → ∃ es sp, x.1 = .slice es sp ∧ (y i).1 ∈ es) := by
  rcases DataW.trod_slice ht h with ⟨hcs, hx0⟩ | ⟨a, len, cap, elems, rest, n, hfu, hcs, hx0, _, hl, hm, hlen, hel, _, _⟩
  · simp only [List.cons.injEq, and_true] at hcs
    subst hcs
    have hf : 0 < fuel := by
      cases fuel with
      | zero => simp [DataW.trod] at h
      | succ n => omega
    exact ⟨0, 0, fun _ => [], fun _ => x, ⟨by simp, .inl ⟨rfl, none, 0, rfl⟩⟩, hf, fun i hi => by omega, fun i hi => by omega⟩
  · simp only [List.cons.injEq, and_true] at hcs
    subst hcs
    have hrow : ∀ i, i < len → ∃ cs', w.cells? 0 (a.add (i * P.cellsOf e)) (P.cellsOf e) = some cs' ∧ ∃ z, DataW.trod enc P w 0 (fun _ => true) held n e cs' = some z := by
      intro i hi
      have := hel i hi
      rw [List.getElem?_eq_getElem (by omega)] at this
      obtain ⟨cs', h1, h2⟩ := Option.bind_eq_some_iff.1 this
      exact ⟨cs', h1, _, h2⟩
    rw [hc] at hrow
    have gx : ∃ (g : Nat → List Value) (y : Nat → DataW H × List MemPlace), ∀ i, i < len → w.cells? 0 (a.add (i * k)) k = some (g i) ∧ DataW.trod enc P w 0 (fun _ => true) held n e (g i) = some (y i) := by
      have h2 : ∀ i, ∃ p : List Value × (DataW H × List MemPlace), i < len → w.cells? 0 (a.add (i * k)) k = some p.1 ∧ DataW.trod enc P w 0 (fun _ => true) held n e p.1 = some p.2 := by
        intro i
        by_cases hi : i < len
        · obtain ⟨cs', h1, z, h2⟩ := hrow i hi
          exact ⟨(cs', z), fun _ => ⟨h1, h2⟩⟩
        · exact ⟨([], x), fun h => absurd h hi⟩
      exact ⟨fun i => (h2 i).choose.1, fun i => (h2 i).choose.2, fun i hi => (h2 i).choose_spec hi⟩
    obtain ⟨g, y, hg⟩ := gx
    have hyy : elems = (List.range len).map y := by
      apply List.ext_getElem?
      intro i
      by_cases hi : i < len
      · have h9 := hel i hi
        rw [hc, (hg i hi).1] at h9
        rw [← h9]
        simp only [Option.bind_some]
        rw [(hg i hi).2]
        simp [hi]
      · rw [List.getElem?_eq_none (by omega), List.getElem?_eq_none (by simp; omega)]
    have hbk : ∀ i, i < len → ∃ es sp, x.1 = .slice es sp ∧ (y i).1 ∈ es := fun i hi => by
      rw [hx0, hyy]
      exact ⟨_, _, rfl, by rw [List.map_map]; exact List.mem_map.2 ⟨i, List.mem_range.2 hi, rfl⟩⟩
    have hgl : ∀ i, i < len → (g i).length = k := fun i hi => (World.cells?_some (hg i hi).1).2.1
    have hlenr : ∀ m, m ≤ len → ((List.range m).flatMap g).length = m * k := by
      intro m
      induction m with
      | zero => intro _; simp
      | succ m ih =>
        intro hm
        rw [List.range_succ, List.flatMap_append, List.length_append, ih (by omega)]
        simp only [List.flatMap_cons, List.flatMap_nil, List.append_nil]
        rw [hgl m (by omega), Nat.succ_mul]
    have hget : ∀ m, m ≤ len → ∀ i, i < m → ∀ j, j < k → ((List.range m).flatMap g)[i * k + j]? = (g i)[j]? := by
      intro m
      induction m with
      | zero => intro _ i hi; omega
      | succ m ih =>
        intro hm i hi j hj
        rw [List.range_succ, List.flatMap_append]
        by_cases him : i < m
        · have : (i + 1) * k ≤ m * k := Nat.mul_le_mul_right k him
          rw [Nat.succ_mul] at this
          rw [List.getElem?_append_left (by rw [hlenr m (by omega)]; omega)]
          exact ih (by omega) i him j hj
        · obtain rfl : i = m := by omega
          rw [List.getElem?_append_right (by rw [hlenr i (by omega)]; omega), hlenr i (by omega), Nat.add_sub_cancel_left]
          simp
    refine ⟨len, n, g, y, ⟨hlenr len (Nat.le_refl _), ?_⟩, by omega, fun i hi => ⟨hgl i hi, (hg i hi).2⟩, hbk⟩
    by_cases hn : len = 0
    · subst hn; exact .inl ⟨rfl, _, _, rfl⟩
    · obtain ⟨b, off, s⟩ := a
      have hcell : ∀ i (hi : i < len) j (hj : j < k), w.cell? ((⟨b, off, s⟩ : Addr).add (i * k + j)) = some ((g i)[j]'(by rw [hgl i hi]; exact hj)) := by
        intro i hi j hj
        obtain ⟨_, _, hat⟩ := World.cells?_some (hg i hi).1
        rw [← add_add, hat j hj, List.getElem?_eq_getElem]
      have h0 := hcell 0 (by omega) 0 hk
      have hs : s = none := by
        cases s with
        | none => rfl
        | some z =>
          exfalso
          simp only [Addr.add] at h0
          unfold World.cell? at h0
          split at h0
          · simp at h0
          · cases h0
      subst hs
      refine .inr ⟨b, off, cap, rfl, by omega, hl, hm, ?_, ?_⟩
      · have := World.block_lt_of_cell? w _ h0
        rwa [Addr.add_lit] at this
      intro q u hu
      have hq : q < len * k := by rw [← hlenr len (Nat.le_refl _)]; exact (List.getElem?_eq_some_iff.1 hu).1
      have hd : q = q / k * k + q % k := by rw [Nat.mul_comm]; exact (Nat.div_add_mod q k).symm
      have hi : q / k < len := Nat.div_lt_of_lt_mul (by rwa [Nat.mul_comm] at hq)
      have hj : q % k < k := Nat.mod_lt _ hk
      have h3 := hget len (Nat.le_refl _) (q / k) hi (q % k) hj
      rw [← hd, hu] at h3
      have h4 := hcell (q / k) hi (q % k) hj
      rw [← hd, Addr.add_lit] at h4
      rw [h4, h3, List.getElem?_eq_getElem]



end Mh
namespace Go.Proofs.YtdjcificgilimaaDoor
open Go.ChangeShapes Go.WideShapes Go.ChangeAt Go.RowKit Go.Deep Mh
set_option linter.unusedVariables false
theorem bulk_mem {H : Type} : ∀ {l : List (DataW H)} {d : DataW H}, d ∈ l → Rows.uptoBulk d ≤ Rows.uptoBulkAll l
  | [], d, h => by simp at h
  | a :: l, d, h => by
    rcases List.mem_cons.1 h with rfl | h
    · simp only [Rows.uptoBulkAll]; omega
    · have := bulk_mem h; simp only [Rows.uptoBulkAll]; omega
theorem bulk_str {H : Type} (s : ByteArray) : Rows.uptoBulk (.lit (.string s.data.toList) : DataW H) = s.size + 1 := by
  simp only [Rows.uptoBulk, Array.length_toList]; rfl
set_option maxRecDepth 100000 in
theorem open_pairs {H : Type} {enc : TypeId × Value → H} {w : World} {ts tO tx : TypeId} {o0 o1 : Field} {fuel : Nat} {u : Value} {x : DataW H × List MemPlace} (ht : Tryd.prog.underlying ts = some (.slice tO)) (hv : Tryd.prog.underlying tO = some (.struct #[o0, o1]))
    (f0 : o0.type = tx) (f1 : o1.type = tx) (g0 : o0.offset = 0) (g1 : o1.offset = 1) (htx : Tryd.prog.underlying tx = some .string) (cx : Tryd.prog.cellsOf tx = 1) (cv : Tryd.prog.cellsOf tO = 2)
    (h : DataW.trod enc Tryd.prog w 0 (fun _ => true) true fuel ts [u] = some x) : ∃ l : List O, OsAt w u l ∧ ∀ o ∈ l, o.p.size ≤ Rows.uptoBulk x.1 ∧ o.b.size ≤ Rows.uptoBulk x.1 := by
  obtain ⟨len, n', g, y, hS, hn, hg, hm⟩ := open_sl_rowsM ht cv (by decide) h
  have hx : ∀ i, ∃ o : O, i < len → g i = [.string o.p, .string o.b] ∧ (o.p.size ≤ maxLen ∧ o.b.size ≤ maxLen) ∧ o.p.size ≤ Rows.uptoBulk x.1 ∧ o.b.size ≤ Rows.uptoBulk x.1 := by
    intro i
    by_cases hi : i < len
    · obtain ⟨hgl, hgt⟩ := hg i hi
      obtain ⟨es, sp, hxe, hme⟩ := hm i hi
      have hbm := bulk_mem hme
      have hbx : Rows.uptoBulkAll es ≤ Rows.uptoBulk x.1 := by rw [hxe]; simp only [Rows.uptoBulk]; omega
      obtain ⟨xs, n, hfu, hx0, hlen, hxl, hf⟩ := DataW.trod_struct hv hgt
      generalize g i = l at *
      match l, hgl with
      | [c0, c1], _ =>
      match xs, hxl with
      | [x0, x1], _ =>
      have h0 := hf 0 o0 rfl
      have h1 := hf 1 o1 rfl
      rw [f0, g0, cx] at h0
      rw [f1, g1, cx] at h1
      obtain ⟨a0, e0, d0, w0⟩ := DataW.trod_string htx h0
      obtain ⟨a1, e1, d1, w1⟩ := DataW.trod_string htx h1
      simp only [List.drop_zero, List.take_succ_cons, List.take_zero, List.cons.injEq, and_true] at e0
      simp only [List.drop_succ_cons, List.drop_zero, List.take_succ_cons, List.take_zero, List.cons.injEq, and_true] at e1
      subst e0 e1
      rw [hx0] at hbm
      simp only [List.map_cons, List.map_nil, Rows.uptoBulk, Rows.uptoBulkAll] at hbm
      rw [d0, d1] at hbm
      rw [bulk_str, bulk_str] at hbm
      exact ⟨⟨a0, a1⟩, fun _ => ⟨rfl, ⟨w0, w1⟩, by show a0.size ≤ _; omega, by show a1.size ≤ _; omega⟩⟩
    · exact ⟨⟨⟨#[]⟩, ⟨#[]⟩⟩, fun h => absurd h hi⟩
  refine ⟨(List.range len).map fun i => (hx i).choose, ⟨?_, fun o ho => ?_⟩, fun o ho => ?_⟩
  · rw [rowsO_flat _ g _ fun i hi => ((hx i).choose_spec (List.mem_range.1 hi)).1]
    simpa using hS
  · obtain ⟨i, hi, rfl⟩ := List.mem_map.1 ho
    exact ((hx i).choose_spec (List.mem_range.1 hi)).2.1
  · obtain ⟨i, hi, rfl⟩ := List.mem_map.1 ho
    exact ((hx i).choose_spec (List.mem_range.1 hi)).2.2
end Go.Proofs.YtdjcificgilimaaDoor
