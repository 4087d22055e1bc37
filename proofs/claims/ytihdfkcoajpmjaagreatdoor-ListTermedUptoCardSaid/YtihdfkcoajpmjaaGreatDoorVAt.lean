/- Values of settings as they lie in memory: 'VAt w X cs': the six cells cs are the value X. Strings in slices: 'Ss'. No program but in the last law. -/
import Derived.Test.YtihdfkcoajpmjaaGreatDoorSl
import Derived.Test.YtihdfkcoajpmjaaGreatDoorVal
import Derived.ChangeArms
import Derived.Deep.Slices
import Derived.Deep.Fields
import Derived.Lib.SmallJoins
namespace Mh
open Go Go.RowKit Go.ChangeShapes Go.WideShapes Go.Deep
set_option linter.unusedVariables false

/-- A slice of strings that reads as a list. -/
def Ss (w : World) (v : Value) (l : List ByteArray) : Prop := Sl 1 w v l.length (l.map Value.string) ∧ ∀ s ∈ l, s.size ≤ maxLen
theorem Ss.below {w w' : World} {v : Value} {l : List ByteArray} (h : Ss w v l) (hb : Below w.heap.size w w') : Ss w' v l := ⟨h.1.below hb, h.2⟩

mutual
def VAt (w : World) : V → List Value → Prop
  | .mk k b n t is ks, cs => ∃ iv kv : Value, cs = [.int .i64 k, .bool b, .int .i64 n, .string t, iv, kv] ∧ (Lit.int .i64 k).wf = true ∧ (Lit.int .i64 n).wf = true ∧ t.size ≤ maxLen ∧ Ss w kv ks ∧
      ∃ rows : List Value, Sl 6 w iv is.length rows ∧ VsAt w is rows
def VsAt (w : World) : List V → List Value → Prop
  | [], rows => rows = []
  | x :: xs, rows => ∃ c r : List Value, rows = c ++ r ∧ c.length = 6 ∧ VAt w x c ∧ VsAt w xs r
end

theorem VAt.length {w : World} {X : V} {cs : List Value} (h : VAt w X cs) : cs.length = 6 := by
  cases X with
  | mk k b n t is ks =>
    unfold VAt at h
    obtain ⟨iv, kv, rfl, _⟩ := h
    rfl
theorem VsAt.of {w : World} {f : V → List Value → Prop} : ∀ (is : List V) (rows : List Value), (∀ x ∈ is, ∀ c, VAt w x c → f x c) → VsAt w is rows → True := fun _ _ _ _ => trivial

theorem VAt.below {w w' : World} (hb : Below w.heap.size w w') : ∀ (N : Nat) (X : V), sizeOf X < N → ∀ cs, VAt w X cs → VAt w' X cs := by
  intro N
  induction N with
  | zero => intro X h; omega
  | succ N ih =>
    rintro ⟨k, b, n, t, is, ks⟩ hX cs h
    unfold VAt at h ⊢
    obtain ⟨iv, kv, rfl, h1, h2, h3, h4, rows, h5, h6⟩ := h
    refine ⟨iv, kv, rfl, h1, h2, h3, h4.below hb, rows, h5.below hb, ?_⟩
    have hm : ∀ x ∈ is, sizeOf x < N := fun x hx => by have := size_item (k := k) (b := b) (n := n) (t := t) (ks := ks) hx; omega
    clear h5 hX
    induction is generalizing rows with
    | nil => unfold VsAt at h6 ⊢; exact h6
    | cons x xs ihx =>
      unfold VsAt at h6 ⊢
      obtain ⟨c, r, rfl, hc, hx, hr⟩ := h6
      exact ⟨c, r, rfl, hc, ih x (hm x (by simp)) c hx, ihx r hr (fun y hy => hm y (by simp [hy]))⟩
theorem VAt.keep {w w' : World} {X : V} {cs : List Value} (h : VAt w X cs) (hb : Below w.heap.size w w') : VAt w' X cs := VAt.below hb _ X (Nat.lt_succ_self _) cs h
theorem VsAt.keep {w w' : World} (hb : Below w.heap.size w w') : ∀ (is : List V) (rows : List Value), VsAt w is rows → VsAt w' is rows := by
  intro is
  induction is with
  | nil => intro rows h; unfold VsAt at h ⊢; exact h
  | cons x xs ih =>
    intro rows h
    unfold VsAt at h ⊢
    obtain ⟨c, r, rfl, hc, hx, hr⟩ := h
    exact ⟨c, r, rfl, hc, hx.keep hb, ih r hr⟩
theorem VsAt.get {w : World} : ∀ (is : List V) (rows : List Value), VsAt w is rows → ∀ i (h : i < is.length), ∃ c : List Value, VAt w is[i] c ∧ ∀ j, j < 6 → rows[i * 6 + j]? = c[j]? := by
  intro is
  induction is with
  | nil => intro rows _ i h; simp at h
  | cons x xs ih =>
    intro rows h i hi
    unfold VsAt at h
    obtain ⟨c, r, rfl, hc, hx, hr⟩ := h
    cases i with
    | zero => exact ⟨c, hx, fun j hj => by rw [List.getElem?_append_left (by omega)]; congr 1; omega⟩
    | succ i =>
      obtain ⟨c', h1, h2⟩ := ih r hr i (by simpa using hi)
      refine ⟨c', h1, fun j hj => ?_⟩
      rw [List.getElem?_append_right (by omega), ← h2 j hj]
      congr 1
      omega
theorem VsAt.mk {w : World} (f : Nat → V) (g : Nat → List Value) : ∀ (n k : Nat), (∀ i, i < n → VAt w (f (k + i)) (g (k + i))) → VsAt w ((List.range' k n).map f) ((List.range' k n).flatMap g) := by
  intro n
  induction n with
  | zero => intro k _; simp [VsAt]
  | succ n ih =>
    intro k h
    have e : List.range' k (n + 1) = k :: List.range' (k + 1) n := rfl
    rw [e, List.map_cons, List.flatMap_cons]
    unfold VsAt
    have h0 := h 0 (by omega)
    rw [Nat.add_zero] at h0
    exact ⟨g k, _, rfl, h0.length, h0, ih (k + 1) (fun i hi => by have := h (i + 1) (by omega); rwa [show k + (i + 1) = k + 1 + i by omega] at this)⟩

section
variable {H : Type} {enc : TypeId × Value → H} {P : Program} {w : World}

/-- The slice word of a slice that was read, its elements of k cells each. -/
theorem open_sl_rows {t e : TypeId} {k fuel : Nat} {held : Bool} {u : Value} {x : DataW H × List MemPlace} (ht : P.underlying t = some (.slice e)) (hc : P.cellsOf e = k) (hk : 0 < k)
    (h : DataW.trod enc P w 0 (fun _ => true) held fuel t [u] = some x) :
    ∃ (len n : Nat) (g : Nat → List Value) (y : Nat → DataW H × List MemPlace), Sl k w u len ((List.range len).flatMap g) ∧ n < fuel ∧ (∀ i, i < len → (g i).length = k ∧ DataW.trod enc P w 0 (fun _ => true) held n e (g i) = some (y i)) := by
  rcases DataW.trod_slice ht h with ⟨hcs, _⟩ | ⟨a, len, cap, elems, rest, n, hfu, hcs, _, _, hl, hm, hlen, hel, _, _⟩
  · simp only [List.cons.injEq, and_true] at hcs
    subst hcs
    have hf : 0 < fuel := by
      cases fuel with
      | zero => simp [DataW.trod] at h
      | succ n => omega
    exact ⟨0, 0, fun _ => [], fun _ => x, ⟨by simp, .inl ⟨rfl, none, 0, rfl⟩⟩, hf, fun i hi => by omega⟩
  · simp only [List.cons.injEq, and_true] at hcs
    subst hcs
    have hrow : ∀ i, i < len → ∃ cs', w.cells? 0 (a.add (i * P.cellsOf e)) (P.cellsOf e) = some cs' ∧ ∃ z, DataW.trod enc P w 0 (fun _ => true) held n e cs' = some z := by
      intro i hi
      have := hel i hi
      rw [List.getElem?_eq_getElem (by omega)] at this
      obtain ⟨cs', h1, h2⟩ := Option.bind_eq_some_iff.1 this
      exact ⟨cs', h1, _, h2⟩
    rw [hc] at hrow
    have gx : ∃ (g : Nat → List Value) (y : Nat → DataW H × List MemPlace), ∀ i, i < len → w.cells? 0 (a.add (i * k)) k = some (g i) ∧ DataW.trod enc P w 0 (fun _ => true) held n e (g i) = some (y i) := by
      have h2 : ∀ i, ∃ p : List Value × (DataW H × List MemPlace), i < len → w.cells? 0 (a.add (i * k)) k = some p.1 ∧ DataW.trod enc P w 0 (fun _ => true) held n e p.1 = some p.2 := by
        intro i
        by_cases hi : i < len
        · obtain ⟨cs', h1, z, h2⟩ := hrow i hi
          exact ⟨(cs', z), fun _ => ⟨h1, h2⟩⟩
        · exact ⟨([], x), fun h => absurd h hi⟩
      exact ⟨fun i => (h2 i).choose.1, fun i => (h2 i).choose.2, fun i hi => (h2 i).choose_spec hi⟩
    obtain ⟨g, y, hg⟩ := gx
    have hgl : ∀ i, i < len → (g i).length = k := fun i hi => (World.cells?_some (hg i hi).1).2.1
    have hlenr : ∀ m, m ≤ len → ((List.range m).flatMap g).length = m * k := by
      intro m
      induction m with
      | zero => intro _; simp
      | succ m ih =>
        intro hm
        rw [List.range_succ, List.flatMap_append, List.length_append, ih (by omega)]
        simp only [List.flatMap_cons, List.flatMap_nil, List.append_nil]
        rw [hgl m (by omega), Nat.succ_mul]
    have hget : ∀ m, m ≤ len → ∀ i, i < m → ∀ j, j < k → ((List.range m).flatMap g)[i * k + j]? = (g i)[j]? := by
      intro m
      induction m with
      | zero => intro _ i hi; omega
      | succ m ih =>
        intro hm i hi j hj
        rw [List.range_succ, List.flatMap_append]
        by_cases him : i < m
        · have : (i + 1) * k ≤ m * k := Nat.mul_le_mul_right k him
          rw [Nat.succ_mul] at this
          rw [List.getElem?_append_left (by rw [hlenr m (by omega)]; omega)]
          exact ih (by omega) i him j hj
        · obtain rfl : i = m := by omega
          rw [List.getElem?_append_right (by rw [hlenr i (by omega)]; omega), hlenr i (by omega), Nat.add_sub_cancel_left]
          simp
    refine ⟨len, n, g, y, ⟨hlenr len (Nat.le_refl _), ?_⟩, by omega, fun i hi => ⟨hgl i hi, (hg i hi).2⟩⟩
    by_cases hn : len = 0
    · subst hn; exact .inl ⟨rfl, _, _, rfl⟩
    · obtain ⟨b, off, s⟩ := a
      have hcell : ∀ i (hi : i < len) j (hj : j < k), w.cell? ((⟨b, off, s⟩ : Addr).add (i * k + j)) = some ((g i)[j]'(by rw [hgl i hi]; exact hj)) := by
        intro i hi j hj
        obtain ⟨_, _, hat⟩ := World.cells?_some (hg i hi).1
        rw [← add_add, hat j hj, List.getElem?_eq_getElem]
      have h0 := hcell 0 (by omega) 0 hk
      have hs : s = none := by
        cases s with
        | none => rfl
        | some z =>
          exfalso
          simp only [Addr.add] at h0
          unfold World.cell? at h0
          split at h0
          · simp at h0
          · cases h0
      subst hs
      refine .inr ⟨b, off, cap, rfl, by omega, hl, hm, ?_, ?_⟩
      · have := World.block_lt_of_cell? w _ h0
        rwa [Addr.add_lit] at this
      intro q u hu
      have hq : q < len * k := by rw [← hlenr len (Nat.le_refl _)]; exact (List.getElem?_eq_some_iff.1 hu).1
      have hd : q = q / k * k + q % k := by rw [Nat.mul_comm]; exact (Nat.div_add_mod q k).symm
      have hi : q / k < len := Nat.div_lt_of_lt_mul (by rwa [Nat.mul_comm] at hq)
      have hj : q % k < k := Nat.mod_lt _ hk
      have h3 := hget len (Nat.le_refl _) (q / k) hi (q % k) hj
      rw [← hd, hu] at h3
      have h4 := hcell (q / k) hi (q % k) hj
      rw [← hd, Addr.add_lit] at h4
      rw [h4, h3, List.getElem?_eq_getElem]

/-- A slice of strings that was read. -/
theorem open_ss {t e : TypeId} {fuel : Nat} {held : Bool} {u : Value} {x : DataW H × List MemPlace} (ht : P.underlying t = some (.slice e)) (he : P.underlying e = some .string) (hc : P.cellsOf e = 1)
    (h : DataW.trod enc P w 0 (fun _ => true) held fuel t [u] = some x) : ∃ l : List ByteArray, Ss w u l := by
  obtain ⟨len, n, g, y, hS, _, hg⟩ := open_sl_rows ht hc (by decide) h
  have hx : ∀ i, ∃ s : ByteArray, i < len → g i = [.string s] ∧ s.size ≤ maxLen := by
    intro i
    by_cases hi : i < len
    · obtain ⟨s, h1, h2, h3⟩ := DataW.trod_string he (hg i hi).2
      exact ⟨s, fun _ => ⟨h1, h3⟩⟩
    · exact ⟨⟨#[]⟩, fun h => absurd h hi⟩
  have e1 : (List.range len).flatMap g = ((List.range len).map fun i => (hx i).choose).map Value.string := by
    rw [List.map_map, List.flatMap_def, List.map_congr_left (g := fun i => [Value.string (hx i).choose]) fun i hi => ((hx i).choose_spec (List.mem_range.1 hi)).1, ← List.flatMap_def]
    induction List.range len with
    | nil => rfl
    | cons a l ih => simp [ih]
  refine ⟨(List.range len).map fun i => (hx i).choose, ?_, ?_⟩
  · rw [e1] at hS
    simpa using hS
  · intro s hs
    obtain ⟨i, hi, rfl⟩ := List.mem_map.1 hs
    exact ((hx i).choose_spec (List.mem_range.1 hi)).2

set_option maxRecDepth 100000 in
/-- A value of settings that was read (P: a program whose type 'tv' is it). -/
theorem open_vat {tv ts tk : TypeId} {ti tb tx : TypeId} {held : Bool} {o0 o1 o2 o3 o4 o5 : Field} (hv : P.underlying tv = some (.struct #[o0, o1, o2, o3, o4, o5]))
    (f0 : o0.type = ti) (f1 : o1.type = tb) (f2 : o2.type = ti) (f3 : o3.type = tx) (f4 : o4.type = ts) (f5 : o5.type = tk)
    (g0 : o0.offset = 0) (g1 : o1.offset = 1) (g2 : o2.offset = 2) (g3 : o3.offset = 3) (g4 : o4.offset = 4) (g5 : o5.offset = 5)
    (hti : P.underlying ti = some (.int .i64)) (htb : P.underlying tb = some .bool) (htx : P.underlying tx = some .string) (hts : P.underlying ts = some (.slice tv)) (htk : P.underlying tk = some (.slice tx))
    (ci : P.cellsOf ti = 1) (cb : P.cellsOf tb = 1) (cx : P.cellsOf tx = 1) (cs : P.cellsOf ts = 1) (ck : P.cellsOf tk = 1) (cv : P.cellsOf tv = 6) :
    ∀ (N : Nat) (fuel : Nat), fuel < N → ∀ (l : List Value) (x : DataW H × List MemPlace), DataW.trod enc P w 0 (fun _ => true) held fuel tv l = some x → ∃ X : V, VAt w X l := by
  intro N
  induction N with
  | zero => intro fuel h; omega
  | succ N ih =>
    intro fuel hN l x h
    obtain ⟨xs, n, hfu, _, hlen, hxl, hf⟩ := DataW.trod_struct hv h
    rw [cv] at hlen
    match l, hlen with
    | [c0, c1, c2, c3, c4, c5], _ =>
    match xs, hxl with
    | [x0, x1, x2, x3, x4, x5], _ =>
    have h0 := hf 0 o0 rfl
    have h1 := hf 1 o1 rfl
    have h2 := hf 2 o2 rfl
    have h3 := hf 3 o3 rfl
    have h4 := hf 4 o4 rfl
    have h5 := hf 5 o5 rfl
    rw [f0, g0, ci] at h0
    rw [f1, g1, cb] at h1
    rw [f2, g2, ci] at h2
    rw [f3, g3, cx] at h3
    rw [f4, g4, cs] at h4
    rw [f5, g5, ck] at h5
    obtain ⟨a0, e0, _, w0⟩ := DataW.trod_int hti h0
    obtain ⟨a1, e1, _⟩ := DataW.trod_bool htb h1
    obtain ⟨a2, e2, _, w2⟩ := DataW.trod_int hti h2
    obtain ⟨a3, e3, _, w3⟩ := DataW.trod_string htx h3
    obtain ⟨K, hK⟩ := open_ss htk htx cx h5
    obtain ⟨len, n', g, y, hS, hn, hg⟩ := open_sl_rows hts cv (by decide) h4
    have hx : ∀ i, ∃ X : V, i < len → VAt w X (g i) := by
      intro i
      by_cases hi : i < len
      · obtain ⟨X, hX⟩ := ih n' (by omega) (g i) (y i) (hg i hi).2
        exact ⟨X, fun _ => hX⟩
      · exact ⟨.mk 0 false 0 ⟨#[]⟩ [] [], fun h => absurd h hi⟩
    have hvs := VsAt.mk (w := w) (fun i => (hx i).choose) g len 0 (fun i hi => by rw [Nat.zero_add]; exact (hx i).choose_spec hi)
    rw [← List.range_eq_range'] at hvs
    simp only [List.drop_zero, List.take_succ_cons, List.take_zero, List.cons.injEq, and_true] at e0
    simp only [List.drop_succ_cons, List.drop_zero, List.take_succ_cons, List.take_zero, List.cons.injEq, and_true] at e1 e2 e3
    subst e0 e1 e2 e3
    refine ⟨.mk a0 a1 a2 a3 ((List.range len).map fun i => (hx i).choose) K, ?_⟩
    unfold VAt
    refine ⟨c4, c5, rfl, w0, w2, w3, hK, (List.range len).flatMap g, ?_, hvs⟩
    simpa using hS
end
end Mh
