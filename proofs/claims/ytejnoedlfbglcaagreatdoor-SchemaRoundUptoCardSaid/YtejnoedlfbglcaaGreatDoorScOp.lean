/- A schema that was read as an argument, with how many strings it names; the table of the kinds' names, as it is laid. -/
import Derived.Test.YtejnoedlfbglcaaGreatDoorFlOp
import Derived.Test.YtejnoedlfbglcaaGreatDoorLaidTb
import Derived.Test.YtejnoedlfbglcaaGreatDoorScA
namespace Go.Proofs.YtejnoedlfbglcaaGreatDoor
open Go.ChangeShapes Go.WideShapes Go.ChangeAt Go.RowKit Go.Deep Mh
set_option linter.unusedVariables false

theorem sum_ones {α : Type} (l : List α) : (l.map fun _ => 1).sum = l.length := by
  induction l with
  | nil => rfl
  | cons a l ih => rw [List.map_cons, List.sum_cons, ih, List.length_cons]; omega
/-- A slice of strings that was read: how many, and which. -/
theorem open_strs {H : Type} {enc : TypeId × Value → H} {P : Program} {w : World} {t e : TypeId} {fuel : Nat} {held : Bool} {u : Value} {x : DataW H × List MemPlace} (ht : P.underlying t = some (.slice e)) (he : P.underlying e = some .string) (hc : P.cellsOf e = 1)
    (h : DataW.trod enc P w 0 (fun _ => true) held fuel t [u] = some x) : ∃ l : List ByteArray, Ss w u l ∧ (∀ es sp, x.1 = .slice es sp → es = l.map fun s => .lit (.string s.data.toList)) ∧ ∀ M, 2 ≤ M → l.length ≤ bkN M x.1 := by
  obtain ⟨l, hl⟩ := open_ss ht he hc h
  refine ⟨l, hl, ?_⟩
  obtain ⟨ao, c, hu, _, hcell⟩ := Sl.shp hl.1
  rcases DataW.trod_slice ht h with ⟨hcs, hx0⟩ | ⟨a, len, cap, elems, rest, n, hfu, hcs, hx0, _, hlc, hm, hlen, hel, _, _⟩
  · simp only [List.cons.injEq, and_true] at hcs
    rw [hcs] at hu
    simp only [Value.slice.injEq] at hu
    refine ⟨fun es sp h => ?_, fun M _ => by omega⟩
    rw [hx0] at h
    cases h
  · simp only [List.cons.injEq, and_true] at hcs
    rw [hcs] at hu
    simp only [Value.slice.injEq] at hu
    obtain ⟨ha, hn, _⟩ := hu
    subst hn
    have hee : elems.map (·.1) = l.map fun s => (.lit (.string s.data.toList) : DataW H) := by
      apply List.ext_getElem?
      intro i
      by_cases hi : i < l.length
      · obtain ⟨b, off, hao, _, _, _, hc2⟩ := hcell (by omega)
        rw [hao] at ha
        injection ha with ha
        have h9 := hel i hi
        rw [List.getElem?_eq_getElem (by omega)] at h9
        obtain ⟨cs', h1, h2⟩ := Option.bind_eq_some_iff.1 h9
        rw [hc, Nat.mul_one] at h1
        obtain ⟨_, h3, h4⟩ := World.cells?_some h1
        obtain ⟨s, rfl, hy, _⟩ := DataW.trod_string he h2
        have h5 := h4 0 (by omega)
        have h6 := hc2 i (.string l[i]) (by simp [hi])
        have e1 : (a.add i).add 0 = ⟨b, off + i, none⟩ := by
          rw [ha]
          unfold Addr.add
          by_cases h0 : i = 0 <;> simp [h0]
        rw [e1, h6] at h5
        simp only [List.getElem?_cons_zero, Option.some.injEq, Value.string.injEq] at h5
        rw [List.getElem?_map, List.getElem?_eq_getElem (by omega), List.getElem?_map, List.getElem?_eq_getElem hi, hy, h5]
        rfl
      · rw [List.getElem?_eq_none (by rw [List.length_map]; omega), List.getElem?_eq_none (by rw [List.length_map]; omega)]
    refine ⟨fun es sp h => ?_, fun M hM => ?_⟩
    · rw [hx0] at h
      injection h with h1 h2
      rw [← h1]; exact hee
    · obtain ⟨M', rfl⟩ : ∃ M', M = M' + 2 := ⟨M - 2, by omega⟩
      rw [hx0]
      show l.length ≤ bkN (M' + 1 + 1) (.slice (elems.map (·.1)) _)
      rw [hee]
      simp only [bkN, List.map_map, Function.comp_def]
      have := sum_ones l
      have e2 : (List.map (fun x : ByteArray => bkN (M' + 1) (DataW.lit (.string x.data.toList) : DataW H)) l) = l.map fun _ => 1 := List.map_congr_left fun s _ => by simp only [bkN]
      omega
set_option maxRecDepth 100000 in
set_option maxHeartbeats 2000000 in
theorem open_field2 {H : Type} {enc : TypeId × Value → H} {w : World} {fuel : Nat} {l : List Value} {x : DataW H × List MemPlace} (h : DataW.trod enc Tryz.prog w 0 (fun _ => true) true fuel 52 l = some x) :
    ∃ f : Mh.Fd, FdAt w f l ∧ ∀ M, 2 * fuel ≤ M → f.dv.nodes ≤ bkN M x.1 ∧ f.one.length ≤ bkN M x.1 := by
  obtain ⟨xs, n, hfu, hx0, hlen, hxl, hf⟩ := DataW.trod_struct Tryz.underlying52 h
  rw [show Tryz.prog.cellsOf 52 = 13 by kernel_rfl] at hlen
  match l, hlen with
  | [c0, c1, c2, c3, c4, c5, c6, c7, c8, c9, c10, c11, c12], _ =>
  match xs, hxl with
  | [x0, x1, x2, x3, x4, x5, x6, x7], _ =>
  have h0 : DataW.trod enc Tryz.prog w 0 (fun _ => true) true n 9 [c0] = some x0 := hf 0 _ rfl
  have h1 : DataW.trod enc Tryz.prog w 0 (fun _ => true) true n 3 [c1] = some x1 := hf 1 _ rfl
  have h2 : DataW.trod enc Tryz.prog w 0 (fun _ => true) true n 4 [c2] = some x2 := hf 2 _ rfl
  have h3 : DataW.trod enc Tryz.prog w 0 (fun _ => true) true n 4 [c3] = some x3 := hf 3 _ rfl
  have h4 : DataW.trod enc Tryz.prog w 0 (fun _ => true) true n 3 [c4] = some x4 := hf 4 _ rfl
  have h5 : DataW.trod enc Tryz.prog w 0 (fun _ => true) true n 3 [c5] = some x5 := hf 5 _ rfl
  have h6 : DataW.trod enc Tryz.prog w 0 (fun _ => true) true n 27 [c6] = some x6 := hf 6 _ rfl
  have h7 : DataW.trod enc Tryz.prog w 0 (fun _ => true) true n 29 [c7, c8, c9, c10, c11, c12] = some x7 := hf 7 _ rfl
  obtain ⟨a0, e0, _, w0⟩ := DataW.trod_string Tryz.underlying9 h0
  obtain ⟨a1, e1, _, w1⟩ := DataW.trod_int Tryz.underlying3 h1
  obtain ⟨a2, e2, _⟩ := DataW.trod_bool Tryz.underlying4 h2
  obtain ⟨a3, e3, _⟩ := DataW.trod_bool Tryz.underlying4 h3
  obtain ⟨a4, e4, _, w4⟩ := DataW.trod_int Tryz.underlying3 h4
  obtain ⟨a5, e5, _, w5⟩ := DataW.trod_int Tryz.underlying3 h5
  obtain ⟨K, hK, _, hkb⟩ := open_strs Tryz.underlying27 Tryz.underlying9 (by kernel_rfl) h6
  obtain ⟨X, hX, hb⟩ := open_vat2 Tryz.underlying29 rfl rfl rfl rfl rfl rfl rfl rfl rfl rfl rfl rfl Tryz.underlying3 Tryz.underlying4 Tryz.underlying9 Tryz.underlying26 Tryz.underlying27 (by kernel_rfl) (by kernel_rfl) (by kernel_rfl) (by kernel_rfl) (by kernel_rfl) (by kernel_rfl) (n + 1) n (Nat.lt_succ_self _) _ _ h7
  simp only [List.cons.injEq, and_true] at e0 e1 e2 e3 e4 e5
  subst e0 e1 e2 e3 e4 e5
  have hn0 : 0 < n := by
    cases n with
    | zero => simp [DataW.trod] at h0
    | succ n => omega
  refine ⟨⟨a0, a1, a2, a3, a4, a5, K, X⟩, FdAt.mk (f := ⟨a0, a1, a2, a3, a4, a5, K, X⟩) w0 w1 w4 w5 hK hX, fun M hM => ?_⟩
  obtain ⟨M', rfl⟩ : ∃ M', M = M' + 1 := ⟨M - 1, by omega⟩
  have h8 := hb M' (by omega)
  have h9 := hkb M' (by omega)
  rw [hx0]
  simp only [bkN, List.map_cons, List.map_nil, List.sum_cons, List.sum_nil]
  show X.nodes ≤ _ ∧ K.length ≤ _
  omega
set_option maxRecDepth 100000 in
theorem open_schema2 {H : Type} {enc : TypeId × Value → H} {W : World} {base : Nat} {v : Value} {d : DataW H} {p : List MemPlace} (hv : Value.okWide Tryz.prog W .any base 24 v) (h : DataW.Trod enc Tryz.prog W 0 (fun _ => true) true 24 v d p) :
    ∃ (fs : List Mh.Fd) (fv : Value) (b : Bool), v = .agg #[fv, .bool b] ∧ FsAt W fv fs ∧ ∀ f ∈ fs, f.dv.nodes ≤ Rows.uptoBulk d ∧ f.one.length ≤ Rows.uptoBulk d := by
  obtain ⟨cs, rfl, hsz⟩ := okWide_struct Tryz.underlying24 hv
  obtain ⟨fuel, hf⟩ := h
  obtain ⟨xs, n, hfu, hx0, hlen, hxl, hf⟩ := DataW.trod_struct Tryz.underlying24 hf
  rw [show Tryz.prog.cellsOf 24 = 2 by kernel_rfl] at hlen
  obtain ⟨fv, bv, rfl⟩ : ∃ fv bv, cs = #[fv, bv] := by
    match cs, hlen with
    | ⟨[a, b]⟩, _ => exact ⟨a, b, rfl⟩
  match xs, hxl with
  | [x0, x1], _ =>
  have h0 : DataW.trod enc Tryz.prog W 0 (fun _ => true) true n 22 [fv] = some x0 := hf 0 _ rfl
  have h1 : DataW.trod enc Tryz.prog W 0 (fun _ => true) true n 4 [bv] = some x1 := hf 1 _ rfl
  obtain ⟨b, e1, _⟩ := DataW.trod_bool Tryz.underlying4 h1
  simp only [List.cons.injEq, and_true] at e1
  subst e1
  obtain ⟨len, n', g, y, hS, hn, hg, hbk⟩ := open_sl_rows2 Tryz.underlying22 (show Tryz.prog.cellsOf 52 = 13 by kernel_rfl) (by decide) h0
  have hx : ∀ i, ∃ f : Mh.Fd, i < len → FdAt W f (g i) ∧ ∀ M, 2 * n' ≤ M → f.dv.nodes ≤ bkN M (y i).1 ∧ f.one.length ≤ bkN M (y i).1 := by
    intro i
    by_cases hi : i < len
    · obtain ⟨f, h1, h2⟩ := open_field2 (hg i hi).2
      exact ⟨f, fun _ => ⟨h1, h2⟩⟩
    · exact ⟨⟨⟨#[]⟩, 0, false, false, 0, 0, [], V.nil⟩, fun h => absurd h hi⟩
  have hd : d = .agg [x0.1, x1.1] := by injection hx0
  have hb1 := bkN_le (2 * n' + 1) x0.1
  have hb2 := hbk (2 * n')
  refine ⟨(List.range len).map fun i => (hx i).choose, fv, b, rfl, ⟨(List.range len).flatMap g, by simpa using hS, fun i hi => ?_⟩, fun f hf => ?_⟩
  · have hil : i < len := by simpa using hi
    refine ⟨g i, by simpa using ((hx i).choose_spec hil).1, fun j hj => ?_⟩
    have := flat_get g 13 len 0 (fun i hi => by rw [Nat.zero_add]; exact (hg i hi).1) i hil j hj
    rw [← List.range_eq_range', Nat.zero_add] at this
    exact this
  · obtain ⟨i, hi, rfl⟩ := List.mem_map.1 hf
    have hil : i < len := List.mem_range.1 hi
    have h1 := ((hx i).choose_spec hil).2 (2 * n') (Nat.le_refl _)
    have h2 := sum_mem ((List.range len).map fun i => bkN (2 * n') (y i).1) _ (List.mem_map.2 ⟨i, hi, rfl⟩)
    rw [hd]
    simp only [Rows.uptoBulk, Rows.uptoBulkAll]
    omega
/-- The variable of the kinds' names, out of a row's list. -/
theorem knames_laid {W : World} {l : List (String × DataW Unit)} (h : laidMet Tryz.prog l W) (hm : ("masthead/conf.kindNames", Rows.laid_masthead_conf_kindNames) ∈ l) : KNames W := by
  obtain ⟨ps, hl, _⟩ := h
  obtain ⟨g, t, cs, fuel, p, hg, ht, hvar, hd⟩ := laid_mem l ps hl hm
  obtain rfl := Option.some.inj ((show Tryz.prog.globalNamed "masthead/conf.kindNames" = some 0 by kernel_rfl).symm.trans hg)
  obtain rfl := Option.some.inj ((show (Tryz.prog.globals[0]?).map (·.type) = some 27 by kernel_rfl).symm.trans ht)
  have hc1 : ∃ u, cs.toList = [u] := by
    rcases DataW.trod_slice Tryz.underlying27 hd with ⟨hcs, _⟩ | ⟨a, len, cap, elems, rest, n, _, hcs, _⟩
    · exact ⟨_, hcs⟩
    · exact ⟨_, hcs⟩
  obtain ⟨u, hu⟩ := hc1
  rw [hu] at hd
  obtain ⟨ll, hs, he, _⟩ := open_strs Tryz.underlying27 Tryz.underlying9 (by kernel_rfl) hd
  have hll := he _ _ rfl
  have hlen : ll.length = 7 := by have := congrArg List.length hll; simpa using this.symm
  have hnames : ∀ i (h : i < 7), ll[i]'(by omega) = kname i := by
    intro i h
    have h2 : (ll.map fun s => (.lit (.string s.data.toList) : DataW Unit))[i]? = ((List.range 7).map fun i => (.lit (.string (kname i).data.toList) : DataW Unit))[i]? := by rw [← hll]; rfl
    rw [List.getElem?_map, List.getElem?_eq_getElem (by omega), List.getElem?_map, List.getElem?_range h] at h2
    simp only [Option.map_some, Option.some.injEq, DataW.lit.injEq, Lit.string.injEq] at h2
    generalize ll[i]'(by omega) = s at *
    generalize kname i = s2 at *
    cases s with
    | mk d => cases s2 with
      | mk d2 => congr 1; exact Array.toList_inj.1 h2
  obtain ⟨ao, c, rfl, _, hcell⟩ := Sl.shp hs.1
  obtain ⟨b, off, rfl, h1, _, h3, h4⟩ := hcell (by omega)
  have hc0 : W.cell? ⟨0, 0, none⟩ = some (.slice (some ⟨b, off, none⟩) ll.length c) := by
    have := World.var?_cell (show Tryz.prog.globalNamed "masthead/conf.kindNames" = some 0 by kernel_rfl) hvar 0
    rw [this]
    have e : cs = #[.slice (some ⟨b, off, none⟩) ll.length c] := by
      cases cs with
      | mk l0 => simp only at hu; rw [hu]
    rw [e]; rfl
  rw [hlen] at hc0
  refine ⟨b, off, c, hc0, by omega, h3, fun i hi => ?_⟩
  rw [← hnames i hi]
  exact h4 i _ (by rw [List.getElem?_map, List.getElem?_eq_getElem (by omega)]; rfl)
/-- A variable that holds a slice of strings: a block for its strings, behind all others. -/
def layStrs (g ts : Nat) (d : DataW Unit) (w : World) : World :=
  let l := match d with
    | .slice l _ => l.map fun (x : DataW Unit) => match x with
      | .lit (.string s) => Value.string ⟨s.toArray⟩
      | _ => Value.string ⟨#[]⟩
    | _ => []
  { w with heap := (w.heap.modify g fun
      | .cells _ t frozen => .cells #[.slice (some ⟨w.heap.size, 0, none⟩) l.length l.length] t frozen
      | o => o).push (.cells l.toArray ts (0, 0)) }
end Go.Proofs.YtejnoedlfbglcaaGreatDoor
