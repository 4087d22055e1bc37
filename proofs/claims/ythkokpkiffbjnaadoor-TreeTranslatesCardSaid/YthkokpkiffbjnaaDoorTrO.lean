/- A site that was read as an argument. -/
import Derived.Test.YthkokpkiffbjnaaDoorTrS
import Derived.Test.YthkokpkiffbjnaaDoorKeOp
import Derived.Test.YthkokpkiffbjnaaDoorShp
namespace Go.Proofs.YthkokpkiffbjnaaDoor
open Go.ChangeShapes Go.WideShapes Go.ChangeAt Go.RowKit Go.Deep Mh
set_option linter.unusedVariables false
theorem flat_getT {α : Type} (g : Nat → List α) (k : Nat) : ∀ (n s : Nat), (∀ i, i < n → (g (s + i)).length = k) → ∀ i, i < n → ∀ j, j < k → ((List.range' s n).flatMap g)[i * k + j]? = (g (s + i))[j]? := by
  intro n
  induction n with
  | zero => intro s _ i h; omega
  | succ n ih =>
    intro s hg i hi j hj
    have e : List.range' s (n + 1) = s :: List.range' (s + 1) n := rfl
    have h0 := hg 0 (by omega)
    rw [Nat.add_zero] at h0
    rw [e, List.flatMap_cons]
    cases i with
    | zero => rw [List.getElem?_append_left (by rw [h0]; omega)]; simp
    | succ i =>
      rw [List.getElem?_append_right (by rw [h0, Nat.succ_mul]; omega), h0, show (i + 1) * k + j - k = i * k + j by rw [Nat.succ_mul]; omega, ih (s + 1) (fun i hi => by have := hg (i + 1) (by omega); rwa [show s + (i + 1) = s + 1 + i by omega] at this) i (by omega) j hj, show s + 1 + i = s + (i + 1) by omega]
/-- What a page's cells say. -/
def PgCells (w : World) (p : Pg) (l : List Value) : Prop := ∃ ia ic ka kc fa fc, l = (pg13 p ia ic ka kc fa fc).toList ∧ PgAt w p ia ic ka kc fa fc
set_option maxRecDepth 100000 in
set_option maxHeartbeats 2000000 in
theorem open_page {H : Type} {enc : TypeId × Value → H} {w : World} {fuel : Nat} {l : List Value} {x : DataW H × List MemPlace} (h : DataW.trod enc Tryd.prog w 0 (fun _ => true) true fuel 39 l = some x) : ∃ p : Pg, PgCells w p l := by
  obtain ⟨xs, n, hfu, hx0, hlen, hxl, hf⟩ := DataW.trod_struct Tryd.underlying39 h
  rw [show Tryd.prog.cellsOf 39 = 13 by kernel_rfl] at hlen
  match l, hlen with
  | [c0, c1, c2, c3, c4, c5, c6, c7, c8, c9, c10, c11, c12], _ =>
  match xs, hxl with
  | [x0, x1, x2, x3, x4, x5, x6, x7], _ =>
  have h0 : DataW.trod enc Tryd.prog w 0 (fun _ => true) true n 9 [c0] = some x0 := hf 0 _ rfl
  have h1 : DataW.trod enc Tryd.prog w 0 (fun _ => true) true n 9 [c1] = some x1 := hf 1 _ rfl
  have h2 : DataW.trod enc Tryd.prog w 0 (fun _ => true) true n 9 [c2] = some x2 := hf 2 _ rfl
  have h3 : DataW.trod enc Tryd.prog w 0 (fun _ => true) true n 9 [c3] = some x3 := hf 3 _ rfl
  have h4 : DataW.trod enc Tryd.prog w 0 (fun _ => true) true n 3 [c4] = some x4 := hf 4 _ rfl
  have h5 : DataW.trod enc Tryd.prog w 0 (fun _ => true) true n 37 [c5, c6, c7, c8, c9, c10] = some x5 := hf 5 _ rfl
  have h6 : DataW.trod enc Tryd.prog w 0 (fun _ => true) true n 9 [c11] = some x6 := hf 6 _ rfl
  have h7 : DataW.trod enc Tryd.prog w 0 (fun _ => true) true n 22 [c12] = some x7 := hf 7 _ rfl
  obtain ⟨a0, e0, _, w0⟩ := DataW.trod_string Tryd.underlying9 h0
  obtain ⟨a1, e1, _, w1⟩ := DataW.trod_string Tryd.underlying9 h1
  obtain ⟨a2, e2, _, w2⟩ := DataW.trod_string Tryd.underlying9 h2
  obtain ⟨a3, e3, _, w3⟩ := DataW.trod_string Tryd.underlying9 h3
  obtain ⟨a4, e4, _, w4⟩ := DataW.trod_int Tryd.underlying3 h4
  obtain ⟨X, hX, hb⟩ := open_vat2 Tryd.underlying37 rfl rfl rfl rfl rfl rfl rfl rfl rfl rfl rfl rfl Tryd.underlying3 Tryd.underlying4 Tryd.underlying9 Tryd.underlying35 Tryd.underlying22 (by kernel_rfl) (by kernel_rfl) (by kernel_rfl) (by kernel_rfl) (by kernel_rfl) (by kernel_rfl) (n + 1) n (Nat.lt_succ_self _) _ _ h5
  obtain ⟨a6, e6, _, w6⟩ := DataW.trod_string Tryd.underlying9 h6
  obtain ⟨K, hK⟩ := open_ss Tryd.underlying22 Tryd.underlying9 (by kernel_rfl) h7
  simp only [List.cons.injEq, and_true] at e0 e1 e2 e3 e4 e6
  subst e0 e1 e2 e3 e4 e6
  obtain ⟨ia, ic, ka, kc, hcs, _⟩ := hX.opened
  have hX' := hX
  rw [hcs] at hX'
  unfold vcs at hcs
  simp only [List.cons.injEq, and_true] at hcs
  obtain ⟨rfl, rfl, rfl, rfl, rfl, rfl⟩ := hcs
  obtain ⟨fa, fc, hv, _⟩ := hK.get
  subst hv
  exact ⟨⟨a0, a1, a2, a3, a4, X, a6, K⟩, ia, ic, ka, kc, fa, fc, rfl, ⟨hX', hK, w0, w1, w2, w3, w6⟩⟩
set_option maxRecDepth 100000 in
theorem open_site {H : Type} {enc : TypeId × Value → H} {W : World} {base : Nat} {v : Value} {d : DataW H} {p : List MemPlace} (hv : Value.okWide Tryd.prog W .any base 25 v) (h : DataW.Trod enc Tryd.prog W 0 (fun _ => true) true 25 v d p) :
    ∃ (L : List ByteArray) (l : List Pg) (la pa : Option Addr) (lc pc : Nat), v = .agg #[.slice la L.length lc, .slice pa l.length pc] ∧ Ss W (.slice la L.length lc) L ∧ PsAt W (.slice pa l.length pc) l := by
  obtain ⟨cs, rfl, hsz⟩ := okWide_struct Tryd.underlying25 hv
  obtain ⟨fuel, hf⟩ := h
  obtain ⟨xs, n, hfu, hx0, hlen, hxl, hf⟩ := DataW.trod_struct Tryd.underlying25 hf
  rw [show Tryd.prog.cellsOf 25 = 2 by kernel_rfl] at hlen
  obtain ⟨lv, pv, rfl⟩ : ∃ lv pv, cs = #[lv, pv] := by
    match cs, hlen with
    | ⟨[a, b]⟩, _ => exact ⟨a, b, rfl⟩
  match xs, hxl with
  | [x0, x1], _ =>
  have h0 : DataW.trod enc Tryd.prog W 0 (fun _ => true) true n 22 [lv] = some x0 := hf 0 _ rfl
  have h1 : DataW.trod enc Tryd.prog W 0 (fun _ => true) true n 23 [pv] = some x1 := hf 1 _ rfl
  obtain ⟨L, hL⟩ := open_ss Tryd.underlying22 Tryd.underlying9 (by kernel_rfl) h0
  obtain ⟨la, lc, hlv, _⟩ := hL.get
  subst hlv
  obtain ⟨len, n', g, y, hS, hn, hg, hbk⟩ := open_sl_rows2 Tryd.underlying23 (show Tryd.prog.cellsOf 39 = 13 by kernel_rfl) (by decide) h1
  have hx : ∀ i, ∃ p : Pg, i < len → PgCells W p (g i) := by
    intro i
    by_cases hi : i < len
    · obtain ⟨p, h1⟩ := open_page (hg i hi).2
      exact ⟨p, fun _ => h1⟩
    · exact ⟨⟨⟨#[]⟩, ⟨#[]⟩, ⟨#[]⟩, ⟨#[]⟩, 0, V.nil, ⟨#[]⟩, []⟩, fun h => absurd h hi⟩
  obtain ⟨pa, pc, rfl, hm, hsh⟩ := Sl.shape hS
  have hlen' : ((List.range len).map fun i => (hx i).choose).length = len := by simp
  refine ⟨L, (List.range len).map fun i => (hx i).choose, la, pa, lc, pc, by rw [hlen'], hL, pa, pc, rfl, by rw [hlen']; exact hm, fun i hi => ?_⟩
  have hil : i < len := by simpa using hi
  obtain ⟨b, off, rfl, q1, q2, q3, q4⟩ := hsh (by omega)
  obtain ⟨ia, ic, ka, kc, fa, fc, e, hP⟩ := (hx i).choose_spec hil
  have eg : ((List.range len).map fun i => (hx i).choose)[i] = (hx i).choose := by simp
  refine ⟨b, off, ia, ic, ka, kc, fa, fc, rfl, by rw [hlen']; exact q1, q2, q3, by rw [eg]; exact hP, fun j hj => ?_⟩
  have h9 := flat_getT g 13 len 0 (fun i hi => by rw [Nat.zero_add]; exact (hg i hi).1) i hil j hj
  rw [← List.range_eq_range', Nat.zero_add] at h9
  have hgj : (g i)[j]? = some ((pg13 (hx i).choose ia ic ka kc fa fc)[j]'hj) := by
    have e2 : (g i)[j]? = (pg13 (hx i).choose ia ic ka kc fa fc)[j]? := (congrArg (fun z : List Value => z[j]?) e).trans (Array.getElem?_toList ..)
    exact e2.trans (Array.getElem?_eq_getElem hj)
  have := q4 (i * 13 + j) _ (h9.trans hgj)
  simp only [eg]
  rw [show off + i * 13 + j = off + (i * 13 + j) by omega]
  exact this
end Go.Proofs.YthkokpkiffbjnaaDoor
