/- Changes as they lie in memory; conf.changeFault finds no fault in the changes of a difference. Conditions: as stated; the cell of MaxLen. -/
import Derived.Test.YtekknckdeedjnaaGreatDoorMdA
import Derived.Test.YtekknckdeedjnaaGreatDoorKeJ
namespace Mh
open Go Go.RowKit
set_option linter.unusedVariables false

/-- A change as it lies in memory. -/
structure Chg where
  route : ByteArray
  v : V
  gone : Bool
def routeP (p : List ByteArray) : ByteArray := p.foldl joinR ⟨#[]⟩
def Op.chg (o : Op) : Chg := ⟨routeP o.path, o.val.getD V.nil, o.val.isNone⟩
theorem route_jn : ∀ (p : List ByteArray) (r : ByteArray) (ps : List (List UInt8)), (∀ k ∈ p, isKeyL k.data.toList = true) → (∀ q ∈ ps, goodPart q) → r.data.toList = jn ps → (p.foldl joinR r).data.toList = jn (ps ++ p.map fun k => k.data.toList) := by
  intro p
  induction p with
  | nil => intro r ps _ _ h; simpa using h
  | cons k p ih =>
    intro r ps hk hps h
    rw [List.foldl_cons, ih (joinR r k) (ps ++ [k.data.toList]) (fun q hq => hk q (by simp [hq])) (fun q hq => by
      rcases List.mem_append.1 hq with hq | hq
      · exact hps q hq
      · simp only [List.mem_cons, List.not_mem_nil, or_false] at hq
        subst hq
        exact .inl (hk k (by simp))) (joinR_jn r k ps hps h)]
    simp
theorem route_steps (p : List ByteArray) (hk : ∀ k ∈ p, isKeyL k.data.toList = true) (hl : p.length ≤ 9) : stepsB (routeP p) = some (p.map kst) := by
  have h := route_jn p ⟨#[]⟩ [] hk (fun q hq => by simp at hq) rfl
  rw [List.nil_append] at h
  have e := stepsB_jn (p.map fun k : ByteArray => k.data.toList) (fun q hq => by
    obtain ⟨k, h1, rfl⟩ := List.mem_map.1 hq
    exact .inl (hk k h1)) (by simpa using hl) (routeP p) h
  rw [e, List.map_map]
  congr 1
  refine List.map_congr_left fun k hk' => ?_
  show stOf k.data.toList = kst k
  unfold stOf kst
  rw [if_pos (hk k hk'), bz_eq]
/-- The eight cells of a change. -/
def chc (c : Chg) (ia : Option Addr) (ic : Nat) (ka : Option Addr) (kc : Nat) : List Value := [.string c.route, .int .i64 c.v.kd, .bool c.v.bo, .int .i64 c.v.nu, .string c.v.tx, .slice ia c.v.its.length ic, .slice ka c.v.kys.length kc, .bool c.gone]
structure ChIn (w : World) (c : Chg) (ia : Option Addr) (ic : Nat) (ka : Option Addr) (kc : Nat) : Prop where
  rt : c.route.size ≤ maxLen
  dv : VAt w c.v (vcs c.v ia ic ka kc)
theorem ChIn.keeps {w w' : World} {c : Chg} {ia ka : Option Addr} {ic kc : Nat} (h : ChIn w c ia ic ka kc) (hk : Keeps w w') : ChIn w' c ia ic ka kc := ⟨h.rt, h.dv.keeps hk⟩
def ChRows (w : World) (l : List Chg) (rows : List Value) : Prop := ∀ i (h : i < l.length), ∃ ia ic ka kc, ChIn w l[i] ia ic ka kc ∧ ∀ j, j < 8 → rows[i * 8 + j]? = (chc l[i] ia ic ka kc)[j]?
theorem ChRows.keeps {w w' : World} {l : List Chg} {rows : List Value} (h : ChRows w l rows) (hk : Keeps w w') : ChRows w' l rows := fun i hi => by
  obtain ⟨ia, ic, ka, kc, h1, h2⟩ := h i hi
  exact ⟨ia, ic, ka, kc, h1.keeps hk, h2⟩
theorem ChRows.nil (w : World) : ChRows w [] [] := fun i hi => by simp at hi
theorem ChRows.snoc {w : World} {l : List Chg} {rows : List Value} {c : Chg} {ia ka : Option Addr} {ic kc : Nat} (h : ChRows w l rows) (hl : rows.length = l.length * 8) (hc : ChIn w c ia ic ka kc) : ChRows w (l ++ [c]) (rows ++ chc c ia ic ka kc) := by
  intro i hi
  by_cases hj : i < l.length
  · obtain ⟨ja, jc, ka', kc', h1, h2⟩ := h i hj
    rw [List.getElem_append_left hj]
    exact ⟨ja, jc, ka', kc', h1, fun j hj8 => by rw [List.getElem?_append_left (by omega)]; exact h2 j hj8⟩
  · have hi' : i = l.length := by simp at hi; omega
    subst hi'
    have e : (l ++ [c])[l.length] = c := by simp
    rw [e]
    exact ⟨ia, ic, ka, kc, hc, fun j hj8 => by rw [List.getElem?_append_right (by omega), hl, Nat.add_sub_cancel_left]⟩
theorem ChRows.app {w : World} {l m : List Chg} {rows qs : List Value} (h : ChRows w l rows) (hl : rows.length = l.length * 8) (k : ChRows w m qs) : ChRows w (l ++ m) (rows ++ qs) := by
  intro i hi
  by_cases hj : i < l.length
  · obtain ⟨ja, jc, ka', kc', h1, h2⟩ := h i hj
    rw [List.getElem_append_left hj]
    exact ⟨ja, jc, ka', kc', h1, fun j hj8 => by rw [List.getElem?_append_left (by omega)]; exact h2 j hj8⟩
  · obtain ⟨ja, jc, ka', kc', h1, h2⟩ := k (i - l.length) (by simp at hi; omega)
    rw [List.getElem_append_right (by omega)]
    exact ⟨ja, jc, ka', kc', h1, fun j hj8 => by rw [List.getElem?_append_right (by omega), hl, show i * 8 + j - l.length * 8 = (i - l.length) * 8 + j by omega]; exact h2 j hj8⟩
/-- A slice of changes. -/
def ChsAt (w : World) (v : Value) (l : List Chg) : Prop := ∃ rows, Sl 8 w v l.length rows ∧ ChRows w l rows
theorem ChsAt.keeps {w w' : World} {v : Value} {l : List Chg} (h : ChsAt w v l) (hk : Keeps w w') : ChsAt w' v l := by
  obtain ⟨rows, h1, h2⟩ := h
  exact ⟨rows, h1.keeps hk, h2.keeps hk⟩
theorem ChsAt.change {w : World} {v : Value} {l : List Chg} (h : ChsAt w v l) :
    ∃ ao c, v = .slice ao l.length c ∧ l.length ≤ maxLen ∧ ∀ k (h : k < l.length), ∃ b off ia ic ka kc, ao = some ⟨b, off, none⟩ ∧ b < w.heap.size ∧ ChIn w l[k] ia ic ka kc ∧
      ∀ j (hj : j < 8), w.cell? ⟨b, off + k * 8 + j, none⟩ = some ((chc l[k] ia ic ka kc)[j]'hj) := by
  obtain ⟨rows, h1, h2⟩ := h
  obtain ⟨ao, c, rfl, hm, hs⟩ := Sl.shp h1
  refine ⟨ao, c, rfl, hm, fun k h => ?_⟩
  obtain ⟨b, off, rfl, _, _, hlt, hc⟩ := hs (by omega)
  obtain ⟨ia, ic, ka, kc, h4, h5⟩ := h2 k h
  refine ⟨b, off, ia, ic, ka, kc, rfl, hlt, h4, fun j hj => ?_⟩
  rw [Nat.add_assoc]
  exact hc _ _ (by rw [h5 j hj, List.getElem?_eq_getElem hj])
theorem eight_later {w wr : World} {b o : Nat} {c : Chg} {ia ka : Option Addr} {ic kc : Nat} (hb : Below w.heap.size w wr) (hlt : b < w.heap.size)
    (h : ∀ j (hj : j < 8), w.cell? ⟨b, o + j, none⟩ = some ((chc c ia ic ka kc)[j]'hj)) :
    wr.cell? ⟨b, o, none⟩ = some (.string c.route) ∧ wr.cell? ⟨b, o + 1, none⟩ = some (.int .i64 c.v.kd) ∧ wr.cell? ⟨b, o + 2, none⟩ = some (.bool c.v.bo) ∧ wr.cell? ⟨b, o + 3, none⟩ = some (.int .i64 c.v.nu) ∧ wr.cell? ⟨b, o + 4, none⟩ = some (.string c.v.tx) ∧
      wr.cell? ⟨b, o + 5, none⟩ = some (.slice ia c.v.its.length ic) ∧ wr.cell? ⟨b, o + 6, none⟩ = some (.slice ka c.v.kys.length kc) ∧ wr.cell? ⟨b, o + 7, none⟩ = some (.bool c.gone) := by
  have g := fun j (hj : j < 8) => (hb.cell (p := ⟨b, o + j, none⟩) hlt).trans (h j hj)
  exact ⟨g 0 (by omega), g 1 (by omega), g 2 (by omega), g 3 (by omega), g 4 (by omega), g 5 (by omega), g 6 (by omega), g 7 (by omega)⟩
theorem nil_okc : V.nil.okc := by
  refine ⟨?_, ?_, good_nil 0 (by omega)⟩
  · show V.cnts [] 1 ≤ 1000; simp [V.cnts]
  · show V.levs [] 0 + 1 ≤ 8; simp [V.levs]
end Mh
namespace Go.Proofs.YtekknckdeedjnaaGreatDoor
open Go.RowKit Mh
set_option linter.unusedVariables false
/-- A change that Apply takes. -/
structure _root_.Mh.Chg.fine (c : Chg) (l : List St) : Prop where
  steps : stepsB c.route = some l
  ok : c.v.okc
  gone : c.gone = true → c.v = V.nil ∧ l ≠ []
theorem chc_arr (c : Chg) (ia ka : Option Addr) (ic kc : Nat) : (chc c ia ic ka kc).toArray = #[.string c.route, .int .i64 c.v.kd, .bool c.v.bo, .int .i64 c.v.nu, .string c.v.tx, .slice ia c.v.its.length ic, .slice ka c.v.kys.length kc, .bool c.gone] := rfl
def box8 (c : Chg) (ia : Option Addr) (ic : Nat) (ka : Option Addr) (kc : Nat) : Obj := .cells #[.string c.route, .int .i64 c.v.kd, .bool c.v.bo, .int .i64 c.v.nu, .string c.v.tx, .slice ia c.v.its.length ic, .slice ka c.v.kys.length kc, .bool c.gone] 56 (0, 0)
theorem eight_of_block {w : World} {g : Nat} {T : TypeId} {a b c d e f g' h : Value} (H : w.heap[g]? = some (.cells #[a, b, c, d, e, f, g', h] T (0, 0))) :
    w.cell? ⟨g, 0, none⟩ = some a ∧ w.cell? ⟨g, 1, none⟩ = some b ∧ w.cell? ⟨g, 2, none⟩ = some c ∧ w.cell? ⟨g, 3, none⟩ = some d ∧ w.cell? ⟨g, 4, none⟩ = some e ∧ w.cell? ⟨g, 5, none⟩ = some f ∧ w.cell? ⟨g, 6, none⟩ = some g' ∧ w.cell? ⟨g, 7, none⟩ = some h :=
  ⟨cellT H rfl, cellT H rfl, cellT H rfl, cellT H rfl, cellT H rfl, cellT H rfl, cellT H rfl, cellT H rfl⟩
set_option maxRecDepth 100000 in
set_option maxHeartbeats 8000000 in
theorem chFault_ok (c : Chg) (l : List St) (ia ka : Option Addr) (ic kc : Nat) (w : World) (m : Int) (hm : w.cell? ⟨1, 0, none⟩ = some (.int .i64 m)) (hc : ChIn w c ia ic ka kc) (hf : c.fine l) :
    Calls Tryz.prog 17 #[.agg (chc c ia ic ka kc).toArray] w fun e w' => e = .returned (.int .i64 0) ∧ Below w.heap.size w w' := by
  obtain ⟨r, X, g⟩ := c
  obtain ⟨hst, hok, hg⟩ := hf
  obtain ⟨hrt, hdv⟩ := hc
  simp only at hst hok hg hrt hdv
  have C1 := Lib.hid (fun w' (hb : Below w.heap.size w w') => check_any X (by have := hok.nodes; omega) _ w' (hdv.keep hb))
  have C2 := Lib.hid (fun w' (hb : Below w.heap.size w w') => steps_any r w' m ((hb.cell (World.block_lt_of_cell? w _ hm)).trans hm) hrt)
  rw [hst] at C2
  simp only [Option.isSome_some, Option.getD_some] at C2
  rw [vcs_arr] at C1
  have HOK := Lib.hid hok
  rw [chc_arr]
  simp only
  have HB0 : Hid (Below w.heap.size w (w.alloc (.cells #[.string r, .int .i64 X.kd, .bool X.bo, .int .i64 X.nu, .string X.tx, .slice ia X.its.length ic, .slice ka X.kys.length kc, .bool g] 56))) := (Below.refl w.heap.size w).alloc (Nat.le_refl _) _
  have HX0 : Hid ((w.alloc (.cells #[.string r, .int .i64 X.kd, .bool X.bo, .int .i64 X.nu, .string X.tx, .slice ia X.its.length ic, .slice ka X.kys.length kc, .bool g] 56)).heap[w.heap.size]? = some (.cells #[.string r, .int .i64 X.kd, .bool X.bo, .int .i64 X.nu, .string X.tx, .slice ia X.its.length ic, .slice ka X.kys.length kc, .bool g] 56)) := heap_alloc_new _ _
  clear hdv hm hst hok hrt
  cases g with
  | true =>
    obtain ⟨rfl, hl⟩ := hg rfl
    have q1 : (V.nil.kd != 0) = false := rfl
    have hl0 : ((l.length : Int) == 0) = false := by rw [beq_eq_false_iff_ne]; intro h; exact hl (List.length_eq_zero_iff.1 (by omega))
    have CU := Lib.hid (fun w' => unused_any 0 false 0 ⟨#[]⟩ [] [] ia ka ic kc w' (by omega) (Nat.zero_le _) (Nat.zero_le _))
    clear hl hg
    go_enter Tryz.func17, Tryz.ntmps17
    go_wp2_with fail
    refine (CU.out _).mono ?_
    rintro e w1 ⟨rfl, hb1⟩
    have HX1 := Lib.hid ((hb1.block _ (by simp)).trans HX0.out)
    have HB1 : Hid (Below w.heap.size w w1) := HB0.out.trans (hb1.mono (by simp))
    have hu : unusedV (.mk 0 false 0 ⟨#[]⟩ [] []) = false := rfl
    obtain ⟨x0, x1, x2, x3, x4, x5, x6, x7⟩ := eight_of_block HX1.out
    rw [hu]
    clear hb1 HX0 HB0 CU hu
    go_wp2_with fail
    refine (C1.out _ HB1.out).mono ?_
    rintro e w2 ⟨k, rfl, hk, hb2⟩
    obtain rfl : k = 0 := hk.2 HOK.out
    have hz1 : w.heap.size < w1.heap.size := (Array.getElem?_eq_some_iff.1 HX1.out).1
    have HX2 := Lib.hid ((hb2.block _ hz1).trans HX1.out)
    have HB2 : Hid (Below w.heap.size w w2) := HB1.out.trans (hb2.mono (by omega))
    clear hk hb2 HX1 HB1 C1 x0 x1 x2 x3 x4 x5 x6 x7
    obtain ⟨x0, x1, x2, x3, x4, x5, x6, x7⟩ := eight_of_block HX2.out
    go_wp2_with fail
    refine (C2.out _ HB2.out).mono ?_
    rintro e w3 ⟨v, rfl, hv, hb3⟩
    obtain ⟨la, lc, rfl, -, -⟩ := hv.item
    have hz2 : w.heap.size < w2.heap.size := (Array.getElem?_eq_some_iff.1 HX2.out).1
    have HX3 := Lib.hid ((hb3.block _ hz2).trans HX2.out)
    have HB3 : Hid (Below w.heap.size w w3) := HB2.out.trans (hb3.mono (by omega))
    clear hv hb3 HX2 HB2 C2 x0 x1 x2 x3 x4 x5 x6 x7
    obtain ⟨x0, x1, x2, x3, x4, x5, x6, x7⟩ := eight_of_block HX3.out
    go_wp2_with fail
    go_ret
    exact ⟨rfl, HB3.out⟩
  | false =>
    clear hg
    go_enter Tryz.func17, Tryz.ntmps17
    go_wp2_with fail
    refine (C1.out _ HB0.out).mono ?_
    rintro e w2 ⟨k, rfl, hk, hb2⟩
    obtain rfl : k = 0 := hk.2 HOK.out
    have HX2 := Lib.hid ((hb2.block _ (by simp)).trans HX0.out)
    have HB2 : Hid (Below w.heap.size w w2) := HB0.out.trans (hb2.mono (by simp))
    clear hk hb2 HX0 HB0 C1
    obtain ⟨x0, x1, x2, x3, x4, x5, x6, x7⟩ := eight_of_block HX2.out
    go_wp2_with fail
    refine (C2.out _ HB2.out).mono ?_
    rintro e w3 ⟨v, rfl, hv, hb3⟩
    obtain ⟨la, lc, rfl, -, -⟩ := hv.item
    have hz2 : w.heap.size < w2.heap.size := (Array.getElem?_eq_some_iff.1 HX2.out).1
    have HX3 := Lib.hid ((hb3.block _ hz2).trans HX2.out)
    have HB3 : Hid (Below w.heap.size w w3) := HB2.out.trans (hb3.mono (by omega))
    clear hv hb3 HX2 HB2 C2 x0 x1 x2 x3 x4 x5 x6 x7
    obtain ⟨x0, x1, x2, x3, x4, x5, x6, x7⟩ := eight_of_block HX3.out
    go_wp2_with fail
    go_ret
    exact ⟨rfl, HB3.out⟩
end Go.Proofs.YtekknckdeedjnaaGreatDoor
