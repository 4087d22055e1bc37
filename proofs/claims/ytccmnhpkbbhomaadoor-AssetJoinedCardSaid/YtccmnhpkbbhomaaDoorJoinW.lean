/- AssetJoined: the walk. Conditions: the library's variable MaxLen holds an integer. -/
import Derived.Test.YtccmnhpkbbhomaaDoorMapR
import Derived.Test.YtccmnhpkbbhomaaDoorAwake
import Derived.Deep.QuietTactic
import Derived.BigQuiet
import Derived.Outline
namespace Go.Proofs.YtccmnhpkbbhomaaDoor.LJoin
open Go.ChangeShapes Go.WideShapes Go.ChangeAt Go.RowKit Mh
open Go.ChangeMaps (open_string shut_string)
set_option linter.unusedVariables false

theorem eqS (v1 v2 : Value) (l : List ByteArray) (w : World) (h1 : Ss w v1 l) (h2 : Ss w v2 l) :
    Calls Tryd.prog 12 #[v1, v2] w fun e w' => e = .returned (.bool true) ∧ Below w.heap.size w w' := by
  obtain ⟨a1, c1, rfl, hm, hs1⟩ := Sl.shape h1.1
  obtain ⟨a2, c2, rfl, _, hs2⟩ := Sl.shape h2.1
  unfold maxLen at hm
  by_cases hn : 0 < l.length
  · obtain ⟨b1, o1, rfl, _, _, _, hc1⟩ := hs1 hn
    obtain ⟨b2, o2, rfl, _, _, _, hc2⟩ := hs2 hn
    have key : ∀ (b o : Nat), (∀ i u, (l.map Value.string)[i]? = some u → w.cell? ⟨b, o + i, none⟩ = some u) → ∀ j, j < l.length → w.cell? ⟨b, o + j, none⟩ = some (.string (l.getD j ByteArray.empty)) := by
      intro b o h j hj
      refine h j _ ?_
      rw [List.getElem?_map, List.getElem?_eq_getElem hj, List.getD, List.getElem?_eq_getElem hj]
      rfl
    refine (Tryd.slices_Equal_string b1 o1 l.length c1 b2 o2 l.length c2 l l w (Nat.le_refl _) (Nat.le_refl _) hm hm (key b1 o1 hc1) (key b2 o2 hc2)).mono ?_
    rintro e w' ⟨rfl, q, rfl⟩
    exact ⟨by simp, below_drewN _ _⟩
  · have e0 : l.length = 0 := by omega
    rw [e0]
    refine (Tryd.slices_Equal_string_empty a1 a2 c1 0 c2 w (by omega)).mono ?_
    rintro e w' ⟨rfl, rfl⟩
    exact ⟨rfl, Below.refl _ _⟩
theorem eqI (v1 v2 : Value) (l : List Int) (w : World) (h1 : Sl 1 w v1 l.length (l.map (Value.int .i64))) (h2 : Sl 1 w v2 l.length (l.map (Value.int .i64))) :
    Calls Tryd.prog 13 #[v1, v2] w fun e w' => e = .returned (.bool true) ∧ Below w.heap.size w w' := by
  obtain ⟨a1, c1, rfl, hm, hs1⟩ := Sl.shape h1
  obtain ⟨a2, c2, rfl, _, hs2⟩ := Sl.shape h2
  unfold maxLen at hm
  by_cases hn : 0 < l.length
  · obtain ⟨b1, o1, rfl, _, _, _, hc1⟩ := hs1 hn
    obtain ⟨b2, o2, rfl, _, _, _, hc2⟩ := hs2 hn
    have key : ∀ (b o : Nat), (∀ i u, (l.map (Value.int .i64))[i]? = some u → w.cell? ⟨b, o + i, none⟩ = some u) → ∀ j, j < l.length → w.cell? ⟨b, o + j, none⟩ = some (.int .i64 (l.getD j 0)) := by
      intro b o h j hj
      refine h j _ ?_
      rw [List.getElem?_map, List.getElem?_eq_getElem hj, List.getD, List.getElem?_eq_getElem hj]
      rfl
    refine (Tryd.slices_Equal_int b1 o1 l.length c1 b2 o2 l.length c2 l l w (Nat.le_refl _) (Nat.le_refl _) hm hm (key b1 o1 hc1) (key b2 o2 hc2)).mono ?_
    rintro e w' ⟨rfl, q, rfl⟩
    exact ⟨by simp, below_drewN _ _⟩
  · have e0 : l.length = 0 := by omega
    rw [e0]
    refine (Tryd.slices_Equal_int_empty a1 a2 c1 0 c2 w (by omega)).mono ?_
    rintro e w' ⟨rfl, rfl⟩
    exact ⟨rfl, Below.refl _ _⟩

/-- Where a byte lies: its part, its position there. -/
def LOC2 (L : List (ByteArray × ByteArray)) (body : ByteArray) (at_ : Nat) (w : World) (e : Ending) (w' : World) : Prop :=
  ∃ (k f : Nat) (hk : k < L.length) (ha : at_ < body.size), f ≤ 200000 ∧ ((∃ hf : f < L[k].2.size, L[k].2[f] = body[at_]) ∨ (f = L[k].2.size ∧ body[at_] = 10)) ∧
    e = .returned (.tuple #[.int .i64 k, .int .i64 f, .int .i64 0]) ∧ Below w.heap.size w w'
theorem loc2_any (L : List (ByteArray × ByteArray)) (body : ByteArray) (pv ev : Value) (at_ : Nat) (w : World) (h : BG w (pathsOf L) (sizesOf L) body pv ev) (hb : body.data.toList = (extsOf L).flatten) (hat : at_ < body.size) :
    Calls Tryd.prog 9 #[.agg #[.string body, pv, ev], .int .i64 at_] w (LOC2 L body at_ w) := by
  refine (loc_any _ _ body pv ev at_ w h hat).mono ?_
  rintro e w' ⟨k, hk, h1, h2, rfl, hbel⟩
  have hk' : k < L.length := by rw [sizesOf_len] at hk; exact hk
  have hbd : body.size ≤ 200000 := by rw [h.2.2.2.2.1]; exact h.2.2.2.2.2
  have hj := join_at (extsOf L) k at_ (by rw [extsOf_len]; exact hk') h1 h2
  rw [← hb] at hj
  have e1 : body.data.toList[at_]? = some body[at_] := by rw [List.getElem?_eq_getElem (by simpa using hat)]; rfl
  have e2 : (extsOf L)[k]'(by rw [extsOf_len]; exact hk') = extB L[k].2.data.toList := by simp [extsOf]
  have e3 : sm ((extsOf L).map List.length) k = sm (sizesOf L) k := rfl
  rw [e1, e2, e3] at hj
  obtain ⟨f, hf⟩ : ∃ f, f = at_ - sm (sizesOf L) k := ⟨_, rfl⟩
  rw [← hf] at hj
  have hlt := (List.getElem?_eq_some_iff.1 hj.symm).1
  refine ⟨k, f, hk', hat, by omega, ?_, ?_, hbel⟩
  · rcases extB_at _ f hlt with ⟨a, b⟩ | ⟨a, b⟩
    · left
      have a' : f < L[k].2.size := by simpa using a
      refine ⟨a', ?_⟩
      rw [← hj, List.getElem?_eq_getElem a] at b
      have := Option.some.inj b
      exact this.symm
    · right
      rw [← hj] at b
      exact ⟨by simpa using a, Option.some.inj b⟩
  · have : (at_ : Int) - (sm (sizesOf L) k : Int) = (f : Int) := by omega
    rw [this]

set_option maxRecDepth 100000 in
set_option maxHeartbeats 4000000 in
theorem walk (L : List (ByteArray × ByteArray)) (v : Value) (w : World) (h : Fs w v L) (hml : ML 0 w) :
    Calls Tryd.prog 3 #[v] w fun e w' => e = .returned (.bool true) ∧ Below w.heap.size w w' := by
  have HBUN := Lib.hid (fun w' (hb : Below w.heap.size w w') => bun_any L v w' (h.below hb) (hml.below hb hml.lt))
  have HML := Lib.hid hml
  obtain ⟨va, vc, rfl, hnm, hvs⟩ := Sl.shape h.1
  have HC : Hid (∀ i (hi : i < L.length), ∃ b off, va = some ⟨b, off, none⟩ ∧ b < w.heap.size ∧ L.length ≤ vc ∧ w.cell? ⟨b, off + i * 2, none⟩ = some (.string L[i].1) ∧ w.cell? ⟨b, off + i * 2 + 1, none⟩ = some (.string L[i].2)) := by
    intro i hi
    obtain ⟨b, off, e, hnc, _, hlt, hc⟩ := hvs (by omega)
    have := flB_get L i hi
    exact ⟨b, off, e, hlt, hnc, hc _ _ this.1, by rw [Nat.add_assoc]; exact hc _ _ this.2⟩
  unfold maxLen at hnm
  clear h hvs hml
  go_enter Tryd.func3, Tryd.ntmps3
  go_wp2_with fail
  refine (awake_any _).mono ?_
  rintro e w1 ⟨rfl, hb1⟩
  have HB1 := Lib.hid hb1
  clear hb1
  go_wp2_with fail
  refine (HBUN.out _ HB1.out).mono ?_
  rintro e w2 (⟨n, hn, rfl, hb2⟩ | ⟨pv, ev, body, rfl, hb2, hBG, hG, hbody, hsm⟩)
  · have HB2 : Hid (Below w.heap.size w w2) := HB1.out.trans (hb2.mono HB1.out.size)
    have q : (n != 0) = true := by simpa using hn
    clear hb2 hn
    go_wp2_with fail
    go_ret
    exact ⟨rfl, (HB2.out.alloc HB2.out.size _)⟩
  · have HB2 : Hid (Below w.heap.size w w2) := HB1.out.trans (hb2.mono HB1.out.size)
    have hN : ∀ n ∈ sizesOf L, n < 32768 := by
      intro n hn
      obtain ⟨x, hx, rfl⟩ := List.mem_map.1 hn
      obtain ⟨y, hy, rfl⟩ := List.mem_map.1 hx
      obtain ⟨i, hi, rfl⟩ := List.mem_iff_getElem.1 hy
      have h1 := hsm i hi
      have h2 := (extB_len L[i].2.data.toList).2
      have e : L[i].2.data.toList.length = L[i].2.size := by simp
      omega
    have hbs : body.size ≤ 200000 := by rw [hBG.2.2.2.2.1]; exact hBG.2.2.2.2.2
    have hL : L.length ≤ 40 := by have := hBG.2.2.2.1; rw [sizesOf_len] at this; exact this
    obtain ⟨pa, pc, rfl, _, _⟩ := Sl.shape hBG.1.1
    obtain ⟨ea, ec, rfl, _, _⟩ := Sl.shape hBG.2.1
    simp only [pathsOf_len, sizesOf_len] at hBG ⊢
    obtain ⟨w3, hw3⟩ : ∃ w3, w3 = w2.alloc (.cells #[.string body, .slice pa L.length pc, .slice ea L.length ec] 27) := ⟨_, rfl⟩
    have hT3 : w3.heap[w2.heap.size]? = some (.cells #[.string body, .slice pa L.length pc, .slice ea L.length ec] 27 (0, 0)) := by rw [hw3]; exact heap_alloc_new _ _
    have hz3 : w2.heap.size < w3.heap.size := by rw [hw3]; simp
    have hB23 : Below w2.heap.size w2 w3 := by rw [hw3]; exact (Below.refl _ _).alloc (Nat.le_refl _) _
    have HBG : Hid (BG w3 (pathsOf L) (sizesOf L) body (.slice pa L.length pc) (.slice ea L.length ec)) := hBG.below hB23
    have HB3 : Hid (Below w.heap.size w w3) := HB2.out.trans (hB23.mono HB2.out.size)
    have HT3 := Lib.hid hT3
    have HG := Lib.hid hG
    have HBD := Lib.hid hbody
    have HSM := Lib.hid hsm
    have HN := Lib.hid hN
    have hF := hBG.2.2
    have HF := Lib.hid hF
    clear hb2 hBG hG hbody hsm hB23 hT3 hN hF
    go_wp2_with fail
    rw [← hw3]
    clear hw3
    go_loopw [5] (fun i wr => ∃ a : Nat, a ≤ 201000 ∧ i = .int .i64 a ∧ Hid (Below w3.heap.size w3 wr)) (fun i _ => body.size - (intOf i).toNat)
    case atStart => exact ⟨0, by omega, rfl, Below.refl _ _⟩
    case round =>
      obtain ⟨a, ha, rfl, HBr⟩ := hrel
      have hTr := (HBr.out.block w2.heap.size hz3).trans HT3.out
      have r0 : wr.cell? ⟨w2.heap.size, 0, none⟩ = some (.string body) := cellT hTr rfl
      have r1 : wr.cell? ⟨w2.heap.size, 1, none⟩ = some (.slice pa L.length pc) := cellT hTr rfl
      have r2 : wr.cell? ⟨w2.heap.size, 2, none⟩ = some (.slice ea L.length ec) := cellT hTr rfl
      have HTr := Lib.hid hTr
      have HBW : Hid (Below w.heap.size w wr) := HB3.out.trans (HBr.out.mono HB3.out.size)
      clear hTr
      by_cases hal : a < body.size
      · have HL := Lib.hid (loc2_any L body (.slice pa L.length pc) (.slice ea L.length ec) a wr (HBG.out.below HBr.out) HBD.out hal)
        go_wp2_with fail
        refine HL.out.mono ?_
        rintro e w4 ⟨k, f, hk, _, hf, hway, rfl, hb4⟩
        obtain ⟨b, off, rfl, hlt, hvc, _, hc1⟩ := HC.out k hk
        have HB4 : Hid (Below w3.heap.size w3 w4) := HBr.out.trans (hb4.mono HBr.out.size)
        have HBW4 : Hid (Below w.heap.size w w4) := HBW.out.trans (hb4.mono HBW.out.size)
        have hT4 := (HB4.out.block w2.heap.size hz3).trans HT3.out
        have c0 : w4.cell? ⟨w2.heap.size, 0, none⟩ = some (.string body) := cellT hT4 rfl
        have d1 := (HBW4.out.cell (p := ⟨b, off + k * 2 + 1, none⟩) hlt).trans hc1
        have hq := HSM.out k hk
        generalize L[k].2 = q at *
        have n1 : decide ((k : Int) < 0) = false := decide_eq_false (by omega)
        have n2 : decide ((L.length : Int) ≤ (k : Int)) = false := decide_eq_false (by omega)
        have n3 : decide (L.length ≤ k) = false := decide_eq_false (by omega)
        have n4 : decide ((f : Int) < 0) = false := decide_eq_false (by omega)
        have i1 : (0 : Int) ≤ (a : Int) := by omega
        have i2 : (a : Int) < (body.size : Int) := by omega
        have i3 : (0 : Int) ≤ (f : Int) := by omega
        have i5 : (k : Int) < (L.length : Int) := by omega
        have i6 : (0 : Int) ≤ (k : Int) := by omega
        clear hb4 hT4 hc1 r0 r1 r2 HL
        rcases hway with ⟨hfq, heq⟩ | ⟨rfl, heq⟩
        · have j1 : decide ((f : Int) < (q.size : Int)) = true := decide_eq_true (by omega)
          have j1n : decide (f < q.size) = true := decide_eq_true hfq
          have j2 : decide ((q.size : Int) ≤ (f : Int)) = false := decide_eq_false (by omega)
          have j2n : decide (q.size ≤ f) = false := decide_eq_false (by omega)
          have j3 : ((q[f].toNat : Int) != (body[a].toNat : Int)) = false := by rw [heq]; simp
          have i4 : (f : Int) < (q.size : Int) := by omega
          clear heq
          go_wp2_with fail
          go_quiet (fail)
          go_wp2_with fail
          go_roundw
          case rel => exact ⟨a + (1 + body.size / 300), by omega, by go_num, HB4.out.trans ((below_drewN _ _).mono HB4.out.size)⟩
          case measure => simp [intOf]; omega
        · have j1 : decide ((q.size : Int) < (q.size : Int)) = false := decide_eq_false (by omega)
          have j1n : decide (q.size < q.size) = false := decide_eq_false (by omega)
          have j2 : decide ((q.size : Int) ≤ (q.size : Int)) = true := decide_eq_true (by omega)
          have j2n : decide (q.size ≤ q.size) = true := decide_eq_true (by omega)
          have j4 : ((q.size : Int) != (q.size : Int)) = false := by simp
          have j3 : ((body[a].toNat : Int) != 10) = false := by rw [heq]; rfl
          clear heq
          go_wp2_with fail
          go_quiet (fail)
          go_wp2_with fail
          go_roundw
          case rel => exact ⟨a + (1 + body.size / 300), by omega, by go_num, HB4.out.trans ((below_drewN _ _).mono HB4.out.size)⟩
          case measure => simp [intOf]; omega
      · have HMS := Lib.hid (mapString_any (pathsOf L) (sizesOf L) body (.slice pa L.length pc) (.slice ea L.length ec) wr (HBG.out.below HBr.out) HG.out HN.out (HML.out.below HBW.out HML.out.lt))
        have HRM := Lib.hid (fun w' (hb : Below w.heap.size w w') => readMap_any (pathsOf L) (sizesOf L) w' HG.out HN.out (by rw [pathsOf_len, sizesOf_len]) (by rw [sizesOf_len]; exact hL) HF.out.2.2.2 (HML.out.below hb HML.out.lt))
        obtain ⟨T, hT⟩ : ∃ T : ByteArray, T = ⟨(mapText (pathsOf L) (sizesOf L)).toArray⟩ := ⟨_, rfl⟩
        rw [← hT] at HMS HRM
        clear hT
        have hal2 : decide ((a : Int) < (body.size : Int)) = false := decide_eq_false (by omega)
        have hal3 : decide (a < body.size) = false := decide_eq_false (by omega)
        go_wp2_with fail
        refine HMS.out.mono ?_
        rintro e w4 ⟨rfl, hb4⟩
        have HB4 : Hid (Below w3.heap.size w3 w4) := HBr.out.trans (hb4.mono HBr.out.size)
        have HBW4 : Hid (Below w.heap.size w w4) := HBW.out.trans (hb4.mono HBW.out.size)
        clear hb4 r0 r1 r2
        go_wp2_with fail
        refine (HRM.out _ HBW4.out).mono ?_
        rintro e w5 ⟨pv2, ev2, rfl, hb5, hp2, he2⟩
        obtain ⟨pa2, pc2, rfl, _, _⟩ := Sl.shape hp2.1
        obtain ⟨ea2, ec2, rfl, _, _⟩ := Sl.shape he2
        simp only [pathsOf_len, sizesOf_len] at hp2 he2 ⊢
        have HB5 : Hid (Below w3.heap.size w3 w5) := HB4.out.trans (hb5.mono HB4.out.size)
        have HBW5 : Hid (Below w.heap.size w w5) := HBW4.out.trans (hb5.mono HBW4.out.size)
        obtain ⟨w6, hw6⟩ : ∃ w6, w6 = w5.alloc (.cells #[.string ⟨#[]⟩, .slice pa2 L.length pc2, .slice ea2 L.length ec2] 27) := ⟨_, rfl⟩
        have hb56 : Below w5.heap.size w5 w6 := by rw [hw6]; exact (Below.refl _ _).alloc (Nat.le_refl _) _
        have hT6 : w6.heap[w5.heap.size]? = some (.cells #[.string ⟨#[]⟩, .slice pa2 L.length pc2, .slice ea2 L.length ec2] 27 (0, 0)) := by rw [hw6]; exact heap_alloc_new _ _
        have HB6 : Hid (Below w3.heap.size w3 w6) := HB5.out.trans (hb56.mono HB5.out.size)
        have HBW6 : Hid (Below w.heap.size w w6) := HBW5.out.trans (hb56.mono HBW5.out.size)
        have hS6 := (HB6.out.block w2.heap.size hz3).trans HT3.out
        have hBG6 := HBG.out.below HB6.out
        have HE1 := Lib.hid (eqS _ _ (pathsOf L) w6 (hp2.below hb56) hBG6.1)
        have HPa := Lib.hid hBG6.1
        have HEb : Hid (∀ w7, Below w6.heap.size w6 w7 → Calls Tryd.prog 13 #[.slice ea2 L.length ec2, .slice ea L.length ec] w7 fun e w' => e = .returned (.bool true) ∧ Below w7.heap.size w7 w') := by
          intro w7 hb7
          have hl : (ends (sizesOf L)).length = L.length := by rw [ends_len, sizesOf_len]
          have h1 := (he2.below hb56).below hb7
          have h2 := hBG6.2.1.below hb7
          rw [sizesOf_len, ← hl] at h2
          rw [← hl] at h1
          have := eqI _ _ (ends (sizesOf L)) w7 h1 h2
          rw [hl] at this
          exact this
        have hS5 := (HB5.out.block w2.heap.size hz3).trans HT3.out
        have s1 : w5.cell? ⟨w2.heap.size, 1, none⟩ = some (.slice pa L.length pc) := cellT hS5 rfl
        have s2 : w5.cell? ⟨w2.heap.size, 2, none⟩ = some (.slice ea L.length ec) := cellT hS5 rfl
        have HT6 := Lib.hid hT6
        have HS6 := Lib.hid hS6
        have hz5 : w2.heap.size < w5.heap.size := by have := HB5.out.size; omega
        have hz5b : w5.heap.size ≠ w2.heap.size := by omega
        have hz5c : w2.heap.size ≠ w5.heap.size := by omega
        clear hb5 hp2 he2 hb56 hT6 hS6 hBG6 hS5
        subst hw6
        go_wp2_with fail
        refine HE1.out.mono ?_
        rintro e w7 ⟨rfl, hb7⟩
        have h7t := (hb7.block w5.heap.size (by simp)).trans HT6.out
        have h7s := (hb7.block w2.heap.size (by simp; omega)).trans HS6.out
        have t2 : w7.cell? ⟨w5.heap.size, 2, none⟩ = some (.slice ea2 L.length ec2) := cellT h7t rfl
        have u2 : w7.cell? ⟨w2.heap.size, 2, none⟩ = some (.slice ea L.length ec) := cellT h7s rfl
        have HX := Lib.hid (HEb.out _ hb7)
        have HB7 : Hid (Below w.heap.size w w7) := HBW6.out.trans (hb7.mono HBW6.out.size)
        clear hb7 h7t h7s s1 s2
        go_wp2_with fail
        refine HX.out.mono ?_
        rintro e w8 ⟨rfl, hb8⟩
        have HB8 : Hid (Below w.heap.size w w8) := HB7.out.trans (hb8.mono HB7.out.size)
        clear hb8
        go_wp2_with fail
        go_ret
        exact ⟨rfl, HB8.out⟩
end Go.Proofs.YtccmnhpkbbhomaaDoor.LJoin
