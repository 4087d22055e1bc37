/- ImageRound holds for every input: ReadImage reads what ImageString writes. No conditions; the listed variables are tied to the program's text. -/
import Derived.Test.YtjmnnnjddbmiaaaDoorCards
import Derived.Test.YtjmnnnjddbmiaaaDoorTie
import Derived.Test.YtjmnnnjddbmiaaaDoorAwake
import Derived.Test.YtjmnnnjddbmiaaaDoorLawKit
import Derived.Test.YtjmnnnjddbmiaaaDoorLaid
import Derived.Test.YtjmnnnjddbmiaaaDoorRead
import Derived.Lib.SmallJoins
import Derived.Outline
import Derived.Deep.DeepHandedRow
import Derived.Lib.LaidTab
namespace Go.Proofs.YtjmnnnjddbmiaaaDoor.LIRound
open Go.ChangeShapes Go.WideShapes Go.ChangeAt Go.RowKit Mh
open Go.ChangeMaps (open_string shut_string)
set_option linter.unusedVariables false

theorem own : ownKnob Tryd.prog.godebug = none := by kernel_rfl

theorem chk_ok {W H : Int} {L : List Int} (h : chk W H L = 0) : sideB W = true ∧ sideB H = true ∧ (L.length : Int) = W * H ∧ ∀ i, i < L.length → 0 ≤ L.getD i 0 ∧ L.getD i 0 ≤ 15 := by
  unfold chk at h
  cases h0 : sideB W with
  | false => simp [h0] at h
  | true =>
    cases h1 : sideB H with
    | false => simp [h1] at h
    | true =>
      by_cases h2 : (L.length : Int) = W * H
      · refine ⟨rfl, rfl, h2, ?_⟩
        by_cases h3 : (L.all fun n => decide (0 ≤ n ∧ n ≤ 15)) = true
        · intro i hi
          have := List.all_eq_true.1 h3 (L.getD i 0) (by rw [List.getD, List.getElem?_eq_getElem hi]; exact List.getElem_mem hi)
          simpa using this
        · rw [h0, h1, if_pos (by decide), if_pos h2, if_neg h3] at h
          exact absurd h (by decide)
      · simp [h0, h1, h2] at h

set_option maxRecDepth 100000 in
theorem open_image {H : Type} {enc : TypeId × Value → H} {W : World} {base : Nat} {v : Value} {d : DataW H} {p : List MemPlace} (hv : Value.okWide Tryd.prog W .any base 48 v) (h : DataW.Trod enc Tryd.prog W 0 (fun _ => true) true 48 v d p) :
    ∃ (Wd Hg : Int) (lv : Value) (L : List Int), v = .agg #[.int .i64 Wd, .int .i64 Hg, lv] ∧ Sl 1 W lv L.length (L.map (Value.int .i64)) := by
  obtain ⟨c0, c1, c2, y0, y1, y2, m, rfl, _, _, h0, h1, h2⟩ := Joins.open_agg3 Tryd.underlying48 (by kernel_rfl) (show Tryd.prog.cellsOf 48 = 3 by kernel_rfl) hv h
  obtain ⟨a, e0, _⟩ := DataW.trod_int Tryd.underlying3 h0
  obtain ⟨b, e1, _⟩ := DataW.trod_int Tryd.underlying3 h1
  obtain ⟨L, hL, _⟩ := open_sl_ints Tryd.underlying33 Tryd.underlying3 (by kernel_rfl) h2
  simp only [List.cons.injEq, and_true] at e0 e1
  subst e0 e1
  exact ⟨a, b, c2, L, rfl, hL⟩

theorem walk_bad (W H : Int) (lv : Value) (L : List Int) (w : World) (hl : Sl 1 w lv L.length (L.map (Value.int .i64))) (hc : chk W H L ≠ 0) :
    Calls Tryd.prog 5 #[.agg #[.int .i64 W, .int .i64 H, lv]] w fun e w' => e = .returned (.bool true) ∧ Below w.heap.size w w' := by
  have hb : (chk W H L != 0) = true := by simpa using hc
  have HI := Lib.hid (fun w' (hb : Below w.heap.size w w') => imgString_bad W H lv L w' (hl.below hb) hc)
  have hb0 : Below w.heap.size w (w.alloc (.cells #[.int .i64 W, .int .i64 H, lv] 48)) := (Below.refl _ _).alloc (Nat.le_refl _) _
  have HB0 := Lib.hid hb0
  clear hl hc hb0
  go_enter Tryd.func5, Tryd.ntmps5
  go_wp2_with fail
  refine (awake_any _).mono ?_
  rintro e w1 ⟨rfl, hb1⟩
  have hB1 := HB0.out.trans (hb1.mono (by simp))
  have hz1 : w.heap.size < w1.heap.size := by have := hb1.size; simp at this; omega
  have hT1 : w1.heap[w.heap.size]? = some (.cells #[.int .i64 W, .int .i64 H, lv] 48 (0, 0)) := (hb1.block _ (by simp)).trans (heap_alloc_new _ _)
  have c0 : w1.cell? ⟨w.heap.size, 0, none⟩ = some (.int .i64 W) := cellT hT1 rfl
  have c1 : w1.cell? ⟨w.heap.size, 1, none⟩ = some (.int .i64 H) := cellT hT1 rfl
  have c2 : w1.cell? ⟨w.heap.size, 2, none⟩ = some lv := cellT hT1 rfl
  have HB1 := Lib.hid hB1
  clear hb1 hB1 hT1
  go_wp2_with fail
  refine (HI.out _ HB1.out).mono ?_
  rintro e w2 ⟨rfl, hb2⟩
  go_wp2_with fail
  go_ret
  exact ⟨rfl, HB1.out.trans (hb2.mono HB1.out.size)⟩

set_option maxRecDepth 100000 in
set_option maxHeartbeats 1000000 in
theorem walk_ok (W H : Nat) (lv : Value) (L : List Int) (w : World) (hl : Sl 1 w lv L.length (L.map (Value.int .i64))) (hc : chk W H L = 0) (hW : 1 ≤ W ∧ W ≤ 64) (hH : 1 ≤ H ∧ H ≤ 64) (hn : L.length = W * H) (hlv : ∀ n ∈ L, 0 ≤ n ∧ n ≤ 15) (hml : ML 0 w) :
    Calls Tryd.prog 5 #[.agg #[.int .i64 W, .int .i64 H, lv]] w fun e w' => e = .returned (.bool true) ∧ Below w.heap.size w w' := by
  have hp0 := Nat.mul_le_mul hW.1 hH.1
  have hp1 := Nat.mul_le_mul hW.2 hH.2
  have hL1 : 1 ≤ L.length := by omega
  have hL2 : L.length ≤ 4096 := by omega
  obtain ⟨b, off, c, rfl, hn0, hnc, hm, hlt, hcell⟩ := hl.2.resolve_left (fun h => by have := h.1; omega)
  have HI := Lib.hid (fun w' (hb : Below w.heap.size w w') => imgString_ok W H _ L w' (hl.below hb) hc hW hH hn hlv)
  have HR := Lib.hid (fun w' hm' => readImage_ok W H L w' hc hW hH hn hlv hm')
  have HM := Lib.hid hml
  have HCE := Lib.hid (ints_cell hcell)
  have hb0 : Below w.heap.size w (w.alloc (.cells #[.int .i64 W, .int .i64 H, .slice (some ⟨b, off, none⟩) L.length c] 48)) := (Below.refl _ _).alloc (Nat.le_refl _) _
  have HB0 := Lib.hid hb0
  generalize (⟨(imgText W H L).toArray⟩ : ByteArray) = s at *
  clear hl hc hb0 hn hlv hml hcell hp0 hp1
  go_enter Tryd.func5, Tryd.ntmps5
  go_wp2_with fail
  refine (awake_any _).mono ?_
  rintro e w1 ⟨rfl, hb1⟩
  have hB1 := HB0.out.trans (hb1.mono (by simp))
  have hz1 : w.heap.size < w1.heap.size := by have := hb1.size; simp at this; omega
  have hT1 : w1.heap[w.heap.size]? = some (.cells #[.int .i64 W, .int .i64 H, .slice (some ⟨b, off, none⟩) L.length c] 48 (0, 0)) := (hb1.block _ (by simp)).trans (heap_alloc_new _ _)
  have HT1 := Lib.hid hT1
  have c0 : w1.cell? ⟨w.heap.size, 0, none⟩ = some (.int .i64 W) := cellT hT1 rfl
  have c1 : w1.cell? ⟨w.heap.size, 1, none⟩ = some (.int .i64 H) := cellT hT1 rfl
  have c2 : w1.cell? ⟨w.heap.size, 2, none⟩ = some (.slice (some ⟨b, off, none⟩) L.length c) := cellT hT1 rfl
  have HB1 := Lib.hid hB1
  clear hb1 hB1 hT1
  go_wp2_with fail
  refine (HI.out _ HB1.out).mono ?_
  rintro e w2 ⟨rfl, hb2⟩
  have HB2 := Lib.hid (HB1.out.trans (hb2.mono HB1.out.size))
  have hz2 : w.heap.size < w2.heap.size := by have := hb2.size; omega
  have HT2 := Lib.hid ((hb2.block _ hz1).trans HT1.out)
  clear hb2 c0 c1 c2
  go_wp2_with fail
  refine (HR.out _ (HM.out.next HB2.out)).mono ?_
  rintro e w3 ⟨lv3, rfl, hb3, hsl⟩
  have HB3 := Lib.hid (HB2.out.trans (hb3.mono HB2.out.size))
  have hz3 : w.heap.size < w3.heap.size := by have := hb3.size; omega
  have hT3 := (hb3.block _ hz2).trans HT2.out
  have c0 : w3.cell? ⟨w.heap.size, 0, none⟩ = some (.int .i64 W) := cellT hT3 rfl
  have c1 : w3.cell? ⟨w.heap.size, 1, none⟩ = some (.int .i64 H) := cellT hT3 rfl
  have c2 : w3.cell? ⟨w.heap.size, 2, none⟩ = some (.slice (some ⟨b, off, none⟩) L.length c) := cellT hT3 rfl
  rcases hsl.2 with ⟨h0, _⟩ | ⟨b3, off3, c3, rfl, _, _, hm3, hlt3, hcell3⟩
  · omega
  have HCE3 := Lib.hid (ints_cell hcell3)
  clear hb3 hT3 hsl hcell3
  go_wp2_with fail
  have HEQ : Hid ((L.take L.length == L.take L.length) = true) := beq_self_eq_true _
  have HB4 := Lib.hid (show Below w3.heap.size w3 (w3.alloc (.cells #[.int .i64 W, .int .i64 H, .slice (some ⟨b3, off3, none⟩) L.length c3] 48)) from (Below.refl _ _).alloc (Nat.le_refl _) _)
  refine (Tryd.slices_Equal_int b3 off3 L.length c3 b off L.length c L L _ (Nat.le_refl _) (Nat.le_refl _) (by omega) (by omega) (fun i hi => (HB4.out.cell (p := ⟨b3, off3 + i, none⟩) hlt3).trans (HCE3.out i hi)) (fun i hi => (HB4.out.cell (p := ⟨b, off + i, none⟩) (Nat.lt_trans hlt hz3)).trans ((HB3.out.cell (p := ⟨b, off + i, none⟩) hlt).trans (HCE.out i hi)))).mono ?_
  rintro e w4 ⟨rfl, q, rfl⟩
  rw [HEQ.out]
  have HB5 := Lib.hid (HB3.out.trans (HB4.out.mono HB3.out.size))
  go_wp2_with fail
  go_ret
  exact ⟨rfl, HB5.out.trans ⟨rfl, rfl, rfl, Nat.le_refl _, fun _ _ => rfl⟩⟩

theorem walk (W H : Int) (lv : Value) (L : List Int) (w : World) (hl : Sl 1 w lv L.length (L.map (Value.int .i64))) (hml : ML 0 w) : Calls Tryd.prog 5 #[.agg #[.int .i64 W, .int .i64 H, lv]] w fun e w' => e = .returned (.bool true) ∧ Below w.heap.size w w' := by
  by_cases hc : chk W H L = 0
  · obtain ⟨h1, h2, h3, h4⟩ := chk_ok hc
    have hW := sideB_yes h1
    have hH := sideB_yes h2
    obtain ⟨Wn, rfl⟩ : ∃ n : Nat, W = n := ⟨W.toNat, by omega⟩
    obtain ⟨Hn, rfl⟩ : ∃ n : Nat, H = n := ⟨H.toNat, by omega⟩
    refine walk_ok Wn Hn lv L w hl hc ⟨by omega, by omega⟩ ⟨by omega, by omega⟩ (by exact_mod_cast h3) ?_ hml
    intro z hz
    obtain ⟨i, hi, rfl⟩ := List.mem_iff_getElem.1 hz
    have := h4 i hi
    rwa [List.getD, List.getElem?_eq_getElem hi] at this
  · exact walk_bad W H lv L w hl hc

/-- A world for the witness: the settled one, the tables laid. -/
noncomputable def laidWorld (os : Os) : World :=
  layTab 2 Rows.laid_unicode_utf8_first (layTab 3 Rows.laid_unicode_utf8_acceptRanges (layTab 1 Rows.laid_internal_strconv_uint64pow10 (layTab 5 Rows.laid_math_bits_deBruijn64tab (layTab 4 Rows.laid_math_bits_deBruijn32tab (World.holding Tryd.prog os ⟨#[], #[], []⟩)))))
theorem laid_met (os : Os) : laidMet Tryd.prog Rows.imageRoundRow.laid ((laidWorld os).forCall (fun _ _ => 0) ⟨#[], #[.agg #[.int .i64 0, .int .i64 0, .slice none 0 0]], []⟩).memory :=
  laidMet_of_run' 8 (by kernel_rfl) (by kernel_rfl)
theorem reads (os : Os) {H : Type} (enc : TypeId × Value → H) : ∃ places, DataW.whole enc Tryd.prog ((laidWorld os).forCall (fun _ _ => 0) ⟨#[], #[.agg #[.int .i64 0, .int .i64 0, .slice none 0 0]], []⟩).memory Tryd.f5.params.toList Rows.imageRoundSpec.vars false (#[.agg #[.int .i64 0, .int .i64 0, .slice none 0 0]] : Array Value).toList 8 = some ([.agg [.lit (.int .i64 0), .lit (.int .i64 0), .nil]], [], places) :=
  ⟨[], by kernel_rfl⟩

set_option maxRecDepth 100000 in
theorem lifted (os : Os) (started : os.Started) (H : Type) (enc : TypeId × Value → H) (F : Stop.Interp) :
    ReturnsInHanded {} Tryd.checked os 5 .any ((OpenSpec.ofChange Rows.imageRoundSpec).preRow enc Tryd.prog Tryd.f5 Rows.imageRoundRow.domain false Rows.imageRoundRow.laid) (((OpenSpec.ofChange Rows.imageRoundSpec).at F).post enc Tryd.prog Tryd.f5 false true false false) := by
  obtain ⟨places, hx⟩ := reads os enc
  refine returnsInHanded_of_row (C := Tryd.checked) (s := OpenSpec.ofChange Rows.imageRoundSpec) own started (by kernel_rfl) Tryd.func5
    (witness_row_at (enc := enc) (C := Tryd.checked) false (laidWorld os) #[.agg #[.int .i64 0, .int .i64 0, .slice none 0 0]] rfl (by kernel_rfl) (by kernel_rfl) (by kernel_rfl)
      (OpenSpec.preRow_of_cond 8 hx (by kernel_rfl) (fun k hk => by cases hk) (by kernel_rfl) (laid_met os))) ?_
  intro W base args ds gs before hval0 hW hcnd hcond hsz hL hsh _
  have hval : ∀ (j : Nat) t v, Tryd.f5.params[j]? = some t → args[j]? = some v → Value.okWide Tryd.prog W .any base t v := hval0
  have hW' := hW
  obtain ⟨p, q, hA0, hV, rfl, hfz, hnd⟩ := hW
  have hA : DataW.TrodAll enc Tryd.prog W 0 (fun _ => true) true Tryd.f5.params.toList args.toList ds p := hA0
  rw [Tryd.params5] at hA hval
  obtain ⟨v0, vs0, d0, ds0, p0, q0, hargs0, rfl, rfl, h0, r0⟩ := trodAll_cons hA
  obtain ⟨rfl, rfl, rfl⟩ := trodAll_nil r0
  obtain rfl : args = #[v0] := by cases args; simp_all
  obtain ⟨rfl, rfl⟩ := trodVars_none hV
  obtain ⟨Wd, Hg, lv, L, rfl, hL2⟩ := open_image (hval 0 48 v0 rfl rfl) h0
  clear hA0 hval0
  simp only [List.append_nil, List.nil_append] at hW'
  have hml : ML 0 W := Go.Proofs.cell_of_shapedOpen_int (zero := #[.int .i64 0]) (t := 3) hsh (of_decide_eq_true (by kernel_rfl)) (by kernel_rfl) rfl (by kernel_rfl) (by kernel_rfl) Tryd.underlying3
  refine (walk Wd Hg lv L W hL2 hml).mono fun e W' ⟨he, hg⟩ => ?_
  subst he
  exact ⟨_, rfl, law_post (tb := 4) (by kernel_rfl) (by kernel_rfl) rfl rfl Tryd.underlying4 hW' rfl rfl rfl hg⟩

theorem said : Rows.ImageRoundSaid :=
  OpenClaim.holds_of_cond 5 Tryd.f5 rfl rfl rfl rfl rfl rfl rfl ⟨rfl, rfl, rfl, rfl, rfl⟩ rfl rfl rfl rfl rfl (by kernel_rfl) Tryd.func5 (by kernel_rfl)
    (of_decide_eq_true (by kernel_rfl)) (by unfold Func.isWrapper; first | (rw [if_pos (by decide +kernel)]; kernel_rfl) | (rw [if_neg (by decide +kernel)]; exact ⟨rfl, rfl⟩))
    (fun os started H enc _ F => by rw [OpenClaim.pre_eq_preRow]; exact lifted os started H enc F)

theorem plain (f : FuncId) (fn : Func) (hf : Tryd.pinned.checked.prog.funcNamed "masthead/mastkeep2.ImageRound" = some f) (hfn : Tryd.pinned.checked.prog.funcs[f]? = some fn) :
    false = Tryd.pinned.checked.prog.looks [] ∧ ∀ (j : Nat) t, fn.params[j]? = some t → Tryd.pinned.checked.prog.wantsStandIn t = false := by
  obtain rfl : f = 5 := Option.some.inj ((show Tryd.prog.funcNamed "masthead/mastkeep2.ImageRound" = some 5 by kernel_rfl).symm.trans hf) |>.symm
  obtain rfl : fn = Tryd.f5 := (Option.some.inj (Tryd.func5.symm.trans hfn)).symm
  refine ⟨by kernel_rfl, fun j t ht => ?_⟩
  rw [Tryd.params5] at ht
  have hm := Array.mem_of_getElem? ht
  simp only [List.mem_toArray, List.mem_cons, List.not_mem_nil, or_false] at hm
  subst hm
  exact (show Tryd.prog.wantsStandIn 48 = false by kernel_rfl)

/-- The statement. -/
theorem card : Rows.ImageRoundCardSaid :=
  Claim7.holds_tied_plain_at .later [] _ _ _ _ said (fun _ h => by cases h) (by kernel_rfl) (fun _ h => by cases h) imageRound_row_tie rfl ⟨rfl, rfl⟩ (by kernel_rfl) rfl plain (by kernel_rfl)
#print axioms card
end Go.Proofs.YtjmnnnjddbmiaaaDoor.LIRound
