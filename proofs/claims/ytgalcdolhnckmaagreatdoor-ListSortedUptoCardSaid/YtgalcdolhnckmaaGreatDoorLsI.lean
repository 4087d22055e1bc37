/- slices.Values of positions, and slices.AppendSeq, Collect, Sorted over it; slices.IsSorted. Conditions: where the positions lie. -/
import Derived.Test.YtgalcdolhnckmaaGreatDoorLsV
import Derived.Test.YtgalcdolhnckmaaGreatDoorShelf
import Derived.Sort.OwnSortedInts
import Derived.RangeFuncBox
import Derived.RangeFuncNested
import Derived.RangeFuncLeaves
import Derived.Shelf.Abstract
import Derived.WalkKit
import Derived.OwnWalkIn
import Derived.TacticsInMore
import Derived.LoopNIn
import Derived.LoopIn
namespace Go.Proofs.YtgalcdolhnckmaaGreatDoor
open Go.RowKit Go.Shelf Mh
set_option linter.unusedVariables false
attribute [local go_sem] Oper.semAt_some
/-- Where the positions lie. -/
def RowB (n₀ : Nat) (W : World) (ao : Option Addr) (L : List Nat) : Prop := ∀ k (h : k < L.length), ∃ b off, ao = some ⟨b, off, none⟩ ∧ b < n₀ ∧ W.cell? ⟨b, off + k, none⟩ = some (encP L[k])
theorem RowB.below {n₀ : Nat} {A B : World} {ao : Option Addr} {L : List Nat} (h : RowB n₀ A ao L) (hb : Below n₀ A B) : RowB n₀ B ao L := fun k hk => by
  obtain ⟨b, off, h1, h2, h3⟩ := h k hk
  exact ⟨b, off, h1, h2, (hb.cell (p := ⟨b, off + k, none⟩) h2).trans h3⟩
set_option maxRecDepth 100000 in
set_option maxHeartbeats 4000000 in
theorem values1_in (F : Fence) (n : Nat) (hf : F.fn 18) (hro : F.round = none) (hn : 1 ≤ n) (l Bs n₀ : Nat) (ao : Option Addr) (c : Nat) (L : List Nat) (hL : L.length ≤ 1000000) (J Jx : List Nat → World → Prop)
    (hY : ∀ pre x W, J pre W → pre.length < L.length → YieldAt F (n - 1) Tryz.prog l #[encP x] W fun e W' =>
      (e = .returned (.bool true) ∧ J (pre ++ [x]) W' ∧ Below n₀ W W') ∨ (e = .returned (.bool false) ∧ Jx (pre ++ [x]) W'))
    (W : World) (hBs : Boxed W Bs 25 (.slice ao L.length c)) (hBn : Bs < n₀) (hn₀ : n₀ ≤ W.heap.size) (hT : RowB n₀ W ao L) (h0 : J [] W) :
    CallsIn F n Tryz.prog 18 #[.func (.yield l) #[] #[], .pointer (some ⟨Bs, 0, none⟩)] W fun e W' => (∃ v, e = .returned v) ∧
      ((∃ ys, ys = L ∧ J ys W') ∨ (∃ pre, pre <+: L ∧ Jx pre W')) := by
  refine callsIn_of_wp Tryz.func18 rfl hf ?_ hro
  have HT := Lib.hid hT
  have HY := Lib.hid hY
  have hc := hBs.cell
  clear hT hY
  simp only [Tryz.ntmps18, List.size_toArray, List.length_cons, List.length_nil, Nat.reduceAdd, Nat.reduceSub, Array.replicate_succ, Array.replicate_zero, List.push_toArray, List.append_toArray, List.nil_append, List.cons_append]
  gi_wp2
  gi_loopw [7] (fun i wr => ∃ k : Nat, k ≤ L.length ∧ i = .int .i64 k ∧ Hid (J (L.take k) wr) ∧ Hid (Below n₀ W wr))
    (fun i _ => L.length - (intOf i).toNat)
  case atStart => exact ⟨0, Nat.zero_le _, rfl, h0, Below.refl _ _⟩
  case round =>
    obtain ⟨k, hk, rfl, HJs, HB⟩ := hrel
    by_cases hlt : k < L.length
    · obtain ⟨b, off, hao, hb, c0⟩ := HT.out k hlt
      have d0 := (HB.out.cell (p := ⟨b, off + k, none⟩) hb).trans c0
      have HT1 : Hid (L.take (k + 1) = L.take k ++ [L[k]]) := List.take_succ_eq_append_getElem hlt
      obtain ⟨fn, tmps, assign, body, hy, hR⟩ := HY.out (L.take k) L[k] wr HJs.out (by rw [List.length_take]; omega)
      have HR := Lib.hid hR
      subst hao
      unfold encP at d0 hy
      clear hR c0
      gi_wp2
      refine HR.out.mono ?_
      rintro e W3 (⟨rfl, hJ3, hk3⟩ | ⟨rfl, hJx3⟩)
      · have HJ3 : Hid (J (L.take (k + 1)) W3) := by show J _ _; rw [HT1.out]; exact hJ3
        have HB3 : Hid (Below n₀ W W3) := HB.out.trans hk3
        clear hJ3 hk3 hy
        gi_wp2
        go_roundw
        case rel => exact ⟨k + 1, by omega, by simp, HJ3, HB3⟩
        case measure => simp [intOf]; omega
      · have HJ3 : Hid (Jx (L.take (k + 1)) W3) := by show Jx _ _; rw [HT1.out]; exact hJx3
        clear hJx3 hy
        gi_wp2
        refine bodyPost_ret (results_none rfl _ _ _) rfl ?_
        exact ⟨⟨_, rfl⟩, .inr ⟨_, List.take_prefix _ _, HJ3.out⟩⟩
    · obtain rfl : k = L.length := by omega
      have HJ2 : Hid (J L wr) := by have := HJs.out; rw [List.take_length] at this; exact this
      gi_wp2
      go_end0
      exact ⟨⟨_, rfl⟩, .inl ⟨_, rfl, HJ2.out⟩⟩
theorem values_any (ao : Option Addr) (n c : Nat) (w : World) :
    Calls Tryz.prog 7 #[.slice ao n c] w fun e w' => e = .returned (.func (.func 18) #[] #[.pointer (some ⟨w.heap.size, 0, none⟩)]) ∧ w' = w.alloc (.cells #[.slice ao n c] 25) := by
  go_enter Tryz.func7, Tryz.ntmps7
  go_wp2
  go_ret
  exact ⟨rfl, rfl⟩
theorem values_stops (Bs : Nat) (ao : Option Addr) (c : Nat) (L : List Nat) (hL : L.length ≤ 1000000) (w : World) (hBs : Boxed w Bs 25 (.slice ao L.length c)) (hT : RowB w.heap.size w ao L) (n : Nat) (hn : 1 ≤ n) :
    SeqStopsK Fence.wide n Tryz.prog 18 #[.pointer (some ⟨Bs, 0, none⟩)] (fun x : Nat => #[encP x]) (Below w.heap.size) (fun ys => ys = L) (fun pre => pre <+: L) L.length w := fun l J Jx W hW hJ _ hY h0 =>
  values1_in Fence.wide n trivial rfl hn l Bs w.heap.size ao c L hL J Jx hY W ((hW.block Bs hBs.lt).trans hBs) hBs.lt hW.size (hT.below hW) h0
theorem infoIntI : (Tryz.prog.info? 3).map (fun i => (i.zero, i.size, i.bytes)) = some (some (.int .i64 0), 1, 8) := by kernel_rfl
theorem one_cellI (w : World) (x0 : Value) (t : TypeId) : ∀ j u, [x0][j]? = some u → (w.alloc (.cells #[x0] t)).cell? ((⟨w.heap.size, 0, none⟩ : Addr).add j) = some u := by
  intro j u hu
  rcases j with _ | j
  · exact cellT (heap_alloc_new w _) hu
  · simp at hu
set_option maxRecDepth 100000 in
set_option maxHeartbeats 8000000 in
theorem appSeq_any (Bs : Nat) (ao : Option Addr) (c : Nat) (L : List Nat) (hL : L.length ≤ 1000000) (w : World) (hBs : Boxed w Bs 25 (.slice ao L.length c)) (hT : RowB w.heap.size w ao L) :
    Calls Tryz.prog 33 #[.slice none 0 0, .func (.func 18) #[] #[.pointer (some ⟨Bs, 0, none⟩)]] w fun e w' => ∃ v', e = .returned v' ∧ w'.ownsRow w.heap.size 3 1 v' L.length (L.map encP) ∧ Below w.heap.size w w' := by
  obtain ⟨i0, hi, iz0, iz1, iz2⟩ := info_parts infoIntI
  refine (callsIn_wide (n := 6)).1 ?_
  refine callsIn_of_wp_marks Tryz.func33 rfl trivial ?_
  simp only [Tryz.ntmps33, List.size_toArray, List.length_cons, List.length_nil, Nat.reduceAdd, Nat.reduceSub, Array.replicate_succ, Array.replicate_zero, List.push_toArray, List.append_toArray, List.nil_append, List.cons_append]
  refine wpIn_wide.2 ?_
  go_wp2_with fail
  have bS := Boxed.new w 25 (.slice none 0 0)
  have bL := hBs.alloc (.cells #[.slice none 0 0] 25)
  have hB0 : Below w.heap.size w (w.alloc (.cells #[.slice none 0 0] 25)) := (Below.refl _ w).alloc (Nat.le_refl _) _
  have hsz : (w.alloc (.cells #[.slice none 0 0] 25)).heap.size = w.heap.size + 1 := by simp
  have hT0 := hT.below hB0
  obtain ⟨W0, hW0⟩ : ∃ W0, w.alloc (.cells #[.slice none 0 0] 25) = W0 := ⟨_, rfl⟩
  rw [hW0] at bS bL hB0 hsz hT0 ⊢
  have hst := values_stops Bs ao c L hL w hBs hT (6 - 1) (by decide)
  clear hW0 hT
  refine (wpIn_wide (n := 6)).1 ?_
  refine wpIn_rangeFunc_ownH rfl (by decide) (gf := 18) (lb := #[.pointer (some ⟨Bs, 0, none⟩)]) rfl trivial (enters_of Tryz.func18 (by kernel_rfl) rfl)
    hst (fun h k => Below.trans h k) (belowK_b (by omega)) hB0 (fun _ => rfl)
    (fun pre W => (∃ v', Boxed W w.heap.size 25 v' ∧ W.ownsRow w.heap.size 3 1 v' pre.length (pre.map encP) ∧ True) ∧ Below w.heap.size w W)
    (fun _ _ _ => False)
    (OwnFrom.and (Own.from (holdsRow_own w.heap.size w.heap.size 25 3 1 (fun pre : List Nat => pre.length) (fun pre => pre.map encP) (fun _ _ => True)) _) (ownFrom_below (Nat.le_refl _) (by omega)))
    (fun _ _ _ _ _ hs _ _ => hs)
    ⟨⟨_, bS, World.ownsRow_nil _ _ _ _, trivial⟩, hB0⟩
    (fun x a' W => a' = { tmps := #[.slice none 0 0, .func (.func 18) #[] #[.pointer (some ⟨Bs, 0, none⟩)], .pointer (some ⟨w.heap.size, 0, none⟩), undef, .slice none 0 0, encP x, .func (.func 18) #[] #[.pointer (some ⟨Bs, 0, none⟩)], encP x, undef, undef, undef, undef, undef], defers := [] })
    (fun x a' _ X Y row hs hg hr => hs)
    ?assign ?body ?done ?stop
  case assign =>
    rintro l pre x W K ⟨⟨v', hv, hrow, _⟩, hB⟩ hK
    have HH := Lib.hid (fun (a' : Act) => hK a' W ((KeepsOthers.refl _).from _) (Below.refl _ _) ⟨⟨v', hv, hrow, trivial⟩, hB⟩)
    clear hK hv hrow
    gi_wp2
    exact HH.out _ rfl
  case body =>
    rintro l pre x a' W hl ⟨r, hr⟩ ⟨⟨v', hv, hrow, _⟩, hB⟩ rfl hlt
    have hc := hv.cell
    have HRW := Lib.hid hrow
    have HV := Lib.hid hv
    have HB := Lib.hid hB
    have hzw := hB.size
    clear hr
    obtain ⟨sa, s2, rfl⟩ := ownsRow_form hrow
    clear hrow hv hB
    unfold encP
    gi_wp2_with (gi_at_builtin; refine wpListIn_append_own _ rfl _ _ 25 rfl w.heap.size 3 i0 (.int .i64 0) 1 8 Tryz.underlying25 hi iz0 iz1 iz2 rfl (by decide) _ _ _ rfl (HRW.out.alloc _) ⟨W.heap.size, 0, none⟩ 1 1 [.int .i64 (x : Nat)] rfl rfl (one_cellI _ _ _) (by simp [Value.oneCell']) (by unfold maxLen; omega) (by omega) (by simp; omega) ?_; intro v2 w1 hown' hgrow _; obtain ⟨g', cap', rfl⟩ := ownsRow_succ hown'; obtain ⟨hv1, hv2, hr2, hk2, hb2⟩ := HV.out.appended (by decide) HRW.out hzw (Nat.le_refl _) hown' hgrow; have hc1 := hv1.cell; have hf1 := hv1.frozen)
    exact ⟨hk2.from _, hb2, ⟨_, hv2, by rw [List.length_append, List.map_append]; exact hr2, trivial⟩, HB.out.trans hb2⟩
  case done =>
    rintro D ys W hD hys ⟨⟨v', hv, hrow, _⟩, hB⟩ hK
    rw [hys] at hrow
    clear hys
    have hc := hv.cell
    have HRW := Lib.hid hrow
    have HB := Lib.hid hB
    have HKD := Lib.hid hK
    obtain ⟨sa, s2, rfl⟩ := ownsRow_form hrow
    clear hv hrow hB hK
    go_wp2_with fail
    refine ⟨by simp, .inl ⟨_, _, rfl, run_takeDeferred HKD.out, ?_⟩⟩
    refine ⟨_, results_tmp rfl _ _ _, _, rfl, ?_, ?_⟩
    · exact ownsRow_putObj HRW.out _ HKD.out rfl
    · exact HB.out.trans (belowK_b (w := w) (Nat.le_refl _) W D _ _ (by omega) HKD.out rfl rfl)
  case stop =>
    rintro D c' pre W _ _ h
    exact absurd h id
end Go.Proofs.YtgalcdolhnckmaaGreatDoor
