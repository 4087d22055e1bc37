/- asset.singles over a row of tokens without neighbouring blanks: it hands on each. Conditions: where the tokens lie. -/
import Derived.Test.YtckinhebbhflgaaTkJ
import Derived.RangeFuncBox
import Derived.RangeFuncNested
import Derived.RangeFuncLeaves
import Derived.Shelf.Abstract
import Derived.WalkKit
import Derived.OwnWalkIn
import Derived.TacticsInMore
import Derived.LoopNIn
import Derived.LoopIn
namespace Go.Proofs.Ytckinhebbhflgaa
open Go.RowKit Go.Shelf Mh
set_option linter.unusedVariables false
attribute [local go_sem] Oper.semAt_some

def NoBB (L : List Tk) : Prop := ∀ k, (h : k + 1 < L.length) → ¬ (L[k].kind = 4 ∧ L[k + 1].kind = 4)
theorem chn_noBB {sc : Bool} : ∀ (l : List Tk) (p : Option Tk), chn sc p l → NoBB l
  | [], _, _ => fun k h => by simp at h
  | [t], _, _ => fun k h => by simp at h
  | t :: t2 :: l, p, h => fun k hk => by
    cases k with
    | zero => exact (h.2.2.1 t rfl).2.1
    | succ k => exact chn_noBB (t2 :: l) _ h.2.2 k (by simpa using hk)
/-- What a round keeps: what lay below n₀, and the box Bs. -/
def KpS (n₀ Bs : Nat) (W W' : World) : Prop := Below n₀ W W' ∧ ∀ u, Boxed W Bs 27 u → Boxed W' Bs 27 u
theorem KpS.trans {n₀ Bs : Nat} {A B C : World} (h : KpS n₀ Bs A B) (k : KpS n₀ Bs B C) : KpS n₀ Bs A C := ⟨h.1.trans k.1, fun u hu => k.2 u (h.2 u hu)⟩
/-- Where the tokens lie that singles reads. -/
def TokB (n₀ : Nat) (W : World) (ao : Option Addr) (L : List Tk) : Prop := ∀ k (h : k < L.length), ∃ b off, ao = some ⟨b, off, none⟩ ∧ b < n₀ ∧ W.cell? ⟨b, off + k * 2, none⟩ = some (.int .i64 L[k].kind) ∧ W.cell? ⟨b, off + k * 2 + 1, none⟩ = some (.string ⟨L[k].text.toArray⟩)
set_option maxRecDepth 100000 in
set_option maxHeartbeats 4000000 in
theorem singles1_in (F : Fence) (n : Nat) (hf : F.fn 37) (hro : F.round = none) (hn : 1 ≤ n) (l Bs n₀ : Nat) (ao : Option Addr) (c : Nat) (L : List Tk) (hL : L.length ≤ 1000000) (hnb : NoBB L) (J Jx : List Tk → World → Prop)
    (hJ : ∀ s W o, J s W → J s (W.alloc o))
    (hY : ∀ pre x W, J pre W → pre.length < L.length → YieldAt F (n - 1) Try.prog l #[.agg #[.int .i64 x.kind, .string ⟨x.text.toArray⟩]] W fun e W' =>
      (e = .returned (.bool true) ∧ J (pre ++ [x]) W' ∧ KpS n₀ Bs W W') ∨ (e = .returned (.bool false) ∧ Jx (pre ++ [x]) W'))
    (W : World) (hBs : Boxed W Bs 27 (.slice ao L.length c)) (hn₀ : n₀ ≤ W.heap.size) (hT : TokB n₀ W ao L) (h0 : J [] W) :
    CallsIn F n Try.prog 37 #[.func (.yield l) #[] #[], .pointer (some ⟨Bs, 0, none⟩)] W fun e W' => (∃ v, e = .returned v) ∧
      ((∃ ys, ys = L ∧ J ys W') ∨ (∃ pre, pre <+: L ∧ Jx pre W')) := by
  refine callsIn_of_wp Try.func37 rfl hf ?_ hro
  have HT := Lib.hid hT
  have HNB := Lib.hid hnb
  have HY := Lib.hid hY
  have HJ := Lib.hid hJ
  have hc := hBs.cell
  clear hT hnb hY hJ
  simp only [Try.ntmps37, List.size_toArray, List.length_cons, List.length_nil, Nat.reduceAdd, Nat.reduceSub, Array.replicate_succ, Array.replicate_zero, List.push_toArray, List.append_toArray, List.nil_append, List.cons_append]
  gi_wp2
  gi_loopw [7] (fun i wr => ∃ k : Nat, k ≤ L.length ∧ i = .int .i64 k ∧ Hid (J (L.take k) wr) ∧ Hid (Below n₀ W wr) ∧ Hid (Boxed wr Bs 27 (.slice ao L.length c)))
    (fun i _ => L.length - (intOf i).toNat)
  case atStart => exact ⟨0, Nat.zero_le _, rfl, h0, Below.refl _ _, hBs⟩
  case round =>
    obtain ⟨k, hk, rfl, HJs, HB, HX⟩ := hrel
    by_cases hlt : k < L.length
    · obtain ⟨b, off, hao, hb, c0, c1⟩ := HT.out k hlt
      have d0 := (HB.out.cell (p := ⟨b, off + k * 2, none⟩) hb).trans c0
      have d1 := (HB.out.cell (p := ⟨b, off + k * 2 + 1, none⟩) hb).trans c1
      have hBx := HX.out.cell
      have hBl := HX.out.lt
      have hzr := HB.out.size
      have HT1 : Hid (L.take (k + 1) = L.take k ++ [L[k]]) := List.take_succ_eq_append_getElem hlt
      obtain ⟨W1, hW1⟩ : ∃ W1, W1 = wr.alloc (.cells #[.int .i64 L[k].kind, .string ⟨L[k].text.toArray⟩] 33) := ⟨_, rfl⟩
      have HJ1 : Hid (J (L.take k) W1) := by show J _ _; rw [hW1]; exact HJ.out _ _ _ HJs.out
      have HX1 : Hid (Boxed W1 Bs 27 (.slice ao L.length c)) := by show Boxed _ _ _ _; rw [hW1]; exact HX.out.alloc _
      have HB1 : Hid (Below n₀ W W1) := by show Below _ _ _; rw [hW1]; exact HB.out.alloc (by omega) _
      obtain ⟨fn, tmps, assign, body, hy, hR⟩ := HY.out (L.take k) L[k] W1 HJ1.out (by rw [List.length_take]; omega)
      have HR := Lib.hid hR
      have HTM := Lib.hid (fun (m : Nat) (hm : m < L.length) => HT.out m hm)
      obtain ⟨K, hK⟩ : ∃ K, K = L[k].kind := ⟨_, rfl⟩
      obtain ⟨S, hS⟩ : ∃ S : ByteArray, S = ⟨L[k].text.toArray⟩ := ⟨_, rfl⟩
      rw [← hK] at d0 hW1
      rw [← hS] at d1 hW1
      rw [← hK, ← hS] at hy
      rw [hW1] at hy
      have HW1 := Lib.hid hW1
      have HKK := Lib.hid hK
      clear hR c0 c1 hS hW1
      by_cases h4 : K = 4
      · have hk0 : k = 0 ∨ ∃ m, k = m + 1 := by cases k with | zero => exact .inl rfl | succ m => exact .inr ⟨m, rfl⟩
        rcases hk0 with h0 | ⟨m, hm⟩
        · have q : ((k : Int) == 0) = true := by rw [h0]; rfl
          have q4 : (K != 4) = false := by rw [h4]; rfl
          subst hao
          clear hK h0 h4
          gi_wp2
          rw [← HW1.out]
          refine HR.out.mono ?_
          rintro e W3 (⟨rfl, hJ3, hk3⟩ | ⟨rfl, hJx3⟩)
          · have HJ3 : Hid (J (L.take (k + 1)) W3) := by show J _ _; rw [HT1.out]; exact hJ3
            have HB3 : Hid (Below n₀ W W3) := HB1.out.trans hk3.1
            have HX3 : Hid (Boxed W3 Bs 27 (.slice (some ⟨b, off, none⟩) L.length c)) := hk3.2 _ HX1.out
            clear hJ3 hk3 hy
            gi_wp2
            go_roundw
            case rel => exact ⟨k + 1, by omega, by simp, HJ3, HB3, HX3⟩
            case measure => simp [intOf]; omega
          · have HJ3 : Hid (Jx (L.take (k + 1)) W3) := by show Jx _ _; rw [HT1.out]; exact hJx3
            clear hJx3 hy
            gi_wp2
            refine bodyPost_ret (results_none rfl _ _ _) rfl ?_
            exact ⟨⟨_, rfl⟩, .inr ⟨_, List.take_prefix _ _, HJ3.out⟩⟩
        · have hml : m < L.length := by omega
          have hnb4 : L[m].kind ≠ 4 := by
            intro e
            subst hm
            exact HNB.out m hlt ⟨e, by rw [← hK]; exact h4⟩
          obtain ⟨b', off', hao', hb', e0, e1⟩ := HT.out m hml
          rw [hao] at hao'
          simp only [Option.some.injEq, Addr.mk.injEq, and_true] at hao'
          obtain ⟨rfl, rfl⟩ := hao'
          have x0 := (HB.out.cell (p := ⟨b, off + m * 2, none⟩) hb).trans e0
          obtain ⟨K', hK'⟩ : ∃ K', K' = L[m].kind := ⟨_, rfl⟩
          rw [← hK'] at x0 hnb4
          have hbw : b < wr.heap.size := by omega
          have q : ((k : Int) == 0) = false := beq_eq_false_iff_ne.2 (by omega)
          have q4 : (K != 4) = false := by rw [h4]; rfl
          have q5 : (K' != 4) = true := by simpa using hnb4
          have a1 : (k : Int) - 1 = (m : Int) := by omega
          subst hao
          clear hK hK' e0 e1 hnb4 hm h4
          gi_wp2
          rw [← HW1.out]
          refine HR.out.mono ?_
          rintro e W3 (⟨rfl, hJ3, hk3⟩ | ⟨rfl, hJx3⟩)
          · have HJ3 : Hid (J (L.take (k + 1)) W3) := by show J _ _; rw [HT1.out]; exact hJ3
            have HB3 : Hid (Below n₀ W W3) := HB1.out.trans hk3.1
            have HX3 : Hid (Boxed W3 Bs 27 (.slice (some ⟨b, off, none⟩) L.length c)) := hk3.2 _ HX1.out
            clear hJ3 hk3 hy
            gi_wp2
            go_roundw
            case rel => exact ⟨k + 1, by omega, by simp, HJ3, HB3, HX3⟩
            case measure => simp [intOf]; omega
          · have HJ3 : Hid (Jx (L.take (k + 1)) W3) := by show Jx _ _; rw [HT1.out]; exact hJx3
            clear hJx3 hy
            gi_wp2
            refine bodyPost_ret (results_none rfl _ _ _) rfl ?_
            exact ⟨⟨_, rfl⟩, .inr ⟨_, List.take_prefix _ _, HJ3.out⟩⟩
      · have q4 : (K != 4) = true := by simpa using h4
        subst hao
        clear hK h4
        gi_wp2
        rw [← HW1.out]
        refine HR.out.mono ?_
        rintro e W3 (⟨rfl, hJ3, hk3⟩ | ⟨rfl, hJx3⟩)
        · have HJ3 : Hid (J (L.take (k + 1)) W3) := by show J _ _; rw [HT1.out]; exact hJ3
          have HB3 : Hid (Below n₀ W W3) := HB1.out.trans hk3.1
          have HX3 : Hid (Boxed W3 Bs 27 (.slice (some ⟨b, off, none⟩) L.length c)) := hk3.2 _ HX1.out
          clear hJ3 hk3 hy
          gi_wp2
          go_roundw
          case rel => exact ⟨k + 1, by omega, by simp, HJ3, HB3, HX3⟩
          case measure => simp [intOf]; omega
        · have HJ3 : Hid (Jx (L.take (k + 1)) W3) := by show Jx _ _; rw [HT1.out]; exact hJx3
          clear hJx3 hy
          gi_wp2
          refine bodyPost_ret (results_none rfl _ _ _) rfl ?_
          exact ⟨⟨_, rfl⟩, .inr ⟨_, List.take_prefix _ _, HJ3.out⟩⟩
    · obtain rfl : k = L.length := by omega
      have HJ2 : Hid (J L wr) := by have := HJs.out; rw [List.take_length] at this; exact this
      gi_wp2
      go_end0
      exact ⟨⟨_, rfl⟩, .inl ⟨_, rfl, HJ2.out⟩⟩
end Go.Proofs.Ytckinhebbhflgaa
