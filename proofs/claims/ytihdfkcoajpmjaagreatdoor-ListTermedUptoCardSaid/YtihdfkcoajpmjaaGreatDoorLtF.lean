/- list.stringsOf: the strings that a value names; list.routed: whether items and a route are right. Conditions: at most 2^20 items within. -/
import Derived.Test.YtihdfkcoajpmjaaGreatDoorLsHd
namespace Mh
open Go Go.RowKit
set_option linter.unusedVariables false
/-- The strings that a value names; none: it is of another kind. -/
def strsF (kd : Int) (tx : ByteArray) (is : List V) : Option (List ByteArray) :=
  if kd = 0 then some [] else if kd = 3 then some [tx] else if kd = 5 then (if is.all (fun x => decide (x.kd = 3)) = true then some (is.map V.tx) else none) else none
def strsV (X : V) : Option (List ByteArray) := strsF X.kd X.tx X.its
def StrRes (e : TypeId) (b0 : Nat) (r : Option (List ByteArray)) (w' : World) (v : Value) (b : Bool) : Prop := (r = none ∧ b = false) ∨ ∃ ns, r = some ns ∧ b = true ∧ w'.ownsRow b0 e 1 v ns.length (ns.map Value.string)
theorem own_one {w : World} {b e : Nat} {x : Value} {b0 : Nat} (hb0 : b0 ≤ b) (hb : w.heap[b]? = some (.cells #[x] e (0, 0))) : w.ownsRow b0 e 1 (.slice (some ⟨b, 0, none⟩) 1 1) 1 [x] :=
  ⟨rfl, .inr ⟨b, 1, #[x], rfl, hb0, hb, Nat.le_refl _, by unfold maxLen; omega, rfl, rfl⟩⟩
end Mh
namespace Go.Proofs.YtihdfkcoajpmjaaGreatDoor
open Go.RowKit Mh
set_option linter.unusedVariables false
theorem infoStrF : (Tryz.prog.info? 9).map (fun i => (i.zero, i.size, i.bytes)) = some (some (.string ⟨#[]⟩), 1, 16) := by kernel_rfl
set_option maxRecDepth 100000 in
set_option maxHeartbeats 8000000 in
theorem strings_any (X : V) (cs : List Value) (w : World) (h : VAt w X cs) (hn : X.its.length ≤ 1048576) :
    Calls Tryz.prog 22 #[.agg cs.toArray] w fun e w' => ∃ (v : Value) (b : Bool), e = .returned (.tuple #[v, .bool b]) ∧ Hid (StrRes 9 w.heap.size (strsV X) w' v b) ∧ Hid (Below w.heap.size w w') := by
  obtain ⟨ia, ic, ka, kc, rfl, hil, _, _, _, rows, hS, hT⟩ := h.opened
  obtain ⟨_, _, hsl, hk⟩ := VsAt.item hS hT
  simp only [Value.slice.injEq] at hsl
  obtain ⟨rfl, _, rfl⟩ := hsl
  have HK := Lib.hid hk
  rw [vcs_arr]
  unfold strsV
  obtain ⟨i0, hi, hz0, hz1, hz2⟩ := info_parts infoStrF
  generalize X.its = is at *
  generalize X.kys = ks at *
  generalize X.kd = xk at *
  generalize X.bo = xb at *
  generalize X.nu = xn at *
  generalize X.tx = xt at *
  clear hS hT hk h hil
  have HE2 : Hid (∀ ob1 ob2 : Obj, ((w.alloc ob1).alloc ob2).heap[w.heap.size + 1]? = some ob2) := fun ob1 ob2 => by
    have h := heap_alloc_new (w.alloc ob1) ob2
    rwa [show (w.alloc ob1).heap.size = w.heap.size + 1 by simp] at h
  by_cases k0 : xk = 0
  · have q0 : (xk == 0) = true := by rw [beq_iff_eq]; exact k0
    have HR : Hid (strsF xk xt is = some []) := by show _ = _; unfold strsF; rw [if_pos k0]
    clear k0
    go_enter Tryz.func22, Tryz.ntmps22
    go_wp2_with fail
    go_ret2
    exact ⟨_, _, rfl, .inr ⟨[], HR.out, rfl, World.ownsRow_nil _ _ _ _⟩, (Below.refl _ w).alloc (Nat.le_refl _) _⟩
  have q0 : (xk == 0) = false := by rw [beq_eq_false_iff_ne]; exact k0
  by_cases k3 : xk = 3
  · have q3 : (xk == 3) = true := by rw [beq_iff_eq]; exact k3
    have HR : Hid (strsF xk xt is = some [xt]) := by show _ = _; unfold strsF; rw [if_neg k0, if_pos k3]
    clear k0 k3
    go_enter Tryz.func22, Tryz.ntmps22
    go_wp2_with fail
    go_ret2
    exact ⟨_, _, rfl, .inr ⟨[xt], HR.out, rfl, own_one (by omega) (HE2.out _ _)⟩, ((Below.refl _ w).alloc (Nat.le_refl _) _).alloc (by simp) _⟩
  have q3 : (xk == 3) = false := by rw [beq_eq_false_iff_ne]; exact k3
  by_cases k5 : xk = 5
  · have q5 : (xk == 5) = true := by rw [beq_iff_eq]; exact k5
    have HR : Hid (strsF xk xt is = if is.all (fun x => decide (x.kd = 3)) = true then some (is.map V.tx) else none) := by show _ = _; unfold strsF; rw [if_neg k0, if_neg k3, if_pos k5]
    clear k0 k3 k5
    go_enter Tryz.func22, Tryz.ntmps22
    go_wp2_with fail
    go_loopw [4, 21] (fun v i wr => ∃ k : Nat, k ≤ is.length ∧ i = .int .i64 k ∧ Hid (wr.ownsRow w.heap.size 9 1 v k ((is.take k).map fun x => Value.string x.tx)) ∧ Hid ((is.take k).all (fun x => decide (x.kd = 3)) = true) ∧ Hid (Below w.heap.size w wr)) (fun _ i _ => is.length - (intOf i).toNat)
    case atStart => exact ⟨0, Nat.zero_le _, rfl, World.ownsRow_nil _ _ _ _, rfl, (Below.refl _ w).alloc (Nat.le_refl _) _⟩
    case round =>
      obtain ⟨k, hk, rfl, HO, HA, HB⟩ := hrel
      obtain ⟨va, vc, hv⟩ := ownsRow_form HO.out
      subst hv
      by_cases hkl : k < is.length
      · obtain ⟨b, off, ja, jc, la, lc, rfl, hlt, hat, hc6⟩ := HK.out k hkl
        obtain ⟨d0, d1, d2, d3, d4, d5⟩ := six_later HB.out hlt hc6
        have hTK : is.take (k + 1) = is.take k ++ [is[k]] := List.take_succ_eq_append_getElem hkl
        have HTK : Hid (((is.take (k + 1)).map fun x => Value.string x.tx) = ((is.take k).map fun x => Value.string x.tx) ++ [.string is[k].tx]) := by show _ = _; rw [hTK, List.map_append]; rfl
        have hBn : Below wr.heap.size wr (wr.alloc (.cells #[.int .i64 is[k].kd, .bool is[k].bo, .int .i64 is[k].nu, .string is[k].tx, .slice ja is[k].its.length jc, .slice la is[k].kys.length lc] 35)) := (Below.refl _ wr).alloc (Nat.le_refl _) _
        have HB2 := Lib.hid (HB.out.trans (hBn.mono HB.out.size))
        have HOW := Lib.hid (own_belowL HO.out hBn)
        have HX1 : Hid ((wr.alloc (.cells #[.int .i64 is[k].kd, .bool is[k].bo, .int .i64 is[k].nu, .string is[k].tx, .slice ja is[k].its.length jc, .slice la is[k].kys.length lc] 35)).heap[wr.heap.size]? = some (.cells #[.int .i64 is[k].kd, .bool is[k].bo, .int .i64 is[k].nu, .string is[k].tx, .slice ja is[k].its.length jc, .slice la is[k].kys.length lc] 35 (0, 0))) := heap_alloc_new _ _
        clear hBn hc6 hat
        generalize hW : wr.alloc (.cells #[.int .i64 is[k].kd, .bool is[k].bo, .int .i64 is[k].nu, .string is[k].tx, .slice ja is[k].its.length jc, .slice la is[k].kys.length lc] 35) = W at HB2 HOW HX1
        have hsz := HB2.out.size
        go_upto_region 11 with fail
        clear hW d0 d1 d2 d3 d4 d5
        have d0 : W.cell? ⟨wr.heap.size, 0, none⟩ = some (.int .i64 is[k].kd) := cellT HX1.out rfl
        have d3 : W.cell? ⟨wr.heap.size, 3, none⟩ = some (.string is[k].tx) := cellT HX1.out rfl
        by_cases hk3 : is[k].kd = 3
        · have p3 : (is[k].kd != 3) = false := by rw [bne_eq_false_iff_eq]; exact hk3
          have HA2 : Hid ((is.take (k + 1)).all (fun x => decide (x.kd = 3)) = true) := by
            show _ = _
            rw [hTK, List.all_append, HA.out]; simp [hk3]
          clear hk3 hTK
          go_wp2_with (at_builtin; go_loud (refine wpList_append1 HB2.out rfl _ _ 33 rfl 9 i0 (.string ⟨#[]⟩) 16 Tryz.underlying33 hi hz0 hz1 hz2 rfl _ _ _ rfl HOW.out _ rfl rfl (by unfold maxLen; omega) (by omega) (Nat.le_refl _) hsz ?_); intro v' w' hown' hbel' hsz'; have HO2 := Lib.hid hown'; have HB3 := Lib.hid hbel'; obtain ⟨va6, vc6, hv6⟩ := ownsRow_form hown'; subst hv6; clear hown' hbel' hsz')
          go_roundw
          case rel => exact ⟨k + 1, by omega, by go_num, by rw [HTK.out]; exact HO2.out, HA2, HB3.out⟩
          case measure => simp [intOf]; omega
        · have p3 : (is[k].kd != 3) = true := by rw [bne_iff_ne]; exact hk3
          have HF : Hid (is.all (fun x => decide (x.kd = 3)) = false) := by
            show _ = _
            rw [List.all_eq_false]
            exact ⟨is[k], List.getElem_mem hkl, by simpa using hk3⟩
          clear hk3 hTK
          go_wp2_with fail
          go_ret2
          exact ⟨_, _, rfl, .inl ⟨by rw [HR.out, HF.out]; rfl, rfl⟩, HB2.out⟩
      · have hkk : k = is.length := by omega
        subst hkk
        have HRR : Hid (strsF xk xt is = some (is.map V.tx)) := by
          show _ = _
          have := HA.out
          rw [List.take_length] at this
          rw [HR.out, this]; rfl
        have HSL : Hid (wr.ownsRow w.heap.size 9 1 (.slice va is.length vc) (is.map V.tx).length ((is.map V.tx).map Value.string)) := by
          have := HO.out
          rw [List.take_length] at this
          rw [List.length_map, List.map_map]
          exact this
        clear HO HA
        go_wp2_with fail
        go_ret2
        exact ⟨_, _, rfl, .inr ⟨_, HRR.out, rfl, HSL.out⟩, HB.out⟩
  · have q5 : (xk == 5) = false := by rw [beq_eq_false_iff_ne]; exact k5
    have HR : Hid (strsF xk xt is = none) := by show _ = _; unfold strsF; rw [if_neg k0, if_neg k3, if_neg k5]
    clear k0 k3 k5
    go_enter Tryz.func22, Tryz.ntmps22
    go_wp2_with fail
    go_ret2
    exact ⟨_, _, rfl, .inl ⟨HR.out, rfl⟩, (Below.refl _ w).alloc (Nat.le_refl _) _⟩
theorem strings_base (X : V) (cs : List Value) (base : Nat) (w : World) (hb : base ≤ w.heap.size) (h : VAt w X cs) (hn : X.its.length ≤ 1048576) :
    Calls Tryz.prog 22 #[.agg cs.toArray] w fun e w' => ∃ (v : Value) (b : Bool), e = .returned (.tuple #[v, .bool b]) ∧ Hid (StrRes 9 base (strsV X) w' v b) ∧ Hid (Below w.heap.size w w') := by
  refine (strings_any X cs w h hn).mono ?_
  rintro e w' ⟨v, b, he, hs, hbl⟩
  refine ⟨v, b, he, ?_, hbl⟩
  rcases hs.out with h1 | ⟨ns, h1, h2, h3⟩
  · exact .inl h1
  · exact .inr ⟨ns, h1, h2, own_baseL h3 hb⟩
set_option maxHeartbeats 4000000 in
theorem routed_any (v : Value) (l : List V) (r : ByteArray) (hr : r.size ≤ maxLen) (hn : ∀ X ∈ l, X.nodes ≤ 1048576) (w : World) (h : VsL w v l) :
    Calls Tryz.prog 9 #[v, .string r] w fun e w' => ∃ n : Int, e = .returned (.int .i64 n) ∧ Hid (n = 0 ↔ ItemsOk l ∧ (lsSteps r).isSome = true) ∧ Hid (Below w.heap.size w w') := by
  have HL := Lib.hid (listFault_any v l hn w h)
  have HST := Lib.hid (fun w1 => lsteps_any r w1 hr)
  clear h hn
  go_enter Tryz.func9, Tryz.ntmps9
  go_wp2_with fail
  refine HL.out.mono ?_
  rintro e w1 ⟨n, rfl, hn0, hb1⟩
  have HB1 := Lib.hid hb1
  have HN := Lib.hid hn0
  clear hb1 hn0
  by_cases hz : n = 0
  · have q1 : (n != 0) = false := by rw [bne_eq_false_iff_eq]; exact hz
    have HOKI := Lib.hid (HN.out.1 hz)
    clear hz HN
    go_wp2_with fail
    refine (HST.out _).mono ?_
    rintro e w2 ⟨sv, rfl, hsu, hb2⟩
    have HB2 : Hid (Below w.heap.size w w2) := HB1.out.trans (hb2.mono HB1.out.size)
    clear hsu hb2
    cases hs : (lsSteps r).isSome with
    | true =>
      have HS := Lib.hid hs
      clear hs
      go_wp2_with fail
      go_ret
      exact ⟨0, rfl, ⟨fun _ => ⟨HOKI.out, HS.out⟩, fun _ => rfl⟩, HB2.out⟩
    | false =>
      have HS := Lib.hid hs
      clear hs
      go_wp2_with fail
      go_ret
      exact ⟨3, rfl, ⟨fun h => absurd h (by decide), fun h => by have := h.2; rw [HS.out] at this; cases this⟩, HB2.out⟩
  · have q1 : (n != 0) = true := by rw [bne_iff_ne]; exact hz
    have HNO : Hid (¬ ItemsOk l) := fun h => hz (HN.out.2 h)
    have HZ := Lib.hid hz
    clear hz HN
    go_wp2_with fail
    go_ret
    exact ⟨n, rfl, ⟨fun h => absurd h HZ.out, fun h => absurd h.1 HNO.out⟩, HB1.out⟩
end Go.Proofs.YtihdfkcoajpmjaaGreatDoor
