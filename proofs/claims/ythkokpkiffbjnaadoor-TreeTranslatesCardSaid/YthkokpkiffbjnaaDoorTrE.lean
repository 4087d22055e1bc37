/- tree.setting and tree.translation. Conditions: a table has as many keys as items. -/
import Derived.Test.YthkokpkiffbjnaaDoorTrD
import Derived.Test.YthkokpkiffbjnaaDoorKeP6
import Derived.Test.YthkokpkiffbjnaaDoorKept
namespace Mh
open Go Go.RowKit
set_option linter.unusedVariables false
/-- The item of a key, if it has a kind. -/
def sttF (X : V) (key : ByteArray) (kd : Int) : Option V :=
  if X.kd = 6 then match X.kys.findIdx? (fun x => decide (x = key)) with
    | some i => match X.its[i]? with
      | some y => if y.kd = kd then some y else none
      | none => none
    | none => none
  else none
theorem sttF_off {X : V} {key : ByteArray} {kd : Int} (h : X.kd ≠ 6) : sttF X key kd = none := by unfold sttF; rw [if_neg h]
theorem sttF_none {X : V} {key : ByteArray} {kd : Int} (hb : ∀ j (hj : j < X.kys.length), X.kys[j] ≠ key) : sttF X key kd = none := by
  have : X.kys.findIdx? (fun x => decide (x = key)) = none := by
    rw [List.findIdx?_eq_none_iff]
    intro x hx
    obtain ⟨j, hj, rfl⟩ := List.mem_iff_getElem.1 hx
    simp [hb j hj]
  unfold sttF
  split
  · rw [this]
  · rfl
theorem sttF_at {X : V} {key : ByteArray} {kd : Int} (h6 : X.kd = 6) {i : Nat} (hi : i < X.kys.length) (h : X.kys[i] = key) (hb : ∀ j (hj : j < X.kys.length), j < i → X.kys[j] ≠ key) (hl : i < X.its.length) :
    sttF X key kd = if X.its[i].kd = kd then some X.its[i] else none := by
  have : X.kys.findIdx? (fun x => decide (x = key)) = some i := by
    rw [List.findIdx?_eq_some_iff_getElem]
    exact ⟨hi, by simp [h], fun j hj => by simp [hb j (by omega) hj]⟩
  unfold sttF
  rw [if_pos h6, this]
  simp only [List.getElem?_eq_getElem hl]
theorem heapDrewM {w : World} {g : Nat} {x : Option Obj} (h : w.heap[g]? = x) : w.drew.heap[g]? = x := h
def trKey : ByteArray := ⟨#[116, 114, 97, 110, 115, 108, 97, 116, 105, 111, 110]⟩
/-- A page's translation key. -/
def trL (X : V) (key : ByteArray) : ByteArray := match sttF X trKey 3 with
  | some y => y.tx
  | none => key
end Mh
namespace Go.Proofs.YthkokpkiffbjnaaDoor
open Go.RowKit Mh
set_option linter.unusedVariables false
set_option maxHeartbeats 4000000 in
theorem setting_any (X : V) (key : ByteArray) (kd : Int) (cs : List Value) (w : World) (h : VAt w X cs) (hkl : X.kd = 6 → X.kys.length = X.its.length) :
    Calls Tryd.prog 38 #[.agg cs.toArray, .string key, .int .i64 kd] w fun e w' => ∃ (c0 : Int) (c1 : Bool) (c2 : Int) (c3 : ByteArray) (a4 : Option Addr) (n4 d4 : Nat) (a5 : Option Addr) (n5 d5 : Nat) (r : Bool),
      e = .returned (.tuple #[.agg #[.int .i64 c0, .bool c1, .int .i64 c2, .string c3, .slice a4 n4 d4, .slice a5 n5 d5], .bool r]) ∧ (r = true → ∃ y, sttF X key kd = some y ∧ y.tx = c3) ∧ (r = false → sttF X key kd = none) ∧ c3.size ≤ maxLen ∧ Below w.heap.size w w' := by
  obtain ⟨ia, ic, ka, kc, rfl, hw6, hw7, htx, hks, rows, hrows, hits⟩ := h.opened
  obtain ⟨ao, c, hv, hm, hat⟩ := hks.get
  simp only [Value.slice.injEq, true_and] at hv
  obtain ⟨rfl, rfl⟩ := hv
  have HAT := Lib.hid hat
  obtain ⟨ao2, c2, hv2, hit⟩ := VsAt.item hrows hits
  simp only [Value.slice.injEq, true_and] at hv2
  obtain ⟨rfl, rfl⟩ := hv2
  have HIT := Lib.hid hit
  have HN0 : Hid (X.kd ≠ 6 → sttF X key kd = none) := sttF_off
  have HNN : Hid ((∀ j (hj : j < X.kys.length), X.kys[j] ≠ key) → sttF X key kd = none) := sttF_none
  have HAA : Hid (∀ i (hi : i < X.kys.length) (hl : i < X.its.length), X.kd = 6 → X.kys[i] = key → (∀ j (hj : j < X.kys.length), j < i → X.kys[j] ≠ key) → sttF X key kd = if X.its[i].kd = kd then some X.its[i] else none) := fun i hi hl h6 h hb => sttF_at h6 hi h hb hl
  unfold maxLen at hm hw6
  rw [vcs_arr]
  clear hat hit hrows hits hks h
  generalize sttF X key kd = R at *
  generalize X.its = is at *
  generalize X.kys = ks at *
  generalize X.kd = xk at *
  generalize X.bo = xb at *
  generalize X.nu = xn at *
  generalize X.tx = xt at *
  have HX0 : Hid (((w.alloc (.cells #[.int .i64 xk, .bool xb, .int .i64 xn, .string xt, .slice ia is.length ic, .slice ka ks.length kc] 37)).alloc (.cells #[.int .i64 0, .bool false, .int .i64 0, .string ⟨#[]⟩, .slice none 0 0, .slice none 0 0] 37)).heap[w.heap.size]? = some (.cells #[.int .i64 xk, .bool xb, .int .i64 xn, .string xt, .slice ia is.length ic, .slice ka ks.length kc] 37 (0, 0))) :=
    (heap_alloc_old _ _ (by simp)).trans (heap_alloc_new _ _)
  have HX1 : Hid (((w.alloc (.cells #[.int .i64 xk, .bool xb, .int .i64 xn, .string xt, .slice ia is.length ic, .slice ka ks.length kc] 37)).alloc (.cells #[.int .i64 0, .bool false, .int .i64 0, .string ⟨#[]⟩, .slice none 0 0, .slice none 0 0] 37)).heap[w.heap.size + 1]? = some (.cells #[.int .i64 0, .bool false, .int .i64 0, .string ⟨#[]⟩, .slice none 0 0, .slice none 0 0] 37 (0, 0))) := heap_new_at (by simp)
  have HB0 : Hid (Below w.heap.size w ((w.alloc (.cells #[.int .i64 xk, .bool xb, .int .i64 xn, .string xt, .slice ia is.length ic, .slice ka ks.length kc] 37)).alloc (.cells #[.int .i64 0, .bool false, .int .i64 0, .string ⟨#[]⟩, .slice none 0 0, .slice none 0 0] 37))) := ((Below.refl _ w).alloc (Nat.le_refl _) _).alloc (by simp) _
  by_cases h6 : xk = 6
  rotate_left
  · have hd : (xk != 6) = true := by rw [bne_iff_ne]; exact h6
    have HR := Lib.hid (HN0.out h6)
    clear h6 HX1
    obtain ⟨z0, z1, z2, z3, z4, z5⟩ := six_of_block HX0.out
    go_enter Tryd.func38, Tryd.ntmps38
    go_wp2_with fail
    clear z0 z1 z2 z3 z4 z5
    have HX1 : Hid (((w.alloc (.cells #[.int .i64 xk, .bool xb, .int .i64 xn, .string xt, .slice ia is.length ic, .slice ka ks.length kc] 37)).alloc (.cells #[.int .i64 0, .bool false, .int .i64 0, .string ⟨#[]⟩, .slice none 0 0, .slice none 0 0] 37)).heap[w.heap.size + 1]? = some (.cells #[.int .i64 0, .bool false, .int .i64 0, .string ⟨#[]⟩, .slice none 0 0, .slice none 0 0] 37 (0, 0))) := heap_new_at (by simp)
    generalize hw2 : (w.alloc (.cells #[.int .i64 xk, .bool xb, .int .i64 xn, .string xt, .slice ia is.length ic, .slice ka ks.length kc] 37)).alloc (.cells #[.int .i64 0, .bool false, .int .i64 0, .string ⟨#[]⟩, .slice none 0 0, .slice none 0 0] 37) = w2 at HX1 HB0 ⊢
    clear hw2
    obtain ⟨s0, s1, s2, s3, s4, s5⟩ := six_of_block HX1.out
    refine bodyPost_ret (v := .tuple #[.agg zv.toArray, .bool false]) (by simp [results, Tryd.results38, go_sem, zv, s0, s1, s2, s3, s4, s5] <;> rfl) rfl ⟨0, false, 0, ⟨#[]⟩, none, 0, 0, none, 0, 0, false, rfl, fun h => (by cases h), fun _ => HR.out, Nat.zero_le _, HB0.out⟩
  subst h6
  have hln := hkl rfl
  have HLN := Lib.hid hln
  clear hkl hln
  obtain ⟨z0, z1, z2, z3, z4, z5⟩ := six_of_block HX0.out
  go_enter Tryd.func38, Tryd.ntmps38
  go_wp2_with fail
  clear z0 z1 z2 z3 z4 z5
  generalize hw2 : World.alloc (World.alloc w _) _ = w2 at HX0 HX1 HB0 ⊢
  clear hw2
  have HZ1 : Hid (w.heap.size + 1 < w2.heap.size) := (Array.getElem?_eq_some_iff.1 HX1.out).1
  obtain ⟨z0, z1, z2, z3, z4, z5⟩ := six_of_block HX0.out
  obtain ⟨y0, y1, y2, y3, y4, y5⟩ := six_of_block HX1.out
  obtain ⟨f0, f1, f2, f3, f4, f5⟩ := six_open HX1.out
  go_loopw [17] (fun i wr => ∃ k : Nat, k ≤ ks.length ∧ i = .int .i64 k ∧ Hid (∀ j (hj : j < ks.length), j < k → ks[j] ≠ key) ∧ w2 = wr) (fun i wr => ks.length - (intOf i).toNat)
  case atStart => exact ⟨0, Nat.zero_le _, rfl, fun j hj h => by omega, rfl⟩
  case round =>
    obtain ⟨k, hk, rfl, HO, hww⟩ := hrel
    subst hww
    by_cases hkl : k < ks.length
    · obtain ⟨b, off, rfl, h1, h2, h3, h4, h5⟩ := HAT.out k hkl
      have h4' := (HB0.out.cell (p := ⟨b, off + k, none⟩) h3).trans h4
      unfold maxLen at h2 h5
      by_cases e : ks[k] = key
      rotate_left
      · have hq : (ks[k].toList == key.toList) = false := by rw [eqB]; exact decide_eq_false e
        have HE : Hid (ks[k] ≠ key) := e
        clear e
        go_wp2_with fail
        go_roundw
        case rel => exact ⟨k + 1, by omega, by go_num, fun j hj h => (by by_cases q : j = k; · subst q; exact HE.out
                                                                         · exact HO.out j hj (by omega)), by first | rfl | trivial⟩
        case measure => simp [intOf]; omega
      have hq : (ks[k].toList == key.toList) = true := by rw [eqB]; exact decide_eq_true e
      have hil : k < is.length := by have := HLN.out; omega
      have HR := Lib.hid (HAA.out k hkl hil (by first | rfl | trivial) e HO.out)
      obtain ⟨b2, off2, xa, xc, xka, xkc, rfl, hlt2, hx, hxc⟩ := HIT.out k hil
      obtain ⟨d0, d1, d2, d3, d4, d5⟩ := six_later HB0.out hlt2 hxc
      have HSZ : Hid (is[k].tx.size ≤ maxLen) := by obtain ⟨_, _, _, _, _, _, _, h, _⟩ := hx.opened; exact h
      clear hx hxc e
      generalize is[k] = Y at *
      have hput := put6_at (a := .int .i64 Y.kd) (b := .bool Y.bo) (c := .int .i64 Y.nu) (d := .string Y.tx) (e := .slice xa Y.its.length xc) (f := .slice xka Y.kys.length xkc) rfl HX1.out
      have hbel := put6_below (a := .int .i64 Y.kd) (b := .bool Y.bo) (c := .int .i64 Y.nu) (d := .string Y.tx) (e := .slice xa Y.its.length xc) (f := .slice xka Y.kys.length xkc) HB0.out (Nat.le_succ w.heap.size)
      unfold put6 at hput hbel
      have HPU := Lib.hid (heapDrewM hput)
      have HBE := Lib.hid hbel.drew
      clear hput hbel
      have HRY : Hid ((Y.kd == kd) = true → R = some Y) := fun q => by rw [HR.out, if_pos (by simpa using q)]
      have HRN : Hid ((Y.kd == kd) = false → R = none) := fun q => by rw [HR.out, if_neg (by simpa using q)]
      clear HR
      go_upto_region 7 with fail
      go_region_with (fail)
      all_goals
        go_wp2_with fail
        generalize hwf : World.drew _ = wf' at HPU HBE ⊢
        clear hwf z0 z1 z2 z3 z4 z5 y0 y1 y2 y3 y4 y5 f0 f1 f2 f3 f4 f5 d0 d1 d2 d3 d4 d5 h4'
        obtain ⟨s0, s1, s2, s3, s4, s5⟩ := six_of_block HPU.out
        refine bodyPost_ret (v := .tuple #[.agg #[.int .i64 Y.kd, .bool Y.bo, .int .i64 Y.nu, .string Y.tx, .slice xa Y.its.length xc, .slice xka Y.kys.length xkc], .bool (Y.kd == kd)]) (by simp [results, Tryd.results38, go_sem, s0, s1, s2, s3, s4, s5] <;> rfl) rfl ⟨_, _, _, _, _, _, _, _, _, _, _, rfl, fun h => ⟨Y, HRY.out h, rfl⟩, fun h => HRN.out h, HSZ.out, HBE.out⟩
    · have HR := Lib.hid (HNN.out fun j hj => HO.out j hj (by omega))
      have hput := put6_at (a := .int .i64 0) (b := .bool false) (c := .int .i64 0) (d := .string ⟨#[]⟩) (e := .slice none 0 0) (f := .slice none 0 0) rfl HX1.out
      have hbel := put6_below (a := .int .i64 0) (b := .bool false) (c := .int .i64 0) (d := .string ⟨#[]⟩) (e := .slice none 0 0) (f := .slice none 0 0) HB0.out (Nat.le_succ w.heap.size)
      unfold put6 at hput hbel
      have HPU := Lib.hid hput
      have HBE := Lib.hid hbel
      clear hput hbel
      go_wp2_with fail
      generalize hwf : World.setCell _ _ _ = wf' at HPU HBE ⊢
      clear hwf z0 z1 z2 z3 z4 z5 y0 y1 y2 y3 y4 y5 f0 f1 f2 f3 f4 f5
      obtain ⟨s0, s1, s2, s3, s4, s5⟩ := six_of_block HPU.out
      refine bodyPost_ret (v := .tuple #[.agg zv.toArray, .bool false]) (by simp [results, Tryd.results38, go_sem, zv, s0, s1, s2, s3, s4, s5] <;> rfl) rfl ⟨0, false, 0, ⟨#[]⟩, none, 0, 0, none, 0, 0, false, rfl, fun h => (by cases h), fun _ => HR.out, Nat.zero_le _, HBE.out⟩
set_option maxHeartbeats 4000000 in
theorem translation_any (X : V) (key : ByteArray) (cs : List Value) (w : World) (h : VAt w X cs) (hkl : X.kd = 6 → X.kys.length = X.its.length) :
    Calls Tryd.prog 22 #[.agg cs.toArray, .string key] w fun e w' => e = .returned (.string (trL X key)) ∧ Below w.heap.size w w' := by
  have HC := Lib.hid (fun w' (hb : Below w.heap.size w w') => setting_any X trKey 3 cs w' (h.keep hb) hkl)
  have HT1 : Hid (∀ y, sttF X trKey 3 = some y → trL X key = y.tx) := fun y q => by unfold trL; rw [q]
  have HT2 : Hid (sttF X trKey 3 = none → trL X key = key) := fun q => by unfold trL; rw [q]
  obtain ⟨ia, ic, ka, kc, rfl, _⟩ := h.opened
  rw [vcs_arr] at HC
  rw [vcs_arr]
  generalize sttF X trKey 3 = R at *
  generalize trL X key = TR at *
  unfold trKey at HC
  generalize X.its.length = is at *
  generalize X.kys.length = ks at *
  generalize X.kd = xk at *
  generalize X.bo = xb at *
  generalize X.nu = xn at *
  generalize X.tx = xt at *
  clear h hkl
  have HB0 : Hid (Below w.heap.size w (w.alloc (.cells #[.int .i64 xk, .bool xb, .int .i64 xn, .string xt, .slice ia is ic, .slice ka ks kc] 37))) := (Below.refl _ w).alloc (Nat.le_refl _) _
  go_enter Tryd.func22, Tryd.ntmps22
  go_wp2_with fail
  refine (HC.out _ HB0.out).mono ?_
  rintro e w2 ⟨c0, c1, c2, c3, a4, n4, d4, a5, n5, d5, r, rfl, hr1, hr0, hc3, hb2⟩
  have HB2 : Hid (Below w.heap.size w (w2.alloc (.cells #[.int .i64 c0, .bool c1, .int .i64 c2, .string c3, .slice a4 n4 d4, .slice a5 n5 d5] 37))) := (HB0.out.trans (hb2.mono HB0.out.size)).alloc (by have := HB0.out.size; have := hb2.size; omega) _
  clear hb2
  cases r with
  | true =>
    have HR : Hid (TR = c3) := by obtain ⟨y, q1, q2⟩ := hr1 rfl; rw [← q2]; exact HT1.out y q1
    clear hr1 hr0
    go_wp2_with fail
    go_ret
    exact ⟨by rw [HR.out]; rfl, HB2.out⟩
  | false =>
    have HR : Hid (TR = key) := HT2.out (hr0 rfl)
    clear hr1 hr0
    go_wp2_with fail
    go_ret
    exact ⟨by rw [HR.out]; rfl, HB2.out⟩
end Go.Proofs.YthkokpkiffbjnaaDoor
