/- strings.Trim of the small letters: it leaves nothing if and only if there are small letters alone. Conditions: strings of at most 2^40 bytes. -/
import Derived.Test.YthkokpkiffbjnaaDoorPath
import Derived.Lib.AsciiSet
import Derived.Deep.WholeRow
import Derived.Outline
import Derived.Deep.Cut
namespace Mh
open Go Go.RowKit
set_option linter.unusedVariables false
def lets : List UInt8 := [97, 98, 99, 100, 101, 102, 103, 104, 105, 106, 107, 108, 109, 110, 111, 112, 113, 114, 115, 116, 117, 118, 119, 120, 121, 122]
def letsL (l : List UInt8) : Bool := l.all fun c => lets.contains c
theorem letsL_snoc (l : List UInt8) (c : UInt8) : letsL (l ++ [c]) = (letsL l && lets.contains c) := by unfold letsL; rw [List.all_append, List.all_cons, List.all_nil, Bool.and_true]
theorem letsL_cons (l : List UInt8) (c : UInt8) : letsL (c :: l) = (lets.contains c && letsL l) := by unfold letsL; rw [List.all_cons]
def letsB : ByteArray := ⟨lets.toArray⟩
end Mh
namespace Go.Proofs.YthkokpkiffbjnaaDoor
open Go.RowKit Mh
set_option linter.unusedVariables false
/-- The set of the letters at block b. -/
def SetAt (b : Nat) (w : World) : Prop := ∀ x : UInt8, w.cell? ⟨b, x.toNat, none⟩ = some (.bool (lets.contains x))
def TrimR (s : ByteArray) (w : World) (e : Ending) (w' : World) : Prop := ∃ u : ByteArray, e = .returned (.string u) ∧ w' = w ∧ Hid (letsL u.data.toList = letsL s.data.toList ∧ (letsL u.data.toList = true → u.data.toList = []) ∧ u.size ≤ s.size)
theorem extract_init (u : ByteArray) (n : Nat) (h : u.size = n + 1) : u.data.toList = (u.extract 0 n).data.toList ++ [u[n]] := by
  have hl : u.data.toList.length = n + 1 := by rw [Array.length_toList]; exact h
  have h1 : (u.extract 0 n).data.toList = u.data.toList.take n := by rw [ByteArray.data_extract]; simp
  rw [h1]
  have h2 : u.data.toList = u.data.toList.take (n + 1) := by rw [List.take_of_length_le (by omega)]
  conv => lhs; rw [h2]
  rw [List.take_add_one, List.getElem?_eq_getElem (by omega)]
  rfl
theorem extract_tail (u : ByteArray) (n : Nat) (h : u.size = n + 1) : u.data.toList = u[0] :: (u.extract 1 u.size).data.toList := by
  have hl : u.data.toList.length = n + 1 := by rw [Array.length_toList]; exact h
  have h1 : (u.extract 1 u.size).data.toList = u.data.toList.drop 1 := by
    rw [ByteArray.data_extract]
    simp
    apply List.take_of_length_le
    simp
  rw [h1]
  have h0 : u[0] = u.data.toList[0]'(by omega) := rfl
  rw [h0]
  exact (List.drop_eq_getElem_cons (by omega : 0 < u.data.toList.length)).trans rfl |> fun h => by simpa using h
set_option maxHeartbeats 4000000 in
theorem trimRight_any (s : ByteArray) (hs : s.size ≤ 1099511627776) (b : Nat) (w : World) (h : SetAt b w) : Calls Tryd.prog 32 #[.string s, .pointer (some ⟨b, 0, none⟩)] w (TrimR s w) := by
  have HC : Hid (∀ x : UInt8, Calls Tryd.prog 45 #[.pointer (some ⟨b, 0, none⟩), .int .u8 x.toNat] w fun e w' => e = .returned (.bool (lets.contains x)) ∧ w' = w) := fun x => Tryd.asciiSet_contains b x _ w (h x)
  clear h
  go_enter Tryd.func32, Tryd.ntmps32
  go_wp2_with fail
  go_loopw [0] (fun v wr => ∃ u : ByteArray, v = .string u ∧ w = wr ∧ u.size ≤ s.size ∧ Hid (letsL u.data.toList = letsL s.data.toList)) (fun v wr => match v with | .string u => u.size | _ => 0)
  case atStart => exact ⟨s, rfl, rfl, Nat.le_refl _, rfl⟩
  case round =>
    obtain ⟨u, rfl, hw, hus, HL⟩ := hrel
    subst hw
    by_cases hu : u.size = 0
    · have hd : u.data.toList = [] := List.length_eq_zero_iff.1 (by rw [Array.length_toList]; exact hu)
      have HD := Lib.hid hd
      clear hd
      go_wp2_with fail
      go_ret
      exact ⟨u, rfl, rfl, HL.out, fun _ => HD.out, hus⟩
    · obtain ⟨n, hn⟩ : ∃ n, u.size = n + 1 := ⟨u.size - 1, by omega⟩
      have hnu : n < u.size := by omega
      have hex := extract_init u n hn
      have HC1 := Lib.hid (HC.out u[n])
      have hpos : (0 : Int) < u.size := by omega
      have hsub : (u.size : Int) - 1 = (n : Int) := by omega
      go_wp2_with fail
      refine HC1.out.mono ?_
      rintro e w' ⟨rfl, rfl⟩
      cases hc : lets.contains u[n] with
      | true =>
        have hu2 : (u.extract 0 n).size = n := by rw [ByteArray.size_extract]; omega
        have HR : Hid (letsL (u.extract 0 n).data.toList = letsL s.data.toList) := by
          show _ = _
          rw [← HL.out, hex, letsL_snoc, hc, Bool.and_true]
        clear hc hex
        go_wp2_with fail
        go_roundw
        case rel => exact ⟨u.extract 0 n, by first | rfl | simp, by first | rfl | trivial, by omega, HR.out⟩
        case measure => simp; omega
      | false =>
        have HR : Hid (letsL u.data.toList = false) := by
          show _ = _
          rw [hex, letsL_snoc, hc, Bool.and_false]
        clear hc hex
        go_wp2_with fail
        go_ret
        exact ⟨u, rfl, rfl, HL.out, fun h => absurd (HR.out.symm.trans h) (by decide), hus⟩
set_option maxHeartbeats 4000000 in
theorem trimLeft_any (s : ByteArray) (hs : s.size ≤ 1099511627776) (b : Nat) (w : World) (h : SetAt b w) : Calls Tryd.prog 31 #[.string s, .pointer (some ⟨b, 0, none⟩)] w (TrimR s w) := by
  have HC : Hid (∀ x : UInt8, Calls Tryd.prog 45 #[.pointer (some ⟨b, 0, none⟩), .int .u8 x.toNat] w fun e w' => e = .returned (.bool (lets.contains x)) ∧ w' = w) := fun x => Tryd.asciiSet_contains b x _ w (h x)
  clear h
  go_enter Tryd.func31, Tryd.ntmps31
  go_wp2_with fail
  go_loopw [0] (fun v wr => ∃ u : ByteArray, v = .string u ∧ w = wr ∧ u.size ≤ s.size ∧ Hid (letsL u.data.toList = letsL s.data.toList)) (fun v wr => match v with | .string u => u.size | _ => 0)
  case atStart => exact ⟨s, rfl, rfl, Nat.le_refl _, rfl⟩
  case round =>
    obtain ⟨u, rfl, hw, hus, HL⟩ := hrel
    subst hw
    by_cases hu : u.size = 0
    · have hd : u.data.toList = [] := List.length_eq_zero_iff.1 (by rw [Array.length_toList]; exact hu)
      have HD := Lib.hid hd
      clear hd
      go_wp2_with fail
      go_ret
      exact ⟨u, rfl, rfl, HL.out, fun _ => HD.out, hus⟩
    · obtain ⟨n, hn⟩ : ∃ n, u.size = n + 1 := ⟨u.size - 1, by omega⟩
      have hnu : 0 < u.size := by omega
      have hex := extract_tail u n hn
      have HC1 := Lib.hid (HC.out u[0])
      have hpos : (0 : Int) < u.size := by omega
      go_wp2_with fail
      refine HC1.out.mono ?_
      rintro e w' ⟨rfl, rfl⟩
      cases hc : lets.contains u[0] with
      | true =>
        have hu2 : (u.extract 1 u.size).size = n := by rw [ByteArray.size_extract]; omega
        have HR : Hid (letsL (u.extract 1 u.size).data.toList = letsL s.data.toList) := by
          show _ = _
          rw [← HL.out, hex, letsL_cons, hc, Bool.true_and]
        clear hc hex
        go_wp2_with fail
        go_roundw
        case rel => exact ⟨u.extract 1 u.size, by first | rfl | (simp; rw [hn]; done) | (simp; rw [hn]), by first | rfl | trivial, by omega, HR.out⟩
        case measure => simp; omega
      | false =>
        have HR : Hid (letsL u.data.toList = false) := by
          show _ = _
          rw [hex, letsL_cons, hc, Bool.false_and]
        clear hc hex
        go_wp2_with fail
        go_ret
        exact ⟨u, rfl, rfl, HL.out, fun h => absurd (HR.out.symm.trans h) (by decide), hus⟩
theorem letsB_toList : letsB.data.toList = lets := rfl
theorem trimR_nil {s u : ByteArray} (h1 : letsL u.data.toList = letsL s.data.toList) (h2 : letsL u.data.toList = true → u.data.toList = []) : (u.data.toList = [] ↔ letsL s.data.toList = true) :=
  ⟨fun h => by rw [← h1, h]; rfl, fun h => h2 (h1.trans h)⟩
set_option maxHeartbeats 4000000 in
theorem trim_any (s : ByteArray) (hs : s.size ≤ 1099511627776) (w : World) : Calls Tryd.prog 17 #[.string s, .string letsB] w fun e w' => ∃ u : ByteArray, e = .returned (.string u) ∧ (u.data.toList = [] ↔ letsL s.data.toList = true) ∧ u.size ≤ s.size ∧ Below w.heap.size w w' := by
  have hz : ∀ w, (zeroValue 69).run Tryd.prog w = .ok (.agg (Array.replicate 256 (.bool false))) w := fun w => by kernel_rfl
  have HM := Lib.hid (fun w' => Tryd.strings_makeASCIISet hz letsB w' (by decide) (by rw [letsB_toList]; unfold lets; intro j b hb; have := List.mem_of_getElem? hb; clear hb; revert b; decide))
  rw [letsB_toList] at HM
  have HX : Hid (∀ x : UInt8, (Lib.setCells lets)[x.toNat]? = some (.bool (lets.contains x))) := fun x => Lib.setCells_at lets x
  have hcs : (Lib.setCells lets).size = 256 := Lib.setCells_size lets
  have HST := Lib.hid (fun w' => run_storeCells_new (P := Tryd.prog) w' 69 (Array.replicate 256 (.bool false)) (Lib.setCells lets) (by rw [hcs]; kernel_rfl) (by rw [hcs, Array.size_replicate]) (Lib.setCells_one _))
  generalize Lib.setCells lets = CS at HM HX hcs HST
  have HL2 := Lib.hid (fun (u : ByteArray) (hu : u.size ≤ 1099511627776) b w' h => trimLeft_any u hu b w' h)
  have HR := Lib.hid (fun (u : ByteArray) (hu : u.size ≤ 1099511627776) b w' h => trimRight_any u hu b w' h)
  have hb0 : letsB.toList.isEmpty = false := by rw [ByteArray.toList_eq]; rfl
  have hb1 : letsB.size = 26 := rfl
  cases he : s.toList.isEmpty with
  | true =>
    have HD : Hid (s.data.toList = []) := by show _ = _; rw [ByteArray.toList_eq] at he; simpa using he
    go_enter Tryd.func17, Tryd.ntmps17
    go_wp2_with fail
    go_ret
    exact ⟨_, rfl, ⟨fun _ => (by rw [HD.out]; rfl), fun _ => HD.out⟩, Nat.le_refl _, Below.refl _ _⟩
  | false =>
    go_enter Tryd.func17, Tryd.ntmps17
    go_wp2_with fail
    refine (HM.out _).mono ?_
    rintro e w1 ⟨rfl, rfl⟩
    have hsz : (w.alloc (.cells CS 69)).heap.size = w.heap.size + 1 := by simp
    have HW : Hid (∀ w2, Below (w.heap.size + 2) ((w.alloc (.cells CS 69)).alloc (.cells CS 69)) w2 → SetAt (w.heap.size + 1) w2) := fun w2 hb x => by
      have hn := heap_alloc_new (w.alloc (.cells CS 69)) (.cells CS 69)
      rw [hsz] at hn
      exact cellT ((hb.block _ (Nat.lt_succ_self _)).trans hn) (HX.out x)
    have HB2 : Hid (Below w.heap.size w ((w.alloc (.cells CS 69)).alloc (.cells CS 69))) := ((Below.refl _ w).alloc (Nat.le_refl _) _).alloc (by simp) _
    have HS := Lib.hid (HW.out _ (Below.refl _ _))
    have hst := HST.out (w.alloc (.cells CS 69))
    rw [hsz] at hst
    clear hsz
    go_upto_region 7 with fail
    clear hst
    go_wp2_with fail
    refine (HR.out s hs _ _ HS.out).mono ?_
    rintro e w2 ⟨u, rfl, rfl, hu⟩
    go_wp2_with fail
    refine (HL2.out u (by have := hu.out.2.2; omega) _ _ HS.out).mono ?_
    rintro e w3 ⟨x, rfl, rfl, hx⟩
    go_wp2_with fail
    go_ret
    exact ⟨x, rfl, by rw [← hu.out.1, ← hx.out.1]; exact trimR_nil rfl hx.out.2.1, by have := hu.out.2.2; have := hx.out.2.2; omega, HB2.out⟩
end Go.Proofs.YthkokpkiffbjnaaDoor
