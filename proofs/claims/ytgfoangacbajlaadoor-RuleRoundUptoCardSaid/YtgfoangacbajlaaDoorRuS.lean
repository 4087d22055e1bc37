/- lang's reader of rules: is, take, more, close, number: what each does where what it wants is there. Conditions: as stated. -/
import Derived.Test.YtgfoangacbajlaaDoorProg
import Derived.Test.YtgfoangacbajlaaDoorShelf
import Derived.Test.YtgfoangacbajlaaDoorMask
import Derived.Test.YtgfoangacbajlaaDoorDec10
import Derived.Test.YtgfoangacbajlaaDoorShp
import Derived.Deep.QuietTactic
import Derived.BigQuiet
import Derived.Outline
namespace Go.Proofs.YtgfoangacbajlaaDoor
open Go.RowKit Mh
set_option linter.unusedVariables false

/-- A reader in block b at position i of s, no fault so far. -/
def RS (b : Nat) (s : ByteArray) (i : Nat) (w : World) : Prop := w.heap[b]? = some (.cells #[.string s, .int .i64 i, .int .i64 0, .bool false, .bool false] 47 (0, 0))
theorem RS.lt {b : Nat} {s : ByteArray} {i : Nat} {w : World} (h : RS b s i w) : b < w.heap.size := (Array.getElem?_eq_some_iff.1 h).1
theorem RS.below {b B : Nat} {s : ByteArray} {i : Nat} {w w' : World} (h : RS b s i w) (hb : Below B w w') (hB : b < B) : RS b s i w' := (hb.block b hB).trans h
theorem RS.next {b : Nat} {s : ByteArray} {i : Nat} {w w' : World} (h : RS b s i w) (hb : Below w.heap.size w w') : RS b s i w' := h.below hb h.lt
theorem RS.alloc {b : Nat} {s : ByteArray} {i : Nat} {w : World} (h : RS b s i w) (o : Obj) : RS b s i (w.alloc o) := (heap_alloc_old _ _ h.lt).trans h
theorem below_drewN' (w : World) (n : Nat) : Below w.heap.size w (w.drewN n) := ⟨rfl, rfl, rfl, Nat.le_refl _, fun _ _ => rfl⟩

set_option maxHeartbeats 1000000 in
theorem is_any (b : Nat) (s : ByteArray) (i : Nat) (sign : ByteArray) (w : World) (h : RS b s i w) (hi : i ≤ s.size) (hs : s.size ≤ 2000) :
    Calls Tryd.prog 13 #[.pointer (some ⟨b, 0, none⟩), .string sign] w fun e w' => e = .returned (.bool (Lib.hasPrefix (s.data.toList.drop i) sign.data.toList)) ∧ Below w.heap.size w w' := by
  have c0 : w.cell? ⟨b, 0, none⟩ = some (.string s) := cellT h rfl
  have c1 : w.cell? ⟨b, 1, none⟩ = some (.int .i64 i) := cellT h rfl
  have c3 : w.cell? ⟨b, 3, none⟩ = some (.bool false) := cellT h rfl
  obtain ⟨t, ht⟩ : ∃ t, t = s.extract i s.size := ⟨_, rfl⟩
  have hts : t.data.toList = s.data.toList.drop i := by
    rw [ht]
    simp only [ByteArray.data_extract, Array.toList_extract, List.extract_eq_take_drop]
    exact List.take_of_length_le (by simp)
  have htz : t.size ≤ 2000 := by rw [ht, ByteArray.size_extract]; omega
  have HP : Hid (∀ m, Calls Tryd.prog 28 #[.string t, .string sign] (w.drewN m) fun e w' => e = .returned (.bool (Lib.hasPrefix (s.data.toList.drop i) sign.data.toList)) ∧ w' = w.drewN m) := by
    intro m
    rw [← hts]
    exact Tryd.strings_HasPrefix t sign (w.drewN m)
  have hsl : ∀ w, (Instr.slice 9 (.string s) (some (.int .i64 (i : Int))) none none).run Tryd.prog w = .ok (.string t) w := by
    intro w
    have := run_slice_string_l (P := Tryd.prog) w 9 s Tryd.underlying9 .i64 (i : Int) (by omega) (by omega)
    rw [ht]; simpa using this
  obtain ⟨B, hB⟩ : ∃ B, B = Lib.hasPrefix (s.data.toList.drop i) sign.data.toList := ⟨_, rfl⟩
  rw [← hB] at HP ⊢
  clear h ht hts hB
  go_enter Tryd.func13, Tryd.ntmps13
  go_wp2_with fail
  go_quiet ((go_at_call 28; with_reducible exact Calls.quiet_of_same (HP.out _)))
  go_wp2_with fail
  go_ret
  exact ⟨rfl, below_drewN' _ _⟩

theorem drop_get {s t : ByteArray} {i : Nat} {rest : List UInt8} (hd : s.data.toList.drop i = t.data.toList ++ rest) (k : Nat) (hk : k < t.size) : ∃ h : i + k < s.size, s[i + k] = t[k] := by
  have e := congrArg (fun l => l[k]?) hd
  simp only [List.getElem?_drop] at e
  have hk' : k < t.data.toList.length := by simpa using hk
  rw [List.getElem?_append_left hk', List.getElem?_eq_getElem hk'] at e
  obtain ⟨h1, h2⟩ := List.getElem?_eq_some_iff.1 e
  exact ⟨by simpa using h1, h2⟩
theorem drop_len {s t : ByteArray} {i : Nat} {rest : List UInt8} (hd : s.data.toList.drop i = t.data.toList ++ rest) (h0 : 0 < t.size) : i + t.size ≤ s.size := by
  have e := congrArg List.length hd
  simp only [List.length_drop, List.length_append] at e
  have e1 : s.data.toList.length = s.size := by simp
  have e2 : t.data.toList.length = t.size := by simp
  omega
set_option maxHeartbeats 2000000 in
theorem take_ok (b : Nat) (s : ByteArray) (i : Nat) (sign : ByteArray) (rest : List UInt8) (w : World) (h : RS b s i w) (hd : s.data.toList.drop i = sign.data.toList ++ rest) (hi : i ≤ s.size) (hs : s.size ≤ 2000) :
    Calls Tryd.prog 14 #[.pointer (some ⟨b, 0, none⟩), .string sign] w fun e w' => e = .returned (.tuple #[]) ∧ RS b s (i + sign.size) w' ∧ Kept [b] w w' := by
  have hl : i + sign.size ≤ s.size := by
    rcases Nat.eq_zero_or_pos sign.size with h0 | h0
    · omega
    · exact drop_len hd h0
  have HD := Lib.hid hd
  have HR := Lib.hid h
  have hg : sign.size ≤ 2000 := by omega
  clear h hd
  go_enter Tryd.func14, Tryd.ntmps14
  go_wp2_with fail
  go_loopw [4] (fun x wr => ∃ k j : Nat, k ≤ sign.size ∧ Hid (j = i + k) ∧ x = .int .i64 k ∧ Hid (RS b s j wr) ∧ Hid (Kept [b] w wr)) (fun x _ => sign.size - (intOf x).toNat)
  case atStart => exact ⟨0, i, by omega, rfl, rfl, HR.out, Kept.refl _ _⟩
  case round =>
    obtain ⟨k, j, hk, HJ, rfl, HRr, HK⟩ := hrel
    have c0 : wr.cell? ⟨b, 0, none⟩ = some (.string s) := cellT HRr.out rfl
    have c1 : wr.cell? ⟨b, 1, none⟩ = some (.int .i64 j) := cellT HRr.out rfl
    have c3 : wr.cell? ⟨b, 3, none⟩ = some (.bool false) := cellT HRr.out rfl
    have f1 : wr.frozen? ⟨b, 1, none⟩ = false := frozenT HRr.out
    have hj2 : j ≤ 2000 := by have := HJ.out; omega
    by_cases hkl : k < sign.size
    · obtain ⟨hjs, hg2⟩ := drop_get HD.out k hkl
      have hjl : j < s.size := by have := HJ.out; omega
      have hgj : s[j] = sign[k] := by rw [← hg2]; congr 1
      have q1 : decide ((s.size : Int) ≤ (j : Int)) = false := decide_eq_false (by omega)
      have q2 : decide (s.size ≤ j) = false := decide_eq_false (by omega)
      have q3 : ((s[j].toNat : Int) != (sign[k].toNat : Int)) = false := by rw [hgj]; simp
      have i1 : (0 : Int) ≤ (j : Int) := by omega
      have i2 : (j : Int) < (s.size : Int) := by omega
      have i3 : (0 : Int) ≤ (k : Int) := by omega
      have i4 : (k : Int) < (sign.size : Int) := by omega
      clear hg2 hgj hjs
      go_wp2_with fail
      go_quiet (fail)
      go_wp2_with fail
      go_roundw
      case rel => exact ⟨k + 1, j + 1, by omega, by show _ = _; rw [HJ.out]; omega, by go_num, heap_setCell_same _ _ 1 _ _ _ HRr.out, (HK.out.drewN _).set _ _ (by simp) _⟩
      case measure => simp [intOf]; omega
    · have HF : Hid (RS b s (i + sign.size) wr) := by
        have := HJ.out
        have e : j = i + sign.size := by omega
        rw [← e]; exact HRr.out
      go_wp2_with fail
      go_end0
      exact ⟨rfl, HF.out, HK.out⟩
end Go.Proofs.YtgfoangacbajlaaDoor
