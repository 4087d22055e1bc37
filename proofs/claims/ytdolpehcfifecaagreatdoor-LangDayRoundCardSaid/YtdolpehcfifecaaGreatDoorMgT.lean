/- The reader of messages: skip, take, is. Conditions: the reader stands in the string. -/
import Derived.Test.YtdolpehcfifecaaGreatDoorMgS
namespace Mh
open Go Go.RowKit
set_option linter.unusedVariables false
def blankB (c : UInt8) : Bool := decide (c.toNat = 32) || decide (c.toNat = 9) || decide (c.toNat = 10)
theorem mdrop_at {s : ByteArray} {j : Nat} (h : j < s.size) : s.data.toList.drop j = s[j] :: s.data.toList.drop (j + 1) := by
  have hl : j < s.data.toList.length := by simpa using h
  rw [List.drop_eq_getElem_cons hl]; rfl
theorem mdrop_end {s : ByteArray} {j : Nat} (h : ¬ j < s.size) : s.data.toList.drop j = [] := List.drop_eq_nil_of_le (by simp; omega)
theorem skipP_step {s : ByteArray} {j : Nat} (h : j < s.size) (hb : blankB s[j] = true) : skipP s j = skipP s (j + 1) := by
  unfold blankB at hb
  unfold skipP
  rw [mdrop_at h, List.takeWhile_cons, if_pos hb, List.length_cons]
  omega
theorem skipP_here {s : ByteArray} {j : Nat} (h : j < s.size) (hb : blankB s[j] = false) : skipP s j = j := by
  unfold blankB at hb
  unfold skipP
  rw [mdrop_at h, List.takeWhile_cons, if_neg (by rw [hb]; simp)]
  rfl
theorem skipP_end {s : ByteArray} {j : Nat} (h : ¬ j < s.size) : skipP s j = j := by
  unfold skipP
  rw [mdrop_end h]
  rfl
/-- Where the reader stands, in its block. -/
def mI (Q : Nat) (w : World) : Nat := match w.cell? ⟨Q, 1, none⟩ with
  | some (.int _ i) => i.toNat
  | _ => 0
theorem MsAt.mI {Q T : Nat} {s : ByteArray} {m : Ms} {w : World} (h : MsAt Q T s m w) : Mh.mI Q w = m.i := by
  unfold Mh.mI
  rw [h.cells.2.1]
  rfl
theorem MsAt.kept {Q T : Nat} {s : ByteArray} {m : Ms} {w w' : World} {S : List Nat} (h : MsAt Q T s m w) (hk : Kept S w w') (hQ : Q ∉ S) : MsAt Q T s m w' := (hk.block Q (Array.getElem?_eq_some_iff.1 h).1 hQ).trans h
end Mh
namespace Go.Proofs.YtdolpehcfifecaaGreatDoor
open Go.RowKit Mh
set_option linter.unusedVariables false
/-- What stands at the head of skip's loop. -/
structure SkIn (Q T : Nat) (s : ByteArray) (m : Ms) (w wr : World) (j : Nat) : Prop where
  le : j ≤ s.size
  p : MsAt Q T s (m.at j) wr
  kept : Kept [Q] w wr
  eq : skipP s m.i = skipP s j
theorem SkIn.drewN {Q T : Nat} {s : ByteArray} {m : Ms} {w wr : World} {j : Nat} (h : SkIn Q T s m w wr j) (n : Nat) : SkIn Q T s m w (wr.drewN n) j := ⟨h.le, h.p.drewN n, h.kept.drewN n, h.eq⟩
theorem SkIn.step {Q T : Nat} {s : ByteArray} {m : Ms} {w wr : World} {j : Nat} (h : SkIn Q T s m w wr j) (hlt : j < s.size) (hb : blankB s[j] = true) : SkIn Q T s m w (wr.setCell ⟨Q, 1, none⟩ (.int .i64 ((j : Int) + 1))) (j + 1) :=
  ⟨hlt, h.p.set1 (j + 1), h.kept.set Q 1 (by simp) _, h.eq.trans (skipP_step hlt hb)⟩
set_option maxRecDepth 100000 in
set_option maxHeartbeats 4000000 in
theorem gskip_any (Q T : Nat) (s : ByteArray) (m : Ms) (w : World) (h : MsAt Q T s m w) (hi : m.i ≤ s.size) (hs : s.size ≤ 1000000) :
    Calls Tryz.prog 61 #[.pointer (some ⟨Q, 0, none⟩)] w fun en w' => en = .returned (.tuple #[]) ∧ MsAt Q T s (m.at (skipP s m.i)) w' ∧ Kept [Q] w w' := by
  have HI0 : Hid (SkIn Q T s m w w m.i) := ⟨hi, h, Kept.refl _ _, rfl⟩
  clear h
  go_enter Tryz.func61, Tryz.ntmps61
  go_wp2_with fail
  go_loopw [] (fun wr => ∃ j : Nat, Hid (SkIn Q T s m w wr j)) (fun wr => s.size - mI Q wr)
  case atStart => exact ⟨m.i, HI0⟩
  case round =>
    obtain ⟨j, HI⟩ := hrel
    have HAT := Lib.hid HI.out.p.mI
    obtain ⟨c0, c1', c2, c3, c4, fz⟩ := HI.out.p.cells
    have c1 : wr.cell? ⟨Q, 1, none⟩ = some (.int .i64 (j : Int)) := c1'
    clear c1'
    have hle := HI.out.le
    by_cases hlt : j < s.size
    · have q : decide (j < s.size) = true := decide_eq_true hlt
      have hm : s.size - (j + 1) < s.size - j := by omega
      have HM := Lib.hid hm
      clear hm
      have HAZ : Hid (∀ W, MsAt Q T s (m.at (j + 1)) W → s.size - mI Q W < s.size - mI Q wr) := fun W hW => by rw [HAT.out, hW.mI]; exact HM.out
      by_cases h32 : s[j].toNat = 32
      · have b32 : ((s[j].toNat : Int) == 32) = true := by rw [beq_iff_eq]; omega
        have HB : Hid (blankB s[j] = true) := by show _ = _; unfold blankB; rw [h32]; rfl
        clear h32
        go_wp2_with fail
        go_quiet (fail)
        have HST := Lib.hid ((HI.out.drewN nq).step hlt HB.out)
        go_wp2_with fail
        go_roundw
        case rel => exact ⟨j + 1, HST⟩
        case measure => exact HAZ.out _ HST.out.p
      have b32 : ((s[j].toNat : Int) == 32) = false := by rw [beq_eq_false_iff_ne]; omega
      by_cases h9 : s[j].toNat = 9
      · have b9 : ((s[j].toNat : Int) == 9) = true := by rw [beq_iff_eq]; omega
        have HB : Hid (blankB s[j] = true) := by show _ = _; unfold blankB; rw [h9]; rfl
        clear h32 h9
        go_wp2_with fail
        go_quiet (fail)
        have HST := Lib.hid ((HI.out.drewN nq).step hlt HB.out)
        go_wp2_with fail
        go_roundw
        case rel => exact ⟨j + 1, HST⟩
        case measure => exact HAZ.out _ HST.out.p
      have b9 : ((s[j].toNat : Int) == 9) = false := by rw [beq_eq_false_iff_ne]; omega
      by_cases h10 : s[j].toNat = 10
      · have b10 : ((s[j].toNat : Int) == 10) = true := by rw [beq_iff_eq]; omega
        have HB : Hid (blankB s[j] = true) := by show _ = _; unfold blankB; rw [h10]; rfl
        clear h32 h9 h10
        go_wp2_with fail
        go_quiet (fail)
        have HST := Lib.hid ((HI.out.drewN nq).step hlt HB.out)
        go_wp2_with fail
        go_roundw
        case rel => exact ⟨j + 1, HST⟩
        case measure => exact HAZ.out _ HST.out.p
      have b10 : ((s[j].toNat : Int) == 10) = false := by rw [beq_eq_false_iff_ne]; omega
      have HE : Hid (skipP s m.i = j) := by show _ = _; rw [HI.out.eq]; exact skipP_here hlt (by unfold blankB; simp [h32, h9, h10])
      clear h32 h9 h10
      go_wp2_with fail
      go_quiet (fail)
      go_wp2_with fail
      go_end0
      exact ⟨rfl, by rw [HE.out]; exact HI.out.p.drewN nq, HI.out.kept.drewN nq⟩
    · have q : decide (j < s.size) = false := decide_eq_false hlt
      have HE : Hid (skipP s m.i = j) := by show _ = _; rw [HI.out.eq]; exact skipP_end hlt
      clear hlt
      go_wp2_with fail
      go_quiet (fail)
      go_wp2_with fail
      go_end0
      exact ⟨rfl, by rw [HE.out]; exact HI.out.p.drewN nq, HI.out.kept.drewN nq⟩
end Go.Proofs.YtdolpehcfifecaaGreatDoor
