/- The reader of messages: wrong, piece, skip. Conditions: the reader stands in the string. -/
import Derived.Test.YtdolpehcfifecaaGreatDoorMgR
import Derived.Test.YtdolpehcfifecaaGreatDoorMgQ
import Derived.Deep.CutBlock
namespace Mh
open Go Go.RowKit
theorem MsAt.drewN {Q T : Nat} {s : ByteArray} {m : Ms} {w : World} (h : MsAt Q T s m w) (n : Nat) : MsAt Q T s m (w.drewN n) := h
end Mh
namespace Go.Proofs.YtdolpehcfifecaaGreatDoor
open Go.RowKit Mh
set_option linter.unusedVariables false
set_option maxHeartbeats 2000000 in
theorem gwrong_any (Q T : Nat) (s : ByteArray) (m : Ms) (w : World) (h : MsAt Q T s m w) (hi : m.i ≤ s.size) (hs : s.size ≤ 1000000) :
    Calls Tryz.prog 30 #[.pointer (some ⟨Q, 0, none⟩)] w fun en w' => en = .returned (.tuple #[]) ∧ MsAt Q T s (Ms.wrong s m) w' ∧ Kept [Q] w w' := by
  obtain ⟨c0, c1, c2, c3, c4, fz⟩ := h.cells
  have HF := Lib.hid (fun a e w' (h : MsAt Q T s m w') => gfail_any Q T s m a e w' h)
  have H := Lib.hid h
  have HW : Hid (Ms.wrong s m = m.fail m.i (if (byteAt s m.i).any mctlB = true then 9 else 8)) := rfl
  clear h
  by_cases hl : m.i < s.size
  · have q : decide ((m.i : Int) < (s.size : Int)) = true := decide_eq_true (by omega)
    have HC := Lib.hid (fun w' => mcontrol_any s[m.i] w')
    rw [byteAt_lt hl] at HW
    simp only [Option.any_some] at HW
    cases hb : mctlB s[m.i] with
    | true =>
      rw [if_pos hb] at HW
      rw [hb] at HC
      clear hb
      go_enter Tryz.func30, Tryz.ntmps30
      go_wp2_with fail
      go_quiet ((go_at_call 29; refine Calls.quiet_of_same (HC.out _)))
      have HF2 := Lib.hid (HF.out m.i 9 _ (H.out.drewN nq))
      go_wp2_with (go_at_call 48; refine HF2.out.mono ?_; rintro e w' ⟨rfl, h1, h2⟩; have H3 := Lib.hid (And.intro h1 h2); clear h1 h2)
      go_end0
      exact ⟨rfl, by rw [HW.out]; exact H3.out.1, ((Kept.refl [Q] w).drewN nq).trans H3.out.2⟩
    | false =>
      rw [if_neg (by rw [hb]; simp)] at HW
      rw [hb] at HC
      clear hb
      go_enter Tryz.func30, Tryz.ntmps30
      go_wp2_with fail
      go_quiet ((go_at_call 29; refine Calls.quiet_of_same (HC.out _)))
      have HF2 := Lib.hid (HF.out m.i 8 _ (H.out.drewN nq))
      go_wp2_with (go_at_call 48; refine HF2.out.mono ?_; rintro e w' ⟨rfl, h1, h2⟩; have H3 := Lib.hid (And.intro h1 h2); clear h1 h2)
      go_end0
      exact ⟨rfl, by rw [HW.out]; exact H3.out.1, ((Kept.refl [Q] w).drewN nq).trans H3.out.2⟩
  · have q : decide ((m.i : Int) < (s.size : Int)) = false := decide_eq_false (by omega)
    rw [byteAt_ge hl] at HW
    go_enter Tryz.func30, Tryz.ntmps30
    go_wp2_with fail
    go_quiet (fail)
    have HF2 := Lib.hid (HF.out m.i 8 _ (H.out.drewN nq))
    go_wp2_with (go_at_call 48; refine HF2.out.mono ?_; rintro e w' ⟨rfl, h1, h2⟩; have H3 := Lib.hid (And.intro h1 h2); clear h1 h2)
    go_end0
    exact ⟨rfl, by rw [HW.out]; exact H3.out.1, ((Kept.refl [Q] w).drewN nq).trans H3.out.2⟩
theorem gpiece_any (Q T : Nat) (s : ByteArray) (m : Ms) (a : Nat) (w : World) (h : MsAt Q T s m w) (hn : m.n ≤ 1000000) :
    Calls Tryz.prog 31 #[.pointer (some ⟨Q, 0, none⟩), .int .i64 a] w fun en w' => en = .returned (.tuple #[]) ∧ MsAt Q T s (m.piece a) w' ∧ Kept [Q] w w' := by
  obtain ⟨c0, c1, c2, c3, c4, fz⟩ := h.cells
  have HN : Hid (MsAt Q T s { m with n := m.n + 1 } (w.setCell ⟨Q, 4, none⟩ (.int .i64 ((m.n : Int) + 1)))) := h.setN (m.n + 1)
  have HW : Hid (m.piece a = if 100 < m.n + 1 then ({ m with n := m.n + 1 } : Ms).fail a 4 else { m with n := m.n + 1 }) := rfl
  have HK : Hid (Kept [Q] w (w.setCell ⟨Q, 4, none⟩ (.int .i64 ((m.n : Int) + 1)))) := (Kept.refl [Q] w).set Q 4 (by simp) _
  clear h
  by_cases hl : 100 < m.n + 1
  · have q : decide ((100 : Int) < (m.n : Int) + 1) = true := decide_eq_true (by omega)
    rw [if_pos hl] at HW
    have HF2 := Lib.hid (gfail_any Q T s _ a 4 _ HN.out)
    clear hl
    go_enter Tryz.func31, Tryz.ntmps31
    go_wp2_with (go_at_call 48; refine HF2.out.mono ?_; rintro e w' ⟨rfl, h1, h2⟩; have H3 := Lib.hid (And.intro h1 h2); clear h1 h2)
    go_end0
    exact ⟨rfl, by rw [HW.out]; exact H3.out.1, HK.out.trans H3.out.2⟩
  · have q : decide ((100 : Int) < (m.n : Int) + 1) = false := decide_eq_false (by omega)
    rw [if_neg hl] at HW
    clear hl
    go_enter Tryz.func31, Tryz.ntmps31
    go_wp2_with fail
    go_end0
    exact ⟨rfl, by rw [HW.out]; exact HN.out, HK.out⟩
end Go.Proofs.YtdolpehcfifecaaGreatDoor
