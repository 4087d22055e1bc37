/- The reader of messages: is, take, word. Conditions: the reader stands in the string. -/
import Derived.Test.YtdolpehcfifecaaGreatDoorMgT
namespace Go.Proofs.YtdolpehcfifecaaGreatDoor
open Go.RowKit Mh
set_option linter.unusedVariables false
set_option maxRecDepth 100000 in
set_option maxHeartbeats 4000000 in
theorem gis_any (Q T : Nat) (s : ByteArray) (c : UInt8) (m : Ms) (w : World) (h : MsAt Q T s m w) (hi : m.i ≤ s.size) (hs : s.size ≤ 1000000) :
    Calls Tryz.prog 51 #[.pointer (some ⟨Q, 0, none⟩), .int .u8 c.toNat] w fun en w' => en = .returned (.bool (decide (byteAt s (skipP s m.i) = some c))) ∧ MsAt Q T s (m.at (skipP s m.i)) w' ∧ Kept [Q] w w' := by
  have HS := Lib.hid (gskip_any Q T s m w h hi hs)
  have hJ := skipP_le hi
  generalize skipP s m.i = J at HS hJ ⊢
  clear h
  by_cases hlt : J < s.size
  · have q : decide (J < s.size) = true := decide_eq_true hlt
    have HB : Hid (byteAt s J = some s[J]) := byteAt_lt hlt
    by_cases hc : s[J] = c
    · have b : ((s[J].toNat : Int) == (c.toNat : Int)) = true := by rw [beq_iff_eq, hc]
      have HR : Hid (decide (byteAt s J = some c) = true) := by show _ = _; rw [HB.out, hc]; simp
      clear hc HB
      go_enter Tryz.func51, Tryz.ntmps51
      go_wp2_with (go_at_call 61; refine HS.out.mono ?_; rintro e w1 ⟨rfl, h1, h2⟩)
      have H2 := Lib.hid (And.intro h1 h2)
      obtain ⟨c0, c1', c2, c3, c4, fz⟩ := h1.cells
      have c1 : w1.cell? ⟨Q, 1, none⟩ = some (.int .i64 (J : Int)) := c1'
      clear c1' h1 h2
      go_quiet (fail)
      go_wp2_with fail
      go_ret
      exact ⟨by rw [HR.out]; rfl, H2.out.1.drewN nq, H2.out.2.drewN nq⟩
    · have b : ((s[J].toNat : Int) == (c.toNat : Int)) = false := by rw [beq_eq_false_iff_ne]; intro e; exact hc (UInt8.toNat_inj.1 (by omega))
      have HR : Hid (decide (byteAt s J = some c) = false) := by show _ = _; rw [HB.out]; simpa using hc
      clear hc HB
      go_enter Tryz.func51, Tryz.ntmps51
      go_wp2_with (go_at_call 61; refine HS.out.mono ?_; rintro e w1 ⟨rfl, h1, h2⟩)
      have H2 := Lib.hid (And.intro h1 h2)
      obtain ⟨c0, c1', c2, c3, c4, fz⟩ := h1.cells
      have c1 : w1.cell? ⟨Q, 1, none⟩ = some (.int .i64 (J : Int)) := c1'
      clear c1' h1 h2
      go_quiet (fail)
      go_wp2_with fail
      go_ret
      exact ⟨by rw [HR.out]; rfl, H2.out.1.drewN nq, H2.out.2.drewN nq⟩
  · have q : decide (J < s.size) = false := decide_eq_false hlt
    have HR : Hid (decide (byteAt s J = some c) = false) := by show _ = _; rw [byteAt_ge hlt]; simp
    go_enter Tryz.func51, Tryz.ntmps51
    go_wp2_with (go_at_call 61; refine HS.out.mono ?_; rintro e w1 ⟨rfl, h1, h2⟩)
    have H2 := Lib.hid (And.intro h1 h2)
    obtain ⟨c0, c1', c2, c3, c4, fz⟩ := h1.cells
    have c1 : w1.cell? ⟨Q, 1, none⟩ = some (.int .i64 (J : Int)) := c1'
    clear c1' h1 h2
    go_quiet (fail)
    go_wp2_with fail
    go_ret
    exact ⟨by rw [HR.out]; rfl, H2.out.1.drewN nq, H2.out.2.drewN nq⟩
set_option maxRecDepth 100000 in
set_option maxHeartbeats 4000000 in
theorem gtake_any (Q T : Nat) (s : ByteArray) (c : UInt8) (m : Ms) (w : World) (h : MsAt Q T s m w) (hi : m.i ≤ s.size) (hs : s.size ≤ 1000000) :
    Calls Tryz.prog 52 #[.pointer (some ⟨Q, 0, none⟩), .int .u8 c.toNat] w fun en w' => en = .returned (.tuple #[]) ∧ MsAt Q T s (Ms.take s c m) w' ∧ Kept [Q] w w' := by
  have HS := Lib.hid (gskip_any Q T s m w h hi hs)
  have hJ := skipP_le hi
  have HT : Hid (Ms.take s c m = if m.e ≠ 0 then m else if byteAt s (skipP s m.i) = some c then (m.at (skipP s m.i)).at (skipP s m.i + 1) else Ms.wrong s (m.at (skipP s m.i))) := rfl
  have H := Lib.hid h
  obtain ⟨c0, c1, c2, c3, c4, fz⟩ := h.cells
  clear h
  by_cases he : m.e = 0
  · have be : (m.e != 0) = false := by rw [bne_eq_false_iff_eq]; exact he
    have HT : Hid (Ms.take s c m = if byteAt s (skipP s m.i) = some c then (m.at (skipP s m.i)).at (skipP s m.i + 1) else Ms.wrong s (m.at (skipP s m.i))) := by show _ = _; rw [HT.out, if_neg (by rw [he]; simp)]
    clear he
    generalize skipP s m.i = J at HS hJ HT
    by_cases hlt : J < s.size
    · have q : decide (s.size ≤ J) = false := decide_eq_false (by omega)
      have HB : Hid (byteAt s J = some s[J]) := byteAt_lt hlt
      by_cases hc : s[J] = c
      · have b : ((s[J].toNat : Int) != (c.toNat : Int)) = false := by rw [bne_eq_false_iff_eq, hc]
        have HR : Hid (Ms.take s c m = (m.at J).at (J + 1)) := by show _ = _; rw [HT.out, HB.out, hc, if_pos rfl]
        clear hc HB HT
        go_enter Tryz.func52, Tryz.ntmps52
        go_wp2_with (go_at_call 61; refine HS.out.mono ?_; rintro e w1 ⟨rfl, h1, h2⟩)
        have H2 := Lib.hid (And.intro h1 h2)
        clear c0 c1 c2 c3 c4 fz
        obtain ⟨c0, c1', c2, c3, c4, fz⟩ := h1.cells
        have c1 : w1.cell? ⟨Q, 1, none⟩ = some (.int .i64 (J : Int)) := c1'
        clear c1' h1 h2
        go_quiet (fail)
        go_wp2_with fail
        go_end0
        exact ⟨rfl, by rw [HR.out]; exact (H2.out.1.drewN nq).set1 (J + 1), (H2.out.2.drewN nq).set Q 1 (by simp) _⟩
      · have b : ((s[J].toNat : Int) != (c.toNat : Int)) = true := by rw [bne_iff_ne]; intro e; exact hc (UInt8.toNat_inj.1 (by omega))
        have HR : Hid (Ms.take s c m = Ms.wrong s (m.at J)) := by show _ = _; rw [HT.out, HB.out, if_neg (by simpa using hc)]
        clear hc HB HT
        go_enter Tryz.func52, Tryz.ntmps52
        go_wp2_with (go_at_call 61; refine HS.out.mono ?_; rintro e w1 ⟨rfl, h1, h2⟩)
        have H2 := Lib.hid (And.intro h1 h2)
        clear c0 c1 c2 c3 c4 fz
        obtain ⟨c0, c1', c2, c3, c4, fz⟩ := h1.cells
        have c1 : w1.cell? ⟨Q, 1, none⟩ = some (.int .i64 (J : Int)) := c1'
        clear c1' h1 h2
        go_quiet (fail)
        have HW := Lib.hid (gwrong_any Q T s (m.at J) _ (H2.out.1.drewN nq) hJ hs)
        go_wp2_with (go_at_call 30; refine HW.out.mono ?_; rintro e w2 ⟨rfl, h1, h2⟩; have H3 := Lib.hid (And.intro h1 h2); clear h1 h2)
        refine bodyPost_ret (results_none rfl _ _ _) rfl ?_
        exact ⟨rfl, by rw [HR.out]; exact H3.out.1, (H2.out.2.drewN nq).trans H3.out.2⟩
    · have q : decide (s.size ≤ J) = true := decide_eq_true (by omega)
      have HR : Hid (Ms.take s c m = Ms.wrong s (m.at J)) := by show _ = _; rw [HT.out, byteAt_ge hlt, if_neg (by simp)]
      clear HT
      go_enter Tryz.func52, Tryz.ntmps52
      go_wp2_with (go_at_call 61; refine HS.out.mono ?_; rintro e w1 ⟨rfl, h1, h2⟩)
      have H2 := Lib.hid (And.intro h1 h2)
      clear c0 c1 c2 c3 c4 fz
      obtain ⟨c0, c1', c2, c3, c4, fz⟩ := h1.cells
      have c1 : w1.cell? ⟨Q, 1, none⟩ = some (.int .i64 (J : Int)) := c1'
      clear c1' h1 h2
      go_quiet (fail)
      have HW := Lib.hid (gwrong_any Q T s (m.at J) _ (H2.out.1.drewN nq) hJ hs)
      go_wp2_with (go_at_call 30; refine HW.out.mono ?_; rintro e w2 ⟨rfl, h1, h2⟩; have H3 := Lib.hid (And.intro h1 h2); clear h1 h2)
      refine bodyPost_ret (results_none rfl _ _ _) rfl ?_
      exact ⟨rfl, by rw [HR.out]; exact H3.out.1, (H2.out.2.drewN nq).trans H3.out.2⟩
  · have be : (m.e != 0) = true := by rw [bne_iff_ne]; exact he
    have HT : Hid (Ms.take s c m = m) := by show _ = _; rw [HT.out, if_pos he]
    clear he
    go_enter Tryz.func52, Tryz.ntmps52
    go_wp2_with fail
    refine bodyPost_ret (results_none rfl _ _ _) rfl ?_
    exact ⟨rfl, by rw [HT.out]; exact H.out, Kept.refl _ _⟩
end Go.Proofs.YtdolpehcfifecaaGreatDoor
