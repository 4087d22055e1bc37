/- AssetSame: the walk. Conditions: the string's size; the library's variable MaxLen holds an integer. -/
import Derived.Test.YtckinhebbhflgaaTkF
import Derived.Test.YtckinhebbhflgaaAwake
import Derived.Outline
namespace Go.Proofs.Ytckinhebbhflgaa.LSame
open Go.RowKit Mh
set_option linter.unusedVariables false

set_option maxRecDepth 100000 in
set_option maxHeartbeats 4000000 in
theorem walk (kind : Int) (s : ByteArray) (hs : s.size ≤ maxLen) (w : World) (hml : ML 0 w) :
    Calls Try.prog 3 #[.int .i64 kind, .string s] w fun e w' => e = .returned (.bool true) ∧ Below w.heap.size w w' := by
  have HA := Lib.hid (awake_any w)
  have HM := Lib.hid (fun w' (hb : Below w.heap.size w w') => minify_any kind s w' (hml.next hb) hs)
  have HML := Lib.hid hml
  clear hml
  unfold maxLen at hs
  go_enter Try.func3, Try.ntmps3
  go_wp2_with fail
  refine HA.out.mono ?_
  rintro e w1 ⟨rfl, hb1⟩
  have HB1 := Lib.hid hb1
  clear hb1
  go_wp2_with fail
  refine (HM.out w1 HB1.out).mono ?_
  rintro e w2 ⟨T, Y, Z, rfl, hb2, ⟨hZ, rfl, _⟩ | ⟨rfl, hk, hz, l, hl, rfl⟩⟩
  · have q : (Z != 0) = true := by simpa using hZ
    have HB2 : Hid (Below w.heap.size w w2) := HB1.out.trans (hb2.mono HB1.out.size)
    clear hb2 hZ
    go_wp2_with fail
    go_ret
    exact ⟨rfl, HB2.out⟩
  · have HB2 : Hid (Below w.heap.size w w2) := HB1.out.trans (hb2.mono HB1.out.size)
    have hsc : (kind = 1 ∧ decide (kind = 2) = false) ∨ (kind = 2 ∧ decide (kind = 2) = true) := by rcases hk with rfl | rfl; exact .inl ⟨rfl, rfl⟩; exact .inr ⟨rfl, rfl⟩
    obtain ⟨l1, l2, l3, l4, l5, l6, l7⟩ := small_law kind _ hsc s.size s.data.toList l hl
    have hsl : s.data.toList.length = s.size := by simp
    obtain ⟨J, hJ⟩ : ∃ J : ByteArray, J = ⟨(cat (sm kind none l)).toArray⟩ := ⟨_, rfl⟩
    have hJl : J.data.toList = cat (sm kind none l) := by rw [hJ]
    have hJz : J.size = (cat (sm kind none l)).length := by rw [hJ]; show (cat (sm kind none l)).toArray.size = _; simp
    have hJs : J.size ≤ s.size := by rw [hJz]; omega
    have hT2 : toks (decide (kind = 2)) J.size J.data.toList = some (sm kind none l) := by rw [hJl, hJz]; exact l7 _ (Nat.le_refl _)
    have hml2 : ∀ w', Below w.heap.size w w' → ML 0 w' := fun w' hb => HML.out.next hb
    have hll : l.length ≤ 20000 := by omega
    have hsm : (sm kind none l).length ≤ 20000 := by have := chn_len _ _ l4; omega
    have hok : ∀ (l : List Tk) (p : Option Tk), chn (decide (kind = 2)) p l → ∀ t ∈ l, okT t := by
      intro l
      induction l with
      | nil => intro p _ t ht; simp at ht
      | cons a l ih =>
        intro p h t ht
        rcases List.mem_cons.1 ht with rfl | ht
        · exact goodT.ok h.2.1
        · exact ih _ h.2.2 t ht
    have HR1 : Hid (∀ w', Below w.heap.size w w' → Calls Try.prog (if kind = 2 then 7 else 6) #[.string s] w' (TkR l w')) := by
      intro w' hb
      rcases hsc with ⟨h1, h2⟩ | ⟨h1, h2⟩
      · rw [if_neg (by rw [h1]; decide)]; exact style_ok s l w' hz (hml2 w' hb) (by rw [h2] at hl; exact hl) hll
      · rw [if_pos h1]; exact script_ok s l w' hz (hml2 w' hb) (by rw [h2] at hl; exact hl) hll
    have HR2 : Hid (∀ w', Below w.heap.size w w' → Calls Try.prog (if kind = 2 then 7 else 6) #[.string J] w' (TkR (sm kind none l) w')) := by
      intro w' hb
      rcases hsc with ⟨h1, h2⟩ | ⟨h1, h2⟩
      · rw [if_neg (by rw [h1]; decide)]; exact style_ok J _ w' (by omega) (hml2 w' hb) (by rw [h2] at hT2; exact hT2) hsm
      · rw [if_pos h1]; exact script_ok J _ w' (by omega) (hml2 w' hb) (by rw [h2] at hT2; exact hT2) hsm
    have HS := Lib.hid (fun v w' h => smaller_ok kind hk l v w' h hll (by omega) (hok l none l1) (chn_noBB l none l1))
    have HM2 : Hid (∀ w', Below w.heap.size w w' → Calls Try.prog 5 #[.int .i64 kind, .string J] w' fun e w3 => (∃ Y : Int, e = .returned (.tuple #[.string J, .int .i64 Y, .int .i64 0])) ∧ Below w'.heap.size w' w3) := by
      intro w' hb
      refine (minify_any kind J w' (hml2 w' hb) (by unfold maxLen; omega)).mono ?_
      rintro e w3 ⟨T', Y', Z', rfl, hb3, ⟨_, _, hno⟩ | ⟨rfl, _, _, l', hl', rfl⟩⟩
      · exact absurd ⟨hk, by omega, _, hT2⟩ hno
      · rw [hT2] at hl'
        injection hl' with hl'
        subst hl'
        rw [l5, ← hJ]
        exact ⟨⟨_, rfl⟩, hb3⟩
    have HEQ := Lib.hid (fun v u w' h h2 => equal_same (sm kind none l) v u w' h h2 (by omega))
    obtain ⟨R, hR⟩ : ∃ R, R = sm kind none l := ⟨_, rfl⟩
    rw [← hJ]
    rw [← hR] at HR2 HS HEQ
    have t1 : (J.toList == J.toList) = true := by simp
    have t2 : decide ((J.size : Int) ≤ (s.size : Int)) = true := decide_eq_true (by omega)
    have hk2 : kind = 1 ∨ kind = 2 := hk
    clear hb2 hl l1 l2 l3 l4 l5 l6 l7 hsl hJ hJl hJz hT2 hml2 hok hsc hR hk
    rcases hk2 with hk1 | hk1
    all_goals
      subst hk1
      go_wp2_with fail
      refine (HR1.out w2 HB2.out).mono ?_
      rintro e w3 ⟨v1, rfl, hS1, hb3⟩
      have HB3 : Hid (Below w.heap.size w w3) := HB2.out.trans (hb3.mono HB2.out.size)
      have HS1 := Lib.hid hS1
      obtain ⟨a1, c1, rfl, _⟩ := sl_shape hS1
      clear hS1 hb3
      go_wp2_with fail
      refine (HR2.out w3 HB3.out).mono ?_
      rintro e w4 ⟨v2, rfl, hS2, hb4⟩
      have HB4 : Hid (Below w.heap.size w w4) := HB3.out.trans (hb4.mono HB3.out.size)
      have HS14 := Lib.hid (HS1.out.below hb4)
      have HS2 := Lib.hid hS2
      obtain ⟨a2, c2, rfl, _⟩ := sl_shape hS2
      clear hS2 hb4
      go_wp2_with fail
      refine (HS.out _ w4 HS14.out).mono ?_
      rintro e w5 ⟨v3, rfl, hS3, hb5⟩
      have HB5 : Hid (Below w.heap.size w w5) := HB4.out.trans (hb5.mono HB4.out.size)
      have HS25 := Lib.hid (HS2.out.below hb5)
      have HS3 := Lib.hid hS3
      obtain ⟨a3, c3, rfl, _⟩ := sl_shape hS3
      clear hS3 hb5
      go_wp2_with fail
      refine (HM2.out w5 HB5.out).mono ?_
      rintro e w6 ⟨⟨Y2, rfl⟩, hb6⟩
      have HB6 : Hid (Below w.heap.size w w6) := HB5.out.trans (hb6.mono HB5.out.size)
      have HQ := Lib.hid (HEQ.out _ _ w6 (HS3.out.below hb6) (HS25.out.below hb6))
      clear hb6
      go_wp2_with fail
      refine HQ.out.mono ?_
      rintro e w7 ⟨rfl, hb7⟩
      have HB7 : Hid (Below w.heap.size w w7) := HB6.out.trans (hb7.mono HB6.out.size)
      clear hb7
      go_wp2_with fail
      go_ret
      exact ⟨rfl, HB7.out⟩
end Go.Proofs.Ytckinhebbhflgaa.LSame
