/- asset.tokens, StyleTokens, ScriptTokens, Smaller, Minify. Conditions: as stated; the library's variable MaxLen holds an integer. -/
import Derived.Test.YtckinhebbhflgaaTkR
namespace Go.Proofs.Ytckinhebbhflgaa
open Go.RowKit Mh
set_option linter.unusedVariables false

theorem tokens_any (s : ByteArray) (sc : Bool) (w : World) (hs : s.size ≤ 20000) (hml : ML 0 w) : Calls Try.prog 15 #[.string s, .bool sc] w (DvR s sc w) := by
  have HD := Lib.hid (divided_any s sc w (by omega) hml)
  clear hml
  go_enter Try.func15, Try.ntmps15
  go_wp2_with fail
  refine HD.out.mono ?_
  rintro e w1 ⟨v, Y, Z, rfl, hb, hR⟩
  have HB := Lib.hid hb
  have HR := Lib.hid hR
  clear hb hR
  go_wp2_with fail
  go_ret3
  exact ⟨v, Y, Z, rfl, HB.out, HR.out⟩
/-- What a division into tokens gives where it succeeds. -/
def TkR (l : List Tk) (w : World) (e : Ending) (w' : World) : Prop := ∃ v, e = .returned (.tuple #[v, .int .i64 0, .int .i64 0]) ∧ Sl 2 w' v l.length (rowsT l) ∧ Below w.heap.size w w'
theorem style_ok (s : ByteArray) (l : List Tk) (w : World) (hs : s.size ≤ 20000) (hml : ML 0 w) (ht : toks false s.size s.data.toList = some l) (hl : l.length ≤ 20000) : Calls Try.prog 6 #[.string s] w (TkR l w) := by
  have HD := Lib.hid (tokens_any s false w hs hml)
  have HT := Lib.hid ht
  clear hml ht
  go_enter Try.func6, Try.ntmps6
  go_wp2_with fail
  refine HD.out.mono ?_
  rintro e w1 ⟨v, Y, Z, rfl, hb, ⟨_, _, hn⟩ | ⟨rfl, rfl, P, hP, hown⟩⟩
  · rw [HT.out] at hn; cases hn
  have hPl : P.map (·.1) = l := by rw [HT.out] at hP; injection hP with hP; exact hP.symm
  have hPn : P.length = l.length := by rw [← hPl]; simp
  have HP := Lib.hid (plain_any P v w1 (Sl.of_own hown (by decide)) (by omega))
  have HB := Lib.hid hb
  have HPL := Lib.hid hPl
  have HPN := Lib.hid hPn
  obtain ⟨ao, c, rfl⟩ := ownsRow_form hown
  clear hb hown hP hPl hPn
  go_wp2_with fail
  refine HP.out.mono ?_
  rintro e w2 ⟨v2, rfl, hown2, hb2⟩
  have HS2 : Hid (Sl 2 w2 v2 l.length (rowsT l)) := by
    have := Sl.of_own hown2 (by decide)
    rw [HPL.out, HPN.out] at this
    exact this
  have HB2 : Hid (Below w.heap.size w w2) := HB.out.trans (hb2.mono HB.out.size)
  obtain ⟨ao2, c2, rfl⟩ := ownsRow_form hown2
  clear hown2 hb2
  go_wp2_with fail
  go_ret3
  exact ⟨_, rfl, HS2.out, HB2.out⟩
theorem script_ok (s : ByteArray) (l : List Tk) (w : World) (hs : s.size ≤ 20000) (hml : ML 0 w) (ht : toks true s.size s.data.toList = some l) (hl : l.length ≤ 20000) : Calls Try.prog 7 #[.string s] w (TkR l w) := by
  have HD := Lib.hid (tokens_any s true w hs hml)
  have HT := Lib.hid ht
  clear hml ht
  go_enter Try.func7, Try.ntmps7
  go_wp2_with fail
  refine HD.out.mono ?_
  rintro e w1 ⟨v, Y, Z, rfl, hb, ⟨_, _, hn⟩ | ⟨rfl, rfl, P, hP, hown⟩⟩
  · rw [HT.out] at hn; cases hn
  have hPl : P.map (·.1) = l := by rw [HT.out] at hP; injection hP with hP; exact hP.symm
  have hPn : P.length = l.length := by rw [← hPl]; simp
  have HP := Lib.hid (plain_any P v w1 (Sl.of_own hown (by decide)) (by omega))
  have HB := Lib.hid hb
  have HPL := Lib.hid hPl
  have HPN := Lib.hid hPn
  obtain ⟨ao, c, rfl⟩ := ownsRow_form hown
  clear hb hown hP hPl hPn
  go_wp2_with fail
  refine HP.out.mono ?_
  rintro e w2 ⟨v2, rfl, hown2, hb2⟩
  have HS2 : Hid (Sl 2 w2 v2 l.length (rowsT l)) := by
    have := Sl.of_own hown2 (by decide)
    rw [HPL.out, HPN.out] at this
    exact this
  have HB2 : Hid (Below w.heap.size w w2) := HB.out.trans (hb2.mono HB.out.size)
  obtain ⟨ao2, c2, rfl⟩ := ownsRow_form hown2
  clear hown2 hb2
  go_wp2_with fail
  go_ret3
  exact ⟨_, rfl, HS2.out, HB2.out⟩
theorem smaller_ok (kind : Int) (hk : kind = 1 ∨ kind = 2) (l : List Tk) (v : Value) (w : World) (h : Sl 2 w v l.length (rowsT l)) (hl : l.length ≤ 20000) (hc : (cat l).length ≤ 200000) (hok : ∀ t ∈ l, okT t) (hnb : NoBB l) :
    Calls Try.prog 8 #[.int .i64 kind, v] w fun e w' => ∃ v', e = .returned (.tuple #[v', .int .i64 0]) ∧ Sl 2 w' v' (sm kind none l).length (rowsT (sm kind none l)) ∧ Below w.heap.size w w' := by
  have HF := Lib.hid (fault_ok l v w h hl hc hok)
  have HS := Lib.hid (fun w' (hb : Below w.heap.size w w') => smaller_any kind l v w' (h.below hb) (by omega) hnb)
  obtain ⟨ao, c, rfl, _⟩ := sl_shape h
  have q : ((kind != 1) && (kind != 2)) = false := by rcases hk with rfl | rfl <;> rfl
  have hk' : (kind != 1) = false ∨ ((kind != 1) = true ∧ (kind != 2) = false) := by rcases hk with rfl | rfl; exact .inl rfl; exact .inr ⟨rfl, rfl⟩
  clear h hnb hok hc hk
  rcases hk' with q1 | ⟨q1, q2⟩
  all_goals
    go_enter Try.func8, Try.ntmps8
    go_wp2_with fail
    refine HF.out.mono ?_
    rintro e w1 ⟨rfl, hb1⟩
    have HB1 := Lib.hid hb1
    clear hb1
    go_wp2_with fail
    refine (HS.out w1 HB1.out).mono ?_
    rintro e w2 ⟨v', rfl, hS2, hb2⟩
    have HS2 := Lib.hid hS2
    have HB2 : Hid (Below w.heap.size w w2) := HB1.out.trans (hb2.mono HB1.out.size)
    obtain ⟨ao2, c2, rfl, _⟩ := sl_shape hS2
    clear hS2 hb2
    go_wp2_with fail
    go_ret2
    exact ⟨_, rfl, HS2.out, HB2.out⟩
/-- What Minify returns. -/
def MinR (kind : Int) (s : ByteArray) (w : World) (e : Ending) (w' : World) : Prop :=
  ∃ (T : ByteArray) (Y Z : Int), e = .returned (.tuple #[.string T, .int .i64 Y, .int .i64 Z]) ∧ Below w.heap.size w w' ∧
    ((Z ≠ 0 ∧ T = ⟨#[]⟩ ∧ ¬ ((kind = 1 ∨ kind = 2) ∧ s.size ≤ 20000 ∧ ∃ l, toks (decide (kind = 2)) s.size s.data.toList = some l)) ∨
     (Z = 0 ∧ (kind = 1 ∨ kind = 2) ∧ s.size ≤ 20000 ∧ ∃ l, toks (decide (kind = 2)) s.size s.data.toList = some l ∧ T = ⟨(cat (sm kind none l)).toArray⟩))
set_option maxHeartbeats 2000000 in
theorem minify_any (kind : Int) (s : ByteArray) (w : World) (hml : ML 0 w) (hsm : s.size ≤ maxLen) : Calls Try.prog 5 #[.int .i64 kind, .string s] w (MinR kind s w) := by
  unfold maxLen at hsm
  by_cases hs : s.size ≤ 20000
  · by_cases hk : kind = 1 ∨ kind = 2
    · have HD := Lib.hid (divided_any s (decide (kind = 2)) w (by omega) hml)
      have hq : (kind == 2) = decide (kind = 2) := by rcases hk with rfl | rfl <;> rfl
      have hk' : (kind != 1) = false ∨ ((kind != 1) = true ∧ (kind != 2) = false) := by rcases hk with rfl | rfl; exact .inl rfl; exact .inr ⟨rfl, rfl⟩
      have HKK := Lib.hid hk
      have HSC : Hid ((kind = 1 ∧ decide (kind = 2) = false) ∨ (kind = 2 ∧ decide (kind = 2) = true)) := by rcases hk with rfl | rfl; exact .inl ⟨rfl, rfl⟩; exact .inr ⟨rfl, rfl⟩
      have HBAD : Hid (toks (decide (kind = 2)) s.size s.data.toList = none → ¬ ((kind = 1 ∨ kind = 2) ∧ s.size ≤ 20000 ∧ ∃ l, toks (decide (kind = 2)) s.size s.data.toList = some l)) := by
        rintro h ⟨_, _, l, hl⟩
        rw [h] at hl; cases hl
      have HGOOD : Hid (∀ l, toks (decide (kind = 2)) s.size s.data.toList = some l → (∃ l, toks (decide (kind = 2)) s.size s.data.toList = some l ∧ (⟨(cat (sm kind none l)).toArray⟩ : ByteArray) = ⟨(cat (sm kind none l)).toArray⟩)) := fun l h => ⟨l, h, rfl⟩
      obtain ⟨sc, hsc⟩ : ∃ sc, sc = decide (kind = 2) := ⟨_, rfl⟩
      unfold MinR
      rw [← hsc] at HD hq HSC HBAD HGOOD ⊢
      have HSCC := Lib.hid hsc
      clear hml hk hsc
      rcases hk' with q1 | ⟨q1, q2⟩
      all_goals
        go_enter Try.func5, Try.ntmps5
        go_wp2_with fail
        refine HD.out.mono ?_
        rintro e w1 ⟨v, Y, Z, rfl, hb, ⟨hZ, rfl, hn⟩ | ⟨rfl, rfl, P, hP, hown⟩⟩
        · have q : (Z != 0) = true := by simpa using hZ
          have HB := Lib.hid hb
          have HN := Lib.hid (HBAD.out hn)
          have HZ := Lib.hid hZ
          clear hb hn hZ
          go_wp2_with fail
          go_ret3
          exact ⟨_, _, _, rfl, HB.out, .inl ⟨HZ.out, rfl, HN.out⟩⟩
        · obtain ⟨l, hl⟩ : ∃ l, l = P.map (·.1) := ⟨_, rfl⟩
          have hPn : P.length = l.length := by rw [hl]; simp
          rw [← hl] at hP
          obtain ⟨l1, l2, l3, l4, l5, l6, l7⟩ := small_law kind sc HSC.out s.size s.data.toList l hP
          have hsl : s.data.toList.length = s.size := by simp
          have HP := Lib.hid (plain_any P v w1 (Sl.of_own hown (by decide)) (by omega))
          have HTK := Lib.hid hP
          have HB := Lib.hid hb
          have HPL := Lib.hid hl
          have HPN := Lib.hid hPn
          have HNB := Lib.hid (chn_noBB l none l1)
          have hll : l.length ≤ 1000000 := by omega
          have HCL : Hid ((cat (sm kind none l)).length ≤ 1000000) := by show _ ≤ _; omega
          have HSL : Hid ((sm kind none l).length ≤ 1000000) := by show _ ≤ _; have := chn_len _ _ l4; omega
          obtain ⟨ao, c, rfl⟩ := ownsRow_form hown
          clear hb hown hP hl hPn l1 l2 l3 l4 l5 l6 l7 hsl
          go_wp2_with fail
          refine HP.out.mono ?_
          rintro e w2 ⟨v2, rfl, hown2, hb2⟩
          have HS2 : Hid (Sl 2 w2 v2 l.length (rowsT l)) := by
            have := Sl.of_own hown2 (by decide)
            rw [← HPL.out, HPN.out] at this
            exact this
          have HB2 : Hid (Below w.heap.size w w2) := HB.out.trans (hb2.mono HB.out.size)
          have HSM := Lib.hid (smaller_any kind l v2 w2 HS2.out hll HNB.out)
          obtain ⟨ao2, c2, rfl⟩ := ownsRow_form hown2
          clear hown2 hb2
          go_wp2_with fail
          refine HSM.out.mono ?_
          rintro e w3 ⟨v3, rfl, hS3, hb3⟩
          have HB3 : Hid (Below w.heap.size w w3) := HB2.out.trans (hb3.mono HB2.out.size)
          have HJ := Lib.hid (joined_any (sm kind none l) v3 w3 hS3 HSL.out HCL.out)
          obtain ⟨ao3, c3, rfl, _⟩ := sl_shape hS3
          obtain ⟨J, hJ⟩ : ∃ J : ByteArray, J = ⟨(cat (sm kind none l)).toArray⟩ := ⟨_, rfl⟩
          rw [← hJ] at HJ
          have HJJ := Lib.hid hJ
          clear hS3 hb3 hJ
          go_wp2_with fail
          refine HJ.out.mono ?_
          rintro e w4 ⟨rfl, hb4⟩
          have HB4 : Hid (Below w.heap.size w w4) := HB3.out.trans (hb4.mono HB3.out.size)
          clear hb4
          go_wp2_with fail
          go_ret3
          exact ⟨_, _, _, rfl, HB4.out, .inr ⟨rfl, HKK.out, hs, l, HTK.out, HJJ.out⟩⟩
    · have q1 : (kind != 1) = true := by simpa using fun h => hk (.inl h)
      have q2 : (kind != 2) = true := by simpa using fun h => hk (.inr h)
      have HK := Lib.hid hk
      clear hml hk
      go_enter Try.func5, Try.ntmps5
      go_wp2_with fail
      go_ret3
      exact ⟨_, _, _, rfl, Below.refl _ _, .inl ⟨by decide, rfl, fun h => HK.out h.1⟩⟩
  · have q : decide ((20000 : Int) < (s.size : Int)) = true := decide_eq_true (by omega)
    have q2 : decide (20000 < s.size) = true := decide_eq_true (by omega)
    clear hml
    go_enter Try.func5, Try.ntmps5
    go_wp2_with fail
    go_ret3
    exact ⟨_, _, _, rfl, Below.refl _ _, .inl ⟨by decide, rfl, fun h => hs h.2.1⟩⟩
end Go.Proofs.Ytckinhebbhflgaa
