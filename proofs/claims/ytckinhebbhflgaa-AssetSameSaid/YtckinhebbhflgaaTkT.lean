/- asset's scanner: text, begins. Conditions: where the scanner lies; bounds; the library's variable MaxLen holds an integer. -/
import Derived.Test.YtckinhebbhflgaaTkC
namespace Go.Proofs.Ytckinhebbhflgaa
open Go.RowKit Mh
set_option linter.unusedVariables false

theorem u8_int {c d : UInt8} : (c.toNat : Int) = (d.toNat : Int) ↔ c = d := by rw [← UInt8.toNat_inj]; omega
theorem strE_nil (q : UInt8) : strE q [] = none := by unfold strE; rfl
theorem strE_step (q c : UInt8) (t : List UInt8) (h1 : c ≠ 10) (h2 : c ≠ q) (h3 : c ≠ 92) : strE q (c :: t) = (strE q t).map (· + 1) := by
  cases t with
  | nil => rw [strE_nil, strE, if_neg h1, if_neg h2]; rfl
  | cons d t => rw [strE, if_neg h1, if_neg h2, if_neg h3]
theorem strE_end (q c : UInt8) (t : List UInt8) (h1 : c ≠ 10) (h2 : c = q) : strE q (c :: t) = some 1 := by
  cases t with
  | nil => unfold strE; rw [if_neg h1, if_pos h2]
  | cons d t => rw [strE, if_neg h1, if_pos h2]
theorem strE_line (q : UInt8) (t : List UInt8) : strE q (10 :: t) = none := by
  cases t with
  | nil => unfold strE; rw [if_pos rfl]
  | cons d t => rw [strE, if_pos rfl]
/-- Behind a backslash. -/
theorem strE_skip (q : UInt8) (d : UInt8) (t : List UInt8) (h2 : (92 : UInt8) ≠ q) (h3 : d ≠ 10) : strE q (92 :: d :: t) = (strE q t).map (· + 2) := by
  rw [strE, if_neg (by decide), if_neg h2, if_pos rfl, if_neg h3]
theorem strE_back (q : UInt8) (t : List UInt8) (h2 : (92 : UInt8) ≠ q) (h3 : ∀ d t', t = d :: t' → d = 10) : strE q (92 :: t) = (strE q t).map (· + 1) := by
  cases t with
  | nil => rw [strE_nil, strE, if_neg (by decide), if_neg h2]; rfl
  | cons d t =>
    obtain rfl := h3 d t rfl
    rw [strE, if_neg (by decide), if_neg h2, if_pos rfl, if_pos rfl, strE_line]
    rfl
/-- What text returns at i. -/
def txI (s : ByteArray) (q : UInt8) (i : Nat) : Int :=
  match strE q (s.data.toList.drop (i + 1)) with
  | none => -1
  | some k => (i : Int) + 1 + k
set_option maxRecDepth 100000 in
set_option maxHeartbeats 2000000 in
theorem text_any (b : Nat) (s : ByteArray) (sc : Bool) (o : Value) (w : World) (h : Sc b s sc o w) (i : Nat) (hi : i < s.size) (hs : s.size ≤ 1000000) :
    Calls Try.prog 23 #[.pointer (some ⟨b, 0, none⟩), .int .i64 i] w fun e w' => e = .returned (.int .i64 (txI s s[i] i)) ∧ w = w' := by
  have c0 := h.s
  clear h
  obtain ⟨q, hq⟩ : ∃ q, q = s[i] := ⟨_, rfl⟩
  have HX : Hid (∀ X, txI s q i = X → txI s s[i] i = X) := fun X h => by rw [← hq]; exact h
  have HQ := Lib.hid hq
  go_enter Try.func23, Try.ntmps23
  go_wp2_with fail
  rw [← hq]
  clear hq
  go_loopw [1] (fun v wr => ∃ j : Nat, i + 1 ≤ j ∧ j ≤ s.size ∧ v = .int .i64 j ∧ w = wr ∧ Hid (strE q (s.data.toList.drop (i + 1)) = (strE q (s.data.toList.drop j)).map (· + (j - (i + 1))))) (fun v _ => s.size - (intOf v).toNat)
  case atStart => exact ⟨i + 1, Nat.le_refl _, by omega, by go_num, rfl, by show _ = _; simp⟩
  case round =>
    obtain ⟨j, hij, hjs, rfl, rfl, HI⟩ := hrel
    by_cases hj : j < s.size
    · have e := drop_at s j hj
      have b1 : ∀ {x y : UInt8}, x ≠ y → ((x.toNat : Int) == (y.toNat : Int)) = false := fun {x y} h => beq_eq_false_iff_ne.2 (fun h2 => h (u8_int.1 h2))
      by_cases h10 : s[j] = 10
      · have t1 : ((s[j].toNat : Int) != 10) = false := by rw [h10]; rfl
        have t2 : (s[j].toNat : Int) = 10 := by rw [h10]; rfl
        have HE : Hid (txI s s[i] i = -1) := HX.out _ (by unfold txI; rw [HI.out, e, h10, strE_line]; rfl)
        clear e b1 h10
        go_wp2_with fail
        go_ret
        exact ⟨by rw [HE.out]; rfl, rfl⟩
      · have t1 : ((s[j].toNat : Int) != 10) = true := by have := b1 h10; simpa [bne] using this
        by_cases hq : s[j] = q
        · have t2 : ((s[j].toNat : Int) == (q.toNat : Int)) = true := by rw [hq]; simp
          have HE : Hid (txI s s[i] i = (j : Int) + 1) := HX.out _ (by unfold txI; rw [HI.out, e, strE_end q _ _ h10 hq]; simp; omega)
          clear e b1 h10 hq
          go_wp2_with fail
          go_ret
          exact ⟨by rw [HE.out]; rfl, rfl⟩
        · have t2 : ((s[j].toNat : Int) == (q.toNat : Int)) = false := b1 hq
          by_cases h92 : s[j] = 92
          · have t3 : ((s[j].toNat : Int) == 92) = true := by rw [h92]; rfl
            have hq92 : (92 : UInt8) ≠ q := fun h => hq (h92.trans h)
            by_cases hd : j + 1 < s.size ∧ ∃ h : j + 1 < s.size, s[j + 1] ≠ 10
            · obtain ⟨hd1, _, hd2⟩ := hd
              have t4 : ((s[j + 1].toNat : Int) != 10) = true := by have := b1 hd2; simpa [bne] using this
              have HN : Hid (strE q (s.data.toList.drop j) = (strE q (s.data.toList.drop (j + 2))).map (· + 2)) := by
                show _ = _
                rw [e, h92, drop_at s (j + 1) hd1, strE_skip q _ _ hq92 hd2]
              clear e b1 h10 hq h92 hd2 hq92
              go_wp2_with fail
              go_roundw
              case rel =>
                refine ⟨j + 2, by omega, by omega, by go_num, trivial, ?_⟩
                show _ = _
                rw [HI.out, HN.out, Option.map_map]
                congr 1
                funext x
                simp only [Function.comp_apply]
                omega
              case measure => simp [intOf]; omega
            · have HN : Hid (strE q (s.data.toList.drop j) = (strE q (s.data.toList.drop (j + 1))).map (· + 1)) := by
                show _ = _
                rw [e, h92]
                refine strE_back q _ hq92 fun d t' et => ?_
                by_cases hd1 : j + 1 < s.size
                · rw [drop_at s (j + 1) hd1] at et
                  injection et with et _
                  rw [← et]
                  by_cases h : s[j + 1] = 10
                  · exact h
                  · exact absurd ⟨hd1, hd1, h⟩ hd
                · rw [List.drop_eq_nil_of_le (by simp; omega)] at et
                  cases et
              by_cases hd1 : j + 1 < s.size
              · have t4 : ((s[j + 1].toNat : Int) != 10) = false := by
                  have : s[j + 1] = 10 := by
                    by_cases h : s[j + 1] = 10
                    · exact h
                    · exact absurd ⟨hd1, hd1, h⟩ hd
                  rw [this]; rfl
                have t5 : (s[j + 1].toNat : Int) = 10 := by simpa [bne] using t4
                clear e b1 h10 hq h92 hd hq92
                go_wp2_with fail
                go_roundw
                case rel =>
                  refine ⟨j + 1, by omega, by omega, by go_num, trivial, ?_⟩
                  show _ = _
                  rw [HI.out, HN.out, Option.map_map]
                  congr 1
                  funext x
                  simp only [Function.comp_apply]
                  omega
                case measure => simp [intOf]; omega
              · clear e b1 h10 hq h92 hd hq92
                go_wp2_with fail
                go_roundw
                case rel =>
                  refine ⟨j + 1, by omega, by omega, by go_num, trivial, ?_⟩
                  show _ = _
                  rw [HI.out, HN.out, Option.map_map]
                  congr 1
                  funext x
                  simp only [Function.comp_apply]
                  omega
                case measure => simp [intOf]; omega
          · have t3 : ((s[j].toNat : Int) == 92) = false := b1 h92
            have HN : Hid (strE q (s.data.toList.drop j) = (strE q (s.data.toList.drop (j + 1))).map (· + 1)) := by
              show _ = _
              rw [e, strE_step q _ _ h10 hq h92]
            clear e b1 h10 hq h92
            go_wp2_with fail
            go_roundw
            case rel =>
              refine ⟨j + 1, by omega, by omega, by go_num, trivial, ?_⟩
              show _ = _
              rw [HI.out, HN.out, Option.map_map]
              congr 1
              funext x
              simp only [Function.comp_apply]
              omega
            case measure => simp [intOf]; omega
    · have HE : Hid (txI s s[i] i = -1) := HX.out _ (by unfold txI; rw [HI.out, List.drop_eq_nil_of_le (by simp; omega), strE_nil]; rfl)
      go_wp2_with fail
      go_ret
      exact ⟨by rw [HE.out]; rfl, rfl⟩
end Go.Proofs.Ytckinhebbhflgaa
