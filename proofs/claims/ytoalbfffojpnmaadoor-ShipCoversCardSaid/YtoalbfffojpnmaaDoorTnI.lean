/- ship.Tokens: the tokens of a string are in order. Conditions: the string's size; the library's variable MaxLen holds an integer. -/
import Derived.Test.YtoalbfffojpnmaaDoorTnH
namespace Go.Proofs.YtoalbfffojpnmaaDoor
open Go.RowKit Mh
set_option linter.unusedVariables false

theorem good_at {s : ByteArray} {l : List Tk} (h : Good s l) : ∀ j (hj : j < l.length), j ≤ l[j].a
  | 0, _ => Nat.zero_le _
  | j + 1, hj => by
    have h1 := good_at h j (by omega)
    have h2 := (h.pair j hj).1
    omega
theorem good_len {s : ByteArray} {l : List Tk} (h : Good s l) : l.length ≤ s.size := by
  by_cases h0 : l.length = 0
  · omega
  · have h1 := good_at h (l.length - 1) (by omega)
    have h2 := (h.own (l.length - 1) (by omega)).1
    omega
theorem St.val {b0 X : Nat} {s : ByteArray} {i : Nat} {l : List Tk} {w : World} (h : St b0 X s i l w) : ∃ va vc, Scn s X i (.slice va l.length vc) w ∧ w.ownsRow b0 29 5 (.slice va l.length vc) l.length (l.flatMap Tk.cells) := by
  obtain ⟨v, h1, h2, _⟩ := h.ex
  obtain ⟨va, vc, rfl⟩ := ownsRow_form h2
  exact ⟨va, vc, h1, h2⟩
/-- What Tokens returns. -/
def ToksRes (s : ByteArray) (b0 : Nat) (w' : World) (v : Value) (e : Int) : Prop := (e ≠ 0 ∧ v = .slice none 0 0) ∨ (e = 0 ∧ s.size ≤ 200000 ∧ ∃ l, Good s l ∧ l.length ≤ 20000 ∧ w'.ownsRow b0 29 5 v l.length (l.flatMap Tk.cells) ∧ ∀ t ∈ l, ∃ a n c, t.at_ = .slice a n c)
set_option maxRecDepth 100000 in
set_option maxHeartbeats 16000000 in
theorem tokens_any (s : ByteArray) (m : Int) (w : World) (hm : w.cell? ⟨0, 0, none⟩ = some (.int .i64 m)) :
    Calls Tryd.prog 5 #[.string s] w fun e w' => ∃ (v : Value) (n : Int), e = .returned (.tuple #[v, .int .i64 n]) ∧ Hid (ToksRes s w.heap.size w' v n) ∧ Below w.heap.size w w' := by
  by_cases hs : s.size ≤ 200000
  · have hd0 : decide ((200000 : Int) < s.size) = false := decide_eq_false (by omega)
    have hgl : 0 < w.heap.size := World.block_lt_of_cell? w _ hm
    have HM : Hid (∀ w2, Below w.heap.size w w2 → w2.cell? ⟨0, 0, none⟩ = some (.int .i64 m)) := fun w2 hb => (hb.cell (p := ⟨0, 0, none⟩) hgl).trans hm
    have HBG : Hid (∀ i w2 v, Scn s w.heap.size i v w2 → i < s.size → Calls Tryd.prog 8 #[ptr w.heap.size, .int .i64 (i : Int)] w2 fun e w'' => e = .returned (.bool (begB s i)) ∧ w2 = w'') := by
      intro i w2 v h hi
      refine (begins_any s w.heap.size i i v w2 h hi (by omega)).mono ?_
      rintro e w'' ⟨h1, h2⟩
      exact ⟨h1, h2.symm⟩
    have HCH := Lib.hid (fun i i' l w2 (h : St w.heap.size w.heap.size s i' l w2) (hlt : i < i') (hz : i' ≤ s.size) (hl : l.length ≤ 900000) => chars_any w.heap.size w.heap.size s i' l i i' w2 h hlt hz (by omega))
    have HCN : Hid (∀ (i i' : Nat) (w2 : World), ¬ i < i' → Calls Tryd.prog 9 #[ptr w.heap.size, .int .i64 (i : Int), .int .i64 (i' : Int)] w2 fun e w'' => e = .returned (.tuple #[]) ∧ w2 = w'') := by
      intro i i' w2 hlt
      refine (chars_none w.heap.size i i' w2 hlt).mono ?_
      rintro e w'' ⟨h1, h2⟩
      exact ⟨h1, h2.symm⟩
    have HTK := Lib.hid (fun i l w2 (h : St w.heap.size w.heap.size s i l w2) (hg : Good s l) (he : End1 s l i) (hb : begB s i = true) (hi : i < s.size) (hl : l.length ≤ 900000) (hbw : Below w.heap.size w w2) => token_any w.heap.size w.heap.size s i l m w2 h hg he hb hi (by omega) hl (HM.out w2 hbw) hgl)
    clear hm
    unfold ptr at *
    go_enter Tryd.func5, Tryd.ntmps5
    have HNEW : Hid (St w.heap.size w.heap.size s 0 [] (w.alloc (.cells #[.string s, .int .i64 0, .slice none 0 0] 38 (0, 0)))) :=
      ⟨⟨.slice none 0 0, heap_alloc_new _ _, World.ownsRow_nil _ _ _ _, by simp [Value.ownBlock]⟩, Nat.le_refl _, fun t ht => by simp at ht⟩
    go_wp2_with fail
    go_loopw [] (fun wr => ∃ (i : Nat) (l : List Tk), i ≤ s.size ∧ Hid (St w.heap.size w.heap.size s i l wr) ∧ Hid (Good s l) ∧ Hid (End1 s l i) ∧ Hid (Below w.heap.size w wr)) (fun wr => s.size - atS w.heap.size wr)
    case atStart => exact ⟨0, [], Nat.zero_le _, HNEW, Good.nil s, End1.nil s 0, below_new _ _⟩
    case round =>
      obtain ⟨i, l, hi, HS, HG, HE, HB⟩ := hrel
      obtain ⟨va, vc, hv, hown⟩ := HS.out.val
      have HV := Lib.hid hv
      have HOW := Lib.hid hown
      have hll := good_len HG.out
      have HAT := Lib.hid hv.atS
      obtain ⟨c0, c1, c2, f1, f2⟩ := hv.cells
      clear hv hown
      by_cases hcont : i < s.size ∧ l.length ≤ 20000
      · obtain ⟨hlt, hl2⟩ := hcont
        have d1 : decide ((i : Int) < s.size) = true := decide_eq_true (by omega)
        have d2 : decide ((l.length : Int) ≤ 20000) = true := decide_eq_true (by omega)
        have p1 : (i : Int) < s.size := by omega
        have p2 : (l.length : Int) ≤ 20000 := by omega
        go_wp2_with fail
        clear c0 c1 c2 f1 f2 d1 d2 p1 p2
        obtain ⟨wo, rfl⟩ : ∃ wo : World, wo = wr := ⟨_, rfl⟩
        go_loopw [] (fun wx => ∃ j : Nat, i ≤ j ∧ j ≤ s.size ∧ (j = i ∨ begB s i = false) ∧ Hid (Scn s w.heap.size j (.slice va l.length vc) wx) ∧ Hid (Kept [w.heap.size] wo wx)) (fun wx => s.size - atS w.heap.size wx)
        case atStart => exact ⟨i, Nat.le_refl _, hi, .inl rfl, HV, Kept.refl _ _⟩
        case round =>
          obtain ⟨j, hij, hj, hbi, HSj, HKj⟩ := hrel
          obtain ⟨c0, c1, c2, f1, f2⟩ := HSj.out.cells
          have HATj := Lib.hid HSj.out.atS
          have HSTj : Hid (St w.heap.size w.heap.size s j l wr) := HS.out.move HV.out HSj.out HKj.out
          have HBj : Hid (Below w.heap.size w wr) := HB.out.trans (HS.out.low HKj.out)
          have HCHK : Hid (i < j → ∀ (h : 0 < l.length), (l[l.length - 1]'(by omega)).k ≠ 1) := fun hlt2 h0 hk => by
            have h1 := HE.out.rw_ h0 hk
            rcases hbi with e | e
            · omega
            · rcases h1 with h1 | h1
              · omega
              · rw [e] at h1; cases h1
          have HGj : Hid (i < j → (j = s.size ∨ begB s j = true) → Good s (l ++ [chTk s i j]) ∧ End1 s (l ++ [chTk s i j]) j) := fun hlt2 hend =>
            ⟨HG.out.snoc HE.out (t := chTk s i j) rfl (own_ch hlt2 hj) (fun _ => HCHK.out hlt2), End1.snoc (t := chTk s i j) hlt2 (fun _ => ⟨ch_end hlt2 hj, hend⟩)⟩
          by_cases hjl : j < s.size
          · have d1 : decide ((j : Int) < s.size) = true := decide_eq_true (by omega)
            have p1 : (j : Int) < s.size := by omega
            have HBJ := Lib.hid (HBG.out j wr _ HSj.out hjl)
            cases hbj : begB s j with
            | false =>
              rw [hbj] at HBJ
              have HN : Hid (Scn s w.heap.size (j + 1) (.slice va l.length vc) (wr.setCell ⟨w.heap.size, 1, none⟩ (.int .i64 ((j : Int) + 1)))) := by
                have := HSj.out.set1 (j + 1)
                rw [show ((j + 1 : Nat) : Int) = (j : Int) + 1 by omega] at this
                exact this
              have hbi2 : begB s i = false := by rcases hbi with e | e; (rw [← e]; exact hbj); exact e
              go_wp2_with (go_at_call 8; refine HBJ.out.mono ?_; rintro e w' ⟨rfl, rfl⟩)
              go_roundw
              case rel => exact ⟨j + 1, by omega, by omega, .inr hbi2, HN, HKj.out.set _ 1 (by simp) _⟩
              case measure =>
                rw [HATj.out]
                have h2 : atS w.heap.size (wr.setCell ⟨w.heap.size, 1, none⟩ (.int .i64 ((j : Int) + 1))) = j + 1 := HN.out.atS
                omega
            | true =>
              rw [hbj] at HBJ
              have HBJT := Lib.hid hbj
              by_cases hij2 : i < j
              · have hgj := HGj.out hij2 (.inr hbj)
                have HG2 := Lib.hid hgj
                go_wp2_with (first | (go_at_call 8; refine HBJ.out.mono ?_; rintro e w' ⟨rfl, rfl⟩) | (go_at_call 9; refine (HCH.out i j l _ HSTj.out hij2 hj (by omega)).mono ?_; rintro e w5 ⟨rfl, HS5, HB5⟩; obtain ⟨va5, vc5, hv5, _⟩ := HS5.out.val; obtain ⟨e0, e1, e2, e3, e4⟩ := hv5.cells; have HB6 := Lib.hid (HBj.out.trans HB5.out); have HTK2 := Lib.hid (HTK.out j (l ++ [chTk s i j]) w5 HS5.out HG2.out.1 HG2.out.2 HBJT.out hjl (by have := good_len HG2.out.1; omega) HB6.out); clear hv5) | (go_at_call 10; refine HTK2.out.mono ?_; rintro e w6 ⟨rfl, HTO⟩))
                obtain ⟨i', l', hii, hiz, hs6, hg6, he6⟩ := HTO.out.ex
                go_roundw
                case rel => exact ⟨i', l', hiz, hs6, hg6, he6, HB6.out.trans HTO.out.low⟩
                case measure =>
                  obtain ⟨_, _, hv6, _⟩ := hs6.val
                  rw [HAT.out, hv6.atS]; omega
              · obtain rfl : i = j := by omega
                have HTK2 := Lib.hid (HTK.out i l wr HSTj.out HG.out HE.out HBJT.out hjl (by omega) HBj.out)
                go_wp2_with (first | (go_at_call 8; refine HBJ.out.mono ?_; rintro e w' ⟨rfl, rfl⟩) | (go_at_call 9; refine (HCN.out i i _ hij2).mono ?_; rintro e w5 ⟨rfl, rfl⟩) | (go_at_call 10; refine HTK2.out.mono ?_; rintro e w6 ⟨rfl, HTO⟩))
                obtain ⟨i', l', hii, hiz, hs6, hg6, he6⟩ := HTO.out.ex
                go_roundw
                case rel => exact ⟨i', l', hiz, hs6, hg6, he6, HBj.out.trans HTO.out.low⟩
                case measure =>
                  obtain ⟨_, _, hv6, _⟩ := hs6.val
                  rw [HAT.out, hv6.atS]; omega
          · have hje : j = s.size := by omega
            have d1 : decide ((j : Int) < s.size) = false := decide_eq_false (by omega)
            have p1 : ¬ (j : Int) < s.size := by omega
            have hij2 : i < j := by omega
            have HG2 := Lib.hid (HGj.out hij2 (.inl hje))
            have HCH2 := Lib.hid (HCH.out i j l wr HSTj.out hij2 hj (by omega))
            clear hje hjl hbi HCHK HGj HCN HTK HBG HE HG
            go_wp2_with (go_at_call 9; refine (HCH.out i j l _ HSTj.out hij2 hj (by omega)).mono ?_; rintro e w5 ⟨rfl, HS5, HB5⟩; obtain ⟨va5, vc5, hv5, _⟩ := HS5.out.val; obtain ⟨e0, e1, e2, e3, e4⟩ := hv5.cells; have HB6 := Lib.hid (HBj.out.trans HB5.out); have HA5 := Lib.hid hv5.atS; clear hv5)
            go_roundw
            case rel => exact ⟨j, _, hj, HS5, HG2.out.1, HG2.out.2, HB6⟩
            case measure => rw [HAT.out, HA5.out]; omega
      · by_cases hbig : 20000 < l.length
        · have d2 : decide ((20000 : Int) < l.length) = true := decide_eq_true (by omega)
          have d3 : decide ((l.length : Int) ≤ 20000) = false := decide_eq_false (by omega)
          have p2 : (20000 : Int) < l.length := by omega
          have p3 : ¬ (l.length : Int) ≤ 20000 := by omega
          clear hcont
          by_cases p1 : (i : Int) < s.size
          all_goals
            go_wp2_with fail
            go_ret2
            exact ⟨_, _, rfl, .inl ⟨by decide, rfl⟩, HB.out⟩
        · have d2 : decide ((20000 : Int) < l.length) = false := decide_eq_false (by omega)
          have d1 : decide ((i : Int) < s.size) = false := decide_eq_false (by omega)
          have hl3 : l.length ≤ 20000 := by omega
          have p1 : ¬ (i : Int) < s.size := by omega
          have p2 : ¬ (20000 : Int) < l.length := by omega
          clear hcont hbig
          go_wp2_with fail
          go_ret2
          exact ⟨_, _, rfl, .inr ⟨rfl, hs, l, HG.out, hl3, HOW.out, HS.out.okc⟩, HB.out⟩
  · have hd0 : decide ((200000 : Int) < s.size) = true := decide_eq_true (by omega)
    clear hm
    go_enter Tryd.func5, Tryd.ntmps5
    go_wp2_with fail
    go_ret2
    exact ⟨_, _, rfl, .inl ⟨by decide, rfl⟩, Below.refl _ _⟩
end Go.Proofs.YtoalbfffojpnmaaDoor
