/- (*scanner).text, the walk. Conditions: the parser's cells; a string of at most 2^40 bytes. -/
import Derived.Test.YtejnoedlfbglcaaGreatDoorPsC
namespace Go.Proofs.YtejnoedlfbglcaaGreatDoor
open Go.RowKit Mh
set_option linter.unusedVariables false

set_option maxRecDepth 100000 in
set_option maxHeartbeats 16000000 in
theorem text_any (Q T : Nat) (s : ByteArray) (q : Ps) (w : World) (h : PsAt Q T s q w) (he : q.e = 0) (hi : q.i < s.size) (hs : s.size ≤ 1000000000) :
    Calls Tryz.prog 63 #[.pointer (some ⟨Q, 0, none⟩)] w fun en w' => en = .returned (.tuple #[]) ∧ ∃ q', PsAt Q T s q' w' ∧ Kept [Q] w w' ∧ Scan s q q' ((textF (s.data.toList.drop (q.i + 1))).map fun p => (.text p.1, p.2)) := by
  have hQ : Q < w.heap.size := (Array.getElem?_eq_some_iff.1 h).1
  obtain ⟨c0, c1, c2, c3, c4, c5, c6, c7, fz⟩ := h.cells
  have HE := Lib.hid he
  have H0 : Hid (TxIn Q T s q w (((w.alloc (.cells #[.int .i64 2, .int .i64 q.i, .string ⟨#[]⟩] 67)).alloc (.cells #[.int .i64 0] 3)).alloc (.cells #[.int .i64 0] 30)) [] (q.i + 1) 0 0 (.slice none 0 0)) := by
    have z1 : (w.alloc (.cells #[.int .i64 2, .int .i64 q.i, .string ⟨#[]⟩] 67)).heap.size = w.heap.size + 1 := by simp
    have z2 : ((w.alloc (.cells #[.int .i64 2, .int .i64 q.i, .string ⟨#[]⟩] 67)).alloc (.cells #[.int .i64 0] 3)).heap.size = w.heap.size + 2 := by simp
    refine ⟨by omega, World.ownsRow_nil _ _ _ _, by simp, ?_, ?_, ?_, heap_new_at z2, ?_, fun _ => (textJ_nil _).symm, fun e => absurd rfl e⟩
    · exact (heap_alloc_old _ _ (by omega)).trans ((heap_alloc_old _ _ (by omega)).trans ((heap_alloc_old _ _ hQ).trans h))
    · exact (heap_alloc_old _ _ (by omega)).trans ((heap_alloc_old _ _ (by omega)).trans (heap_alloc_new _ _))
    · exact (heap_alloc_old _ _ (by omega)).trans (heap_new_at z1)
    · exact (((Below.refl _ w).alloc (Nat.le_refl _) _).alloc (by omega) _).alloc (by omega) _
  have hmf : ∀ (fn : Fn) (first cap : Array Value) (w : World), (Instr.makeFunc fn first cap).run Tryz.prog w = .ok (.func fn first cap) w := fun _ _ _ _ => rfl
  obtain ⟨bi, hbi, hbz0, hbz1, hbz2⟩ := info_parts infoU8c
  clear h he
  go_enter Tryz.func63, Tryz.ntmps63
  obtain ⟨W0, hW0⟩ : ∃ W0, W0 = (((w.alloc (.cells #[.int .i64 2, .int .i64 q.i, .string ⟨#[]⟩] 67)).alloc (.cells #[.int .i64 0] 3)).alloc (.cells #[.int .i64 0] 30)) := ⟨_, rfl⟩
  rw [← hW0] at H0
  go_upto_region 4 with fail
  rw [← hW0]
  clear hW0 c0 c1 c2 c3 c4 c5 c6 c7 fz hmf
  obtain ⟨c0, c1, c2, c3, c4, c5, c6, c7, fz⟩ := H0.out.p.cells
  go_wp2_with fail
  clear c0 c1 c2 c3 c4 c5 c6 c7 fz
  go_loopw [3, 7] (fun v i wr => ∃ (L : List UInt8) (j : Nat) (ca ce : Int), i = .int .i64 (j : Int) ∧ Hid (TxIn Q T s q w wr L j ca ce v)) (fun _ i _ => s.size - (intOf i).toNat)
  case atStart => exact ⟨[], q.i + 1, 0, 0, by first | rfl | go_num, H0⟩
  case round =>
    clear H0
    obtain ⟨L, j, ca, ce, rfl, HI⟩ := hrel
    have hj := HI.out.le
    obtain ⟨c0, c1, c2, c3, c4, c5, c6, c7, fz⟩ := HI.out.p.cells
    have HFAIL : Hid (∀ a e, Calls Tryz.prog 46 #[.pointer (some ⟨Q, 0, none⟩), .int .i64 a, .int .i64 e] wr fun en w' => en = .returned (.tuple #[]) ∧ PsAt Q T s { q with at_ := a, e := e } w' ∧ Kept [Q] wr w') := fun a e => by
      have := fail_any Q T s q a e wr HI.out.p
      rwa [if_pos HE.out] at this
    have HNONE : Hid (textF (s.data.toList.drop j) = none → textF (s.data.toList.drop (q.i + 1)) = none) := fun hn => by
      by_cases h0 : ce = 0
      · rw [HI.out.ok h0, hn]; rfl
      · exact (HI.out.bad h0).1
    have HKEPT : Hid (∀ w', Kept [Q] wr w' → Kept [Q] w w') := fun w' hk => by
      have hb := HI.out.below
      exact (Kept.of_below (S := [Q]) hb).call hk (fun b hb => .inl hb)
    by_cases hlt : j < s.size
    · have hdj := drop_at hlt
      have HDJ := Lib.hid hdj
      clear hdj
      have HCTL := Lib.hid (fun w => isControl_any s[j] w)
      have HCc := Lib.hid (fun (c : UInt8) (w : World) => (Below.refl _ w).alloc (Nat.le_refl _) (.cells #[.int .u8 (c.toNat : Int)] 5))
      have HOc : Hid (∀ (c : UInt8) (w : World), (w.alloc (.cells #[.int .u8 (c.toNat : Int)] 5)).heap[w.heap.size]? = some (.cells #[.int .u8 (c.toNat : Int)] 5 (0, 0))) := fun c w => heap_alloc_new _ _
      have HZc : Hid (∀ (w2 : World) (x : Int), w2.heap[w.heap.size + 2]? = some (.cells #[.int .i64 x] 30 (0, 0)) → ∀ o, w.heap.size + 3 ≤ (w2.alloc o).heap.size) := fun w2 x h o => by
        have := (Array.getElem?_eq_some_iff.1 h).1
        simp; omega
      by_cases q34 : s[j].toNat = 34
      · have n34 : ((s[j].toNat : Int) != 34) = false := by rw [bne_eq_false_iff_eq]; omega
        have m4 : wr.cell? ⟨w.heap.size + 1, 0, none⟩ = some (.int .i64 ca) := cellT HI.out.b4 rfl
        have m5 : wr.cell? ⟨w.heap.size + 1 + 1, 0, none⟩ = some (.int .i64 ce) := cellT HI.out.b5 rfl
        by_cases h0 : ce = 0
        · subst h0
          have HOK : Hid (textF (s.data.toList.drop (q.i + 1)) = some (L, s.data.toList.drop (j + 1))) := by show _ = _; rw [HI.out.ok rfl, HDJ.out, textF_quote q34]; simp [textJ]
          have k0 : wr.cell? ⟨w.heap.size, 0, none⟩ = some (.int .i64 2) := cellT HI.out.tk rfl
          have k1 : wr.cell? ⟨w.heap.size, 1, none⟩ = some (.int .i64 q.i) := cellT HI.out.tk rfl
          have k2 : wr.cell? ⟨w.heap.size, 2, none⟩ = some (.string ⟨#[]⟩) := cellT HI.out.tk rfl
          have kf : ∀ x, wr.frozen? ⟨w.heap.size, x, none⟩ = false := fun x => frozenT HI.out.tk
          have hQne : Q ≠ w.heap.size := by omega
          have hcv := run_convert_own (P := Tryz.prog) (wr.setCell ⟨Q, 1, none⟩ (.int .i64 ((j : Int) + 1))) 63 5 Tryz.underlying63 Tryz.underlying5 (own_setLow (b := Q) (o := 1) (u := .int .i64 ((j : Int) + 1)) HI.out.own (by omega)) 9 Tryz.underlying9
          have HFIN : Hid (∀ W, W = ((((wr.setCell ⟨Q, 1, none⟩ (.int .i64 ((j : Int) + 1))).setCell ⟨w.heap.size, 2, none⟩ (.string ⟨L.toArray⟩)).setCell ⟨Q, 2, none⟩ (.int .i64 2)).setCell ⟨Q, 3, none⟩ (.int .i64 q.i)).setCell ⟨Q, 4, none⟩ (.string ⟨L.toArray⟩) → PsAt Q T s { q with i := j + 1, k := 2, ta := q.i, tx := ⟨L.toArray⟩ } W ∧ Kept [Q] w W) := fun W hW => by
            subst hW
            have p1 := HI.out.p.set1 (j + 1)
            have p2 : PsAt Q T s { q with i := j + 1 } ((wr.setCell ⟨Q, 1, none⟩ (.int .i64 ((j : Int) + 1))).setCell ⟨w.heap.size, 2, none⟩ (.string ⟨L.toArray⟩)) := (heap_setCell_other _ _ _ _ (by show Q ≠ w.heap.size; exact hQne)).trans p1
            exact ⟨p2.setT 2 q.i ⟨L.toArray⟩, (((((Kept.of_below (S := [Q]) HI.out.below).set Q 1 (by simp) _).setNew w.heap.size 2 (Nat.le_refl _) _).set Q 2 (by simp) _).set Q 3 (by simp) _).set Q 4 (by simp) _⟩
          clear HNONE HFAIL HKEPT q34 HI
          go_wp2_with fail
          go_end0
          obtain ⟨hp, hk⟩ := HFIN.out _ rfl
          exact ⟨rfl, _, hp, hk, by rw [HOK.out]; exact ⟨rfl, by show j + 1 ≤ _; omega, HE.out, rfl, rfl, rfl, ⟨by show (0 : Int) ≤ q.i; omega, by show (q.i : Int) ≤ s.size; omega⟩, rfl⟩⟩
        · have b0 : (ce != 0) = true := by rw [bne_iff_ne]; exact h0
          have HB := Lib.hid (HI.out.bad h0)
          have HC0 := Lib.hid h0
          clear HI q34 h0
          go_wp2_with (go_at_call 46; refine (HFAIL.out _ _).mono ?_; rintro e w2 ⟨rfl, hp, hk⟩)
          refine bodyPost_ret (results_none rfl _ _ _) rfl ?_
          exact ⟨rfl, _, hp, HKEPT.out _ hk, by rw [HB.out.1]; exact ⟨rfl, by show q.i ≤ _; omega, HC0.out, HB.out.2.1, HB.out.2.2⟩⟩
      have n34 : ((s[j].toNat : Int) != 34) = true := by rw [bne_iff_ne]; omega
      by_cases q10 : s[j].toNat = 10
      · have n10 : ((s[j].toNat : Int) != 10) = false := by rw [bne_eq_false_iff_eq]; omega
        have HN := Lib.hid (HNONE.out (by rw [HDJ.out]; exact textF_line q10))
        clear HI q10 q34
        go_wp2_with (go_at_call 46; refine (HFAIL.out _ _).mono ?_; rintro e w2 ⟨rfl, hp, hk⟩)
        refine bodyPost_ret (results_none rfl _ _ _) rfl ?_
        exact ⟨rfl, _, hp, HKEPT.out _ hk, by rw [HN.out]; exact ⟨rfl, by show q.i ≤ _; omega, by show (8 : Int) ≠ 0; decide, by show (0 : Int) ≤ q.i; omega, by show (q.i : Int) ≤ s.size; omega⟩⟩
      have n10 : ((s[j].toNat : Int) != 10) = true := by rw [bne_iff_ne]; omega
      cases hct : ctlB s[j] with
      | true =>
        rw [hct] at HCTL
        have HNO : Hid (textF (s.data.toList.drop j) = none) := by show _ = _; rw [HDJ.out]; exact textF_ctl hct
        clear hct q34 q10
        have HWR := Lib.hid (fun w2 a b c => HI.out.wrong (w2 := w2) (what := 9) hQ (by decide) (fun _ => HNO.out) a b c)
        have HNZ : Hid ((if ce = 0 then (9 : Int) else ce) ≠ 0) := by show _ ≠ _; split <;> omega
        have HW := Lib.hid (wrong_any (w.heap.size + 1) (w.heap.size + 2) (j : Int) 9 ca ce wr HI.out.b4 HI.out.b5 (by omega))
        clear HI HNONE HFAIL HKEPT
        go_wp2_with (first | (go_at_call 45; refine (HCTL.out _).mono ?_; rintro e w' ⟨rfl, rfl⟩) | (go_at_call 86; refine HW.out.mono ?_; rintro e w2 ⟨rfl, ha, hb, hk⟩; have H2 := Lib.hid (HWR.out _ ha hb hk); clear ha hb hk; obtain ⟨c0, c1, c2, c3, c4, c5, c6, c7, fz⟩ := H2.out.p.cells) | (at_builtin; refine wpList_append_chr rfl _ _ 63 rfl (w.heap.size + 3) 5 bi Tryz.underlying63 hbi hbz0 hbz1 hbz2 _ L rfl (own_below H2.out.own (HCc.out s[j] _)) _ s[j] rfl (HOc.out s[j] _) (by have := H2.out.len; have := H2.out.le; omega) (HZc.out _ _ H2.out.b5 _) ?_; intro v4 w4 hown4 hgr4 hat4; have H4 := Lib.hid (H2.out.next (j' := j + 1) hQ (HCc.out s[j] _) (by omega) (by omega) (fun e => absurd e HNZ.out) hown4 hgr4); clear hown4 hgr4 hat4))
        go_roundw
        case rel => exact ⟨_, j + 1, _, _, by first | rfl | go_num, H4⟩
        case measure => first | (simp [intOf]; omega) | go_num
      | false =>
        have HCT := Lib.hid hct
        rw [hct] at HCTL
        clear hct
        by_cases q92 : s[j].toNat = 92
        · have n92 : ((s[j].toNat : Int) == 92) = true := by rw [beq_iff_eq]; omega
          by_cases hl2 : j + 1 < s.size
          · have hl3 : (j : Int) + 1 < s.size := by omega
            have HD2 := Lib.hid (drop_at hl2)
            have HESC := Lib.hid (fun w => escK_any s[j + 1] w)
            cases heb : escB s[j + 1] with
            | none =>
              have HNO : Hid (textF (s.data.toList.drop j) = none) := by show _ = _; rw [HDJ.out, HD2.out]; exact textF_bad q92 heb
              have hk : escK s[j + 1] = -1 := escK_none heb
              rw [hk] at HESC
              clear hk heb q34 q10 q92
              have HWR := Lib.hid (fun w2 a b c => HI.out.wrong (w2 := w2) (what := 8) hQ (by decide) (fun _ => HNO.out) a b c)
              have HNZ : Hid ((if ce = 0 then (8 : Int) else ce) ≠ 0) := by show _ ≠ _; split <;> omega
              have HW := Lib.hid (wrong_any (w.heap.size + 1) (w.heap.size + 2) (j : Int) 8 ca ce wr HI.out.b4 HI.out.b5 (by omega))
              clear HI HNONE HFAIL HKEPT
              go_upto_region 14 with (first | (go_at_call 45; refine (HCTL.out _).mono ?_; rintro e w' ⟨rfl, rfl⟩) | (go_at_call 64; refine (HESC.out _).mono ?_; rintro e w3 ⟨rfl, rfl⟩))
              go_upto_region 15 with fail
              go_wp2_with (first | (go_at_call 45; refine (HCTL.out _).mono ?_; rintro e w' ⟨rfl, rfl⟩) | (go_at_call 86; refine HW.out.mono ?_; rintro e w2 ⟨rfl, ha, hb, hk⟩; have H2 := Lib.hid (HWR.out _ ha hb hk); clear ha hb hk; obtain ⟨c0, c1, c2, c3, c4, c5, c6, c7, fz⟩ := H2.out.p.cells) | (at_builtin; refine wpList_append_chr rfl _ _ 63 rfl (w.heap.size + 3) 5 bi Tryz.underlying63 hbi hbz0 hbz1 hbz2 _ L rfl (own_below H2.out.own (HCc.out s[j] _)) _ s[j] rfl (HOc.out s[j] _) (by have := H2.out.len; have := H2.out.le; omega) (HZc.out _ _ H2.out.b5 _) ?_; intro v4 w4 hown4 hgr4 hat4; have H4 := Lib.hid (H2.out.next (j' := j + 1) hQ (HCc.out s[j] _) (by omega) (by omega) (fun e => absurd e HNZ.out) hown4 hgr4); clear hown4 hgr4 hat4))
              go_roundw
              case rel => exact ⟨_, j + 1, _, _, by first | rfl | go_num, H4⟩
              case measure => first | (simp [intOf]; omega) | go_num
            | some e =>
              have HOK : Hid (textJ L (textF (s.data.toList.drop j)) = textJ (L ++ [e]) (textF (s.data.toList.drop (j + 2)))) := by show _ = _; rw [HDJ.out, HD2.out]; exact textJ_esc q92 heb
              have hx0 : ((⟨#[10, 9, 34, 92]⟩ : ByteArray)[0]'(by decide)).toNat = 10 := rfl
              have hx1 : ((⟨#[10, 9, 34, 92]⟩ : ByteArray)[1]'(by decide)).toNat = 9 := rfl
              have hx2 : ((⟨#[10, 9, 34, 92]⟩ : ByteArray)[2]'(by decide)).toNat = 34 := rfl
              have hx3 : ((⟨#[10, 9, 34, 92]⟩ : ByteArray)[3]'(by decide)).toNat = 92 := rfl
              have hke : (escK s[j + 1] = 0 ∧ e = 10) ∨ (escK s[j + 1] = 1 ∧ e = 9) ∨ (escK s[j + 1] = 2 ∧ e = 34) ∨ (escK s[j + 1] = 3 ∧ e = 92) := escK_some heb
              clear HNONE HFAIL HKEPT heb q34 q10 q92
              rcases hke with ⟨hk, rfl⟩ | ⟨hk, rfl⟩ | ⟨hk, rfl⟩ | ⟨hk, rfl⟩
              · rw [hk] at HESC
                clear hk
                go_upto_region 14 with (first | (go_at_call 45; refine (HCTL.out _).mono ?_; rintro e w' ⟨rfl, rfl⟩) | (go_at_call 64; refine (HESC.out _).mono ?_; rintro e w3 ⟨rfl, rfl⟩))
                go_upto_region 16 with fail
                go_wp2_with (first | (go_at_call 45; refine (HCTL.out _).mono ?_; rintro e w' ⟨rfl, rfl⟩) | (at_builtin; refine wpList_append_chr rfl _ _ 63 rfl (w.heap.size + 3) 5 bi Tryz.underlying63 hbi hbz0 hbz1 hbz2 _ L rfl (own_below HI.out.own (HCc.out 10 _)) _ 10 rfl (HOc.out 10 _) (by have := HI.out.len; have := HI.out.le; omega) (HZc.out _ _ HI.out.b5 _) ?_; intro v4 w4 hown4 hgr4 hat4; have H4 := Lib.hid (HI.out.next (j' := j + 2) hQ (HCc.out 10 _) (by omega) (by omega) (fun _ => HOK.out) hown4 hgr4); clear hown4 hgr4 hat4))
                go_roundw
                case rel => exact ⟨_, j + 2, _, _, by first | rfl | go_num, H4⟩
                case measure => first | (simp [intOf]; omega) | go_num
              · rw [hk] at HESC
                clear hk
                go_upto_region 14 with (first | (go_at_call 45; refine (HCTL.out _).mono ?_; rintro e w' ⟨rfl, rfl⟩) | (go_at_call 64; refine (HESC.out _).mono ?_; rintro e w3 ⟨rfl, rfl⟩))
                go_upto_region 16 with fail
                go_wp2_with (first | (go_at_call 45; refine (HCTL.out _).mono ?_; rintro e w' ⟨rfl, rfl⟩) | (at_builtin; refine wpList_append_chr rfl _ _ 63 rfl (w.heap.size + 3) 5 bi Tryz.underlying63 hbi hbz0 hbz1 hbz2 _ L rfl (own_below HI.out.own (HCc.out 9 _)) _ 9 rfl (HOc.out 9 _) (by have := HI.out.len; have := HI.out.le; omega) (HZc.out _ _ HI.out.b5 _) ?_; intro v4 w4 hown4 hgr4 hat4; have H4 := Lib.hid (HI.out.next (j' := j + 2) hQ (HCc.out 9 _) (by omega) (by omega) (fun _ => HOK.out) hown4 hgr4); clear hown4 hgr4 hat4))
                go_roundw
                case rel => exact ⟨_, j + 2, _, _, by first | rfl | go_num, H4⟩
                case measure => first | (simp [intOf]; omega) | go_num
              · rw [hk] at HESC
                clear hk
                go_upto_region 14 with (first | (go_at_call 45; refine (HCTL.out _).mono ?_; rintro e w' ⟨rfl, rfl⟩) | (go_at_call 64; refine (HESC.out _).mono ?_; rintro e w3 ⟨rfl, rfl⟩))
                go_upto_region 16 with fail
                go_wp2_with (first | (go_at_call 45; refine (HCTL.out _).mono ?_; rintro e w' ⟨rfl, rfl⟩) | (at_builtin; refine wpList_append_chr rfl _ _ 63 rfl (w.heap.size + 3) 5 bi Tryz.underlying63 hbi hbz0 hbz1 hbz2 _ L rfl (own_below HI.out.own (HCc.out 34 _)) _ 34 rfl (HOc.out 34 _) (by have := HI.out.len; have := HI.out.le; omega) (HZc.out _ _ HI.out.b5 _) ?_; intro v4 w4 hown4 hgr4 hat4; have H4 := Lib.hid (HI.out.next (j' := j + 2) hQ (HCc.out 34 _) (by omega) (by omega) (fun _ => HOK.out) hown4 hgr4); clear hown4 hgr4 hat4))
                go_roundw
                case rel => exact ⟨_, j + 2, _, _, by first | rfl | go_num, H4⟩
                case measure => first | (simp [intOf]; omega) | go_num
              · rw [hk] at HESC
                clear hk
                go_upto_region 14 with (first | (go_at_call 45; refine (HCTL.out _).mono ?_; rintro e w' ⟨rfl, rfl⟩) | (go_at_call 64; refine (HESC.out _).mono ?_; rintro e w3 ⟨rfl, rfl⟩))
                go_upto_region 16 with fail
                go_wp2_with (first | (go_at_call 45; refine (HCTL.out _).mono ?_; rintro e w' ⟨rfl, rfl⟩) | (at_builtin; refine wpList_append_chr rfl _ _ 63 rfl (w.heap.size + 3) 5 bi Tryz.underlying63 hbi hbz0 hbz1 hbz2 _ L rfl (own_below HI.out.own (HCc.out 92 _)) _ 92 rfl (HOc.out 92 _) (by have := HI.out.len; have := HI.out.le; omega) (HZc.out _ _ HI.out.b5 _) ?_; intro v4 w4 hown4 hgr4 hat4; have H4 := Lib.hid (HI.out.next (j' := j + 2) hQ (HCc.out 92 _) (by omega) (by omega) (fun _ => HOK.out) hown4 hgr4); clear hown4 hgr4 hat4))
                go_roundw
                case rel => exact ⟨_, j + 2, _, _, by first | rfl | go_num, H4⟩
                case measure => first | (simp [intOf]; omega) | go_num
          · have hl3 : ¬ (j : Int) + 1 < s.size := by omega
            have HNO : Hid (textF (s.data.toList.drop j) = none) := by show _ = _; rw [HDJ.out, drop_end (show s.size ≤ j + 1 by omega)]; exact textF_lone q92
            clear q34 q10 q92
            have HWR := Lib.hid (fun w2 a b c => HI.out.wrong (w2 := w2) (what := 8) hQ (by decide) (fun _ => HNO.out) a b c)
            have HNZ : Hid ((if ce = 0 then (8 : Int) else ce) ≠ 0) := by show _ ≠ _; split <;> omega
            have HW := Lib.hid (wrong_any (w.heap.size + 1) (w.heap.size + 2) (j : Int) 8 ca ce wr HI.out.b4 HI.out.b5 (by omega))
            clear HI HNONE HFAIL HKEPT
            go_wp2_with (first | (go_at_call 45; refine (HCTL.out _).mono ?_; rintro e w' ⟨rfl, rfl⟩) | (go_at_call 86; refine HW.out.mono ?_; rintro e w2 ⟨rfl, ha, hb, hk⟩; have H2 := Lib.hid (HWR.out _ ha hb hk); clear ha hb hk; obtain ⟨c0, c1, c2, c3, c4, c5, c6, c7, fz⟩ := H2.out.p.cells) | (at_builtin; refine wpList_append_chr rfl _ _ 63 rfl (w.heap.size + 3) 5 bi Tryz.underlying63 hbi hbz0 hbz1 hbz2 _ L rfl (own_below H2.out.own (HCc.out s[j] _)) _ s[j] rfl (HOc.out s[j] _) (by have := H2.out.len; have := H2.out.le; omega) (HZc.out _ _ H2.out.b5 _) ?_; intro v4 w4 hown4 hgr4 hat4; have H4 := Lib.hid (H2.out.next (j' := j + 1) hQ (HCc.out s[j] _) (by omega) (by omega) (fun e => absurd e HNZ.out) hown4 hgr4); clear hown4 hgr4 hat4))
            go_roundw
            case rel => exact ⟨_, j + 1, _, _, by first | rfl | go_num, H4⟩
            case measure => first | (simp [intOf]; omega) | go_num
        · have n92 : ((s[j].toNat : Int) == 92) = false := by rw [beq_eq_false_iff_ne]; omega
          have HOK : Hid (textJ L (textF (s.data.toList.drop j)) = textJ (L ++ [s[j]]) (textF (s.data.toList.drop (j + 1)))) := by show _ = _; rw [HDJ.out]; exact textJ_byte q34 q10 HCT.out q92
          clear HNONE HFAIL HKEPT q34 q10 q92
          go_wp2_with (first | (go_at_call 45; refine (HCTL.out _).mono ?_; rintro e w' ⟨rfl, rfl⟩) | (at_builtin; refine wpList_append_chr rfl _ _ 63 rfl (w.heap.size + 3) 5 bi Tryz.underlying63 hbi hbz0 hbz1 hbz2 _ L rfl (own_below HI.out.own (HCc.out s[j] _)) _ s[j] rfl (HOc.out s[j] _) (by have := HI.out.len; have := HI.out.le; omega) (HZc.out _ _ HI.out.b5 _) ?_; intro v4 w4 hown4 hgr4 hat4; have H4 := Lib.hid (HI.out.next (j' := j + 1) hQ (HCc.out s[j] _) (by omega) (by omega) (fun _ => HOK.out) hown4 hgr4); clear hown4 hgr4 hat4))
          go_roundw
          case rel => exact ⟨_, j + 1, _, _, by first | rfl | go_num, H4⟩
          case measure => first | (simp [intOf]; omega) | go_num
    · obtain rfl : j = s.size := by omega
      have HN := Lib.hid (HNONE.out (by rw [drop_end (Nat.le_refl _)]; rfl))
      clear HI
      go_wp2_with (go_at_call 46; refine (HFAIL.out _ _).mono ?_; rintro e w2 ⟨rfl, hp, hk⟩)
      refine bodyPost_ret (results_none rfl _ _ _) rfl ?_
      exact ⟨rfl, _, hp, HKEPT.out _ hk, by rw [HN.out]; exact ⟨rfl, by show q.i ≤ _; omega, by show (8 : Int) ≠ 0; decide, by show (0 : Int) ≤ q.i; omega, by show (q.i : Int) ≤ s.size; omega⟩⟩
end Go.Proofs.YtejnoedlfbglcaaGreatDoor
