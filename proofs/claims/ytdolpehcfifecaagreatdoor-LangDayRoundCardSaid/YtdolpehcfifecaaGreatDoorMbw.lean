/- lang.CheckLanguage: returns 0 if and only if the language is right. Conditions: the library's variables hold what they hold at the start. -/
import Derived.Test.YtdolpehcfifecaaGreatDoorMbs
import Derived.Test.YtdolpehcfifecaaGreatDoorMbu
import Derived.Test.YtdolpehcfifecaaGreatDoorMbv
namespace Mh
open Go Go.RowKit
set_option linter.unusedVariables false
/-- A language. -/
structure Lg where
  nm : ByteArray
  pr : ByteArray
  ru : List T
  gp : ByteArray
  pt : ByteArray
  ms : List ByteArray
  ds : List ByteArray
  lt : List ByteArray
  es : List En
def okLg (L : Lg) : Prop := (nameB L.nm = true ∧ (L.pr.size = 0 ∨ nameB L.pr = true) ∧ L.pr ≠ L.nm) ∧ Go.Proofs.YtdolpehcfifecaaGreatDoor.okW L.ru ∧ (L.gp.size ≤ 8 ∧ L.pt.size ≤ 8) ∧ ((L.ms.length = 0 ∨ L.ms.length = 12) ∧ (L.ds.length = 0 ∨ L.ds.length = 7)) ∧ okNm L.gp L.pt [L.ms, L.ds] ∧ okL L.lt ∧ okS L.es
end Mh
namespace Go.Proofs.YtdolpehcfifecaaGreatDoor
open Go.RowKit Mh
set_option linter.unusedVariables false
/-- The nine cells of a language. -/
structure LgAt (w : World) (L : Lg) (fv mv dv lv ev : Value) : Prop where
  nm : L.nm.size ≤ maxLen
  pr : L.pr.size ≤ maxLen
  gp : L.gp.size ≤ maxLen
  pt : L.pt.size ≤ maxLen
  ru : RuAt w L.ru fv
  ms : Ss w mv L.ms
  ds : Ss w dv L.ds
  lt : Ss w lv L.lt
  es : EsAt w ev L.es
theorem LgAt.keep {w w' : World} {L : Lg} {fv mv dv lv ev : Value} (h : LgAt w L fv mv dv lv ev) (hb : Below w.heap.size w w') : LgAt w' L fv mv dv lv ev :=
  ⟨h.nm, h.pr, h.gp, h.pt, h.ru.below hb, h.ms.below hb, h.ds.below hb, h.lt.below hb, h.es.keep hb⟩
theorem nine_of {w : World} {g : Nat} {T : TypeId} {a b c d e f g' h i : Value} (H : w.heap[g]? = some (.cells #[a, b, c, d, e, f, g', h, i] T (0, 0))) :
    w.cell? ⟨g, 0, none⟩ = some a ∧ w.cell? ⟨g, 1, none⟩ = some b ∧ w.cell? ⟨g, 2, none⟩ = some c ∧ w.cell? ⟨g, 3, none⟩ = some d ∧ w.cell? ⟨g, 4, none⟩ = some e ∧ w.cell? ⟨g, 5, none⟩ = some f ∧ w.cell? ⟨g, 6, none⟩ = some g' ∧ w.cell? ⟨g, 7, none⟩ = some h ∧ w.cell? ⟨g, 8, none⟩ = some i :=
  ⟨cellT H rfl, cellT H rfl, cellT H rfl, cellT H rfl, cellT H rfl, cellT H rfl, cellT H rfl, cellT H rfl, cellT H rfl⟩
theorem nine_later {W0 wx : World} {g : Nat} {T : TypeId} {a b c d e f g' h i : Value} (hb : Below W0.heap.size W0 wx) (hg : g < W0.heap.size) (H : W0.heap[g]? = some (.cells #[a, b, c, d, e, f, g', h, i] T (0, 0))) :
    wx.cell? ⟨g, 0, none⟩ = some a ∧ wx.cell? ⟨g, 1, none⟩ = some b ∧ wx.cell? ⟨g, 2, none⟩ = some c ∧ wx.cell? ⟨g, 3, none⟩ = some d ∧ wx.cell? ⟨g, 4, none⟩ = some e ∧ wx.cell? ⟨g, 5, none⟩ = some f ∧ wx.cell? ⟨g, 6, none⟩ = some g' ∧ wx.cell? ⟨g, 7, none⟩ = some h ∧ wx.cell? ⟨g, 8, none⟩ = some i :=
  nine_of ((hb.block g hg).trans H)
theorem sl_form {k n : Nat} {w : World} {v : Value} {xs : List Value} (h : Sl k w v n xs) : ∃ a c, v = .slice a n c ∧ n ≤ maxLen := by
  obtain ⟨a, c, e, h, _⟩ := Sl.shp h
  exact ⟨a, c, e, h⟩
theorem len_ne (n k : Nat) : ((n : Int) != (k : Int)) = !decide (n = k) := by
  by_cases h : n = k
  · rw [decide_eq_true h, h]; simp
  · rw [decide_eq_false h]
    show _ = true
    rw [bne_iff_ne]; omega
theorem len_good {n k : Nat} {M K : Int} (hk : K = (k : Int)) (e : M = n) (h : n = 0 ∨ n = k) : (M != 0) = false ∨ (M != 0) = true ∧ (M != K) = false := by
  by_cases h0 : n = 0
  · left; rw [bne_eq_false_iff_eq]; omega
  · right; rw [bne_eq_false_iff_eq, bne_iff_ne]; omega
theorem len_bad {n k : Nat} {M K : Int} (hk : K = (k : Int)) (e : M = n) (h : ¬ (n = 0 ∨ n = k)) : (M != 0) = true ∧ (M != K) = true := by
  rw [bne_iff_ne, bne_iff_ne]; omega
set_option maxRecDepth 100000 in
set_option maxHeartbeats 8000000 in
theorem gcheckLang_any (L : Lg) (fv mv dv lv ev : Value) (w : World) (hml : ML 0 w) (hev : EvAt w) (h : LgAt w L fv mv dv lv ev) :
    Calls Tryz.prog 8 #[.agg #[.string L.nm, .string L.pr, fv, .string L.gp, .string L.pt, mv, dv, lv, ev]] w (NF (okLg L) w) := by
  have hmz : 0 < w.heap.size := by obtain ⟨m, hm⟩ := hml; exact World.block_lt_of_cell? w _ hm
  have hes := hev.size
  obtain ⟨fa, fc, rfl⟩ : ∃ a c, fv = .slice a L.ru.length c := by
    obtain ⟨rows, hS, _⟩ := h.ru
    obtain ⟨a, c, e, _⟩ := Sl.shp hS
    exact ⟨a, c, e⟩
  obtain ⟨ma, mc, rfl, hml9⟩ := sl_form h.ms.1
  obtain ⟨da, dc, rfl, hdl9⟩ := sl_form h.ds.1
  obtain ⟨la, lc, rfl, _⟩ := sl_form h.lt.1
  obtain ⟨ea, ec, rfl, _⟩ := sl_form h.es.1
  unfold maxLen at hml9 hdl9
  have hgp := h.gp
  have hpt := h.pt
  have hnm := h.nm
  have hpr := h.pr
  have HGP : Hid (L.gp.size ≤ maxLen ∧ L.pt.size ≤ maxLen) := ⟨hgp, hpt⟩
  obtain ⟨W0, hW0⟩ : ∃ W0, W0 = w.alloc (.cells #[.string L.nm, .string L.pr, .slice fa L.ru.length fc, .string L.gp, .string L.pt, .slice ma L.ms.length mc, .slice da L.ds.length dc, .slice la L.lt.length lc, .slice ea L.es.length ec] 28) := ⟨_, rfl⟩
  have HW0 : Hid (W0.heap[w.heap.size]? = some (.cells #[.string L.nm, .string L.pr, .slice fa L.ru.length fc, .string L.gp, .string L.pt, .slice ma L.ms.length mc, .slice da L.ds.length dc, .slice la L.lt.length lc, .slice ea L.es.length ec] 28 (0, 0))) := by rw [hW0]; exact heap_alloc_new _ _
  have HB0 : Hid (Below w.heap.size w W0) := by rw [hW0]; exact below_alloc' _ _
  have hwl : w.heap.size < W0.heap.size := by rw [hW0]; simp
  have HX : Hid (∀ w', Below W0.heap.size W0 w' → Below w.heap.size w w') := fun w' hb => HB0.out.trans (hb.mono HB0.out.size)
  have HNAME := Lib.hid (fun (s : ByteArray) (hs : s.size ≤ maxLen) w' => gisName_any s w' hs)
  have HRU : Hid (∀ w' (hb : Below W0.heap.size W0 w'), Calls Tryz.prog 17 #[.agg #[.slice fa L.ru.length fc]] w' (NF (okW L.ru) w')) := fun w' hb => (rfaultw_any L.ru (.slice fa L.ru.length fc) w' (h.ru.below (HX.out w' hb))).mono (fun e w2 hh => hh)
  have HNM := Lib.hid (fun w' hb => gnamesFault_any (.string L.nm) (.string L.pr) (.slice fa L.ru.length fc) (.slice la L.lt.length lc) (.slice ea L.es.length ec) (.slice ma L.ms.length mc) (.slice da L.ds.length dc) L.gp L.pt L.ms L.ds w' hgp hpt (h.ms.below (HX.out w' hb)) (h.ds.below (HX.out w' hb)) (by intro v hv; simp at hv; rcases hv with rfl | rfl | rfl | rfl | rfl <;> rfl))
  have HLT := Lib.hid (fun w' hb => glettersFault_any L.lt (.slice la L.lt.length lc) w' (h.lt.below (HX.out w' hb)))
  have HST := Lib.hid (fun w' hb => gstringsFault_any (.slice ea L.es.length ec) L.es w' (hml.below (HX.out w' hb) hmz) (hev.keep (HX.out w' hb) hes) (h.es.keep (HX.out w' hb)))
  have HOK : Hid (okLg L ↔ (nameB L.nm = true ∧ (L.pr.size = 0 ∨ nameB L.pr = true) ∧ L.pr ≠ L.nm) ∧ okW L.ru ∧ (L.gp.size ≤ 8 ∧ L.pt.size ≤ 8) ∧ ((L.ms.length = 0 ∨ L.ms.length = 12) ∧ (L.ds.length = 0 ∨ L.ds.length = 7)) ∧ okNm L.gp L.pt [L.ms, L.ds] ∧ okL L.lt ∧ okS L.es) := Iff.rfl
  clear h hml hev hmz hes
  generalize okW L.ru = PR at HRU HOK
  generalize okNm L.gp L.pt [L.ms, L.ds] = PN at HNM HOK
  generalize okL L.lt = PL at HLT HOK
  generalize okS L.es = PS at HST HOK
  generalize okLg L = G at HOK ⊢
  obtain ⟨nm, pr, ru, gp, pt, ms, ds, lt, es⟩ := L
  simp only at *
  generalize ms.length = m at *
  generalize ds.length = d at *
  generalize lt.length = l9 at *
  generalize es.length = e9 at *
  generalize ru.length = r9 at *
  obtain ⟨F, hF⟩ : ∃ F : ByteArray → Bool, F = nameB := ⟨_, rfl⟩
  rw [← hF] at HNAME HOK
  have HF0 : Hid (∀ s, F s = true → 1 ≤ s.size) := by
    intro s hs
    rw [hF] at hs
    unfold nameB at hs
    simp only [Bool.and_eq_true, decide_eq_true_eq] at hs
    exact hs.2.1
  clear hF
  go_enter Tryz.func8, Tryz.ntmps8
  go_upto_region 1 with fail
  go_cut [29] from 3 to 79 (fun s wx => ∃ b : Bool, s = .bool b ∧ Hid (Below W0.heap.size W0 wx) ∧ Hid (b = true → ¬ G) ∧ Hid (b = false → F nm = true ∧ (pr.size = 0 ∨ F pr = true) ∧ pr ≠ nm))
  case first =>
    have HBR := Below.refl W0.heap.size W0
    rw [hW0] at HBR
    have HBR := Lib.hid HBR
    cases hn : F nm with
    | false =>
      have HN : Hid (¬ G) := fun h => by have := (HOK.out.1 h).1.1; rw [hn] at this; cases this
      go_wp2_with (go_at_call 16; refine (HNAME.out _ (by assumption) _).mono ?_; rintro e w' ⟨rfl, rfl⟩)
      go_meet
      exact ⟨true, rfl, by rw [hW0]; exact HBR.out, fun _ => HN.out, fun h => (by cases h)⟩
    | true =>
      have hn1 := HF0.out nm hn
      by_cases h0 : pr.size = 0
      · have hne : pr ≠ nm := fun e => by rw [e] at h0; omega
        have q1 : (pr.toList == nm.toList) = false := mstr_ne hne
        have HFI : Hid (F nm = true ∧ (pr.size = 0 ∨ F pr = true) ∧ pr ≠ nm) := ⟨hn, .inl h0, hne⟩
        have q3 : pr.toList.isEmpty = true := by rw [empty_of_size h0, ByteArray.toList_eq]; rfl
        go_wp2_with (go_at_call 16; refine (HNAME.out _ (by assumption) _).mono ?_; rintro e w' ⟨rfl, rfl⟩)
        go_meet
        exact ⟨false, rfl, by rw [hW0]; exact HBR.out, fun h => (by cases h), fun _ => HFI.out⟩
      · have q3 : pr.toList.isEmpty = false := mempty_ne h0
        cases hp : F pr with
        | false =>
          have HN : Hid (¬ G) := fun h => by rcases (HOK.out.1 h).1.2.1 with h2 | h2; exact h0 h2; rw [hp] at h2; cases h2
          go_wp2_with (go_at_call 16; refine (HNAME.out _ (by assumption) _).mono ?_; rintro e w' ⟨rfl, rfl⟩)
          go_meet
          exact ⟨true, rfl, by rw [hW0]; exact HBR.out, fun _ => HN.out, fun h => (by cases h)⟩
        | true =>
          by_cases he : pr = nm
          · have HN : Hid (¬ G) := fun h => (HOK.out.1 h).1.2.2 he
            have q1 : (pr.toList == nm.toList) = true := by rw [he]; simp
            clear he
            go_wp2_with (go_at_call 16; refine (HNAME.out _ (by assumption) _).mono ?_; rintro e w' ⟨rfl, rfl⟩)
            go_meet
            exact ⟨true, rfl, by rw [hW0]; exact HBR.out, fun _ => HN.out, fun h => (by cases h)⟩
          · have q1 : (pr.toList == nm.toList) = false := mstr_ne he
            have HFI : Hid (F nm = true ∧ (pr.size = 0 ∨ F pr = true) ∧ pr ≠ nm) := ⟨hn, .inr hp, he⟩
            go_wp2_with (go_at_call 16; refine (HNAME.out _ (by assumption) _).mono ?_; rintro e w' ⟨rfl, rfl⟩)
            go_meet
            exact ⟨false, rfl, by rw [hW0]; exact HBR.out, fun h => (by cases h), fun _ => HFI.out⟩
  case rest =>
    obtain ⟨b, rfl, HB, HT, HF⟩ := hcut
    cases b with
    | true =>
      go_wp2_with fail
      go_ret
      exact NF.no (by decide) (HT.out trivial) (HX.out _ HB.out)
    | false =>
      have HP1 := Lib.hid (HF.out rfl)
      clear HT HF
      obtain ⟨y0, y1, y2, y3, y4, y5, y6, y7, y8⟩ := nine_later HB.out hwl HW0.out
      have HC := Lib.hid (HRU.out _ HB.out)
      clear HRU
      go_upto_region 4 with (go_at_call 17; refine HC.out.mono ?_; rintro e w2 ⟨n1, rfl, hn1, hb2⟩; have HN1 := Lib.hid hn1; have HB2 : Hid (Below W0.heap.size W0 w2) := HB.out.trans (hb2.mono HB.out.size); clear hb2 hn1)
      clear y0 y1 y2 y3 y4 y5 y6 y7 y8 HC HB
      by_cases hz : n1 = 0
      case neg =>
        have q1 : (n1 != 0) = true := by rw [bne_iff_ne]; exact hz
        have HN : Hid (¬ G) := fun h => hz (HN1.out.2 (HOK.out.1 h).2.1)
        go_wp2_with fail
        go_ret
        exact NF.no hz HN.out (HX.out _ HB2.out)
      case pos =>
        subst hz
        have HP2 := Lib.hid (HN1.out.1 rfl)
        clear HN1
        obtain ⟨y0, y1, y2, y3, y4, y5, y6, y7, y8⟩ := nine_later HB2.out hwl HW0.out
        have hgm := HGP.out
        unfold maxLen at hgm
        by_cases hg8 : 8 < gp.size
        · have q1 : decide (8 < gp.size) = true := decide_eq_true hg8
          have q2 : decide ((8 : Int) < (gp.size : Int)) = true := decide_eq_true (by omega)
          have HN : Hid (¬ G) := fun h => by have := (HOK.out.1 h).2.2.1.1; omega
          go_wp2_with fail
          go_ret
          exact NF.no (by decide) HN.out (HX.out _ HB2.out)
        by_cases hp8 : 8 < pt.size
        · have q1 : decide (8 < pt.size) = true := decide_eq_true hp8
          have q2 : decide ((8 : Int) < (pt.size : Int)) = true := decide_eq_true (by omega)
          have q3 : decide (8 < gp.size) = false := decide_eq_false hg8
          have q4 : decide ((8 : Int) < (gp.size : Int)) = false := decide_eq_false (by omega)
          have HN : Hid (¬ G) := fun h => by have := (HOK.out.1 h).2.2.1.2; omega
          go_wp2_with fail
          go_ret
          exact NF.no (by decide) HN.out (HX.out _ HB2.out)
        have HP3 : Hid (gp.size ≤ 8 ∧ pt.size ≤ 8) := ⟨by omega, by omega⟩
        have q1 : decide (8 < pt.size) = false := decide_eq_false hp8
        have q2 : decide ((8 : Int) < (pt.size : Int)) = false := decide_eq_false (by omega)
        have q3 : decide (8 < gp.size) = false := decide_eq_false hg8
        have q4 : decide ((8 : Int) < (gp.size : Int)) = false := decide_eq_false (by omega)
        go_upto_region 8 with fail
        clear hgm hg8 hp8 q1 q2 q3 q4
        go_cut [4, 5] from 4 to 79 (fun s4 s5 wx => ∃ M D : Int, s4 = .int .i64 M ∧ s5 = .int .i64 D ∧ Hid (M = m ∧ D = d) ∧ Hid (Below W0.heap.size W0 wx))
        case first =>
          go_quiet (fail)
          go_wp2_with fail
          go_meet
          exact ⟨m, d, rfl, rfl, ⟨rfl, rfl⟩, mbelow_drewN2 HB2.out _⟩
        case rest =>
        obtain ⟨M, D, rfl, rfl, HMD, HB3⟩ := hcut
        clear HB2 y0 y1 y2 y3 y4 y5 y6 y7 y8
        rename_i hk; refine hk _ _ ?_; clear hk; go_step
        go_cut [65] from 4 to 79 (fun s wx => ∃ b : Bool, s = .bool b ∧ Hid (Below W0.heap.size W0 wx) ∧ Hid (b = true → ¬ G) ∧ Hid (b = false → (m = 0 ∨ m = 12) ∧ (d = 0 ∨ d = 7)))
        case first =>
          have HM : Hid (G → (m = 0 ∨ m = 12) ∧ (d = 0 ∨ d = 7)) := fun h => (HOK.out.1 h).2.2.2.1
          by_cases ha : m = 0 ∨ m = 12
          · by_cases hb : d = 0 ∨ d = 7
            · have HGD : Hid ((m = 0 ∨ m = 12) ∧ (d = 0 ∨ d = 7)) := ⟨ha, hb⟩
              have wa := len_good (k := 12) (K := 12) rfl HMD.out.1 ha
              have wb := len_good (k := 7) (K := 7) rfl HMD.out.2 hb
              clear ha hb HM
              rcases wa with wa | ⟨wa, wa2⟩ <;> rcases wb with wb | ⟨wb, wb2⟩
              all_goals
                go_wp2_with fail
                go_meet
                exact ⟨false, by first | rfl | exact congrArg Value.bool wb2, HB3, fun h => (by cases h), fun _ => HGD.out⟩
            · have HN : Hid (¬ G) := fun h => hb (HM.out h).2
              have wa := len_good (k := 12) (K := 12) rfl HMD.out.1 ha
              have wb := len_bad (k := 7) (K := 7) rfl HMD.out.2 hb
              obtain ⟨wb, wb2⟩ := wb
              clear ha hb HM
              rcases wa with wa | ⟨wa, wa2⟩
              all_goals
                go_wp2_with fail
                go_meet
                exact ⟨true, by first | rfl | exact congrArg Value.bool wb2, HB3, fun _ => HN.out, fun h => (by cases h)⟩
          · have HN : Hid (¬ G) := fun h => ha (HM.out h).1
            obtain ⟨wa, wa2⟩ := len_bad (k := 12) (K := 12) rfl HMD.out.1 ha
            clear ha HM
            go_wp2_with fail
            go_meet
            exact ⟨true, rfl, HB3, fun _ => HN.out, fun h => (by cases h)⟩
        case rest =>
          obtain ⟨b, rfl, HB, HT, HF⟩ := hcut
          clear HB3 HMD
          cases b with
          | true =>
            go_wp2_with fail
            go_ret
            exact NF.no (by decide) (HT.out trivial) (HX.out _ HB.out)
          | false =>
            have HP4 := Lib.hid (HF.out rfl)
            clear HT HF
            obtain ⟨y0, y1, y2, y3, y4, y5, y6, y7, y8⟩ := nine_later HB.out hwl HW0.out
            have HC := Lib.hid (HNM.out _ HB.out)
            clear HNM
            go_upto_region 12 with (go_at_call 18; refine HC.out.mono ?_; rintro e w2 ⟨n1, rfl, hn1, hb2⟩; have HN1 := Lib.hid hn1; have HB2 : Hid (Below W0.heap.size W0 w2) := HB.out.trans (hb2.mono HB.out.size); clear hb2 hn1)
            clear y0 y1 y2 y3 y4 y5 y6 y7 y8 HC HB
            by_cases hz : n1 = 0
            case neg =>
              have q1 : (n1 != 0) = true := by rw [bne_iff_ne]; exact hz
              have HN : Hid (¬ G) := fun h => hz (HN1.out.2 (HOK.out.1 h).2.2.2.2.1)
              go_wp2_with fail
              go_ret
              exact NF.no hz HN.out (HX.out _ HB2.out)
            case pos =>
              subst hz
              have HP5 := Lib.hid (HN1.out.1 rfl)
              clear HN1
              obtain ⟨y0, y1, y2, y3, y4, y5, y6, y7, y8⟩ := nine_later HB2.out hwl HW0.out
              have HC := Lib.hid (HLT.out _ HB2.out)
              clear HLT
              go_upto_region 15 with (go_at_call 19; refine HC.out.mono ?_; rintro e w3 ⟨n1, rfl, hn1, hb3⟩; have HN1 := Lib.hid hn1; have HB3 : Hid (Below W0.heap.size W0 w3) := HB2.out.trans (hb3.mono HB2.out.size); clear hb3 hn1)
              clear y0 y1 y2 y3 y4 y5 y6 y7 y8 HC HB2
              by_cases hz : n1 = 0
              case neg =>
                have q1 : (n1 != 0) = true := by rw [bne_iff_ne]; exact hz
                have HN : Hid (¬ G) := fun h => hz (HN1.out.2 (HOK.out.1 h).2.2.2.2.2.1)
                go_wp2_with fail
                go_ret
                exact NF.no hz HN.out (HX.out _ HB3.out)
              case pos =>
                subst hz
                have HP6 := Lib.hid (HN1.out.1 rfl)
                clear HN1
                obtain ⟨y0, y1, y2, y3, y4, y5, y6, y7, y8⟩ := nine_later HB3.out hwl HW0.out
                have HC := Lib.hid (HST.out _ HB3.out)
                have HEND : Hid (∀ n1 : Int, (n1 = 0 ↔ PS) → (n1 = 0 ↔ G)) := fun n1 h => by
                  rw [h, HOK.out]
                  exact ⟨fun hs => ⟨HP1.out, HP2.out, HP3.out, HP4.out, HP5.out, HP6.out, hs⟩, fun h => h.2.2.2.2.2.2⟩
                clear HST
                go_wp2_with (go_at_call 20; refine HC.out.mono ?_; rintro e w4 ⟨n1, rfl, hn1, hb4⟩; have HN1 := Lib.hid (HEND.out n1 hn1); have HB4 : Hid (Below W0.heap.size W0 w4) := HB3.out.trans (hb4.mono HB3.out.size); clear hb4 hn1)
                go_ret
                exact ⟨n1, rfl, HN1.out, HX.out _ HB4.out⟩
end Go.Proofs.YtdolpehcfifecaaGreatDoor
