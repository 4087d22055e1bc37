/- LangOrders: the walk. Conditions: the library's variables hold what they hold at the start. -/
import Derived.Test.YtdolpehcfifecaaDoorMbx
namespace Go.Proofs.YtdolpehcfifecaaDoor
open Go.RowKit Mh
set_option linter.unusedVariables false
theorem cmpI_bd (a b : List Int) : -1 ≤ cmpI a b ∧ cmpI a b ≤ 1 := by
  induction a generalizing b with
  | nil => cases b <;> simp [cmpI, lexL]
  | cons x a ih =>
    cases b with
    | nil => simp [cmpI, lexL]
    | cons y b =>
      have := ih b
      unfold cmpI at this ⊢
      simp only [lexL]
      unfold lex
      split
      · exact this
      · rcases sgn_cases x y with ⟨h, e⟩ | ⟨h, e⟩ | ⟨h, e⟩ <;> rw [e] <;> omega
theorem mneg_any (x : Int) (h : -1 ≤ x ∧ x ≤ 1) : IntKind.i64.wrap (-x) = -x := IntWalk.i64_in _ (by omega)
set_option maxRecDepth 100000 in
set_option maxHeartbeats 8000000 in
theorem langOrders_walk (L : Lg) (fv mv dv lv ev : Value) (a b c : ByteArray) (w : World) (hal : a.size ≤ maxLen) (hbl : b.size ≤ maxLen) (hcl : c.size ≤ maxLen) (hml : ML 0 w) (hev : EvAt w) (h : LgAt w L fv mv dv lv ev) :
    Calls Tryd.prog 3 #[.agg #[.string L.nm, .string L.pr, fv, .string L.gp, .string L.pt, mv, dv, lv, ev], .string a, .string b, .string c] w fun e w' => e = .returned (.bool true) ∧ Below w.heap.size w w' := by
  have hmz : 0 < w.heap.size := by obtain ⟨m, hm⟩ := hml; exact World.block_lt_of_cell? w _ hm
  have hes := hev.size
  obtain ⟨fa, fc, rfl⟩ : ∃ a c, fv = .slice a L.ru.length c := by
    obtain ⟨rows, hS, _⟩ := h.ru
    obtain ⟨a, c, e, _⟩ := Sl.shp hS
    exact ⟨a, c, e⟩
  obtain ⟨ma, mc, rfl, _⟩ := sl_form h.ms.1
  obtain ⟨da, dc, rfl, _⟩ := sl_form h.ds.1
  obtain ⟨la, lc, rfl, _⟩ := sl_form h.lt.1
  obtain ⟨ea, ec, rfl, _⟩ := sl_form h.es.1
  obtain ⟨W0, hW0⟩ : ∃ W0, W0 = w.alloc (.cells #[.string L.nm, .string L.pr, .slice fa L.ru.length fc, .string L.gp, .string L.pt, .slice ma L.ms.length mc, .slice da L.ds.length dc, .slice la L.lt.length lc, .slice ea L.es.length ec] 28) := ⟨_, rfl⟩
  have HW0 : Hid (W0.heap[w.heap.size]? = some (.cells #[.string L.nm, .string L.pr, .slice fa L.ru.length fc, .string L.gp, .string L.pt, .slice ma L.ms.length mc, .slice da L.ds.length dc, .slice la L.lt.length lc, .slice ea L.es.length ec] 28 (0, 0))) := by rw [hW0]; exact heap_alloc_new _ _
  have HB0 : Hid (Below w.heap.size w W0) := by rw [hW0]; exact below_alloc' _ _
  have hwl : w.heap.size < W0.heap.size := by rw [hW0]; simp
  have HX : Hid (∀ w', Below W0.heap.size W0 w' → Below w.heap.size w w') := fun w' hb => HB0.out.trans (hb.mono HB0.out.size)
  have HAW := gawake_any W0 (hev.keep HB0.out hes)
  rw [hW0] at HAW
  have HAW := Lib.hid HAW
  have HC : Hid (∀ (s t : ByteArray) (hs : s.size ≤ maxLen) (ht : t.size ≤ maxLen) w' (hb : Below W0.heap.size W0 w'), Calls Tryd.prog 6 #[.agg #[.string L.nm, .string L.pr, .slice fa L.ru.length fc, .string L.gp, .string L.pt, .slice ma L.ms.length mc, .slice da L.ds.length dc, .slice la L.lt.length lc, .slice ea L.es.length ec], .string s, .string t] w' fun e w2 => ColP L s t w' e w2) :=
    fun s t hs ht w' hb => gcollate_any L _ _ _ _ _ s t w' hs ht (hml.below (HX.out w' hb) hmz) (hev.keep (HX.out w' hb) hes) (h.keep (HX.out w' hb))
  obtain ⟨U, hU⟩ : ∃ U : ByteArray → List Int, U = fun s => unitsF L.lt s.size s := ⟨_, rfl⟩
  have HU : Hid (∀ s, unitsF L.lt s.size s = U s) := fun s => by rw [hU]
  have HIN : Hid (okLg L → a = b ↔ (okLg L → a = b)) := Iff.rfl
  have HINJ : Hid (okLg L → U a = U b → a = b) := fun hok he => by
    have hl := hok.2.2.2.2.2.1
    rw [hU] at he
    exact units_inj L.lt hl.1 (fun t ht => (hl.2.1 t ht).1) a b a.size b.size (Nat.le_refl _) (Nat.le_refl _) he
  clear h hml hev hmz hes hU HIN
  unfold ColP at HC
  simp only [HU.out] at HC
  obtain ⟨G, hG⟩ : ∃ G : Prop, G = okLg L := ⟨_, rfl⟩
  rw [← hG] at HC HINJ
  obtain ⟨nm, pr, ru, gp, pt, ms, ds, lt, es⟩ := L
  simp only at *
  clear hG HU
  go_enter Tryd.func3, Tryd.ntmps3
  go_wp2_with (go_at_call 5; refine HAW.out.mono ?_; rintro e w1 ⟨rfl, hb1⟩; have HB1 : Hid (Below W0.heap.size W0 w1) := (by rw [hW0]; exact hb1); clear hb1; obtain ⟨y0, y1, y2, y3, y4, y5, y6, y7, y8⟩ := nine_later HB1.out hwl HW0.out)
  refine (HC.out a b hal hbl _ HB1.out).mono ?_
  rintro e w2 ⟨x1, n1, rfl, hn1, hx1, hz1, hb⟩
  have HB2 : Hid (Below W0.heap.size W0 w2) := HB1.out.trans (hb.mono HB1.out.size)
  have HN1 : Hid ((n1 = 0 ↔ G ∧ a.size ≤ 2000 ∧ b.size ≤ 2000) ∧ (n1 = 0 → x1 = cmpI (U a) (U b)) ∧ (n1 ≠ 0 → x1 = 0)) := ⟨hn1, hx1, hz1⟩
  clear hb y0 y1 y2 y3 y4 y5 y6 y7 y8 hn1 hx1 hz1
  obtain ⟨y0, y1, y2, y3, y4, y5, y6, y7, y8⟩ := nine_later HB2.out hwl HW0.out
  go_wp2_with fail
  refine (HC.out b c hbl hcl _ HB2.out).mono ?_
  rintro e w3 ⟨x2, n2, rfl, hn2, hx2, hz2, hb⟩
  have HB3 : Hid (Below W0.heap.size W0 w3) := HB2.out.trans (hb.mono HB2.out.size)
  have HN2 : Hid ((n2 = 0 ↔ G ∧ b.size ≤ 2000 ∧ c.size ≤ 2000) ∧ (n2 = 0 → x2 = cmpI (U b) (U c)) ∧ (n2 ≠ 0 → x2 = 0)) := ⟨hn2, hx2, hz2⟩
  clear hb y0 y1 y2 y3 y4 y5 y6 y7 y8 hn2 hx2 hz2
  obtain ⟨y0, y1, y2, y3, y4, y5, y6, y7, y8⟩ := nine_later HB3.out hwl HW0.out
  go_wp2_with fail
  refine (HC.out a c hal hcl _ HB3.out).mono ?_
  rintro e w4 ⟨x3, n3, rfl, hn3, hx3, hz3, hb⟩
  have HB4 : Hid (Below W0.heap.size W0 w4) := HB3.out.trans (hb.mono HB3.out.size)
  have HN3 : Hid ((n3 = 0 ↔ G ∧ a.size ≤ 2000 ∧ c.size ≤ 2000) ∧ (n3 = 0 → x3 = cmpI (U a) (U c)) ∧ (n3 ≠ 0 → x3 = 0)) := ⟨hn3, hx3, hz3⟩
  clear hb y0 y1 y2 y3 y4 y5 y6 y7 y8 hn3 hx3 hz3
  obtain ⟨y0, y1, y2, y3, y4, y5, y6, y7, y8⟩ := nine_later HB4.out hwl HW0.out
  go_wp2_with fail
  refine (HC.out b a hbl hal _ HB4.out).mono ?_
  rintro e w5 ⟨x4, n4, rfl, hn4, hx4, hz4, hb⟩
  have HB5 : Hid (Below W0.heap.size W0 w5) := HB4.out.trans (hb.mono HB4.out.size)
  have HN4 : Hid ((n4 = 0 ↔ G ∧ b.size ≤ 2000 ∧ a.size ≤ 2000) ∧ (n4 = 0 → x4 = cmpI (U b) (U a)) ∧ (n4 ≠ 0 → x4 = 0)) := ⟨hn4, hx4, hz4⟩
  clear hb y0 y1 y2 y3 y4 y5 y6 y7 y8 hn4 hx4 hz4
  obtain ⟨y0, y1, y2, y3, y4, y5, y6, y7, y8⟩ := nine_later HB5.out hwl HW0.out
  clear y0 y1 y2 y3 y4 y5 y6 y7 y8
  have HBW := Lib.hid (HX.out _ HB5.out)
  by_cases hz : n1 = 0
  case neg =>
    have q1 : (n1 != 0) = true := by rw [bne_iff_ne]; exact hz
    go_wp2_with fail
    go_ret
    exact ⟨rfl, HBW.out⟩
  case pos =>
    obtain ⟨hG, ha2, hb2⟩ := HN1.out.1.1 hz
    have hx : x1 = cmpI (U a) (U b) := HN1.out.2.1 hz
    have hx4 : x4 = - x1 := by rw [HN4.out.2.1 (HN4.out.1.2 ⟨hG, hb2, ha2⟩), hx]; exact cmpI_neg _ _
    have hbd : -1 ≤ x1 ∧ x1 ≤ 1 := by rw [hx]; exact cmpI_bd _ _
    have heq : x1 = 0 ↔ a = b := by
      rw [hx, cmpI_zero]
      exact ⟨HINJ.out hG, fun h => by rw [h]⟩
    have htr : ¬ (x1 ≤ 0 ∧ x2 ≤ 0 ∧ 0 < x3) ∧ ¬ (0 ≤ x1 ∧ 0 ≤ x2 ∧ x3 < 0) := by
      by_cases hc : c.size ≤ 2000
      · have e2 := HN2.out.2.1 (HN2.out.1.2 ⟨hG, hb2, hc⟩)
        have e3 := HN3.out.2.1 (HN3.out.1.2 ⟨hG, ha2, hc⟩)
        have ht := cmpI_tr (U a) (U b) (U c)
        rw [← hx, ← e2, ← e3] at ht
        unfold Tr Tr1 at ht
        refine ⟨fun h => ?_, fun h => ?_⟩
        · have := (ht.1 h.1 h.2.1).1; omega
        · have := (ht.2 (by omega) (by omega)).1; omega
      · have e3 : x3 = 0 := HN3.out.2.2 (fun h => hc (HN3.out.1.1 h).2.2)
        refine ⟨fun h => ?_, fun h => ?_⟩ <;> omega
    subst hz
    subst hx4
    have t1 : (-x1 == -x1) = true := by simp
    have HTR := Lib.hid htr
    have HEQ := Lib.hid heq
    clear hG ha2 hb2 hx htr heq HN1 HN2 HN3 HN4 HINJ
    have T1 : decide (x1 ≤ 0) = false ∨ (decide (x1 ≤ 0) = true ∧ decide (x2 ≤ 0) = false) ∨ (decide (x1 ≤ 0) = true ∧ decide (x2 ≤ 0) = true ∧ decide (0 < x3) = false) := by
      by_cases h1 : x1 ≤ 0
      · by_cases h2 : x2 ≤ 0
        · exact .inr (.inr ⟨decide_eq_true h1, decide_eq_true h2, decide_eq_false (fun h3 => HTR.out.1 ⟨h1, h2, h3⟩)⟩)
        · exact .inr (.inl ⟨decide_eq_true h1, decide_eq_false h2⟩)
      · exact .inl (decide_eq_false h1)
    have T2 : decide (0 ≤ x1) = false ∨ (decide (0 ≤ x1) = true ∧ decide (0 ≤ x2) = false) ∨ (decide (0 ≤ x1) = true ∧ decide (0 ≤ x2) = true ∧ decide (x3 < 0) = false) := by
      by_cases h1 : 0 ≤ x1
      · by_cases h2 : 0 ≤ x2
        · exact .inr (.inr ⟨decide_eq_true h1, decide_eq_true h2, decide_eq_false (fun h3 => HTR.out.2 ⟨h1, h2, h3⟩)⟩)
        · exact .inr (.inl ⟨decide_eq_true h1, decide_eq_false h2⟩)
      · exact .inl (decide_eq_false h1)
    have T3 : ((x1 == 0) = true ∧ (a.toList == b.toList) = true) ∨ ((x1 == 0) = false ∧ (a.toList == b.toList) = false) := by
      by_cases h1 : x1 = 0
      · have he := HEQ.out.1 h1
        exact .inl ⟨by rw [h1]; rfl, by rw [he]; simp⟩
      · exact .inr ⟨beq_false_of_ne h1, mstr_ne (fun he => h1 (HEQ.out.2 he))⟩
    clear HC HAW HX HTR HEQ
    rcases T3 with ⟨r1, r2⟩ | ⟨r1, r2⟩ <;> rcases T1 with u1 | ⟨u1, u2⟩ | ⟨u1, u2, u3⟩ <;> rcases T2 with v1 | ⟨v1, v2⟩ | ⟨v1, v2, v3⟩
    all_goals
      go_wp2_with fail
      go_ret
      exact ⟨rfl, HBW.out⟩
end Go.Proofs.YtdolpehcfifecaaDoor
