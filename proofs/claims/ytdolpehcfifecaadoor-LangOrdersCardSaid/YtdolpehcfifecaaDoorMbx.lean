/- lang.Collate: what it returns. Conditions: the library's variables hold what they hold at the start. -/
import Derived.Test.YtdolpehcfifecaaDoorMbw
import Derived.Deep.RegionWith
namespace Go.Proofs.YtdolpehcfifecaaDoor
open Go.RowKit Mh
set_option linter.unusedVariables false
theorem Is.below {w w' : World} {v : Value} {l : List Int} (h : Is w v l) (hb : Below w.heap.size w w') : Is w' v l := by
  unfold Is at *; exact h.below hb
theorem mbelow_drew {B : Nat} {w w' : World} (h : Below B w w') : Below B w w'.drew := ⟨h.os, h.tape, h.output, h.size, h.block⟩
/-- What Collate returns. -/
def ColP (L : Lg) (a b : ByteArray) (w : World) (e : Ending) (w' : World) : Prop :=
  ∃ x n : Int, e = .returned (.tuple #[.int .i64 x, .int .i64 n]) ∧ (n = 0 ↔ okLg L ∧ a.size ≤ 2000 ∧ b.size ≤ 2000) ∧ (n = 0 → x = cmpI (unitsF L.lt a.size a) (unitsF L.lt b.size b)) ∧ (n ≠ 0 → x = 0) ∧ Below w.heap.size w w'
set_option maxRecDepth 100000 in
set_option maxHeartbeats 8000000 in
theorem gcollate_any (L : Lg) (fv mv dv lv ev : Value) (a b : ByteArray) (w : World) (hal : a.size ≤ maxLen) (hbl : b.size ≤ maxLen) (hml : ML 0 w) (hev : EvAt w) (h : LgAt w L fv mv dv lv ev) :
    Calls Tryd.prog 6 #[.agg #[.string L.nm, .string L.pr, fv, .string L.gp, .string L.pt, mv, dv, lv, ev], .string a, .string b] w (ColP L a b w) := by
  have hmz : 0 < w.heap.size := by obtain ⟨m, hm⟩ := hml; exact World.block_lt_of_cell? w _ hm
  have hes := hev.size
  obtain ⟨fa, fc, rfl⟩ : ∃ a c, fv = .slice a L.ru.length c := by
    obtain ⟨rows, hS, _⟩ := h.ru
    obtain ⟨a, c, e, _⟩ := Sl.shp hS
    exact ⟨a, c, e⟩
  obtain ⟨ma, mc, rfl, _⟩ := sl_form h.ms.1
  obtain ⟨da, dc, rfl, _⟩ := sl_form h.ds.1
  obtain ⟨la, lc, rfl, _⟩ := sl_form h.lt.1
  obtain ⟨ea, ec, rfl, _⟩ := sl_form h.es.1
  obtain ⟨W0, hW0⟩ : ∃ W0, W0 = w.alloc (.cells #[.string L.nm, .string L.pr, .slice fa L.ru.length fc, .string L.gp, .string L.pt, .slice ma L.ms.length mc, .slice da L.ds.length dc, .slice la L.lt.length lc, .slice ea L.es.length ec] 28) := ⟨_, rfl⟩
  have HW0 : Hid (W0.heap[w.heap.size]? = some (.cells #[.string L.nm, .string L.pr, .slice fa L.ru.length fc, .string L.gp, .string L.pt, .slice ma L.ms.length mc, .slice da L.ds.length dc, .slice la L.lt.length lc, .slice ea L.es.length ec] 28 (0, 0))) := by rw [hW0]; exact heap_alloc_new _ _
  have HB0 : Hid (Below w.heap.size w W0) := by rw [hW0]; exact below_alloc' _ _
  have hwl : w.heap.size < W0.heap.size := by rw [hW0]; simp
  have HX : Hid (∀ w', Below W0.heap.size W0 w' → Below w.heap.size w w') := fun w' hb => HB0.out.trans (hb.mono HB0.out.size)
  have HCK : Hid (Calls Tryd.prog 11 #[.agg #[.string L.nm, .string L.pr, .slice fa L.ru.length fc, .string L.gp, .string L.pt, .slice ma L.ms.length mc, .slice da L.ds.length dc, .slice la L.lt.length lc, .slice ea L.es.length ec]] W0 (NF (okLg L) W0)) := gcheckLang_any L _ _ _ _ _ W0 (hml.below HB0.out hmz) (hev.keep HB0.out hes) (h.keep HB0.out)
  have HLT : Hid (∀ w', Below W0.heap.size W0 w' → Ss w' (.slice la L.lt.length lc) L.lt) := fun w' hb => h.lt.below (HX.out w' hb)
  have HUN : Hid (okL L.lt → ∀ (s : ByteArray) (hs : s.size ≤ 2000) w' (hb : Below W0.heap.size W0 w'), Calls Tryd.prog 13 #[.agg #[.string L.nm, .string L.pr, .slice fa L.ru.length fc, .string L.gp, .string L.pt, .slice ma L.ms.length mc, .slice da L.ds.length dc, .slice la L.lt.length lc, .slice ea L.es.length ec], .string s] w' fun e w2 => ∃ v, e = .returned v ∧ Is w2 v (unitsF L.lt s.size s) ∧ Below w'.heap.size w' w2 ∧ Below W0.heap.size W0 w2) :=
    fun hok s hs w' hb => (gunits_any L.lt la lc _ _ _ _ _ _ _ _ s w' (HLT.out w' hb) hok.1 hok.2.1 hs (by intro v hv; simp at hv; rcases hv with rfl | rfl | rfl | rfl | rfl | rfl | rfl | rfl <;> rfl)).mono fun e w2 ⟨v, h1, h2, h3⟩ => ⟨v, h1, h2, h3, hb.trans (h3.mono hb.size)⟩
  have HOK : Hid (okLg L → okL L.lt) := fun h => h.2.2.2.2.2.1
  have HLTE : Hid (L.lt = L.lt) := rfl
  unfold ColP
  rw [hW0] at HCK
  clear h hml hev hmz hes HLT HLTE
  unfold maxLen at hal hbl
  obtain ⟨nm, pr, ru, gp, pt, ms, ds, lt, es⟩ := L
  simp only at *
  generalize okLg _ = G at HCK HOK ⊢
  generalize ms.length = m at *
  generalize ds.length = d at *
  generalize es.length = e9 at *
  generalize ru.length = r9 at *
  generalize okL lt = PL at HUN HOK
  have HU : Hid (∀ s : ByteArray, unitsF lt s.size s = unitsF lt s.size s) := fun s => rfl
  obtain ⟨U, hU⟩ : ∃ U : ByteArray → List Int, U = fun s => unitsF lt s.size s := ⟨_, rfl⟩
  have HU : Hid (∀ s : ByteArray, unitsF lt s.size s = U s) := fun s => by rw [hU]
  simp only [HU.out] at HUN ⊢
  clear hU HU
  generalize lt.length = l9 at *
  go_enter Tryd.func6, Tryd.ntmps6
  go_upto_region 2 with (go_at_call 11; refine HCK.out.mono ?_; rintro e w2 ⟨n1, rfl, hn1, hb2⟩; have HN1 := Lib.hid hn1; have HB2 : Hid (Below W0.heap.size W0 w2) := (by rw [hW0]; exact hb2); clear hb2 hn1)
  clear HCK
  by_cases hz : n1 = 0
  case neg =>
    have q1 : (n1 != 0) = true := by rw [bne_iff_ne]; exact hz
    have HZ : Hid (n1 = 0 ↔ G ∧ a.size ≤ 2000 ∧ b.size ≤ 2000) := ⟨fun h => absurd h hz, fun h => HN1.out.2 h.1⟩
    go_wp2_with fail
    go_ret2
    exact ⟨0, n1, rfl, HZ.out, fun h => absurd h hz, fun _ => rfl, HX.out _ HB2.out⟩
  case pos =>
    subst hz
    have HG := Lib.hid (HN1.out.1 rfl)
    have HUN := Lib.hid (HUN.out (HOK.out HG.out))
    obtain ⟨y0, y1, y2, y3, y4, y5, y6, y7, y8⟩ := nine_later HB2.out hwl HW0.out
    by_cases ha : 2000 < a.size
    · have q1 : decide (2000 < a.size) = true := decide_eq_true ha
      have q2 : decide ((2000 : Int) < (a.size : Int)) = true := decide_eq_true (by omega)
      have HZ : Hid ((4 : Int) = 0 ↔ G ∧ a.size ≤ 2000 ∧ b.size ≤ 2000) := ⟨fun h => by omega, fun h => by omega⟩
      go_wp2_with fail
      go_ret2
      exact ⟨0, 4, rfl, HZ.out, fun h => (by omega), fun _ => rfl, HX.out _ HB2.out⟩
    have q1 : decide (2000 < a.size) = false := decide_eq_false ha
    have q2 : decide ((2000 : Int) < (a.size : Int)) = false := decide_eq_false (by omega)
    by_cases hb : 2000 < b.size
    · have q3 : decide (2000 < b.size) = true := decide_eq_true hb
      have q4 : decide ((2000 : Int) < (b.size : Int)) = true := decide_eq_true (by omega)
      have HZ : Hid ((4 : Int) = 0 ↔ G ∧ a.size ≤ 2000 ∧ b.size ≤ 2000) := ⟨fun h => by omega, fun h => by omega⟩
      go_wp2_with fail
      go_ret2
      exact ⟨0, 4, rfl, HZ.out, fun h => (by omega), fun _ => rfl, HX.out _ HB2.out⟩
    have q3 : decide (2000 < b.size) = false := decide_eq_false hb
    have q4 : decide ((2000 : Int) < (b.size : Int)) = false := decide_eq_false (by omega)
    have ha' : a.size ≤ 2000 := by omega
    have hb' : b.size ≤ 2000 := by omega
    have HZ9 : Hid (G ∧ a.size ≤ 2000 ∧ b.size ≤ 2000) := ⟨HG.out, ha', hb'⟩
    go_upto_region 6 with fail
    clear ha hb q1 q2 q3 q4
    have hB2 := HB2.out
    clear HB2
    go_region_with (first
      | (go_at_call 13; refine (HUN.out _ (by assumption) _ (by first | assumption | exact mbelow_drew (by assumption))).mono ?_; rintro e w3 ⟨v3, rfl, hI, hb3, hB3⟩; obtain ⟨y0, y1, y2, y3, y4, y5, y6, y7, y8⟩ := nine_later hB3 hwl HW0.out)
      | (go_at_call 12; refine (gcompare_any _ _ _ _ _ (by first | assumption | exact Is.below (by assumption) (by assumption)) (by first | assumption | exact Is.below (by assumption) (by assumption))).mono ?_; rintro e w4 ⟨rfl, hb4⟩; have hB4 := Below.trans (show Below W0.heap.size W0 _ by assumption) (hb4.mono (Below.size (show Below W0.heap.size W0 _ by assumption)))))
    all_goals
      go_wp2_with fail
      go_ret2
      exact ⟨_, 0, rfl, ⟨fun _ => HZ9.out, fun _ => rfl⟩, fun _ => rfl, fun h => absurd rfl h, HX.out _ (by assumption)⟩
end Go.Proofs.YtdolpehcfifecaaDoor
