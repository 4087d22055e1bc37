/- tree.CheckSite: which sites it lets pass. Conditions: strings of at most maxLen bytes; the library's variable MaxLen holds an integer. -/
import Derived.Test.YthkokpkiffbjnaaDoorTrG
import Derived.WideMake
namespace Mh
open Go Go.RowKit
set_option linter.unusedVariables false
theorem below_al {w1 w' : World} (h : Below w1.heap.size w1 w') (o : Obj) : Below w1.heap.size w1 (w'.alloc o) := h.alloc h.size o
def RootAt (L : List ByteArray) (p : Pg) : Prop := p.key = ⟨#[]⟩ ∧ L[0]? = some p.lang
end Mh
namespace Go.Proofs.YthkokpkiffbjnaaDoor
open Go.RowKit Mh
open Go.WideMaps (KeyLaw ArrKey)
open Go.MapKept Go.ChangeMaps Go.WideElems Go.WideShapes
set_option linter.unusedVariables false
/-- What CheckSite lets pass. -/
def SiteOk (L : List ByteArray) (l : List Pg) : Prop := LangsFit L ∧ l.length ≤ 1500 ∧ (∃ p ∈ l, RootAt L p) ∧ ∀ i (h : i < l.length), PageOk L l i l[i]
theorem ckst_start {L : List ByteArray} {l : List Pg} {w wf : World} {sb ab kb n : Nat} {la pa : Option Addr} {lc pc : Nat} (hn : n ≤ 1500) (hb : Below w.heap.size w wf) (hL : Ss w (.slice la L.length lc) L) (hP : PsAt w (.slice pa l.length pc) l)
    (hS : SecM wf sb n l) (hA : wf.heap[ab]? = some (.map #[] 0)) (hK : wf.heap[kb]? = some (.map #[] 0)) (ha : w.heap.size ≤ ab) (hk : w.heap.size ≤ kb) (h3 : sb ≠ ab) (h4 : sb ≠ kb) (h5 : ab ≠ kb) :
    CkSt L l w (wf.alloc (.cells #[.slice la L.length lc, .slice pa l.length pc, .map (some sb), .map (some ab), .map (some kb)] 48)) wf.heap.size sb ab kb la lc pa pc 0 := by
  have hal := (Array.getElem?_eq_some_iff.1 hA).1
  have hkl := (Array.getElem?_eq_some_iff.1 hK).1
  obtain ⟨f, hM, hF⟩ := hS
  refine ⟨hb.alloc hb.size _, hL, hP, heap_alloc_new _ _, ⟨f, (hM.alloc _).mono hn, hF⟩, ?_, ?_, hb.size, ha, hk, by omega, by omega, h3, h4, h5⟩
  · refine ⟨fun _ => none, ⟨#[], 0, (heap_alloc_old _ _ hal).trans hA, ⟨by simp, stamped_empty 0, by simp⟩, Nat.le_refl _, fun q => ⟨fun e he => by simp at he, fun _ => rfl⟩⟩, fun s => ⟨fun h => ?_, fun _ => rfl⟩⟩
    obtain ⟨p, hp, _⟩ := h; simp at hp
  · refine ⟨fun _ => none, ⟨#[], 0, (heap_alloc_old _ _ hkl).trans hK, ⟨by simp, stamped_empty 0, by simp⟩, Nat.le_refl _, fun q => ⟨fun e he => by simp at he, fun _ => rfl⟩⟩, fun s => ⟨fun h => ?_, fun _ => rfl⟩⟩
    obtain ⟨p, hp, _⟩ := h; simp at hp
theorem SecM.al {w : World} {b n : Nat} {l : List Pg} (h : SecM w b n l) (o : Obj) : SecM (w.alloc o) b n l := by obtain ⟨f, h, h2⟩ := h; exact ⟨f, h.alloc o, h2⟩
theorem ckst_at {L : List ByteArray} {l : List Pg} {w wo wf : World} {C sb ab kb n : Nat} {la pa : Option Addr} {lc pc : Nat} (hn : n ≤ 1500) (hbo : Below w.heap.size w wo) (hb : Below wo.heap.size wo wf) (hL : Ss w (.slice la L.length lc) L) (hP : PsAt w (.slice pa l.length pc) l)
    (hS : SecM wf sb n l) (hA : wf.heap[ab]? = some (.map #[] 0)) (hK : wf.heap[kb]? = some (.map #[] 0)) (ha : wo.heap.size ≤ ab) (hk : wo.heap.size ≤ kb) (h3 : sb ≠ ab) (h4 : sb ≠ kb) (h5 : ab ≠ kb) (hC : wf.heap.size = C) :
    ∃ C' sb' ab' kb' : Nat, Value.pointer (some ⟨C, 0, none⟩) = .pointer (some ⟨C', 0, none⟩) ∧ Hid (CkSt L l w (wf.alloc (.cells #[.slice la L.length lc, .slice pa l.length pc, .map (some sb), .map (some ab), .map (some kb)] 48)) C' sb' ab' kb' la lc pa pc 0) ∧ Hid (Below wo.heap.size wo (wf.alloc (.cells #[.slice la L.length lc, .slice pa l.length pc, .map (some sb), .map (some ab), .map (some kb)] 48))) := by
  subst hC
  have := hbo.size
  exact ⟨_, sb, ab, kb, rfl, ckst_start hn (hbo.trans (hb.mono hbo.size)) hL hP hS hA hK (by omega) (by omega) h3 h4 h5, below_al hb _⟩
section
variable {L : List ByteArray} {l : List Pg} {w wo w8 : World} {sb n : Nat} {la pa : Option Addr} {lc pc : Nat}
theorem ckst_first (hn : n ≤ 1500) (hbo : Below w.heap.size w wo) (hL : Ss w (.slice la L.length lc) L) (hP : PsAt w (.slice pa l.length pc) l) (hS : SecM w8 sb n l) (hq : Below wo.heap.size wo w8) :
    ∃ C' sb' ab' kb' : Nat, Value.pointer (some ⟨w8.heap.size + 1 + 1, 0, none⟩) = .pointer (some ⟨C', 0, none⟩) ∧ Hid (CkSt L l w (((w8.alloc (.map #[] 0)).alloc (.map #[] 0)).alloc (.cells #[.slice la L.length lc, .slice pa l.length pc, .map (some sb), .map (some w8.heap.size), .map (some (w8.heap.size + 1))] 48)) C' sb' ab' kb' la lc pa pc 0) ∧ Hid (Below wo.heap.size wo (((w8.alloc (.map #[] 0)).alloc (.map #[] 0)).alloc (.cells #[.slice la L.length lc, .slice pa l.length pc, .map (some sb), .map (some w8.heap.size), .map (some (w8.heap.size + 1))] 48))) := by
  have h1 := hS.lt
  have h2 := hq.size
  have hk : ((w8.alloc (.map #[] 0)).alloc (.map #[] 0)).heap[w8.heap.size + 1]? = some (.map #[] 0) := by
    have := (MapKept.heap_alloc (w8.alloc (.map #[] 0)) (.map #[] 0)).1
    have e : (w8.alloc (.map #[] 0)).heap.size = w8.heap.size + 1 := by simp
    rw [e] at this; exact this
  have ha : ((w8.alloc (.map #[] 0)).alloc (.map #[] 0)).heap[w8.heap.size]? = some (.map #[] 0) := (heap_alloc_old _ _ (by simp)).trans (MapKept.heap_alloc w8 (.map #[] 0)).1
  exact ckst_at hn hbo (below_al (below_al hq _) _) hL hP ((hS.al _).al _) ha hk (by omega) (by omega) (by omega) (by omega) (by omega) (by simp)
theorem ckst_first' (hn : n ≤ 1500) (hbo : Below w.heap.size w wo) (hL : Ss w (.slice la L.length lc) L) (hP : PsAt w (.slice pa l.length pc) l) (hS : SecM w8 sb n l) (hq : Below wo.heap.size wo w8) :
    ∃ C' sb' ab' kb' : Nat, Value.pointer (some ⟨w8.heap.size + 1 + 1, 0, none⟩) = .pointer (some ⟨C', 0, none⟩) ∧ Hid (CkSt L l w (((w8.alloc (.map #[] 0)).alloc (.map #[] 0)).alloc (.cells #[.slice la L.length lc, .slice pa l.length pc, .map (some sb), .map (some (w8.heap.size + 1)), .map (some w8.heap.size)] 48)) C' sb' ab' kb' la lc pa pc 0) ∧ Hid (Below wo.heap.size wo (((w8.alloc (.map #[] 0)).alloc (.map #[] 0)).alloc (.cells #[.slice la L.length lc, .slice pa l.length pc, .map (some sb), .map (some (w8.heap.size + 1)), .map (some w8.heap.size)] 48))) := by
  have h1 := hS.lt
  have h2 := hq.size
  have hk : ((w8.alloc (.map #[] 0)).alloc (.map #[] 0)).heap[w8.heap.size + 1]? = some (.map #[] 0) := by
    have := (MapKept.heap_alloc (w8.alloc (.map #[] 0)) (.map #[] 0)).1
    have e : (w8.alloc (.map #[] 0)).heap.size = w8.heap.size + 1 := by simp
    rw [e] at this; exact this
  have ha : ((w8.alloc (.map #[] 0)).alloc (.map #[] 0)).heap[w8.heap.size]? = some (.map #[] 0) := (heap_alloc_old _ _ (by simp)).trans (MapKept.heap_alloc w8 (.map #[] 0)).1
  exact ckst_at hn hbo (below_al (below_al hq _) _) hL hP ((hS.al _).al _) hk ha (by omega) (by omega) (by omega) (by omega) (by omega) (by simp)
theorem ckst_mid (hn : n ≤ 1500) (hbo : Below w.heap.size w wo) (hL : Ss w (.slice la L.length lc) L) (hP : PsAt w (.slice pa l.length pc) l) (hS : SecM w8 sb n l) (hsb : (wo.drew.alloc (.map #[] 0)).heap.size ≤ sb) (hb8 : Below (wo.drew.alloc (.map #[] 0)).heap.size (wo.drew.alloc (.map #[] 0)) w8) (hq : Below wo.heap.size wo w8) :
    ∃ C' sb' ab' kb' : Nat, Value.pointer (some ⟨w8.heap.size + 1, 0, none⟩) = .pointer (some ⟨C', 0, none⟩) ∧ Hid (CkSt L l w ((w8.alloc (.map #[] 0)).alloc (.cells #[.slice la L.length lc, .slice pa l.length pc, .map (some sb), .map (some wo.heap.size), .map (some w8.heap.size)] 48)) C' sb' ab' kb' la lc pa pc 0) ∧ Hid (Below wo.heap.size wo ((w8.alloc (.map #[] 0)).alloc (.cells #[.slice la L.length lc, .slice pa l.length pc, .map (some sb), .map (some wo.heap.size), .map (some w8.heap.size)] 48))) := by
  have h1 := hS.lt
  have h2 := hb8.size
  have e : (wo.drew.alloc (.map #[] 0)).heap.size = wo.heap.size + 1 := by simp
  rw [e] at hsb h2
  have ha : (w8.alloc (.map #[] 0)).heap[wo.heap.size]? = some (.map #[] 0) := (heap_alloc_old _ _ (by omega)).trans ((hb8.block _ (by rw [e]; omega)).trans (MapKept.heap_alloc wo.drew (.map #[] 0)).1)
  exact ckst_at hn hbo (below_al hq _) hL hP (hS.al _) ha (MapKept.heap_alloc w8 (.map #[] 0)).1 (by omega) (by omega) (by omega) (by omega) (by omega) (by simp)
theorem ckst_mid' (hn : n ≤ 1500) (hbo : Below w.heap.size w wo) (hL : Ss w (.slice la L.length lc) L) (hP : PsAt w (.slice pa l.length pc) l) (hS : SecM w8 sb n l) (hsb : (wo.drew.alloc (.map #[] 0)).heap.size ≤ sb) (hb8 : Below (wo.drew.alloc (.map #[] 0)).heap.size (wo.drew.alloc (.map #[] 0)) w8) (hq : Below wo.heap.size wo w8) :
    ∃ C' sb' ab' kb' : Nat, Value.pointer (some ⟨w8.heap.size + 1, 0, none⟩) = .pointer (some ⟨C', 0, none⟩) ∧ Hid (CkSt L l w ((w8.alloc (.map #[] 0)).alloc (.cells #[.slice la L.length lc, .slice pa l.length pc, .map (some sb), .map (some w8.heap.size), .map (some wo.heap.size)] 48)) C' sb' ab' kb' la lc pa pc 0) ∧ Hid (Below wo.heap.size wo ((w8.alloc (.map #[] 0)).alloc (.cells #[.slice la L.length lc, .slice pa l.length pc, .map (some sb), .map (some w8.heap.size), .map (some wo.heap.size)] 48))) := by
  have h1 := hS.lt
  have h2 := hb8.size
  have e : (wo.drew.alloc (.map #[] 0)).heap.size = wo.heap.size + 1 := by simp
  rw [e] at hsb h2
  have ha : (w8.alloc (.map #[] 0)).heap[wo.heap.size]? = some (.map #[] 0) := (heap_alloc_old _ _ (by omega)).trans ((hb8.block _ (by rw [e]; omega)).trans (MapKept.heap_alloc wo.drew (.map #[] 0)).1)
  exact ckst_at hn hbo (below_al hq _) hL hP (hS.al _) (MapKept.heap_alloc w8 (.map #[] 0)).1 ha (by omega) (by omega) (by omega) (by omega) (by omega) (by simp)
theorem two_maps (wo : World) : ((wo.drew.alloc (.map #[] 0)).alloc (.map #[] 0)).heap[wo.heap.size]? = some (.map #[] 0) ∧ ((wo.drew.alloc (.map #[] 0)).alloc (.map #[] 0)).heap[wo.heap.size + 1]? = some (.map #[] 0) ∧ ((wo.drew.alloc (.map #[] 0)).alloc (.map #[] 0)).heap.size = wo.heap.size + 1 + 1 := by
  refine ⟨(heap_alloc_old _ _ (by simp)).trans (MapKept.heap_alloc wo.drew (.map #[] 0)).1, ?_, by simp⟩
  have := (MapKept.heap_alloc (wo.drew.alloc (.map #[] 0)) (.map #[] 0)).1
  have e : (wo.drew.alloc (.map #[] 0)).heap.size = wo.heap.size + 1 := by simp
  rw [e] at this; exact this
theorem ckst_last (hn : n ≤ 1500) (hbo : Below w.heap.size w wo) (hL : Ss w (.slice la L.length lc) L) (hP : PsAt w (.slice pa l.length pc) l) (hS : SecM w8 sb n l) (hsb : ((wo.drew.alloc (.map #[] 0)).alloc (.map #[] 0)).heap.size ≤ sb) (hb8 : Below ((wo.drew.alloc (.map #[] 0)).alloc (.map #[] 0)).heap.size ((wo.drew.alloc (.map #[] 0)).alloc (.map #[] 0)) w8) (hq : Below wo.heap.size wo w8) :
    ∃ C' sb' ab' kb' : Nat, Value.pointer (some ⟨w8.heap.size, 0, none⟩) = .pointer (some ⟨C', 0, none⟩) ∧ Hid (CkSt L l w (w8.alloc (.cells #[.slice la L.length lc, .slice pa l.length pc, .map (some sb), .map (some wo.heap.size), .map (some (wo.heap.size + 1))] 48)) C' sb' ab' kb' la lc pa pc 0) ∧ Hid (Below wo.heap.size wo (w8.alloc (.cells #[.slice la L.length lc, .slice pa l.length pc, .map (some sb), .map (some wo.heap.size), .map (some (wo.heap.size + 1))] 48))) := by
  obtain ⟨m1, m2, e⟩ := two_maps wo
  rw [e] at hsb
  exact ckst_at hn hbo hq hL hP hS ((hb8.block _ (by rw [e]; omega)).trans m1) ((hb8.block _ (by rw [e]; omega)).trans m2) (by omega) (by omega) (by omega) (by omega) (by omega) rfl
theorem ckst_last' (hn : n ≤ 1500) (hbo : Below w.heap.size w wo) (hL : Ss w (.slice la L.length lc) L) (hP : PsAt w (.slice pa l.length pc) l) (hS : SecM w8 sb n l) (hsb : ((wo.drew.alloc (.map #[] 0)).alloc (.map #[] 0)).heap.size ≤ sb) (hb8 : Below ((wo.drew.alloc (.map #[] 0)).alloc (.map #[] 0)).heap.size ((wo.drew.alloc (.map #[] 0)).alloc (.map #[] 0)) w8) (hq : Below wo.heap.size wo w8) :
    ∃ C' sb' ab' kb' : Nat, Value.pointer (some ⟨w8.heap.size, 0, none⟩) = .pointer (some ⟨C', 0, none⟩) ∧ Hid (CkSt L l w (w8.alloc (.cells #[.slice la L.length lc, .slice pa l.length pc, .map (some sb), .map (some (wo.heap.size + 1)), .map (some wo.heap.size)] 48)) C' sb' ab' kb' la lc pa pc 0) ∧ Hid (Below wo.heap.size wo (w8.alloc (.cells #[.slice la L.length lc, .slice pa l.length pc, .map (some sb), .map (some (wo.heap.size + 1)), .map (some wo.heap.size)] 48))) := by
  obtain ⟨m1, m2, e⟩ := two_maps wo
  rw [e] at hsb
  exact ckst_at hn hbo hq hL hP hS ((hb8.block _ (by rw [e]; omega)).trans m2) ((hb8.block _ (by rw [e]; omega)).trans m1) (by omega) (by omega) (by omega) (by omega) (by omega) rfl
end
attribute [local go_sem ↓] run_makeMap_plain
set_option maxRecDepth 100000 in
set_option maxHeartbeats 4000000 in
theorem checkSite_any (L : List ByteArray) (l : List Pg) (w : World) (la pa : Option Addr) (lc pc : Nat) (hL : Ss w (.slice la L.length lc) L) (hP : PsAt w (.slice pa l.length pc) l) (m : Int) (hml : w.cell? ⟨0, 0, none⟩ = some (.int .i64 m)) :
    Calls Tryd.prog 5 #[.agg #[.slice la L.length lc, .slice pa l.length pc]] w fun e w' => ∃ r : Int, e = .returned (.int .i64 r) ∧ (r = 0 ↔ SiteOk L l) ∧ Below w.heap.size w w' := by
  have HL := Lib.hid hL
  have HP := Lib.hid hP
  have HML := Lib.hid hml
  have HLF := Lib.hid (fun w' (hb : Below w.heap.size w w') => languagesFit_any L _ w' (hL.below hb))
  obtain ⟨pa', pc', hv, hpm, hpat⟩ := hP
  simp only [Value.slice.injEq, true_and] at hv
  obtain ⟨rfl, rfl⟩ := hv
  have HPAT := Lib.hid hpat
  obtain ⟨la', lc', hv, hlm, hlat⟩ := hL.get
  simp only [Value.slice.injEq, true_and] at hv
  obtain ⟨rfl, rfl⟩ := hv
  have HLAT := Lib.hid hlat
  clear hpat hlat hml hL
  unfold maxLen at hpm hlm
  have HOK : Hid (SiteOk L l ↔ LangsFit L ∧ l.length ≤ 1500 ∧ (∃ p ∈ l, RootAt L p) ∧ ∀ i (h : i < l.length), PageOk L l i l[i]) := Iff.rfl
  have HBX : Hid ((w.alloc (.cells #[.slice la L.length lc, .slice pa l.length pc] 25)).heap[w.heap.size]? = some (.cells #[.slice la L.length lc, .slice pa l.length pc] 25 (0, 0))) := heap_alloc_new _ _
  have HB0 : Hid (Below w.heap.size w (w.alloc (.cells #[.slice la L.length lc, .slice pa l.length pc] 25))) := (Below.refl _ w).alloc (Nat.le_refl _) _
  go_enter Tryd.func5, Tryd.ntmps5
  go_wp2_with fail
  refine (HLF.out _ HB0.out).mono ?_
  rintro e w1 ⟨r, rfl, hr, hb1⟩
  have HX1 : Hid (w1.heap[w.heap.size]? = some (.cells #[.slice la L.length lc, .slice pa l.length pc] 25 (0, 0))) := (hb1.block _ (by simp)).trans HBX.out
  have HB1 : Hid (Below w.heap.size w w1) := HB0.out.trans (hb1.mono (by simp))
  have HZ1 : Hid (w.heap.size < w1.heap.size) := (Array.getElem?_eq_some_iff.1 HX1.out).1
  have HR := Lib.hid hr
  clear hb1 hr HBX HB0
  cases r with
  | false =>
    have HN : Hid (¬ SiteOk L l) := fun h => by have := HR.out.2 (HOK.out.1 h).1; cases this
    go_wp2_with fail
    go_ret
    exact ⟨12, rfl, ⟨fun h => absurd h (by decide), fun h => absurd h HN.out⟩, HB1.out⟩
  | true =>
  have HLF1 : Hid (LangsFit L) := HR.out.1 rfl
  have HOK1 : Hid (SiteOk L l ↔ l.length ≤ 1500 ∧ (∃ p ∈ l, RootAt L p) ∧ ∀ i (h : i < l.length), PageOk L l i l[i]) := HOK.out.trans ⟨fun g => g.2, fun g => ⟨HLF1.out, g⟩⟩
  have hl1 : 1 ≤ L.length := HLF1.out.1
  have hl8 : L.length ≤ 8 := HLF1.out.2.1
  have b0 := cellT HX1.out (i := 0) rfl
  have b1 := cellT HX1.out (i := 1) rfl
  clear HR HOK
  by_cases hlen : 1500 < l.length
  · have HN : Hid (¬ SiteOk L l) := fun h => by have := (HOK1.out.1 h).1; omega
    have q : decide ((1500 : Int) < l.length) = true := decide_eq_true (by omega)
    have q2 : decide (1500 < l.length) = true := decide_eq_true (by omega)
    clear hlen
    go_wp2_with fail
    go_ret
    exact ⟨4, rfl, ⟨fun h => absurd h (by decide), fun h => absurd h HN.out⟩, HB1.out⟩
  have hle : l.length ≤ 1500 := by omega
  have HLE := Lib.hid hle
  have HOK2 : Hid (SiteOk L l ↔ (∃ p ∈ l, RootAt L p) ∧ ∀ i (h : i < l.length), PageOk L l i l[i]) := HOK1.out.trans ⟨fun g => g.2, fun g => ⟨HLE.out, g⟩⟩
  have q : decide ((1500 : Int) < l.length) = false := decide_eq_false (by omega)
  have q2 : decide (1500 < l.length) = false := decide_eq_false (by omega)
  clear HOK1 hlen
  go_wp2_with fail
  clear q q2
  go_loopw [3, 20] (fun rt i wr => ∃ (k : Nat) (r : Bool), k ≤ l.length ∧ i = .int .i64 k ∧ rt = .bool r ∧ Hid (r = true ↔ ∃ p ∈ l.take k, RootAt L p) ∧ Hid (Below w1.heap.size w1 wr)) (fun _ i _ => l.length - (intOf i).toNat)
  case atStart => exact ⟨0, false, Nat.zero_le _, rfl, rfl, ⟨fun h => (by cases h), fun h => (by obtain ⟨p, hp, _⟩ := h; simp at hp)⟩, Below.refl _ _⟩
  case round =>
    as_aux_lemma =>
    obtain ⟨k, r, hk, rfl, rfl, HRT, HB⟩ := hrel
    clear b0 b1
    obtain ⟨wo, rfl⟩ : ∃ wo : World, wo = wr := ⟨_, rfl⟩
    have HXo : Hid (wo.heap[w.heap.size]? = some (.cells #[.slice la L.length lc, .slice pa l.length pc] 25 (0, 0))) := (HB.out.block _ HZ1.out).trans HX1.out
    have HBo : Hid (Below w.heap.size w wo) := HB1.out.trans (HB.out.mono HB1.out.size)
    by_cases hkl : k < l.length
    · obtain ⟨b, off, ia, ic, ka, kc, fa, fc, rfl, h1, h2, h3, h4, h5⟩ := HPAT.out k hkl
      obtain ⟨x0, x1, x2, x3, x4, x5, x6, x7, x8, x9, x10, x11, x12⟩ := thirteen HBo.out h3 h5
      obtain ⟨lb, lo, rfl, u1, u2, u3, u4, u5⟩ := HLAT.out 0 (by omega)
      have u4' := (HBo.out.cell (p := ⟨lb, lo + 0, none⟩) u3).trans u4
      have hnx : Hid ((∃ p ∈ l.take (k + 1), RootAt L p) ↔ (r = true ∨ RootAt L l[k])) := by
        rw [HRT.out]
        show (∃ p ∈ l.take (k + 1), RootAt L p) ↔ _
        rw [secF_take hkl]
        constructor
        · rintro ⟨p, hp, h⟩
          rcases List.mem_append.1 hp with hp | hp
          · exact .inl ⟨p, hp, h⟩
          · have : p = l[k] := by simpa using hp
            rw [← this]; exact .inr h
        · rintro (⟨p, hp, h⟩ | h)
          · exact ⟨p, List.mem_append.2 (.inl hp), h⟩
          · exact ⟨l[k], List.mem_append.2 (.inr (by simp)), h⟩
      have hra : Hid (RootAt L l[k] ↔ l[k].key = ⟨#[]⟩ ∧ l[k].lang = L[0]) := by
        show _ ↔ _
        unfold RootAt
        rw [List.getElem?_eq_getElem (by omega)]
        exact ⟨fun h => ⟨h.1, (Option.some.inj h.2).symm⟩, fun h => ⟨h.1, by rw [h.2]⟩⟩
      unfold maxLen at h2 u2
      clear h4 h5 u4 u5 HRT
      have HEM := Lib.hid (emptyB l[k].key)
      generalize RootAt L l[k] = RA at *
      generalize l[k] = x at *
      generalize L[0] = l0 at *
      have HBA : Hid (Below wo.heap.size wo (wo.alloc (.cells #[.string x.path, .string x.key, .string x.lang, .string x.addr, .int .i64 x.kind, .int .i64 x.set.kd, .bool x.set.bo, .int .i64 x.set.nu, .string x.set.tx, .slice ia x.set.its.length ic, .slice ka x.set.kys.length kc, .string x.rest, .slice fa x.files.length fc] 39))) := (Below.refl _ wo).alloc (Nat.le_refl _) _
      have HXA := Lib.hid (heap_alloc_new wo (.cells #[.string x.path, .string x.key, .string x.lang, .string x.addr, .int .i64 x.kind, .int .i64 x.set.kd, .bool x.set.bo, .int .i64 x.set.nu, .string x.set.tx, .slice ia x.set.its.length ic, .slice ka x.set.kys.length kc, .string x.rest, .slice fa x.files.length fc] 39))
      go_upto_region 9 with fail
      clear x0 x1 x2 x3 x4 x5 x6 x7 x8 x9 x10 x11 x12
      have HSZ : Hid (w.heap.size < wo.heap.size) := (Array.getElem?_eq_some_iff.1 HXo.out).1
      have HLB : Hid (lb < wo.heap.size) := Nat.lt_of_lt_of_le u3 HBo.out.size
      have e0 := cellT ((HBA.out.block _ HSZ.out).trans HXo.out) (i := 0) rfl
      have e1 := cellT ((HBA.out.block _ HSZ.out).trans HXo.out) (i := 1) rfl
      have u6 : (wo.alloc (.cells #[.string x.path, .string x.key, .string x.lang, .string x.addr, .int .i64 x.kind, .int .i64 x.set.kd, .bool x.set.bo, .int .i64 x.set.nu, .string x.set.tx, .slice ia x.set.its.length ic, .slice ka x.set.kys.length kc, .string x.rest, .slice fa x.files.length fc] 39)).cell? ⟨lb, lo, none⟩ = some (.string l0) := (HBA.out.cell (p := ⟨lb, lo, none⟩) HLB.out).trans u4'
      have HB2 : Hid (Below w1.heap.size w1 (wo.alloc (.cells #[.string x.path, .string x.key, .string x.lang, .string x.addr, .int .i64 x.kind, .int .i64 x.set.kd, .bool x.set.bo, .int .i64 x.set.nu, .string x.set.tx, .slice ia x.set.its.length ic, .slice ka x.set.kys.length kc, .string x.rest, .slice fa x.files.length fc] 39))) := HB.out.trans (HBA.out.mono HB.out.size)
      clear HBA u4'
      generalize wo.alloc (.cells #[.string x.path, .string x.key, .string x.lang, .string x.addr, .int .i64 x.kind, .int .i64 x.set.kd, .bool x.set.bo, .int .i64 x.set.nu, .string x.set.tx, .slice ia x.set.its.length ic, .slice ka x.set.kys.length kc, .string x.rest, .slice fa x.files.length fc] 39) = wa at *
      obtain ⟨y0, y1, y2, y3, y4, y5, y6, y7, y8, y9, y10, y11, y12⟩ := pg_open HXA.out
      have hi0 : (0 : Int) < L.length := by omega
      cases r with
      | true =>
        have HF : Hid (true = true ↔ ∃ p ∈ l.take (k + 1), RootAt L p) := ⟨fun _ => hnx.out.2 (.inl rfl), fun _ => rfl⟩
        clear hnx hra HEM
        go_quiet (fail)
        go_wp2_with fail
        go_roundw
        case rel => exact ⟨k + 1, true, by omega, by go_num, rfl, HF, below_drewN HB2.out _⟩
        case measure => simp [intOf]; omega
      | false =>
        cases hk0 : x.key.toList.isEmpty with
        | false =>
          have HF : Hid (false = true ↔ ∃ p ∈ l.take (k + 1), RootAt L p) := ⟨fun h => (by cases h), fun h => by
            rcases hnx.out.1 h with g | g
            · cases g
            · have := (hra.out.1 g).1; have h2 := HEM.out; rw [hk0] at h2; exact absurd this (of_decide_eq_false h2.symm)⟩
          clear hnx hra HEM
          go_quiet (fail)
          go_wp2_with fail
          go_roundw
          case rel => exact ⟨k + 1, false, by omega, by go_num, rfl, HF, below_drewN HB2.out _⟩
          case measure => simp [intOf]; omega
        | true =>
          have HKE : Hid (x.key = ⟨#[]⟩) := (by have h2 := HEM.out; rw [hk0] at h2; exact of_decide_eq_true h2.symm : x.key = ⟨#[]⟩)
          cases hq : (x.lang.toList == l0.toList) with
          | true =>
            have HF : Hid (true = true ↔ ∃ p ∈ l.take (k + 1), RootAt L p) := ⟨fun _ => hnx.out.2 (.inr (hra.out.2 ⟨HKE.out, by rw [eqB] at hq; exact of_decide_eq_true hq⟩)), fun _ => rfl⟩
            clear hnx hra HEM
            go_quiet (fail)
            go_wp2_with fail
            go_roundw
            case rel => exact ⟨k + 1, true, by omega, by go_num, rfl, HF, below_drewN HB2.out _⟩
            case measure => simp [intOf]; omega
          | false =>
            have HF : Hid (false = true ↔ ∃ p ∈ l.take (k + 1), RootAt L p) := ⟨fun h => (by cases h), fun h => by
              rcases hnx.out.1 h with g | g
              · cases g
              · have := (hra.out.1 g).2; rw [eqB] at hq; exact absurd this (of_decide_eq_false hq)⟩
            clear hnx hra HEM
            go_quiet (fail)
            go_wp2_with fail
            go_roundw
            case rel => exact ⟨k + 1, false, by omega, by go_num, rfl, HF, below_drewN HB2.out _⟩
            case measure => simp [intOf]; omega
    · have hkk : k = l.length := by omega
      have HRF : Hid (r = true ↔ ∃ p ∈ l, RootAt L p) := by have := HRT.out; rw [hkk, List.take_length] at this; exact this
      clear HRT
      cases r with
      | false =>
        have HN : Hid (¬ SiteOk L l) := fun h => by have := HRF.out.2 (HOK2.out.1 h).1; cases this
        have b0 := cellT HXo.out (i := 0) rfl
        have b1 := cellT HXo.out (i := 1) rfl
        go_wp2_with fail
        go_ret
        exact ⟨1, rfl, ⟨fun h => absurd h (by decide), fun h => absurd h HN.out⟩, HBo.out⟩
      | true =>
      have HOK3 : Hid (SiteOk L l ↔ ∀ i (h : i < l.length), PageOk L l i l[i]) := HOK2.out.trans ⟨fun g => g.2, fun g => ⟨HRF.out.1 rfl, g⟩⟩
      clear HOK2 HRF HX1 HB1 HB HZ1
      have HS : Hid (∀ w', Below wo.heap.size wo w' → (w'.cell? ⟨w.heap.size, 0, none⟩ = some (.slice la L.length lc) ∧ w'.cell? ⟨w.heap.size, 1, none⟩ = some (.slice pa l.length pc) ∧ Below wo.heap.size wo w')) := fun w' hb => by
        have := (hb.block _ (Array.getElem?_eq_some_iff.1 HXo.out).1).trans HXo.out
        exact ⟨cellT this rfl, cellT this rfl, hb⟩
      have HG : Hid (∀ w', (w'.cell? ⟨w.heap.size, 0, none⟩ = some (.slice la L.length lc) ∧ w'.cell? ⟨w.heap.size, 1, none⟩ = some (.slice pa l.length pc) ∧ Below wo.heap.size wo w') → Below wo.heap.size wo w') := fun w' h => h.2.2
      have HSE : Hid (∀ w', Below w.heap.size w w' → Calls Tryd.prog 11 #[.agg #[.slice la L.length lc, .slice pa l.length pc]] w' fun e w'' => ∃ b n, e = .returned (.map (some b)) ∧ w'.heap.size ≤ b ∧ n ≤ 1500 ∧ SecM w'' b n l ∧ Below w'.heap.size w' w'') := fun w' hb => sections_any la L.length lc _ l w' (HP.out.keep hb) HLE.out
      go_upto_region 13 with fail
      go_cut [6] from 7 to 61 (fun s6 wx => ∃ C sb ab kb : Nat, s6 = .pointer (some ⟨C, 0, none⟩) ∧ Hid (CkSt L l w wx C sb ab kb la lc pa pc 0) ∧ Hid (Below wo.heap.size wo wx))
      case first =>
        as_aux_lemma =>
        -- S1
        go_region_held3 (fun w' => w'.cell? ⟨w.heap.size, 0, none⟩ = some (.slice la L.length lc) ∧ w'.cell? ⟨w.heap.size, 1, none⟩ = some (.slice pa l.length pc) ∧ Below wo.heap.size wo w') (first | (refine HS.out _ ?_; repeat (first | assumption | (with_reducible refine Below.drew ?_) | (with_reducible refine below_al ?_ _) | (with_reducible exact Below.refl _ _))))
          (first | (go_at_call 11; refine (HSE.out _ (HBo.out.trans (Below.mono (HG.out _ (by assumption)) HBo.out.size))).mono ?_; rintro e w8 ⟨sb, n, rfl, hsb, hn, hsm, hb8⟩; have hq : Below wo.heap.size wo w8 := Below.trans (HG.out _ (by assumption)) (hb8.mono (HG.out _ (by assumption)).size)))
        all_goals
          have HQ := Lib.hid hq
          have HSM := Lib.hid hsm
          have HSB := Lib.hid hsb
          have HB8 := Lib.hid hb8
          have HN := Lib.hid hn
          clear hq hsm hsb hb8 hn HS HG HSE
          go_wp2_with fail
          go_meet
          first
          | exact ckst_first HN.out HBo.out HL.out HP.out HSM.out HQ.out
          | exact ckst_first' HN.out HBo.out HL.out HP.out HSM.out HQ.out
          | exact ckst_mid HN.out HBo.out HL.out HP.out HSM.out HSB.out HB8.out HQ.out
          | exact ckst_mid' HN.out HBo.out HL.out HP.out HSM.out HSB.out HB8.out HQ.out
          | exact ckst_last HN.out HBo.out HL.out HP.out HSM.out HSB.out HB8.out HQ.out
          | exact ckst_last' HN.out HBo.out HL.out HP.out HSM.out HSB.out HB8.out HQ.out
        -- E1
      case rest =>
        as_aux_lemma =>
        obtain ⟨C, sb, ab, kb, rfl, HCK, HBC⟩ := hcut
        have HXC : Hid (wc.heap[w.heap.size]? = some (.cells #[.slice la L.length lc, .slice pa l.length pc] 25 (0, 0))) := (HBC.out.block _ (Array.getElem?_eq_some_iff.1 HXo.out).1).trans HXo.out
        have HPA := Lib.hid (fun i hi w' h => page_any L HLF1.out l HLE.out w w' C sb ab kb la pa lc pc i hi h m HML.out)
        have b0 := cellT HXC.out (i := 0) rfl
        have b1 := cellT HXC.out (i := 1) rfl
        clear HS HG HSE HXo HBC HLF
        go_wp2_with fail
        go_loopw [52] (fun i wr => ∃ k : Nat, k ≤ l.length ∧ i = .int .i64 k ∧ Hid (∀ j (h : j < l.length), j < k → PageOk L l j l[j]) ∧ Hid (CkSt L l w wr C sb ab kb la lc pa pc k)) (fun i _ => l.length - (intOf i).toNat)
        case atStart => exact ⟨0, Nat.zero_le _, rfl, fun j h h2 => by omega, HCK⟩
        case round =>
          obtain ⟨k, hk, rfl, HI, HCS⟩ := hrel
          clear b0 b1
          obtain ⟨wp, rfl⟩ : ∃ wp : World, wp = wr := ⟨_, rfl⟩
          by_cases hkl : k < l.length
          · have HC1 := Lib.hid (HPA.out k hkl wp HCS.out)
            have HPK : Hid (∀ r : Int, (r = 0 ↔ PageOk L l k l[k]) → r = 0 → ∀ j (h : j < l.length), j < k + 1 → PageOk L l j l[j]) := fun r hr h0 j hj h => by
              by_cases e : j = k
              · subst e; exact hr.1 h0
              · exact HI.out j hj (by omega)
            have HPN : Hid (∀ r : Int, (r = 0 ↔ PageOk L l k l[k]) → r ≠ 0 → ¬ SiteOk L l) := fun r hr h0 g => h0 (hr.2 (HOK3.out.1 g k hkl))
            go_wp2_with fail
            refine HC1.out.mono ?_
            rintro e w2 ⟨r, rfl, hr, hb, hck⟩
            have HB2 := Lib.hid hb
            by_cases h0 : r = 0
            · have HI2 := Lib.hid (HPK.out r hr h0)
              have HC2 := Lib.hid (hck h0)
              subst h0
              clear hr hck hb HPN HPK HI
              go_wp2_with fail
              go_roundw
              case rel => exact ⟨k + 1, by omega, by go_num, HI2, HC2⟩
              case measure => simp [intOf]; omega
            · have hd : (r != 0) = true := by rw [bne_iff_ne]; exact h0
              have HN := Lib.hid (HPN.out r hr h0)
              have H0 := Lib.hid h0
              clear hr hck hb HPN HPK HI h0
              go_wp2_with fail
              go_ret
              exact ⟨r, rfl, ⟨fun h => absurd h H0.out, fun h => absurd h HN.out⟩, HB2.out⟩
          · have HF : Hid (SiteOk L l) := HOK3.out.2 fun i h => HI.out i h (by omega)
            go_wp2_with fail
            go_ret
            exact ⟨0, rfl, ⟨fun _ => HF.out, fun _ => rfl⟩, HCS.out.below⟩
end Go.Proofs.YthkokpkiffbjnaaDoor
