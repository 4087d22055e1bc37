/- tree.numbered, translations and Translations of a right site. Conditions: the site is right (CheckSite lets it pass); the library's variable MaxLen holds an integer. -/
import Derived.Test.YthkokpkiffbjnaaDoorTrH
import Derived.Test.YthkokpkiffbjnaaDoorSl
namespace Mh
open Go Go.RowKit
set_option linter.unusedVariables false
def trk (p : Pg) : ByteArray := trL p.set p.key
/-- The numbers below n of the pages with a translation key. -/
def trsTo (l : List Pg) (key : ByteArray) (n : Nat) : List Nat := (List.range n).filter fun k => decide ((l[k]?).map trk = some key)
theorem trsTo_yes {l : List Pg} {key : ByteArray} {n : Nat} (h : n < l.length) (e : trk l[n] = key) : trsTo l key (n + 1) = trsTo l key n ++ [n] := by
  unfold trsTo
  rw [List.range_succ, List.filter_append]
  congr 1
  simp [List.getElem?_eq_getElem h, e]
theorem trsTo_no {l : List Pg} {key : ByteArray} {n : Nat} (h : n < l.length) (e : trk l[n] ≠ key) : trsTo l key (n + 1) = trsTo l key n := by
  unfold trsTo
  rw [List.range_succ, List.filter_append]
  simp [List.getElem?_eq_getElem h, e]
theorem trsTo_len (l : List Pg) (key : ByteArray) (n : Nat) : (trsTo l key n).length ≤ n := by
  unfold trsTo
  exact Nat.le_trans (List.length_filter_le _ _) (by simp)
theorem trsTo_mem {l : List Pg} {key : ByteArray} {n k : Nat} : k ∈ trsTo l key n ↔ k < n ∧ (l[k]?).map trk = some key := by
  unfold trsTo
  rw [List.mem_filter, List.mem_range, decide_eq_true_iff]
/-- The values of numbers. -/
def natsV (l : List Nat) : List Value := l.map fun k => Value.int .i64 ((k : Nat) : Int)
end Mh
namespace Go.Proofs.YthkokpkiffbjnaaDoor
open Go.RowKit Mh
set_option linter.unusedVariables false
theorem ownsRow_keepT {w w' : World} {base e k : Nat} {v : Value} {n : Nat} {xs : List Value} (h : w.ownsRow base e k v n xs) (hb : Below w.heap.size w w') : w'.ownsRow base e k v n xs := by
  refine ⟨h.1, ?_⟩
  rcases h.2 with hn | ⟨g, cap, cur, rfl, hbs, hgg, rest⟩
  · exact .inl hn
  · exact .inr ⟨g, cap, cur, rfl, hbs, (hb.block g (Array.getElem?_eq_some_iff.1 hgg).1).trans hgg, rest⟩
theorem infoIntT : (Tryd.prog.info? 3).map (fun i => (i.zero, i.size, i.bytes)) = some (some (.int .i64 0), 1, 8) := by kernel_rfl
theorem numbered_ok (L : List ByteArray) (l : List Pg) (hok : SiteOk L l) (i : Nat) (hi : i < l.length) (w : World) (la pa : Option Addr) (lc pc : Nat) (hL : Ss w (.slice la L.length lc) L) (hP : PsAt w (.slice pa l.length pc) l) (m : Int) (hml : w.cell? ⟨0, 0, none⟩ = some (.int .i64 m)) :
    Calls Tryd.prog 13 #[.agg #[.slice la L.length lc, .slice pa l.length pc], .int .i64 (i : Int)] w fun e w' => e = .returned (.int .i64 0) ∧ Below w.heap.size w w' := by
  have hmz : 0 < w.heap.size := World.block_lt_of_cell? w _ hml
  have HC := Lib.hid (fun w' (hb : Below w.heap.size w w') => checkSite_any L l w' la pa lc pc (hL.below hb) (hP.keep hb) m ((hb.cell hmz).trans hml))
  have HOK := Lib.hid hok
  have hpm : l.length ≤ 1500 := hok.2.1
  have d0 : decide ((i : Int) < 0) = false := decide_eq_false (by omega)
  have d1 : decide ((l.length : Int) ≤ i) = false := decide_eq_false (by omega)
  have d2 : decide (l.length ≤ i) = false := decide_eq_false (by omega)
  have HB0 : Hid (Below w.heap.size w (w.alloc (.cells #[.slice la L.length lc, .slice pa l.length pc] 25))) := (Below.refl _ w).alloc (Nat.le_refl _) _
  have HX0 : Hid ((w.alloc (.cells #[.slice la L.length lc, .slice pa l.length pc] 25)).heap[w.heap.size]? = some (.cells #[.slice la L.length lc, .slice pa l.length pc] 25 (0, 0))) := heap_alloc_new _ _
  clear hL hP hml hok
  go_enter Tryd.func13, Tryd.ntmps13
  go_wp2_with fail
  refine (HC.out _ HB0.out).mono ?_
  rintro e w1 ⟨r, rfl, hr, hb1⟩
  have h0 : r = 0 := hr.2 HOK.out
  subst h0
  have HX1 := (hb1.block _ (by simp)).trans HX0.out
  have b0 := cellT HX1 (i := 0) rfl
  have b1 := cellT HX1 (i := 1) rfl
  have HB1 : Hid (Below w.heap.size w w1) := HB0.out.trans (hb1.mono (by simp))
  clear hb1 HX1 hr HX0
  go_wp2_with fail
  go_ret
  exact ⟨rfl, HB1.out⟩
set_option maxRecDepth 100000 in
set_option maxHeartbeats 4000000 in
theorem translations_any (L : List ByteArray) (l : List Pg) (hl : l.length ≤ 1500) (hgd : ∀ p ∈ l, p.set.kd = 6 → p.set.kys.length = p.set.its.length) (i : Nat) (hi : i < l.length) (w : World) (la pa : Option Addr) (lc pc : Nat) (hP : PsAt w (.slice pa l.length pc) l) :
    Calls Tryd.prog 14 #[.agg #[.slice la L.length lc, .slice pa l.length pc], .int .i64 (i : Int)] w fun e w' => ∃ v, e = .returned v ∧ Sl 1 w' v (trsTo l (trk l[i]) l.length).length (natsV (trsTo l (trk l[i]) l.length)) ∧ Below w.heap.size w w' := by
  obtain ⟨ii, hii, hj0, hj1, hj2⟩ := info_parts infoIntT
  obtain ⟨ao, c, hv, hpm, hat⟩ := hP
  simp only [Value.slice.injEq, true_and] at hv
  obtain ⟨rfl, rfl⟩ := hv
  have HAT := Lib.hid hat
  have HTR : Hid (∀ p ∈ l, ∀ cs w', VAt w' p.set cs → Calls Tryd.prog 22 #[.agg cs.toArray, .string p.key] w' fun e w'' => e = .returned (.string (trk p)) ∧ Below w'.heap.size w' w'') := fun p hp cs w' hv => translation_any p.set p.key cs w' hv (hgd p hp)
  have HB0 : Hid (Below w.heap.size w (w.alloc (.cells #[.slice la L.length lc, .slice pa l.length pc] 25))) := (Below.refl _ w).alloc (Nat.le_refl _) _
  have HX0 : Hid ((w.alloc (.cells #[.slice la L.length lc, .slice pa l.length pc] 25)).heap[w.heap.size]? = some (.cells #[.slice la L.length lc, .slice pa l.length pc] 25 (0, 0))) := heap_alloc_new _ _
  obtain ⟨b, off, ia, ic, ka, kc, fa, fc, rfl, h1, h2, h3, h4, h5⟩ := hat i hi
  have HX := thirteen HB0.out h3 h5
  have HT1 : Hid (∀ w', Below (w.alloc (.cells #[.slice la L.length lc, .slice (some ⟨b, off, none⟩) l.length pc] 25)).heap.size (w.alloc (.cells #[.slice la L.length lc, .slice (some ⟨b, off, none⟩) l.length pc] 25)) w' → Calls Tryd.prog 22 #[.agg #[.int .i64 l[i].set.kd, .bool l[i].set.bo, .int .i64 l[i].set.nu, .string l[i].set.tx, .slice ia l[i].set.its.length ic, .slice ka l[i].set.kys.length kc], .string l[i].key] w' fun e w'' => e = .returned (.string (trk l[i])) ∧ Below w'.heap.size w' w'') := fun w' hb => HTR.out l[i] (List.getElem_mem hi) _ w' ((h4.keep (HB0.out.trans (hb.mono HB0.out.size))).set)
  unfold maxLen at hpm h2
  have hb0 : (i : Int) < l.length := by omega
  clear hat h4 h5
  obtain ⟨x0, x1, x2, x3, x4, x5, x6, x7, x8, x9, x10, x11, x12⟩ := HX
  generalize trk l[i] = KEY at *
  generalize l[i] = x at *
  go_enter Tryd.func14, Tryd.ntmps14
  go_wp2_with fail
  have b0 := cellT HX0.out (i := 0) rfl
  have b1 := cellT HX0.out (i := 1) rfl
  have y0 := grown_cell b0
  have y1 := grown_cell b1
  have z1 := grown_cell x1
  have z5 := grown_cell x5
  have z6 := grown_cell x6
  have z7 := grown_cell x7
  have z8 := grown_cell x8
  have z9 := grown_cell x9
  have z10 := grown_cell x10
  clear x0 x1 x2 x3 x4 x5 x6 x7 x8 x9 x10 x11 x12 b0 b1
  refine wp_region_quietB (by kernel_rfl) (by kernel_rfl) ?_
  repeat (go_big_quiet_step ((go_at_call 22; exact quietB (HT1.out _ (Subtype.property _)))))
  refine wpQuiet_nil ?_
  intro _ hw2
  obtain ⟨q, hw3⟩ := hw2
  subst hw3
  have HBQ : Hid (Below w.heap.size w q.1) := HB0.out.trans (q.2.mono HB0.out.size)
  have HXQ : Hid (q.1.heap[w.heap.size]? = some (.cells #[.slice la L.length lc, .slice (some ⟨b, off, none⟩) l.length pc] 25 (0, 0))) := (q.2.block _ (by simp)).trans HX0.out
  clear y0 y1 z1 z5 z6 z7 z8 z9 z10 HT1 HX0 HB0
  generalize q.1 = w1 at *
  have b0 := cellT HXQ.out (i := 0) rfl
  have b1 := cellT HXQ.out (i := 1) rfl
  have HZ1 : Hid (w.heap.size < w1.heap.size) := (Array.getElem?_eq_some_iff.1 HXQ.out).1
  go_wp2_with fail
  clear b0 b1
  go_loopw [6, 25] (fun v i wr => ∃ k : Nat, k ≤ l.length ∧ i = .int .i64 k ∧ wr.ownsRow w.heap.size 3 1 v (trsTo l KEY k).length (natsV (trsTo l KEY k)) ∧ Hid (Below w.heap.size w wr) ∧ w.heap.size ≤ wr.heap.size) (fun _ i _ => l.length - (intOf i).toNat)
  case atStart => exact ⟨0, Nat.zero_le _, rfl, World.ownsRow_nil _ _ _ _, HBQ, by have := HZ1.out; omega⟩
  case round =>
    obtain ⟨k, hk, rfl, hown, HB, hzr⟩ := hrel
    obtain ⟨wo, rfl⟩ : ∃ wo : World, wo = wr := ⟨_, rfl⟩
    by_cases hkl : k < l.length
    · obtain ⟨b', off', ja, jc, jka, jkc, jfa, jfc, hbo, p1, p2, p3, p4, p5⟩ := HAT.out k hkl
      simp only [Option.some.injEq, Addr.mk.injEq, and_true] at hbo
      obtain ⟨rfl, rfl⟩ := hbo
      obtain ⟨x0, x1, x2, x3, x4, x5, x6, x7, x8, x9, x10, x11, x12⟩ := thirteen HB.out p3 p5
      have HY := Lib.hid (fun e => trsTo_yes (key := KEY) hkl e)
      have HNO := Lib.hid (fun e => trsTo_no (key := KEY) hkl e)
      have hlen := trsTo_len l KEY k
      have HLN : Hid ((trsTo l KEY k).length ≤ k) := hlen
      have hmem := List.getElem_mem hkl
      have hbx : Below wo.heap.size wo (wo.alloc (.cells #[.string l[k].path, .string l[k].key, .string l[k].lang, .string l[k].addr, .int .i64 l[k].kind, .int .i64 l[k].set.kd, .bool l[k].set.bo, .int .i64 l[k].set.nu, .string l[k].set.tx, .slice ja l[k].set.its.length jc, .slice jka l[k].set.kys.length jkc, .string l[k].rest, .slice jfa l[k].files.length jfc] 39)) := (Below.refl _ wo).alloc (Nat.le_refl _) _
      have HC1 : Hid (Calls Tryd.prog 22 #[.agg #[.int .i64 l[k].set.kd, .bool l[k].set.bo, .int .i64 l[k].set.nu, .string l[k].set.tx, .slice ja l[k].set.its.length jc, .slice jka l[k].set.kys.length jkc], .string l[k].key] (wo.alloc (.cells #[.string l[k].path, .string l[k].key, .string l[k].lang, .string l[k].addr, .int .i64 l[k].kind, .int .i64 l[k].set.kd, .bool l[k].set.bo, .int .i64 l[k].set.nu, .string l[k].set.tx, .slice ja l[k].set.its.length jc, .slice jka l[k].set.kys.length jkc, .string l[k].rest, .slice jfa l[k].files.length jfc] 39)) fun e w'' => e = .returned (.string (trk l[k])) ∧ Below (wo.alloc (.cells #[.string l[k].path, .string l[k].key, .string l[k].lang, .string l[k].addr, .int .i64 l[k].kind, .int .i64 l[k].set.kd, .bool l[k].set.bo, .int .i64 l[k].set.nu, .string l[k].set.tx, .slice ja l[k].set.its.length jc, .slice jka l[k].set.kys.length jkc, .string l[k].rest, .slice jfa l[k].files.length jfc] 39)).heap.size (wo.alloc (.cells #[.string l[k].path, .string l[k].key, .string l[k].lang, .string l[k].addr, .int .i64 l[k].kind, .int .i64 l[k].set.kd, .bool l[k].set.bo, .int .i64 l[k].set.nu, .string l[k].set.tx, .slice ja l[k].set.its.length jc, .slice jka l[k].set.kys.length jkc, .string l[k].rest, .slice jfa l[k].files.length jfc] 39)) w'') := HTR.out l[k] hmem _ _ ((p4.keep (HB.out.trans (hbx.mono HB.out.size))).set)
      have HB1 := Lib.hid (HB.out.trans (hbx.mono HB.out.size))
      have HOW := Lib.hid (ownsRow_keepT hown hbx)
      have HEQ := Lib.hid (eqB (trk l[k]) KEY)
      clear p4 p5 hmem hbx hown hlen HTR
      generalize trk l[k] = tk at *
      generalize l[k] = x at *
      go_wp2_with fail
      refine HC1.out.mono ?_
      rintro e w2 ⟨rfl, hb2⟩
      have HB2 := Lib.hid (HB1.out.trans (hb2.mono HB1.out.size))
      have HO2 := Lib.hid (ownsRow_keepT HOW.out hb2)
      have hz2 : w.heap.size ≤ w2.heap.size := HB2.out.size
      have HOW := HOW
      clear hb2
      cases hq : (tk.toList == KEY.toList) with
      | true =>
        have HT : Hid (trsTo l KEY (k + 1) = trsTo l KEY k ++ [k]) := HY.out (by have := HEQ.out; rw [hq] at this; exact of_decide_eq_true this.symm)
        have hlen := HLN.out
        clear HY HNO HEQ HOW
        go_wp2_with (at_builtin; refine wpList_append1 HB2.out rfl _ _ 29 rfl 3 ii (.int .i64 0) 8 Tryd.underlying29 hii hj0 hj1 hj2 rfl _ _ _ rfl HO2.out (.int .i64 k) rfl rfl (by unfold maxLen; omega) (by omega) (Nat.le_refl _) hz2 ?_; intro v' w' hown' hbel' hsz')
        go_roundw
        case rel => exact ⟨k + 1, by omega, by go_num, (by rw [HT.out, List.length_append]; unfold natsV; rw [List.map_append]; exact hown'), hbel', hsz'⟩
        case measure => simp [intOf]; omega
      | false =>
        have HT : Hid (trsTo l KEY (k + 1) = trsTo l KEY k) := HNO.out (by have := HEQ.out; rw [hq] at this; exact of_decide_eq_false this.symm)
        clear HY HNO HEQ HOW
        go_wp2_with fail
        go_roundw
        case rel => exact ⟨k + 1, by omega, by go_num, (by rw [HT.out]; exact HO2.out), HB2, hz2⟩
        case measure => simp [intOf]; omega
    · have hkk : k = l.length := by omega
      have HF : Hid (wo.ownsRow w.heap.size 3 1 u6 (trsTo l KEY l.length).length (natsV (trsTo l KEY l.length))) := by rw [← hkk]; exact hown
      clear hown
      go_wp2_with fail
      go_ret
      exact ⟨_, rfl, Sl.of_own HF.out (by decide), HB.out⟩
end Go.Proofs.YthkokpkiffbjnaaDoor
