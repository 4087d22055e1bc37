/- asset.ReadImage at an image's text: the image. -/
import Derived.Test.YtjmnnnjddbmiaaaDoorProg
import Derived.Test.YtjmnnnjddbmiaaaDoorReadP
namespace Go.Proofs.YtjmnnnjddbmiaaaDoor
open Go.RowKit Mh
set_option linter.unusedVariables false

theorem infoInt : (Tryd.prog.info? 3).map (fun i => (i.zero, i.size, i.bytes)) = some (some (.int .i64 0), 1, 8) := by kernel_rfl
theorem hex_find (z : Int) (h : 0 ≤ z) (h2 : z ≤ 15) : Lib.indexByte hexD (hexD.getD z.toNat 0) = z := by
  have : ∀ m : Fin 16, Lib.indexByte hexD (hexD.getD m.val 0) = m.val := by decide +kernel
  have := this ⟨z.toNat, by omega⟩
  simp only at this
  rw [this]
  omega

theorem ownsRow_keep {w w' : World} {base e k : Nat} {v : Value} {n : Nat} {xs : List Value} (h : w.ownsRow base e k v n xs) (hb : Below w.heap.size w w') : w'.ownsRow base e k v n xs := by
  refine ⟨h.1, ?_⟩
  rcases h.2 with hn | ⟨g, cap, cur, rfl, hbs, hgg, rest⟩
  · exact .inl hn
  · exact .inr ⟨g, cap, cur, rfl, hbs, (hb.block g (Array.getElem?_eq_some_iff.1 hgg).1).trans hgg, rest⟩

def ReadOk (W H : Nat) (L : List Int) (w : World) (e : Ending) (w' : World) : Prop :=
  ∃ lv, e = .returned (.tuple #[.agg #[.int .i64 W, .int .i64 H, lv], .int .i64 0]) ∧ Below w.heap.size w w' ∧ Sl 1 w' lv L.length (L.map (Value.int .i64))

set_option maxRecDepth 100000 in
set_option maxHeartbeats 2000000 in
theorem readImage_ok (W H : Nat) (L : List Int) (w : World) (hc : chk W H L = 0) (hW : 1 ≤ W ∧ W ≤ 64) (hH : 1 ≤ H ∧ H ≤ 64) (hn : L.length = W * H) (hlv : ∀ n ∈ L, 0 ≤ n ∧ n ≤ 15) (hml : ML 0 w) :
    Calls Tryd.prog 19 #[.string ⟨(imgText W H L).toArray⟩] w (ReadOk W H L w) := by
  have hp0 : H * (W + 1) ≤ 64 * 65 := Nat.mul_le_mul hH.2 (by omega)
  have hl1 := dec_len W (by omega)
  have hl2 := dec_len H (by omega)
  have hts : (imgText W H L).length ≤ 4200 := by
    simp only [imgText, imgHead, List.length_append, imgRows_length, List.length_cons, List.length_nil]
    omega
  have HCUT := Lib.hid (fun w h => cut_text W H L w hW hH h (by omega))
  have HSPL := Lib.hid (fun w h => split_line W H w hW hH h)
  have HSW := Lib.hid (fun w => side_dec W hW w)
  have HSH := Lib.hid (fun w => side_dec H hH w)
  have HC := Lib.hid hc
  have HN := Lib.hid hn
  have HV := Lib.hid hlv
  have hss : (⟨(imgText W H L).toArray⟩ : ByteArray).size ≤ 4200 := by show (imgText W H L).toArray.size ≤ _; simpa using hts
  have hrs : (⟨(imgRows W L (H * (W + 1))).toArray⟩ : ByteArray).size = H * (W + 1) := by show (imgRows W L (H * (W + 1))).toArray.size = _; simp [imgRows_length]
  have hrg : Hid (∀ p (h : p < (⟨(imgRows W L (H * (W + 1))).toArray⟩ : ByteArray).size), (⟨(imgRows W L (H * (W + 1))).toArray⟩ : ByteArray)[p] = rowG W L p) := by
    intro p h
    have e1 := imgRows_get W L (H * (W + 1)) p (by rw [← hrs]; exact h)
    have e2 : (imgRows W L (H * (W + 1)))[p]? = some ((⟨(imgRows W L (H * (W + 1))).toArray⟩ : ByteArray)[p]) := by
      rw [List.getElem?_eq_getElem (by rw [imgRows_length, ← hrs]; exact h)]
      rfl
    rw [e1] at e2
    exact (Option.some.inj e2).symm
  generalize (⟨(imgText W H L).toArray⟩ : ByteArray) = s at *
  generalize (⟨(imgRows W L (H * (W + 1))).toArray⟩ : ByteArray) = r at *
  have hrz : (r.size : Int) = (H : Int) * ((W : Int) + 1) := by rw [hrs]; rfl
  have hrb : ((r.size : Int) != (H : Int) * ((W : Int) + 1)) = false := by rw [hrz]; simp
  have hr1 : 0 ≤ (H : Int) * ((W : Int) + 1) := by omega
  have hr2 : (H : Int) * ((W : Int) + 1) ≤ 4160 := by omega
  have HRS := Lib.hid hrs
  have HML := Lib.hid hml
  clear hc hn hlv hts hrs hrz hml hl1 hl2
  go_enter Tryd.func19, Tryd.ntmps19
  go_wp2_with fail
  have hb0 : Below w.heap.size w (w.alloc (.cells #[.int .i64 0, .int .i64 0, .slice none 0 0] 48)) := (Below.refl _ _).alloc (Nat.le_refl _) _
  refine (HCUT.out _ (HML.out.next hb0)).mono ?_
  rintro e w1 ⟨rfl, hb1⟩
  have hML1 := (HML.out.next hb0).next hb1
  have hz1 : w.heap.size < w1.heap.size := by have := hb1.size; simp at this; omega
  have HW1 : Hid (Below w.heap.size w w1) := hb0.trans (hb1.mono (by simp))
  have HR1 : Hid (w1.heap[w.heap.size]? = some (.cells #[.int .i64 0, .int .i64 0, .slice none 0 0] 48 (0, 0))) := (hb1.block _ (by simp)).trans (heap_alloc_new _ _)
  clear hb0 hb1
  go_wp2_with fail
  refine (HSPL.out _ hML1).mono ?_
  rintro e wa ⟨rfl, hwa⟩
  have HW2 : Hid (Below w.heap.size w wa) := by rw [hwa]; exact HW1.out.trans ((Below.refl _ _).alloc (Nat.le_refl _) _ |>.mono (by omega))
  have hzw : w1.heap.size < wa.heap.size := by rw [hwa]; simp
  have hTL : wa.heap[w1.heap.size]? = some (.cells #[.string ⟨#[105, 109, 97, 103, 101]⟩, .string ⟨(Lib.decDigits W).toArray⟩, .string ⟨(Lib.decDigits H).toArray⟩] 9 (0, 0)) := by rw [hwa]; exact heap_alloc_new _ _
  have HRA : Hid (wa.heap[w.heap.size]? = some (.cells #[.int .i64 0, .int .i64 0, .slice none 0 0] 48 (0, 0))) := by
    show _ = _
    rw [hwa, heap_alloc_old _ _ hz1]
    exact HR1.out
  have d0 : wa.cell? ⟨w1.heap.size, 0, none⟩ = some (.string ⟨#[105, 109, 97, 103, 101]⟩) := cellT hTL rfl
  have d1 : wa.cell? ⟨w1.heap.size, 1, none⟩ = some (.string ⟨(Lib.decDigits W).toArray⟩) := cellT hTL rfl
  have d2 : wa.cell? ⟨w1.heap.size, 2, none⟩ = some (.string ⟨(Lib.decDigits H).toArray⟩) := cellT hTL rfl
  have hzr : w.heap.size < wa.heap.size := by omega
  have HZR := Lib.hid hzr
  clear hwa hTL hML1 HCUT HSPL HML
  go_wp2_with fail
  refine (HSW.out _).mono ?_
  rintro e w3 ⟨rfl, rfl⟩
  go_wp2_with fail
  refine (HSH.out _).mono ?_
  rintro e w4 ⟨rfl, rfl⟩
  obtain ⟨ii, hi, hz0, hz1', hz2⟩ := info_parts infoInt
  go_wp2_with fail
  clear d0 d1 d2 hzw hzr
  go_loopw [13, 14] (fun i x wr => ∃ p : Nat, p ≤ H * (W + 1) ∧ i = .int .i64 p ∧ Below wa.heap.size wa wr ∧ wa.heap.size + 1 ≤ wr.heap.size ∧ ∃ lv : Value, Hid (wr.heap[wa.heap.size]? = some (.cells #[.int .i64 W, .int .i64 H, lv] 48 (0, 0))) ∧
      wr.ownsRow (wa.heap.size + 1) 3 1 lv (lvN W p) ((L.take (lvN W p)).map (Value.int .i64)))
    (fun i _ _ => H * (W + 1) - (intOf i).toNat)
  case atStart => exact ⟨0, by omega, rfl, by go_grown, by simp, .slice none 0 0, heap_alloc_new _ _, by rw [lvN_zero]; exact World.ownsRow_nil _ _ _ _⟩
  case round =>
    obtain ⟨p, hp, rfl, hbel, hsz, lv, HT, hown⟩ := hrel
    by_cases hpl : p < H * (W + 1)
    · have hpr : p < r.size := by rw [HRS.out]; exact hpl
      have hgp := hrg.out p hpr
      by_cases hpm : p % (W + 1) = W
      · have hm : ((p : Int) % ((W : Int) + 1) == (W : Int)) = true := by
          have : (p : Int) % ((W : Int) + 1) = ((p % (W + 1) : Nat) : Int) := rfl
          rw [this, hpm]; simp
        rw [rowG_read_end W L p hpm] at hgp
        have hb10 : ((r[p].toNat : Int) != 10) = false := by rw [hgp]; rfl
        have HS : Hid (lvN W (p + 1) = lvN W p) := by show _ = _; rw [lvN_step, if_pos hpm]
        clear hgp hpm
        go_wp2_with fail
        go_roundw
        case rel => exact ⟨p + 1, by omega, by go_num, hbel, hsz, lv, HT, by rw [HS.out]; exact hown⟩
        case measure => simp [intOf]; omega
      · have hm : ((p : Int) % ((W : Int) + 1) == (W : Int)) = false := by
          have : (p : Int) % ((W : Int) + 1) = ((p % (W + 1) : Nat) : Int) := rfl
          rw [this, beq_eq_false_iff_ne]; omega
        have hkl : lvN W p < L.length := by rw [HN.out]; exact lvN_lt W H p hpl hpm
        have hz := HV.out (L.getD (lvN W p) 0) (by rw [List.getD, List.getElem?_eq_getElem hkl]; exact List.getElem_mem hkl)
        rw [rowG_read W L p hpm] at hgp
        have HS : Hid (lvN W (p + 1) = lvN W p + 1) := by show _ = _; rw [lvN_step, if_neg hpm]
        have HTK : Hid (L.take (lvN W p + 1) = L.take (lvN W p) ++ [L.getD (lvN W p) 0]) := by
          show _ = _
          rw [List.take_add_one, List.getD, List.getElem?_eq_getElem hkl]
          rfl
        have hkb : lvN W p ≤ 4200 := by have : lvN W p ≤ p := Nat.sub_le _ _; omega
        have hlen : lvN W p ≤ L.length := by omega
        generalize L.getD (lvN W p) 0 = z at *
        have HIX : Hid (∀ w, Calls Tryd.prog 41 #[.string ⟨#[48, 49, 50, 51, 52, 53, 54, 55, 56, 57, 97, 98, 99, 100, 101, 102]⟩, .int .u8 (r[p].toNat : Int)] w fun e w' => e = .returned (.int .i64 z) ∧ w = w') := by
          intro w
          have h0 := Tryd.strings_IndexByte ⟨#[48, 49, 50, 51, 52, 53, 54, 55, 56, 57, 97, 98, 99, 100, 101, 102]⟩ (r[p].toNat : Int) w
          have e1 : ((r[p].toNat : Int)).toNat.toUInt8 = hexD.getD z.toNat 0 := by
            rw [← hgp, Int.toNat_natCast]
            exact UInt8.ofNat_toNat
          rw [e1] at h0
          have e2 : Lib.indexByte (⟨#[48, 49, 50, 51, 52, 53, 54, 55, 56, 57, 97, 98, 99, 100, 101, 102]⟩ : ByteArray).data.toList (hexD.getD z.toNat 0) = z := hex_find z hz.1 hz.2
          rw [e2] at h0
          exact h0.mono (fun e w' h => ⟨h.1, h.2.symm⟩)
        have hzn : decide (z < 0) = false := decide_eq_false (by omega)
        have hzl : 0 ≤ z := hz.1
        have hzu : z ≤ 15 := hz.2
        obtain ⟨la, lc, rfl⟩ := ownsRow_form hown
        have hltT : wa.heap.size < wr.heap.size := hsz
        have cT : wr.cell? ⟨wa.heap.size, 2, none⟩ = some (.slice la (lvN W p) lc) := cellT HT.out rfl
        clear hgp hpm hkl hz
        go_wp2_with (first | (go_at_call 41; refine (HIX.out _).mono ?_; rintro e w5 ⟨rfl, rfl⟩) | (at_builtin; refine wpList_append1 (B := wa.heap.size + 1) (W := wr) (w0 := wr) (Below.refl _ _) rfl _ _ 33 rfl 3 ii (.int .i64 0) 8 Tryd.underlying33 hi hz0 hz1' hz2 rfl _ _ _ rfl hown (.int .i64 z) rfl rfl (by unfold maxLen; omega) (by omega) (Nat.le_refl _) hsz ?_; intro v' w' hown' hbel' hsz'; obtain ⟨g2, c2, rfl, hg2⟩ := ownsRow_pos hown' (Nat.succ_pos _); have hT' := (hbel'.block wa.heap.size (Nat.lt_succ_self _)).trans HT.out; have cT' : w'.cell? ⟨wa.heap.size, 2, none⟩ = some (.slice la (lvN W p) lc) := cellT hT' rfl; have fT' : w'.frozen? ⟨wa.heap.size, 2, none⟩ = false := frozenT hT'))
        go_roundw
        case rel =>
          refine ⟨p + 1, by omega, by go_num, (hbel.trans (hbel'.mono (Nat.le_succ _))).setCell (Nat.le_refl _) _, by simpa using hsz', _, heap_setCell_same _ _ 2 _ _ _ hT', ?_⟩
          rw [HS.out, HTK.out, List.map_append]
          exact ownsRow_setCell_below hown' (a := ⟨wa.heap.size, 2, none⟩) (Nat.lt_succ_self _) _
        case measure => simp [intOf]; omega
    · have hpr : r.size ≤ p := by rw [HRS.out]; omega
      have eL : lvN W p = L.length := by
        have : p = H * (W + 1) := by omega
        rw [this, lvN_all, HN.out]
      rw [eL, List.take_length] at hown
      obtain ⟨la, lc, rfl⟩ := ownsRow_form hown
      have hltT : wa.heap.size < wr.heap.size := hsz
      have cT0 : wr.cell? ⟨wa.heap.size, 0, none⟩ = some (.int .i64 W) := cellT HT.out rfl
      have cT1 : wr.cell? ⟨wa.heap.size, 1, none⟩ = some (.int .i64 H) := cellT HT.out rfl
      have cT2 : wr.cell? ⟨wa.heap.size, 2, none⟩ = some (.slice la L.length lc) := cellT HT.out rfl
      have HSL := Lib.hid (Sl.of_own hown (by decide))
      have HOW := Lib.hid hown
      have HBA : Hid (Below w.heap.size w wr) := HW2.out.trans (hbel.mono HW2.out.size)
      have HRr : Hid (wr.heap[w.heap.size]? = some (.cells #[.int .i64 0, .int .i64 0, .slice none 0 0] 48 (0, 0))) := (hbel.block _ HZR.out).trans HRA.out
      have HZ2 : Hid (w.heap.size < wr.heap.size) := by have := HZR.out; show _ < _; omega
      clear eL
      go_wp2_with fail
      refine (check_any W H _ L _ HSL.out).mono ?_
      rintro e w9 ⟨rfl, hb9⟩
      rw [HC.out]
      have HR9 : w9.heap[w.heap.size]? = some (.cells #[.int .i64 0, .int .i64 0, .slice none 0 0] 48 (0, 0)) := (hb9.block _ HZ2.out).trans HRr.out
      have HT9 := (hb9.block _ hltT).trans HT.out
      have hz9 := hb9.size
      have g0 : w9.cell? ⟨wa.heap.size, 0, none⟩ = some (.int .i64 W) := cellT HT9 rfl
      have g1 : w9.cell? ⟨wa.heap.size, 1, none⟩ = some (.int .i64 H) := cellT HT9 rfl
      have g2 : w9.cell? ⟨wa.heap.size, 2, none⟩ = some (.slice la L.length lc) := cellT HT9 rfl
      have r0 : w9.cell? ⟨w.heap.size, 0, none⟩ = some (.int .i64 0) := cellT HR9 rfl
      have r1 : w9.cell? ⟨w.heap.size, 1, none⟩ = some (.int .i64 0) := cellT HR9 rfl
      have r2 : w9.cell? ⟨w.heap.size, 2, none⟩ = some (.slice none 0 0) := cellT HR9 rfl
      have f0 : w9.frozen? ⟨w.heap.size, 0, none⟩ = false := frozenT HR9
      have f1 : w9.frozen? ⟨w.heap.size, 1, none⟩ = false := frozenT HR9
      have f2 : w9.frozen? ⟨w.heap.size, 2, none⟩ = false := frozenT HR9
      have HO9 := Lib.hid (ownsRow_keep HOW.out hb9)
      have HB9 : Hid (Below w.heap.size w w9) := HBA.out.trans (hb9.mono HBA.out.size)
      have hlt9 : w.heap.size < w9.heap.size := by have := HZ2.out; omega
      have hlt10 : wa.heap.size < w9.heap.size := by omega
      clear hb9 HR9 HT9
      go_wp2_with fail
      refine bodyPost_ret (v := .tuple #[.agg #[.int .i64 W, .int .i64 H, .slice la L.length lc], .int .i64 0]) ?_ rfl ⟨_, rfl, ?_, ?_⟩
      · simp [results, Tryd.results19, go_sem, r0, r1, r2]
      · refine Below.setCell (Below.setCell (Below.setCell HB9.out ?_ _) ?_ _) ?_ _
        all_goals (simp; try omega)
      · refine Sl.of_own (ownsRow_setCell_below (ownsRow_setCell_below (ownsRow_setCell_below HO9.out ?_ _) ?_ _) ?_ _) (by decide)
        all_goals (have := HZR.out; simp; omega)
end Go.Proofs.YtjmnnnjddbmiaaaDoor
