/- asset.ImageString: what it writes. -/
import Derived.Test.YtjmnnnjddbmiaaaDoorProg
import Derived.Test.YtjmnnnjddbmiaaaDoorShelf
import Derived.Test.YtjmnnnjddbmiaaaDoorImgC
import Derived.Test.YtjmnnnjddbmiaaaDoorImgP
import Derived.Test.YtjmnnnjddbmiaaaDoorMark
namespace Go.Proofs.YtjmnnnjddbmiaaaDoor
open Go.RowKit Mh
set_option linter.unusedVariables false

/-- The first line of an image's text. -/
def imgHead (W H : Nat) : List UInt8 := [105, 109, 97, 103, 101, 32] ++ Lib.decDigits W ++ [32] ++ Lib.decDigits H ++ [10]
def imgText (W H : Nat) (L : List Int) : List UInt8 := imgHead W H ++ imgRows W L (H * (W + 1))

theorem dec_len (i : Nat) (h : i < 100) : (Lib.decDigits i).length ≤ 2 := by
  have : ∀ i, i < 100 → (Lib.decDigits i).length ≤ 2 := by decide +kernel
  exact this i h

theorem imgString_bad (W H : Int) (lv : Value) (L : List Int) (w : World) (hl : Sl 1 w lv L.length (L.map (Value.int .i64))) (hc : chk W H L ≠ 0) :
    Calls Tryd.prog 18 #[.agg #[.int .i64 W, .int .i64 H, lv]] w fun e w' => e = .returned (.tuple #[.string ⟨#[]⟩, .int .i64 (chk W H L)]) ∧ Below w.heap.size w w' := by
  have HL := Lib.hid hl
  have hb : (chk W H L != 0) = true := by simpa using hc
  have hbel1 : Below w.heap.size w (w.alloc (.cells #[.int .i64 W, .int .i64 H, lv] 48)) := (Below.refl _ _).alloc (Nat.le_refl _) _
  have hlB := Lib.hid (hl.below hbel1)
  have hbel1 := Lib.hid hbel1
  clear hl hc
  go_enter Tryd.func18, Tryd.ntmps18
  go_wp2_with fail
  refine (check_any W H lv L _ hlB.out).mono ?_
  rintro e w2 ⟨rfl, hb2⟩
  go_wp2_with fail
  go_ret2
  exact ⟨rfl, hbel1.out.trans (hb2.mono (by simp))⟩

set_option maxRecDepth 100000 in
set_option maxHeartbeats 1000000 in
theorem imgString_ok (W H : Nat) (lv : Value) (L : List Int) (w : World) (hl : Sl 1 w lv L.length (L.map (Value.int .i64))) (hc : chk W H L = 0) (hW : 1 ≤ W ∧ W ≤ 64) (hH : 1 ≤ H ∧ H ≤ 64) (hn : L.length = W * H) (hlv : ∀ n ∈ L, 0 ≤ n ∧ n ≤ 15) :
    Calls Tryd.prog 18 #[.agg #[.int .i64 W, .int .i64 H, lv]] w fun e w' => e = .returned (.tuple #[.string ⟨(imgText W H L).toArray⟩, .int .i64 0]) ∧ Below w.heap.size w w' := by
  obtain ⟨b, off, c, rfl, hn0, hnc, hm, hlt, hcell⟩ := hl.2.resolve_left (fun h => by have := Nat.mul_le_mul hW.1 hH.1; omega)
  have hl2 : L.length ≤ 4096 := by rw [hn]; exact Nat.mul_le_mul hW.2 hH.2
  have HL := Lib.hid hl
  have HC := Lib.hid hc
  have HN := Lib.hid hn
  have HV := Lib.hid hlv
  have hbel1 : Below w.heap.size w (w.alloc (.cells #[.int .i64 W, .int .i64 H, .slice (some ⟨b, off, none⟩) L.length c] 48)) := (Below.refl _ _).alloc (Nat.le_refl _) _
  have hlB := Lib.hid (hl.below hbel1)
  have HB1 := Lib.hid hbel1
  obtain ⟨dw, hdw⟩ : ∃ d : ByteArray, d = ⟨(Lib.decDigits W).toArray⟩ := ⟨_, rfl⟩
  obtain ⟨dh, hdh⟩ : ∃ d : ByteArray, d = ⟨(Lib.decDigits H).toArray⟩ := ⟨_, rfl⟩
  have hsw : dw.size ≤ 2 := by rw [hdw]; show (Lib.decDigits W).toArray.size ≤ 2; simpa using dec_len W (by omega)
  have hsh : dh.size ≤ 2 := by rw [hdh]; show (Lib.decDigits H).toArray.size ≤ 2; simpa using dec_len H (by omega)
  have HDW := Lib.hid hdw
  have HDH := Lib.hid hdh
  have IW : Hid (∀ w, Calls Tryd.prog 38 #[.int .i64 (W : Int)] w fun e w' => e = .returned (.string dw) ∧ w' = w) := by rw [hdw]; exact Tryd.strconv_Itoa_small W (by omega)
  have IH : Hid (∀ w, Calls Tryd.prog 38 #[.int .i64 (H : Int)] w fun e w' => e = .returned (.string dh) ∧ w' = w) := by rw [hdh]; exact Tryd.strconv_Itoa_small H (by omega)
  have HCELL := Lib.hid (ints_cell hcell)
  clear hdw hdh hl hc hn hlv hbel1 hcell
  go_enter Tryd.func18, Tryd.ntmps18
  go_wp2_with fail
  refine (check_any W H _ L _ hlB.out).mono ?_
  rintro e w2 ⟨rfl, hb2⟩
  rw [HC.out]
  have hT2 := hb2.block w.heap.size (by simp)
  rw [heap_alloc_new] at hT2
  have c0 : w2.cell? ⟨w.heap.size, 0, none⟩ = some (.int .i64 W) := cellT hT2 rfl
  have c1 : w2.cell? ⟨w.heap.size, 1, none⟩ = some (.int .i64 H) := cellT hT2 rfl
  have c2 : w2.cell? ⟨w.heap.size, 2, none⟩ = some (.slice (some ⟨b, off, none⟩) L.length c) := cellT hT2 rfl
  have hlw2 : w.heap.size < w2.heap.size := by have := hb2.size; simp at this; omega
  have hB2 := HB1.out.trans (hb2.mono (by simp))
  have hS2 := Lib.hid (hlB.out.below hb2)
  have HT2 := Lib.hid hT2
  have HB2 := Lib.hid hB2
  have HC2 : Hid (∀ i, i < L.length → w2.cell? ⟨b, off + i, none⟩ = some (.int .i64 (L.getD i 0))) := fun i hi => (hB2.cell (p := ⟨b, off + i, none⟩) hlt).trans (HCELL.out i hi)
  have hltb : b < w2.heap.size := Nat.lt_trans hlt hlw2
  clear hT2 hb2 hB2
  have s1 := fun w => run_string_add_sum (P := Tryd.prog) (w := w) ⟨#[105, 109, 97, 103, 101, 32]⟩ dw (by rw [show (⟨#[105, 109, 97, 103, 101, 32]⟩ : ByteArray).size = 6 from rfl]; omega)
  have s2 := fun w => run_string_add_sum (P := Tryd.prog) (w := w) (⟨#[105, 109, 97, 103, 101, 32]⟩ ++ dw) ⟨#[32]⟩ (by rw [ByteArray.size_append, show (⟨#[105, 109, 97, 103, 101, 32]⟩ : ByteArray).size = 6 from rfl, show (⟨#[32]⟩ : ByteArray).size = 1 from rfl]; omega)
  have s3 := fun w => run_string_add_sum (P := Tryd.prog) (w := w) (⟨#[105, 109, 97, 103, 101, 32]⟩ ++ dw ++ ⟨#[32]⟩) dh (by rw [ByteArray.size_append, ByteArray.size_append, show (⟨#[105, 109, 97, 103, 101, 32]⟩ : ByteArray).size = 6 from rfl, show (⟨#[32]⟩ : ByteArray).size = 1 from rfl]; omega)
  have s4 := fun w => run_string_add_sum (P := Tryd.prog) (w := w) (⟨#[105, 109, 97, 103, 101, 32]⟩ ++ dw ++ ⟨#[32]⟩ ++ dh) ⟨#[10]⟩ (by rw [ByteArray.size_append, ByteArray.size_append, ByteArray.size_append, show (⟨#[105, 109, 97, 103, 101, 32]⟩ : ByteArray).size = 6 from rfl, show (⟨#[32]⟩ : ByteArray).size = 1 from rfl, show (⟨#[10]⟩ : ByteArray).size = 1 from rfl]; omega)
  have cv := fun w => run_bytes_of_string (P := Tryd.prog) w 9 62 5 (⟨#[105, 109, 97, 103, 101, 32]⟩ ++ dw ++ ⟨#[32]⟩ ++ dh ++ ⟨#[10]⟩) Tryd.underlying9 Tryd.underlying62 Tryd.underlying5
  go_wp2_with fail
  obtain ⟨i0, hi, hz0, hz1, hz2⟩ := info_parts infoU8
  go_region_with (go_at_call 38; first | (refine (IW.out _).mono ?_; rintro e w4 ⟨rfl, rfl⟩) | (refine (IH.out _).mono ?_; rintro e w4 ⟨rfl, rfl⟩))
  all_goals
    have hS : (⟨#[105, 109, 97, 103, 101, 32]⟩ ++ dw ++ ⟨#[32]⟩ ++ dh ++ ⟨#[10]⟩ : ByteArray).size = 6 + dw.size + 1 + dh.size + 1 := by
      simp only [ByteArray.size_append]
      rfl
    have hSl : (⟨#[105, 109, 97, 103, 101, 32]⟩ ++ dw ++ ⟨#[32]⟩ ++ dh ++ ⟨#[10]⟩ : ByteArray).data.toList = imgHead W H := by
      rw [HDW.out, HDH.out]
      simp [imgHead]
    have hsz5 : 6 + dw.size + 1 + dh.size + 1 ≤ 100 := by omega
    rw [← hS] at hsz5 ⊢
    clear s1 s2 s3 s4 cv hS
    generalize (⟨#[105, 109, 97, 103, 101, 32]⟩ ++ dw ++ ⟨#[32]⟩ ++ dh ++ ⟨#[10]⟩ : ByteArray) = S at *
    have hR := rowM_made w2.drew w2.heap.size 5 S (Nat.le_refl _) (by simp only [maxLen]; omega)
    rw [hSl] at hR
    have hlS : S.size = (imgHead W H).length := by rw [← hSl]; simp
    rw [hlS] at hR hsz5 ⊢
    generalize grownCap w2.drew (imgHead W H).length 0 5 = cp at *
    obtain ⟨w5, hw5⟩ : ∃ w5, w5 = (w2.alloc (Obj.cells (bytesRow S cp) 5 ((bytesRow S cp).size, (bytesRow S cp).size + 1))).drew.drew := ⟨_, rfl⟩
    have hR5 : RowM w5 w2.heap.size 5 (.slice (some ⟨w2.heap.size, 0, none⟩) (imgHead W H).length cp) (imgHead W H) := by rw [hw5]; exact hR
    have hb5 : Below w2.heap.size w2 w5 := by rw [hw5]; exact (((Below.refl _ _).alloc (Nat.le_refl _) _).drew).drew
    have hz5 : w2.heap.size ≤ w5.heap.size := hb5.size
    rw [← hw5]
    clear hw5 hR hSl hlS c0 c1 c2
    have hT5 := (hb5.block w.heap.size hlw2).trans HT2.out
    have c2 : w5.cell? ⟨w.heap.size, 2, none⟩ = some (.slice (some ⟨b, off, none⟩) L.length c) := cellT hT5 rfl
    go_wp2_with fail
    clear c2 hT5
    go_loopw [5, 6, 7, 27] (fun v x6 x7 i wr => ∃ k : Nat, k ≤ L.length ∧ i = .int .i64 k ∧ RowM wr w2.heap.size 5 v (imgHead W H ++ imgRows W L (lvAt W k)) ∧ Below w2.heap.size w2 wr ∧ w2.heap.size ≤ wr.heap.size)
      (fun _ _ _ i _ => L.length - (intOf i).toNat)
    case atStart => exact ⟨0, by omega, rfl, by simpa [imgRows, lvAt] using hR5, hb5, hz5⟩
    case round =>
      clear hR5 hb5 hz5
      obtain ⟨k, hk, rfl, hR, hbr, hzr⟩ := hrel
      by_cases hkl : k < L.length
      · have hTr := (hbr.block w.heap.size hlw2).trans HT2.out
        have cW : wr.cell? ⟨w.heap.size, 0, none⟩ = some (.int .i64 W) := cellT hTr rfl
        have hcz := (hbr.cell (p := ⟨b, off + k, none⟩) hltb).trans (HC2.out k hkl)
        have hz := HV.out (L.getD k 0) (by rw [List.getD, List.getElem?_eq_getElem hkl]; exact List.getElem_mem hkl)
        generalize hzz : L.getD k 0 = z at *
        have HZ := Lib.hid hzz
        have hzl : 0 ≤ z := hz.1
        have hzu : z ≤ 15 := hz.2
        have hll : (imgHead W H ++ imgRows W L (lvAt W k)).length + 1 ≤ 140737488355328 := by
          rw [List.length_append, imgRows_length]
          have := Nat.div_le_self k W
          unfold lvAt
          omega
        have HLL := Lib.hid hll
        have hmt : ((k : Int) + 1) % (W : Int) = (((k + 1) % W : Nat) : Int) := rfl
        clear hzz hz hll hTr
        by_cases hmz : (k + 1) % W = 0
        · rw [hmz] at hmt
          have hmt0 : (((k : Int) + 1) % (W : Int) == 0) = true := by rw [hmt]; rfl
          have HMZ := Lib.hid hmz
          have HLM : Hid ((imgHead W H ++ imgRows W L (lvAt W k) ++ [hexD.getD z.toNat 0]).length + 1 ≤ 140737488355328) := by
            have h9 : lvAt W k ≤ 2 * k := by have := Nat.div_le_self k W; unfold lvAt; omega
            show _ ≤ _
            simp only [List.length_append, imgRows_length, List.length_cons, List.length_nil]
            omega
          clear hmt hmz
          go_wp2_with (at_builtin; first | (refine wpList_append_byteM hbr rfl _ _ 62 rfl 5 i0 (.int .u8 0) Tryd.underlying62 hi hz0 hz1 hz2 rfl _ _ rfl hR _ rfl HLL.out (Nat.le_refl _) hzr ?_; intro v' w' hown' hbel' hsz'; have cW' : w'.cell? ⟨w.heap.size, 0, none⟩ = some (.int .i64 W) := cellT ((hbel'.block w.heap.size hlw2).trans HT2.out) rfl; rw [hexD_get _ (by omega)] at hown') | (refine wpList_append_byteM hbel' rfl _ _ 62 rfl 5 i0 (.int .u8 0) Tryd.underlying62 hi hz0 hz1 hz2 rfl _ _ rfl hown' 10 rfl HLM.out (Nat.le_refl _) hsz' ?_; intro v'' w'' hown'' hbel'' hsz''))
          go_roundw
          case rel =>
            refine ⟨k + 1, by omega, by go_num, ?_, hbel'', hsz''⟩
            rw [rows_step W L k hW.1, if_pos HMZ.out, HZ.out]
            simpa using hown''
          case measure => simp [intOf]; omega
        · have hmt0 : (((k : Int) + 1) % (W : Int) == 0) = false := by rw [hmt, beq_eq_false_iff_ne]; omega
          have HMZ := Lib.hid hmz
          clear hmt hmz
          go_wp2_with (at_builtin; refine wpList_append_byteM hbr rfl _ _ 62 rfl 5 i0 (.int .u8 0) Tryd.underlying62 hi hz0 hz1 hz2 rfl _ _ rfl hR _ rfl HLL.out (Nat.le_refl _) hzr ?_; intro v' w' hown' hbel' hsz'; have cW' : w'.cell? ⟨w.heap.size, 0, none⟩ = some (.int .i64 W) := cellT ((hbel'.block w.heap.size hlw2).trans HT2.out) rfl; rw [hexD_get _ (by omega)] at hown')
          go_roundw
          case rel =>
            refine ⟨k + 1, by omega, by go_num, ?_, hbel', hsz'⟩
            rw [rows_step W L k hW.1, if_neg HMZ.out, HZ.out]
            simpa using hown'
          case measure => simp [intOf]; omega
      · have e9 : lvAt W k = H * (W + 1) := by
          have : k = W * H := by have := HN.out; omega
          rw [this, lvAt_all W H hW.1]
        rw [e9] at hR
        have hcv := run_convert_rowM (P := Tryd.prog) wr 62 5 Tryd.underlying62 Tryd.underlying5 hR 9 Tryd.underlying9
        have HB9 := Lib.hid (HB2.out.trans (hbr.mono (by omega)))
        clear e9
        go_wp2_with fail
        go_ret2
        exact ⟨rfl, HB9.out⟩
end Go.Proofs.YtjmnnnjddbmiaaaDoor
