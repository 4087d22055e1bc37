/- lang.dayIn: what it returns. Conditions: sizes; the library's table of powers of ten is laid. · A day that was written by a pattern, read field by field: the plain part. No program. · lang.ReadDayIn of what was written. Conditions: the library's variables hold what they hold at the start. · lang.DayIn; LangDayRound: the walk. Conditions: the library's variables hold what they hold at the start. · The end of a law's row, whatever its arguments: where the call returned true and turned nothing that was there, the row's post holds. · Worlds that hold a seat's listed tables, for the witness: a table's cells by its datum (one or two levels of aggregates over integers). · A table that stands anywhere on a row's list of laid variables. No program. · The variable strconv.ErrRange, as it is laid, holds an error; the table of the powers of ten, as it is laid. · A language that was read as an argument, as it lies in memory. Conditions: none. · LangDayRound holds for every language, every pattern and every day. Conditions: the listed variables are tied to the program's text. -/
import Derived.Test.YtdolpehcfifecaaGreatDoorMeb
import Derived.Test.YtdolpehcfifecaaGreatDoorCalX
import Derived.Test.YtdolpehcfifecaaGreatDoorMbw
import Derived.Test.YtdolpehcfifecaaGreatDoorMdh
import Derived.WalkKit
import Derived.ProofKit
import Derived.OpenShut
import Derived.ShutString
import Derived.ChangeOld
import Derived.Below
import Derived.Deep.DeepHandedRow
import Derived.Lib.LaidTab
import Derived.Test.YtdolpehcfifecaaGreatDoorMgW
import Derived.Test.YtdolpehcfifecaaGreatDoorMea
import Derived.Test.YtdolpehcfifecaaGreatDoorRows
import Derived.Lib.SmallJoins
import Derived.Deep.Slices
import Derived.Deep.Fields
import Derived.ChangeSame
import Derived.Test.YtdolpehcfifecaaGreatDoorCards
import Derived.Test.YtdolpehcfifecaaGreatDoorTie
namespace Mh
open Go Go.RowKit Mh.Cal
set_option linter.unusedVariables false
/-- What dayIn makes of a day. -/
structure DayP (ms ds : List ByteArray) (day : Int) (fs : List Df) (s : ByteArray) : Prop where
  ex : ∃ Y M D : Nat, Ymd day Y M D ∧ s = ⟨(dayTx ms ds Y M D ((day + 3) % 7).toNat fs).toArray⟩
end Mh
namespace Go.Proofs.YtdolpehcfifecaaGreatDoor
open Go.RowKit Mh Mh.Cal
set_option linter.unusedVariables false
theorem infoU8d : (Tryz.prog.info? 5).map (fun i => (i.zero, i.size, i.bytes)) = some (some (.int .u8 0), 1, 1) := by kernel_rfl
/-- What dayIn returns. -/
def DyP (ms ds : List ByteArray) (day : Int) (R : Option (List Df)) (w : World) (e : Ending) (w' : World) : Prop :=
  Below w.heap.size w w' ∧ ((∃ fs s, R = some fs ∧ 0 ≤ day ∧ day ≤ 84005 ∧ DayP ms ds day fs s ∧ e = .returned (.tuple #[.string s, .int .i64 0])) ∨ ((R = none ∨ day < 0 ∨ 84005 < day) ∧ ∃ n : Int, n ≠ 0 ∧ e = .returned (.tuple #[.string ⟨#[]⟩, .int .i64 n])))
theorem DyP.no {ms ds : List ByteArray} {day : Int} {R : Option (List Df)} {w w' : World} {n : Int} (hr : R = none ∨ day < 0 ∨ 84005 < day) (hn : n ≠ 0) (hb : Below w.heap.size w w') : DyP ms ds day R w (.returned (.tuple #[.string ⟨#[]⟩, .int .i64 n])) w' := ⟨hb, .inr ⟨hr, n, hn, rfl⟩⟩
/-- The row of bytes in a round. -/
structure ByIn (W0 wr : World) (l : List UInt8) (vo : Value) : Prop where
  own : wr.ownsRow W0.heap.size 5 1 vo l.length (byteCells l)
  below : Below W0.heap.size W0 wr
theorem ByIn.next {W0 wr w3 : World} {l : List UInt8} {vo : Value} (h : ByIn W0 wr l vo) (hb : Below wr.heap.size wr w3) : ByIn W0 w3 l vo := ⟨mown_below h.own hb, h.below.trans (hb.mono h.below.size)⟩
theorem ByIn.push {W0 wr w3 : World} {l l' : List UInt8} {vo v' : Value} (h : ByIn W0 wr l vo) (hown : w3.ownsRow W0.heap.size 5 1 v' l'.length (byteCells l')) (hg : wr.grownBy w3 vo.ownBlock) : ByIn W0 w3 l' v' := by
  have hol := h.own.lt
  exact ⟨hown, h.below.grown hg h.below.size (fun k hk => (hol k hk).1)⟩
set_option maxRecDepth 100000 in
set_option maxHeartbeats 8000000 in
theorem gdayIn_any (nm pr gp pt : ByteArray) (fa ma da la ea : Option Addr) (fl ll el fc mc dc lc ec : Nat) (ms ds : List ByteArray) (p : ByteArray) (hp : p.size ≤ maxLen) (day : Int) (w : World)
    (hms : Ss w (.slice ma ms.length mc) ms) (hds : Ss w (.slice da ds.length dc) ds) (hm12 : ms.length = 0 ∨ ms.length = 12) (hd7 : ds.length = 0 ∨ ds.length = 7) (hm40 : ∀ s ∈ ms, s.size ≤ 40) (hd40 : ∀ s ∈ ds, s.size ≤ 40) (ht : Tab10 w) :
    Calls Tryz.prog 9 #[.agg #[.string nm, .string pr, .slice fa fl fc, .string gp, .string pt, .slice ma ms.length mc, .slice da ds.length dc, .slice la ll lc, .slice ea el ec], .string p, .int .i64 day] w (DyP ms ds day (fieldsF (decide (ms.length = 0)) (decide (ds.length = 0)) p) w) := by
  obtain ⟨W0, hW0⟩ : ∃ W0, W0 = w.alloc (.cells #[.string nm, .string pr, .slice fa fl fc, .string gp, .string pt, .slice ma ms.length mc, .slice da ds.length dc, .slice la ll lc, .slice ea el ec] 28) := ⟨_, rfl⟩
  have HW0 : Hid (W0.heap[w.heap.size]? = some (.cells #[.string nm, .string pr, .slice fa fl fc, .string gp, .string pt, .slice ma ms.length mc, .slice da ds.length dc, .slice la ll lc, .slice ea el ec] 28 (0, 0))) := by rw [hW0]; exact heap_alloc_new _ _
  have HB0 : Hid (Below w.heap.size w W0) := by rw [hW0]; exact below_alloc' _ _
  have hwl : w.heap.size < W0.heap.size := by rw [hW0]; simp
  have HX : Hid (∀ w', Below W0.heap.size W0 w' → Below w.heap.size w w') := fun w' hb => HB0.out.trans (hb.mono HB0.out.size)
  have HFI := Lib.hid (gfields_any nm pr gp pt fa ma da la ea fl ms.length ds.length ll el fc mc dc lc ec p hp W0)
  have HRF := Lib.hid (fun fs => fieldsF_some (mo := decide (ms.length = 0)) (da := decide (ds.length = 0)) (p := p) (fs := fs))
  generalize fieldsF _ _ p = R at HFI HRF ⊢
  unfold FdP at HFI
  have HDB := Lib.hid (fun w => Date_bad day w)
  obtain ⟨z0, z1, z2, z3, z4, z5, z6, z7, z8⟩ := nine_later (Below.refl _ W0) hwl HW0.out
  cases R with
  | none =>
    have HFI : Hid (Calls Tryz.prog 10 #[.agg #[.string nm, .string pr, .slice fa fl fc, .string gp, .string pt, .slice ma ms.length mc, .slice da ds.length dc, .slice la ll lc, .slice ea el ec], .string p] W0 fun e w' => Below W0.heap.size W0 w' ∧ ∃ n : Int, n ≠ 0 ∧ e = .returned (.tuple #[.slice none 0 0, .int .i64 n])) := HFI.out.mono fun e w' ⟨h1, h2⟩ => ⟨h1, by
      rcases h2 with ⟨fs, v, h, _⟩ | ⟨_, h⟩
      · cases h
      · exact h⟩
    clear HRF hms hds
    rw [hW0] at HFI z0 z1 z2 z3 z4 z5 z6 z7 z8
    rw [hW0] at HX
    go_enter Tryz.func9, Tryz.ntmps9
    go_upto_region 2 with (go_at_call 10; refine HFI.out.mono ?_; rintro e w1 ⟨hb1, n, hn, rfl⟩; have HB1 := Lib.hid (HX.out _ hb1); clear hb1)
    have hn0 : (n != 0) = true := by rw [bne_iff_ne]; exact hn
    have HN := Lib.hid hn
    clear hn
    go_wp2_with fail
    go_ret2
    exact DyP.no (.inl rfl) HN.out HB1.out
  | some fs =>
    obtain ⟨hf40, hfw, hfm⟩ := HRF.out fs rfl
    have HFW := Lib.hid hfw
    have HFM := Lib.hid hfm
    have HFI : Hid (Calls Tryz.prog 10 #[.agg #[.string nm, .string pr, .slice fa fl fc, .string gp, .string pt, .slice ma ms.length mc, .slice da ds.length dc, .slice la ll lc, .slice ea el ec], .string p] W0 fun e w' => Below W0.heap.size W0 w' ∧ ∃ v, FdAt w' v fs ∧ e = .returned (.tuple #[v, .int .i64 0])) := HFI.out.mono fun e w' ⟨h1, h2⟩ => ⟨h1, by
      rcases h2 with ⟨gs, v, h, h3, h4⟩ | ⟨h, _⟩
      · cases h; exact ⟨v, h4, h3⟩
      · cases h⟩
    clear HRF hfw hfm
    by_cases hbad : day < 0 ∨ 84005 < day
    · have HDB := Lib.hid (fun w => HDB.out w hbad)
      have HBAD := Lib.hid hbad
      clear hbad hms hds
      rw [hW0] at HFI z0 z1 z2 z3 z4 z5 z6 z7 z8
      rw [hW0] at HX
      go_enter Tryz.func9, Tryz.ntmps9
      go_wp2_with (first | (go_at_call 10; refine HFI.out.mono ?_; rintro e w1 ⟨hb1, v, hat, rfl⟩; have HB1 := Lib.hid (HX.out _ hb1); clear hb1 hat) | (go_at_call 21; refine (HDB.out _).mono ?_; rintro e w2 ⟨rfl, rfl⟩))
      go_ret2
      exact DyP.no (.inr HBAD.out) (by decide) HB1.out
    have hd0 : 0 ≤ day := by omega
    have hd1 : day ≤ 84005 := by omega
    have HDT := Lib.hid (fun w => Date_any day w hd0 hd1)
    have HWK := Lib.hid (fun w => Weekday_any day w hd0 hd1)
    have HTB : Hid (∀ w', Below W0.heap.size W0 w' → Tab10 w') := fun w' hb => ht.next (HX.out w' hb)
    have HMS : Hid (∀ w', Below W0.heap.size W0 w' → Ss w' (.slice ma ms.length mc) ms) := fun w' hb => hms.below (HX.out w' hb)
    have HDS : Hid (∀ w', Below W0.heap.size W0 w' → Ss w' (.slice da ds.length dc) ds) := fun w' hb => hds.below (HX.out w' hb)
    have HM40 := Lib.hid hm40
    have HD40 := Lib.hid hd40
    obtain ⟨bi, hbi, hbz0, hbz1, hbz2⟩ := info_parts infoU8d
    have HWZ : Hid (W0 = W0) := rfl
    clear hbad HDB hms hds ht hm40 hd40
    rw [hW0] at HFI z0 z1 z2 z3 z4 z5 z6 z7 z8
    go_enter Tryz.func9, Tryz.ntmps9
    go_wp2_with (first | (go_at_call 10; refine HFI.out.mono ?_; rintro e w1 ⟨hb1, v, hat, rfl⟩; obtain ⟨sa, sc, rfl, hlm, hget⟩ := hat.open; have HGET := Lib.hid hget; have HB1 : Hid (Below W0.heap.size W0 w1) := (by rw [hW0]; exact hb1); clear hb1 hat hget) | (go_at_call 21; refine (HDT.out _).mono ?_; rintro e w2 ⟨y, M, d, hY, rfl, rfl⟩; have hy0 := hY.y0; have hy1 := hY.y1; have hm0 := hY.m0; have hm1 := hY.m1; have hd0' := hY.d0; have hd31 := Int.le_trans hY.d1 (md_bd y M).2; have HY := Lib.hid hY; clear hY) | (go_at_call 22; refine (HWK.out _).mono ?_; rintro e w2 ⟨rfl, rfl⟩))
    obtain ⟨Y, rfl⟩ : ∃ Y : Nat, y = (Y : Int) := ⟨y.toNat, by omega⟩
    obtain ⟨D, rfl⟩ : ∃ D : Nat, d = (D : Int) := ⟨d.toNat, by omega⟩
    obtain ⟨W, hW⟩ : ∃ W : Nat, (day + 3) % 7 = (W : Int) := ⟨((day + 3) % 7).toNat, by omega⟩
    have hW6 : W ≤ 6 := by omega
    have HWT : Hid (((day + 3) % 7).toNat = W) := by show _ = _; omega
    have HI0 : Hid (ByIn w1 w1 [] (.slice none 0 0)) := ⟨World.ownsRow_nil _ _ _ _, Below.refl _ _⟩
    have HUP : Hid (∀ w', Below w1.heap.size w1 w' → Below W0.heap.size W0 w') := fun w' hb => HB1.out.trans (hb.mono HB1.out.size)
    rw [hW]
    clear hW
    obtain ⟨T, hT⟩ : ∃ T : Nat → List UInt8, T = fun k => dayTx ms ds Y M D W (fs.take k) := ⟨_, rfl⟩
    have HT0 : Hid (T 0 = []) := by show _ = _; rw [hT]; rfl
    have HTS : Hid (∀ k (hk : k < fs.length), T (k + 1) = T k ++ fieldTx ms ds Y M D W fs[k]) := fun k hk => by rw [hT]; exact dayTx_snoc ms ds Y M D W fs k hk
    have HTE : Hid (T fs.length = dayTx ms ds Y M D W fs) := by show _ = _; rw [hT]; show dayTx _ _ _ _ _ _ (fs.take fs.length) = _; rw [List.take_length]
    clear hT hW0 z0 z1 z2 z3 z4 z5 z6 z7 z8
    go_loopw [15, 45] (fun v15 v45 wx => ∃ k : Nat, k ≤ fs.length ∧ v45 = .int .i64 (k : Int) ∧ (T k).length ≤ 40 * k ∧ Hid (ByIn w1 wx (T k) v15)) (fun _ v _ => fs.length - dstr v)
    case atStart => exact ⟨0, Nat.zero_le _, rfl, by rw [HT0.out]; simp, by rw [HT0.out]; exact HI0.out⟩
    case round =>
      obtain ⟨k, hk, rfl, htl, HI⟩ := hrel
      clear HI0
      obtain ⟨va, vc, rfl⟩ := ownsRow_form HI.out.own
      by_cases hkl : k < fs.length
      · have q3 : decide ((k : Int) < (fs.length : Int)) = true := decide_eq_true (by omega)
        have q3N : decide (k < fs.length) = true := decide_eq_true hkl
        obtain ⟨ww, rfl⟩ : ∃ ww : World, ww = wr := ⟨_, rfl⟩
        obtain ⟨b, off, rfl, hsc1, hsc2, hblt, hc⟩ := HGET.out k hkl
        obtain ⟨d0, d1⟩ := dtwo_later HI.out.below hblt hc
        have HST := Lib.hid (HTS.out k hkl)
        have HCS := Lib.hid (df_cases (HFW.out _ (List.getElem_mem hkl)))
        have HLK := Lib.hid (HFM.out _ (List.getElem_mem hkl))
        generalize hfe : fs[k] = f at d0 d1 HST HCS HLK
        clear hfe hc
        have HB2w : Hid (Below ww.heap.size ww ((ww.alloc (.cells #[.string f.w, .int .u8 (f.c.toNat : Int)] 47)).alloc (.cells #[.int .u8 (f.c.toNat : Int)] 5))) := (below_alloc' _ _).trans ((below_alloc' _ _).mono (by simp))
        have HX1 : Hid ((ww.alloc (.cells #[.string f.w, .int .u8 (f.c.toNat : Int)] 47)).heap[ww.heap.size]? = some (.cells #[.string f.w, .int .u8 (f.c.toNat : Int)] 47 (0, 0))) := heap_alloc_new _ _
        have HX2 : Hid (((ww.alloc (.cells #[.string f.w, .int .u8 (f.c.toNat : Int)] 47)).alloc (.cells #[.int .u8 (f.c.toNat : Int)] 5)).heap[ww.heap.size]? = some (.cells #[.string f.w, .int .u8 (f.c.toNat : Int)] 47 (0, 0))) := ((below_alloc' _ _).block ww.heap.size (by simp)).trans HX1.out
        have HCV : Hid (∀ dst, Tryz.prog.underlying dst = some .string → (convert 63 dst (.slice (some ⟨ww.heap.size + 1, 0, none⟩) 1 1)).run Tryz.prog ((ww.alloc (.cells #[.string f.w, .int .u8 (f.c.toNat : Int)] 47)).alloc (.cells #[.int .u8 (f.c.toNat : Int)] 5)) = .ok (.string ⟨#[f.c]⟩) ((ww.alloc (.cells #[.string f.w, .int .u8 (f.c.toNat : Int)] 47)).alloc (.cells #[.int .u8 (f.c.toNat : Int)] 5))) := fun dst hd => by
          have h := run_convert_bytes_arg (P := Tryz.prog) ((ww.alloc (.cells #[.string f.w, .int .u8 (f.c.toNat : Int)] 47)).alloc (.cells #[.int .u8 (f.c.toNat : Int)] 5)) 63 5 Tryz.underlying63 Tryz.underlying5 (ww.alloc (.cells #[.string f.w, .int .u8 (f.c.toNat : Int)] 47)).heap.size 0 1 1 [(f.c.toNat : Int)] rfl
            (fun i hi => by rw [Nat.zero_add]; match i, hi with | 0, _ => exact cellT (heap_alloc_new _ _) rfl) dst hd
          have e : strOfNums [(f.c.toNat : Int)] = ⟨#[f.c]⟩ := by simp [strOfNums]
          have hsz : (ww.alloc (.cells #[.string f.w, .int .u8 (f.c.toNat : Int)] 47)).heap.size = ww.heap.size + 1 := by simp
          rw [e, hsz] at h
          exact h
        have hcv := HCV.out 9 Tryz.underlying9
        clear HCV
        obtain ⟨e0, e1⟩ := dpair_of_block HX1.out
        obtain ⟨g0, g1⟩ := dpair_of_block HX2.out
        have HIW := Lib.hid (HI.out.next HB2w.out)
        obtain ⟨l0, l1, l2, l3, l4, l5, l6, l7, l8⟩ := nine_later (HUP.out _ HIW.out.below) hwl HW0.out
        clear HI l0 l1 l2 l3 l4 l7 l8 HX1 HX2 HB2w
        rcases HCS.out with hx | hx | hx | hx | hx | hx | hx | hx
        · have t0 : (f.w.toList == [121, 121, 121, 121]) = false := dw_not (t := wY) rfl (by rw [hx]; decide)
          have t1 : (f.w.toList == [109, 109]) = false := dw_not (t := wM2) rfl (by rw [hx]; decide)
          have t2 : (f.w.toList == [109]) = false := dw_not (t := wM1) rfl (by rw [hx]; decide)
          have t3 : (f.w.toList == [100, 100]) = false := dw_not (t := wD2) rfl (by rw [hx]; decide)
          have t4 : (f.w.toList == [100]) = false := dw_not (t := wD1) rfl (by rw [hx]; decide)
          have t5 : (f.w.toList == [77, 77, 77, 77]) = false := dw_not (t := wMN) rfl (by rw [hx]; decide)
          have t6 : (f.w.toList == [87, 87, 87, 87]) = false := dw_not (t := wWN) rfl (by rw [hx]; decide)
          obtain ⟨S, hS⟩ : ∃ S : ByteArray, S = ⟨#[f.c]⟩ := ⟨_, rfl⟩
          have hSD : S.data.toList = [f.c] := by rw [hS]
          have hfx := fieldTx_B (ms := ms) (ds := ds) (Y := Y) (M := M) (D := D) (W := W) hx
          rw [← hS] at hcv
          have hS40 : S.size ≤ 1 := by rw [hS]; exact Nat.le_refl 1
          have HSE : Hid (T k ++ S.data.toList = T (k + 1)) := by show _ = _; rw [HST.out, hfx, hSD]
          have hSL : S.data.toList.length = S.size := by simp
          clear hx hfx HCS HLK HST hSD hS
          go_wp2_with (at_builtin; refine wpList_append_str rfl _ _ 63 9 rfl w1.heap.size 5 bi Tryz.underlying63 Tryz.underlying9 hbi hbz0 hbz1 hbz2 _ (T k) rfl HIW.out.own S rfl (by omega) HIW.out.below.size ?_; intro v3 w3 hown3 hgr3 hat3; rw [HSE.out] at hown3; obtain ⟨ra, rc, rfl⟩ := ownsRow_form hown3; have HFD := Lib.hid (HIW.out.push hown3 hgr3); clear hown3 hgr3 hat3)
          go_roundw
          case rel => exact ⟨k + 1, by omega, by go_num, by rw [← HSE.out, List.length_append]; omega, HFD⟩
          case measure => simp [dstr]; omega
        · have t0 : (f.w.toList == [121, 121, 121, 121]) = true := dw_is (t := wY) rfl hx
          have HPD := Lib.hid (gpadded_any Y 4 (by omega) (by omega) _ (HTB.out _ (HUP.out _ HIW.out.below)))
          have hfx := fieldTx_Y (ms := ms) (ds := ds) (Y := Y) (M := M) (D := D) (W := W) hx
          have hpb := pad_bound Y 4 (by omega) (by omega)
          obtain ⟨S, hS⟩ : ∃ S : ByteArray, S = ⟨(padL Y 4).toArray⟩ := ⟨_, rfl⟩
          have hSD : S.data.toList = padL Y 4 := by rw [hS]
          rw [← hS] at HPD
          have hSL0 : S.data.toList.length = S.size := by simp
          rw [hSD] at hSL0
          have hS40 : S.size ≤ 40 := by omega
          clear hpb hSL0
          have HSE : Hid (T k ++ S.data.toList = T (k + 1)) := by show _ = _; rw [HST.out, hfx, hSD]
          have hSL : S.data.toList.length = S.size := by simp
          clear hx hfx HCS HLK HST hSD hS
          go_wp2_with (first | (go_at_call 23; refine HPD.out.mono ?_; rintro e w2 ⟨rfl, hb2⟩; have HI3 := Lib.hid (HIW.out.next hb2); clear hb2) | (at_builtin; refine wpList_append_str rfl _ _ 63 9 rfl w1.heap.size 5 bi Tryz.underlying63 Tryz.underlying9 hbi hbz0 hbz1 hbz2 _ (T k) rfl HI3.out.own S rfl (by omega) HI3.out.below.size ?_; intro v3 w3 hown3 hgr3 hat3; rw [HSE.out] at hown3; obtain ⟨ra, rc, rfl⟩ := ownsRow_form hown3; have HFD := Lib.hid (HI3.out.push hown3 hgr3); clear hown3 hgr3 hat3))
          go_roundw
          case rel => exact ⟨k + 1, by omega, by go_num, by rw [← HSE.out, List.length_append]; omega, HFD⟩
          case measure => simp [dstr]; omega
        · have t0 : (f.w.toList == [121, 121, 121, 121]) = false := dw_not (t := wY) rfl (by rw [hx]; decide)
          have t1 : (f.w.toList == [109, 109]) = true := dw_is (t := wM2) rfl hx
          have hw4 : f.w.size ≤ 4 := by rw [hx]; decide
          have HPD := Lib.hid (gpadded_any M f.w.size (by omega) (by omega) _ (HTB.out _ (HUP.out _ HIW.out.below)))
          have hfx := fieldTx_M (ms := ms) (ds := ds) (Y := Y) (M := M) (D := D) (W := W) (.inl hx)
          have hpb := pad_bound M f.w.size (by omega) (by omega)
          obtain ⟨S, hS⟩ : ∃ S : ByteArray, S = ⟨(padL M f.w.size).toArray⟩ := ⟨_, rfl⟩
          have hSD : S.data.toList = padL M f.w.size := by rw [hS]
          rw [← hS] at HPD
          have hSL0 : S.data.toList.length = S.size := by simp
          rw [hSD] at hSL0
          have hS40 : S.size ≤ 40 := by omega
          clear hpb hSL0
          have HSE : Hid (T k ++ S.data.toList = T (k + 1)) := by show _ = _; rw [HST.out, hfx, hSD]
          have hSL : S.data.toList.length = S.size := by simp
          clear hx hfx HCS HLK HST hSD hS
          go_wp2_with (first | (go_at_call 23; refine HPD.out.mono ?_; rintro e w2 ⟨rfl, hb2⟩; have HI3 := Lib.hid (HIW.out.next hb2); clear hb2) | (at_builtin; refine wpList_append_str rfl _ _ 63 9 rfl w1.heap.size 5 bi Tryz.underlying63 Tryz.underlying9 hbi hbz0 hbz1 hbz2 _ (T k) rfl HI3.out.own S rfl (by omega) HI3.out.below.size ?_; intro v3 w3 hown3 hgr3 hat3; rw [HSE.out] at hown3; obtain ⟨ra, rc, rfl⟩ := ownsRow_form hown3; have HFD := Lib.hid (HI3.out.push hown3 hgr3); clear hown3 hgr3 hat3))
          go_roundw
          case rel => exact ⟨k + 1, by omega, by go_num, by rw [← HSE.out, List.length_append]; omega, HFD⟩
          case measure => simp [dstr]; omega
        · have t0 : (f.w.toList == [121, 121, 121, 121]) = false := dw_not (t := wY) rfl (by rw [hx]; decide)
          have t1 : (f.w.toList == [109, 109]) = false := dw_not (t := wM2) rfl (by rw [hx]; decide)
          have t2 : (f.w.toList == [109]) = true := dw_is (t := wM1) rfl hx
          have hw4 : f.w.size ≤ 4 := by rw [hx]; decide
          have HPD := Lib.hid (gpadded_any M f.w.size (by omega) (by omega) _ (HTB.out _ (HUP.out _ HIW.out.below)))
          have hfx := fieldTx_M (ms := ms) (ds := ds) (Y := Y) (M := M) (D := D) (W := W) (.inr hx)
          have hpb := pad_bound M f.w.size (by omega) (by omega)
          obtain ⟨S, hS⟩ : ∃ S : ByteArray, S = ⟨(padL M f.w.size).toArray⟩ := ⟨_, rfl⟩
          have hSD : S.data.toList = padL M f.w.size := by rw [hS]
          rw [← hS] at HPD
          have hSL0 : S.data.toList.length = S.size := by simp
          rw [hSD] at hSL0
          have hS40 : S.size ≤ 40 := by omega
          clear hpb hSL0
          have HSE : Hid (T k ++ S.data.toList = T (k + 1)) := by show _ = _; rw [HST.out, hfx, hSD]
          have hSL : S.data.toList.length = S.size := by simp
          clear hx hfx HCS HLK HST hSD hS
          go_wp2_with (first | (go_at_call 23; refine HPD.out.mono ?_; rintro e w2 ⟨rfl, hb2⟩; have HI3 := Lib.hid (HIW.out.next hb2); clear hb2) | (at_builtin; refine wpList_append_str rfl _ _ 63 9 rfl w1.heap.size 5 bi Tryz.underlying63 Tryz.underlying9 hbi hbz0 hbz1 hbz2 _ (T k) rfl HI3.out.own S rfl (by omega) HI3.out.below.size ?_; intro v3 w3 hown3 hgr3 hat3; rw [HSE.out] at hown3; obtain ⟨ra, rc, rfl⟩ := ownsRow_form hown3; have HFD := Lib.hid (HI3.out.push hown3 hgr3); clear hown3 hgr3 hat3))
          go_roundw
          case rel => exact ⟨k + 1, by omega, by go_num, by rw [← HSE.out, List.length_append]; omega, HFD⟩
          case measure => simp [dstr]; omega
        · have t0 : (f.w.toList == [121, 121, 121, 121]) = false := dw_not (t := wY) rfl (by rw [hx]; decide)
          have t1 : (f.w.toList == [109, 109]) = false := dw_not (t := wM2) rfl (by rw [hx]; decide)
          have t2 : (f.w.toList == [109]) = false := dw_not (t := wM1) rfl (by rw [hx]; decide)
          have t3 : (f.w.toList == [100, 100]) = true := dw_is (t := wD2) rfl hx
          have hw4 : f.w.size ≤ 4 := by rw [hx]; decide
          have HPD := Lib.hid (gpadded_any D f.w.size (by omega) (by omega) _ (HTB.out _ (HUP.out _ HIW.out.below)))
          have hfx := fieldTx_D (ms := ms) (ds := ds) (Y := Y) (M := M) (D := D) (W := W) (.inl hx)
          have hpb := pad_bound D f.w.size (by omega) (by omega)
          obtain ⟨S, hS⟩ : ∃ S : ByteArray, S = ⟨(padL D f.w.size).toArray⟩ := ⟨_, rfl⟩
          have hSD : S.data.toList = padL D f.w.size := by rw [hS]
          rw [← hS] at HPD
          have hSL0 : S.data.toList.length = S.size := by simp
          rw [hSD] at hSL0
          have hS40 : S.size ≤ 40 := by omega
          clear hpb hSL0
          have HSE : Hid (T k ++ S.data.toList = T (k + 1)) := by show _ = _; rw [HST.out, hfx, hSD]
          have hSL : S.data.toList.length = S.size := by simp
          clear hx hfx HCS HLK HST hSD hS
          go_wp2_with (first | (go_at_call 23; refine HPD.out.mono ?_; rintro e w2 ⟨rfl, hb2⟩; have HI3 := Lib.hid (HIW.out.next hb2); clear hb2) | (at_builtin; refine wpList_append_str rfl _ _ 63 9 rfl w1.heap.size 5 bi Tryz.underlying63 Tryz.underlying9 hbi hbz0 hbz1 hbz2 _ (T k) rfl HI3.out.own S rfl (by omega) HI3.out.below.size ?_; intro v3 w3 hown3 hgr3 hat3; rw [HSE.out] at hown3; obtain ⟨ra, rc, rfl⟩ := ownsRow_form hown3; have HFD := Lib.hid (HI3.out.push hown3 hgr3); clear hown3 hgr3 hat3))
          go_roundw
          case rel => exact ⟨k + 1, by omega, by go_num, by rw [← HSE.out, List.length_append]; omega, HFD⟩
          case measure => simp [dstr]; omega
        · have t0 : (f.w.toList == [121, 121, 121, 121]) = false := dw_not (t := wY) rfl (by rw [hx]; decide)
          have t1 : (f.w.toList == [109, 109]) = false := dw_not (t := wM2) rfl (by rw [hx]; decide)
          have t2 : (f.w.toList == [109]) = false := dw_not (t := wM1) rfl (by rw [hx]; decide)
          have t3 : (f.w.toList == [100, 100]) = false := dw_not (t := wD2) rfl (by rw [hx]; decide)
          have t4 : (f.w.toList == [100]) = true := dw_is (t := wD1) rfl hx
          have hw4 : f.w.size ≤ 4 := by rw [hx]; decide
          have HPD := Lib.hid (gpadded_any D f.w.size (by omega) (by omega) _ (HTB.out _ (HUP.out _ HIW.out.below)))
          have hfx := fieldTx_D (ms := ms) (ds := ds) (Y := Y) (M := M) (D := D) (W := W) (.inr hx)
          have hpb := pad_bound D f.w.size (by omega) (by omega)
          obtain ⟨S, hS⟩ : ∃ S : ByteArray, S = ⟨(padL D f.w.size).toArray⟩ := ⟨_, rfl⟩
          have hSD : S.data.toList = padL D f.w.size := by rw [hS]
          rw [← hS] at HPD
          have hSL0 : S.data.toList.length = S.size := by simp
          rw [hSD] at hSL0
          have hS40 : S.size ≤ 40 := by omega
          clear hpb hSL0
          have HSE : Hid (T k ++ S.data.toList = T (k + 1)) := by show _ = _; rw [HST.out, hfx, hSD]
          have hSL : S.data.toList.length = S.size := by simp
          clear hx hfx HCS HLK HST hSD hS
          go_wp2_with (first | (go_at_call 23; refine HPD.out.mono ?_; rintro e w2 ⟨rfl, hb2⟩; have HI3 := Lib.hid (HIW.out.next hb2); clear hb2) | (at_builtin; refine wpList_append_str rfl _ _ 63 9 rfl w1.heap.size 5 bi Tryz.underlying63 Tryz.underlying9 hbi hbz0 hbz1 hbz2 _ (T k) rfl HI3.out.own S rfl (by omega) HI3.out.below.size ?_; intro v3 w3 hown3 hgr3 hat3; rw [HSE.out] at hown3; obtain ⟨ra, rc, rfl⟩ := ownsRow_form hown3; have HFD := Lib.hid (HI3.out.push hown3 hgr3); clear hown3 hgr3 hat3))
          go_roundw
          case rel => exact ⟨k + 1, by omega, by go_num, by rw [← HSE.out, List.length_append]; omega, HFD⟩
          case measure => simp [dstr]; omega
        · have t0 : (f.w.toList == [121, 121, 121, 121]) = false := dw_not (t := wY) rfl (by rw [hx]; decide)
          have t1 : (f.w.toList == [109, 109]) = false := dw_not (t := wM2) rfl (by rw [hx]; decide)
          have t2 : (f.w.toList == [109]) = false := dw_not (t := wM1) rfl (by rw [hx]; decide)
          have t3 : (f.w.toList == [100, 100]) = false := dw_not (t := wD2) rfl (by rw [hx]; decide)
          have t4 : (f.w.toList == [100]) = false := dw_not (t := wD1) rfl (by rw [hx]; decide)
          have t5 : (f.w.toList == [77, 77, 77, 77]) = true := dw_is (t := wMN) rfl hx
          have hlen : ms.length = 12 := by have h := HLK.out.1 hx; have := of_decide_eq_false h; omega
          obtain ⟨J, hJ⟩ : ∃ J, J = M - 1 := ⟨_, rfl⟩
          have hJl : J < ms.length := by omega
          have hwJ : IntKind.i64.wrap ((M : Int) - 1) = (J : Int) := by rw [IntWalk.i64_in _ (by omega)]; omega
          have hJ2 : ((M : Int) - 1).toNat = J := by omega
          obtain ⟨ao, cc, hv, hkk⟩ := (HMS.out _ (HUP.out _ HIW.out.below)).key
          simp only [Value.slice.injEq, true_and] at hv
          obtain ⟨rfl, rfl⟩ := hv
          obtain ⟨nb, noff, rfl, hnb, hnc, _⟩ := hkk J hJl
          have hfx := fieldTx_MN (ms := ms) (ds := ds) (Y := Y) (M := M) (D := D) (W := W) hx
          have hgd : ms.getD J ⟨#[]⟩ = ms[J] := by rw [List.getD, List.getElem?_eq_getElem hJl]; rfl
          rw [← hJ, hgd] at hfx
          have hS40 : ms[J].size ≤ 40 := HM40.out _ (List.getElem_mem hJl)
          clear hgd hkk hlen
          generalize ms[J] = S at hfx hnc hS40
          have hncA : ((ww.alloc (.cells #[.string f.w, .int .u8 (f.c.toNat : Int)] 47)).alloc (.cells #[.int .u8 (f.c.toNat : Int)] 5)).cell? ⟨nb, noff + ((M : Int) - 1).toNat, none⟩ = some (.string S) := by rw [hJ2]; exact hnc
          have hncB : ((ww.alloc (.cells #[.string f.w, .int .u8 (f.c.toNat : Int)] 47)).alloc (.cells #[.int .u8 (f.c.toNat : Int)] 5)).cell? ⟨nb, noff + (M - 1), none⟩ = some (.string S) := by rw [← hJ]; exact hnc
          have hSD : S.data.toList = S.data.toList := rfl
          have HSE : Hid (T k ++ S.data.toList = T (k + 1)) := by show _ = _; rw [HST.out, hfx]
          have hSL : S.data.toList.length = S.size := by simp
          clear hx hfx HCS HLK HST hSD
          go_wp2_with (at_builtin; refine wpList_append_str rfl _ _ 63 9 rfl w1.heap.size 5 bi Tryz.underlying63 Tryz.underlying9 hbi hbz0 hbz1 hbz2 _ (T k) rfl HIW.out.own S rfl (by omega) HIW.out.below.size ?_; intro v3 w3 hown3 hgr3 hat3; rw [HSE.out] at hown3; obtain ⟨ra, rc, rfl⟩ := ownsRow_form hown3; have HFD := Lib.hid (HIW.out.push hown3 hgr3); clear hown3 hgr3 hat3)
          go_roundw
          case rel => exact ⟨k + 1, by omega, by go_num, by rw [← HSE.out, List.length_append]; omega, HFD⟩
          case measure => simp [dstr]; omega
        · have t0 : (f.w.toList == [121, 121, 121, 121]) = false := dw_not (t := wY) rfl (by rw [hx]; decide)
          have t1 : (f.w.toList == [109, 109]) = false := dw_not (t := wM2) rfl (by rw [hx]; decide)
          have t2 : (f.w.toList == [109]) = false := dw_not (t := wM1) rfl (by rw [hx]; decide)
          have t3 : (f.w.toList == [100, 100]) = false := dw_not (t := wD2) rfl (by rw [hx]; decide)
          have t4 : (f.w.toList == [100]) = false := dw_not (t := wD1) rfl (by rw [hx]; decide)
          have t5 : (f.w.toList == [77, 77, 77, 77]) = false := dw_not (t := wMN) rfl (by rw [hx]; decide)
          have t6 : (f.w.toList == [87, 87, 87, 87]) = true := dw_is (t := wWN) rfl hx
          have hlen : ds.length = 7 := by have h := HLK.out.2 hx; have := of_decide_eq_false h; omega
          have hJl : W < ds.length := by omega
          obtain ⟨ao, cc, hv, hkk⟩ := (HDS.out _ (HUP.out _ HIW.out.below)).key
          simp only [Value.slice.injEq, true_and] at hv
          obtain ⟨rfl, rfl⟩ := hv
          obtain ⟨nb, noff, rfl, hnb, hnc, _⟩ := hkk W hJl
          have hfx := fieldTx_WN (ms := ms) (ds := ds) (Y := Y) (M := M) (D := D) (W := W) hx
          have hgd : ds.getD W ⟨#[]⟩ = ds[W] := by rw [List.getD, List.getElem?_eq_getElem hJl]; rfl
          rw [hgd] at hfx
          have hS40 : ds[W].size ≤ 40 := HD40.out _ (List.getElem_mem hJl)
          clear hgd hkk hlen
          generalize ds[W] = S at hfx hnc hS40
          have hSD : S.data.toList = S.data.toList := rfl
          have HSE : Hid (T k ++ S.data.toList = T (k + 1)) := by show _ = _; rw [HST.out, hfx]
          have hSL : S.data.toList.length = S.size := by simp
          clear hx hfx HCS HLK HST hSD
          go_wp2_with (at_builtin; refine wpList_append_str rfl _ _ 63 9 rfl w1.heap.size 5 bi Tryz.underlying63 Tryz.underlying9 hbi hbz0 hbz1 hbz2 _ (T k) rfl HIW.out.own S rfl (by omega) HIW.out.below.size ?_; intro v3 w3 hown3 hgr3 hat3; rw [HSE.out] at hown3; obtain ⟨ra, rc, rfl⟩ := ownsRow_form hown3; have HFD := Lib.hid (HIW.out.push hown3 hgr3); clear hown3 hgr3 hat3)
          go_roundw
          case rel => exact ⟨k + 1, by omega, by go_num, by rw [← HSE.out, List.length_append]; omega, HFD⟩
          case measure => simp [dstr]; omega
      · obtain rfl : k = fs.length := by omega
        have q3 : decide ((fs.length : Int) < (fs.length : Int)) = false := decide_eq_false (by omega)
        have q3N : decide (fs.length < fs.length) = false := decide_eq_false (by omega)
        have hcv := run_convert_own (P := Tryz.prog) wr 63 5 Tryz.underlying63 Tryz.underlying5 HI.out.own 9 Tryz.underlying9
        go_wp2_with fail
        go_ret2
        exact ⟨HX.out _ (HUP.out _ HI.out.below), .inl ⟨fs, _, rfl, hd0, hd1, ⟨⟨Y, M, D, HY.out, by rw [HWT.out, ← HTE.out]⟩⟩, rfl⟩⟩
end Go.Proofs.YtdolpehcfifecaaGreatDoor
namespace Mh
open Go Go.RowKit Mh.Cal
set_option linter.unusedVariables false
theorem read_num {u r : ByteArray} {n q most : Nat} (hu : u.data.toList = padL n q ++ r.data.toList) (ht : takeN u.data.toList most = (padL n q).length) : dval (u.data.toList.take (takeN u.data.toList most)) = n ∧ u.extract (takeN u.data.toList most) u.size = r := by
  have h := take_app_left (a := padL n q) (r := r.data.toList) rfl
  refine ⟨by rw [ht, hu, h.1, pad_val], ByteArray.ext (Array.toList_inj.1 ?_)⟩
  rw [ext_list, ht, hu, h.2]
theorem read_name {u r x : ByteArray} (hu : u.data.toList = x.data.toList ++ r.data.toList) : u.extract x.size u.size = r := by
  have h := take_app_left (a := x.data.toList) (r := r.data.toList) (k := x.size) (by simp)
  refine ByteArray.ext (Array.toList_inj.1 ?_)
  rw [ext_list, hu, h.2]
theorem read_byte {u r : ByteArray} {c : UInt8} (hu : u.data.toList = c :: r.data.toList) : ∃ h : 0 < u.size, u[0] = c ∧ u.extract 1 u.size = r := by
  have hl : 0 < u.size := by have : u.data.toList.length = u.size := by simp
                             rw [hu] at this; simp at this; omega
  refine ⟨hl, ?_, ByteArray.ext (Array.toList_inj.1 ?_)⟩
  · have : u.data.toList[0]'(by simpa using hl) = c := by simp only [hu, List.getElem_cons_zero]
    exact this
  · rw [ext_list, hu]; rfl
theorem fieldTx_bound {ms ds : List ByteArray} {Y M D W : Nat} {f : Df} (hY : Y ≤ 9999) (hM : M ≤ 12) (hD : D ≤ 31) (hm40 : ∀ s ∈ ms, s.size ≤ 40) (hd40 : ∀ s ∈ ds, s.size ≤ 40) (hf : f.w = ⟨#[]⟩ ∨ f.w ∈ words7) : (fieldTx ms ds Y M D W f).length ≤ 40 := by
  have gd : ∀ (L : List ByteArray) (j : Nat), (∀ s ∈ L, s.size ≤ 40) → (L.getD j ⟨#[]⟩).data.toList.length ≤ 40 := by
    intro L j h
    rw [List.getD]
    cases hj : L[j]? with
    | none => exact (by decide : (0 : Nat) ≤ 40)
    | some s => have := h s (List.mem_of_getElem? hj); simpa using this
  rcases df_cases hf with h | h | h | h | h | h | h | h
  · rw [fieldTx_B h]; simp
  · rw [fieldTx_Y h]; exact pad_bound _ _ hY (by omega)
  · rw [fieldTx_M (.inl h)]; exact pad_bound _ _ (by omega) (by rw [h]; decide)
  · rw [fieldTx_M (.inr h)]; exact pad_bound _ _ (by omega) (by rw [h]; decide)
  · rw [fieldTx_D (.inl h)]; exact pad_bound _ _ (by omega) (by rw [h]; decide)
  · rw [fieldTx_D (.inr h)]; exact pad_bound _ _ (by omega) (by rw [h]; decide)
  · rw [fieldTx_MN h]; exact gd _ _ hm40
  · rw [fieldTx_WN h]; exact gd _ _ hd40
theorem dayTx_bound {ms ds : List ByteArray} {Y M D W : Nat} (hY : Y ≤ 9999) (hM : M ≤ 12) (hD : D ≤ 31) (hm40 : ∀ s ∈ ms, s.size ≤ 40) (hd40 : ∀ s ∈ ds, s.size ≤ 40) : ∀ fs : List Df, (∀ f ∈ fs, f.w = ⟨#[]⟩ ∨ f.w ∈ words7) → (dayTx ms ds Y M D W fs).length ≤ 40 * fs.length
  | [], _ => Nat.zero_le _
  | f :: fs, h => by
    rw [dayTx_cons, List.length_append, List.length_cons]
    have h1 := fieldTx_bound (W := W) hY hM hD hm40 hd40 (h f List.mem_cons_self)
    have h2 := dayTx_bound (W := W) hY hM hD hm40 hd40 fs (fun g hg => h g (List.mem_cons_of_mem _ hg))
    omega
theorem dayP_unique {ms ds : List ByteArray} {day : Int} {fs : List Df} {s t : ByteArray} (h : DayP ms ds day fs s) (h' : DayP ms ds day fs t) : s = t := by
  obtain ⟨Y, M, D, hY, rfl⟩ := h.ex
  obtain ⟨Y', M', D', hY', rfl⟩ := h'.ex
  obtain ⟨h1, h2, h3⟩ := ymd_unique hY hY'
  obtain rfl : Y = Y' := by omega
  obtain rfl : D = D' := by omega
  subst h2
  rfl
/-- The rest behind the first k fields. -/
structure ReadK (ms ds : List ByteArray) (Y M D W : Nat) (fs : List Df) (R : Nat → ByteArray) (SY SM SD : Nat → Nat) : Prop where
  size : ∀ k, (R k).size ≤ 1600
  num : ∀ k (hk : k < fs.length) (n : Nat), (fs[k].w = wM2 ∨ fs[k].w = wM1) ∧ n = M ∨ (fs[k].w = wD2 ∨ fs[k].w = wD1) ∧ n = D → takeN (R k).data.toList 2 = (padL n fs[k].w.size).length ∧ fs[k].w.size ≤ takeN (R k).data.toList 2 ∧ fs[k].w.size ≤ 4 ∧ dval ((R k).data.toList.take (takeN (R k).data.toList 2)) = n ∧ (R k).extract (takeN (R k).data.toList 2) (R k).size = R (k + 1)
  year : ∀ k (hk : k < fs.length), fs[k].w = wY → takeN (R k).data.toList 4 = 4 ∧ dval ((R k).data.toList.take (takeN (R k).data.toList 4)) = Y ∧ (R k).extract (takeN (R k).data.toList 4) (R k).size = R (k + 1)
  mon : ∀ k (hk : k < fs.length), fs[k].w = wMN → ms.length = 12 ∧ nameP ms (R k).data.toList = some (M - 1) ∧ ∀ h : M - 1 < ms.length, (R k).extract ms[M - 1].size (R k).size = R (k + 1)
  wday : ∀ k (hk : k < fs.length), fs[k].w = wWN → ds.length = 7 ∧ nameP ds (R k).data.toList = some W ∧ ∀ h : W < ds.length, (R k).extract ds[W].size (R k).size = R (k + 1)
  byte : ∀ k (hk : k < fs.length), fs[k].w = ⟨#[]⟩ → ∃ h : 0 < (R k).size, (R k)[0] = fs[k].c ∧ (R k).extract 1 (R k).size = R (k + 1)
  fin : R fs.length = ⟨#[]⟩ ∧ SY fs.length = Y ∧ SM fs.length = M ∧ SD fs.length = D
  start : SY 0 = 0 ∧ SM 0 = 0 ∧ SD 0 = 0
  sy : ∀ k (hk : k < fs.length), SY (k + 1) = if isYear fs[k] = true then Y else SY k
  sm : ∀ k (hk : k < fs.length), SM (k + 1) = if isMon fs[k] = true then M else SM k
  sd : ∀ k (hk : k < fs.length), SD (k + 1) = if isDay fs[k] = true then D else SD k
theorem readK_mk {ms ds : List ByteArray} {Y M D W : Nat} {fs : List Df} (h : DayOk ms ds Y M D W fs) (hr : readB fs) (h40 : fs.length ≤ 40) (hm40 : ∀ s ∈ ms, s.size ≤ 40) (hd40 : ∀ s ∈ ds, s.size ≤ 40) :
    ∃ (R : Nat → ByteArray) (SY SM SD : Nat → Nat), ReadK ms ds Y M D W fs R SY SM SD ∧ R 0 = ⟨(dayTx ms ds Y M D W fs).toArray⟩ := by
  have hstep : ∀ k (hk : k < fs.length), dayTx ms ds Y M D W (fs.drop k) = fieldTx ms ds Y M D W fs[k] ++ dayTx ms ds Y M D W (fs.drop (k + 1)) := fun k hk => by rw [List.drop_eq_getElem_cons hk, dayTx_cons]
  have hsplit : ∀ k (hk : k < fs.length), fs = fs.take k ++ fs[k] :: fs.drop (k + 1) := fun k hk => by rw [← List.drop_eq_getElem_cons hk, List.take_append_drop]
  have htake : ∀ (p : Df → Bool) (n k : Nat) (hk : k < fs.length), seenN p n (fs.take (k + 1)) = if p fs[k] = true then n else seenN p n (fs.take k) := fun p n k hk => by
    rw [List.take_succ_eq_append_getElem hk, seen_snoc]
  refine ⟨fun k => ⟨(dayTx ms ds Y M D W (fs.drop k)).toArray⟩, fun k => seenN isYear Y (fs.take k), fun k => seenN isMon M (fs.take k), fun k => seenN isDay D (fs.take k), ⟨?_, ?_, ?_, ?_, ?_, ?_, ?_, ?_, ?_, ?_, ?_⟩, rfl⟩
  · intro k
    have := dayTx_bound (W := W) h.y1 h.m1 h.d1 hm40 hd40 (fs.drop k) (fun f hf => h.words f (List.mem_of_mem_drop hf))
    rw [List.length_drop] at this
    show (dayTx ms ds Y M D W (fs.drop k)).toArray.size ≤ 1600
    rw [List.size_toArray]; omega
  · intro k hk n hn
    have hm1 := h.m1; have hd1 := h.d1
    have hf : fs[k].w = wM2 ∨ fs[k].w = wM1 ∨ fs[k].w = wD2 ∨ fs[k].w = wD1 := by
      rcases hn with ⟨h1 | h1, _⟩ | ⟨h1 | h1, _⟩ <;> simp [h1]
    have hfx : fieldTx ms ds Y M D W fs[k] = padL n fs[k].w.size := by
      rcases hn with ⟨h1, rfl⟩ | ⟨h1, rfl⟩
      · exact fieldTx_M h1
      · exact fieldTx_D h1
    have hnum := h.num (hsplit k hk) (n := n) (by rcases hn with ⟨_, rfl⟩ | ⟨_, rfl⟩ <;> omega) hf
    have hu : ((⟨(dayTx ms ds Y M D W (fs.drop k)).toArray⟩ : ByteArray)).data.toList = padL n fs[k].w.size ++ ((⟨(dayTx ms ds Y M D W (fs.drop (k + 1))).toArray⟩ : ByteArray)).data.toList := by
      show dayTx _ _ _ _ _ _ (fs.drop k) = _ ++ dayTx _ _ _ _ _ _ (fs.drop (k + 1))
      rw [hstep k hk, hfx]
    have ht : takeN ((⟨(dayTx ms ds Y M D W (fs.drop k)).toArray⟩ : ByteArray)).data.toList 2 = (padL n fs[k].w.size).length := by rw [hu]; exact hnum.1
    have h2 := read_num hu ht
    refine ⟨ht, by rw [ht]; exact hnum.2.1, by have := hnum.2; omega, h2.1, h2.2⟩
  · intro k hk hw
    have hfx := fieldTx_Y (ms := ms) (ds := ds) (Y := Y) (M := M) (D := D) (W := W) hw
    have hy := year_read h.y0 h.y1 (dayTx ms ds Y M D W (fs.drop (k + 1)))
    have hu : ((⟨(dayTx ms ds Y M D W (fs.drop k)).toArray⟩ : ByteArray)).data.toList = padL Y 4 ++ ((⟨(dayTx ms ds Y M D W (fs.drop (k + 1))).toArray⟩ : ByteArray)).data.toList := by
      show dayTx _ _ _ _ _ _ (fs.drop k) = _ ++ dayTx _ _ _ _ _ _ (fs.drop (k + 1))
      rw [hstep k hk, hfx]
    have ht : takeN ((⟨(dayTx ms ds Y M D W (fs.drop k)).toArray⟩ : ByteArray)).data.toList 4 = 4 := by rw [hu]; exact hy.1
    have h2 := read_num hu (by rw [ht, hy.2])
    exact ⟨ht, h2.1, h2.2⟩
  · intro k hk hw
    have hl := h.hasM fs[k] (List.getElem_mem hk) hw
    have hm0 := h.m0; have hm1 := h.m1
    have hj : M - 1 < ms.length := by omega
    have hfx := fieldTx_MN (ms := ms) (ds := ds) (Y := Y) (M := M) (D := D) (W := W) hw
    have hgd : ms.getD (M - 1) ⟨#[]⟩ = ms[M - 1] := by rw [List.getD, List.getElem?_eq_getElem hj]; rfl
    rw [hgd] at hfx
    have hu : ((⟨(dayTx ms ds Y M D W (fs.drop k)).toArray⟩ : ByteArray)).data.toList = ms[M - 1].data.toList ++ ((⟨(dayTx ms ds Y M D W (fs.drop (k + 1))).toArray⟩ : ByteArray)).data.toList := by
      show dayTx _ _ _ _ _ _ (fs.drop k) = _ ++ dayTx _ _ _ _ _ _ (fs.drop (k + 1))
      rw [hstep k hk, hfx]
    exact ⟨hl, by rw [hu]; exact name_read h.nm hj _, fun _ => read_name hu⟩
  · intro k hk hw
    have hl := h.hasD fs[k] (List.getElem_mem hk) hw
    have hw1 := h.w1
    have hj : W < ds.length := by omega
    have hfx := fieldTx_WN (ms := ms) (ds := ds) (Y := Y) (M := M) (D := D) (W := W) hw
    have hgd : ds.getD W ⟨#[]⟩ = ds[W] := by rw [List.getD, List.getElem?_eq_getElem hj]; rfl
    rw [hgd] at hfx
    have hu : ((⟨(dayTx ms ds Y M D W (fs.drop k)).toArray⟩ : ByteArray)).data.toList = ds[W].data.toList ++ ((⟨(dayTx ms ds Y M D W (fs.drop (k + 1))).toArray⟩ : ByteArray)).data.toList := by
      show dayTx _ _ _ _ _ _ (fs.drop k) = _ ++ dayTx _ _ _ _ _ _ (fs.drop (k + 1))
      rw [hstep k hk, hfx]
    exact ⟨hl, by rw [hu]; exact name_read h.nd hj _, fun _ => read_name hu⟩
  · intro k hk hw
    have hfx := fieldTx_B (ms := ms) (ds := ds) (Y := Y) (M := M) (D := D) (W := W) hw
    refine read_byte (r := ⟨(dayTx ms ds Y M D W (fs.drop (k + 1))).toArray⟩) ?_
    show dayTx _ _ _ _ _ _ (fs.drop k) = _ :: dayTx _ _ _ _ _ _ (fs.drop (k + 1))
    rw [hstep k hk, hfx]; rfl
  · refine ⟨by rw [List.drop_length]; rfl, ?_, ?_, ?_⟩ <;> simp only [List.take_length]
    · exact seen_all hr.1
    · exact seen_all hr.2.1
    · exact seen_all hr.2.2.1
  · exact ⟨rfl, rfl, rfl⟩
  · exact fun k hk => htake _ _ k hk
  · exact fun k hk => htake _ _ k hk
  · exact fun k hk => htake _ _ k hk
end Mh
namespace Mh
open Go Go.RowKit Mh.Cal
set_option linter.unusedVariables false
theorem okNm_names {g p : ByteArray} {ms ds : List ByteArray} (h : okNm g p [ms, ds]) : namesOk ms ∧ namesOk ds ∧ (∀ s ∈ ms, s.size ≤ 40) ∧ (∀ s ∈ ds, s.size ≤ 40) := by
  obtain ⟨_, _, h3, h4, h5⟩ := h
  have key : ∀ (i : Nat) (L : List ByteArray), [ms, ds][i]? = some L → namesOk L ∧ ∀ s ∈ L, s.size ≤ 40 := by
    intro i L hL
    refine ⟨⟨fun j hj => ⟨(h3 i L hL j hj).1, fun c hc => ?_⟩, fun j hj k hk hjk => h5 i L hL j hj k hk hjk⟩, fun s hs => ?_⟩
    · have := (h3 i L hL j hj).2.2
      cases hb : digB c with
      | false => rfl
      | true => rw [List.any_eq_true.2 ⟨c, hc, hb⟩] at this; cases this
    · obtain ⟨j, hj, rfl⟩ := List.getElem_of_mem hs
      exact h4 i L hL j hj
  exact ⟨(key 0 ms rfl).1, (key 1 ds rfl).1, (key 0 ms rfl).2, (key 1 ds rfl).2⟩
theorem dayOk_mk {ms ds : List ByteArray} {p : ByteArray} {day : Int} {fs : List Df} {Y M D : Nat} {g q : ByteArray} (hn : okNm g q [ms, ds]) (hm : ms.length = 0 ∨ ms.length = 12) (hd : ds.length = 0 ∨ ds.length = 7)
    (hf : fieldsF (decide (ms.length = 0)) (decide (ds.length = 0)) p = some fs) (hY : Ymd day Y M D) (hr : readB fs) : DayOk ms ds Y M D ((day + 3) % 7).toNat fs := by
  obtain ⟨n1, n2, _, _⟩ := okNm_names hn
  obtain ⟨_, f2, f3⟩ := fieldsF_some hf
  have hd31 := Int.le_trans hY.d1 (md_bd (Y : Int) (M : Int)).2
  have a1 := hY.y0
  have a2 := hY.y1
  refine ⟨by omega, by omega, hY.m0, hY.m1, by omega, by omega, n1, n2, f2, fun f hf e => ?_, fun f hf e => ?_, hr.2.2.2⟩
  · have := of_decide_eq_false ((f3 f hf).1 e); omega
  · have := of_decide_eq_false ((f3 f hf).2 e); omega
end Mh
namespace Go.Proofs.YtdolpehcfifecaaGreatDoor
open Go.RowKit Mh Mh.Cal
set_option linter.unusedVariables false
/-- What ReadDayIn returns. -/
def RyP (day : Int) (w : World) (e : Ending) (w' : World) : Prop := Below w.heap.size w w' ∧ (e = .returned (.tuple #[.int .i64 0, .int .i64 1]) ∨ e = .returned (.tuple #[.int .i64 day, .int .i64 0]))
theorem RyP.no {day : Int} {w w' : World} (h : Below w.heap.size w w') : RyP day w (.returned (.tuple #[.int .i64 0, .int .i64 1])) w' := ⟨h, .inl rfl⟩
theorem RyP.yes {day : Int} {w w' : World} (h : Below w.heap.size w w') : RyP day w (.returned (.tuple #[.int .i64 day, .int .i64 0])) w' := ⟨h, .inr rfl⟩
set_option maxRecDepth 100000 in
set_option maxHeartbeats 8000000 in
theorem greadDay_any (L : Lg) (fv mv dv lv ev : Value) (p s : ByteArray) (day : Int) (fs : List Df) (w : World) (hpl : p.size ≤ maxLen) (hml : ML 0 w) (hev : EvAt w) (ht : Tab10 w) (h : LgAt w L fv mv dv lv ev)
    (hok : okLg L) (hR : fieldsF (decide (L.ms.length = 0)) (decide (L.ds.length = 0)) p = some fs) (h0 : 0 ≤ day) (h1 : day ≤ 84005) (hD : DayP L.ms L.ds day fs s) :
    Calls Tryz.prog 6 #[.agg #[.string L.nm, .string L.pr, fv, .string L.gp, .string L.pt, mv, dv, lv, ev], .string p, .string s] w (RyP day w) := by
  have hmz : 0 < w.heap.size := by obtain ⟨m, hm⟩ := hml; exact World.block_lt_of_cell? w _ hm
  have hes := hev.size
  obtain ⟨fa, fc, rfl⟩ : ∃ a c, fv = .slice a L.ru.length c := by
    obtain ⟨rows, hS, _⟩ := h.ru
    obtain ⟨a, c, e, _⟩ := Sl.shp hS
    exact ⟨a, c, e⟩
  obtain ⟨ma, mc, rfl, _⟩ := sl_form h.ms.1
  obtain ⟨da, dc, rfl, _⟩ := sl_form h.ds.1
  obtain ⟨la, lc, rfl, _⟩ := sl_form h.lt.1
  obtain ⟨ea, ec, rfl, _⟩ := sl_form h.es.1
  obtain ⟨W0, hW0⟩ : ∃ W0, W0 = w.alloc (.cells #[.string L.nm, .string L.pr, .slice fa L.ru.length fc, .string L.gp, .string L.pt, .slice ma L.ms.length mc, .slice da L.ds.length dc, .slice la L.lt.length lc, .slice ea L.es.length ec] 28) := ⟨_, rfl⟩
  have HW0 : Hid (W0.heap[w.heap.size]? = some (.cells #[.string L.nm, .string L.pr, .slice fa L.ru.length fc, .string L.gp, .string L.pt, .slice ma L.ms.length mc, .slice da L.ds.length dc, .slice la L.lt.length lc, .slice ea L.es.length ec] 28 (0, 0))) := by rw [hW0]; exact heap_alloc_new _ _
  have HB0 : Hid (Below w.heap.size w W0) := by rw [hW0]; exact below_alloc' _ _
  have hwl : w.heap.size < W0.heap.size := by rw [hW0]; simp
  have HX : Hid (∀ w', Below W0.heap.size W0 w' → Below w.heap.size w w') := fun w' hb => HB0.out.trans (hb.mono HB0.out.size)
  have HCK : Hid (Calls Tryz.prog 8 #[.agg #[.string L.nm, .string L.pr, .slice fa L.ru.length fc, .string L.gp, .string L.pt, .slice ma L.ms.length mc, .slice da L.ds.length dc, .slice la L.lt.length lc, .slice ea L.es.length ec]] W0 fun e w' => e = .returned (.int .i64 0) ∧ Below W0.heap.size W0 w') := (gcheckLang_any L _ _ _ _ _ W0 (hml.below HB0.out hmz) (hev.keep HB0.out hes) (h.keep HB0.out)).mono fun e w' ⟨n, h1, h2, h3⟩ => ⟨by rw [h1, h2.2 hok], h3⟩
  obtain ⟨hok1, hok2, hok3, hok4, hok5, hok6, hok7⟩ := hok
  obtain ⟨nm1, nm2, nm3, nm4⟩ := okNm_names hok5
  obtain ⟨f40, fw, fm⟩ := fieldsF_some hR
  have HFI : Hid (∀ w', Calls Tryz.prog 10 #[.agg #[.string L.nm, .string L.pr, .slice fa L.ru.length fc, .string L.gp, .string L.pt, .slice ma L.ms.length mc, .slice da L.ds.length dc, .slice la L.lt.length lc, .slice ea L.es.length ec], .string p] w' fun e w2 => ∃ v, FdAt w2 v fs ∧ e = .returned (.tuple #[v, .int .i64 0]) ∧ Below w'.heap.size w' w2) := fun w' => (gfields_any L.nm L.pr L.gp L.pt fa ma da la ea L.ru.length L.ms.length L.ds.length L.lt.length L.es.length fc mc dc lc ec p hpl w').mono fun e w2 ⟨h1, h2⟩ => by
    rcases h2 with ⟨gs, v, h, h3, h4⟩ | ⟨h, _⟩
    · rw [hR] at h; cases h; exact ⟨v, h4, h3, h1⟩
    · rw [hR] at h; cases h
  have HRD : Hid (∀ v w', FdAt w' v fs → Calls Tryz.prog 11 #[v] w' (RdP (readB fs) w')) := fun v w' hv => greadable_any fs v w' hv f40 fw
  have HDY : Hid (∀ w', Below W0.heap.size W0 w' → Calls Tryz.prog 9 #[.agg #[.string L.nm, .string L.pr, .slice fa L.ru.length fc, .string L.gp, .string L.pt, .slice ma L.ms.length mc, .slice da L.ds.length dc, .slice la L.lt.length lc, .slice ea L.es.length ec], .string p, .int .i64 day] w' fun e w2 => e = .returned (.tuple #[.string s, .int .i64 0]) ∧ Below w'.heap.size w' w2) := fun w' hb => (gdayIn_any L.nm L.pr L.gp L.pt fa ma da la ea L.ru.length L.lt.length L.es.length fc mc dc lc ec L.ms L.ds p hpl day w' (h.ms.below (HX.out w' hb)) (h.ds.below (HX.out w' hb)) hok4.1 hok4.2 nm3 nm4 (ht.next (HX.out w' hb))).mono fun e w2 ⟨h1, h2⟩ => by
    rcases h2 with ⟨gs, t, h, _, _, h3, h4⟩ | ⟨h | h | h, _⟩
    · rw [hR] at h; cases h; rw [dayP_unique h3 hD] at h4; exact ⟨h4, h1⟩
    · rw [hR] at h; cases h
    · omega
    · omega
  obtain ⟨Y, M, D, hY, hs⟩ := hD.ex
  obtain ⟨W, hW⟩ : ∃ W, ((day + 3) % 7).toNat = W := ⟨_, rfl⟩
  rw [hW] at hs
  have hW6 : W ≤ 6 := by omega
  have HRK : Hid (readB fs → ∃ (R : Nat → ByteArray) (SY SM SD : Nat → Nat), ReadK L.ms L.ds Y M D W fs R SY SM SD ∧ R 0 = s) := fun hr => by
    have h := readK_mk (dayOk_mk hok5 hok4.1 hok4.2 hR hY hr) hr f40 nm3 nm4
    rw [hW, ← hs] at h
    exact h
  have hYM := hY.m0; have hYM1 := hY.m1; have hY0 := hY.y0; have hY1 := hY.y1; have hYD := hY.d0
  have hD31 := Int.le_trans hY.d1 (md_bd (Y : Int) (M : Int)).2
  have hsz : s.size ≤ 1600 := by
    rw [hs]
    have := dayTx_bound (ms := L.ms) (ds := L.ds) (Y := Y) (M := M) (D := D) (W := W) (by omega) hYM1 (by omega) nm3 nm4 fs fw
    show (dayTx L.ms L.ds Y M D W fs).toArray.size ≤ 1600
    rw [List.size_toArray]; omega
  have HDO := Lib.hid (fun w' => DayOf_ok day Y M D (Y : Int) (M : Int) (D : Int) w' hY rfl rfl rfl)
  have HMS : Hid (∀ w', Below W0.heap.size W0 w' → Ss w' (.slice ma L.ms.length mc) L.ms) := fun w' hb => h.ms.below (HX.out w' hb)
  have HDS : Hid (∀ w', Below W0.heap.size W0 w' → Ss w' (.slice da L.ds.length dc) L.ds) := fun w' hb => h.ds.below (HX.out w' hb)
  have HFW := Lib.hid fw
  clear hok1 hok2 hok3 hok4 hok5 hok6 hok7 nm1 nm2 nm3 nm4 fw fm hR hD hY hs hW hml hev ht h hmz hes
  obtain ⟨nm, pr, ru, gp, pt, ms, ds, lt, es⟩ := L
  simp only at *
  obtain ⟨y0, y1, y2, y3, y4, y5, y6, y7, y8⟩ := nine_later (Below.refl _ W0) hwl HW0.out
  rw [hW0] at y0 y1 y2 y3 y4 y5 y6 y7 y8 HCK
  go_enter Tryz.func6, Tryz.ntmps6
  go_wp2_with (go_at_call 8; refine HCK.out.mono ?_; rintro e w1 ⟨rfl, hb1⟩; have HB1 : Hid (Below W0.heap.size W0 w1) := (by rw [hW0]; exact hb1); clear hb1; obtain ⟨y0, y1, y2, y3, y4, y5, y6, y7, y8⟩ := nine_later HB1.out hwl HW0.out)
  refine (HFI.out _).mono ?_
  rintro e w2 ⟨v, hat, rfl, hb⟩
  have HB2 : Hid (Below W0.heap.size W0 w2) := HB1.out.trans (hb.mono HB1.out.size)
  have HAT := Lib.hid hat
  obtain ⟨sa, sc, rfl, hlm, hget⟩ := hat.open
  clear hat hb hget HB1
  go_wp2_with fail
  refine (HRD.out _ _ HAT.out).mono ?_
  rintro e w3 ⟨b, rfl, hrb, hb⟩
  have HB3 : Hid (Below W0.heap.size W0 w3) := HB2.out.trans (hb.mono HB2.out.size)
  have HAT3 := Lib.hid (HAT.out.keep hb)
  have HRB := Lib.hid hrb
  clear hrb hb HB2 HAT
  cases b with
  | false =>
    go_wp2_with fail
    go_ret2
    exact RyP.no (HX.out _ HB3.out)
  | true =>
    obtain ⟨R, SY, SM, SD, hRK, hR0⟩ := HRK.out (HRB.out rfl)
    have HK := Lib.hid hRK
    have HS0 := Lib.hid hR0
    have hs2 : decide ((2000 : Int) < (s.size : Int)) = false := decide_eq_false (by omega)
    have hs2N : decide (2000 < s.size) = false := decide_eq_false (by omega)
    obtain ⟨sa', sc', hv, _, hget⟩ := HAT3.out.open
    simp only [Value.slice.injEq, true_and] at hv
    obtain ⟨rfl, rfl⟩ := hv
    have HGET := Lib.hid hget
    clear hRK hR0 hget
    go_wp2_with fail
    go_loopw [11, 12, 13, 14, 44] (fun v11 v12 v13 v14 v44 wx => ∃ k : Nat, k ≤ fs.length ∧ v11 = .int .i64 (SY k : Int) ∧ v12 = .int .i64 (SM k : Int) ∧ v13 = .int .i64 (SD k : Int) ∧ v14 = .string (R k) ∧ v44 = .int .i64 (k : Int) ∧ Hid (Below w3.heap.size w3 wx)) (fun _ _ _ _ v _ => fs.length - dstr v)
    case atStart => exact ⟨0, Nat.zero_le _, by rw [HK.out.start.1]; rfl, by rw [HK.out.start.2.1]; rfl, by rw [HK.out.start.2.2]; rfl, by rw [HS0.out], rfl, Below.refl _ _⟩
    case round =>
      obtain ⟨k, hk, rfl, rfl, rfl, rfl, rfl, HB⟩ := hrel
      clear y0 y1 y2 y3 y4 y5 y6 y7 y8
      have HBW : Hid (Below W0.heap.size W0 wr) := HB3.out.trans (HB.out.mono HB3.out.size)
      by_cases hkl : k < fs.length
      · have q3 : decide ((k : Int) < (fs.length : Int)) = true := decide_eq_true (by omega)
        have q3N : decide (k < fs.length) = true := decide_eq_true hkl
        obtain ⟨ww, rfl⟩ : ∃ ww : World, ww = wr := ⟨_, rfl⟩
        obtain ⟨b, off, rfl, hsc1, hsc2, hblt, hc⟩ := HGET.out k hkl
        obtain ⟨d0, d1⟩ := dtwo_later HB.out hblt hc
        have hsz1 := HK.out.size k
        have HNU := Lib.hid (HK.out.num k hkl)
        have HYE := Lib.hid (HK.out.year k hkl)
        have HMO := Lib.hid (HK.out.mon k hkl)
        have HWD := Lib.hid (HK.out.wday k hkl)
        have HBY := Lib.hid (HK.out.byte k hkl)
        have HSY := Lib.hid (HK.out.sy k hkl)
        have HSM := Lib.hid (HK.out.sm k hkl)
        have HSD := Lib.hid (HK.out.sd k hkl)
        have HCS := Lib.hid (df_cases (HFW.out _ (List.getElem_mem hkl)))
        generalize fs[k] = f at d0 d1 HNU HYE HMO HWD HBY HSY HSM HSD HCS
        clear hc
        have HB1 : Hid (Below w3.heap.size w3 (ww.alloc (.cells #[.string f.w, .int .u8 (f.c.toNat : Int)] 47))) := HB.out.trans ((below_alloc' _ _).mono HB.out.size)
        have HBX : Hid (Below W0.heap.size W0 (ww.alloc (.cells #[.string f.w, .int .u8 (f.c.toNat : Int)] 47))) := HBW.out.trans ((below_alloc' _ _).mono HBW.out.size)
        have HX1 : Hid ((ww.alloc (.cells #[.string f.w, .int .u8 (f.c.toNat : Int)] 47)).heap[ww.heap.size]? = some (.cells #[.string f.w, .int .u8 (f.c.toNat : Int)] 47 (0, 0))) := heap_alloc_new _ _
        obtain ⟨e0, e1⟩ := dpair_of_block HX1.out
        obtain ⟨l0, l1, l2, l3, l4, l5, l6, l7, l8⟩ := nine_later HBX.out hwl HW0.out
        clear l0 l1 l2 l3 l4 l7 l8 HX1
        generalize hU : R k = u at hsz1 HNU HYE HMO HWD HBY
        generalize hU2 : R (k + 1) = u2 at HNU HYE HMO HWD HBY
        have HU2 := Lib.hid hU2
        clear hU2
        rcases HCS.out with hx | hx | hx | hx | hx | hx | hx | hx
        · have t0 : (f.w.toList == [121, 121, 121, 121]) = false := dw_not (t := wY) rfl (by rw [hx]; decide)
          have t1 : (f.w.toList == [109, 109]) = false := dw_not (t := wM2) rfl (by rw [hx]; decide)
          have t2 : (f.w.toList == [109]) = false := dw_not (t := wM1) rfl (by rw [hx]; decide)
          have t3 : (f.w.toList == [100, 100]) = false := dw_not (t := wD2) rfl (by rw [hx]; decide)
          have t4 : (f.w.toList == [100]) = false := dw_not (t := wD1) rfl (by rw [hx]; decide)
          have t5 : (f.w.toList == [77, 77, 77, 77]) = false := dw_not (t := wMN) rfl (by rw [hx]; decide)
          have t6 : (f.w.toList == [87, 87, 87, 87]) = false := dw_not (t := wWN) rfl (by rw [hx]; decide)
          have HY2 : Hid (SY (k + 1) = SY k) := by show _ = _; rw [HSY.out, if_neg (by unfold isYear; rw [hx]; decide)]
          have HM2 : Hid (SM (k + 1) = SM k) := by show _ = _; rw [HSM.out, if_neg (by unfold isMon; rw [hx]; decide)]
          have HD2 : Hid (SD (k + 1) = SD k) := by show _ = _; rw [HSD.out, if_neg (by unfold isDay; rw [hx]; decide)]
          obtain ⟨hp0, hc0, hex⟩ := HBY.out hx
          have hem : u.toList.isEmpty = false := dempty_not (by omega)
          have hq : ((u[0].toNat : Int) == (f.c.toNat : Int)) = true := by rw [hc0]; exact beq_self_eq_true _
          have hp0I : (0 : Int) < (u.size : Int) := by omega
          have HBD : Hid (∀ n, Below w3.heap.size w3 ((ww.alloc (.cells #[.string f.w, .int .u8 (f.c.toNat : Int)] 47)).drewN n)) := fun n => dbelow_drewN HB1.out n
          clear hx HNU HYE HMO HWD HBY HSY HSM HSD HCS
          go_wp2_with fail
          go_quiet (fail)
          have HBQ := Lib.hid (HBD.out nq)
          go_wp2_with fail
          go_roundw
          case rel => exact ⟨k + 1, by omega, by rw [HY2.out]; first | done | rfl, by rw [HM2.out]; first | done | rfl, by rw [HD2.out]; first | done | rfl, by rw [HU2.out], by go_num, HBQ⟩
          case measure => simp [dstr]; omega
        · have t0 : (f.w.toList == [121, 121, 121, 121]) = true := dw_is (t := wY) rfl hx
          have HY2 : Hid (SY (k + 1) = Y) := by show _ = _; rw [HSY.out, if_pos (by unfold isYear; rw [hx]; decide)]
          have HM2 : Hid (SM (k + 1) = SM k) := by show _ = _; rw [HSM.out, if_neg (by unfold isMon; rw [hx]; decide)]
          have HD2 : Hid (SD (k + 1) = SD k) := by show _ = _; rw [HSD.out, if_neg (by unfold isDay; rw [hx]; decide)]
          obtain ⟨ht4, hv, hex⟩ := HYE.out hx
          have HC : Hid (Calls Tryz.prog 12 #[.string u, .int .i64 4, .int .i64 4] (ww.alloc (.cells #[.string f.w, .int .u8 (f.c.toNat : Int)] 47)) fun e w'' => e = .returned (.tuple #[.int .i64 (Y : Int), .string u2, .bool true]) ∧ Below (ww.alloc (.cells #[.string f.w, .int .u8 (f.c.toNat : Int)] 47)).heap.size (ww.alloc (.cells #[.string f.w, .int .u8 (f.c.toNat : Int)] 47)) w'') := (gtakeDigits_any u 4 4 (by omega) (by omega) (by unfold maxLen; omega) _).mono fun e w'' ⟨h1, h2⟩ => ⟨by rw [h1, hv, hex, ht4]; rfl, h2⟩
          clear ht4 hv hex
          clear hx HNU HYE HMO HWD HBY HSY HSM HSD HCS
          go_wp2_with (go_at_call 12; refine HC.out.mono ?_; rintro e w4 ⟨rfl, hb4⟩; have HB4 : Hid (Below w3.heap.size w3 w4) := HB1.out.trans (hb4.mono HB1.out.size); clear hb4)
          go_roundw
          case rel => exact ⟨k + 1, by omega, by rw [HY2.out]; first | done | rfl, by rw [HM2.out]; first | done | rfl, by rw [HD2.out]; first | done | rfl, by rw [HU2.out], by go_num, HB4⟩
          case measure => simp [dstr]; omega
        · have t0 : (f.w.toList == [121, 121, 121, 121]) = false := dw_not (t := wY) rfl (by rw [hx]; decide)
          have t1 : (f.w.toList == [109, 109]) = true := dw_is (t := wM2) rfl hx
          have HY2 : Hid (SY (k + 1) = SY k) := by show _ = _; rw [HSY.out, if_neg (by unfold isYear; rw [hx]; decide)]
          have HM2 : Hid (SM (k + 1) = M) := by show _ = _; rw [HSM.out, if_pos (by unfold isMon; rw [hx]; decide)]
          have HD2 : Hid (SD (k + 1) = SD k) := by show _ = _; rw [HSD.out, if_neg (by unfold isDay; rw [hx]; decide)]
          obtain ⟨_, hle, hw4, hv, hex⟩ := HNU.out M (.inl ⟨.inl hx, rfl⟩)
          have HC : Hid (Calls Tryz.prog 12 #[.string u, .int .i64 (f.w.size : Int), .int .i64 2] (ww.alloc (.cells #[.string f.w, .int .u8 (f.c.toNat : Int)] 47)) fun e w'' => e = .returned (.tuple #[.int .i64 (M : Int), .string u2, .bool true]) ∧ Below (ww.alloc (.cells #[.string f.w, .int .u8 (f.c.toNat : Int)] 47)).heap.size (ww.alloc (.cells #[.string f.w, .int .u8 (f.c.toNat : Int)] 47)) w'') := (gtakeDigits_any u f.w.size 2 hw4 (by omega) (by unfold maxLen; omega) _).mono fun e w'' ⟨h1, h2⟩ => ⟨by rw [h1, hv, hex, decide_eq_true hle], h2⟩
          clear hle hv hex
          clear hx HNU HYE HMO HWD HBY HSY HSM HSD HCS
          go_wp2_with (go_at_call 12; refine HC.out.mono ?_; rintro e w4 ⟨rfl, hb4⟩; have HB4 : Hid (Below w3.heap.size w3 w4) := HB1.out.trans (hb4.mono HB1.out.size); clear hb4)
          go_roundw
          case rel => exact ⟨k + 1, by omega, by rw [HY2.out]; first | done | rfl, by rw [HM2.out]; first | done | rfl, by rw [HD2.out]; first | done | rfl, by rw [HU2.out], by go_num, HB4⟩
          case measure => simp [dstr]; omega
        · have t0 : (f.w.toList == [121, 121, 121, 121]) = false := dw_not (t := wY) rfl (by rw [hx]; decide)
          have t1 : (f.w.toList == [109, 109]) = false := dw_not (t := wM2) rfl (by rw [hx]; decide)
          have t2 : (f.w.toList == [109]) = true := dw_is (t := wM1) rfl hx
          have HY2 : Hid (SY (k + 1) = SY k) := by show _ = _; rw [HSY.out, if_neg (by unfold isYear; rw [hx]; decide)]
          have HM2 : Hid (SM (k + 1) = M) := by show _ = _; rw [HSM.out, if_pos (by unfold isMon; rw [hx]; decide)]
          have HD2 : Hid (SD (k + 1) = SD k) := by show _ = _; rw [HSD.out, if_neg (by unfold isDay; rw [hx]; decide)]
          obtain ⟨_, hle, hw4, hv, hex⟩ := HNU.out M (.inl ⟨.inr hx, rfl⟩)
          have HC : Hid (Calls Tryz.prog 12 #[.string u, .int .i64 (f.w.size : Int), .int .i64 2] (ww.alloc (.cells #[.string f.w, .int .u8 (f.c.toNat : Int)] 47)) fun e w'' => e = .returned (.tuple #[.int .i64 (M : Int), .string u2, .bool true]) ∧ Below (ww.alloc (.cells #[.string f.w, .int .u8 (f.c.toNat : Int)] 47)).heap.size (ww.alloc (.cells #[.string f.w, .int .u8 (f.c.toNat : Int)] 47)) w'') := (gtakeDigits_any u f.w.size 2 hw4 (by omega) (by unfold maxLen; omega) _).mono fun e w'' ⟨h1, h2⟩ => ⟨by rw [h1, hv, hex, decide_eq_true hle], h2⟩
          clear hle hv hex
          clear hx HNU HYE HMO HWD HBY HSY HSM HSD HCS
          go_wp2_with (go_at_call 12; refine HC.out.mono ?_; rintro e w4 ⟨rfl, hb4⟩; have HB4 : Hid (Below w3.heap.size w3 w4) := HB1.out.trans (hb4.mono HB1.out.size); clear hb4)
          go_roundw
          case rel => exact ⟨k + 1, by omega, by rw [HY2.out]; first | done | rfl, by rw [HM2.out]; first | done | rfl, by rw [HD2.out]; first | done | rfl, by rw [HU2.out], by go_num, HB4⟩
          case measure => simp [dstr]; omega
        · have t0 : (f.w.toList == [121, 121, 121, 121]) = false := dw_not (t := wY) rfl (by rw [hx]; decide)
          have t1 : (f.w.toList == [109, 109]) = false := dw_not (t := wM2) rfl (by rw [hx]; decide)
          have t2 : (f.w.toList == [109]) = false := dw_not (t := wM1) rfl (by rw [hx]; decide)
          have t3 : (f.w.toList == [100, 100]) = true := dw_is (t := wD2) rfl hx
          have HY2 : Hid (SY (k + 1) = SY k) := by show _ = _; rw [HSY.out, if_neg (by unfold isYear; rw [hx]; decide)]
          have HM2 : Hid (SM (k + 1) = SM k) := by show _ = _; rw [HSM.out, if_neg (by unfold isMon; rw [hx]; decide)]
          have HD2 : Hid (SD (k + 1) = D) := by show _ = _; rw [HSD.out, if_pos (by unfold isDay; rw [hx]; decide)]
          obtain ⟨_, hle, hw4, hv, hex⟩ := HNU.out D (.inr ⟨.inl hx, rfl⟩)
          have HC : Hid (Calls Tryz.prog 12 #[.string u, .int .i64 (f.w.size : Int), .int .i64 2] (ww.alloc (.cells #[.string f.w, .int .u8 (f.c.toNat : Int)] 47)) fun e w'' => e = .returned (.tuple #[.int .i64 (D : Int), .string u2, .bool true]) ∧ Below (ww.alloc (.cells #[.string f.w, .int .u8 (f.c.toNat : Int)] 47)).heap.size (ww.alloc (.cells #[.string f.w, .int .u8 (f.c.toNat : Int)] 47)) w'') := (gtakeDigits_any u f.w.size 2 hw4 (by omega) (by unfold maxLen; omega) _).mono fun e w'' ⟨h1, h2⟩ => ⟨by rw [h1, hv, hex, decide_eq_true hle], h2⟩
          clear hle hv hex
          clear hx HNU HYE HMO HWD HBY HSY HSM HSD HCS
          go_wp2_with (go_at_call 12; refine HC.out.mono ?_; rintro e w4 ⟨rfl, hb4⟩; have HB4 : Hid (Below w3.heap.size w3 w4) := HB1.out.trans (hb4.mono HB1.out.size); clear hb4)
          go_roundw
          case rel => exact ⟨k + 1, by omega, by rw [HY2.out]; first | done | rfl, by rw [HM2.out]; first | done | rfl, by rw [HD2.out]; first | done | rfl, by rw [HU2.out], by go_num, HB4⟩
          case measure => simp [dstr]; omega
        · have t0 : (f.w.toList == [121, 121, 121, 121]) = false := dw_not (t := wY) rfl (by rw [hx]; decide)
          have t1 : (f.w.toList == [109, 109]) = false := dw_not (t := wM2) rfl (by rw [hx]; decide)
          have t2 : (f.w.toList == [109]) = false := dw_not (t := wM1) rfl (by rw [hx]; decide)
          have t3 : (f.w.toList == [100, 100]) = false := dw_not (t := wD2) rfl (by rw [hx]; decide)
          have t4 : (f.w.toList == [100]) = true := dw_is (t := wD1) rfl hx
          have HY2 : Hid (SY (k + 1) = SY k) := by show _ = _; rw [HSY.out, if_neg (by unfold isYear; rw [hx]; decide)]
          have HM2 : Hid (SM (k + 1) = SM k) := by show _ = _; rw [HSM.out, if_neg (by unfold isMon; rw [hx]; decide)]
          have HD2 : Hid (SD (k + 1) = D) := by show _ = _; rw [HSD.out, if_pos (by unfold isDay; rw [hx]; decide)]
          obtain ⟨_, hle, hw4, hv, hex⟩ := HNU.out D (.inr ⟨.inr hx, rfl⟩)
          have HC : Hid (Calls Tryz.prog 12 #[.string u, .int .i64 (f.w.size : Int), .int .i64 2] (ww.alloc (.cells #[.string f.w, .int .u8 (f.c.toNat : Int)] 47)) fun e w'' => e = .returned (.tuple #[.int .i64 (D : Int), .string u2, .bool true]) ∧ Below (ww.alloc (.cells #[.string f.w, .int .u8 (f.c.toNat : Int)] 47)).heap.size (ww.alloc (.cells #[.string f.w, .int .u8 (f.c.toNat : Int)] 47)) w'') := (gtakeDigits_any u f.w.size 2 hw4 (by omega) (by unfold maxLen; omega) _).mono fun e w'' ⟨h1, h2⟩ => ⟨by rw [h1, hv, hex, decide_eq_true hle], h2⟩
          clear hle hv hex
          clear hx HNU HYE HMO HWD HBY HSY HSM HSD HCS
          go_wp2_with (go_at_call 12; refine HC.out.mono ?_; rintro e w4 ⟨rfl, hb4⟩; have HB4 : Hid (Below w3.heap.size w3 w4) := HB1.out.trans (hb4.mono HB1.out.size); clear hb4)
          go_roundw
          case rel => exact ⟨k + 1, by omega, by rw [HY2.out]; first | done | rfl, by rw [HM2.out]; first | done | rfl, by rw [HD2.out]; first | done | rfl, by rw [HU2.out], by go_num, HB4⟩
          case measure => simp [dstr]; omega
        · have t0 : (f.w.toList == [121, 121, 121, 121]) = false := dw_not (t := wY) rfl (by rw [hx]; decide)
          have t1 : (f.w.toList == [109, 109]) = false := dw_not (t := wM2) rfl (by rw [hx]; decide)
          have t2 : (f.w.toList == [109]) = false := dw_not (t := wM1) rfl (by rw [hx]; decide)
          have t3 : (f.w.toList == [100, 100]) = false := dw_not (t := wD2) rfl (by rw [hx]; decide)
          have t4 : (f.w.toList == [100]) = false := dw_not (t := wD1) rfl (by rw [hx]; decide)
          have t5 : (f.w.toList == [77, 77, 77, 77]) = true := dw_is (t := wMN) rfl hx
          have HY2 : Hid (SY (k + 1) = SY k) := by show _ = _; rw [HSY.out, if_neg (by unfold isYear; rw [hx]; decide)]
          have HM2 : Hid (SM (k + 1) = M) := by show _ = _; rw [HSM.out, if_pos (by unfold isMon; rw [hx]; decide)]
          have HD2 : Hid (SD (k + 1) = SD k) := by show _ = _; rw [HSD.out, if_neg (by unfold isDay; rw [hx]; decide)]
          obtain ⟨hlen, hnp, hex⟩ := HMO.out hx
          have hj : M - 1 < ms.length := by omega
          have HC : Hid (Calls Tryz.prog 13 #[.string u, .slice ma ms.length mc] (ww.alloc (.cells #[.string f.w, .int .u8 (f.c.toNat : Int)] 47)) fun e w'' => e = .returned (.tuple #[.int .i64 (M : Int), .string u2, .bool true]) ∧ Below (ww.alloc (.cells #[.string f.w, .int .u8 (f.c.toNat : Int)] 47)).heap.size (ww.alloc (.cells #[.string f.w, .int .u8 (f.c.toNat : Int)] 47)) w'') := (gtakeName_any u ms _ _ (HMS.out _ HBX.out) (by unfold maxLen; omega) (by omega) (M - 1) hnp hj).mono fun e w'' ⟨h1, h2⟩ => ⟨by rw [h1, hex hj, show (((M - 1 : Nat) : Int) + 1) = (M : Int) by omega], h2⟩
          clear hlen hnp hex hj
          clear hx HNU HYE HMO HWD HBY HSY HSM HSD HCS
          go_wp2_with (go_at_call 13; refine HC.out.mono ?_; rintro e w4 ⟨rfl, hb4⟩; have HB4 : Hid (Below w3.heap.size w3 w4) := HB1.out.trans (hb4.mono HB1.out.size); clear hb4)
          go_roundw
          case rel => exact ⟨k + 1, by omega, by rw [HY2.out]; first | done | rfl, by rw [HM2.out]; first | done | rfl, by rw [HD2.out]; first | done | rfl, by rw [HU2.out], by go_num, HB4⟩
          case measure => simp [dstr]; omega
        · have t0 : (f.w.toList == [121, 121, 121, 121]) = false := dw_not (t := wY) rfl (by rw [hx]; decide)
          have t1 : (f.w.toList == [109, 109]) = false := dw_not (t := wM2) rfl (by rw [hx]; decide)
          have t2 : (f.w.toList == [109]) = false := dw_not (t := wM1) rfl (by rw [hx]; decide)
          have t3 : (f.w.toList == [100, 100]) = false := dw_not (t := wD2) rfl (by rw [hx]; decide)
          have t4 : (f.w.toList == [100]) = false := dw_not (t := wD1) rfl (by rw [hx]; decide)
          have t5 : (f.w.toList == [77, 77, 77, 77]) = false := dw_not (t := wMN) rfl (by rw [hx]; decide)
          have t6 : (f.w.toList == [87, 87, 87, 87]) = true := dw_is (t := wWN) rfl hx
          have HY2 : Hid (SY (k + 1) = SY k) := by show _ = _; rw [HSY.out, if_neg (by unfold isYear; rw [hx]; decide)]
          have HM2 : Hid (SM (k + 1) = SM k) := by show _ = _; rw [HSM.out, if_neg (by unfold isMon; rw [hx]; decide)]
          have HD2 : Hid (SD (k + 1) = SD k) := by show _ = _; rw [HSD.out, if_neg (by unfold isDay; rw [hx]; decide)]
          obtain ⟨hlen, hnp, hex⟩ := HWD.out hx
          have hj : W < ds.length := by omega
          have HC : Hid (Calls Tryz.prog 13 #[.string u, .slice da ds.length dc] (ww.alloc (.cells #[.string f.w, .int .u8 (f.c.toNat : Int)] 47)) fun e w'' => e = .returned (.tuple #[.int .i64 ((W : Int) + 1), .string u2, .bool true]) ∧ Below (ww.alloc (.cells #[.string f.w, .int .u8 (f.c.toNat : Int)] 47)).heap.size (ww.alloc (.cells #[.string f.w, .int .u8 (f.c.toNat : Int)] 47)) w'') := (gtakeName_any u ds _ _ (HDS.out _ HBX.out) (by unfold maxLen; omega) (by omega) (W) hnp hj).mono fun e w'' ⟨h1, h2⟩ => ⟨by rw [h1, hex hj], h2⟩
          clear hlen hnp hex hj
          clear hx HNU HYE HMO HWD HBY HSY HSM HSD HCS
          go_wp2_with (go_at_call 13; refine HC.out.mono ?_; rintro e w4 ⟨rfl, hb4⟩; have HB4 : Hid (Below w3.heap.size w3 w4) := HB1.out.trans (hb4.mono HB1.out.size); clear hb4)
          go_roundw
          case rel => exact ⟨k + 1, by omega, by rw [HY2.out]; first | done | rfl, by rw [HM2.out]; first | done | rfl, by rw [HD2.out]; first | done | rfl, by rw [HU2.out], by go_num, HB4⟩
          case measure => simp [dstr]; omega
      · obtain rfl : k = fs.length := by omega
        have q3 : decide ((fs.length : Int) < (fs.length : Int)) = false := decide_eq_false (by omega)
        have q3N : decide (fs.length < fs.length) = false := decide_eq_false (by omega)
        obtain ⟨hr1, hr2, hr3, hr4⟩ := HK.out.fin
        rw [hr1, hr2, hr3, hr4]
        clear hr1 hr2 hr3 hr4
        have hem : (⟨#[]⟩ : ByteArray).toList.isEmpty = true := dempty_at rfl
        obtain ⟨l0, l1, l2, l3, l4, l5, l6, l7, l8⟩ := nine_later HBW.out hwl HW0.out
        have HDYW := Lib.hid (HDY.out _ HBW.out)
        have hss : (s.toList == s.toList) = true := by simp
        have hss2 : (s.toList != s.toList) = false := by simp
        go_wp2_with (first | (go_at_call 14; refine (HDO.out _).mono ?_; rintro e w4 ⟨rfl, rfl⟩) | (go_at_call 9; refine HDYW.out.mono ?_; rintro e w4 ⟨rfl, hb4⟩; have HB4 : Hid (Below W0.heap.size W0 w4) := HBW.out.trans (hb4.mono HBW.out.size); clear hb4))
        go_ret2
        exact RyP.yes (HX.out _ HB4.out)
end Go.Proofs.YtdolpehcfifecaaGreatDoor
namespace Go.Proofs.YtdolpehcfifecaaGreatDoor
open Go.RowKit Mh Mh.Cal
set_option linter.unusedVariables false
/-- What DayIn returns. -/
def DiP (L : Lg) (p : ByteArray) (day : Int) (w : World) (e : Ending) (w' : World) : Prop :=
  ∃ (s : ByteArray) (n : Int), e = .returned (.tuple #[.string s, .int .i64 n]) ∧ Below w.heap.size w w' ∧ (n = 0 → okLg L ∧ 0 ≤ day ∧ day ≤ 84005 ∧ ∃ fs, fieldsF (decide (L.ms.length = 0)) (decide (L.ds.length = 0)) p = some fs ∧ DayP L.ms L.ds day fs s) ∧ (n ≠ 0 → s = ⟨#[]⟩)
set_option maxRecDepth 100000 in
set_option maxHeartbeats 8000000 in
theorem gDayIn_any (L : Lg) (fv mv dv lv ev : Value) (p : ByteArray) (day : Int) (w : World) (hpl : p.size ≤ maxLen) (hml : ML 0 w) (hev : EvAt w) (ht : Tab10 w) (h : LgAt w L fv mv dv lv ev) :
    Calls Tryz.prog 5 #[.agg #[.string L.nm, .string L.pr, fv, .string L.gp, .string L.pt, mv, dv, lv, ev], .string p, .int .i64 day] w (DiP L p day w) := by
  have hmz : 0 < w.heap.size := by obtain ⟨m, hm⟩ := hml; exact World.block_lt_of_cell? w _ hm
  have hes := hev.size
  obtain ⟨fa, fc, rfl⟩ : ∃ a c, fv = .slice a L.ru.length c := by
    obtain ⟨rows, hS, _⟩ := h.ru
    obtain ⟨a, c, e, _⟩ := Sl.shp hS
    exact ⟨a, c, e⟩
  obtain ⟨ma, mc, rfl, _⟩ := sl_form h.ms.1
  obtain ⟨da, dc, rfl, _⟩ := sl_form h.ds.1
  obtain ⟨la, lc, rfl, _⟩ := sl_form h.lt.1
  obtain ⟨ea, ec, rfl, _⟩ := sl_form h.es.1
  obtain ⟨W0, hW0⟩ : ∃ W0, W0 = w.alloc (.cells #[.string L.nm, .string L.pr, .slice fa L.ru.length fc, .string L.gp, .string L.pt, .slice ma L.ms.length mc, .slice da L.ds.length dc, .slice la L.lt.length lc, .slice ea L.es.length ec] 28) := ⟨_, rfl⟩
  have HW0 : Hid (W0.heap[w.heap.size]? = some (.cells #[.string L.nm, .string L.pr, .slice fa L.ru.length fc, .string L.gp, .string L.pt, .slice ma L.ms.length mc, .slice da L.ds.length dc, .slice la L.lt.length lc, .slice ea L.es.length ec] 28 (0, 0))) := by rw [hW0]; exact heap_alloc_new _ _
  have HB0 : Hid (Below w.heap.size w W0) := by rw [hW0]; exact below_alloc' _ _
  have hwl : w.heap.size < W0.heap.size := by rw [hW0]; simp
  have HX : Hid (∀ w', Below W0.heap.size W0 w' → Below w.heap.size w w') := fun w' hb => HB0.out.trans (hb.mono HB0.out.size)
  have HCK : Hid (Calls Tryz.prog 8 #[.agg #[.string L.nm, .string L.pr, .slice fa L.ru.length fc, .string L.gp, .string L.pt, .slice ma L.ms.length mc, .slice da L.ds.length dc, .slice la L.lt.length lc, .slice ea L.es.length ec]] W0 fun e w' => ∃ n : Int, e = .returned (.int .i64 n) ∧ (n = 0 ↔ okLg L) ∧ Below W0.heap.size W0 w') := gcheckLang_any L _ _ _ _ _ W0 (hml.below HB0.out hmz) (hev.keep HB0.out hes) (h.keep HB0.out)
  have HDY : Hid (okLg L → ∀ w', Below W0.heap.size W0 w' → Calls Tryz.prog 9 #[.agg #[.string L.nm, .string L.pr, .slice fa L.ru.length fc, .string L.gp, .string L.pt, .slice ma L.ms.length mc, .slice da L.ds.length dc, .slice la L.lt.length lc, .slice ea L.es.length ec], .string p, .int .i64 day] w' fun e w2 => ∃ (s : ByteArray) (n : Int), e = .returned (.tuple #[.string s, .int .i64 n]) ∧ Below w'.heap.size w' w2 ∧ ((n = 0 → okLg L ∧ 0 ≤ day ∧ day ≤ 84005 ∧ ∃ fs, fieldsF (decide (L.ms.length = 0)) (decide (L.ds.length = 0)) p = some fs ∧ DayP L.ms L.ds day fs s) ∧ (n ≠ 0 → s = ⟨#[]⟩))) := fun hok w' hb => by
    obtain ⟨nm1, nm2, nm3, nm4⟩ := okNm_names hok.2.2.2.2.1
    refine (gdayIn_any L.nm L.pr L.gp L.pt fa ma da la ea L.ru.length L.lt.length L.es.length fc mc dc lc ec L.ms L.ds p hpl day w' (h.ms.below (HX.out w' hb)) (h.ds.below (HX.out w' hb)) hok.2.2.2.1.1 hok.2.2.2.1.2 nm3 nm4 (ht.next (HX.out w' hb))).mono fun e w2 ⟨h1, h2⟩ => ?_
    rcases h2 with ⟨fs, t, hr, h3, h4, h5, h6⟩ | ⟨_, n, hn, h3⟩
    · exact ⟨t, 0, h6, h1, fun _ => ⟨hok, h3, h4, fs, hr, h5⟩, fun h => absurd rfl h⟩
    · exact ⟨⟨#[]⟩, n, h3, h1, fun h => absurd h hn, fun _ => rfl⟩
  obtain ⟨y0, y1, y2, y3, y4, y5, y6, y7, y8⟩ := nine_later (Below.refl _ W0) hwl HW0.out
  rw [hW0] at y0 y1 y2 y3 y4 y5 y6 y7 y8 HCK
  unfold DiP
  generalize okLg L = G at HCK HDY ⊢
  generalize fieldsF (decide (L.ms.length = 0)) (decide (L.ds.length = 0)) p = R at HDY ⊢
  clear hml hev ht h hmz hes
  obtain ⟨nm, pr, ru, gp, pt, ms, ds, lt, es⟩ := L
  simp only at *
  go_enter Tryz.func5, Tryz.ntmps5
  go_upto_region 2 with (go_at_call 8; refine HCK.out.mono ?_; rintro e w1 ⟨n, rfl, hn, hb1⟩; have HN := Lib.hid hn; have HB1 : Hid (Below W0.heap.size W0 w1) := (by rw [hW0]; exact hb1); clear hb1 hn)
  clear HCK y0 y1 y2 y3 y4 y5 y6 y7 y8
  by_cases hz : n = 0
  · subst hz
    have HDW := Lib.hid (HDY.out (HN.out.1 rfl) _ HB1.out)
    obtain ⟨y0, y1, y2, y3, y4, y5, y6, y7, y8⟩ := nine_later HB1.out hwl HW0.out
    go_wp2_with fail
    refine HDW.out.mono ?_
    rintro e w2 ⟨s, n2, rfl, hb, hsn⟩
    have HB2 : Hid (Below W0.heap.size W0 w2) := HB1.out.trans (hb.mono HB1.out.size)
    have HSN := Lib.hid hsn
    clear hb hsn
    go_wp2_with fail
    go_ret2
    exact ⟨s, n2, rfl, HX.out _ HB2.out, HSN.out.1, HSN.out.2⟩
  · have q1 : (n != 0) = true := by rw [bne_iff_ne]; exact hz
    have HZ := Lib.hid hz
    clear hz
    go_wp2_with fail
    go_ret2
    exact ⟨⟨#[]⟩, n, rfl, HX.out _ HB1.out, fun h => absurd h HZ.out, fun _ => rfl⟩
set_option maxRecDepth 100000 in
set_option maxHeartbeats 8000000 in
theorem langDayRound_walk (L : Lg) (fv mv dv lv ev : Value) (p : ByteArray) (day : Int) (w : World) (hpl : p.size ≤ maxLen) (hml : ML 0 w) (hev : EvAt w) (ht : Tab10 w) (h : LgAt w L fv mv dv lv ev) :
    Calls Tryz.prog 3 #[.agg #[.string L.nm, .string L.pr, fv, .string L.gp, .string L.pt, mv, dv, lv, ev], .string p, .int .i64 day] w fun e w' => e = .returned (.bool true) ∧ Below w.heap.size w w' := by
  have hmz : 0 < w.heap.size := by obtain ⟨m, hm⟩ := hml; exact World.block_lt_of_cell? w _ hm
  have hes := hev.size
  obtain ⟨fa, fc, rfl⟩ : ∃ a c, fv = .slice a L.ru.length c := by
    obtain ⟨rows, hS, _⟩ := h.ru
    obtain ⟨a, c, e, _⟩ := Sl.shp hS
    exact ⟨a, c, e⟩
  obtain ⟨ma, mc, rfl, _⟩ := sl_form h.ms.1
  obtain ⟨da, dc, rfl, _⟩ := sl_form h.ds.1
  obtain ⟨la, lc, rfl, _⟩ := sl_form h.lt.1
  obtain ⟨ea, ec, rfl, _⟩ := sl_form h.es.1
  obtain ⟨W0, hW0⟩ : ∃ W0, W0 = w.alloc (.cells #[.string L.nm, .string L.pr, .slice fa L.ru.length fc, .string L.gp, .string L.pt, .slice ma L.ms.length mc, .slice da L.ds.length dc, .slice la L.lt.length lc, .slice ea L.es.length ec] 28) := ⟨_, rfl⟩
  have HW0 : Hid (W0.heap[w.heap.size]? = some (.cells #[.string L.nm, .string L.pr, .slice fa L.ru.length fc, .string L.gp, .string L.pt, .slice ma L.ms.length mc, .slice da L.ds.length dc, .slice la L.lt.length lc, .slice ea L.es.length ec] 28 (0, 0))) := by rw [hW0]; exact heap_alloc_new _ _
  have HB0 : Hid (Below w.heap.size w W0) := by rw [hW0]; exact below_alloc' _ _
  have hwl : w.heap.size < W0.heap.size := by rw [hW0]; simp
  have HX : Hid (∀ w', Below W0.heap.size W0 w' → Below w.heap.size w w') := fun w' hb => HB0.out.trans (hb.mono HB0.out.size)
  have HAW := gawake_any W0 (hev.keep HB0.out hes)
  rw [hW0] at HAW
  have HAW := Lib.hid HAW
  have HDI : Hid (∀ w', Below W0.heap.size W0 w' → Calls Tryz.prog 5 #[.agg #[.string L.nm, .string L.pr, .slice fa L.ru.length fc, .string L.gp, .string L.pt, .slice ma L.ms.length mc, .slice da L.ds.length dc, .slice la L.lt.length lc, .slice ea L.es.length ec], .string p, .int .i64 day] w' fun e w2 => DiP L p day w' e w2) := fun w' hb => gDayIn_any L _ _ _ _ _ p day w' hpl (hml.below (HX.out w' hb) hmz) (hev.keep (HX.out w' hb) hes) (ht.next (HX.out w' hb)) (h.keep (HX.out w' hb))
  have HRE : Hid (∀ (s : ByteArray), (okLg L ∧ 0 ≤ day ∧ day ≤ 84005 ∧ ∃ fs, fieldsF (decide (L.ms.length = 0)) (decide (L.ds.length = 0)) p = some fs ∧ DayP L.ms L.ds day fs s) → ∀ w', Below W0.heap.size W0 w' → Calls Tryz.prog 6 #[.agg #[.string L.nm, .string L.pr, .slice fa L.ru.length fc, .string L.gp, .string L.pt, .slice ma L.ms.length mc, .slice da L.ds.length dc, .slice la L.lt.length lc, .slice ea L.es.length ec], .string p, .string s] w' fun e w2 => RyP day w' e w2) := fun s ⟨h1, h2, h3, fs, h4, h5⟩ w' hb => greadDay_any L _ _ _ _ _ p s day fs w' hpl (hml.below (HX.out w' hb) hmz) (hev.keep (HX.out w' hb) hes) (ht.next (HX.out w' hb)) (h.keep (HX.out w' hb)) h1 h4 h2 h3 h5
  unfold DiP at HDI
  unfold RyP at HRE
  clear h hml hev hmz hes ht
  obtain ⟨nm, pr, ru, gp, pt, ms, ds, lt, es⟩ := L
  simp only at *
  obtain ⟨P, hP⟩ : ∃ P : ByteArray → Prop, P = fun s => okLg ⟨nm, pr, ru, gp, pt, ms, ds, lt, es⟩ ∧ 0 ≤ day ∧ day ≤ 84005 ∧ ∃ fs, fieldsF (decide (ms.length = 0)) (decide (ds.length = 0)) p = some fs ∧ DayP ms ds day fs s := ⟨_, rfl⟩
  have HDI : Hid (∀ w', Below W0.heap.size W0 w' → Calls Tryz.prog 5 #[.agg #[.string nm, .string pr, .slice fa ru.length fc, .string gp, .string pt, .slice ma ms.length mc, .slice da ds.length dc, .slice la lt.length lc, .slice ea es.length ec], .string p, .int .i64 day] w' fun e w2 => ∃ (s : ByteArray) (n : Int), e = .returned (.tuple #[.string s, .int .i64 n]) ∧ Below w'.heap.size w' w2 ∧ (n = 0 → P s) ∧ (n ≠ 0 → s = ⟨#[]⟩)) := by rw [hP]; exact HDI.out
  have HRE : Hid (∀ (s : ByteArray), P s → ∀ w', Below W0.heap.size W0 w' → Calls Tryz.prog 6 #[.agg #[.string nm, .string pr, .slice fa ru.length fc, .string gp, .string pt, .slice ma ms.length mc, .slice da ds.length dc, .slice la lt.length lc, .slice ea es.length ec], .string p, .string s] w' fun e w2 => Below w'.heap.size w' w2 ∧ (e = .returned (.tuple #[.int .i64 0, .int .i64 1]) ∨ e = .returned (.tuple #[.int .i64 day, .int .i64 0]))) := by rw [hP]; exact HRE.out
  clear hP
  go_enter Tryz.func3, Tryz.ntmps3
  go_wp2_with (go_at_call 4; refine HAW.out.mono ?_; rintro e w1 ⟨rfl, hb1⟩; have HB1 : Hid (Below W0.heap.size W0 w1) := (by rw [hW0]; exact hb1); clear hb1; obtain ⟨y0, y1, y2, y3, y4, y5, y6, y7, y8⟩ := nine_later HB1.out hwl HW0.out)
  refine (HDI.out _ HB1.out).mono ?_
  rintro e w2 ⟨s, n, rfl, hb, hs0, hsn⟩
  have HB2 : Hid (Below W0.heap.size W0 w2) := HB1.out.trans (hb.mono HB1.out.size)
  clear hb y0 y1 y2 y3 y4 y5 y6 y7 y8
  by_cases hz : n = 0
  · subst hz
    have HRW := Lib.hid (HRE.out s (hs0 rfl) _ HB2.out)
    obtain ⟨y0, y1, y2, y3, y4, y5, y6, y7, y8⟩ := nine_later HB2.out hwl HW0.out
    clear hs0 hsn
    go_wp2_with fail
    refine HRW.out.mono ?_
    rintro e w3 ⟨hb, hor⟩
    have HB3 : Hid (Below W0.heap.size W0 w3) := HB2.out.trans (hb.mono HB2.out.size)
    clear hb
    rcases hor with rfl | rfl
    · go_wp2_with fail
      go_ret
      exact ⟨by first | rfl | trivial, HX.out _ HB3.out⟩
    · have qd : (day == day) = true := beq_self_eq_true _
      go_wp2_with fail
      go_ret
      exact ⟨by first | rfl | trivial, HX.out _ HB3.out⟩
  · have q1 : (n != 0) = true := by rw [bne_iff_ne]; exact hz
    obtain rfl := hsn hz
    have hem : (⟨#[]⟩ : ByteArray).toList.isEmpty = true := dempty_at rfl
    clear hz hs0 hsn
    go_wp2_with fail
    go_ret
    exact ⟨by first | rfl | trivial, HX.out _ HB2.out⟩
end Go.Proofs.YtdolpehcfifecaaGreatDoor
namespace Mh
open Go Go.RowKit Go.ChangeShapes Go.WideShapes Go.ChangeAt
set_option linter.unusedVariables false

theorem trodAll_below {H : Type} {enc : TypeId × Value → H} {P : Program} (hl : laidOutB P = true) {W W' : World} (hb : Below W.heap.size W W') :
    ∀ (ts : List TypeId) (vs : List Value) (ds : List (DataW H)) (ps : List MemPlace), (∀ t ∈ ts, P.readableRec t = true ∧ t < P.types.size) → (∀ x ∈ ps, x.block < W.heap.size) →
      DataW.TrodAll enc P W 0 (fun _ => true) true ts vs ds ps → DataW.TrodAll enc P W' 0 (fun b => decide (b < W.heap.size)) true ts vs ds ps
  | [], [], [], ps, _, _, h => h
  | t :: ts, v :: vs, d :: ds, ps, hp, hlt, h => by
    obtain ⟨p, q, h1, h2, rfl⟩ := h
    have ht := hp t (by simp)
    exact ⟨p, q, Below.trod hl ht.1 ht.2 h1 hb (fun x hx => hlt x (by simp [hx])), trodAll_below hl hb ts vs ds q (fun t h => hp t (by simp [h])) (fun x hx => hlt x (by simp [hx])) h2, rfl⟩
  | [], [], _ :: _, _, _, _, h => h.elim
  | [], _ :: _, _, _, _, _, h => h.elim
  | _ :: _, [], _, _, _, _, h => h.elim
  | _ :: _, _ :: _, [], _, _, _, h => h.elim

theorem law_post {H : Type} {enc : TypeId × Value → H} {P : Program} {f : Func} {s : ChangeSpec} {W W' : World} {args : Array Value} {ds gs : List (DataW H)} {before : List MemPlace} {tb : TypeId}
    (hl : laidOutB P = true) (hp : (f.params.toList.all fun t => P.readableRec t && decide (t < P.types.size)) = true) (hvars : s.vars = []) (hrt : f.resultTypes = #[tb]) (htb : P.underlying tb = some .bool)
    (hW : DataW.Whole enc P f.params.toList s.vars false W args.toList ds gs before) (hres : (s.fn H (ds ++ gs)).results = [.lit (.bool true)]) (hargs : (s.fn H (ds ++ gs)).args = ds) (hsv : (s.fn H (ds ++ gs)).vars = [])
    (hb : Below W.heap.size W W') : s.post enc P f false true false false W args (.bool true) W' := by
  have hW' := hW
  have hlt : ∀ p ∈ before, p.block < W.heap.size := fun p hp => hW.lt p hp
  obtain ⟨p, q, hA, hV, rfl, hfz, hnd⟩ := hW
  rw [hvars] at hV
  obtain ⟨rfl, rfl⟩ := trodVars_none hV
  rw [List.append_nil] at hlt
  refine ⟨ds, [], _, [], p, [], hW', ?_, ?_, ?_, hb.frame _, fun h => by cases h⟩
  · rw [hres, hrt]
    exact trodAll_mk1 (shut_bool htb _)
  · rw [hargs]
    refine trodAll_below hl hb _ _ _ _ ?_ hlt hA
    intro t ht
    have := List.all_eq_true.1 hp t ht
    simpa using this
  · rw [hsv, hvars]
    rfl
end Mh
namespace Mh
open Go Go.RowKit
def litV : DataW Unit → Value
  | .lit (.int k z) => .int k z
  | _ => .bool false
def flat1 : DataW Unit → List Value
  | .agg l => l.map litV
  | d => [litV d]
def flat2 : DataW Unit → List Value
  | .agg l => l.flatMap flat1
  | d => [litV d]
def layTab (g : Nat) (d : DataW Unit) (w : World) : World :=
  { w with heap := w.heap.modify g fun
      | .cells _ t frozen => .cells (flat2 d).toArray t frozen
      | o => o }
def errTextV : DataW Unit → ByteArray
  | .iface _ (.ptr (.agg [.lit (.string l)])) => ⟨l.toArray⟩
  | _ => ⟨#[]⟩
/-- A variable that holds an error made of a literal: a block for its text, behind all others. -/
def layErr (g tp ts : Nat) (d : DataW Unit) (w : World) : World :=
  { w with heap := (w.heap.modify g fun
      | .cells _ t frozen => .cells #[.iface tp (.pointer (some ⟨w.heap.size, 0, none⟩))] t frozen
      | o => o).push (.cells #[.string (errTextV d)] ts (0, 0)) }
end Mh
namespace Mh
open Go Go.RowKit
theorem laid_mem {P : Program} {W : World} {n : String} {d : DataW Unit} : ∀ (l : List (String × DataW Unit)) (ps : List MemPlace), DataW.LaidVars P W l ps → (n, d) ∈ l →
    ∃ g t cs fuel p, P.globalNamed n = some g ∧ (P.globals[g]?).map (·.type) = some t ∧ W.var? P n = some cs ∧ DataW.trod (fun _ => ()) P W 0 (fun _ => true) false fuel t cs.toList = some (d, p)
  | [], _, _, h => by cases h
  | (m, x) :: r, ps, h, hm => by
    obtain ⟨g, t, cs, fuel, p, q, h1, h2, h3, h4, h5, _⟩ := h
    rcases List.mem_cons.1 hm with e | hm
    · injection e with e1 e2
      subst e1 e2
      exact ⟨g, t, cs, fuel, p, h1, h2, h3, h4⟩
    · exact laid_mem r q h5 hm
theorem tabIs_of_mem {P : Program} {W : World} {name : String} {k : IntKind} {zs : List Int} {l : List (String × DataW Unit)} {g : Nat} {t e : TypeId} {n : Nat}
    (hg : P.globalNamed name = some g) (hty : (P.globals[g]?).map (·.type) = some t) (ht : P.underlying t = some (.array n e)) (he : P.underlying e = some (.int k)) (hce : P.cellsOf e = 1) (hct : P.cellsOf t = n)
    (h : laidMet P l W) (hm : (name, Lib.tabData k zs) ∈ l) : Lib.TabIs P W name k zs := by
  obtain ⟨ps, hl, _⟩ := h
  obtain ⟨g', t', cs, fuel, p, hg', ht', hvar, hd⟩ := laid_mem l ps hl hm
  obtain rfl := Option.some.inj (hg.symm.trans hg')
  obtain rfl := Option.some.inj (hty.symm.trans ht')
  unfold Lib.TabIs
  rw [hvar, ← Lib.cells_of_tab ht he hce hct hd]
end Mh
namespace Mh
open Go Go.RowKit
set_option linter.unusedVariables false
theorem iface_of {H : Type} {enc : TypeId × Value → H} {P : Program} {w : World} {base : Nat} {spare : Nat → Bool} {held : Bool} {fuel : Nat} {t : TypeId} {ms : Array (String × TypeId)} {cs : List Value} {n : String} {d : DataW H} {p : List MemPlace}
    (ht : P.underlying t = some (.interface ms)) (h : DataW.trod enc P w base spare held fuel t cs = some (.iface n d, p)) : ∃ u v, cs = [.iface u v] := by
  cases fuel with
  | zero => simp [DataW.trod] at h
  | succ f =>
    unfold DataW.trod at h
    rw [ht] at h
    split at h <;> first | exact ⟨_, _, rfl⟩ | simp_all
end Mh
namespace Go.Proofs.YtdolpehcfifecaaGreatDoor
open Go.RowKit Mh
set_option linter.unusedVariables false
theorem ev_laid {W : World} {l : List (String × DataW Unit)} (h : laidMet Tryz.prog l W) (hm : ("strconv.ErrRange", Rows.laid_strconv_ErrRange) ∈ l) : EvAt W := by
  obtain ⟨ps, hl, _⟩ := h
  obtain ⟨g, t, cs, fuel, p, hg, ht, hvar, hd⟩ := laid_mem l ps hl hm
  obtain rfl := Option.some.inj ((show Tryz.prog.globalNamed "strconv.ErrRange" = some 7 by kernel_rfl).symm.trans hg)
  obtain rfl := Option.some.inj ((show (Tryz.prog.globals[7]?).map (·.type) = some 118 by kernel_rfl).symm.trans ht)
  obtain ⟨u, v, hu⟩ := iface_of Tryz.underlying118 hd
  have := World.var?_cell hg hvar 0
  refine ⟨u, v, ?_⟩
  have h1 : cs[0]? = some (.iface u v) := by rw [← Array.getElem?_toList, hu]; rfl
  rw [h1] at this
  exact this
theorem tab10_laid {W : World} {l : List (String × DataW Unit)} (h : laidMet Tryz.prog l W) (hm : ("internal/strconv.uint64pow10", Lib.tabData .u64 Lib.pow10Tab) ∈ l) : Tab10 W :=
  tabIs_of_mem (k := .u64) (zs := Lib.pow10Tab) (show Tryz.prog.globalNamed "internal/strconv.uint64pow10" = some 1 by kernel_rfl) (show (Tryz.prog.globals[1]?).map (·.type) = some 128 by kernel_rfl) Tryz.underlying128 Tryz.underlying111 (by kernel_rfl) (by kernel_rfl) h hm
end Go.Proofs.YtdolpehcfifecaaGreatDoor
namespace Go.Proofs.YtdolpehcfifecaaGreatDoor
open Go.ChangeShapes Go.WideShapes Go.ChangeAt Go.RowKit Go.Deep Mh
set_option linter.unusedVariables false
theorem rows_str (g : Nat → List Value) (a : Nat → ByteArray) : ∀ m, (∀ i, i < m → g i = [.string (a i)]) → (List.range m).flatMap g = ((List.range m).map a).map Value.string := by
  intro m
  induction m with
  | zero => intro _; rfl
  | succ m ih =>
    intro h
    rw [List.range_succ, List.flatMap_append, ih (fun i hi => h i (by omega)), List.map_append, List.map_append]
    simp only [List.flatMap_cons, List.flatMap_nil, List.append_nil, List.map_cons, List.map_nil]
    rw [h m (by omega)]
theorem rows_en (g : Nat → List Value) (a : Nat → En) : ∀ m, (∀ i, i < m → g i = [.string (a i).k, .string (a i).t]) → (List.range m).flatMap g = rowsE ((List.range m).map a) := by
  intro m
  have happ : ∀ (l r : List En), rowsE (l ++ r) = rowsE l ++ rowsE r := by
    intro l r
    induction l with
    | nil => rfl
    | cons x l ih => simp [rowsE, ih]
  induction m with
  | zero => intro _; rfl
  | succ m ih =>
    intro h
    rw [List.range_succ, List.flatMap_append, ih (fun i hi => h i (by omega)), List.map_append, happ]
    simp only [List.flatMap_cons, List.flatMap_nil, List.append_nil, List.map_cons, List.map_nil, rowsE]
    rw [h m (by omega)]
set_option maxRecDepth 100000 in
theorem mopen_ss {H : Type} {enc : TypeId × Value → H} {w : World} {fuel : Nat} {u : Value} {x : DataW H × List MemPlace} (h : DataW.trod enc Tryz.prog w 0 (fun _ => true) true fuel 25 [u] = some x) :
    ∃ l : List ByteArray, Ss w u l := by
  obtain ⟨len, n', g, y, hS, hn, hg⟩ := open_sl_rows Tryz.underlying25 (show Tryz.prog.cellsOf 9 = 1 by kernel_rfl) (by decide) h
  have hx : ∀ i, ∃ a : ByteArray, i < len → g i = [.string a] ∧ a.size ≤ maxLen := by
    intro i
    by_cases hi : i < len
    · obtain ⟨a0, e0, d0, w0⟩ := DataW.trod_string Tryz.underlying9 (hg i hi).2
      exact ⟨a0, fun _ => ⟨e0, w0⟩⟩
    · exact ⟨⟨#[]⟩, fun h => absurd h hi⟩
  refine ⟨(List.range len).map fun i => (hx i).choose, ?_, fun s hs => ?_⟩
  · rw [← rows_str g _ len fun i hi => ((hx i).choose_spec hi).1]
    simpa using hS
  · obtain ⟨i, hi, rfl⟩ := List.mem_map.1 hs
    exact ((hx i).choose_spec (List.mem_range.1 hi)).2
set_option maxRecDepth 100000 in
theorem mopen_en {H : Type} {enc : TypeId × Value → H} {w : World} {fuel : Nat} {u : Value} {x : DataW H × List MemPlace} (h : DataW.trod enc Tryz.prog w 0 (fun _ => true) true fuel 26 [u] = some x) :
    ∃ l : List En, EsAt w u l := by
  obtain ⟨len, n', g, y, hS, hn, hg⟩ := open_sl_rows Tryz.underlying26 (show Tryz.prog.cellsOf 82 = 2 by kernel_rfl) (by decide) h
  have hx : ∀ i, ∃ o : En, i < len → g i = [.string o.k, .string o.t] ∧ (o.k.size ≤ maxLen ∧ o.t.size ≤ maxLen) := by
    intro i
    by_cases hi : i < len
    · obtain ⟨hgl, hgt⟩ := hg i hi
      obtain ⟨xs, n, hfu, hx0, hlen, hxl, hf⟩ := DataW.trod_struct Tryz.underlying82 hgt
      generalize g i = l at *
      match l, hgl with
      | [c0, c1], _ =>
      match xs, hxl with
      | [x0, x1], _ =>
      have h0 := hf 0 _ rfl
      have h1 := hf 1 _ rfl
      have ec : Tryz.prog.cellsOf 9 = 1 := by kernel_rfl
      change DataW.trod enc Tryz.prog w 0 (fun _ => true) true n 9 (([c0, c1].drop 0).take (Tryz.prog.cellsOf 9)) = some x0 at h0
      change DataW.trod enc Tryz.prog w 0 (fun _ => true) true n 9 (([c0, c1].drop 1).take (Tryz.prog.cellsOf 9)) = some x1 at h1
      rw [ec] at h0 h1
      obtain ⟨a0, e0, d0, w0⟩ := DataW.trod_string Tryz.underlying9 h0
      obtain ⟨a1, e1, d1, w1⟩ := DataW.trod_string Tryz.underlying9 h1
      simp only [List.drop_zero, List.take_succ_cons, List.take_zero, List.cons.injEq, and_true] at e0
      simp only [List.drop_succ_cons, List.drop_zero, List.take_succ_cons, List.take_zero, List.cons.injEq, and_true] at e1
      subst e0 e1
      exact ⟨⟨a0, a1⟩, fun _ => ⟨rfl, w0, w1⟩⟩
    · exact ⟨⟨⟨#[]⟩, ⟨#[]⟩⟩, fun h => absurd h hi⟩
  refine ⟨(List.range len).map fun i => (hx i).choose, ?_, fun o ho => ?_⟩
  · rw [← rows_en g _ len fun i hi => ((hx i).choose_spec hi).1]
    simpa using hS
  · obtain ⟨i, hi, rfl⟩ := List.mem_map.1 ho
    exact ((hx i).choose_spec (List.mem_range.1 hi)).2
set_option maxRecDepth 100000 in
theorem mopen_forms {H : Type} {enc : TypeId × Value → H} {w : World} {fuel : Nat} {u : Value} {x : DataW H × List MemPlace} (h : DataW.trod enc Tryz.prog w 0 (fun _ => true) true fuel 22 [u] = some x) :
    ∃ R : List T, RuAt w R u := by
  obtain ⟨len, n', g, y, hS, hn, hg, hbk⟩ := open_sl_rows2 Tryz.underlying22 (show Tryz.prog.cellsOf 76 = 5 by kernel_rfl) (by decide) h
  have hx : ∀ i, ∃ X : T, i < len → TAt w X (g i) ∧ ∀ M, 2 * n' ≤ M → X.cnt ≤ bkN M (y i).1 := by
    intro i
    by_cases hi : i < len
    · obtain ⟨X, hX⟩ := open_tat Tryz.underlying76 rfl rfl rfl rfl rfl rfl rfl rfl rfl rfl Tryz.underlying3 Tryz.underlying22 (by kernel_rfl) (by kernel_rfl) (by kernel_rfl) (n' + 1) n' (Nat.lt_succ_self _) (g i) (y i) (hg i hi).2
      exact ⟨X, fun _ => hX⟩
    · exact ⟨.mk 0 0 0 0 [], fun h => absurd h hi⟩
  have hvs := TsAt.mk (w := w) (fun i => (hx i).choose) g len 0 (fun i hi => by rw [Nat.zero_add]; exact ((hx i).choose_spec hi).1)
  rw [← List.range_eq_range'] at hvs
  exact ⟨(List.range len).map fun i => (hx i).choose, (List.range len).flatMap g, by simpa using hS, hvs⟩
set_option maxRecDepth 100000 in
set_option maxHeartbeats 2000000 in
theorem open_lang {H : Type} {enc : TypeId × Value → H} {W : World} {base : Nat} {v : Value} {d : DataW H} {p : List MemPlace} (hv : Value.okWide Tryz.prog W .any base 28 v) (h : DataW.Trod enc Tryz.prog W 0 (fun _ => true) true 28 v d p) :
    ∃ (L : Lg) (fv mv dv lv ev : Value), v = .agg #[.string L.nm, .string L.pr, fv, .string L.gp, .string L.pt, mv, dv, lv, ev] ∧ LgAt W L fv mv dv lv ev := by
  obtain ⟨cs, rfl, hsz⟩ := okWide_struct Tryz.underlying28 hv
  obtain ⟨fuel, hf⟩ := h
  have hc1 : cs.size = 9 := by rw [hsz]; kernel_rfl
  have hfl : DataW.trod enc Tryz.prog W 0 (fun _ => true) true fuel 28 cs.toList = some (d, p) := hf
  obtain ⟨xs, n, hfu, hx0, hlen, hxl, hf⟩ := DataW.trod_struct Tryz.underlying28 hfl
  obtain ⟨c0, c1, c2, c3, c4, c5, c6, c7, c8, rfl⟩ : ∃ c0 c1 c2 c3 c4 c5 c6 c7 c8, cs = #[c0, c1, c2, c3, c4, c5, c6, c7, c8] := by
    match cs, hc1 with
    | ⟨[c0, c1, c2, c3, c4, c5, c6, c7, c8]⟩, _ => exact ⟨c0, c1, c2, c3, c4, c5, c6, c7, c8, rfl⟩
  match xs, hxl with
  | [x0, x1, x2, x3, x4, x5, x6, x7, x8], _ =>
  have ec : Tryz.prog.cellsOf 9 = 1 := by kernel_rfl
  have es : Tryz.prog.cellsOf 25 = 1 := by kernel_rfl
  have ee : Tryz.prog.cellsOf 26 = 1 := by kernel_rfl
  have er : Tryz.prog.cellsOf 24 = 1 := by kernel_rfl
  have h0 := hf 0 _ rfl
  have h1 := hf 1 _ rfl
  have h2 := hf 2 _ rfl
  have h3 := hf 3 _ rfl
  have h4 := hf 4 _ rfl
  have h5 := hf 5 _ rfl
  have h6 := hf 6 _ rfl
  have h7 := hf 7 _ rfl
  have h8 := hf 8 _ rfl
  change DataW.trod enc Tryz.prog W 0 (fun _ => true) true n 9 (([c0, c1, c2, c3, c4, c5, c6, c7, c8].drop 0).take (Tryz.prog.cellsOf 9)) = some x0 at h0
  change DataW.trod enc Tryz.prog W 0 (fun _ => true) true n 9 (([c0, c1, c2, c3, c4, c5, c6, c7, c8].drop 1).take (Tryz.prog.cellsOf 9)) = some x1 at h1
  change DataW.trod enc Tryz.prog W 0 (fun _ => true) true n 24 (([c0, c1, c2, c3, c4, c5, c6, c7, c8].drop 2).take (Tryz.prog.cellsOf 24)) = some x2 at h2
  change DataW.trod enc Tryz.prog W 0 (fun _ => true) true n 9 (([c0, c1, c2, c3, c4, c5, c6, c7, c8].drop 3).take (Tryz.prog.cellsOf 9)) = some x3 at h3
  change DataW.trod enc Tryz.prog W 0 (fun _ => true) true n 9 (([c0, c1, c2, c3, c4, c5, c6, c7, c8].drop 4).take (Tryz.prog.cellsOf 9)) = some x4 at h4
  change DataW.trod enc Tryz.prog W 0 (fun _ => true) true n 25 (([c0, c1, c2, c3, c4, c5, c6, c7, c8].drop 5).take (Tryz.prog.cellsOf 25)) = some x5 at h5
  change DataW.trod enc Tryz.prog W 0 (fun _ => true) true n 25 (([c0, c1, c2, c3, c4, c5, c6, c7, c8].drop 6).take (Tryz.prog.cellsOf 25)) = some x6 at h6
  change DataW.trod enc Tryz.prog W 0 (fun _ => true) true n 25 (([c0, c1, c2, c3, c4, c5, c6, c7, c8].drop 7).take (Tryz.prog.cellsOf 25)) = some x7 at h7
  change DataW.trod enc Tryz.prog W 0 (fun _ => true) true n 26 (([c0, c1, c2, c3, c4, c5, c6, c7, c8].drop 8).take (Tryz.prog.cellsOf 26)) = some x8 at h8
  rw [ec] at h0 h1 h3 h4
  rw [es] at h5 h6 h7
  rw [ee] at h8
  rw [er] at h2
  obtain ⟨a0, e0, _, w0⟩ := DataW.trod_string Tryz.underlying9 h0
  obtain ⟨a1, e1, _, w1⟩ := DataW.trod_string Tryz.underlying9 h1
  obtain ⟨a3, e3, _, w3⟩ := DataW.trod_string Tryz.underlying9 h3
  obtain ⟨a4, e4, _, w4⟩ := DataW.trod_string Tryz.underlying9 h4
  simp only [List.drop_zero, List.drop_succ_cons, List.take_succ_cons, List.take_zero, List.cons.injEq, and_true] at e0 e1 e3 e4 h2 h5 h6 h7 h8
  subst e0 e1 e3 e4
  obtain ⟨y0, n2, _, _, h2'⟩ := trod_struct1 Tryz.underlying24 h2
  obtain ⟨R, hR⟩ := mopen_forms (show DataW.trod enc Tryz.prog W 0 (fun _ => true) true n2 22 [c2] = some y0 from h2')
  obtain ⟨ms, hms⟩ := mopen_ss h5
  obtain ⟨ds, hds⟩ := mopen_ss h6
  obtain ⟨lt, hlt⟩ := mopen_ss h7
  obtain ⟨es, hes⟩ := mopen_en h8
  exact ⟨⟨a0, a1, R, a3, a4, ms, ds, lt, es⟩, c2, c5, c6, c7, c8, rfl, ⟨w0, w1, w3, w4, hR, hms, hds, hlt, hes⟩⟩
end Go.Proofs.YtdolpehcfifecaaGreatDoor
namespace Go.Proofs.YtdolpehcfifecaaGreatDoor.LDayL
open Go.ChangeShapes Go.WideShapes Go.ChangeAt Go.RowKit Mh
open Go.ChangeMaps (open_string shut_string)
set_option linter.unusedVariables false

theorem own : ownKnob Tryz.prog.godebug = none := by kernel_rfl

/-- A world for the witness: the settled one, the tables laid. -/
noncomputable def laidWorld (os : Os) : World :=
  layTab 2 Rows.laid_unicode_utf8_first (layTab 3 Rows.laid_unicode_utf8_acceptRanges (layTab 1 Rows.laid_internal_strconv_uint64pow10 (layTab 5 Rows.laid_math_bits_deBruijn64tab (layTab 4 Rows.laid_math_bits_deBruijn32tab (layErr 7 156 158 Rows.laid_strconv_ErrRange (layErr 6 156 158 Rows.laid_strconv_ErrSyntax (World.holding Tryz.prog os ⟨#[], #[], []⟩)))))))
theorem laid_met (os : Os) : laidMet Tryz.prog Rows.langDayRoundRow.laid ((laidWorld os).forCall (fun _ _ => 0) ⟨#[], #[.agg #[.string ⟨#[]⟩, .string ⟨#[]⟩, .slice none 0 0, .string ⟨#[]⟩, .string ⟨#[]⟩, .slice none 0 0, .slice none 0 0, .slice none 0 0, .slice none 0 0], .string ⟨#[]⟩, .int .i64 0], []⟩).memory :=
  laidMet_of_run' 8 (by kernel_rfl) (by kernel_rfl)
theorem reads (os : Os) {H : Type} (enc : TypeId × Value → H) : ∃ places, DataW.whole enc Tryz.prog ((laidWorld os).forCall (fun _ _ => 0) ⟨#[], #[.agg #[.string ⟨#[]⟩, .string ⟨#[]⟩, .slice none 0 0, .string ⟨#[]⟩, .string ⟨#[]⟩, .slice none 0 0, .slice none 0 0, .slice none 0 0, .slice none 0 0], .string ⟨#[]⟩, .int .i64 0], []⟩).memory Tryz.f3.params.toList Rows.langDayRoundSpec.vars false (#[.agg #[.string ⟨#[]⟩, .string ⟨#[]⟩, .slice none 0 0, .string ⟨#[]⟩, .string ⟨#[]⟩, .slice none 0 0, .slice none 0 0, .slice none 0 0, .slice none 0 0], .string ⟨#[]⟩, .int .i64 0] : Array Value).toList 8 = some ([.agg [.lit (.string []), .lit (.string []), .agg [.nil], .lit (.string []), .lit (.string []), .nil, .nil, .nil, .nil], .lit (.string []), .lit (.int .i64 0)], [], places) :=
  ⟨[], by kernel_rfl⟩

set_option maxRecDepth 100000 in
theorem lifted (os : Os) (started : os.Started) (H : Type) (enc : TypeId × Value → H) (F : Stop.Interp) :
    ReturnsInHanded {} Tryz.checked os 3 .any ((OpenSpec.ofChange Rows.langDayRoundSpec).preRow enc Tryz.prog Tryz.f3 Rows.langDayRoundRow.domain false Rows.langDayRoundRow.laid) (((OpenSpec.ofChange Rows.langDayRoundSpec).at F).post enc Tryz.prog Tryz.f3 false true false false) := by
  obtain ⟨places, hx⟩ := reads os enc
  refine returnsInHanded_of_row (C := Tryz.checked) (s := OpenSpec.ofChange Rows.langDayRoundSpec) own started (by kernel_rfl) Tryz.func3
    (witness_row_at (enc := enc) (C := Tryz.checked) false (laidWorld os) #[.agg #[.string ⟨#[]⟩, .string ⟨#[]⟩, .slice none 0 0, .string ⟨#[]⟩, .string ⟨#[]⟩, .slice none 0 0, .slice none 0 0, .slice none 0 0, .slice none 0 0], .string ⟨#[]⟩, .int .i64 0] rfl (by kernel_rfl) (by kernel_rfl) (by kernel_rfl)
      (OpenSpec.preRow_of_cond 8 hx (by kernel_rfl) (fun k hk => by cases hk) (by kernel_rfl) (laid_met os))) ?_
  intro W base args ds gs before hval0 hW hcnd hcond hsz hL hsh _
  have hval : ∀ (j : Nat) t v, Tryz.f3.params[j]? = some t → args[j]? = some v → Value.okWide Tryz.prog W .any base t v := hval0
  have hW' := hW
  obtain ⟨p, q, hA0, hV, rfl, hfz, hnd⟩ := hW
  have hA : DataW.TrodAll enc Tryz.prog W 0 (fun _ => true) true Tryz.f3.params.toList args.toList ds p := hA0
  rw [Tryz.params3] at hA hval
  obtain ⟨v0, vs0, d0, ds0, p0, q0, hargs0, rfl, rfl, h0, r0⟩ := trodAll_cons hA
  obtain ⟨v1, vs1, d1, ds1, p1, q1, hargs1, rfl, rfl, h1, r1⟩ := trodAll_cons r0
  obtain ⟨v2, vs2, d2, ds2, p2, q2, hargs2, rfl, rfl, h2, r2⟩ := trodAll_cons r1
  obtain ⟨rfl, rfl, rfl⟩ := trodAll_nil r2
  obtain rfl : args = #[v0, v1, v2] := by cases args; simp_all
  obtain ⟨rfl, rfl⟩ := trodVars_none hV
  obtain ⟨L, fv, mv, dv, lv, ev, rfl, hLg⟩ := open_lang (hval 0 28 v0 rfl rfl) h0
  obtain ⟨a, rfl, _, _, ha⟩ := open_string Tryz.underlying9 (hval 1 9 v1 rfl rfl) h1
  obtain ⟨n, rfl, _, _, hwf⟩ := open_int Tryz.underlying3 (hval 2 3 v2 rfl rfl) h2
  have hev : EvAt W := ev_laid hL (by simp [Rows.langDayRoundRow])
  have htb : Tab10 W := tab10_laid hL (by first | exact .head _ | exact .tail _ (.head _) | exact .tail _ (.tail _ (.head _)) | exact .tail _ (.tail _ (.tail _ (.head _))))
  clear hA0 hval0
  (try simp only [List.append_nil] at hW')
  (try simp only [List.nil_append] at hW')
  have hml : ML 0 W := Go.Proofs.cell_of_shapedOpen_int (zero := #[.int .i64 0]) (t := 3) hsh (of_decide_eq_true (by kernel_rfl)) (by kernel_rfl) rfl (by kernel_rfl) (by kernel_rfl) Tryz.underlying3
  refine (langDayRound_walk L fv mv dv lv ev a n W ha hml hev htb hLg).mono fun e W' ⟨he, hg⟩ => ?_
  subst he
  exact ⟨_, rfl, law_post (tb := 4) (by kernel_rfl) (by kernel_rfl) rfl rfl Tryz.underlying4 hW' rfl rfl rfl hg⟩

theorem said : Rows.LangDayRoundSaid :=
  OpenClaim.holds_of_cond 3 Tryz.f3 rfl rfl rfl rfl rfl rfl rfl ⟨rfl, rfl, rfl, rfl, rfl⟩ rfl rfl rfl rfl rfl (by kernel_rfl) Tryz.func3 (by kernel_rfl)
    (of_decide_eq_true (by kernel_rfl)) (by unfold Func.isWrapper; first | (rw [if_pos (by decide +kernel)]; kernel_rfl) | (rw [if_neg (by decide +kernel)]; exact ⟨rfl, rfl⟩))
    (fun os started H enc _ F => by rw [OpenClaim.pre_eq_preRow]; exact lifted os started H enc F)

theorem plain (f : FuncId) (fn : Func) (hf : Tryz.pinned.checked.prog.funcNamed "masthead/mastkeep2.LangDayRound" = some f) (hfn : Tryz.pinned.checked.prog.funcs[f]? = some fn) :
    true = Tryz.pinned.checked.prog.looks [] ∧ ∀ (j : Nat) t, fn.params[j]? = some t → Tryz.pinned.checked.prog.wantsStandIn t = false := by
  obtain rfl : f = 3 := Option.some.inj ((show Tryz.prog.funcNamed "masthead/mastkeep2.LangDayRound" = some 3 by kernel_rfl).symm.trans hf) |>.symm
  obtain rfl : fn = Tryz.f3 := (Option.some.inj (Tryz.func3.symm.trans hfn)).symm
  refine ⟨by kernel_rfl, fun j t ht => ?_⟩
  rw [Tryz.params3] at ht
  have hm := Array.mem_of_getElem? ht
  simp only [List.mem_toArray, List.mem_cons, List.not_mem_nil, or_false] at hm
  rcases hm with rfl | rfl | rfl
  · exact (show Tryz.prog.wantsStandIn 28 = false by kernel_rfl)
  · exact (show Tryz.prog.wantsStandIn 9 = false by kernel_rfl)
  · exact (show Tryz.prog.wantsStandIn 3 = false by kernel_rfl)

/-- The statement. -/
theorem card : Rows.LangDayRoundCardSaid :=
  Claim7.holds_tied_plain_at .later [] _ _ _ _ said (fun _ h => by cases h) (by kernel_rfl) (fun _ h => by cases h) langDayRound_row_tie rfl ⟨rfl, rfl⟩ (by kernel_rfl) rfl plain (by kernel_rfl)
#print axioms card
end Go.Proofs.YtdolpehcfifecaaGreatDoor.LDayL
