/- asset.ReadMap at the text of a bundle's parts. Conditions: as stated. -/
import Derived.Test.YtccmnhpkbbhomaaDoorProg
import Derived.Test.YtccmnhpkbbhomaaDoorMapS
import Derived.Test.YtccmnhpkbbhomaaDoorBun
import Derived.Deep.RegionLaw
import Derived.Outline
namespace Go.Proofs.YtccmnhpkbbhomaaDoor
open Go.RowKit Mh
set_option linter.unusedVariables false

theorem byte_at (c : UInt8) : ∀ (p r : List UInt8), c ∉ p → Lib.indexByte (p ++ c :: r) c = (p.length : Int)
  | [], r, _ => by simp [Lib.indexByte]
  | b :: p, r, h => by
    have hb : (b == c) = false := by rw [beq_eq_false_iff_ne]; exact fun e => h (by rw [e]; exact List.mem_cons_self)
    have ih := byte_at c p r (fun h2 => h (List.mem_cons_of_mem _ h2))
    have e1 : ((p.length : Int) == -1) = false := by rw [beq_eq_false_iff_ne]; omega
    simp [Lib.indexByte, hb, ih, e1]
theorem cut_at (c : UInt8) (p r : List UInt8) (h : c ∉ p) : Lib.cut (p ++ c :: r) [c] = (p, r, true) := by
  unfold Lib.cut
  rw [Lib.index_one, byte_at c p r h, if_pos (by omega)]
  have e : ((p.length : Int).toNat + [c].length) = (p ++ [c]).length := by simp
  rw [e]
  have e2 : p ++ c :: r = (p ++ [c]) ++ r := by simp
  rw [e2, List.drop_left, ← e2, Int.toNat_natCast, List.take_left]
theorem below_drewN (w : World) (n : Nat) : Below w.heap.size w (w.drewN n) := ⟨rfl, rfl, rfl, Nat.le_refl _, fun _ _ => rfl⟩
/-- strings.Cut at a byte that is there. -/
theorem cut_any (c : UInt8) (s : ByteArray) (p r : List UInt8) (w : World) (hs : s.data.toList = p ++ c :: r) (hc : c ∉ p) (hz : s.size ≤ 20000) (hml : ML 0 w) :
    Calls Tryd.prog 34 #[.string s, .string ⟨#[c]⟩] w fun e w' => e = .returned (.tuple #[.string ⟨p.toArray⟩, .string ⟨r.toArray⟩, .bool true]) ∧ Below w.heap.size w w' := by
  obtain ⟨m, hm⟩ := hml
  have h0 := Tryd.strings_Cut s ⟨#[c]⟩ m w (by omega) hm
  have h1 : Lib.cut s.data.toList (⟨#[c]⟩ : ByteArray).data.toList = (p, r, true) := by
    rw [hs]; exact cut_at c p r hc
  rw [h1] at h0
  refine h0.mono ?_
  rintro e w' ⟨rfl, n, rfl⟩
  exact ⟨rfl, below_drewN _ _⟩

def RM (P : List ByteArray) (N : List Nat) (w : World) (e : Ending) (w' : World) : Prop :=
  ∃ pv ev : Value, e = .returned (.tuple #[.agg #[.string ⟨#[]⟩, pv, ev], .int .i64 0]) ∧ Below w.heap.size w w' ∧ Ss w' pv P ∧ Sl 1 w' ev N.length ((ends N).map (Value.int .i64))

theorem rm_next (P : List ByteArray) (N : List Nat) (k : Nat) (p : ByteArray) (hk : k < P.length) (hp : p = P[k]) {a1 : Nat} (ha : a1 = sm N (k + 1)) (hk' : k < N.length) {w8 : World} {B : Nat} {g9 c9 g8 c8 : Nat} {pv ev : Value}
    (hR : w8.heap[B]? = some (.cells #[.string ⟨#[]⟩, .slice none 0 0, .slice none 0 0] 27 (0, 0))) (hT : w8.heap[B + 1]? = some (.cells #[.string ⟨#[]⟩, pv, ev] 27 (0, 0)))
    (hP : w8.ownsRow (B + 2) 9 1 (.slice (some ⟨g9, 0, none⟩) (k + 1) c9) (k + 1) ((P.take k).map Value.string ++ [.string p]))
    (hE : w8.ownsRow (B + 2) 3 1 (.slice (some ⟨g8, 0, none⟩) (k + 1) c8) (k + 1) (((ends N).take k).map (Value.int .i64) ++ [.int .i64 a1])) (hz : B + 2 ≤ w8.heap.size) :
    B + 2 ≤ ((w8.setCell ⟨B + 1, 1, none⟩ (.slice (some ⟨g9, 0, none⟩) (k + 1) c9)).setCell ⟨B + 1, 2, none⟩ (.slice (some ⟨g8, 0, none⟩) (k + 1) c8)).heap.size ∧
    ((w8.setCell ⟨B + 1, 1, none⟩ (.slice (some ⟨g9, 0, none⟩) (k + 1) c9)).setCell ⟨B + 1, 2, none⟩ (.slice (some ⟨g8, 0, none⟩) (k + 1) c8)).heap[B]? = some (.cells #[.string ⟨#[]⟩, .slice none 0 0, .slice none 0 0] 27 (0, 0)) ∧
    ((w8.setCell ⟨B + 1, 1, none⟩ (.slice (some ⟨g9, 0, none⟩) (k + 1) c9)).setCell ⟨B + 1, 2, none⟩ (.slice (some ⟨g8, 0, none⟩) (k + 1) c8)).heap[B + 1]? = some (.cells #[.string ⟨#[]⟩, .slice (some ⟨g9, 0, none⟩) (k + 1) c9, .slice (some ⟨g8, 0, none⟩) (k + 1) c8] 27 (0, 0)) ∧
    ((w8.setCell ⟨B + 1, 1, none⟩ (.slice (some ⟨g9, 0, none⟩) (k + 1) c9)).setCell ⟨B + 1, 2, none⟩ (.slice (some ⟨g8, 0, none⟩) (k + 1) c8)).ownsRow (B + 2) 9 1 (.slice (some ⟨g9, 0, none⟩) (k + 1) c9) (k + 1) ((P.take (k + 1)).map Value.string) ∧
    ((w8.setCell ⟨B + 1, 1, none⟩ (.slice (some ⟨g9, 0, none⟩) (k + 1) c9)).setCell ⟨B + 1, 2, none⟩ (.slice (some ⟨g8, 0, none⟩) (k + 1) c8)).ownsRow (B + 2) 3 1 (.slice (some ⟨g8, 0, none⟩) (k + 1) c8) (k + 1) (((ends N).take (k + 1)).map (Value.int .i64)) := by
  have e1 : (P.take (k + 1)).map Value.string = (P.take k).map Value.string ++ [.string p] := by
    rw [List.take_succ_eq_append_getElem hk, List.map_append, hp]; rfl
  have e2 : ((ends N).take (k + 1)).map (Value.int .i64) = ((ends N).take k).map (Value.int .i64) ++ [.int .i64 a1] := by
    rw [ends_take N k hk', ha]; simp
  rw [e1, e2]
  refine ⟨by simpa using hz, ?_, ?_, ?_, ?_⟩
  · exact (heap_setCell_other _ _ _ _ (by simp)).trans ((heap_setCell_other _ _ _ _ (by simp)).trans hR)
  · exact heap_setCell_same _ _ 2 _ _ _ (heap_setCell_same _ _ 1 _ _ _ hT)
  · exact ownsRow_setCell_below (ownsRow_setCell_below hP (by simp) _) (by simp) _
  · exact ownsRow_setCell_below (ownsRow_setCell_below hE (by simp) _) (by simp) _

set_option maxRecDepth 100000 in
set_option maxHeartbeats 8000000 in
theorem readMap_any (P : List ByteArray) (N : List Nat) (w : World) (hg : goodL P) (hN : ∀ n ∈ N, n < 32768) (hpn : P.length = N.length) (hn : N.length ≤ 40) (hmx : N.sum ≤ 200000) (hml : ML 0 w) :
    Calls Tryd.prog 11 #[.string ⟨(mapText P N).toArray⟩] w (RM P N w) := by
  obtain ⟨si, hsi, hsz0, hsz1, hsz2⟩ := info_parts infoStr
  obtain ⟨ii, hii, hiz0, hiz1, hiz2⟩ := info_parts infoInt
  have hPz : ∀ p ∈ P, p.size ≤ 200 := by
    intro p hp
    obtain ⟨i, hi, rfl⟩ := List.mem_iff_getElem.1 hp
    have := (pathB_bytes _ (hg.1 i hi)).2.1
    simpa using this
  have hPl : P.length ≤ 40 := by omega
  have htl := mapText_len 40 P N hPz hN hPl
  have hsz : (⟨(mapText P N).toArray⟩ : ByteArray).size ≤ 8200 := by show (mapText P N).toArray.size ≤ _; simpa using htl
  have HG := Lib.hid hg
  have HN := Lib.hid hN
  have HPN := Lib.hid hpn
  have HPZ := Lib.hid hPz
  have HML := Lib.hid hml
  have hd0 : (⟨(mapText P N).toArray⟩ : ByteArray) = ⟨(mapText (P.drop 0) (N.drop 0)).toArray⟩ := by simp
  rw [hd0] at hsz ⊢
  obtain ⟨s0, hs0⟩ : ∃ s0 : ByteArray, s0 = ⟨(mapText (P.drop 0) (N.drop 0)).toArray⟩ := ⟨_, rfl⟩
  rw [← hs0] at hsz ⊢
  have HS0 := Lib.hid hs0
  clear hg hN hpn hPz hml htl hd0 hs0
  go_enter Tryd.func11, Tryd.ntmps11
  go_wp2_with fail
  go_loopw [0, 5] (fun s x wr => ∃ k : Nat, k ≤ P.length ∧ (∃ S : ByteArray, s = .string S ∧ Hid (S = ⟨(mapText (P.drop k) (N.drop k)).toArray⟩)) ∧ x = .int .i64 (sm N k : Nat) ∧ Hid (Below w.heap.size w wr) ∧ w.heap.size + 2 ≤ wr.heap.size ∧ ∃ pv ev : Value,
      Hid (wr.heap[w.heap.size]? = some (.cells #[.string ⟨#[]⟩, .slice none 0 0, .slice none 0 0] 27 (0, 0))) ∧ Hid (wr.heap[w.heap.size + 1]? = some (.cells #[.string ⟨#[]⟩, pv, ev] 27 (0, 0))) ∧
      wr.ownsRow (w.heap.size + 2) 9 1 pv k ((P.take k).map Value.string) ∧ wr.ownsRow (w.heap.size + 2) 3 1 ev k (((ends N).take k).map (Value.int .i64))) (fun s _ _ => match s with | .string S => S.size | _ => 0)
  case atStart =>
    refine ⟨0, by omega, ⟨s0, rfl, HS0.out⟩, by rw [sm_zero]; rfl, ?_, by simp, .slice none 0 0, .slice none 0 0, ?_, ?_, World.ownsRow_nil _ _ _ _, World.ownsRow_nil _ _ _ _⟩
    · exact ((Below.refl _ w).alloc (Nat.le_refl _) _).alloc (by simp) _
    · exact (heap_alloc_old _ _ (by simp)).trans (heap_alloc_new _ _)
    · exact heap_new_at (by simp)
  case round =>
    obtain ⟨k, hk, ⟨S, rfl, HS⟩, rfl, HB, hzr, pv, ev, HR, HT, hpv, hev⟩ := hrel
    clear HS0
    by_cases hkl : k < P.length
    · have hkn : k < N.length := by have := HPN.out; omega
      have hdr := mapText_drop P N k hkl hkn
      have htl := mapText_len 40 (P.drop k) (N.drop k) (fun q hq => HPZ.out q (List.mem_of_mem_drop hq)) (fun n hn => HN.out n (List.mem_of_mem_drop hn)) (by rw [List.length_drop]; omega)
      have hSz : S.size ≤ 8200 := by rw [HS.out]; show (mapText (P.drop k) (N.drop k)).toArray.size ≤ _; simpa using htl
      have hpb := pathB_bytes _ (HG.out.1 k hkl)
      have hNk := HN.out N[k] (List.getElem_mem hkn)
      have hsm : sm N (k + 1) ≤ 200000 := by have := sm_le N (k + 1) N.length (by omega); rw [sm_all N _ (Nat.le_refl _)] at this; omega
      have hstep := sm_succ N k hkn
      have HSM := Lib.hid hstep
      obtain ⟨p, hp⟩ : ∃ p, p = P[k] := ⟨_, rfl⟩
      obtain ⟨m, hm⟩ : ∃ m, m = N[k] := ⟨_, rfl⟩
      rw [← hp, ← hm] at hdr
      rw [← hp] at hpb
      rw [← hm] at hNk hstep HSM
      have hb10 := b32_ok m
      obtain ⟨S1, hS1⟩ : ∃ S1 : ByteArray, S1 = ⟨(mapText (P.drop (k + 1)) (N.drop (k + 1))).toArray⟩ := ⟨_, rfl⟩
      obtain ⟨ln, hln⟩ : ∃ ln : ByteArray, ln = ⟨(p.data.toList ++ 32 :: b32 m).toArray⟩ := ⟨_, rfl⟩
      have hSl : S.data.toList = (p.data.toList ++ 32 :: b32 m) ++ 10 :: mapText (P.drop (k + 1)) (N.drop (k + 1)) := by
        rw [HS.out]; show mapText (P.drop k) (N.drop k) = _; rw [hdr]; simp [mapLine]
      have hlnz : ln.size ≤ 204 := by
        rw [hln]; show (p.data.toList ++ 32 :: b32 m).toArray.size ≤ _
        have := (b32_len m hNk).2
        have := hpb.2.1
        simp only [List.size_toArray, List.length_append, List.length_cons]; omega
      have HC1 : Hid (∀ w, ML 0 w → Calls Tryd.prog 34 #[.string S, .string ⟨#[10]⟩] w fun e w' => e = .returned (.tuple #[.string ln, .string S1, .bool true]) ∧ Below w.heap.size w w') := by
        intro w hw
        rw [hln, hS1]
        exact cut_any 10 S _ _ w hSl (by simp [hpb.2.2.1, hb10.1]) (by omega) hw
      have HC2 : Hid (∀ w, ML 0 w → Calls Tryd.prog 34 #[.string ln, .string ⟨#[32]⟩] w fun e w' => e = .returned (.tuple #[.string p, .string ⟨(b32 m).toArray⟩, .bool true]) ∧ Below w.heap.size w w') := by
        intro w hw
        have := cut_any 32 ln p.data.toList (b32 m) w (by rw [hln]) hpb.2.2.2 (by omega) hw
        rw [show (⟨p.data.toList.toArray⟩ : ByteArray) = p from bext (by simp)] at this
        exact this
      have HC3 := Lib.hid (fun w => read32_any m w hNk)
      have hSne : S.toList.isEmpty = false := by rw [ByteArray.toList_eq, hSl]; cases p.data.toList <;> rfl
      have hpne : p.toList.isEmpty = false := by
        rw [ByteArray.toList_eq]; have := hpb.1
        cases hc : p.data.toList with
        | nil => exact absurd hc this
        | cons a l => rfl
      have HSZ : Hid (S1.size < S.size) := by
        have e1 : S.data.toList.length = S.size := by simp
        have e4 : S1.size = (mapText (P.drop (k + 1)) (N.drop (k + 1))).length := by rw [hS1]; show (mapText (P.drop (k + 1)) (N.drop (k + 1))).toArray.size = _; simp
        rw [hSl] at e1
        show S1.size < S.size
        simp only [List.length_append, List.length_cons] at e1
        omega
      have HS1 := Lib.hid hS1
      have HP := Lib.hid hp
      have HM := Lib.hid hm
      have hmin : min ((sm N k : Int) + (m : Int)) 400000 = (sm N k : Int) + (m : Int) := by omega
      obtain ⟨a0, ha0⟩ : ∃ a0, a0 = sm N k := ⟨_, rfl⟩
      obtain ⟨a1, ha1⟩ : ∃ a1, a1 = sm N (k + 1) := ⟨_, rfl⟩
      rw [← ha0] at hmin hstep ⊢
      rw [← ha1] at hsm hstep
      have hadd : (a0 : Int) + (m : Int) = (a1 : Int) := by omega
      rw [hadd] at hmin
      have HA1 := Lib.hid ha1
      have HPV := Lib.hid hpv
      have HEV := Lib.hid hev
      obtain ⟨pa, pc, rfl⟩ := ownsRow_form hpv
      obtain ⟨ea, ec, rfl⟩ := ownsRow_form hev
      have hb0 : a0 ≤ 200000 := by omega
      have hb1 : m ≤ 200000 := by omega
      clear hstep hdr htl hSl hp hm hS1 hln hpb hb10 ha0 ha1 hpv hev
      go_wp2_with fail
      refine (HC1.out _ (HML.out.below HB.out HML.out.lt)).mono ?_
      rintro e w1 ⟨rfl, hc1⟩
      have HB1 : Hid (Below w.heap.size w w1) := HB.out.trans (hc1.mono HB.out.size)
      have HK1 := Lib.hid hc1
      clear hc1
      go_wp2_with fail
      refine (HC2.out _ (HML.out.below HB1.out HML.out.lt)).mono ?_
      rintro e w2 ⟨rfl, hc2⟩
      have HK2 : Hid (Below wr.heap.size wr w2) := HK1.out.trans (hc2.mono HK1.out.size)
      have HB2 : Hid (Below w.heap.size w w2) := HB1.out.trans (hc2.mono HB1.out.size)
      clear hc2 HK1 HB1
      go_wp2_with fail
      refine (HC3.out _).mono ?_
      rintro e w3 ⟨rfl, rfl⟩
      have hT := (HK2.out.block (w.heap.size + 1) (by omega)).trans HT.out
      have hR := (HK2.out.block w.heap.size (by omega)).trans HR.out
      have hz2 : w.heap.size + 2 ≤ w2.heap.size := Nat.le_trans hzr HK2.out.size
      have HT2 := Lib.hid hT
      have HR2 := Lib.hid hR
      have HPD : Hid (w2.drew.ownsRow (w.heap.size + 2) 9 1 (.slice pa k pc) k ((P.take k).map Value.string)) := ownsRow_keep HPV.out HK2.out.drew
      have HED : Hid (w2.drew.ownsRow (w.heap.size + 2) 3 1 (.slice ea k ec) k (((ends N).take k).map (Value.int .i64))) := ownsRow_keep HEV.out HK2.out.drew
      have c1 : w2.cell? ⟨w.heap.size + 1, 1, none⟩ = some (.slice pa k pc) := cellT hT rfl
      have c2 : w2.cell? ⟨w.heap.size + 1, 2, none⟩ = some (.slice ea k ec) := cellT hT rfl
      have z1 : w.heap.size + 1 < w2.heap.size := by omega
      have z1d : w.heap.size + 1 < w2.drew.heap.size := z1
      have z2 : w2.heap.size ≠ w.heap.size + 1 := by omega
      have z3 : w.heap.size + 1 ≠ w2.heap.size := by omega
      have z4 : w2.heap.size ≠ w.heap.size := by omega
      have z5 : w.heap.size ≠ w2.heap.size := by omega
      have z6 : w.heap.size < w2.heap.size := by omega
      have hz2d : w.heap.size + 2 ≤ w2.drew.heap.size := hz2
      clear hT hR HPV HEV HK2 HT HR HC1 HC2 HC3 HB
      have hcS1 : (w2.drew.alloc (.cells #[.string p] 9)).cell? ⟨w2.heap.size, 0, none⟩ = some (.string p) := cellT (heap_new_at rfl) rfl
      have hcS2 : ((w2.drew.alloc (.cells #[.string p] 9)).alloc (.cells #[.int .i64 a1] 3)).cell? ⟨w2.heap.size, 0, none⟩ = some (.string p) := cellT ((heap_alloc_old _ _ (by simp)).trans (heap_new_at rfl)) rfl
      have hcS3 : ((w2.drew.alloc (.cells #[.int .i64 a1] 3)).alloc (.cells #[.string p] 9)).cell? ⟨w2.heap.size + 1, 0, none⟩ = some (.string p) := cellT (heap_new_at (by simp)) rfl
      have hiS2 : ((w2.drew.alloc (.cells #[.string p] 9)).alloc (.cells #[.int .i64 a1] 3)).heap[w2.heap.size + 1]? = some (.cells #[.int .i64 a1] 3 (0, 0)) := heap_new_at (by simp)
      have hiS3 : ((w2.drew.alloc (.cells #[.int .i64 a1] 3)).alloc (.cells #[.string p] 9)).heap[w2.heap.size]? = some (.cells #[.int .i64 a1] 3 (0, 0)) := (heap_alloc_old _ _ (by simp)).trans (heap_new_at rfl)
      have hb1s : ∀ {o : Obj}, w.heap.size + 2 ≤ (w2.drew.alloc o).heap.size := fun {o} => Nat.le_trans hz2d (by simp)
      have hb2s : ∀ {o o' : Obj}, w.heap.size + 2 ≤ ((w2.drew.alloc o).alloc o').heap.size := fun {o o'} => Nat.le_trans hz2d (by simp; omega)
      have HcS1 := Lib.hid hcS1
      have HcS2 := Lib.hid hcS2
      have HcS3 := Lib.hid hcS3
      have HiS2 := Lib.hid hiS2
      have HiS3 := Lib.hid hiS3
      clear hcS1 hcS2 hcS3 hiS2 hiS3
      go_wp2_with fail
      go_region_law (first | (refine step_appendG (B := w.heap.size + 2) (W := w2) (((Below.refl _ w2).drew).alloc hz2d _) rfl _ _ 24 rfl si (.string ⟨#[]⟩) 16 Tryd.underlying24 hsi hsz0 hsz1 hsz2 rfl _ _ _ rfl (HPD.out.alloc (.cells #[.string p] 9)) w2.heap.size 1 rfl HcS1.out rfl (by unfold maxLen; omega) (by omega) (Nat.le_refl _) hb1s ?_; intro g9 c9 w9 hown9 hbel9 hsz9 hkp9; have hT9 := hkp9 (w.heap.size + 1) _ ((heap_alloc_old _ _ z1d).trans HT2.out) (by simp) (fun c fz hc => by injection hc with _ h2 _; exact absurd h2 (by decide)); have cT91 : w9.cell? ⟨w.heap.size + 1, 1, none⟩ = some (.slice pa k pc) := cellT hT9 rfl; have cT92 : w9.cell? ⟨w.heap.size + 1, 2, none⟩ = some (.slice ea k ec) := cellT hT9 rfl; have z9 : w.heap.size + 1 < w9.heap.size := (by omega); have z9b : w9.heap.size ≠ w.heap.size + 1 := (by omega); have hE9 := ownsRow_others (HED.out.alloc (.cells #[.string p] 9)) hkp9 (by decide) (by simp)) | (refine step_appendG (B := w.heap.size + 2) (W := w2) ((((Below.refl _ w2).drew).alloc hz2d _).alloc hb1s _) rfl _ _ 24 rfl si (.string ⟨#[]⟩) 16 Tryd.underlying24 hsi hsz0 hsz1 hsz2 rfl _ _ _ rfl ((HPD.out.alloc (.cells #[.string p] 9)).alloc (.cells #[.int .i64 a1] 3)) w2.heap.size 1 rfl HcS2.out rfl (by unfold maxLen; omega) (by omega) (Nat.le_refl _) hb2s ?_; intro g9 c9 w9 hown9 hbel9 hsz9 hkp9; have hT9 := hkp9 (w.heap.size + 1) _ ((heap_alloc_old _ _ (by simp; omega)).trans ((heap_alloc_old _ _ z1d).trans HT2.out)) (by simp) (fun c fz hc => by injection hc with _ h2 _; exact absurd h2 (by decide)); have cT91 : w9.cell? ⟨w.heap.size + 1, 1, none⟩ = some (.slice pa k pc) := cellT hT9 rfl; have cT92 : w9.cell? ⟨w.heap.size + 1, 2, none⟩ = some (.slice ea k ec) := cellT hT9 rfl; have z9 : w.heap.size + 1 < w9.heap.size := (by omega); have z9b : w9.heap.size ≠ w.heap.size + 1 := (by omega); have hE9 := ownsRow_others ((HED.out.alloc (.cells #[.string p] 9)).alloc (.cells #[.int .i64 a1] 3)) hkp9 (by decide) (by simp); have hI9 : w9.cell? ⟨w2.heap.size + 1, 0, none⟩ = some (.int .i64 a1) := cellT (hkp9 (w2.heap.size + 1) _ HiS2.out (by simp) (fun c fz hc => by injection hc with _ h2 _; exact absurd h2 (by decide))) rfl) | (refine step_appendG (B := w.heap.size + 2) (W := w2) ((((Below.refl _ w2).drew).alloc hz2d _).alloc hb1s _) rfl _ _ 24 rfl si (.string ⟨#[]⟩) 16 Tryd.underlying24 hsi hsz0 hsz1 hsz2 rfl _ _ _ rfl ((HPD.out.alloc (.cells #[.int .i64 a1] 3)).alloc (.cells #[.string p] 9)) (w2.heap.size + 1) 1 rfl HcS3.out rfl (by unfold maxLen; omega) (by omega) (Nat.le_refl _) hb2s ?_; intro g9 c9 w9 hown9 hbel9 hsz9 hkp9; have hT9 := hkp9 (w.heap.size + 1) _ ((heap_alloc_old _ _ (by simp; omega)).trans ((heap_alloc_old _ _ z1d).trans HT2.out)) (by simp) (fun c fz hc => by injection hc with _ h2 _; exact absurd h2 (by decide)); have cT91 : w9.cell? ⟨w.heap.size + 1, 1, none⟩ = some (.slice pa k pc) := cellT hT9 rfl; have cT92 : w9.cell? ⟨w.heap.size + 1, 2, none⟩ = some (.slice ea k ec) := cellT hT9 rfl; have z9 : w.heap.size + 1 < w9.heap.size := (by omega); have z9b : w9.heap.size ≠ w.heap.size + 1 := (by omega); have hE9 := ownsRow_others ((HED.out.alloc (.cells #[.int .i64 a1] 3)).alloc (.cells #[.string p] 9)) hkp9 (by decide) (by simp); have hI9 : w9.cell? ⟨w2.heap.size, 0, none⟩ = some (.int .i64 a1) := cellT (hkp9 w2.heap.size _ HiS3.out (by simp) (fun c fz hc => by injection hc with _ h2 _; exact absurd h2 (by decide))) rfl) | (refine step_appendG (B := w.heap.size + 2) (W := w9) ((Below.refl _ w9).alloc hsz9 (.cells #[.int .i64 a1] 3)) rfl _ _ 25 rfl ii (.int .i64 0) 8 Tryd.underlying25 hii hiz0 hiz1 hiz2 rfl _ _ _ rfl (hE9.alloc (.cells #[.int .i64 a1] 3)) w9.heap.size 1 rfl (cellT (heap_alloc_new w9 _) rfl) rfl (by unfold maxLen; omega) (by omega) (Nat.le_refl _) (Nat.le_trans hsz9 (by simp)) ?_; intro g8 c8 w8 hown8 hbel8 hsz8 hkp8; have hT8 := hkp8 (w.heap.size + 1) _ ((heap_alloc_old _ _ z9).trans hT9) (by simp) (fun c fz hc => by injection hc with _ h2 _; exact absurd h2 (by decide)); have hP8 := ownsRow_others (hown9.alloc (.cells #[.int .i64 a1] 3)) hkp8 (by decide) (by simp); have cT81 : w8.cell? ⟨w.heap.size + 1, 1, none⟩ = some (.slice pa k pc) := cellT hT8 rfl; have cT82 : w8.cell? ⟨w.heap.size + 1, 2, none⟩ = some (.slice ea k ec) := cellT hT8 rfl; have fT81 : w8.frozen? ⟨w.heap.size + 1, 1, none⟩ = false := frozenT hT8; have fT82 : w8.frozen? ⟨w.heap.size + 1, 2, none⟩ = false := frozenT hT8) | (refine step_appendG (B := w.heap.size + 2) (W := w9) (Below.refl _ w9) rfl _ _ 25 rfl ii (.int .i64 0) 8 Tryd.underlying25 hii hiz0 hiz1 hiz2 rfl _ _ _ rfl hE9 (w2.heap.size + 1) 1 rfl hI9 rfl (by unfold maxLen; omega) (by omega) (Nat.le_refl _) hsz9 ?_; intro g8 c8 w8 hown8 hbel8 hsz8 hkp8; have hT8 := hkp8 (w.heap.size + 1) _ (hT9) (by simp) (fun c fz hc => by injection hc with _ h2 _; exact absurd h2 (by decide)); have hP8 := ownsRow_others hown9 hkp8 (by decide) (by simp); have cT81 : w8.cell? ⟨w.heap.size + 1, 1, none⟩ = some (.slice pa k pc) := cellT hT8 rfl; have cT82 : w8.cell? ⟨w.heap.size + 1, 2, none⟩ = some (.slice ea k ec) := cellT hT8 rfl; have fT81 : w8.frozen? ⟨w.heap.size + 1, 1, none⟩ = false := frozenT hT8; have fT82 : w8.frozen? ⟨w.heap.size + 1, 2, none⟩ = false := frozenT hT8) | (refine step_appendG (B := w.heap.size + 2) (W := w9) (Below.refl _ w9) rfl _ _ 25 rfl ii (.int .i64 0) 8 Tryd.underlying25 hii hiz0 hiz1 hiz2 rfl _ _ _ rfl hE9 w2.heap.size 1 rfl hI9 rfl (by unfold maxLen; omega) (by omega) (Nat.le_refl _) hsz9 ?_; intro g8 c8 w8 hown8 hbel8 hsz8 hkp8; have hT8 := hkp8 (w.heap.size + 1) _ (hT9) (by simp) (fun c fz hc => by injection hc with _ h2 _; exact absurd h2 (by decide)); have hP8 := ownsRow_others hown9 hkp8 (by decide) (by simp); have cT81 : w8.cell? ⟨w.heap.size + 1, 1, none⟩ = some (.slice pa k pc) := cellT hT8 rfl; have cT82 : w8.cell? ⟨w.heap.size + 1, 2, none⟩ = some (.slice ea k ec) := cellT hT8 rfl; have fT81 : w8.frozen? ⟨w.heap.size + 1, 1, none⟩ = false := frozenT hT8; have fT82 : w8.frozen? ⟨w.heap.size + 1, 2, none⟩ = false := frozenT hT8))
      all_goals
        have hw8 : Below w.heap.size w ((w8.setCell ⟨w.heap.size + 1, 1, none⟩ (.slice (some ⟨g9, 0, none⟩) (k + 1) c9)).setCell ⟨w.heap.size + 1, 2, none⟩ (.slice (some ⟨g8, 0, none⟩) (k + 1) c8)) := (((HB2.out.trans (hbel9.mono (by omega))).trans (hbel8.mono (by omega))).setCell (Nat.le_succ _) _).setCell (Nat.le_succ _) _
        have hR8 := (hbel8.block w.heap.size (by omega)).trans ((hbel9.block w.heap.size (by omega)).trans HR2.out)
        obtain ⟨hz8, hR10, hT10, hP10, hE10⟩ := rm_next P N k p hkl HP.out HA1.out (by rw [HPN.out] at hkl; exact hkl) hR8 hT8 hP8 hown8 hsz8
        have HR10 := Lib.hid hR10
        have HT10 := Lib.hid hT10
        clear hR8 hT8 hR10 hT10 cT81 cT82 fT81 fT82 hT9 cT91 cT92
        go_wp2_with fail
        go_roundw
        case rel => exact ⟨k + 1, by omega, ⟨S1, rfl, HS1.out⟩, by rw [← HA1.out], hw8, hz8, _, _, HR10, HT10, hP10, hE10⟩
        case measure => exact HSZ.out
    · obtain rfl : k = P.length := by omega
      have hSe : S = ⟨#[]⟩ := by rw [HS.out, List.drop_length]; rfl
      have hsm : sm N P.length ≤ 200000 := by rw [sm_all N _ (by rw [HPN.out]; exact Nat.le_refl _)]; exact hmx
      have hSe2 : S.toList.isEmpty = true := by rw [hSe, ByteArray.toList_eq]; rfl
      rw [List.take_length] at hpv
      rw [show (ends N).take P.length = ends N from List.take_of_length_le (by rw [ends_len, HPN.out]; exact Nat.le_refl _)] at hev
      have hss : Ss wr pv P := ⟨Sl.of_own hpv (by decide), fun s hs => by have := HPZ.out s hs; unfold maxLen; omega⟩
      have HPF := Lib.hid (pf_any pv P wr hss (HML.out.below HB.out HML.out.lt))
      obtain ⟨pa, pc, rfl⟩ := ownsRow_form hpv
      obtain ⟨ea, ec, rfl⟩ := ownsRow_form hev
      have e1 : wr.cell? ⟨w.heap.size + 1, 1, none⟩ = some (.slice pa P.length pc) := cellT HT.out rfl
      have HPV := Lib.hid hpv
      have HEV := Lib.hid hev
      have hb4 : sm N P.length ≤ 9223372036854775807 := by omega
      obtain ⟨a0, ha0⟩ : ∃ a0, a0 = sm N P.length := ⟨_, rfl⟩
      rw [← ha0] at hsm hb4 ⊢
      clear hSe hss hpv hev ha0
      go_wp2_with fail
      refine HPF.out.mono ?_
      rintro e w2 ⟨n, rfl, hn0, hb2⟩
      obtain rfl : n = 0 := hn0.2 HG.out
      have hT := (hb2.block (w.heap.size + 1) (by omega)).trans HT.out
      have hR := (hb2.block w.heap.size (by omega)).trans HR.out
      have hz2 : w.heap.size + 2 ≤ w2.heap.size := Nat.le_trans hzr hb2.size
      have HB2 : Hid (Below w.heap.size w w2) := HB.out.trans (hb2.mono HB.out.size)
      have HP2 := Lib.hid (ownsRow_keep HPV.out hb2)
      have HE2 := Lib.hid (ownsRow_keep HEV.out hb2)
      have c0 : w2.cell? ⟨w.heap.size + 1, 0, none⟩ = some (.string ⟨#[]⟩) := cellT hT rfl
      have c1 : w2.cell? ⟨w.heap.size + 1, 1, none⟩ = some (.slice pa P.length pc) := cellT hT rfl
      have c2 : w2.cell? ⟨w.heap.size + 1, 2, none⟩ = some (.slice ea P.length ec) := cellT hT rfl
      have r0 : w2.cell? ⟨w.heap.size, 0, none⟩ = some (.string ⟨#[]⟩) := cellT hR rfl
      have r1 : w2.cell? ⟨w.heap.size, 1, none⟩ = some (.slice none 0 0) := cellT hR rfl
      have r2 : w2.cell? ⟨w.heap.size, 2, none⟩ = some (.slice none 0 0) := cellT hR rfl
      have g0 : w2.frozen? ⟨w.heap.size, 0, none⟩ = false := frozenT hR
      have g1 : w2.frozen? ⟨w.heap.size, 1, none⟩ = false := frozenT hR
      have g2 : w2.frozen? ⟨w.heap.size, 2, none⟩ = false := frozenT hR
      clear hT hR hb2 hn0 e1
      go_wp2_with fail
      refine bodyPost_ret (v := .tuple #[.agg #[.string ⟨#[]⟩, .slice pa P.length pc, .slice ea P.length ec], .int .i64 0]) ?_ rfl ⟨.slice pa P.length pc, .slice ea P.length ec, rfl, ?_, ⟨?_, fun s hs => ?_⟩, ?_⟩
      · simp [results, Tryd.results11, go_sem, r0, r1, r2]
      · repeat (first | with_reducible refine Below.drew ?_ | with_reducible refine Below.setCell ?_ (by simp <;> omega) _ | with_reducible refine Below.alloc ?_ (by simp <;> omega) _)
        exact HB2.out
      · refine Sl.of_own (e := 9) (base := w.heap.size + 2) ?_ (by decide)
        repeat (with_reducible refine ownsRow_setCell_below ?_ (by simp <;> omega) _)
        exact HP2.out
      · have := HPZ.out s hs; unfold maxLen; omega
      · rw [← HPN.out]
        refine Sl.of_own (e := 3) (base := w.heap.size + 2) ?_ (by decide)
        repeat (with_reducible refine ownsRow_setCell_below ?_ (by simp <;> omega) _)
        exact HE2.out
end Go.Proofs.YtccmnhpkbbhomaaDoor
