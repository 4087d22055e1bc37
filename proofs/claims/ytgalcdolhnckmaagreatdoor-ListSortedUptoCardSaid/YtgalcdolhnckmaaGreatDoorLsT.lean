/- ListSorted: the walk. Conditions: at most 1048576 values in an item. -/
import Derived.Test.YtgalcdolhnckmaaGreatDoorLsW
import Derived.Test.YtgalcdolhnckmaaGreatDoorLsJ
import Derived.Test.YtgalcdolhnckmaaGreatDoorAwL2
namespace Mh
open Go Go.RowKit
set_option linter.unusedVariables false
def again (l : List V) (ks : List Ky) : List V := (sortK l ks).map fun p => l.getD p V.nil
theorem again_len (l : List V) (ks : List Ky) : (again l ks).length = l.length := by unfold again; rw [List.length_map, sortK_len]
theorem sortK_lt {l : List V} {ks : List Ky} {p : Nat} (h : p ∈ sortK l ks) : p < l.length := List.mem_range.1 ((sortK_perm l ks).mem_iff.1 h)
theorem again_mem {l : List V} {ks : List Ky} {X : V} (h : X ∈ again l ks) : X ∈ l := by
  unfold again at h
  obtain ⟨p, hp, rfl⟩ := List.mem_map.1 h
  have := sortK_lt hp
  rw [List.getD_eq_getElem?_getD, List.getElem?_eq_getElem this]
  exact List.getElem_mem this
theorem again_ok {l : List V} {ks : List Ky} (h : SortOk l ks) : SortOk (again l ks) ks := ⟨⟨by rw [again_len]; exact h.1.1, fun X hX => h.1.2 X (again_mem hX)⟩, h.2⟩
end Mh
namespace Go.Proofs.YtgalcdolhnckmaaGreatDoor
open Go.RowKit Mh
set_option linter.unusedVariables false
set_option maxRecDepth 100000 in
set_option maxHeartbeats 16000000 in
theorem sorted_walk (u kv : Value) (l : List V) (ks : List Ky) (w : World) (hn : ∀ X ∈ l, X.nodes ≤ 1048576) (hu : VsL w u l) (hkv : KsAt w kv ks) :
    Calls Tryz.prog 3 #[u, kv] w fun e w' => e = .returned (.bool true) ∧ Below w.heap.size w w' := by
  have HAW := Lib.hid (awakeList_any w)
  have HS1 := Lib.hid (fun w' (hb : Below w.heap.size w w') => lsort_any u kv l ks w' hn (hu.keep hb) (hkv.keep hb))
  have HS2 := Lib.hid (fun v w' (hb : Below w.heap.size w w') (hv : VsL w' v (again l ks)) => lsort_any v kv (again l ks) ks w' (fun X hX => hn X (again_mem hX)) hv (hkv.keep hb))
  obtain ⟨rows0, hS, hT⟩ := hu
  obtain ⟨ua, uc, rfl, hk⟩ := VsAt.item hS hT
  have HK := Lib.hid hk
  obtain ⟨ka, kc, rfl, _, _⟩ := hkv.item
  obtain ⟨ti, hti, ht0, ht1, ht2⟩ := info_parts infoValueH
  clear hS hT hk hkv hn
  go_enter Tryz.func3, Tryz.ntmps3
  go_wp2_with fail
  refine HAW.out.mono ?_
  rintro e w1 ⟨rfl, hb1⟩
  have HB1 := Lib.hid hb1
  clear hb1 HAW
  go_wp2_with fail
  refine (HS1.out w1 HB1.out).mono ?_
  rintro e w2 ⟨v, r, rfl, hb2, hr, hz, hs⟩
  have HB2 : Hid (Below w.heap.size w w2) := HB1.out.trans (hb2.mono HB1.out.size)
  clear hb2 HS1 HB1
  by_cases h1 : r = 0
  case neg =>
    have hq : (r != 0) = true := by rw [bne_iff_ne]; exact h1
    obtain rfl := hz h1
    clear h1 hz hs hr
    go_wp2_with fail
    go_ret
    exact ⟨rfl, HB2.out⟩
  subst h1
  have HOK := Lib.hid (hr.1 rfl)
  have hl2 := HOK.out.1.1
  have hsl := hs rfl
  obtain ⟨ao, ac, rfl, ham, hac⟩ := hsl.shp
  have HAC : Hid (∀ i (hi : i < l.length), ∃ b off, ao = some ⟨b, off, none⟩ ∧ l.length ≤ ac ∧ ac ≤ maxLen ∧ b < w2.heap.size ∧ w2.cell? ⟨b, off + i, none⟩ = some (encP ((sortK l ks)[i]'(by rw [sortK_len]; exact hi)))) := fun i hi => by
    obtain ⟨b, off, h1, h2, h3, h4, h5⟩ := hac (by omega)
    exact ⟨b, off, h1, h2, h3, h4, h5 i _ (by rw [List.getElem?_map, List.getElem?_eq_getElem (by rw [sortK_len]; exact hi)]; rfl)⟩
  have HLN := Lib.hid (sortK_len l ks)
  have hbx : Below w2.heap.size w2 (w2.alloc (.cells #[.slice ao l.length ac] 25)) := (Below.refl _ w2).alloc (Nat.le_refl _) _
  have HBX : Hid (Below w.heap.size w (w2.alloc (.cells #[.slice ao l.length ac] 25))) := HB2.out.trans (hbx.mono HB2.out.size)
  have HSO : Hid (Calls Tryz.prog 6 #[.func (.func 18) #[] #[.pointer (some ⟨w2.heap.size, 0, none⟩)]] (w2.alloc (.cells #[.slice ao l.length ac] 25)) fun e w' => ∃ v', e = .returned v' ∧ w'.ownsRow (w2.alloc (.cells #[.slice ao l.length ac] 25)).heap.size 3 1 v' l.length ((List.range l.length).map encP) ∧ Below (w2.alloc (.cells #[.slice ao l.length ac] 25)).heap.size (w2.alloc (.cells #[.slice ao l.length ac] 25)) w') := by
    refine sorted_any w2.heap.size ao ac (sortK l ks) (by rw [sortK_len]; omega) l.length (sortK_perm l ks) _ (by rw [sortK_len]; exact Boxed.new w2 25 _) fun k hk => ?_
    obtain ⟨b, off, h1, h2, h3, h4, h5⟩ := HAC.out k (by rw [sortK_len] at hk; exact hk)
    exact ⟨b, off, h1, Nat.lt_of_lt_of_le h4 hbx.size, (hbx.cell (p := ⟨b, off + k, none⟩) h4).trans h5⟩
  have HB22 := Lib.hid hbx
  clear hr hz hs hsl hac hbx
  unfold maxLen at ham
  go_wp2_with (go_at_call 7; refine (values_any _ _ _ _).mono ?_; rintro e w' ⟨rfl, rfl⟩)
  refine HSO.out.mono ?_
  rintro e w3 ⟨bv, rfl, hbo, hb3⟩
  have HB3 : Hid (Below w.heap.size w w3) := HBX.out.trans (hb3.mono HBX.out.size)
  have HB23 : Hid (Below w2.heap.size w2 w3) := HB22.out.trans (hb3.mono HB22.out.size)
  have hbsl := Sl.of_own hbo (by decide)
  obtain ⟨ba, bc, rfl, hbm, hbc⟩ := hbsl.shp
  have HBC : Hid (∀ i (hi : i < l.length), ∃ b off, ba = some ⟨b, off, none⟩ ∧ l.length ≤ bc ∧ bc ≤ maxLen ∧ b < w3.heap.size ∧ w3.cell? ⟨b, off + i, none⟩ = some (.int .i64 (i : Nat))) := fun i hi => by
    obtain ⟨b, off, h1, h2, h3, h4, h5⟩ := hbc (by omega)
    exact ⟨b, off, h1, h2, h3, h4, h5 i _ (by rw [List.getElem?_map, List.getElem?_eq_getElem (by rw [List.length_range]; exact hi), List.getElem_range]; rfl)⟩
  clear hbo hb3 hbsl hbc HSO HB22 HBX
  go_wp2_with fail
  go_loopw [37] (fun i wr => ∃ k : Nat, k ≤ l.length ∧ i = .int .i64 k ∧ wr = w3) (fun i _ => l.length - (intOf i).toNat)
  case atStart => exact ⟨0, Nat.zero_le _, rfl, rfl⟩
  case round =>
    obtain ⟨k, hk, rfl, rfl⟩ := hrel
    by_cases hkl : k < l.length
    · obtain ⟨b, off, rfl, g1, g2, g3, c0⟩ := HBC.out k hkl
      unfold maxLen at g2
      go_wp2_with fail
      go_roundw
      case rel => exact ⟨k + 1, by omega, by go_num, (by first | rfl | trivial)⟩
      case measure => simp [intOf]; omega
    · obtain ⟨w4, rfl⟩ : ∃ w4 : World, w4 = wr := ⟨_, rfl⟩
      have H0 : Hid (w4.ownsRow w4.heap.size 35 6 (.slice none 0 0) 0 [] ∧ VsAt w ((again l ks).take 0) [] ∧ Below w4.heap.size w4 w4) := ⟨World.ownsRow_nil _ _ _ _, by simp [VsAt], Below.refl _ _⟩
      clear HBC
      go_wp2_with fail
      go_loopw [10, 48] (fun v i wr => ∃ (k : Nat) (rows : List Value), k ≤ l.length ∧ i = .int .i64 k ∧ Hid (wr.ownsRow w4.heap.size 35 6 v k rows ∧ VsAt w ((again l ks).take k) rows ∧ Below w4.heap.size w4 wr)) (fun _ i _ => l.length - (intOf i).toNat)
      case atStart => exact ⟨0, [], Nat.zero_le _, rfl, H0⟩
      case round =>
        clear H0
        obtain ⟨k, rows, hk, rfl, HI⟩ := hrel
        obtain ⟨va, vc, hv⟩ := ownsRow_form HI.out.1
        subst hv
        have HBW : Hid (Below w.heap.size w wr) := HB3.out.trans (HI.out.2.2.mono HB3.out.size)
        by_cases hkl : k < l.length
        · obtain ⟨b, off, rfl, g1, g2, g3, c0⟩ := HAC.out k hkl
          have d9 := ((HB23.out.trans (HI.out.2.2.mono HB23.out.size)).cell (p := ⟨b, off + k, none⟩) g3).trans c0
          have hplt := sortK_lt (List.getElem_mem (show k < (sortK l ks).length by rw [HLN.out]; exact hkl))
          have HTK : Hid ((again l ks).take (k + 1) = (again l ks).take k ++ [l[(sortK l ks)[k]'(by rw [HLN.out]; exact hkl)]'hplt]) := by
            show _ = _
            rw [List.take_succ_eq_append_getElem (by rw [again_len]; exact hkl)]
            congr 2
            unfold again
            rw [List.getElem_map, List.getD_eq_getElem?_getD, List.getElem?_eq_getElem hplt]; rfl
          unfold encP at d9
          generalize (sortK l ks)[k]'(by rw [HLN.out]; exact hkl) = p at *
          obtain ⟨ib, io, ja, jc, la, lc, rfl, hlt, hat, hc6⟩ := HK.out p hplt
          obtain ⟨d0, d1, d2, d3, d4, d5⟩ := six_later HBW.out hlt hc6
          have HAT := Lib.hid hat
          have HROW := Lib.hid (fun ob => HI.out.1.alloc ob)
          have hz4 := HI.out.2.2.size
          have HNX : Hid (∀ (ob : Obj) (v' : Value) (w' : World), w'.ownsRow w4.heap.size 35 6 v' (k + 1) (rows ++ vcs l[p] ja jc la lc) → (wr.alloc ob).grownBy w' (Value.slice va k vc).ownBlock → w'.ownsRow w4.heap.size 35 6 v' (k + 1) (rows ++ vcs l[p] ja jc la lc) ∧ VsAt w ((again l ks).take (k + 1)) (rows ++ vcs l[p] ja jc la lc) ∧ Below w4.heap.size w4 w') := fun ob v' w' hown hgr =>
            ⟨hown, by rw [HTK.out]; exact HI.out.2.1.append (VsAt.one HAT.out), (HI.out.2.2.alloc hz4 ob).grown hgr (by simp; omega) fun q hq => (HI.out.1.lt q hq).1⟩
          clear c0 g3 hat hc6 HTK HI HAT
          generalize l[p] = Z at *
          unfold maxLen at g2
          go_wp2_with (at_builtin; go_loud (refine wpList_append_own_at _ rfl _ _ 22 rfl w4.heap.size 35 ti (.agg #[.int .i64 0, .bool false, .int .i64 0, .string ⟨#[]⟩, .slice none 0 0, .slice none 0 0]) 6 88 Tryz.underlying22 hti ht0 ht1 ht2 rfl (by decide) _ _ _ rfl (HROW.out _) ⟨wr.heap.size, 0, none⟩ 1 1 (vcs Z ja jc la lc) rfl rfl (vcs_cells _ _ _ _ _ _ _) (by simp [Value.oneCell', vcs]) (by unfold maxLen; omega) (by omega) (by simp; omega) ?_); intro v' w' hown' hgr hnil hat; have HI3 := Lib.hid (HNX.out _ _ _ hown' hgr); clear hown' hgr hnil hat)
          go_roundw
          case rel => exact ⟨k + 1, _, by omega, by go_num, HI3⟩
          case measure => simp [intOf]; omega
        · have hke : k = l.length := by omega
          subst hke
          have HVS : Hid (VsL wr (.slice va l.length vc) (again l ks)) := by
            have h3 := HI.out.2.1
            rw [List.take_of_length_le (by rw [again_len]; exact Nat.le_refl _)] at h3
            exact ⟨rows, by rw [again_len]; exact Sl.of_own HI.out.1 (by decide), h3.keep HBW.out⟩
          have HCALL := Lib.hid (HS2.out _ wr HBW.out HVS.out)
          have HOK2 : Hid (SortOk (again l ks) ks) := again_ok HOK.out
          have HSA : Hid (sortK (again l ks) ks = List.range l.length) := sort_again l ks
          have HAL := Lib.hid (again_len l ks)
          clear HI HVS HS2 HAC
          go_wp2_with fail
          refine HCALL.out.mono ?_
          rintro e w5 ⟨cv, r2, rfl, hb5, hr2, _, hs2⟩
          obtain rfl := hr2.2 HOK2.out
          have hcs := hs2 rfl
          rw [HSA.out, HAL.out] at hcs
          have HB5 : Hid (Below w.heap.size w w5) := HBW.out.trans (hb5.mono HBW.out.size)
          have HIS := Lib.hid (isSortedI_any cv l.length (by omega) w5 hcs)
          obtain ⟨ca, cc, rfl, _⟩ := Sl.word hcs
          clear hb5 hr2 hs2 hcs HCALL
          go_wp2_with fail
          refine HIS.out.mono ?_
          rintro e w6 ⟨rfl, hb6⟩
          have HB6 : Hid (Below w.heap.size w w6) := HB5.out.trans (hb6.mono HB5.out.size)
          clear hb6 HIS
          go_wp2_with fail
          go_ret
          exact ⟨rfl, HB6.out⟩
end Go.Proofs.YtgalcdolhnckmaaGreatDoor
