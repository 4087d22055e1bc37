/- list.terms: the terms of items at a route. Conditions: right items. -/
import Derived.Test.YtihdfkcoajpmjaaGreatDoorLtO
import Derived.Deep.CutBlock
import Derived.Deep.RegionLaw
namespace Mh
open Go Go.RowKit
set_option linter.unusedVariables false
theorem mapF_obj {P : Program} {k : TypeId} {w : World} {b n : Nat} {f : ByteArray → Option Value} (h : MapF P k w b n f) : ∃ es c, w.heap[b]? = some (.map es c) := by
  obtain ⟨D, ⟨es, clock, h0, _⟩, _⟩ := h; exact ⟨es, clock, h0⟩
theorem trim_len (s p : List UInt8) : (Lib.trimSuffix s p).length ≤ s.length := by
  unfold Lib.trimSuffix
  split <;> simp
theorem slugB_size (s : ByteArray) : (slugB s).size ≤ 40 := by
  have h := trim_len ((slugO s.data.toList).take 40) [45]
  show (Lib.trimSuffix ((slugO s.data.toList).take 40) [45]).toArray.size ≤ 40
  rw [List.size_toArray]
  rw [List.length_take] at h
  omega
theorem row1 {w : World} {base e n c : Nat} {a : Option Addr} {xs : List Value} (h : w.ownsRow base e 1 (.slice a n c) n xs) {j : Nat} (hj : j < n) :
    ∃ b off, a = some ⟨b, off, none⟩ ∧ n ≤ c ∧ c ≤ maxLen ∧ ∀ u, xs[j]? = some u → w.cell? ⟨b, off + j, none⟩ = some u := by
  have hs := Sl.of_own h (by decide)
  rcases hs.2 with ⟨h0, _⟩ | ⟨b, off, c', hv, h1, h2, h3, _, h5⟩
  · omega
  · simp only [Value.slice.injEq] at hv
    obtain ⟨rfl, _, rfl⟩ := hv
    exact ⟨b, off, rfl, h2, h3, fun u hu => h5 j u hu⟩
theorem one_cellT (w : World) (x0 : Value) (t : TypeId) : ∀ j u, [x0][j]? = some u → (w.alloc (.cells #[x0] t)).cell? ((⟨w.heap.size, 0, none⟩ : Addr).add j) = some u := by
  intro j u hj
  rw [Addr.add_lit, cell_of_row _ _ _ _ _ _ (heap_alloc_new w _)]
  rw [Nat.zero_add]
  simpa using hj
theorem below_newT (w : World) (o : Obj) : Below w.heap.size w (w.alloc o) := (Below.refl _ w).alloc (Nat.le_refl _) _
end Mh
namespace Go.Proofs.YtihdfkcoajpmjaaGreatDoor
open Go.RowKit Mh
set_option linter.unusedVariables false
theorem infoIntT : (Tryz.prog.info? 3).map (fun i => (i.zero, i.size, i.bytes)) = some (some (.int .i64 0), 1, 8) := by kernel_rfl
theorem infoTermT : (Tryz.prog.info? 30).map (fun i => (i.zero, i.size, i.bytes)) = some (some (.agg #[.string ⟨#[]⟩, .string ⟨#[]⟩, .slice none 0 0]), 3, 56) := by kernel_rfl
theorem ranges_cnt {w : World} {b r n cnt : Nat} {D : DataW Value} {left : Lit → Bool} (h : w.ranges Tryz.prog 9 rdHeld b r n D left cnt) : cnt ≤ n := by
  obtain ⟨es, clock, since, seen, c0, _, _, hs, _, _, _, hc, _⟩ := h
  rw [← hc]
  refine Nat.le_trans ?_ hs
  unfold leftOf
  exact Array.size_filter_le
theorem zeroPtrT (w : World) : (zeroValue 63).run Tryz.prog w = .ok (.pointer none) w := by kernel_rfl
/-- The terms as they are handed back. -/
def OutT (b0 : Nat) (w' : World) (v : Value) (r : ByteArray) (l : List V) : Prop := ∃ L1 : List TmR, (L1.map TmR.t).Perm (termsT slugB 0 [] (l.map (nsOf r))) ∧ (L1.Pairwise fun x y => klR y x = false) ∧ Sl 3 w' v L1.length (L1.flatMap trL) ∧ ∀ x ∈ L1, w'.ownsRow b0 3 1 x.v x.t.it.length (x.t.it.map encN)
theorem perm_all {R : List TmR} {L : List Nat} (h1 : L.Nodup) (h2 : ∀ a ∈ L, a < R.length) (h3 : ∀ a, a < R.length → a ∈ L) : (L.map fun a => R.getD a default).Perm R := by
  have hp : L.Perm (List.range R.length) := (List.perm_ext_iff_of_nodup h1 List.nodup_range).2 fun a => ⟨fun h => List.mem_range.2 (h2 a h), fun h => h3 a (List.mem_range.1 h)⟩
  have he : (List.range R.length).map (fun a => R.getD a default) = R := by
    apply List.ext_getElem (by simp)
    intro k h1 h2
    simp [List.getD_eq_getElem?_getD, h2]
  have := hp.map (fun a => R.getD a default)
  rwa [he] at this
def TmsRes (b0 : Nat) (r : ByteArray) (l : List V) (w' : World) (v : Value) (n : Int) : Prop := (n ≠ 0 ∧ (¬ ∀ X ∈ l, TermOk r X) ∧ v = .slice none 0 0) ∨ (n = 0 ∧ (∀ X ∈ l, TermOk r X) ∧ OutT b0 w' v r l)
/-- What has been put out. -/
structure RgP (R : List TmR) (D : DataW Value) (L : List Nat) (left : Lit → Bool) (cnt : Nat) : Prop where
  nd : L.Nodup
  lt : ∀ a ∈ L, a < R.length
  lf : ∀ a (ha : a < R.length), left (.string R[a].t.nm.data.toList) = true ↔ a ∉ L
  lh : ∀ kl, left kl = true → Maps.has D kl = true
  ln : L.length + cnt ≤ R.length
set_option maxRecDepth 100000 in
set_option maxHeartbeats 16000000 in
theorem terms_any (u : Value) (l : List V) (r : ByteArray) (w : World) (hr : r.size ≤ maxLen) (hok : ∀ X ∈ l, X.lfOk) (hn : ∀ X ∈ l, X.nodes ≤ 1048576) (hl2 : l.length ≤ 2000) (h : VsL w u l) :
    Calls Tryz.prog 10 #[u, .string r] w fun e w' => ∃ (v : Value) (n : Int), e = .returned (.tuple #[v, .int .i64 n]) ∧ Hid (TmsRes w.heap.size r l w' v n) ∧ Hid (Below w.heap.size w w') := by
  have HAD := Lib.hid (fun w1 (hb : Below w.heap.size w w1) => had_any u l r w w1 hb hr (fun X hX => lfOk_fit _ X (Nat.lt_succ_self _) (hok X hX)) hl2 h)
  have HOKL : Hid (∀ k (hk : k < l.length), atR r l[k] = V.nil ∨ ((atR r l[k]).lfOk ∧ (atR r l[k]).nodes ≤ 1048576)) := fun k hk => atR_ok (hok _ (List.getElem_mem hk)) (hn _ (List.getElem_mem hk)) r
  have HSLG := Lib.hid (fun s (hs : s.size ≤ 1000000000) w1 => slug_any s hs w1)
  clear hok hn h hr
  obtain ⟨i0, hi, hz0, hz1, hz2⟩ := info_parts infoIntT
  have HM0 := Lib.hid (mapF_made w Tryz.prog 9)
  have HBM : Hid (Below w.heap.size w (w.alloc (.map #[] 0))) := below_newT _ _
  go_enter Tryz.func10, Tryz.ntmps10
  go_wp2_with (rw [run_makeMap])
  refine (HAD.out _ HBM.out).mono ?_
  rintro e w1 ⟨hv, rows, rfl, hO, hVs, hb1⟩
  have hsz1 := hb1.size
  have HB1 : Hid (Below w.heap.size w w1) := HBM.out.trans (hb1.mono HBM.out.size)
  have hOB : w1.ownsRow w.heap.size 35 6 hv l.length rows := own_baseL hO HBM.out.size
  have HT0 : Hid (TIn w.heap.size w.heap.size w hv l.length rows [] [] w1) :=
    ⟨⟨fun a h => by simp at h, fun a h => by simp at h, fun a b h => by simp at h, fun a b h => by simp at h, fun a h => by simp at h, HM0.out.below hb1, Nat.le_refl _, mapF_obj (HM0.out.below hb1)⟩, rfl, hOB, HB1.out, HB1.out.size⟩
  obtain ⟨ao, ac, hve, hlm, hit⟩ := had_item (is := l.map (atR r)) (by rw [List.length_map]; exact hOB) hVs
  rw [List.length_map] at hve
  subst hve
  have HIT : Hid (∀ k (hk : k < l.length), ∃ b off ia ic ka kc, ao = some ⟨b, off, none⟩ ∧ VAt w (atR r l[k]) (vcs (atR r l[k]) ia ic ka kc) ∧
      ∀ (wx : World), wx.ownsRow w.heap.size 35 6 (.slice ao l.length ac) l.length rows → ∀ j (hj : j < 6), wx.cell? ⟨b, off + k * 6 + j, none⟩ = some ((vcs (atR r l[k]) ia ic ka kc)[j]'hj)) := fun k hk => by
    have := hit k (by rw [List.length_map]; exact hk)
    simp only [List.length_map, List.getElem_map] at this
    exact this
  clear hO hVs hb1 hOB hit HM0 HBM HAD hlm
  go_wp2_with fail
  go_loopw [25] (fun i wr => ∃ (k : Nat) (R : List TmR), k ≤ l.length ∧ i = .int .i64 k ∧ Hid (TIn w.heap.size w.heap.size w (.slice ao l.length ac) l.length rows (termsT slugB 0 [] ((l.take k).map (nsOf r))) R wr) ∧ Hid (∀ X ∈ l.take k, TermOk r X) ∧ Hid (R.length ≤ k * 1048576)) (fun i _ => l.length - (intOf i).toNat)
  case atStart => exact ⟨0, [], Nat.zero_le _, rfl, HT0.out, fun X hX => by simp at hX, by show _ ≤ _; simp⟩
  case round =>
    clear HT0
    obtain ⟨k, R, hk, rfl, HT, HOK, HL⟩ := hrel
    have HTOK : Hid (TOk slugB k (termsT slugB 0 [] ((l.take k).map (nsOf r)))) := by
      have := terms_own (g := slugB) ((l.take k).map (nsOf r))
      rw [List.length_map, List.length_take, Nat.min_eq_left hk] at this
      exact this
    by_cases hkl : k < l.length
    · obtain ⟨b, off, ia, ic, ka, kc, rfl, hat, hcc⟩ := HIT.out k hkl
      have hc6 := hcc wr HT.out.had
      obtain ⟨d0, d1, d2, d3, d4, d5⟩ := six_later (Below.refl wr.heap.size wr) (World.block_lt_of_cell? wr _ (hc6 0 (by omega))) hc6
      have HZS := Lib.hid (str_sizes (HOKL.out k hkl))
      have HTK : Hid (∀ ns, strsV (atR r l[k]) = some ns → termsT slugB 0 [] ((l.take (k + 1)).map (nsOf r)) = stpT slugB k (termsT slugB 0 [] ((l.take k).map (nsOf r))) ns) := fun ns h => by
        show _ = _
        rw [List.take_succ_eq_append_getElem hkl, List.map_append, List.map_cons, List.map_nil, termsT_snoc, List.length_map, List.length_take, Nat.min_eq_left hk, Nat.zero_add]
        unfold nsOf; rw [h]; rfl
      have HTO : Hid (∀ ns, strsV (atR r l[k]) = some ns → (∀ s ∈ ns, (slugB s).toList.isEmpty = false) → ∀ X ∈ l.take (k + 1), TermOk r X) := fun ns h1 h2 X hX => by
        rw [List.take_succ_eq_append_getElem hkl, List.mem_append, List.mem_singleton] at hX
        rcases hX with hX | rfl
        · exact HOK.out X hX
        · exact ⟨ns, h1, h2⟩
      have HTN : Hid ((∀ ns, strsV (atR r l[k]) = some ns → ∃ s ∈ ns, (slugB s).toList.isEmpty = true) → ¬ ∀ X ∈ l, TermOk r X) := fun h1 h2 => by
        obtain ⟨ns, h3, h4⟩ := h2 _ (List.getElem_mem hkl)
        obtain ⟨s, h5, h6⟩ := h1 ns h3
        rw [h4 s h5] at h6; cases h6
      generalize termsT slugB 0 [] ((l.take k).map (nsOf r)) = T0 at *
      generalize atR r l[k] = Z at *
      have hBn : Below wr.heap.size wr (wr.alloc (.cells #[.int .i64 Z.kd, .bool Z.bo, .int .i64 Z.nu, .string Z.tx, .slice ia Z.its.length ic, .slice ka Z.kys.length kc] 35)) := below_newT _ _
      have HT1 := Lib.hid (HT.out.keep hBn)
      have HCALL := Lib.hid (strings_base Z _ w.heap.size _ (Nat.le_trans HT.out.top hBn.size) (hat.keep HT1.out.below) HZS.out.1)
      rw [vcs_arr] at HCALL
      clear hBn hcc hc6 hat
      go_wp2_with fail
      refine HCALL.out.mono ?_
      rintro e w2 ⟨nv, bb, rfl, HS, HB2⟩
      have HT2 := Lib.hid (HT1.out.keep HB2.out)
      clear HCALL HT1
      rcases HS.out with ⟨hno, rfl⟩ | ⟨ns, hns, rfl, hnr⟩
      · have HNO := Lib.hid (HTN.out (fun ns h => by rw [hno] at h; cases h))
        clear HS hno HTN HTO HTK
        go_wp2_with fail
        go_ret2
        exact ⟨_, _, rfl, .inl ⟨by decide, HNO.out, rfl⟩, HT2.out.below⟩
      · clear HS
        obtain ⟨na, nc, rfl⟩ := ownsRow_form hnr
        have HNR : Hid (w2.ownsRow w.heap.size 9 1 (.slice na ns.length nc) ns.length (ns.map Value.string)) := hnr
        obtain ⟨hnl, hss⟩ := HZS.out.2 ns hns
        have HSS := Lib.hid hss
        have HTK1 := Lib.hid (HTK.out ns hns)
        have HTO1 := Lib.hid (HTO.out ns hns)
        have HTN1 : Hid ((∃ s ∈ ns, (slugB s).toList.isEmpty = true) → ¬ ∀ X ∈ l, TermOk r X) := fun h => HTN.out (fun ns' h' => by rw [hns] at h'; cases h'; exact h)
        clear hnr hss hns HTK HTO HTN HZS HT
        go_wp2_with fail
        go_loopw [39] (fun i wy => ∃ (j : Nat) (R : List TmR), j ≤ ns.length ∧ i = .int .i64 j ∧ Hid (TIn w.heap.size w.heap.size w (.slice (some ⟨b, off, none⟩) l.length ac) l.length rows (stpT slugB k T0 (ns.take j)) R wy) ∧ Hid (wy.ownsRow w.heap.size 9 1 (.slice na ns.length nc) ns.length (ns.map Value.string)) ∧ Hid (∀ s ∈ ns.take j, (slugB s).toList.isEmpty = false) ∧ Hid (R.length ≤ k * 1048576 + j)) (fun i _ => ns.length - (intOf i).toNat)
        case atStart => exact ⟨0, R, Nat.zero_le _, rfl, HT2.out, HNR.out, fun s hs => by simp at hs, Lib.hid (Nat.le_trans HL.out (Nat.le_add_right _ _))⟩
        case round =>
          clear HT2 HNR HL
          obtain ⟨j, R, hj, rfl, HT, HN, HE, HL⟩ := hrel
          by_cases hjl : j < ns.length
          · have HTJ : Hid (TOk slugB k (stpT slugB k T0 (ns.take j))) := stpT_ok _ HTOK.out
            have HTKJ : Hid (stpT slugB k T0 (ns.take (j + 1)) = addT (slugB ns[j]) ns[j] k (stpT slugB k T0 (ns.take j))) := by
              show _ = _
              rw [List.take_succ_eq_append_getElem hjl, stpT_snoc]
            have HEJ : Hid ((slugB ns[j]).toList.isEmpty = false → ∀ s ∈ ns.take (j + 1), (slugB s).toList.isEmpty = false) := fun h s hs => by
              rw [List.take_succ_eq_append_getElem hjl, List.mem_append, List.mem_singleton] at hs
              rcases hs with hs | rfl
              · exact HE.out s hs
              · exact h
            have HEM : Hid ((slugB ns[j]).toList.isEmpty = true → ¬ ∀ X ∈ l, TermOk r X) := fun h => HTN1.out ⟨ns[j], List.getElem_mem hjl, h⟩
            obtain ⟨nb, nof, rfl, hn1, hn2, hn3⟩ := row1 HN.out hjl
            have cn := hn3 (.string ns[j]) (by rw [List.getElem?_map, List.getElem?_eq_getElem hjl]; rfl)
            have HSC := Lib.hid (HSLG.out ns[j] (by have := HSS.out _ (List.getElem_mem hjl); omega) wr)
            have HQZ : Hid ((slugB ns[j]).size ≤ maxLen) := by have := slugB_size ns[j]; show _ ≤ _; unfold maxLen; omega
            generalize stpT slugB k T0 (ns.take j) = T at *
            generalize ns[j] = s at *
            generalize slugB s = q at *
            unfold maxLen at hn2
            clear hn3
            cases hem : q.toList.isEmpty with
            | true =>
              have HNO := Lib.hid (HEM.out hem)
              clear HEM HEJ HTKJ HTJ
              go_wp2_with (go_at_call 6; refine HSC.out.mono ?_; rintro e w4 ⟨rfl, hb4⟩; have HT4 := Lib.hid (HT.out.keep hb4); clear hb4)
              go_ret2
              exact ⟨_, _, rfl, .inl ⟨by decide, HNO.out, rfl⟩, HT4.out.below⟩
            | false =>
              have HEJ1 := Lib.hid (HEJ.out hem)
              have HEMF := Lib.hid hem
              clear HEM HEJ
              cases hf : findT q T with
              | none =>
                have HLK := Lib.hid (HT.out.look_none hf)
                have hl5 := HL.out
                have HMN : Hid (R.length < maxLen) := by show R.length < maxLen; unfold maxLen; omega
                have HL6 := Lib.hid (show R.length + 1 ≤ k * 1048576 + (j + 1) by omega)
                have hRT := HT.out.len
                have HNXT : Hid (addT q s k T = (T ++ [(⟨q, s, []⟩ : Tm)]).set R.length ⟨q, s, [] ++ [k]⟩) := by
                  show _ = _
                  rw [addT_none hf, hRT, List.set_append_right _ _ (Nat.le_refl _)]; simp
                have HF := Lib.hid hf
                clear hl5 hf hRT
                go_wp2_with (first
                  | (go_at_call 6; refine HSC.out.mono ?_; rintro e w4 ⟨rfl, hb4⟩; have HT4 := Lib.hid (HT.out.keep hb4); have HN4 := Lib.hid (own_belowL HN.out hb4); skip; clear hb4)
                  | (at_lookup; go_loud (refine wpList_lookF_ok _ rfl _ _ 59 rfl 9 63 Tryz.underlying9 Tryz.underlying59 (.pointer none) (zeroPtrT _) w.heap.size _ _ rfl HT4.out.tm.map q rfl HQZ.out (.pointer none) (by rw [HLK.out]; rfl) (false) (by rw [HLK.out]; rfl) ?_))
                  | (at_mapUpdate; go_loud (refine wpList_putF _ rfl _ _ _ 59 rfl 9 63 Tryz.underlying9 Tryz.underlying59 w.heap.size _ _ rfl (HT4.out.tm.map.alloc _) HMN.out q rfl HQZ.out (.pointer (some ⟨w4.heap.size, 0, none⟩)) rfl ?_); intro w5 hM5 hg5; have HT5 := Lib.hid (HT4.out.new q s HF.out hM5 hg5 (mapF_obj hM5)); have HN5 := Lib.hid (HT4.out.tm.row_new hg5 HN4.out); clear hM5 hg5; have hblk : w5.heap[w4.heap.size]? = some (.cells #[.string q, .string s, .slice none 0 0] 30 (0, 0)) := (HT5.out.blkX (w2 := w5) (a := R.length) (by simp) (x0 := ⟨⟨q, s, []⟩, w4.heap.size, .slice none 0 0⟩) (by simp) ⟨rfl, rfl, rfl, Nat.le_refl _, fun _ _ _ => rfl⟩); have c2 : w5.cell? ⟨w4.heap.size, 2, none⟩ = some (.slice none 0 0) := cellT hblk rfl; have HTA := Lib.hid (HT5.out.keep (below_newT w5 (.cells #[.int .i64 (k : Int)] 3))); have HNA := Lib.hid (own_belowL HN5.out (below_newT w5 (.cells #[.int .i64 (k : Int)] 3))); have HSA := Lib.hid (HTA.out.top); clear hblk)
                  | (at_builtin; go_loud (refine wpList_append_own_at _ rfl _ _ 28 rfl w.heap.size 3 i0 (.int .i64 0) 1 8 Tryz.underlying28 hi hz0 hz1 hz2 rfl (by decide) (.slice none 0 0) 0 [] rfl (World.ownsRow_nil _ _ _ _) ⟨w5.heap.size, 0, none⟩ 1 1 [.int .i64 (k : Int)] rfl rfl (one_cellT _ _ _) (by simp [Value.oneCell']) (by unfold maxLen; omega) (by omega) HSA.out ?_); intro v6 w6 hown6 hgr6 hnil6 hat6; obtain ⟨va6, vc6, hv6⟩ := ownsRow_form hown6; subst hv6; have hblk := (HTA.out.blkX (w2 := w6) (a := R.length) (by simp) (x0 := ⟨⟨q, s, []⟩, w4.heap.size, .slice none 0 0⟩) (by simp) hgr6); have d2 : w6.cell? ⟨w4.heap.size, 2, none⟩ = some (.slice none 0 0) := cellT hblk rfl; have f2 : w6.frozen? ⟨w4.heap.size, 2, none⟩ = false := frozenT hblk; have HT7 := Lib.hid (HTA.out.growX (w2 := w6) (a := R.length) (by simp) (x0 := ⟨⟨q, s, []⟩, w4.heap.size, .slice none 0 0⟩) (by simp) k _ hgr6 hown6 hat6); have HN7 := Lib.hid (HTA.out.rowX (w2 := w6) (v' := .slice va6 (0 + 1) vc6) (a := R.length) (by simp) (x0 := ⟨⟨q, s, []⟩, w4.heap.size, .slice none 0 0⟩) (by simp) hgr6 (by decide) (by decide) HNA.out); clear hown6 hgr6 hnil6 hat6 hblk))
                go_roundw
                case rel => exact ⟨j + 1, (R ++ [(⟨⟨q, s, []⟩, w4.heap.size, .slice none 0 0⟩ : TmR)]).set R.length ⟨⟨q, s, [] ++ [k]⟩, w4.heap.size, .slice va6 (0 + 1) vc6⟩, by omega, by go_num, Lib.hid (by rw [HTKJ.out, HNXT.out]; exact HT7.out), HN7.out, HEJ1.out, Lib.hid (by have := HL6.out; simpa using this)⟩
                case measure => simp [intOf]; omega
              | some a =>
                obtain ⟨ha, hlk⟩ := HT.out.look_some hf
                have HLK := Lib.hid hlk
                have haT : a < (stpT slugB k T0 (ns.take j)).length ∨ a < T.length := .inr (by rw [← HT.out.len]; exact ha)
                have haT2 : a < T.length := by rw [← HT.out.len]; exact ha
                have hTa := HT.out.at_ ha
                have hown := HT.out.tm.own a ha
                have hblk0 := HT.out.tm.blk a ha
                obtain ⟨x0, hx0⟩ : ∃ x0, R[a] = x0 := ⟨_, rfl⟩
                have HX0 := Lib.hid hx0
                rw [hx0] at hTa hown hblk0 hlk
                rw [hx0] at HLK
                obtain ⟨_, o2, o3, o4⟩ := HTJ.out.own a haT2
                rw [hTa] at o2 o3 o4
                have hlen := asc_len o3 o4
                obtain ⟨va, vc, hxv⟩ := ownsRow_form hown
                rw [hxv] at hown
                obtain ⟨lb, lo, y, rfl, hc1, hc2, hlast, hcl⟩ := lastN o2 hown
                obtain ⟨m, hm⟩ : ∃ m, x0.t.it.length = m + 1 := ⟨x0.t.it.length - 1, by have := List.length_pos_iff.2 o2; omega⟩
                rw [hm, Nat.add_sub_cancel] at hcl
                have hp2 : wr.cell? ⟨x0.p, 2, none⟩ = some (.slice (some ⟨lb, lo, none⟩) x0.t.it.length vc) := by rw [← hxv]; exact cellT hblk0 rfl
                have hplt := World.block_lt_of_cell? wr _ hp2
                have hllt := World.block_lt_of_cell? wr _ hcl
                have hwm : IntKind.i64.wrap (m : Int) = (m : Int) := IntWalk.i64_in _ (by omega)
                have hsub : (x0.t.it.length : Int) - 1 = (m : Int) := by omega
                have hm0 : (0 : Int) ≤ m := by omega
                have hmi : (m : Int) < x0.t.it.length := by omega
                have hmn : m < x0.t.it.length := by omega
                have hne0 : ((x0.t.it.length : Int) == 0) = false := by rw [beq_eq_false_iff_ne]; omega
                have hl5 := HL.out
                have HF := Lib.hid hf
                have HXV := Lib.hid hxv
                have HTA0 := Lib.hid hTa
                unfold maxLen at hc2
                by_cases hyk : y = k
                · have HNXT : Hid (addT q s k T = T) := addT_old hf haT2 (by rw [hTa]; exact hlast.trans (by rw [hyk]))
                  have hyb : ((y : Int) != (k : Int)) = false := by rw [bne_eq_false_iff_eq]; omega
                  have HL6 := Lib.hid (show R.length ≤ k * 1048576 + (j + 1) by omega)
                  clear hf hl5 hxv hTa hown hblk0 hx0 hlk o2 o3 o4 hlast hyk hm haT
                  go_wp2_with (first
                    | (go_at_call 6; refine HSC.out.mono ?_; rintro e w4 ⟨rfl, hb4⟩; have HT4 := Lib.hid (HT.out.keep hb4); have HN4 := Lib.hid (own_belowL HN.out hb4); have c2 : w4.cell? ⟨x0.p, 2, none⟩ = some (.slice (some ⟨lb, lo, none⟩) x0.t.it.length vc) := (hb4.cell (p := ⟨x0.p, 2, none⟩) hplt).trans hp2; have c3 : w4.cell? ⟨lb, lo + m, none⟩ = some (.int .i64 (y : Int)) := (hb4.cell (p := ⟨lb, lo + m, none⟩) hllt).trans hcl; clear hb4)
                    | (at_lookup; go_loud (refine wpList_lookF_ok _ rfl _ _ 59 rfl 9 63 Tryz.underlying9 Tryz.underlying59 (.pointer none) (zeroPtrT _) w.heap.size _ _ rfl HT4.out.tm.map q rfl HQZ.out (.pointer (some ⟨x0.p, 0, none⟩)) (by rw [HLK.out]; rfl) (true) (by rw [HLK.out]; rfl) ?_)))
                  go_roundw
                  case rel => exact ⟨j + 1, R, by omega, by go_num, Lib.hid (by rw [HTKJ.out, HNXT.out]; exact HT4.out), HN4.out, HEJ1.out, HL6.out⟩
                  case measure => simp [intOf]; omega
                · have HNXT : Hid (addT q s k T = T.set a ⟨x0.t.nm, x0.t.ti, x0.t.it ++ [k]⟩) := by
                    show _ = _
                    rw [addT_new hf haT2 (by rw [hTa]; intro e; rw [hlast] at e; exact hyk (Option.some.inj e)), hTa]
                  have hyb : ((y : Int) != (k : Int)) = true := by rw [bne_iff_ne]; omega
                  have HL6 := Lib.hid (show (R.set a ⟨⟨x0.t.nm, x0.t.ti, x0.t.it ++ [k]⟩, x0.p, .slice none 0 0⟩).length ≤ k * 1048576 + (j + 1) by rw [List.length_set]; omega)
                  have HXO : Hid (∀ W, TIn w.heap.size w.heap.size w (.slice (some ⟨b, off, none⟩) l.length ac) l.length rows T R W → W.ownsRow w.heap.size 3 1 (.slice (some ⟨lb, lo, none⟩) x0.t.it.length vc) x0.t.it.length (x0.t.it.map encN)) := fun W hW => by
                    have := hW.tm.own a ha
                    rw [hx0, hxv] at this
                    exact this
                  have hlen2 : x0.t.it.length + 1 ≤ 10000 := by omega
                  clear hf hl5 hxv hTa hown hblk0 hx0 hlk o2 o3 o4 hlast hyk hm haT
                  go_wp2_with (first
                    | (go_at_call 6; refine HSC.out.mono ?_; rintro e w4 ⟨rfl, hb4⟩; have HT4 := Lib.hid (HT.out.keep hb4); have HN4 := Lib.hid (own_belowL HN.out hb4); have c2 : w4.cell? ⟨x0.p, 2, none⟩ = some (.slice (some ⟨lb, lo, none⟩) x0.t.it.length vc) := (hb4.cell (p := ⟨x0.p, 2, none⟩) hplt).trans hp2; have c3 : w4.cell? ⟨lb, lo + m, none⟩ = some (.int .i64 (y : Int)) := (hb4.cell (p := ⟨lb, lo + m, none⟩) hllt).trans hcl; have HTA := Lib.hid (HT4.out.keep (below_newT w4 (.cells #[.int .i64 (k : Int)] 3))); have HNA := Lib.hid (own_belowL HN4.out (below_newT w4 (.cells #[.int .i64 (k : Int)] 3))); have HSA := Lib.hid (HTA.out.top); have HOA := Lib.hid (HXO.out _ HTA.out); clear hb4)
                    | (at_lookup; go_loud (refine wpList_lookF_ok _ rfl _ _ 59 rfl 9 63 Tryz.underlying9 Tryz.underlying59 (.pointer none) (zeroPtrT _) w.heap.size _ _ rfl HT4.out.tm.map q rfl HQZ.out (.pointer (some ⟨x0.p, 0, none⟩)) (by rw [HLK.out]; rfl) (true) (by rw [HLK.out]; rfl) ?_))
                    | (at_builtin; go_loud (refine wpList_append_own_at _ rfl _ _ 28 rfl w.heap.size 3 i0 (.int .i64 0) 1 8 Tryz.underlying28 hi hz0 hz1 hz2 rfl (by decide) (.slice (some ⟨lb, lo, none⟩) x0.t.it.length vc) x0.t.it.length (x0.t.it.map encN) rfl HOA.out ⟨w4.heap.size, 0, none⟩ 1 1 [.int .i64 (k : Int)] rfl rfl (one_cellT _ _ _) (by simp [Value.oneCell']) (by unfold maxLen; omega) (by omega) HSA.out ?_); intro v6 w6 hown6 hgr6 hnil6 hat6; obtain ⟨va6, vc6, hv6⟩ := ownsRow_form hown6; subst hv6; rw [← HXV.out] at hgr6 hat6; have hblk := (HTA.out.blkX (w2 := w6) ha HX0.out hgr6); have d2 : w6.cell? ⟨x0.p, 2, none⟩ = some x0.v := cellT hblk rfl; have f2 : w6.frozen? ⟨x0.p, 2, none⟩ = false := frozenT hblk; have HT7 := Lib.hid (HTA.out.growX (w2 := w6) ha HX0.out k _ hgr6 hown6 hat6); have HN7 := Lib.hid (HTA.out.rowX (w2 := w6) (v' := .slice va6 (x0.t.it.length + 1) vc6) ha HX0.out hgr6 (by decide) (by decide) HNA.out); clear hown6 hgr6 hnil6 hat6 hblk))
                  go_roundw
                  case rel => exact ⟨j + 1, R.set a ⟨⟨x0.t.nm, x0.t.ti, x0.t.it ++ [k]⟩, x0.p, .slice va6 (x0.t.it.length + 1) vc6⟩, by omega, by go_num, Lib.hid (by rw [HTKJ.out, HNXT.out]; exact HT7.out), HN7.out, HEJ1.out, Lib.hid (by have := HL6.out; simpa using this)⟩
                  case measure => simp [intOf]; omega
          · have hje : j = ns.length := by omega
            subst hje
            rw [List.take_length] at HT HE
            have hl5 := HL.out
            have HL2 := Lib.hid (show R.length ≤ (k + 1) * 1048576 by omega)
            clear hl5
            have HT5 : Hid (TIn w.heap.size w.heap.size w (.slice (some ⟨b, off, none⟩) l.length ac) l.length rows (termsT slugB 0 [] ((l.take (k + 1)).map (nsOf r))) R wr) := by
              show TIn _ _ _ _ _ _ _ _ _
              rw [HTK1.out]; exact HT.out
            have HOK5 := Lib.hid (HTO1.out HE.out)
            clear HT HN HE HL
            go_wp2_with fail
            go_roundw
            case rel => exact ⟨k + 1, R, by omega, by go_num, HT5.out, HOK5.out, HL2.out⟩
            case measure => simp [intOf]; omega
    · have hke : k = l.length := by omega
      subst hke
      obtain ⟨wA, rfl⟩ : ∃ wA : World, wA = wr := ⟨_, rfl⟩
      rw [List.take_length] at HT HOK HTOK
      have HL9 := Lib.hid HL.out
      obtain ⟨vi, hvi, hv0, hv1, hv2⟩ := info_parts infoTermT
      have HTE := Lib.hid (rfl : termsT slugB 0 [] (l.map (nsOf r)) = termsT slugB 0 [] (l.map (nsOf r)))
      obtain ⟨T, hT⟩ : ∃ T, T = termsT slugB 0 [] (l.map (nsOf r)) := ⟨_, rfl⟩
      rw [← hT] at HT HTOK
      have HTD := Lib.hid hT
      clear HTE hT HIT HOKL HSLG HL
      have hto := HT.out.top
      have HBO : Hid (Below wA.heap.size wA (wA.alloc (.cells #[.slice none 0 0] 24))) := below_newT _ _
      have HTo := Lib.hid (HT.out.keep HBO.out)
      have HBX : Hid ((wA.alloc (.cells #[.slice none 0 0] 24)).heap[wA.heap.size]? = some (.cells #[.slice none 0 0] 24 (0, 0))) := heap_alloc_new _ _
      have HZO : Hid ((wA.alloc (.cells #[.slice none 0 0] 24)).heap.size = wA.heap.size + 1) := by show _ = _; simp
      have HLO : Hid (∀ a (h : a < R.length), R[a].p < wA.heap.size) := fun a h => (Array.getElem?_eq_some_iff.1 (HT.out.tm.blk a h)).1
      obtain ⟨D, hD, hDf⟩ := HTo.out.tm.map
      have HDF := Lib.hid hDf
      have HDD := Lib.hid hD
      clear hD hDf HT HBO
      generalize hwo : wA.alloc (.cells #[.slice none 0 0] 24) = wo at HTo HBX HZO HDD
      go_upto_region 24 with fail
      clear hwo
      go_wp2_with (at_range; go_loud (refine wpList_range_own _ rfl _ 59 rfl 9 63 (Maps.string_keyed Tryz.underlying9) Tryz.underlying59 rdHeld w.heap.size R.length D rfl HDD.out ?_); intro w0 hrg0 hg0 hs0)
      go_frame
      have hb0 : Below wo.heap.size wo w0 := ⟨hg0.os, hg0.tape, hg0.output, hg0.size, fun i hi => hg0.block i hi (by simp)⟩
      have HT0 := Lib.hid (HTo.out.keep hb0)
      have HNM : Hid (∀ a (ha : a < R.length), R[a].t.nm.size ≤ maxLen ∧ lookR R R[a].t.nm = some (.pointer (some ⟨R[a].p, 0, none⟩))) := fun a ha => by
        have haT : a < T.length := by rw [← HT0.out.len]; exact ha
        have e1 := HT0.out.at_ ha
        have e2 := (HTOK.out.own a haT).1
        rw [e1] at e2
        refine ⟨by rw [e2]; have := slugB_size R[a].t.ti; unfold maxLen; omega, ?_⟩
        unfold lookR
        rw [HT0.out.eq, ← e1, findT_at HTOK.out.nd haT]
        exact congrArg some (ptrR_at ha)
      have HC0 : Hid (RgC w.heap.size w.heap.size wA.heap.size wo.heap.size R.length R D [] (.slice none 0 0) (Maps.has D) (Maps.size D) w w0) :=
        ⟨hrg0, HT0.out.tm, (hb0.block _ (Array.getElem?_eq_some_iff.1 HBX.out).1).trans HBX.out, World.ownsRow_nil _ _ _ _, HLO.out, HT0.out.below, hto⟩
      have HP0 : Hid (RgP R D [] (Maps.has D) (Maps.size D)) :=
        ⟨List.nodup_nil, fun a h => by simp at h, fun a ha => by
          obtain ⟨h1, h2⟩ := HNM.out a ha
          rw [((HDF.out _ h1).2 _ h2).1]; simp, fun kl h => h, by have := ranges_cnt hrg0; simpa using this⟩
      have HC0T := Lib.hid (HT0.out.eq)
      clear hrg0 hg0 hs0 hb0
      go_loopw [] (fun wq => ∃ (L : List Nat) (v : Value) (left : Lit → Bool) (cnt : Nat), Hid (RgC w.heap.size w.heap.size wA.heap.size wo.heap.size R.length R D L v left cnt w wq) ∧ Hid (RgP R D L left cnt)) (fun wq => wq.rangeLeft w.heap.size wo.heap.size)
      case atStart => exact ⟨[], _, _, _, HC0.out, HP0.out⟩
      case round =>
        clear HC0 HP0
        obtain ⟨L, v, left, cnt, HC, HP⟩ := hrel
        obtain ⟨va, vc, hv⟩ := ownsRow_form HC.out.own
        subst hv
        go_wp2_with (at_next; go_loud (refine wpList_next_ranges _ rfl _ rfl 9 (Maps.string_keyed Tryz.underlying9) rdHeld Value.string (fun c : Value => c) (fun key kl h => by obtain ⟨x, rfl, _⟩ := keyS_inv Tryz.underlying9 h; exact ⟨x, rfl⟩) (fun v y _ => ⟨v, rfl⟩) w.heap.size wo.heap.size R.length D _ _ rfl HC.out.rg ?_ ?_))
        · intro hc0 hl0
          have hall : ∀ a, a < R.length → a ∈ L := fun a ha => by
            by_cases e : a ∈ L
            · exact e
            · have := (HP.out.lf a ha).2 e
              rw [hl0] at this; cases this
          have hperm := perm_all HP.out.nd HP.out.lt hall
          have hrow := HC.out.own
          have hfm : (L.flatMap fun a => trL (R.getD a default)) = (L.map fun a => R.getD a default).flatMap trL := by rw [List.flatMap_map]
          rw [hfm] at hrow
          obtain ⟨L0, hL0⟩ : ∃ L0, L0 = L.map (fun a => R.getD a default) := ⟨_, rfl⟩
          have hlen : L0.length = L.length := by rw [hL0, List.length_map]
          rw [← hL0] at hperm hrow
          have hin : ∀ x ∈ L0, wr.ownsRow w.heap.size 3 1 x.v x.t.it.length (x.t.it.map encN) := fun x hx => by
            obtain ⟨a, ha, rfl⟩ := List.mem_iff_getElem.1 (hperm.mem_iff.1 hx)
            exact HC.out.tm.own a ha
          have hform : ∀ x ∈ L0, ∃ a n c, x.v = .slice a n c := fun x hx => by
            obtain ⟨a, c, e⟩ := ownsRow_form (hin x hx)
            exact ⟨a, _, c, e⟩
          rw [← flat_eq hform, ← hlen] at hrow
          have hLL : L0.length ≤ 2097152000 := by have h1 := HP.out.ln; have h2 := HL9.out; omega
          have hOz := (Array.getElem?_eq_some_iff.1 HC.out.box).1
          have hbox := HC.out.box
          have hvO : ∀ g, (Value.slice va L.length vc).ownBlock = some g → wA.heap.size < g ∧ ∃ cur, wr.heap[g]? = some (.cells cur 30 (0, 0)) := fun g hg => by
            obtain ⟨h1, cur, hc⟩ := own_at HC.out.own hg
            exact ⟨h1, cur, hc⟩
          rw [← hlen] at hbox hvO
          have HSO := Lib.hid (tsort_any L0 hLL (.slice va L0.length vc) wr (wA.heap.size + 1) wA.heap.size hrow hbox (by omega) hOz)
          have HO8 : Hid (∀ w8, SortedT L0 (.slice va L0.length vc) (wA.heap.size + 1) wr w8 → w8.cell? ⟨wA.heap.size, 0, none⟩ = some (.slice va L0.length vc)) := by
            rintro w8 ⟨_, _, _, _, _, hk⟩
            exact cellT ((hk _ hOz (fun e => by have := (hvO _ e).1; omega)).trans hbox) rfl
          have HBL : Hid (∀ w8, SortedT L0 (.slice va L0.length vc) (wA.heap.size + 1) wr w8 → Below w.heap.size w w8) := by
            rintro w8 ⟨_, _, _, _, hb, _⟩
            exact HC.out.below.trans (hb.mono (by have := HC.out.bo; omega))
          have HOUT : Hid (∀ w8, SortedT L0 (.slice va L0.length vc) (wA.heap.size + 1) wr w8 → OutT w.heap.size w8 (.slice va L0.length vc) r l) := by
            rintro w8 ⟨L1, hp, hs, hsl, _, hk⟩
            have hl1 := hp.length_eq
            refine ⟨L1, ?_, hs, ?_, fun x hx => ?_⟩
            · have h1 := (hp.trans hperm).map TmR.t
              rw [HC0T.out, HTD.out] at h1
              exact h1
            · rw [hl1, ← flat_eq (fun x hx => hform x (hp.mem_iff.1 hx))]; exact hsl
            · have ho := hin x (hp.mem_iff.1 hx)
              refine own_blk ho fun g hg => ?_
              obtain ⟨_, cur, hc⟩ := own_at ho hg
              refine hk g (Array.getElem?_eq_some_iff.1 hc).1 (fun e => ?_)
              obtain ⟨_, cur2, hc2⟩ := hvO g e
              rw [hc] at hc2
              simp only [Option.some.injEq, Obj.cells.injEq] at hc2
              exact tags_ne hc2.2.1.symm
          have b0 : wr.cell? ⟨wA.heap.size, 0, none⟩ = some (.slice va L0.length vc) := cellT hbox rfl
          rw [hlen] at HSO HO8 HBL HOUT b0
          clear hc0 hl0 hall hperm hrow hfm hL0 hin hform hbox hvO hOz hlen hLL
          go_wp2_with (go_at_call 23; refine HSO.out.mono ?_; rintro e w8 ⟨rfl, HS8⟩; have b8 := HO8.out w8 HS8)
          go_ret2
          exact ⟨_, _, rfl, .inr ⟨rfl, HOK.out, HOUT.out _ HS8⟩, HBL.out _ HS8⟩
        · intro x c kl y yp w7 cnt7 hkey hlk hR hat hrg7 hlt7 hg7 hs7 hen
          obtain ⟨a, ha, hnm, rfl, rfl⟩ := next_term HDF.out hkey (HP.out.lh _ hlk) hR hat
          have HC7 := Lib.hid (HC.out.step hrg7 hg7 (by rw [HZO.out]; omega))
          have haL : a ∉ L := (HP.out.lf a ha).1 (by rw [hnm]; exact hlk)
          have HP7 : Hid (RgP R D (L ++ [a]) (fun z => left z && !z.sameKey (.string x.data.toList)) cnt7) := by
            refine ⟨?_, fun c hc => ?_, fun c hc => ?_, fun kl h => ?_, ?_⟩
            · rw [List.nodup_append]
              refine ⟨HP.out.nd, by simp, fun p hp q hq e => ?_⟩
              simp only [List.mem_singleton] at hq
              subst hq; subst e; exact haL hp
            · rcases List.mem_append.1 hc with h | h
              · exact HP.out.lt c h
              · simp only [List.mem_singleton] at h; subst h; exact ha
            · have hk1 := HNM.out c hc
              by_cases e : c = a
              · subst e
                have : (Lit.string R[c].t.nm.data.toList).sameKey (.string x.data.toList) = true := by rw [hnm]; exact WideAt.sameKey_self (by trivial)
                simp [this]
              · have hne : R[c].t.nm ≠ x := fun e2 => e (nodupT_inj (T := T) HTOK.out.nd (by rw [← HT0.out.len]; exact hc) (by rw [← HT0.out.len]; exact ha) (by rw [HT0.out.at_ hc, HT0.out.at_ ha, e2, hnm]))
                have : (Lit.string R[c].t.nm.data.toList).sameKey (.string x.data.toList) = false := by
                  cases hs : (Lit.string R[c].t.nm.data.toList).sameKey (.string x.data.toList) with
                  | false => rfl
                  | true => exact absurd (WideAt.sameKey_eq hs) (lit_ne hne)
                rw [this]
                simp only [Bool.not_false, Bool.and_true, List.mem_append, List.mem_singleton, e, or_false]
                exact HP.out.lf c hc
            · simp only [Bool.and_eq_true] at h
              exact HP.out.lh kl h.1
            · have := HP.out.ln
              simp only [List.length_append, List.length_singleton]
              omega
          have HLL : Hid (L.length ≤ 2097152000) := by have h1 := HP.out.ln; have h2 := HL9.out; show L.length ≤ 2097152000; omega
          have hblk := HC7.out.tm.blk a ha
          obtain ⟨ta, tc, htv⟩ := ownsRow_form (HC7.out.tm.own a ha)
          obtain ⟨x0, hx0⟩ : ∃ x0, R[a] = x0 := ⟨_, rfl⟩
          have HX0 := Lib.hid hx0
          rw [hx0] at hblk htv hen
          have HTV := Lib.hid htv
          have HBK : Hid (w7.heap[x0.p]? = some (.cells #[.string x0.t.nm, .string x0.t.ti, .slice ta x0.t.it.length tc] 30 (0, 0))) := by
            show _ = _; rw [← htv]; exact hblk
          have p0 : w7.cell? ⟨x0.p, 0, none⟩ = some (.string x0.t.nm) := cellT HBK.out rfl
          have p1 : w7.cell? ⟨x0.p, 1, none⟩ = some (.string x0.t.ti) := cellT HBK.out rfl
          have p2 : w7.cell? ⟨x0.p, 2, none⟩ = some (.slice ta x0.t.it.length tc) := cellT HBK.out rfl
          have b0 : w7.cell? ⟨wA.heap.size, 0, none⟩ = some (.slice va L.length vc) := cellT HC7.out.box rfl
          have hO7 : wA.heap.size < w7.heap.size := World.block_lt_of_cell? w7 _ b0
          have hp7 : x0.p < w7.heap.size := World.block_lt_of_cell? w7 _ p0
          have HMS := Lib.hid (HC.out.rg.left_eq)
          have HM7 := Lib.hid hlt7
          clear hkey hlk hR hat hrg7 hlt7 hg7 hs7 hnm haL hblk htv hx0
          go_upto_region 27 with fail
          have HX : Hid (∀ W, W = w7.alloc (.cells #[.string x0.t.nm, .string x0.t.ti, .slice ta x0.t.it.length tc] 30 (0, 0)) ∨ W = (w7.alloc (.cells #[.string x0.t.nm, .string x0.t.ti, .slice ta x0.t.it.length tc] 30 (0, 0))).drew →
              RgC w.heap.size w.heap.size wA.heap.size wo.heap.size R.length R D L (.slice va L.length vc) (fun z => left z && !z.sameKey (.string x.data.toList)) cnt7 w W ∧ Sl 3 W (.slice (some ⟨w7.heap.size, 0, none⟩) 1 1) 1 (trL x0) ∧ wA.heap.size + 1 ≤ W.heap.size) := by
            intro W hW
            have hb : Below w7.heap.size w7 W := by
              rcases hW with rfl | rfl
              · exact below_newT w7 _
              · exact (below_newT w7 _).drew
            have hc : W.heap[w7.heap.size]? = some (.cells #[.string x0.t.nm, .string x0.t.ti, .slice ta x0.t.it.length tc] 30 (0, 0)) := by
              rcases hW with rfl | rfl
              · exact heap_alloc_new _ _
              · exact heap_alloc_new _ _
            have h1 := HC7.out.keep hb
            refine ⟨h1, ?_, ?_⟩
            · refine ⟨rfl, .inr ⟨w7.heap.size, 0, 1, rfl, by omega, by omega, by unfold maxLen; omega, (Array.getElem?_eq_some_iff.1 hc).1, fun i u hu => ?_⟩⟩
              rw [Nat.zero_add, cell_of_row _ _ _ _ _ _ hc]
              unfold trL at hu
              rw [HTV.out] at hu
              simpa using hu
            · exact (Array.getElem?_eq_some_iff.1 h1.box).1
          have HY : Hid (∀ W w3 a3 c3, (W = w7.alloc (.cells #[.string x0.t.nm, .string x0.t.ti, .slice ta x0.t.it.length tc] 30 (0, 0)) ∨ W = (w7.alloc (.cells #[.string x0.t.nm, .string x0.t.ti, .slice ta x0.t.it.length tc] 30 (0, 0))).drew) → W.grownBy w3 (Value.slice va L.length vc).ownBlock → w3.ownsRow (wA.heap.size + 1) 30 3 (.slice a3 (L.length + 1) c3) (L.length + 1) ((L.flatMap fun a => trL (R.getD a default)) ++ trL x0) → ((Value.slice a3 (L.length + 1) c3).ownBlock = (Value.slice va L.length vc).ownBlock ∨ (Value.slice a3 (L.length + 1) c3).ownBlock = some W.heap.size) →
              w3.cell? ⟨wA.heap.size, 0, none⟩ = some (.slice va L.length vc) ∧ w3.frozen? ⟨wA.heap.size, 0, none⟩ = false ∧ Hid (RgC w.heap.size w.heap.size wA.heap.size wo.heap.size R.length R D (L ++ [a]) (.slice a3 (L.length + 1) c3) (fun z => left z && !z.sameKey (.string x.data.toList)) cnt7 w (w3.setCell ⟨wA.heap.size, 0, none⟩ (.slice a3 (L.length + 1) c3)))) := by
            intro W w3 a3 c3 hW hg ho hat
            obtain ⟨o1, _, _⟩ := HX.out W hW
            rw [← HX0.out] at ho
            exact o1.push ha _ hg ho hat
          go_region_law (refine step_append_sl _ rfl _ _ 24 rfl (wA.heap.size + 1) 30 vi (.agg #[.string ⟨#[]⟩, .string ⟨#[]⟩, .slice none 0 0]) 3 56 Tryz.underlying24 hvi hv0 hv1 hv2 rfl (by decide) (.slice va L.length vc) L.length (L.flatMap fun a => trL (R.getD a default)) rfl (HX.out _ (by first | exact .inl rfl | exact .inr rfl)).1.own _ 1 _ rfl (HX.out _ (by first | exact .inl rfl | exact .inr rfl)).2.1 (by intro u hu; unfold trL at hu; rw [HTV.out] at hu; simp only [List.mem_cons, List.not_mem_nil, or_false] at hu; rcases hu with rfl | rfl | rfl <;> rfl) (by have := HLL.out; unfold maxLen; omega) (by have := HLL.out; omega) (HX.out _ (by first | exact .inl rfl | exact .inr rfl)).2.2 ?_; intro v3 w3 hown3 hgr3 hat3; obtain ⟨a3, c3, rfl⟩ := ownsRow_form hown3; obtain ⟨z0, z1, HRC⟩ := HY.out _ _ _ _ (by first | exact .inl rfl | exact .inr rfl) hgr3 hown3 hat3)
          all_goals
            go_wp2_with fail
            go_roundw
            case rel => exact ⟨L ++ [a], _, _, cnt7, (by first | exact HRC | exact Lib.hid (HRC.out.keep (Below.refl _ _).drew)), HP7.out⟩
            case measure =>
              have h7 := HM7.out
              have h8 := HMS.out
              have h9 := HRC.out.rg.left_eq
              first
                | (rw [h9, h8]; exact h7)
                | (have h10 := (HRC.out.keep (Below.refl _ _).drew).rg.left_eq; rw [h10, h8]; exact h7)
end Go.Proofs.YtihdfkcoajpmjaaGreatDoor
