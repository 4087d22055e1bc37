/- (differ).diff of two tables: the walk. Conditions: as stated. -/
import Derived.Test.YtekknckdeedjnaaGreatDoorMdI
namespace Go.Proofs.YtekknckdeedjnaaGreatDoor
open Go.RowKit Mh
set_option linter.unusedVariables false

theorem DfAt.cast {w : World} {D : Nat} {gv ov : Value} {G O G2 O2 : List Chg} {rg ro : List Value} (h : DfAt w D gv ov G O rg ro) (e1 : G2 = G) (e2 : O2 = O) : DfAt w D gv ov G2 O2 rg ro := by subst e1; subst e2; exact h
theorem _root_.Mh.tab.hit_yes {t : V} (h : tab t) {k : ByteArray} (hk : k ∈ t.kys) : hit k t.kys = true := by
  obtain ⟨hi, he⟩ := low_mem h hk
  unfold hit
  exact decide_eq_true (by rw [List.getElem?_eq_getElem hi, he])
theorem _root_.Mh.tab.hit_no {t : V} (h : tab t) {k : ByteArray} (hk : k ∉ t.kys) : hit k t.kys = false := by
  cases hh : hit k t.kys with
  | false => rfl
  | true => exact absurd (List.mem_of_getElem? (of_decide_eq_true hh)) hk
theorem _root_.Mh.tab.low_item {t : V} (h : tab t) {k : ByteArray} (hk : k ∈ t.kys) : ∃ hi : low k t.kys < t.its.length, itemV t k = some t.its[low k t.kys] := by
  obtain ⟨hi, he⟩ := low_mem h hk
  have hl := h.len
  refine ⟨by omega, ?_⟩
  unfold itemV
  rw [if_pos (h.hit_yes hk), List.getElem?_eq_getElem]
theorem keyP_gone (N : Nat) {a b : V} {k : ByteArray} (hb : tab b) (h : k ∉ b.kys) : keyP N a b k = ([⟨[], none⟩], []) := by unfold keyP; rw [item_none hb h]
theorem keyP_new (N : Nat) {a b y : V} {k : ByteArray} (ha : tab a) (hy : itemV b k = some y) (h : k ∉ a.kys) : keyP N a b k = ([], [⟨[], some y⟩]) := by unfold keyP; rw [hy, item_none ha h]
theorem keyP_both (N : Nat) {a b x y : V} {k : ByteArray} (hx : itemV a k = some x) (hy : itemV b k = some y) : keyP N a b k = diffP N x y := by unfold keyP; rw [hy, hx]
/-- What stands where a change that takes away has been put into a row of one. -/
theorem arm_gone {W w5 : World} {D : Nat} {gv ov : Value} {G O : List Chg} {rg ro : List Value} {r : ByteArray} (h : DfAt W D gv ov G O rg ro) (hr : r.size ≤ maxLen) (hb5 : Below W.heap.size W w5) :
    DfAt (w5.alloc (.cells #[.string r, .int .i64 0, .bool false, .int .i64 0, .string ⟨#[]⟩, .slice none 0 0, .slice none 0 0, .bool true] 56)) D gv ov G O rg ro ∧
    ChIn (veil (dfS D gv ov) (w5.alloc (.cells #[.string r, .int .i64 0, .bool false, .int .i64 0, .string ⟨#[]⟩, .slice none 0 0, .slice none 0 0, .bool true] 56))) ⟨r, V.nil, true⟩ none 0 none 0 ∧
    Sl 8 (w5.alloc (.cells #[.string r, .int .i64 0, .bool false, .int .i64 0, .string ⟨#[]⟩, .slice none 0 0, .slice none 0 0, .bool true] 56)) (.slice (some ⟨w5.heap.size, 0, none⟩) 1 1) 1 (chc ⟨r, V.nil, true⟩ none 0 none 0) ∧
    Below W.heap.size W (w5.alloc (.cells #[.string r, .int .i64 0, .bool false, .int .i64 0, .string ⟨#[]⟩, .slice none 0 0, .slice none 0 0, .bool true] 56)) ∧
    w5.cell? ⟨D, 0, none⟩ = some gv ∧ D < w5.heap.size := by
  have hBa : Below w5.heap.size w5 (w5.alloc (.cells (chc ⟨r, V.nil, true⟩ none 0 none 0).toArray 56)) := (Below.refl _ w5).alloc (Nat.le_refl _) _
  have h5 := h.on hb5
  exact ⟨h5.on hBa, ⟨hr, zv_at _⟩, Sl.lit w5 (chc ⟨r, V.nil, true⟩ none 0 none 0) 56 8 rfl, hb5.trans (hBa.mono hb5.size), cellT h5.bd rfl, h5.hi⟩
set_option maxRecDepth 100000 in
set_option maxHeartbeats 32000000 in
theorem diff_tab (N : Nat) (a b : V) (r : ByteArray) (D : Nat) (gv ov : Value) (G O : List Chg) (rg ro cs ds : List Value) (w : World) (hd : DfAt w D gv ov G O rg ro) (ha : VAt (veil (dfS D gv ov) w) a cs) (hb : VAt (veil (dfS D gv ov) w) b ds) (h0 : V.cmp a b ≠ 0) (hA : tab a) (hB : tab b)
    (na : a.nodes ≤ 1000) (nb : b.nodes ≤ 1000) (hr : r.size + 100 * a.lev ≤ 1000000) (hgl : G.length + a.nodes ≤ 4000) (hol : O.length + b.nodes ≤ 4000) (HIH : Hid (DiffIH a N)) :
    Calls Tryz.prog 16 #[.pointer (some ⟨D, 0, none⟩), .agg cs.toArray, .agg ds.toArray, .string r] w (DiffOk a b (N + 1) r D gv ov G O w) := by
  have CC := Lib.hid (fun w' (hbl : Below w.heap.size w w') => cmp_any _ a (Nat.lt_succ_self _) b cs ds w' ((ha.keeps (Keeps.bare _ _)).keep hbl) ((hb.keeps (Keeps.bare _ _)).keep hbl))
  obtain ⟨ci, hci, hc0, hc1, hc2⟩ := info_parts infoChange
  have hq0 : (V.cmp a b == 0) = false := by rw [beq_eq_false_iff_ne]; exact h0
  have HRR : Hid (diffP (N + 1) a b = (gjs N a b (keysU a b).length, ojs N a b (keysU a b).length)) := by
    show _ = _
    unfold diffP gjs ojs
    rw [if_neg h0, if_pos ⟨hA.2, hB.2⟩, List.take_length]
  obtain ⟨oa, oc, rfl⟩ := ownsRow_form hd.oo
  obtain ⟨ga, gc, rfl⟩ := ownsRow_form hd.og
  have HD := Lib.hid hd
  have hDw := hd.hi
  have HXA := Lib.hid ha
  have HYA := Lib.hid hb
  obtain ⟨xa, xc, xk, xkc, rfl, _⟩ := ha.opened
  obtain ⟨ya, yc, yk, ykc, rfl, _⟩ := hb.opened
  have HTA := Lib.hid hA
  have HTB := Lib.hid hB
  have hq6 : (a.kd != 6) = false := by rw [hA.2]; rfl
  have hq7 : (b.kd != 6) = false := by rw [hB.2]; rfl
  rw [vcs_arr, vcs_arr] at CC
  rw [vcs_arr, vcs_arr]
  have HB0 : Hid (Below w.heap.size w ((w.alloc (box6 a xa xc xk xkc)).alloc (box6 b ya yc yk ykc))) := ((Below.refl w.heap.size w).alloc (Nat.le_refl _) _).alloc (by simp) _
  have HX0 : Hid (((w.alloc (box6 a xa xc xk xkc)).alloc (box6 b ya yc yk ykc)).heap[w.heap.size]? = some (box6 a xa xc xk xkc)) := (heap_alloc_old _ _ (by simp)).trans (heap_alloc_new _ _)
  have HY0 : Hid (((w.alloc (box6 a xa xc xk xkc)).alloc (box6 b ya yc yk ykc)).heap[w.heap.size + 1]? = some (box6 b ya yc yk ykc)) := heap_new_at (by simp)
  unfold box6 at HB0 HX0 HY0
  clear hd ha hb h0 hA hB
  generalize hz : V.cmp a b = z at *
  clear hz
  go_enter Tryz.func16, Tryz.ntmps16
  go_wp2_with fail
  refine (CC.out _ HB0.out).mono ?_
  rintro e w1 ⟨rfl, hb1⟩
  have HB1 : Hid (Below w.heap.size w w1) := HB0.out.trans (hb1.mono (by simp <;> omega))
  have HX1 := Lib.hid ((hb1.block _ (by simp <;> omega)).trans HX0.out)
  have HY1 := Lib.hid ((hb1.block _ (by simp <;> omega)).trans HY0.out)
  have hz1 : w.heap.size + 2 ≤ w1.heap.size := by have := hb1.size; simp at this; omega
  clear hb1 HB0 HX0 HY0 CC
  have hbx := HX1.out
  have hby := HY1.out
  obtain ⟨x0, x1, x2, x3, x4, x5⟩ := six_of_block hbx
  obtain ⟨y0, y1, y2, y3, y4, y5⟩ := six_of_block hby
  clear hbx hby
  have HU0 : Hid (UnIn a b D (.slice ga G.length gc) (.slice oa O.length oc) w xa xc xk xkc ya yc yk ykc w1.heap.size (w1.alloc (box6 a xa xc xk xkc)) 0 xa xc xk xkc) := by
    have hba : Below w1.heap.size w1 (w1.alloc (box6 a xa xc xk xkc)) := (Below.refl _ w1).alloc (Nat.le_refl _) _
    exact ⟨Nat.zero_le _, (hba.block _ (by omega)).trans HX1.out, (hba.block _ (by omega)).trans HY1.out, heap_alloc_new _ _, HXA.out.keeps (Keeps.veils (HB1.out.trans (hba.mono HB1.out.size)).size fun k hk hs => ⟨by rw [unS_false]; exact ⟨hs, by omega⟩, (HB1.out.trans (hba.mono HB1.out.size)).block k hk⟩), HB1.out.trans (hba.mono HB1.out.size), hz1⟩
  unfold box6 at HU0
  clear HX1 HY1 HB1
  generalize hAL : w1.heap.size = AL at HU0
  go_upto_region 5 with fail
  generalize hW1 : World.alloc _ _ = W1 at HU0 ⊢
  clear hW1 hAL hz1 x0 x1 x2 x3 x4 x5 y0 y1 y2 y3 y4 y5
  have hby := HU0.out.by_
  unfold box6 at hby
  have y5 : W1.cell? ⟨w.heap.size + 1, 5, none⟩ = some (.slice yk b.kys.length ykc) := cellT hby rfl
  clear hby
  obtain ⟨hyit, hyky⟩ := veil_items HYA.out
  have HYI := Lib.hid hyit
  have HYK := Lib.hid hyky
  have HLB := Lib.hid HTB.out.len
  clear hyit hyky
  have hkl : b.kys.length ≤ 1000 := by have := HLB.out; have h1 := nodes_its b; have h3 := nodess_len b.its; omega
  go_wp2_with fail
  go_loopw [47] (fun i wr => ∃ (j : Nat) (ua : Option Addr) (uc : Nat) (uk : Option Addr) (ukc : Nat), i = .int .i64 j ∧ Hid (UnIn a b D (.slice ga G.length gc) (.slice oa O.length oc) w xa xc xk xkc ya yc yk ykc AL wr j ua uc uk ukc)) (fun i _ => b.kys.length - (intOf i).toNat)
  case atStart => exact ⟨0, xa, xc, xk, xkc, rfl, HU0⟩
  case round =>
    clear HU0 y5
    obtain ⟨j, ua, uc, uk, ukc, rfl, HU⟩ := hrel
    have hle := HU.out.le
    by_cases hj : j < b.kys.length
    · have hji : j < b.its.length := by have := HLB.out; omega
      obtain ⟨kb, ko, rfl, hkb, _, hkc, hkz⟩ := HYK.out j hj
      obtain ⟨ib, io, ja, jc, la, lc, rfl, hib, hibS, hiv, hic⟩ := HYI.out j hji
      have k0 : wr.cell? ⟨kb, ko + j, none⟩ = some (.string b.kys[j]) := (HU.out.below.cell (p := ⟨kb, ko + j, none⟩) hkb).trans hkc
      obtain ⟨d0, d1, d2, d3, d4, d5⟩ := six_later HU.out.below hib hic
      have hby := HU.out.by_
      have hbl := HU.out.bl
      unfold box6 at hby hbl
      have y4 : wr.cell? ⟨w.heap.size + 1, 4, none⟩ = some (.slice (some ⟨ib, io, none⟩) b.its.length yc) := cellT hby rfl
      obtain ⟨u0, u1, u2, u3, u4, u5⟩ := six_of_block hbl
      have hUT := union_tab HTA.out HTB.out j (by omega)
      have hUn := union_nodes HTA.out HTB.out j (by omega)
      have hUm : (unionN a b j).mid := ⟨hUT.1.1, by have h3 := nodess_take b.its j; have h4 := nodes_its b; omega⟩
      have CP := Lib.hid (put_veil (unS D (.slice ga G.length gc) (.slice oa O.length oc) AL) (unionN a b j) b.its[j] b.kys[j] _ _ wr.drew (fun k hk => HU.out.new HD.out k hk) (HU.out.u.keeps (Keeps.belows (Below.refl _ wr).drew)) ((hiv.keeps HU.out.keeps).keeps (Keeps.belows (Below.refl _ wr).drew)) hUm hUT.1.2 hkz)
      rw [← union_succ HTB.out hj] at CP
      rw [vcs_arr, vcs_arr] at CP
      have HBL := Lib.hid HU.out.bl
      have hALr := HU.out.hi
      have HNX := Lib.hid (fun w2 za zc zk zkc hb hz => HU.out.next (za := za) (zc := zc) (zk := zk) (zkc := zkc) (w2 := w2) hj hb hz)
      generalize unionN a b (j + 1) = U2 at *
      generalize unionN a b j = U1 at *
      clear hkc hic hiv hby hbl hUT hUn hUm
      go_upto_region 8 with fail
      go_still_tail 7, (by kernel_rfl)
      go_wp2_with fail
      refine CP.out.mono ?_
      rintro e w5 ⟨ds, rfl, hds, hb5⟩
      obtain ⟨za, zc, zk, zkc, rfl, _⟩ := hds.opened
      rw [vcs_arr]
      have hb5' : Below wr.heap.size wr w5 := (Below.refl _ wr).drew.trans hb5
      have HN := Lib.hid (HNX.out w5 za zc zk zkc hb5' hds)
      have hbl := (hb5'.block AL hALr).trans HBL.out
      unfold box6 at hbl
      unfold put6 at HN
      obtain ⟨g0, g1, g2, g3, g4, g5⟩ := six_open hbl
      obtain ⟨t0, t1, t2, t3, t4, t5⟩ := six_of_block hbl
      clear hds hb5 hb5' hbl HNX HBL HU CP k0 d0 d1 d2 d3 d4 d5 y4 u0 u1 u2 u3 u4 u5
      go_wp2_with fail
      generalize hwf : World.setCell _ _ _ = wf at HN ⊢
      clear hwf g0 g1 g2 g3 g4 g5 t0 t1 t2 t3 t4 t5
      go_roundw
      case rel => exact ⟨j + 1, za, zc, zk, zkc, by go_num, HN⟩
      case measure => simp [intOf]; omega
    · obtain rfl : j = b.kys.length := by omega
      have hbl := HU.out.bl
      unfold box6 at hbl
      have u5 : wr.cell? ⟨AL, 5, none⟩ = some (.slice uk (keysU a b).length ukc) := cellT hbl rfl
      obtain ⟨_, hukk⟩ := veil_items HU.out.u
      have HKS : Hid (∀ k (hk : k < (keysU a b).length), ∃ q off, uk = some ⟨q, off, none⟩ ∧ q < wr.heap.size ∧ unS D (.slice ga G.length gc) (.slice oa O.length oc) AL q = false ∧ wr.cell? ⟨q, off + k, none⟩ = some (.string (keysU a b)[k]) ∧ (keysU a b)[k].size ≤ maxLen) := hukk
      have hul : (keysU a b).length ≤ 4000 := by
        have h1 := union_tab HTA.out HTB.out b.kys.length (Nat.le_refl _)
        have h2 := union_nodes HTA.out HTB.out b.kys.length (Nat.le_refl _)
        have h3 := nodess_take b.its b.kys.length
        have h4 := nodes_its b
        have h5 := h1.1.len
        have h6 := nodes_its (unionN a b b.kys.length)
        have h7 := nodess_len (unionN a b b.kys.length).its
        show (unionN a b b.kys.length).kys.length ≤ 4000
        omega
      have HDW := Lib.hid (HD.out.on HU.out.below)
      have HXW := Lib.hid (HXA.out.keeps (Keeps.belows HU.out.below))
      have HYW := Lib.hid (HYA.out.keeps (Keeps.belows HU.out.below))
      have HBX := Lib.hid HU.out.bx
      have HBY := Lib.hid HU.out.by_
      have HBW := Lib.hid HU.out.below
      have hlo := HU.out.lo
      have hhi := HU.out.hi
      have HN0 := Lib.hid (dfS_new HD.out)
      clear hbl hukk HU HYI HYK HXA HYA
      obtain ⟨wo, rfl⟩ : ∃ wo : World, wo = wr := ⟨_, rfl⟩
      go_wp2_with fail
      go_loopw [64] (fun i wr => ∃ (j : Nat) (gv' ov' : Value) (rg' ro' : List Value), i = .int .i64 j ∧ Hid (DfAt wr D gv' ov' (G ++ (gjs N a b j).map (Mh.Op.chgR r)) (O ++ (ojs N a b j).map (Mh.Op.chgR r)) rg' ro') ∧ Hid (DfFar D (.slice ga G.length gc) (.slice oa O.length oc) gv' ov' wo wr) ∧ Hid (j ≤ (keysU a b).length)) (fun i _ => (keysU a b).length - (intOf i).toNat)
      case atStart => exact ⟨0, _, _, rg, ro, rfl, by simpa [gjs, ojs] using HDW, DfFar.of_below (Nat.le_of_lt HDW.out.hi) (Below.refl _ _), Nat.zero_le _⟩
      case round =>
        obtain ⟨j, gv', ov', rg', ro', rfl, HDJ, HFJ, HJL⟩ := hrel
        have hjl := HJL.out
        have hzr := HFJ.out.below.size
        by_cases hj : j < (keysU a b).length
        · obtain ⟨q, off, rfl, hq, hqS, hqc, hqz⟩ := HKS.out j hj
          have k0 : wr.cell? ⟨q, off + j, none⟩ = some (.string (keysU a b)[j]) := (World.cell?_of_block (HFJ.out.block q hq (unS_false.1 hqS).1)).trans hqc
          have HJS := Lib.hid (jsum N HTA.out HTB.out hj)
          have hGS := gjs_succ N a b hj r
          have hOS := ojs_succ N a b hj r
          have hKM : (keysU a b)[j] ∈ keysU a b := List.getElem_mem hj
          have HKM := Lib.hid ((keysU_mem HTA.out HTB.out _).1 hKM)
          have hkz : (keysU a b)[j].size ≤ 40 := by
            have h1 : isKeyL (keysU a b)[j].data.toList = true := HKM.out.elim (fun h => HTA.out.keys _ h) (fun h => HTB.out.keys _ h)
            have h2 := (key_facts h1).2.1
            rw [← ByteArray.size_data]
            simpa using h2
          generalize (keysU a b)[j] = kk at k0 HJS hGS hOS HKM hqz hkz
          obtain ⟨ga', gc', rfl⟩ := ownsRow_form HDJ.out.og
          obtain ⟨oa', oc', rfl⟩ := ownsRow_form HDJ.out.oo
          have hGl : (G ++ (gjs N a b j).map (Mh.Op.chgR r)).length = G.length + (gjs N a b j).length := by simp
          have hOl : (O ++ (ojs N a b j).map (Mh.Op.chgR r)).length = O.length + (ojs N a b j).length := by simp
          have HGS : Hid (G ++ (gjs N a b (j + 1)).map (Mh.Op.chgR r) = (G ++ (gjs N a b j).map (Mh.Op.chgR r)) ++ (keyP N a b kk).1.map (Mh.Op.chgR (joinR r kk))) := by show _ = _; rw [hGS, List.append_assoc]
          have HOS : Hid (O ++ (ojs N a b (j + 1)).map (Mh.Op.chgR r) = (O ++ (ojs N a b j).map (Mh.Op.chgR r)) ++ (keyP N a b kk).2.map (Mh.Op.chgR (joinR r kk))) := by show _ = _; rw [hOS, List.append_assoc]
          generalize G ++ (gjs N a b j).map (Mh.Op.chgR r) = G' at *
          generalize O ++ (ojs N a b j).map (Mh.Op.chgR r) = O' at *
          have hJS := HJS.out
          have HGl := Lib.hid hGl
          have HOl := Lib.hid hOl
          have hrk := joinR_size r kk
          have hlvp := lev_pos a
          clear hGS hOS hqz HJS hGl hOl
          have hbx := (HFJ.out.block w.heap.size (by omega) (HN0.out _ (Nat.le_refl _))).trans HBX.out
          have hby := (HFJ.out.block (w.heap.size + 1) (by omega) (HN0.out _ (by omega))).trans HBY.out
          have hla : a.kys.length ≤ 1000 := by have := HTA.out.len; have h1 := nodes_its a; have h3 := nodess_len a.its; omega
          have HVA := Lib.hid (HXW.out.keeps HFJ.out.keeps)
          have HVB := Lib.hid (HYW.out.keeps HFJ.out.keeps)
          have HF1 := Lib.hid (find_any a _ kk wr (HVA.out.keeps (Keeps.bare _ _)) HTA.out.asc (by omega))
          have HF2 := Lib.hid (fun w' (hbl : Below wr.heap.size wr w') => find_any b _ kk w' ((HVB.out.keeps (Keeps.bare _ _)).keep hbl) HTB.out.asc (by omega))
          have HJO := Lib.hid (fun w' => joined_any r kk w' (by omega))
          rw [vcs_arr] at HF1 HF2
          have HB6 := Lib.hid hby
          have HB7 := Lib.hid hbx
          have hw2 : w.heap.size + 1 < wr.heap.size := by omega
          unfold box6 at hbx hby HB6 HB7
          obtain ⟨x0, x1, x2, x3, x4, x5⟩ := six_of_block hbx
          clear hqc hqS hq hbx hby hKM
          go_wp2_with fail
          refine HF1.out.mono ?_
          rintro e w4 ⟨rfl, hb4⟩
          have hby := (hb4.block (w.heap.size + 1) hw2).trans HB6.out
          obtain ⟨y0, y1, y2, y3, y4, y5⟩ := six_of_block hby
          have HB4 := Lib.hid hb4
          clear hb4 hby HF1 x0 x1 x2 x3 x4 x5 k0
          go_wp2_with fail
          refine (HF2.out _ HB4.out).mono ?_
          rintro e w5 ⟨rfl, hb5⟩
          have HB5 := Lib.hid (HB4.out.trans (hb5.mono HB4.out.size))
          clear hb5 HF2 HB4 y0 y1 y2 y3 y4 y5
          go_wp2_with fail
          refine (HJO.out _).mono ?_
          rintro e w6 ⟨rfl, rfl⟩
          have HD5 := Lib.hid (HDJ.out.on HB5.out)
          by_cases hkb : kk ∈ b.kys
          · obtain ⟨hlb, hyb⟩ := HTB.out.low_item hkb
            have hitb : hit kk b.kys = true := HTB.out.hit_yes hkb
            have hwb : wt b kk = (b.its[low kk b.kys]).nodes := by unfold wt; rw [hyb]
            have hyg := HTB.out.items _ (item_mem HTB.out.asc hyb).2
            obtain ⟨ib, io, ja, jc, la, lc, rfl, hib, hibS, hiv, hic⟩ := (veil_items HVB.out).1 _ hlb
            obtain ⟨d0, d1, d2, d3, d4, d5⟩ := six_later HB5.out hib hic
            have hby := (HB5.out.block (w.heap.size + 1) hw2).trans HB6.out
            have y4 : w5.cell? ⟨w.heap.size + 1, 4, none⟩ = some (.slice (some ⟨ib, io, none⟩) b.its.length yc) := cellT hby rfl
            have HYV := Lib.hid hiv
            clear hby hibS hiv hkb
            by_cases hka : kk ∈ a.kys
            · obtain ⟨hla', hxa⟩ := HTA.out.low_item hka
              have hita : hit kk a.kys = true := HTA.out.hit_yes hka
              have hwa : wt a kk = (a.its[low kk a.kys]).nodes := by unfold wt; rw [hxa]
              have hxg := HTA.out.items _ (item_mem HTA.out.asc hxa).2
              have hxl := lev_item (item_mem HTA.out.asc hxa).2
              have hxs := item_size HTA.out.asc hxa
              have HKP := Lib.hid (keyP_both N hxa hyb)
              obtain ⟨pb, po, xja, xjc, xla, xlc, rfl, hpb, hpbS, hpv, hpc⟩ := (veil_items HVA.out).1 _ hla'
              obtain ⟨e0, e1, e2, e3, e4, e5⟩ := six_later HB5.out hpb hpc
              have hbx := (HB5.out.block w.heap.size (by omega)).trans HB7.out
              have x4 : w5.cell? ⟨w.heap.size, 4, none⟩ = some (.slice (some ⟨pb, po, none⟩) a.its.length xc) := cellT hbx rfl
              have HCA := Lib.hid (HIH.out _ _ hxs hxg hyg (by omega) (by omega) (joinR r kk) D _ _ G' O' rg' ro' _ _ w5.drew (HD5.out.on (Below.refl _ w5).drew) (hpv.keeps (Keeps.belows HB5.out.drew)) (HYV.out.keeps (Keeps.belows HB5.out.drew)) (by omega) (by have := HGl.out; omega) (by have := HOl.out; omega))
              rw [vcs_arr, vcs_arr] at HCA
              have hFB := Lib.hid (DfFar.of_below (gv := .slice ga' G'.length gc') (ov := .slice oa' O'.length oc') (Nat.le_of_lt HDJ.out.hi) HB5.out.drew)
              clear hbx hpb hpbS hpv hpc hka hxa hyb hxs hxg hyg hxl
              go_upto_region 16 with fail
              go_still_tail 12, (by kernel_rfl)
              go_wp2_with fail
              refine HCA.out.mono ?_
              rintro e w7 ⟨rfl, gv2, ov2, rg2, ro2, hdt, hft⟩
              have HDT := Lib.hid hdt
              have HFT := Lib.hid (hFB.out.trans hft)
              clear hdt hft HCA hFB
              clear d0 d1 d2 d3 d4 d5 e0 e1 e2 e3 e4 e5 x4 y4
              go_wp2_with fail
              go_roundw
              case rel =>
                exact ⟨j + 1, _, _, _, _, by go_num, HDT.out.cast (by rw [HGS.out, HKP.out]) (by rw [HOS.out, HKP.out]), HFJ.out.trans HFT.out, hj⟩
              case measure => simp [intOf]; omega
            · have hita : hit kk a.kys = false := HTA.out.hit_no hka
              have HKP := Lib.hid (keyP_new N HTA.out hyb hka)
              have hym : (b.its[low kk b.kys]).mid := ⟨hyg, by omega⟩
              have hBD : Below wr.heap.size wr w5.drew := HB5.out.drew
              have HDd := Lib.hid (HDJ.out.on hBD)
              have CL := Lib.hid (clone_any _ _ (Nat.lt_succ_self _) hym _ w5.drew ((HYV.out.keeps (Keeps.belows hBD)).keeps (Keeps.bare _ _)))
              rw [vcs_arr] at CL
              have hbd := HDd.out.bd
              have g1 : w5.drew.cell? ⟨D, 1, none⟩ = some (.slice oa' O'.length oc') := cellT hbd rfl
              clear d0 d1 d2 d3 d4 d5
              obtain ⟨d0, d1, d2, d3, d4, d5⟩ := six_later hBD hib hic
              have hby := (hBD.block (w.heap.size + 1) hw2).trans HB6.out
              have y4' : w5.drew.cell? ⟨w.heap.size + 1, 4, none⟩ = some (.slice (some ⟨ib, io, none⟩) b.its.length yc) := cellT hby rfl
              have HBD := Lib.hid hBD
              have hoz : O'.length ≤ 4000 := by have := HOl.out; omega
              have hrz : (joinR r kk).size ≤ maxLen := by unfold maxLen; omega
              have hDr := HDJ.out.hi
              have hzd : wr.heap.size ≤ w5.drew.heap.size := hBD.size
              clear hka hyb hym hBD hbd y4 hby hic hib HYV HD5 hyg hwb
              go_upto_region 20 with fail
              generalize b.its[low kk b.kys] = y at *
              go_region_law (first | (refine step_append_sl _ rfl _ _ 27 rfl (D + 1) 56 ci (.agg #[.string ⟨#[]⟩, .int .i64 0, .bool false, .int .i64 0, .string ⟨#[]⟩, .slice none 0 0, .slice none 0 0, .bool false]) 8 112 Tryz.underlying27 hci hc0 hc1 hc2 rfl (by decide) (.slice oa' O'.length oc') O'.length _ rfl HDA.out.oo _ 1 _ rfl HNEW.out (chc_ones _ _ _ _ _) (by unfold maxLen; omega) (by omega) (HDA.out.hi) ?_; intro v9 w9 hown9 hgr9 hat9; have HUP := Lib.hid (HDA.out.moreUp HCI.out hown9 hgr9 hat9); obtain ⟨a9, c9, rfl⟩ := ownsRow_form hown9; have hbd := HDA.out.bd; have g1 : w9.cell? ⟨D, 1, none⟩ = some (.slice oa' O'.length oc') := (World.cell?_of_block (a := ⟨D, 1, none⟩) (hgr9.block D HDA.out.hi (fun e => by have := (HDA.out.oo.lt D e.symm).1; omega))).trans (cellT hbd rfl); have f1 : w9.frozen? ⟨D, 1, none⟩ = false := frozenT ((hgr9.block D HDA.out.hi (fun e => by have := (HDA.out.oo.lt D e.symm).1; omega)).trans hbd)) | (go_simp; go_at_call 21; (with_reducible refine CL.out.mono ?_); rintro e w7 ⟨es, rfl, hes, hb7⟩; obtain ⟨ea, ec, ek, ekc, rfl, _⟩ := hes.opened; rw [vcs_arr]; obtain ⟨hda, hci5, hnew, hbel, hd1, hdlt⟩ := arm_facts (r := joinR r kk) HDd.out hrz hb7 hes; have HDA := Lib.hid hda; have HCI := Lib.hid hci5; have HNEW := Lib.hid hnew; have HBE := Lib.hid hbel; have g1 := hd1; clear hda hci5 hnew hbel hd1 hes hb7))
              all_goals
                have HFT := Lib.hid ((DfFar.of_below (gv := .slice ga' G'.length gc') (ov := .slice oa' O'.length oc') (Nat.le_of_lt hDr) (HBD.out.trans (HBE.out.mono hzd))).trans HUP.out.2)
                have HDT := Lib.hid HUP.out.1
                clear HUP HBE HNEW HCI HDA hown9 hgr9 hat9 g1 f1 CL HDd hbd hdlt
                go_wp2_with fail
                go_roundw
                case rel =>
                  exact ⟨j + 1, _, _, _, _, by go_num, HDT.out.cast (by rw [HGS.out, HKP.out]; simp only [List.map_nil, List.append_nil]) (by rw [HOS.out, HKP.out]; rfl), HFJ.out.trans HFT.out, hj⟩
                case measure => simp [intOf]; omega
          · have hitb : hit kk b.kys = false := HTB.out.hit_no hkb
            have HKP := Lib.hid (keyP_gone N (a := a) HTB.out hkb)
            obtain ⟨hda, hci5, hnew, hbel, hd0, hdlt⟩ := arm_gone (r := joinR r kk) HD5.out (by unfold maxLen; omega) (Below.refl _ _)
            have HDA := Lib.hid hda
            have HCI := Lib.hid hci5
            have HNEW := Lib.hid hnew
            have HBE := Lib.hid hbel
            have d0 := hd0
            clear hda hci5 hnew hbel hd0
            have hgz : G'.length ≤ 4000 := by have := HGl.out; omega
            have hD5 := HDJ.out.hi
            have hD6 : D + 1 ≤ (w5.alloc (.cells #[.string (joinR r kk), .int .i64 0, .bool false, .int .i64 0, .string ⟨#[]⟩, .slice none 0 0, .slice none 0 0, .bool true] 56)).heap.size := HDA.out.hi
            clear hkb
            go_wp2_with (at_builtin; refine wpList_append_sl _ rfl _ _ 27 rfl (D + 1) 56 ci (.agg #[.string ⟨#[]⟩, .int .i64 0, .bool false, .int .i64 0, .string ⟨#[]⟩, .slice none 0 0, .slice none 0 0, .bool false]) 8 112 Tryz.underlying27 hci hc0 hc1 hc2 rfl (by decide) (.slice ga' G'.length gc') G'.length _ rfl HDA.out.og _ 1 _ rfl HNEW.out (chc_ones _ _ _ _ _) (by unfold maxLen; omega) (by omega) hD6 ?_; intro v9 w9 hown9 hgr9 hat9; have HUP := Lib.hid (HDA.out.goneUp HCI.out hown9 hgr9 hat9); obtain ⟨a9, c9, rfl⟩ := ownsRow_form hown9; have hbd := HDA.out.bd; have d0 : w9.cell? ⟨D, 0, none⟩ = some (.slice ga' G'.length gc') := (World.cell?_of_block (a := ⟨D, 0, none⟩) (hgr9.block D HDA.out.hi (fun e => by have := (HDA.out.og.lt D e.symm).1; omega))).trans (cellT hbd rfl); have f0 : w9.frozen? ⟨D, 0, none⟩ = false := frozenT ((hgr9.block D HDA.out.hi (fun e => by have := (HDA.out.og.lt D e.symm).1; omega)).trans hbd))
            have HFT := Lib.hid ((DfFar.of_below (gv := .slice ga' G'.length gc') (ov := .slice oa' O'.length oc') (Nat.le_of_lt hD5) (HB5.out.trans (HBE.out.mono HB5.out.size))).trans HUP.out.2)
            have HDT := Lib.hid HUP.out.1
            clear HUP HBE HNEW HCI HDA hown9 hgr9 hat9 hbd hdlt d0 f0
            generalize World.setCell _ _ _ = wf at HFT HDT ⊢
            go_wp2_with fail
            go_roundw
            case rel =>
              exact ⟨j + 1, _, _, _, _, by go_num, HDT.out.cast (by rw [HGS.out, HKP.out]; rfl) (by rw [HOS.out, HKP.out]; simp only [List.map_nil, List.append_nil]), HFJ.out.trans HFT.out, hj⟩
            case measure => simp [intOf]; omega
        · obtain rfl : j = (keysU a b).length := by omega
          have HFT := Lib.hid ((DfFar.of_below (gv := .slice ga G.length gc) (ov := .slice oa O.length oc) (Nat.le_of_lt hDw) HBW.out).trans HFJ.out)
          clear HKS HIH
          go_wp2_with fail
          refine bodyPost_ret (v := .tuple #[]) (by simp [results, Tryz.results16, go_sem]) rfl ⟨rfl, gv', ov', rg', ro', ?_, HFT.out⟩
          rw [HRR.out]
          exact HDJ.out
end Go.Proofs.YtekknckdeedjnaaGreatDoor
