/- TopMoved: the walk. Conditions: the library's variable MaxLen holds an integer; strings of redirects of at most 2^40 bytes. -/
import Derived.Test.YtdjcificgilimaaDoorMvT
import Derived.Test.YtdjcificgilimaaDoorShAt
import Derived.Deep.CutRange
namespace Mh
open Go Go.RowKit
set_option linter.unusedVariables false
def cntG (gs : List O) (r : O) : Nat := (gs.filter fun q => decide (q.p = r.p)).length
def cntL (ls : List O) (r : O) : Nat := (ls.filter fun q => decide (q.p = r.p ∧ q.b = r.b)).length
theorem cntG_step {gs : List O} {r : O} {k : Nat} (hk : k < gs.length) : cntG (gs.take (k + 1)) r = cntG (gs.take k) r + if gs[k].p = r.p then 1 else 0 := by
  unfold cntG
  rw [take_next hk, List.filter_append, List.length_append, List.filter_cons]
  by_cases h : gs[k].p = r.p
  · rw [if_pos (decide_eq_true h), if_pos h]; rfl
  · rw [if_neg (by simpa using h), if_neg h]; rfl
theorem cntL_step {gs : List O} {r : O} {k : Nat} (hk : k < gs.length) : cntL (gs.take (k + 1)) r = cntL (gs.take k) r + if gs[k].p = r.p ∧ gs[k].b = r.b then 1 else 0 := by
  unfold cntL
  rw [take_next hk, List.filter_append, List.length_append, List.filter_cons]
  by_cases h : gs[k].p = r.p ∧ gs[k].b = r.b
  · rw [if_pos (decide_eq_true h), if_pos h]; rfl
  · rw [if_neg (by simpa using h), if_neg h]; rfl
theorem cntG_le (gs : List O) (r : O) : cntG gs r ≤ gs.length := List.length_filter_le _ _
theorem cntL_le (gs : List O) (r : O) : cntL gs r ≤ gs.length := List.length_filter_le _ _
end Mh
namespace Go.Proofs.YtdjcificgilimaaDoor
open Go.RowKit Mh Go.Sort
set_option linter.unusedVariables false
set_option maxRecDepth 100000 in
set_option maxHeartbeats 16000000 in
theorem moved_walk (v u : Value) (l rs : List O) (m : Int) (w : World) (hm : w.cell? ⟨0, 0, none⟩ = some (.int .i64 m)) (hv : OsAt w v l) (hu : OsAt w u rs) (hsz : ∀ r ∈ rs, r.p.size ≤ 1099511627776 ∧ r.b.size ≤ 1099511627776) :
    Calls Tryd.prog 3 #[v, u] w fun e w' => e = .returned (.bool true) ∧ Below w.heap.size w w' := by
  have hmz : 0 < w.heap.size := World.block_lt_of_cell? w _ hm
  have HML : Hid (∀ w', Below w.heap.size w w' → w'.cell? ⟨0, 0, none⟩ = some (.int .i64 m)) := fun w' hb => (hb.cell hmz).trans hm
  have HA := Lib.hid (awakeShip_any m w hm)
  have HMO := Lib.hid (fun w' (hb : Below w.heap.size w w') => moved_any v u l rs m w' (HML.out w' hb) (hv.keep hb) (hu.keep hb) hsz)
  have HATL := Lib.hid (fun (name : ByteArray) w' (hb : Below w.heap.size w w') (h : l.length ≤ 480) => at_any v l h name w' (hv.keep hb))
  have HSV := Lib.hid (fun (ho : Outs l) (hok : MovOk rs) (q : O) (hq : q ∈ sortR rs l) w' (hb : Below w.heap.size w w') => serve_from v u l rs ho hok q hq m w' (HML.out w' hb) (hv.keep hb) (hu.keep hb) hsz)
  have HSZ := Lib.hid hsz
  obtain ⟨ao, ac, rfl, hla, _⟩ := hv.open
  obtain ⟨bo, bc, rfl, hlb, hatb⟩ := hu.open
  have HATB := Lib.hid hatb
  clear hu hv hm hsz hatb
  go_enter Tryd.func3, Tryd.ntmps3
  go_wp2_with fail
  refine HA.out.mono ?_
  rintro e w1 ⟨rfl, hb1⟩
  have HB1 := Lib.hid hb1
  clear hb1 HA
  go_wp2_with fail
  refine (HMO.out w1 HB1.out).mono ?_
  rintro e w2 ⟨gv, lv, r, rfl, hb2, hr, hz, ho⟩
  have HB2 : Hid (Below w.heap.size w w2) := HB1.out.trans (hb2.mono HB1.out.size)
  clear hb2 HMO
  by_cases h1 : r = 0
  case neg =>
    have hq : (r != 0) = true := by rw [bne_iff_ne]; exact h1
    obtain ⟨rfl, rfl⟩ := hz h1
    clear h1 hz ho hr
    go_wp2_with fail
    go_ret
    exact ⟨rfl, HB2.out⟩
  subst h1
  have HO := Lib.hid (hr.1 rfl).1
  have HOK := Lib.hid (hr.1 rfl).2
  obtain ⟨hg, hl⟩ := ho rfl
  have hl480 := HO.out.1
  have hr60 := HOK.out.1
  have hpl := parts_len rs l
  obtain ⟨ga, gc, rfl, hglen, hgat⟩ := hg.open
  obtain ⟨la, lc, rfl, hllen, hlat⟩ := hl.open
  have HGAT := Lib.hid hgat
  have HLAT := Lib.hid hlat
  have HCNT : Hid (∀ r ∈ rs, cntG (sortR rs l) r + cntL (leftR rs l) r = 1) := fun r hr => count_law HOK.out hr
  have HGM : Hid (∀ q ∈ sortR rs l, (∃ o ∈ l, q.b = adBP o) ∧ ∃ p, FromOk rs l q p) := fun q hq => by
    obtain ⟨p, hf⟩ := from_ok HOK.out hq
    exact ⟨hf.ad, p, hf⟩
  have HSQ : Hid (∀ q ∈ sortR rs l, q.p.size ≤ 1099511627776) := fun q hq => by
    obtain ⟨r, hr, e1, _⟩ := good_mem (sort_mem.1 hq)
    rw [e1]; exact (HSZ.out r hr).1
  have HSV2 := Lib.hid (fun (q : O) (hq : q ∈ sortR rs l) w' hb => HSV.out HO.out HOK.out q hq w' hb)
  clear hr hz ho hg hl hgat hlat HSV
  have HL60 : Hid ((sortR rs l).length ≤ 60 ∧ (leftR rs l).length ≤ 60 ∧ (sortR rs l).length + (leftR rs l).length = rs.length) := ⟨by omega, by omega, hpl⟩
  generalize sortR rs l = gs at *
  generalize leftR rs l = ls at *
  have hgl60 := HL60.out.1
  have hll60 := HL60.out.2.1
  have e1 : (((gs.length : Int) + (ls.length : Int)) != (rs.length : Int)) = false := by rw [bne_eq_false_iff_eq]; omega
  have e2 : ((gs.length + ls.length) != rs.length) = false := by rw [bne_eq_false_iff_eq]; omega
  clear hpl
  go_wp2_with fail
  go_loopw [53] (fun i wr => ∃ k : Nat, k ≤ gs.length ∧ i = .int .i64 k ∧ Hid (Below w2.heap.size w2 wr)) (fun i wr => gs.length - (intOf i).toNat)
  case atStart => exact ⟨0, Nat.zero_le _, rfl, Below.refl _ _⟩
  case round =>
    obtain ⟨k, hk, rfl, HB⟩ := hrel
    by_cases hkl : k < gs.length
    · have hzz : True := trivial
      clear hzz
      -- S1
      obtain ⟨b, off, rfl, hc1, hc2, hlt, hc, hps, hbs⟩ := HGAT.out k hkl
      have hqm := List.getElem_mem hkl
      obtain ⟨d0, d1⟩ := two_later HB.out hlt hc
      have HBr : Hid (Below w.heap.size w wr) := HB2.out.trans (HB.out.mono HB2.out.size)
      obtain ⟨⟨o, hom, hqb⟩, p, hf⟩ := HGM.out gs[k] hqm
      have hpo := HO.out.path hom
      have hsq := HSQ.out gs[k] hqm
      have HSV3 := Lib.hid (HSV2.out gs[k] hqm)
      have HIS : Hid ((lookO l o.p).isSome = true) := by show _ = _; rw [HO.out.look_mem hom]; rfl
      have HNO : Hid ((lookO l p).isSome = false) := by show _ = _; rw [look_none.2 hf.no]; rfl
      have hpz := hf.size
      have hoz : o.p.size ≤ 200 := by have := path_len hpo; rw [Array.length_toList] at this; exact this
      have HP1 : Hid (∀ w', Below w.heap.size w w' → Calls Tryd.prog 6 #[.string gs[k].b] w' fun e w'' => e = .returned (.tuple #[.string o.p, .int .i64 0]) ∧ Below w'.heap.size w' w'') := fun w' hb => by
        rw [hqb]
        exact path_ok o hpo m w' (HML.out w' hb)
      have HP2 : Hid (∀ w', Below w.heap.size w w' → Calls Tryd.prog 6 #[.string gs[k].p] w' fun e w'' => e = .returned (.tuple #[.string p, .int .i64 0]) ∧ Below w'.heap.size w' w'') := fun w' hb => by
        refine (path_any gs[k].p hsq m w' (HML.out w' hb)).mono ?_
        rintro e w'' ⟨s, r, rfl, hb2, hs⟩
        have h1 := hs.out
        rw [hf.hp] at h1
        obtain ⟨rfl, h2, _⟩ := h1
        rw [bytes_eq h2]
        exact ⟨rfl, hb2⟩
      have hbx := below_alloc wr (.cells #[.string gs[k].p, .string gs[k].b] 29)
      have HBW : Hid (Below w2.heap.size w2 (wr.alloc (.cells #[.string gs[k].p, .string gs[k].b] 29))) := HB.out.trans (hbx.mono HB.out.size)
      have HX1 : Hid ((wr.alloc (.cells #[.string gs[k].p, .string gs[k].b] 29)).heap[wr.heap.size]? = some (.cells #[.string gs[k].p, .string gs[k].b] 29 (0, 0))) := heap_alloc_new _ _
      have HZ1 : Hid (wr.heap.size < (wr.alloc (.cells #[.string gs[k].p, .string gs[k].b] 29)).heap.size) := by show _ < _; simp
      clear hc hbx hqm hf hpo hom
      generalize gs[k] = q at *
      generalize o.p = op at *
      clear hqb
      have HW : Hid (∀ w', Below w2.heap.size w2 w' → Below w.heap.size w w') := fun w' hb => HB2.out.trans (hb.mono HB2.out.size)
      have HP1a := Lib.hid (HP1.out _ (HW.out _ HBW.out))
      go_wp2_with fail
      refine HP1a.out.mono ?_
      rintro e w3 ⟨rfl, hb3⟩
      have HB3 := Lib.hid (HBW.out.trans (hb3.mono HBW.out.size))
      have HX3 := Lib.hid ((hb3.block _ HZ1.out).trans HX1.out)
      have hz3 : wr.heap.size < w3.heap.size := Nat.lt_of_lt_of_le HZ1.out hb3.size
      clear hb3 HX1 HZ1 HBW HP1a d0 d1
      obtain ⟨x0, x1⟩ := pair_of_block HX3.out
      have HA3 := Lib.hid (HATL.out op w3 (HW.out _ HB3.out) hl480)
      rw [HIS.out] at HA3
      go_wp2_with fail
      refine HA3.out.mono ?_
      rintro e w4 ⟨rfl, hb4⟩
      have HB4 := Lib.hid (HB3.out.trans (hb4.mono HB3.out.size))
      have HX4 := Lib.hid ((hb4.block _ hz3).trans HX3.out)
      have hz4 : wr.heap.size < w4.heap.size := Nat.lt_of_lt_of_le hz3 hb4.size
      clear hb4 HX3 hz3 HB3 HA3 x0 x1
      obtain ⟨x0, x1⟩ := pair_of_block HX4.out
      have HP2a := Lib.hid (HP2.out _ (HW.out _ HB4.out))
      go_wp2_with fail
      refine HP2a.out.mono ?_
      rintro e w5 ⟨rfl, hb5⟩
      have HB5 := Lib.hid (HB4.out.trans (hb5.mono HB4.out.size))
      have HX5 := Lib.hid ((hb5.block _ hz4).trans HX4.out)
      have hz5 : wr.heap.size < w5.heap.size := Nat.lt_of_lt_of_le hz4 hb5.size
      clear hb5 HX4 hz4 HB4 HP2a x0 x1
      obtain ⟨x0, x1⟩ := pair_of_block HX5.out
      have HA5 := Lib.hid (HATL.out p w5 (HW.out _ HB5.out) hl480)
      rw [HNO.out] at HA5
      go_wp2_with fail
      refine HA5.out.mono ?_
      rintro e w6 ⟨rfl, hb6⟩
      have HB6 := Lib.hid (HB5.out.trans (hb6.mono HB5.out.size))
      have HX6 := Lib.hid ((hb6.block _ hz5).trans HX5.out)
      have hz6 : wr.heap.size < w6.heap.size := Nat.lt_of_lt_of_le hz5 hb6.size
      clear hb6 HX5 hz5 HB5 HA5 x0 x1
      obtain ⟨x0, x1⟩ := pair_of_block HX6.out
      have HS6 := Lib.hid (HSV3.out w6 (HW.out _ HB6.out))
      unfold SvF at HS6
      go_wp2_with fail
      refine HS6.out.mono ?_
      rintro e w8 ⟨rc, rp, rb, rr, rfl, hb8, hsv⟩
      have hb9 : Below w8.heap.size w8 (w8.alloc (.cells #[.int .i64 rc, .string rp, .string rb] 35)) := below_alloc _ _
      have hb69 : Below w6.heap.size w6 (w8.alloc (.cells #[.int .i64 rc, .string rp, .string rb] 35)) := hb8.trans (hb9.mono hb8.size)
      have HB9 := Lib.hid (HB6.out.trans (hb69.mono HB6.out.size))
      have HX9 := Lib.hid ((hb69.block _ hz6).trans HX6.out)
      have HY9 : Hid ((w8.alloc (.cells #[.int .i64 rc, .string rp, .string rb] 35)).heap[w8.heap.size]? = some (.cells #[.int .i64 rc, .string rp, .string rb] 35 (0, 0))) := heap_alloc_new _ _
      clear x0 x1 hb8 hb9 hb69 HS6
      obtain ⟨x0, x1⟩ := pair_of_block HX9.out
      by_cases hsz : (q.p.size : Int) ≤ 200
      · obtain ⟨rfl, rfl, rfl⟩ := hsv.out (by omega)
        obtain ⟨⟨t0, t1, t2⟩, _⟩ := three_open HY9.out
        clear hsv
        go_wp2_with fail
        go_roundw
        case rel => exact ⟨k + 1, by omega, by go_num, HB9⟩
        case measure => simp [intOf]; omega
      · clear hsv
        go_wp2_with fail
        go_roundw
        case rel => exact ⟨k + 1, by omega, by go_num, HB9⟩
        case measure => simp [intOf]; omega
      -- E1
    · have hzz : True := trivial
      clear hzz
      -- S2
      obtain ⟨wo, rfl⟩ : ∃ wo : World, wo = wr := ⟨_, rfl⟩
      have HB0 := Lib.hid HB.out
      clear HB
      go_wp2_with fail
      go_loopw [119] (fun i wr => ∃ k : Nat, k ≤ rs.length ∧ i = .int .i64 k ∧ Hid (Below w2.heap.size w2 wr)) (fun i wr => rs.length - (intOf i).toNat)
      case atStart => exact ⟨0, Nat.zero_le _, rfl, HB0⟩
      case round =>
        obtain ⟨k2, hk2, rfl, HB⟩ := hrel
        have HBr : Hid (Below w.heap.size w wr) := HB2.out.trans (HB.out.mono HB2.out.size)
        by_cases hkl2 : k2 < rs.length
        · obtain ⟨b, off, rfl, hc1, hc2, hlt, hc, hps, hbs⟩ := HATB.out k2 hkl2
          obtain ⟨d0, d1⟩ := two_later HBr.out hlt hc
          have HC1 := Lib.hid (HCNT.out rs[k2] (List.getElem_mem hkl2))
          obtain ⟨wp, rfl⟩ : ∃ wp : World, wp = wr := ⟨_, rfl⟩
          have hbx := below_alloc wp (.cells #[.string rs[k2].p, .string rs[k2].b] 29)
          have HBW : Hid (Below w2.heap.size w2 (wp.alloc (.cells #[.string rs[k2].p, .string rs[k2].b] 29))) := HB.out.trans (hbx.mono HB.out.size)
          have HX1 : Hid ((wp.alloc (.cells #[.string rs[k2].p, .string rs[k2].b] 29)).heap[wp.heap.size]? = some (.cells #[.string rs[k2].p, .string rs[k2].b] 29 (0, 0))) := heap_alloc_new _ _
          clear hc hbx
          generalize rs[k2] = r at *
          go_wp2_with fail
          go_loopw [21, 125] (fun n i wr => ∃ j : Nat, j ≤ gs.length ∧ i = .int .i64 j ∧ n = .int .i64 (cntG (gs.take j) r) ∧ Hid (Below w2.heap.size w2 wr) ∧ Hid (wr.heap[wp.heap.size]? = some (.cells #[.string r.p, .string r.b] 29 (0, 0)))) (fun n i wr => gs.length - (intOf i).toNat)
          case atStart => exact ⟨0, Nat.zero_le _, rfl, rfl, HBW, HX1⟩
          case round =>
            clear HBW HX1 HB
            obtain ⟨j, hj, rfl, rfl, HB, HX1⟩ := hrel
            obtain ⟨y0, y1⟩ := pair_of_block HX1.out
            by_cases hjl : j < gs.length
            · obtain ⟨b5, off5, rfl, hd1, hd2, hdlt, hd, hdp, hdb⟩ := HGAT.out j hjl
              obtain ⟨c0, c1⟩ := two_later HB.out hdlt hd
              have hst := cntG_step (r := r) hjl
              have hcl := cntG_le (gs.take j) r
              have hclj : (gs.take j).length ≤ 60 := by rw [List.length_take]; omega
              have hbx := below_alloc wr (.cells #[.string gs[j].p, .string gs[j].b] 29)
              have HBW : Hid (Below w2.heap.size w2 (wr.alloc (.cells #[.string gs[j].p, .string gs[j].b] 29))) := HB.out.trans (hbx.mono HB.out.size)
              have HX2 := Lib.hid ((hbx.block _ (Array.getElem?_eq_some_iff.1 HX1.out).1).trans HX1.out)
              clear hd hbx
              obtain ⟨z0, z1⟩ := pair_of_block HX2.out
              generalize hA : cntG (gs.take j) r = A at *
              generalize hA1 : cntG (gs.take (j + 1)) r = A1 at *
              have HA1 := Lib.hid hA1
              clear hA hA1
              have hA60 : A ≤ 60 := by omega
              by_cases hqr : gs[j].p = r.p
              · rw [if_pos hqr] at hst
                have heq : (gs[j].p.toList == r.p.toList) = true := by rw [hqr]; simp
                have HST := Lib.hid hst
                clear hqr hst hcl hclj
                generalize gs[j] = q at *
                go_wp2_with fail
                go_roundw
                case rel => exact ⟨j + 1, by omega, by go_num, by rw [HA1.out, HST.out]; go_num, HBW, HX2⟩
                case measure => simp [intOf]; omega
              · rw [if_neg hqr] at hst
                have heq : (gs[j].p.toList == r.p.toList) = false := str_neO hqr
                have HST := Lib.hid hst
                clear hqr hst hcl hclj
                generalize gs[j] = q at *
                go_wp2_with fail
                go_roundw
                case rel => exact ⟨j + 1, by omega, by go_num, by rw [HA1.out, HST.out]; go_num, HBW, HX2⟩
                case measure => simp [intOf]; omega
            · have hzz : True := trivial
              clear hzz
              -- S3
              have htk : gs.take j = gs := List.take_of_length_le (by omega)
              rw [htk]
              clear htk
              have hgc := cntG_le gs r
              generalize cntG gs r = A at *
              go_wp2_with fail
              go_loopw [21, 139] (fun n i wr => ∃ j : Nat, j ≤ ls.length ∧ i = .int .i64 j ∧ n = .int .i64 (A + cntL (ls.take j) r : Nat) ∧ Hid (Below w2.heap.size w2 wr) ∧ Hid (wr.heap[wp.heap.size]? = some (.cells #[.string r.p, .string r.b] 29 (0, 0)))) (fun n i wr => ls.length - (intOf i).toNat)
              case atStart => exact ⟨0, Nat.zero_le _, rfl, rfl, HB, HX1⟩
              case round =>
                clear HB HX1 y0 y1
                obtain ⟨j2, hj2, rfl, rfl, HB, HX1⟩ := hrel
                obtain ⟨y0, y1⟩ := pair_of_block HX1.out
                by_cases hjl2 : j2 < ls.length
                · obtain ⟨b5, off5, rfl, hd1, hd2, hdlt, hd, hdp, hdb⟩ := HLAT.out j2 hjl2
                  obtain ⟨c0, c1⟩ := two_later HB.out hdlt hd
                  have hst := cntL_step (r := r) hjl2
                  have hcl := cntL_le (ls.take j2) r
                  have hclj : (ls.take j2).length ≤ 60 := by rw [List.length_take]; omega
                  have hbx := below_alloc wr (.cells #[.string ls[j2].p, .string ls[j2].b] 29)
                  have HBW : Hid (Below w2.heap.size w2 (wr.alloc (.cells #[.string ls[j2].p, .string ls[j2].b] 29))) := HB.out.trans (hbx.mono HB.out.size)
                  have HX2 := Lib.hid ((hbx.block _ (Array.getElem?_eq_some_iff.1 HX1.out).1).trans HX1.out)
                  clear hd hbx
                  obtain ⟨z0, z1⟩ := pair_of_block HX2.out
                  generalize hA : cntL (ls.take j2) r = B at *
                  generalize hA1 : cntL (ls.take (j2 + 1)) r = B1 at *
                  have HA1 := Lib.hid hA1
                  clear hA hA1
                  have hB60 : B ≤ 60 := by omega
                  by_cases hqr : ls[j2].p = r.p ∧ ls[j2].b = r.b
                  · rw [if_pos hqr] at hst
                    have heq : (ls[j2].p.toList == r.p.toList) = true := by rw [hqr.1]; simp
                    have heq2 : (ls[j2].b.toList == r.b.toList) = true := by rw [hqr.2]; simp
                    have HST := Lib.hid hst
                    clear hqr hst hcl hclj
                    generalize ls[j2] = q at *
                    go_wp2_with fail
                    go_roundw
                    case rel => exact ⟨j2 + 1, by omega, by go_num, by rw [HA1.out, HST.out]; go_num, HBW, HX2⟩
                    case measure => simp [intOf]; omega
                  · rw [if_neg hqr] at hst
                    have HST := Lib.hid hst
                    by_cases hq1 : ls[j2].p = r.p
                    · have heq : (ls[j2].p.toList == r.p.toList) = true := by rw [hq1]; simp
                      have heq2 : (ls[j2].b.toList == r.b.toList) = false := str_neO fun e => hqr ⟨hq1, e⟩
                      clear hqr hst hcl hclj hq1
                      generalize ls[j2] = q at *
                      go_wp2_with fail
                      go_roundw
                      case rel => exact ⟨j2 + 1, by omega, by go_num, by rw [HA1.out, HST.out]; go_num, HBW, HX2⟩
                      case measure => simp [intOf]; omega
                    · have heq : (ls[j2].p.toList == r.p.toList) = false := str_neO hq1
                      clear hqr hst hcl hclj hq1
                      generalize ls[j2] = q at *
                      go_wp2_with fail
                      go_roundw
                      case rel => exact ⟨j2 + 1, by omega, by go_num, by rw [HA1.out, HST.out]; go_num, HBW, HX2⟩
                      case measure => simp [intOf]; omega
                · have htk : ls.take j2 = ls := List.take_of_length_le (by omega)
                  rw [htk, HC1.out]
                  clear htk
                  go_wp2_with fail
                  go_roundw
                  case rel => exact ⟨k2 + 1, by omega, by go_num, HB⟩
                  case measure => simp [intOf]; omega
              -- E3
        · go_wp2_with fail
          go_ret
          exact ⟨rfl, HBr.out⟩
      -- E2
end Go.Proofs.YtdjcificgilimaaDoor
