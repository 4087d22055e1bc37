/- lang.compare, units: the walks. Conditions: as stated there. -/
import Derived.Test.YtdolpehcfifecaaDoorMbh
import Derived.Test.YtdolpehcfifecaaDoorMgZ
namespace Mh
open Go Go.RowKit
set_option linter.unusedVariables false
/-- Slices of integers. -/
theorem mbelow_drewN2 {B : Nat} {w w' : World} (h : Below B w w') (n : Nat) : Below B w (w'.drewN n) := ⟨h.os, h.tape, h.output, h.size, h.block⟩
def Is (w : World) (v : Value) (l : List Int) : Prop := Sl 1 w v l.length (l.map (Value.int .i64))
theorem Is.key {w : World} {v : Value} {l : List Int} (h : Is w v l) :
    ∃ ao c, v = .slice ao l.length c ∧ l.length ≤ maxLen ∧ ∀ k (hk : k < l.length), ∃ b off, ao = some ⟨b, off, none⟩ ∧ l.length ≤ c ∧ c ≤ maxLen ∧ b < w.heap.size ∧ w.cell? ⟨b, off + k, none⟩ = some (.int .i64 l[k]) := by
  unfold Is at h
  rcases h.2 with ⟨h0, a, c, rfl⟩ | ⟨b, off, c, rfl, h1, h2, h3, h4, h5⟩
  · exact ⟨a, c, by rw [h0], by omega, fun k hk => by omega⟩
  · exact ⟨_, c, rfl, Nat.le_trans h2 h3, fun k hk => ⟨b, off, rfl, h2, h3, h4, h5 _ _ (by rw [List.getElem?_map, List.getElem?_eq_getElem hk]; rfl)⟩⟩
end Mh
namespace Go.Proofs.YtdolpehcfifecaaDoor
open Go.RowKit Mh
set_option linter.unusedVariables false
set_option maxHeartbeats 4000000 in
theorem gcompare_any (a b : List Int) (va vb : Value) (w : World) (ha : Is w va a) (hb : Is w vb b) : Calls Tryd.prog 12 #[va, vb] w fun e w' => e = .returned (.int .i64 (cmpI a b)) ∧ Below w.heap.size w w' := by
  obtain ⟨aa, ac, rfl, hal, hak⟩ := ha.key
  obtain ⟨ba, bc, rfl, hbl, hbk⟩ := hb.key
  have HA := Lib.hid hak
  have HB := Lib.hid hbk
  have HD := Lib.hid (fun k ha hb => cmpI_drop a b k ha hb)
  unfold maxLen at hal hbl
  obtain ⟨R, hR⟩ : ∃ R, cmpI a b = R := ⟨_, rfl⟩
  rw [hR]
  have HR0 : Hid (R = cmpI (a.drop 0) (b.drop 0)) := hR.symm
  have HE : Hid (cmpI (a.drop a.length) (b.drop a.length) = if a.length < b.length then -1 else if b.length < a.length then 0 else 0) ∨ True := .inr trivial
  clear HE hak hbk ha hb hR
  go_enter Tryd.func12, Tryd.ntmps12
  go_wp2_with fail
  go_loopw [5] (fun v wr => ∃ k : Nat, v = .int .i64 (k : Int) ∧ k ≤ a.length ∧ k ≤ b.length ∧ Hid (R = cmpI (a.drop k) (b.drop k)) ∧ Hid (Below w.heap.size w wr)) (fun v _ => a.length - (intOf v).toNat)
  case atStart => exact ⟨0, rfl, Nat.zero_le _, Nat.zero_le _, HR0, Below.refl _ _⟩
  case round =>
    obtain ⟨k, rfl, hka, hkb, HR, HBW⟩ := hrel
    clear HR0
    by_cases h1 : k < a.length
    · have q1 : decide (k < a.length) = true := decide_eq_true h1
      by_cases h2 : k < b.length
      · have q2 : decide (k < b.length) = true := decide_eq_true h2
        obtain ⟨b1, o1, rfl, g1, g2, g3, g4⟩ := HA.out k h1
        obtain ⟨b2, o2, rfl, l1, l2, l3, l4⟩ := HB.out k h2
        unfold maxLen at g2 l2
        have e1 := (HBW.out.cell (p := ⟨b1, o1 + k, none⟩) g3).trans g4
        have e2 := (HBW.out.cell (p := ⟨b2, o2 + k, none⟩) l3).trans l4
        have HRD : Hid (R = if a[k] = b[k] then cmpI (a.drop (k + 1)) (b.drop (k + 1)) else sgn a[k] b[k]) := HR.out.trans (HD.out k h1 h2)
        have HSG := Lib.hid (sgn_cases a[k] b[k])
        clear g4 l4
        generalize a[k] = x at e1 HRD HSG
        generalize b[k] = y at e2 HRD HSG
        by_cases he : x = y
        · have b0 : (x != y) = false := by rw [bne_eq_false_iff_eq]; exact he
          have HR2 : Hid (R = cmpI (a.drop (k + 1)) (b.drop (k + 1))) := by show _ = _; rw [HRD.out, if_pos he]
          clear he HRD HSG
          go_wp2_with fail
          go_quiet (fail)
          go_wp2_with fail
          go_roundw
          case rel => exact ⟨k + 1, by go_num, by omega, by omega, HR2, mbelow_drewN2 HBW.out _⟩
          case measure => simp [intOf]; omega
        · have b0 : (x != y) = true := by rw [bne_iff_ne]; exact he
          by_cases hl : x < y
          · have q3 : decide (x < y) = true := decide_eq_true hl
            have HR2 : Hid (R = -1) := by
              show _ = _
              rw [HRD.out, if_neg he]
              rcases HSG.out with ⟨_, e⟩ | ⟨h, _⟩ | ⟨h, _⟩
              · exact e
              · omega
              · omega
            clear he hl HRD HSG
            go_wp2_with fail
            go_quiet (fail)
            go_wp2_with fail
            go_quiet (fail)
            go_wp2_with fail
            go_ret
            exact ⟨by rw [HR2.out]; rfl, mbelow_drewN2 (mbelow_drewN2 HBW.out _) _⟩
          · have q3 : decide (x < y) = false := decide_eq_false hl
            have HR2 : Hid (R = 1) := by
              show _ = _
              rw [HRD.out, if_neg he]
              rcases HSG.out with ⟨h, _⟩ | ⟨_, e⟩ | ⟨h, _⟩
              · omega
              · exact e
              · omega
            clear he hl HRD HSG
            go_wp2_with fail
            go_quiet (fail)
            go_wp2_with fail
            go_quiet (fail)
            go_wp2_with fail
            go_ret
            exact ⟨by rw [HR2.out]; rfl, mbelow_drewN2 (mbelow_drewN2 HBW.out _) _⟩
      · have q2 : decide (k < b.length) = false := decide_eq_false h2
        have hkb2 : k = b.length := by omega
        have q3 : decide (a.length < b.length) = false := decide_eq_false (by omega)
        have q4 : decide (b.length < a.length) = true := decide_eq_true (by omega)
        have HR2 : Hid (R = 1) := by
          show _ = _
          rw [HR.out, hkb2, List.drop_length, List.drop_eq_getElem_cons (show b.length < a.length by omega)]
          rfl
        clear hkb2
        go_wp2_with fail
        go_ret
        exact ⟨by rw [HR2.out]; rfl, HBW.out⟩
    · have q1 : decide (k < a.length) = false := decide_eq_false h1
      have hka2 : k = a.length := by omega
      by_cases h3 : a.length < b.length
      · have q3 : decide (a.length < b.length) = true := decide_eq_true h3
        have HR2 : Hid (R = -1) := by
          show _ = _
          rw [HR.out, hka2, List.drop_length, List.drop_eq_getElem_cons h3]
          rfl
        clear hka2
        go_wp2_with fail
        go_ret
        exact ⟨by rw [HR2.out]; rfl, HBW.out⟩
      · have q3 : decide (a.length < b.length) = false := decide_eq_false h3
        have q4 : decide (b.length < a.length) = false := decide_eq_false (by omega)
        have HR2 : Hid (R = 0) := by
          show _ = _
          rw [HR.out, hka2, List.drop_length, show a.length = b.length by omega, List.drop_length]
          rfl
        clear hka2
        go_wp2_with fail
        go_ret
        exact ⟨by rw [HR2.out]; rfl, HBW.out⟩
/-- What stands in memory in units: the row of units, the letters' box. -/
structure UnIn (W0 wr : World) (out : List Int) (vo : Value) : Prop where
  own : wr.ownsRow W0.heap.size 3 1 vo out.length (out.map (Value.int .i64))
  below : Below W0.heap.size W0 wr
theorem UnIn.push {W0 wr w3 : World} {out : List Int} {vo v' : Value} {x : Int} {ob : Obj} (h : UnIn W0 wr out vo) (hown : w3.ownsRow W0.heap.size 3 1 v' (out.length + 1) (out.map (Value.int .i64) ++ [.int .i64 x])) (hg : (wr.alloc ob).grownBy w3 vo.ownBlock) : UnIn W0 w3 (out ++ [x]) v' := by
  have hol := h.own.lt
  have hsz := h.below.size
  refine ⟨by rw [List.length_append, List.length_singleton, List.map_append]; exact hown, ?_⟩
  exact (h.below.alloc hsz ob).grown hg (by simp; omega) (fun k hk => by have := (hol k hk).1; omega)
theorem pre_size {t s : ByteArray} (h : preB t s = true) : t.size ≤ s.size := by
  have h1 := congrArg List.length (pre_split h)
  simp at h1
  omega
theorem unitsF_nil (ls : List ByteArray) (n : Nat) (u : ByteArray) (h : u.size = 0) : unitsF ls n u = [] := by
  have e : u.data.toList.length = u.size := by simp
  have : u.data.toList = [] := List.length_eq_zero_iff.1 (by omega)
  cases n with
  | zero => rfl
  | succ n => unfold unitsF; rw [this]
/-- A string's size. -/
def strSz : Value → Nat
  | .string u => u.size
  | _ => 0
theorem infoInt : (Tryd.prog.info? 3).map (fun i => (i.zero, i.size, i.bytes)) = some (some (.int .i64 0), 1, 8) := by kernel_rfl
set_option maxHeartbeats 8000000 in
theorem gunits_any (ls : List ByteArray) (la : Option Addr) (lc : Nat) (x0 x1 x2 x3 x4 x5 x6 x8 : Value) (s : ByteArray) (w : World) (hl : Ss w (.slice la ls.length lc) ls) (hll : ls.length ≤ 200) (hne : ∀ t ∈ ls, t.size ≠ 0 ∧ t.size ≤ 4) (hs : s.size ≤ 2000) (hone : ∀ v ∈ [x0, x1, x2, x3, x4, x5, x6, x8], v.oneCell' = true) :
    Calls Tryd.prog 13 #[.agg #[x0, x1, x2, x3, x4, x5, x6, .slice la ls.length lc, x8], .string s] w fun e w' => ∃ v, e = .returned v ∧ Is w' v (unitsF ls s.size s) ∧ Below w.heap.size w w' := by
  obtain ⟨ao, c, hv, hk⟩ := hl.key
  simp only [Value.slice.injEq, true_and] at hv
  obtain ⟨rfl, rfl⟩ := hv
  have HK := Lib.hid hk
  have HNE := Lib.hid hne
  obtain ⟨W0, hW0⟩ : ∃ W0, W0 = w.alloc (.cells #[x0, x1, x2, x3, x4, x5, x6, .slice la ls.length lc, x8] 28) := ⟨_, rfl⟩
  have HW0 : Hid (W0.heap[w.heap.size]? = some (.cells #[x0, x1, x2, x3, x4, x5, x6, .slice la ls.length lc, x8] 28 (0, 0))) := by rw [hW0]; exact heap_alloc_new _ _
  have HB0 : Hid (Below w.heap.size w W0) := by rw [hW0]; exact (Below.refl _ _).alloc (Nat.le_refl _) _
  have H0 : Hid (UnIn W0 W0 [] (.slice none 0 0)) := ⟨World.ownsRow_nil _ _ _ _, Below.refl _ _⟩
  have hwl : w.heap.size < W0.heap.size := by rw [hW0]; simp
  have HU : Hid (unitsF ls s.size s = [] ++ unitsF ls s.size s) := rfl
  obtain ⟨R, hR⟩ : ∃ R, unitsF ls s.size s = R := ⟨_, rfl⟩
  rw [hR]
  rw [hR] at HU
  have HU : Hid (R = [] ++ unitsF ls s.size s) := by show _ = _; rw [← hR]; rfl
  clear hl hk hne hone hR
  go_enter Tryd.func13, Tryd.ntmps13
  go_wp2_with fail
  obtain ⟨ii, hii, hi0, hi1, hi2⟩ := info_parts infoInt
  go_loopw [1, 5] (fun v1 v5 wr => ∃ (u : ByteArray) (out : List Int) (n : Nat), v1 = .string u ∧ Hid (UnIn W0 wr out v5) ∧ Hid (R = out ++ unitsF ls n u) ∧ u.size ≤ n ∧ out.length + u.size ≤ s.size) (fun v1 _ _ => strSz v1)
  case atStart => exact ⟨s, [], s.size, rfl, by rw [← hW0]; exact H0, HU, Nat.le_refl _, by simp⟩
  case round =>
    obtain ⟨u, out, n, rfl, HI, HR, hun, hlen⟩ := hrel
    obtain ⟨va, vc, rfl⟩ := ownsRow_form HI.out.own
    clear H0 HU hW0
    have HBW : Hid (Below w.heap.size w wr) := HB0.out.trans (HI.out.below.mono HB0.out.size)
    have hbx : wr.cell? ⟨w.heap.size, 7, none⟩ = some (.slice la ls.length lc) := cellT ((HI.out.below.block w.heap.size hwl).trans HW0.out) rfl
    by_cases hu : 0 < u.size
    · have q0 : decide (0 < u.size) = true := decide_eq_true hu
      have q0I : decide ((0 : Int) < (u.size : Int)) = true := decide_eq_true (by omega)
      have HPX := Lib.hid (fun k (hk : k < ls.length) w' => Tryd.strings_HasPrefix u ls[k] w')
      obtain ⟨wo, rfl⟩ : ∃ wo : World, wo = wr := ⟨_, rfl⟩
      go_wp2_with fail
      go_loopw [6, 15] (fun v6 v15 wx => ∃ k : Nat, k ≤ ls.length ∧ v6 = .int .i64 (bestF ls u k) ∧ v15 = .int .i64 (k : Int) ∧ wo = wx) (fun _ v _ => ls.length - (intOf v).toNat)
      case atStart => exact ⟨0, Nat.zero_le _, rfl, rfl, rfl⟩
      case round =>
        obtain ⟨k, hk, rfl, rfl, hww⟩ := hrel
        obtain rfl : wo = wr := hww
        by_cases hlt : k < ls.length
        · obtain ⟨b, off, rfl, hbl, hcell, _⟩ := HK.out k hlt
          have hc := (HBW.out.cell (p := ⟨b, off + k, none⟩) hbl).trans hcell
          have HST : Hid (bestF ls u (k + 1) = if preB ls[k] u = true ∧ (bestF ls u k < 0 ∨ (ls.getD (bestF ls u k).toNat ⟨#[]⟩).size < ls[k].size) then (k : Int) else bestF ls u k) := by
            show _ = _
            conv => lhs; unfold bestF
            rw [dif_pos hlt]
          have hbd := bestF_lt ls u k
          have HP := Lib.hid (HPX.out k hlt)
          have HPB : Hid (Lib.hasPrefix u.data.toList ls[k].data.toList = preB ls[k] u) := rfl
          rw [HPB.out] at HP
          clear hcell HPB
          generalize bestF ls u k = E at HST hbd ⊢
          cases hp : preB ls[k] u with
          | false =>
            rw [hp] at HP
            have HST : Hid (bestF ls u (k + 1) = E) := by show _ = _; rw [HST.out, if_neg (by rw [hp]; simp)]
            clear hp
            go_wp2_with (go_at_call 22; refine (HP.out _).mono ?_; rintro e w' ⟨rfl, hw⟩; obtain rfl : wo = w' := hw.symm)
            go_roundw
            case rel => exact ⟨k + 1, by omega, by rw [HST.out], by go_num, by first | rfl | trivial⟩
            case measure => simp [intOf]; omega
          | true =>
            rw [hp] at HP
            by_cases hE : E < 0
            · have qE : decide (E < 0) = true := decide_eq_true hE
              have HST : Hid (bestF ls u (k + 1) = k) := by show _ = _; rw [HST.out, if_pos ⟨hp, .inl hE⟩]
              clear hp hE
              go_wp2_with (go_at_call 22; refine (HP.out _).mono ?_; rintro e w' ⟨rfl, hw⟩; obtain rfl : wo = w' := hw.symm)
              go_roundw
              case rel => exact ⟨k + 1, by omega, by rw [HST.out], by go_num, by first | rfl | trivial⟩
              case measure => simp [intOf]; omega
            · have qE : decide (E < 0) = false := decide_eq_false hE
              obtain ⟨j, rfl⟩ : ∃ j : Nat, E = (j : Int) := ⟨E.toNat, by omega⟩
              have hj : j < ls.length := by omega
              obtain ⟨b2, off2, hbo, hbl2, hcell2, _⟩ := HK.out j hj
              simp only [Option.some.injEq, Addr.mk.injEq, and_true] at hbo
              obtain ⟨rfl, rfl⟩ := hbo
              have hc2 := (HBW.out.cell (p := ⟨b, off + j, none⟩) hbl2).trans hcell2
              have hgd : ls.getD ((j : Int)).toNat ⟨#[]⟩ = ls[j] := by rw [Int.toNat_natCast, List.getD, List.getElem?_eq_getElem hj]; rfl
              rw [hgd] at HST
              clear hcell2 hgd hE
              generalize ls[j] = tj at HST hc2
              by_cases hsz : tj.size < ls[k].size
              · have qz : decide (tj.size < ls[k].size) = true := decide_eq_true hsz
                have HST : Hid (bestF ls u (k + 1) = k) := by show _ = _; rw [HST.out, if_pos ⟨hp, .inr hsz⟩]
                clear hp hsz
                go_wp2_with (go_at_call 22; refine (HP.out _).mono ?_; rintro e w' ⟨rfl, hw⟩; obtain rfl : wo = w' := hw.symm)
                go_roundw
                case rel => exact ⟨k + 1, by omega, by rw [HST.out], by go_num, by first | rfl | trivial⟩
                case measure => simp [intOf]; omega
              · have qz : decide (tj.size < ls[k].size) = false := decide_eq_false hsz
                have HST : Hid (bestF ls u (k + 1) = j) := by show _ = _; rw [HST.out, if_neg (fun h => by rcases h.2 with h | h; omega; exact hsz h)]
                clear hp hsz
                go_wp2_with (go_at_call 22; refine (HP.out _).mono ?_; rintro e w' ⟨rfl, hw⟩; obtain rfl : wo = w' := hw.symm)
                go_roundw
                case rel => exact ⟨k + 1, by omega, by rw [HST.out], by go_num, by first | rfl | trivial⟩
                case measure => simp [intOf]; omega
        · obtain rfl : k = ls.length := by omega
          obtain ⟨n, rfl⟩ : ∃ n', n = n' + 1 := ⟨n - 1, by omega⟩
          have hcons : u.data.toList = u[0] :: u.data.toList.drop 1 := mdrop_at (j := 0) hu
          have HUS : Hid (unitsF ls (n + 1) u = if bestF ls u ls.length < 0 then ((200 : Int) + ((u[0].toNat : Nat) : Int)) :: unitsF ls n (u.extract 1 u.size) else bestF ls u ls.length :: unitsF ls n (u.extract (ls.getD (bestF ls u ls.length).toNat ⟨#[]⟩).size u.size)) := by
            show _ = _
            conv => lhs; unfold unitsF
            rw [hcons]
          have hbd := bestF_lt ls u ls.length
          have HPF : Hid (∀ j (hj : j < ls.length), bestF ls u ls.length = (j : Int) → ls[j].size ≤ u.size) := by
            intro j hj e
            obtain ⟨h1, h2⟩ := bestF_pre ls u ls.length (by omega)
            simp only [e, Int.toNat_natCast] at h2
            exact pre_size h2
          clear hcons
          generalize bestF ls u ls.length = E at HUS HPF hbd ⊢
          by_cases hE : E < 0
          · have qE : decide (E < 0) = true := decide_eq_true hE
            have HR2 : Hid (R = (out ++ [200 + (u[0].toNat : Int)]) ++ unitsF ls n (u.extract 1 u.size)) := by show _ = _; rw [HR.out, HUS.out, if_pos hE, List.append_assoc]; rfl
            have hx : (u.extract 1 u.size).size = u.size - 1 := by rw [ByteArray.size_extract]; omega
            have HX := Lib.hid hx
            have HROW := Lib.hid (mown_below HI.out.own (below_alloc' wo (.cells #[.int .i64 (200 + (u[0].toNat : Int))] 3)))
            have HNEW := Lib.hid (mSl_lit wo [.int .i64 (200 + (u[0].toNat : Int))] 3 1 rfl)
            have HZ2 : Hid (W0.heap.size ≤ (wo.alloc (.cells #[.int .i64 (200 + (u[0].toNat : Int))] 3)).heap.size) := by have := HI.out.below.size; show _ ≤ _; simp; omega
            have h255 : (u[0].toNat : Int) < 256 := by have := u[0].toNat_lt; omega
            clear hE HUS hx
            go_wp2_with (at_builtin; refine wpList_append_sl _ rfl _ _ 47 rfl W0.heap.size 3 ii (.int .i64 0) 1 8 Tryd.underlying47 hii hi0 hi1 hi2 rfl (by decide) (.slice va out.length vc) out.length (out.map (Value.int .i64)) rfl HROW.out _ 1 _ rfl HNEW.out (by simp [Value.oneCell']) (by unfold maxLen; omega) (by omega) HZ2.out ?_; intro v3 w3 hown3 hgr3 hat3; obtain ⟨ra, rc, rfl⟩ := ownsRow_form hown3; have HF := Lib.hid (HI.out.push (x := 200 + (u[0].toNat : Int)) hown3 hgr3); clear hown3 hgr3 hat3)
            go_roundw
            case rel => exact ⟨_, _, n, rfl, HF, HR2, by rw [HX.out]; omega, by rw [List.length_append, List.length_singleton, HX.out]; omega⟩
            case measure => show (u.extract 1 u.size).size < u.size; rw [HX.out]; omega
          · have qE : decide (E < 0) = false := decide_eq_false hE
            obtain ⟨j, rfl⟩ : ∃ j : Nat, E = (j : Int) := ⟨E.toNat, by omega⟩
            have hj : j < ls.length := by omega
            obtain ⟨b, off, rfl, hbl, hcell, _⟩ := HK.out j hj
            have hgd : ls.getD ((j : Int)).toNat ⟨#[]⟩ = ls[j] := by rw [Int.toNat_natCast, List.getD, List.getElem?_eq_getElem hj]; rfl
            have hnj := HNE.out _ (List.getElem_mem hj)
            rw [hgd] at HUS
            have HCX : Hid (∀ w', Below W0.heap.size W0 w' → w'.cell? ⟨b, off + j, none⟩ = some (.string ls[j]) ∧ w'.cell? ⟨w.heap.size, 7, none⟩ = some (.slice (some ⟨b, off, none⟩) ls.length lc)) := by
              intro w' hb
              exact ⟨(hb.cell (p := ⟨b, off + j, none⟩) (by show b < _; omega)).trans ((HB0.out.cell (p := ⟨b, off + j, none⟩) hbl).trans hcell), cellT ((hb.block w.heap.size hwl).trans HW0.out) rfl⟩
            have HR2 : Hid (R = (out ++ [(j : Int)]) ++ unitsF ls n (u.extract ls[j].size u.size)) := by show _ = _; rw [HR.out, HUS.out, if_neg hE, List.append_assoc]; rfl
            clear hcell hgd hE HUS
            have hpf := HPF.out j hj rfl
            clear HPF
            generalize ls[j] = tj at HR2 HCX hnj hpf
            have HROW := Lib.hid (mown_below HI.out.own (below_alloc' wo (.cells #[.int .i64 (j : Int)] 3)))
            have HNEW := Lib.hid (mSl_lit wo [.int .i64 (j : Int)] 3 1 rfl)
            have HZ2 : Hid (W0.heap.size ≤ (wo.alloc (.cells #[.int .i64 (j : Int)] 3)).heap.size) := by have := HI.out.below.size; show _ ≤ _; simp; omega
            have HX : Hid ((u.extract tj.size u.size).size = u.size - tj.size) := by show _ = _; rw [ByteArray.size_extract]; omega
            clear hbl hbx
            go_wp2_with (at_builtin; refine wpList_append_sl _ rfl _ _ 47 rfl W0.heap.size 3 ii (.int .i64 0) 1 8 Tryd.underlying47 hii hi0 hi1 hi2 rfl (by decide) (.slice va out.length vc) out.length (out.map (Value.int .i64)) rfl HROW.out _ 1 _ rfl HNEW.out (by simp [Value.oneCell']) (by unfold maxLen; omega) (by omega) HZ2.out ?_; intro v3 w3 hown3 hgr3 hat3; obtain ⟨ra, rc, rfl⟩ := ownsRow_form hown3; have HF := Lib.hid (HI.out.push (x := (j : Int)) hown3 hgr3); obtain ⟨cx0, cx1⟩ := HCX.out _ HF.out.below; clear hown3 hgr3 hat3)
            go_roundw
            case rel => exact ⟨_, _, n, rfl, HF, HR2, by rw [HX.out]; omega, by rw [List.length_append, List.length_singleton, HX.out]; omega⟩
            case measure => show (u.extract tj.size u.size).size < u.size; rw [HX.out]; omega
    · have hu0 : u.size = 0 := by omega
      have q0 : decide (0 < u.size) = false := decide_eq_false hu
      have q0I : decide ((0 : Int) < (u.size : Int)) = false := decide_eq_false (by omega)
      have HRE : Hid (R = out) := by
        show _ = _
        rw [HR.out, unitsF_nil ls n u hu0, List.append_nil]
      have HE : Hid (Is wr (.slice va out.length vc) out ∧ Below w.heap.size w wr) := ⟨by unfold Is; exact Sl.of_own HI.out.own (by decide), HBW.out⟩
      clear HI HR
      go_wp2_with fail
      go_ret
      exact ⟨_, rfl, by rw [HRE.out]; exact HE.out.1, HE.out.2⟩
end Go.Proofs.YtdolpehcfifecaaDoor
