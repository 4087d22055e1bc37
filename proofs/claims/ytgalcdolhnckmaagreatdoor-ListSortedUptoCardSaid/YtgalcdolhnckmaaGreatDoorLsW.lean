/- list.Sort: all positions in the order of keys. Conditions: at most 1048576 values in an item. -/
import Derived.Test.YtgalcdolhnckmaaGreatDoorLsV
import Derived.Test.YtgalcdolhnckmaaGreatDoorVeil
import Derived.WalkMore
import Derived.Maps.AppendAt
import Derived.Test.YtgalcdolhnckmaaGreatDoorRuAp
import Derived.Deep.RegionLaw
import Derived.RegionTactic
import Derived.Deep.RegionHeld3
namespace Mh
open Go Go.RowKit
set_option linter.unusedVariables false
def kyc (k : Ky) : List Value := [.string k.r, .bool k.d]
/-- A slice of keys. -/
def KsAt (w : World) (v : Value) (ks : List Ky) : Prop := Sl 2 w v ks.length (ks.flatMap kyc) ∧ ∀ k ∈ ks, k.r.size ≤ maxLen
theorem kycs_get : ∀ (l : List Ky) (i : Nat) (h : i < l.length) (j : Nat), j < 2 → (l.flatMap kyc)[i * 2 + j]? = (kyc l[i])[j]? := by
  intro l
  induction l with
  | nil => intro i h; simp at h
  | cons a l ih =>
    intro i h j hj
    rw [List.flatMap_cons]
    have ha : (kyc a).length = 2 := rfl
    cases i with
    | zero => rw [List.getElem?_append_left (by omega)]; simp
    | succ i =>
      rw [List.getElem?_append_right (by omega), show (i + 1) * 2 + j - (kyc a).length = i * 2 + j by omega]
      exact ih i (by simpa using h) j hj
theorem KsAt.keep {w w' : World} {v : Value} {ks : List Ky} (h : KsAt w v ks) (hb : Below w.heap.size w w') : KsAt w' v ks := ⟨h.1.below hb, h.2⟩
theorem KsAt.item {w : World} {v : Value} {l : List Ky} (h : KsAt w v l) :
    ∃ ao c, v = .slice ao l.length c ∧ l.length ≤ maxLen ∧ ∀ k (hk : k < l.length), ∃ b off, ao = some ⟨b, off, none⟩ ∧ l.length ≤ c ∧ c ≤ maxLen ∧ b < w.heap.size ∧
      w.cell? ⟨b, off + k * 2, none⟩ = some (.string l[k].r) ∧ w.cell? ⟨b, off + k * 2 + 1, none⟩ = some (.bool l[k].d) := by
  obtain ⟨ao, c, rfl, hm, hs⟩ := Sl.shp h.1
  refine ⟨ao, c, rfl, hm, fun k hk => ?_⟩
  obtain ⟨b, off, rfl, h1, h2, h3, h4⟩ := hs (by omega)
  have g := fun j (hj : j < 2) => h4 (k * 2 + j) ((kyc l[k])[j]'hj) ((kycs_get l k hk j hj).trans (List.getElem?_eq_getElem (l := kyc l[k]) hj))
  exact ⟨b, off, rfl, h1, h2, h3, g 0 (by omega), by rw [Nat.add_assoc]; exact g 1 (by omega)⟩
/-- What Sort asks. -/
def SortOk (l : List V) (ks : List Ky) : Prop := ItemsOk l ∧ ks.length ≤ 8 ∧ ∀ i (h : i < ks.length), (lsSteps ks[i].r).isSome = true
theorem itemOk_fit {l : List V} (h : ItemsOk l) : ∀ X ∈ l, X.fit := fun X hX => lfOk_fit _ X (Nat.lt_succ_self _) (h.2 X hX).2.2
end Mh
namespace Go.Proofs.YtgalcdolhnckmaaGreatDoor
open Go.RowKit Mh
open Go.Lib (swapperK)
set_option linter.unusedVariables false
theorem infoValues : (Tryz.prog.info? 22).map (fun i => (i.zero, i.size, i.bytes)) = some (some (.slice none 0 0), 1, 24) := by kernel_rfl
theorem infoIntZ : (Tryz.prog.info? 3).map (fun i => (i.zero, i.size, i.bytes)) = some (some (.int .i64 0), 1, 8) := by kernel_rfl
theorem below_alloc' (w : World) (o : Obj) : Below w.heap.size w (w.alloc o) := (Below.refl _ w).alloc (Nat.le_refl _) _
theorem one_cell (w : World) (x0 : Value) (t : TypeId) : ∀ j u, [x0][j]? = some u → (w.alloc (.cells #[x0] t)).cell? ((⟨w.heap.size, 0, none⟩ : Addr).add j) = some u := by
  intro j u hu
  rcases j with _ | j
  · exact cellT (heap_alloc_new w _) hu
  · simp at hu
/-- The values of the first k keys. -/
structure SvIn (l : List V) (ks : List Ky) (w w1 wr : World) (VB k : Nat) (vv : Value) (hs : List Value) : Prop where
  own : wr.ownsRow (VB + 1) 22 1 vv k hs
  box : wr.heap[VB]? = some (.cells #[vv] 44 (0, 0))
  below : Below VB w1 wr
  items : ∀ i (hi : i < k) (hk : i < ks.length), ∃ hv rows, hs[i]? = some hv ∧ Sl 6 (veil (own1 (fun q => decide (q = VB)) vv) wr) hv l.length rows ∧ VsAt w (l.map (atR ks[i].r)) rows
theorem SvIn.hi {l : List V} {ks : List Ky} {w w1 wr : World} {VB k : Nat} {vv : Value} {hs : List Value} (h : SvIn l ks w w1 wr VB k vv hs) : VB < wr.heap.size := (Array.getElem?_eq_some_iff.1 h.box).1
theorem SvIn.ne {l : List V} {ks : List Ky} {w w1 wr : World} {VB k : Nat} {vv : Value} {hs : List Value} (h : SvIn l ks w w1 wr VB k vv hs) : vv.ownBlock ≠ some VB := fun e => by have := (h.own.lt VB e).1; omega
theorem SvIn.step {l : List V} {ks : List Ky} {w w1 wr w4 w5 : World} {VB k base : Nat} {vv v5 hv : Value} {hs rows : List Value} {ob : Obj} (h : SvIn l ks w w1 wr VB k vv hs) (hk : k < ks.length) (hb : Below wr.heap.size wr w4)
    (hrow : w4.ownsRow base 35 6 hv l.length rows) (hbase : wr.heap.size ≤ base) (hT : VsAt w (l.map (atR ks[k].r)) rows)
    (hown : w5.ownsRow (VB + 1) 22 1 v5 (k + 1) (hs ++ [hv])) (hgr : (w4.alloc ob).grownBy w5 vv.ownBlock) (hat : v5.ownBlock = vv.ownBlock ∨ v5.ownBlock = some (w4.alloc ob).heap.size) :
    SvIn l ks w w1 (w5.setCell ⟨VB, 0, none⟩ v5) VB (k + 1) v5 (hs ++ [hv]) := by
  have hVB := h.hi
  have hz4 := hb.size
  have hba : Below w4.heap.size w4 (w4.alloc ob) := (Below.refl _ w4).alloc (Nat.le_refl _) _
  have hb5 : Below wr.heap.size wr (w4.alloc ob) := hb.trans (hba.mono hz4)
  have hK : Keeps (veil (own1 (fun q => decide (q = VB)) vv) w4) (veil (own1 (fun q => decide (q = VB)) v5) (w5.setCell ⟨VB, 0, none⟩ v5)) := by
    refine Keeps.trans (Keeps.trans (Keeps.belows hba) (Keeps.grown hgr hat)) ?_
    refine Keeps.veils (by simp) fun q hq hs => ⟨hs, ?_⟩
    refine heap_setCell_other _ _ _ _ ?_
    have := (own1_false.1 hs).1
    simpa using this
  have hb5v : w5.heap[VB]? = some (.cells #[vv] 44 (0, 0)) := (hgr.block VB (by simp; omega) (fun e => h.ne e.symm)).trans ((hb5.block VB hVB).trans h.box)
  refine ⟨?_, heap_setCell_same _ _ 0 _ _ _ hb5v, ?_, ?_⟩
  · refine ⟨hown.1, ?_⟩
    rcases hown.2 with h2 | ⟨g, cap, cur, rfl, hbg, hg, h4⟩
    · exact .inl h2
    · exact .inr ⟨g, cap, cur, rfl, hbg, (heap_setCell_other w5 ⟨VB, 0, none⟩ g _ (by show g ≠ VB; omega)).trans hg, h4⟩
  · refine Below.setCell (p := ⟨VB, 0, none⟩) ?_ (Nat.le_refl VB) _
    refine (h.below.trans (hb5.mono (by omega))).grown hgr (by have := hb5.size; omega) fun q hq => ?_
    have := (h.own.lt q hq).1
    omega
  · intro i hi hki
    by_cases e : i = k
    · subst e
      refine ⟨hv, rows, ?_, ?_, hT⟩
      · have hl : hs.length = i := by have := h.own.1; omega
        rw [List.getElem?_append_right (by omega), hl, Nat.sub_self]; rfl
      · refine (Sl.of_own_veil hrow (by decide) fun b hbb => own1_false.2 ⟨?_, fun e2 => ?_⟩).keeps hK
        · simp; omega
        · have := (h.own.lt b e2).2; omega
    · obtain ⟨hv', rows', h1, h2, h3⟩ := h.items i (by omega) hki
      refine ⟨hv', rows', ?_, (h2.keeps (Keeps.belows hb)).keeps hK, h3⟩
      rw [List.getElem?_append_left (List.getElem?_eq_some_iff.1 h1).1]; exact h1
def SrtP (l : List V) (ks : List Ky) (w : World) (e : Ending) (w' : World) : Prop := ∃ (v : Value) (r : Int), e = .returned (.tuple #[v, .int .i64 r]) ∧ Below w.heap.size w w' ∧ (r = 0 ↔ SortOk l ks) ∧ (r ≠ 0 → v = .slice none 0 0) ∧ (r = 0 → Sl 1 w' v l.length ((sortK l ks).map encP))
set_option maxRecDepth 100000 in
set_option maxHeartbeats 16000000 in
theorem lsort_any (u kv : Value) (l : List V) (ks : List Ky) (w : World) (hn : ∀ X ∈ l, X.nodes ≤ 1048576) (hu : VsL w u l) (hkv : KsAt w kv ks) : Calls Tryz.prog 5 #[u, kv] w (SrtP l ks w) := by
  have HLF := Lib.hid (fun w' (hb : Below w.heap.size w w') => listFault_any u l hn w' (hu.keep hb))
  have HHD := Lib.hid (fun (hI : ItemsOk l) (r : ByteArray) (hr : r.size ≤ maxLen) w' (hb : Below w.heap.size w w') => had_any u l r w w' hb hr (itemOk_fit hI) hI.1 hu)
  have HKZ := Lib.hid hkv.2
  have hul : ∃ ua uc, u = .slice ua l.length uc := by obtain ⟨rows, hS, _⟩ := hu; obtain ⟨a, c, e, _⟩ := Sl.word hS; exact ⟨a, c, e⟩
  obtain ⟨ua, uc, rfl⟩ := hul
  obtain ⟨ka, kc, rfl, hkl, hkey⟩ := hkv.item
  have HKEY := Lib.hid hkey
  obtain ⟨ti, hti, ht0, ht1, ht2⟩ := info_parts infoValues
  have HB0 : Hid (Below w.heap.size w (w.alloc (.cells #[.slice ka ks.length kc] 23))) := (Below.refl _ w).alloc (Nat.le_refl _) _
  have HX0 : Hid ((w.alloc (.cells #[.slice ka ks.length kc] 23)).heap[w.heap.size]? = some (.cells #[.slice ka ks.length kc] 23 (0, 0))) := heap_alloc_new _ _
  have HZ0 : Hid (w.heap.size < (w.alloc (.cells #[.slice ka ks.length kc] 23)).heap.size) := by show _ < _; simp
  unfold maxLen at hkl
  clear hu hkv hkey hn
  go_enter Tryz.func5, Tryz.ntmps5
  go_wp2_with fail
  refine (HLF.out _ HB0.out).mono ?_
  rintro e w1 ⟨r, rfl, hr, hb1⟩
  have HB1 : Hid (Below w.heap.size w w1) := HB0.out.trans (hb1.mono HB0.out.size)
  have HX1 := Lib.hid ((hb1.block _ HZ0.out).trans HX0.out)
  have HZ1 : Hid (w.heap.size < w1.heap.size) := Nat.lt_of_lt_of_le HZ0.out hb1.size
  clear hb1 HB0 HX0 HZ0 HLF
  by_cases hr0 : r = 0
  case neg =>
    have q : (r != 0) = true := by rw [bne_iff_ne]; exact hr0
    have HN : Hid (¬ SortOk l ks) := fun g => hr0 (hr.2 g.1)
    have HR := Lib.hid hr0
    clear hr hr0
    go_wp2_with fail
    go_ret2
    exact ⟨_, r, rfl, HB1.out, ⟨fun h => absurd h HR.out, fun g => absurd g HN.out⟩, fun _ => rfl, fun h => absurd h HR.out⟩
  subst hr0
  have HIO := Lib.hid (hr.1 rfl)
  have hl2 := HIO.out.1
  have c1 := cellT (i := 0) HX1.out rfl
  clear hr
  by_cases h8 : 8 < ks.length
  · have q : decide ((8 : Int) < (ks.length : Int)) = true := decide_eq_true (by omega)
    have q' : decide (8 < ks.length) = true := decide_eq_true h8
    have HN : Hid (¬ SortOk l ks) := fun g => by have := g.2.1; omega
    clear h8
    go_wp2_with fail
    go_ret2
    exact ⟨_, 4, rfl, HB1.out, ⟨fun h => absurd h (by decide), fun g => absurd g HN.out⟩, fun _ => rfl, fun h => absurd h (by decide)⟩
  have q : decide ((8 : Int) < (ks.length : Int)) = false := decide_eq_false (by omega)
  have q' : decide (8 < ks.length) = false := decide_eq_false h8
  have hk8 : ks.length ≤ 8 := by omega
  have HS0 : Hid (SvIn l ks w w1 (w1.alloc (.cells #[.slice none 0 0] 44)) w1.heap.size 0 (.slice none 0 0) []) := ⟨World.ownsRow_nil _ _ _ _, heap_alloc_new _ _, (Below.refl _ w1).alloc (Nat.le_refl _) _, fun i hi => by omega⟩
  have HXK : Hid (∀ wr : World, Below w1.heap.size w1 wr → wr.cell? ⟨w.heap.size, 0, none⟩ = some (.slice ka ks.length kc)) := fun wr hb => cellT ((hb.block _ HZ1.out).trans HX1.out) rfl
  have c2 := HXK.out (w1.alloc (.cells #[.slice none 0 0] 44)) ((Below.refl _ w1).alloc (Nat.le_refl _) _)
  clear h8
  go_wp2_with fail
  clear q q' c1 c2
  go_loopw [24] (fun i wr => ∃ (k : Nat) (va : Option Addr) (vc : Nat) (hs : List Value), i = .int .i64 k ∧ k ≤ ks.length ∧ Hid (SvIn l ks w w1 wr w1.heap.size k (.slice va k vc) hs) ∧ Hid (∀ i (hi : i < k) (hk : i < ks.length), (lsSteps ks[i].r).isSome = true)) (fun i _ => ks.length - (intOf i).toNat)
  case atStart => exact ⟨0, none, 0, [], rfl, Nat.zero_le _, HS0, fun i hi => by omega⟩
  case round =>
    clear HS0
    obtain ⟨k, va, vc, hs, rfl, hk, HI, HST⟩ := hrel
    obtain ⟨wo, rfl⟩ : ∃ wo : World, wo = wr := ⟨_, rfl⟩
    have HBW : Hid (Below w.heap.size w wo) := HB1.out.trans (HI.out.below.mono HB1.out.size)
    by_cases hkl : k < ks.length
    · have hzz : True := trivial
      clear hzz
      -- S1
      obtain ⟨kb, ko, rfl, hk1, hk2, hk3, d0, d1⟩ := HKEY.out k hkl
      have e0 := (HBW.out.cell (p := ⟨kb, ko + k * 2, none⟩) hk3).trans d0
      have e1 := (HBW.out.cell (p := ⟨kb, ko + k * 2 + 1, none⟩) hk3).trans d1
      have hrz := HKZ.out ks[k] (List.getElem_mem hkl)
      have hbx : Below wo.heap.size wo (wo.alloc (.cells #[.string ks[k].r, .bool ks[k].d] 46)) := (Below.refl _ wo).alloc (Nat.le_refl _) _
      have HBX := Lib.hid hbx
      have HXB : Hid ((wo.alloc (.cells #[.string ks[k].r, .bool ks[k].d] 46)).heap[wo.heap.size]? = some (.cells #[.string ks[k].r, .bool ks[k].d] 46 (0, 0))) := heap_alloc_new _ _
      have HXZ : Hid (wo.heap.size < (wo.alloc (.cells #[.string ks[k].r, .bool ks[k].d] 46)).heap.size) := by show _ < _; simp
      have HSP := Lib.hid (lsteps_any ks[k].r (wo.alloc (.cells #[.string ks[k].r, .bool ks[k].d] 46)) hrz)
      have HH := Lib.hid (fun w' hb => HHD.out HIO.out ks[k].r hrz w' hb)
      have HNO : Hid (SortOk l ks → (lsSteps ks[k].r).isSome = true) := fun g => g.2.2 k hkl
      have HST2 : Hid ((lsSteps ks[k].r).isSome = true → ∀ i (hi : i < k + 1) (hk : i < ks.length), (lsSteps ks[i].r).isSome = true) := fun h i hi hki => by
        by_cases e : i = k
        · subst e; exact h
        · exact HST.out i (by omega) hki
      have HSTEP := Lib.hid (fun (w4 w5 : World) base v5 hv rows ob hb hrow hbase hT hown hgr hat => HI.out.step (w4 := w4) (w5 := w5) (base := base) (v5 := v5) (hv := hv) (rows := rows) (ob := ob) hkl hb hrow hbase hT hown hgr hat)
      have hvb := HI.out.hi
      have HBOX := Lib.hid HI.out.box
      have HOWN := Lib.hid HI.out.own
      have HNE := Lib.hid HI.out.ne
      clear d0 d1 hk3 hbx HI HST
      unfold StpP at HSP
      generalize hok : (lsSteps ks[k].r).isSome = ok at *
      clear hok
      generalize ks[k] = kk at *
      unfold maxLen at hk2
      go_wp2_with fail
      refine HSP.out.mono ?_
      rintro e w3 ⟨sv, rfl, _, hb3⟩
      have HB3 := Lib.hid (HBX.out.trans (hb3.mono HBX.out.size))
      have HX3 := Lib.hid ((hb3.block _ HXZ.out).trans HXB.out)
      have hz3 : wo.heap.size < w3.heap.size := Nat.lt_of_lt_of_le HXZ.out hb3.size
      have x0 : w3.cell? ⟨wo.heap.size, 0, none⟩ = some (.string kk.r) := cellT HX3.out rfl
      have g3 : w3.cell? ⟨w1.heap.size, 0, none⟩ = some (.slice va k vc) := cellT ((HB3.out.block _ hvb).trans HBOX.out) rfl
      clear hb3 HSP HXB HXZ e0 e1
      cases ok with
      | false =>
        have HN : Hid (¬ SortOk l ks) := fun g => by have := HNO.out g; cases this
        have HBE : Hid (Below w.heap.size w w3) := HBW.out.trans (HB3.out.mono HBW.out.size)
        clear HNO HST2 HSTEP HH
        go_wp2_with fail
        go_ret2
        exact ⟨_, 3, rfl, HBE.out, ⟨fun h => absurd h (by decide), fun g => absurd g HN.out⟩, fun _ => rfl, fun h => absurd h (by decide)⟩
      | true =>
        have HST3 := Lib.hid (HST2.out rfl)
        have HH3 := Lib.hid (HH.out w3.drew (HBW.out.trans (HB3.out.drew.mono HBW.out.size)))
        clear HNO HST2 HH
        go_wp2_with fail
        go_region_law (first | (refine step_append_at _ rfl _ _ 44 rfl (w1.heap.size + 1) 22 ti (.slice none 0 0) 1 24 Tryz.underlying44 hti ht0 ht1 ht2 rfl (by decide) _ _ _ rfl (hown4v.alloc _) ⟨w4.heap.size, 0, none⟩ 1 1 [.slice ha l.length hc] rfl rfl (one_cell _ _ _) (by simp [Value.oneCell']) (by unfold maxLen; omega) (by omega) (Nat.le_trans hz41 (by simp)) ?_; intro v5 w5 hown5 hgr5 hat5; obtain ⟨a5, c5, rfl⟩ := ownsRow_form hown5; have h5 : w5.heap[w1.heap.size]? = some (.cells #[.slice va k vc] 44 (0, 0)) := (hgr5.block _ (by simp; omega) (fun e => HNE.out e.symm)).trans ((heap_alloc_old _ _ (by omega)).trans HV4.out); have g5 : w5.cell? ⟨w1.heap.size, 0, none⟩ = some (.slice va k vc) := cellT h5 rfl; have f5 : w5.frozen? ⟨w1.heap.size, 0, none⟩ = false := frozenT h5) | (go_simp; go_at_call 12; (with_reducible refine HH3.out.mono ?_); rintro e w4 ⟨hv4, rows4, rfl, hown4, hT4, hb4⟩; obtain ⟨ha, hc, rfl⟩ := ownsRow_form hown4; have HB4 : Hid (Below wo.heap.size wo w4) := HB3.out.drew.trans (hb4.mono HB3.out.size); have HV4 : Hid (w4.heap[w1.heap.size]? = some (.cells #[.slice va k vc] 44 (0, 0))) := (HB4.out.block _ hvb).trans HBOX.out; have hz41 : w1.heap.size + 1 ≤ w4.heap.size := Nat.le_trans (Nat.succ_le_of_lt hvb) HB4.out.size; have hvb4 : w1.heap.size < w4.heap.size := hz41; have g4 : w4.cell? ⟨w1.heap.size, 0, none⟩ = some (.slice va k vc) := cellT HV4.out rfl; have hown4v := own_belowL HOWN.out HB4.out; have HO4 := Lib.hid hown4; have HT4 := Lib.hid hT4; clear hown4 hT4 hb4))
        all_goals
          have HN := Lib.hid (HSTEP.out w4 w5 _ _ _ _ _ HB4.out HO4.out (Nat.le_of_lt hz3) HT4.out hown5 hgr5 hat5)
          clear hown5 hgr5 hat5 HSTEP
          go_wp2_with fail
          go_roundw
          case rel => exact ⟨k + 1, a5, c5, _, by go_num, by omega, HN, HST3⟩
          case measure => simp [intOf]; omega
      -- E1
    · have hzz : True := trivial
      clear hzz
      -- S2
      have hke : k = ks.length := by omega
      subst hke
      have HOKS : Hid (SortOk l ks) := ⟨HIO.out, hk8, fun i h => HST.out i h h⟩
      have hKB : wo.heap[w.heap.size]? = some (.cells #[.slice ka ks.length kc] 23 (0, 0)) := (HI.out.below.block _ HZ1.out).trans HX1.out
      have HKBC : Hid (wo.heap[w.heap.size]? = some (.cells #[.slice ka ks.length kc] 23 (0, 0))) := hKB
      have HSM : Hid (SortMem wo w.heap.size w1.heap.size l ks) := by
        refine ⟨⟨ka, kc, cellT hKB rfl, (Array.getElem?_eq_some_iff.1 hKB).1, fun i hi => ?_⟩, ⟨va, vc, cellT HI.out.box rfl, HI.out.hi, fun i hi => ?_⟩⟩
        · obtain ⟨b, off, h1, h2, h3, h4, h5, h6⟩ := HKEY.out i hi
          exact ⟨b, off, h1, h2, h3, Nat.lt_of_lt_of_le h4 HBW.out.size, (HBW.out.cell (p := ⟨b, off + i * 2, none⟩) h4).trans h5, (HBW.out.cell (p := ⟨b, off + i * 2 + 1, none⟩) h4).trans h6⟩
        · obtain ⟨hv, rows, h1, h2, h3⟩ := HI.out.items i hi hi
          have hsl := Sl.of_own HI.out.own (by decide)
          rcases hsl.2 with ⟨h0, _⟩ | ⟨b, off, c, he, g1, g2, g3, g4, g5⟩
          · omega
          · simp only [Value.slice.injEq, true_and] at he
            obtain ⟨rfl, rfl⟩ := he
            exact ⟨b, off, hv, rows, rfl, g2, g3, g4, g5 i hv h1, h2.keeps (Keeps.bare _ _), h3.keep HBW.out⟩
      obtain ⟨ii, hii, hi0, hi1, hi2⟩ := info_parts infoIntZ
      have HO0 : Hid ((wo.alloc (.cells #[.slice none 0 0] 25)).heap[wo.heap.size]? = some (.cells #[.slice none 0 0] 25 (0, 0))) := heap_alloc_new _ _
      have HO1 : Hid ((wo.alloc (.cells #[.slice none 0 0] 25)).ownsRow (wo.heap.size + 1) 3 1 (.slice none 0 0) 0 ((List.range 0).map encP)) := World.ownsRow_nil _ _ _ _
      have HO2 : Hid (Below wo.heap.size wo (wo.alloc (.cells #[.slice none 0 0] 25))) := below_alloc' _ _
      clear HI HST hKB HKEY HKZ HHD HXK
      go_wp2_with fail
      go_loopw [46] (fun i wr => ∃ (j : Nat) (oa : Option Addr) (oc : Nat), i = .int .i64 j ∧ j ≤ l.length ∧ Hid (wr.heap[wo.heap.size]? = some (.cells #[.slice oa j oc] 25 (0, 0))) ∧ Hid (wr.ownsRow (wo.heap.size + 1) 3 1 (.slice oa j oc) j ((List.range j).map encP)) ∧ Hid (Below wo.heap.size wo wr)) (fun i _ => l.length - (intOf i).toNat)
      case atStart => exact ⟨0, none, 0, rfl, Nat.zero_le _, HO0, HO1, HO2⟩
      case round =>
        clear HO0 HO1 HO2
        obtain ⟨j, oa, oc, rfl, hj, HO0, HO1, HO2⟩ := hrel
        have c0 := cellT (i := 0) HO0.out rfl
        have hzo : wo.heap.size < wr.heap.size := (Array.getElem?_eq_some_iff.1 HO0.out).1
        have hne : (Value.slice oa j oc).ownBlock ≠ some wo.heap.size := fun e => by have := (HO1.out.lt _ e).1; omega
        have HNE := Lib.hid hne
        by_cases hjl : j < l.length
        · have HROW := Lib.hid (fun ob => HO1.out.alloc ob)
          have HBK : Hid (∀ (ob : Obj) (w' : World), (wr.alloc ob).grownBy w' (Value.slice oa j oc).ownBlock → w'.heap[wo.heap.size]? = some (.cells #[.slice oa j oc] 25 (0, 0))) := fun ob w' hgr => (hgr.block _ (by simp; omega) (fun e => HNE.out e.symm)).trans ((heap_alloc_old _ _ hzo).trans HO0.out)
          have HNX : Hid (∀ (ob : Obj) (v' : Value) (w' : World), w'.ownsRow (wo.heap.size + 1) 3 1 v' (j + 1) ((List.range j).map encP ++ [.int .i64 (j : Nat)]) → (wr.alloc ob).grownBy w' (Value.slice oa j oc).ownBlock →
              (w'.setCell ⟨wo.heap.size, 0, none⟩ v').heap[wo.heap.size]? = some (.cells #[v'] 25 (0, 0)) ∧ (w'.setCell ⟨wo.heap.size, 0, none⟩ v').ownsRow (wo.heap.size + 1) 3 1 v' (j + 1) ((List.range (j + 1)).map encP) ∧ Below wo.heap.size wo (w'.setCell ⟨wo.heap.size, 0, none⟩ v')) := fun ob v' w' hown hgr => by
            refine ⟨heap_setCell_same _ _ 0 _ _ _ (HBK.out ob w' hgr), ?_, ?_⟩
            · rw [List.range_succ, List.map_append]
              refine ⟨hown.1, ?_⟩
              rcases hown.2 with h2 | ⟨g, cap, cur, rfl, hbg, hg, h4⟩
              · exact .inl h2
              · exact .inr ⟨g, cap, cur, rfl, hbg, (heap_setCell_other w' ⟨wo.heap.size, 0, none⟩ g _ (by show g ≠ wo.heap.size; omega)).trans hg, h4⟩
            · refine Below.setCell (p := ⟨wo.heap.size, 0, none⟩) ?_ (Nat.le_refl _) _
              exact (HO2.out.alloc (by omega) ob).grown hgr (by simp; omega) fun q hq => by have := (HO1.out.lt q hq).1; omega
          clear hne
          go_wp2_with (at_builtin; go_loud (refine wpList_append_own_at _ rfl _ _ 25 rfl (wo.heap.size + 1) 3 ii (.int .i64 0) 1 8 Tryz.underlying25 hii hi0 hi1 hi2 rfl (by decide) _ _ _ rfl (HROW.out _) ⟨wr.heap.size, 0, none⟩ 1 1 [.int .i64 (j : Nat)] rfl rfl (one_cell _ _ _) (by simp [Value.oneCell']) (by unfold maxLen; omega) (by omega) (by simp; omega) ?_); intro v' w' hown' hgr hnil hat; obtain ⟨a9, c9, rfl⟩ := ownsRow_form hown'; have hbd9 := HBK.out _ w' hgr; have g5 : w'.cell? ⟨wo.heap.size, 0, none⟩ = some (.slice oa j oc) := cellT hbd9 rfl; have f5 : w'.frozen? ⟨wo.heap.size, 0, none⟩ = false := frozenT hbd9; have HN := Lib.hid (HNX.out _ _ w' hown' hgr); clear hown' hgr hnil hat hbd9)
          go_roundw
          case rel => exact ⟨j + 1, a9, c9, by go_num, by omega, HN.out.1, HN.out.2.1, HN.out.2.2⟩
          case measure => simp [intOf]; omega
        · have hje : j = l.length := by omega
          subst hje
          have HSK := Lib.hid (stableK l ks hk8 hl2 wo wr w.heap.size w1.heap.size wo.heap.size HSM.out HO2.out (.slice oa l.length oc) HO1.out HO0.out (Nat.le_refl _))
          have HBR : Hid (Below w.heap.size w wr) := HBW.out.trans (HO2.out.mono HBW.out.size)
          have hww : w.heap.size ≤ wo.heap.size := HBW.out.size
          clear hne HO0 HO1
          go_wp2_with fail
          refine HSK.out.mono ?_
          rintro e w9 ⟨rfl, hsl9, hb9, hbx9⟩
          have c9 := cellT (i := 0) hbx9 rfl
          have HS9 := Lib.hid hsl9
          have HB9 : Hid (Below w.heap.size w w9) := HBR.out.trans (hb9.mono hww)
          clear hsl9 hb9 hbx9 c0
          go_wp2_with fail
          go_ret2
          exact ⟨_, 0, rfl, HB9.out, ⟨fun _ => HOKS.out, fun _ => rfl⟩, fun h => absurd rfl h, fun _ => HS9.out⟩
      -- E2
end Go.Proofs.YtgalcdolhnckmaaGreatDoor
