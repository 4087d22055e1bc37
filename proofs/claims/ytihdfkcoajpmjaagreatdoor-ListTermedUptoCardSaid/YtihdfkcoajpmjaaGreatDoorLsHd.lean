/- list.had: what all items have at a route. Conditions: each table within has as many keys as items. -/
import Derived.Test.YtihdfkcoajpmjaaGreatDoorLsA
import Derived.Test.YtihdfkcoajpmjaaGreatDoorLsD
namespace Mh
open Go Go.RowKit
set_option linter.unusedVariables false
def atR (r : ByteArray) (X : V) : V := atL X ((lsSteps r).getD [])
theorem vcs_cells (w : World) (Z : V) (za : Option Addr) (zc : Nat) (zk : Option Addr) (zkc : Nat) (t : TypeId) : ∀ j u, (vcs Z za zc zk zkc)[j]? = some u → (w.alloc (.cells #[.int .i64 Z.kd, .bool Z.bo, .int .i64 Z.nu, .string Z.tx, .slice za Z.its.length zc, .slice zk Z.kys.length zkc] t)).cell? ((⟨w.heap.size, 0, none⟩ : Addr).add j) = some u := by
  intro j u hj
  rw [Addr.add_lit, cell_of_row _ _ _ _ _ _ (heap_alloc_new w _)]
  rw [Nat.zero_add]
  simpa [vcs] using hj
end Mh
namespace Go.Proofs.YtihdfkcoajpmjaaGreatDoor
open Go.RowKit Mh
set_option linter.unusedVariables false
theorem infoValueH : (Tryz.prog.info? 35).map (fun i => (i.zero, i.size, i.bytes)) = some (some (.agg #[.int .i64 0, .bool false, .int .i64 0, .string ⟨#[]⟩, .slice none 0 0, .slice none 0 0]), 6, 88) := by kernel_rfl
/-- Where had's loop stands. -/
structure HadIn (f : V → V) (l : List V) (W0 w1 wr : World) (k : Nat) (v : Value) (rows : List Value) : Prop where
  le : k ≤ l.length
  own : wr.ownsRow w1.heap.size 35 6 v k rows
  at_ : VsAt W0 ((l.take k).map f) rows
  below : Below w1.heap.size w1 wr
theorem _root_.Mh.own_belowL {w w' : World} {base e k : Nat} {v : Value} {n : Nat} {xs : List Value} (h : w.ownsRow base e k v n xs) (hb : Below w.heap.size w w') : w'.ownsRow base e k v n xs := by
  refine ⟨h.1, ?_⟩
  rcases h.2 with h2 | ⟨g, cap, cur, rfl, hbg, hg, h4⟩
  · exact .inl h2
  · exact .inr ⟨g, cap, cur, rfl, hbg, (hb.block g (Array.getElem?_eq_some_iff.1 hg).1).trans hg, h4⟩
theorem _root_.Mh.own_baseL {w : World} {base base' e k n : Nat} {v : Value} {xs : List Value} (h : w.ownsRow base e k v n xs) (hb : base' ≤ base) : w.ownsRow base' e k v n xs := by
  refine ⟨h.1, ?_⟩
  rcases h.2 with h2 | ⟨g, cap, cur, rfl, hbg, hg, h4⟩
  · exact .inl h2
  · exact .inr ⟨g, cap, cur, rfl, Nat.le_trans hb hbg, hg, h4⟩
set_option maxRecDepth 100000 in
set_option maxHeartbeats 8000000 in
theorem had_any (u : Value) (l : List V) (r : ByteArray) (W0 w : World) (hb0 : Below W0.heap.size W0 w) (hr : r.size ≤ maxLen) (hfit : ∀ X ∈ l, X.fit) (hl2 : l.length ≤ 2000) (h : VsL W0 u l) :
    Calls Tryz.prog 21 #[u, .string r] w fun e w' => ∃ (v : Value) (rows : List Value), e = .returned v ∧ w'.ownsRow w.heap.size 35 6 v l.length rows ∧ VsAt W0 (l.map (atR r)) rows ∧ Below w.heap.size w w' := by
  have HST := Lib.hid (lsteps_any r w hr)
  have HB0 := Lib.hid hb0
  obtain ⟨rows0, hS, hT⟩ := h
  obtain ⟨ao, c, rfl, hk⟩ := VsAt.item hS hT
  have HK := Lib.hid hk
  have HF := Lib.hid (fun i (hi : i < l.length) => hfit l[i] (List.getElem_mem hi))
  obtain ⟨ti, hti, ht0, ht1, ht2⟩ := info_parts infoValueH
  clear hS hT hk hr hfit hb0
  go_enter Tryz.func21, Tryz.ntmps21
  go_wp2_with fail
  refine HST.out.mono ?_
  rintro e w1 ⟨sv, rfl, hsu, hb1⟩
  have HB1 := Lib.hid hb1
  have HSU := Lib.hid hsu
  have HAR : Hid (∀ X, atL X ((lsSteps r).getD []) = atR r X) := fun X => rfl
  generalize (lsSteps r).isSome = ok at *
  generalize (lsSteps r).getD [] = st at *
  generalize hfe : atR r = f at *
  have HFE := Lib.hid hfe
  clear hfe
  have H0 : Hid (HadIn f l W0 w1 w1 0 (.slice none 0 0) []) := ⟨Nat.zero_le _, World.ownsRow_nil _ _ _ _, by simp [VsAt], Below.refl _ _⟩
  obtain ⟨sa, sc, hsv, hsl, _⟩ := hsu.item
  subst hsv
  clear hb1 hsu HST
  go_wp2_with fail
  go_loopw [7, 17] (fun v i wr => ∃ (k : Nat) (rows : List Value), i = .int .i64 k ∧ Hid (HadIn f l W0 w1 wr k v rows)) (fun _ i _ => l.length - (intOf i).toNat)
  case atStart => exact ⟨0, [], rfl, H0⟩
  case round =>
    clear H0
    obtain ⟨k, rows, rfl, HI⟩ := hrel
    obtain ⟨va, vc, hv⟩ := ownsRow_form HI.out.own
    subst hv
    have hle := HI.out.le
    have HBW : Hid (Below w.heap.size w wr) := HB1.out.trans (HI.out.below.mono HB1.out.size)
    have HBW0 : Hid (Below W0.heap.size W0 wr) := HB0.out.trans (HBW.out.mono HB0.out.size)
    by_cases hkl : k < l.length
    · obtain ⟨b, off, ja, jc, la, lc, rfl, hlt, hat, hc6⟩ := HK.out k hkl
      obtain ⟨d0, d1, d2, d3, d4, d5⟩ := six_later HBW0.out hlt hc6
      have hBn : Below wr.heap.size wr (wr.alloc (.cells #[.int .i64 l[k].kd, .bool l[k].bo, .int .i64 l[k].nu, .string l[k].tx, .slice ja l[k].its.length jc, .slice la l[k].kys.length lc] 35)) := (Below.refl _ wr).alloc (Nat.le_refl _) _
      have HBn := Lib.hid hBn
      have HCALL := Lib.hid (lat_any l[k] _ (.slice sa st.length sc) st W0 _ (HBW0.out.trans (hBn.mono HBW0.out.size)) (HF.out k hkl) hat (HSU.out.below (HI.out.below.trans (hBn.mono HI.out.below.size))))
      rw [vcs_arr, HAR.out] at HCALL
      have HTK : Hid ((l.take (k + 1)).map f = (l.take k).map f ++ [f l[k]]) := by show _ = _; rw [List.take_succ_eq_append_getElem hkl, List.map_append]; rfl
      generalize f l[k] = Z at *
      clear hBn hc6 hat
      go_wp2_with fail
      refine HCALL.out.mono ?_
      rintro e w2 ⟨ds, rfl, hds, hb2⟩
      obtain ⟨za, zc, zk, zkc, rfl, _⟩ := hds.opened
      have HDS := Lib.hid hds
      have hb12 : Below wr.heap.size wr w2 := HBn.out.trans (hb2.mono HBn.out.size)
      have HROW := Lib.hid (fun ob => (own_belowL HI.out.own hb12).alloc ob)
      have hz1 : w1.heap.size ≤ w2.heap.size := Nat.le_trans HI.out.below.size hb12.size
      have HNX : Hid (∀ (ob : Obj) (v' : Value) (w' : World), w'.ownsRow w1.heap.size 35 6 v' (k + 1) (rows ++ vcs Z za zc zk zkc) → (w2.alloc ob).grownBy w' (Value.slice va k vc).ownBlock → HadIn f l W0 w1 w' (k + 1) v' (rows ++ vcs Z za zc zk zkc)) := fun ob v' w' hown hgr => by
        refine ⟨by omega, hown, ?_, ?_⟩
        · rw [HTK.out]; exact HI.out.at_.append (VsAt.one HDS.out)
        · exact ((HI.out.below.trans (hb12.mono HI.out.below.size)).alloc hz1 ob).grown hgr (by simp; omega) fun q hq => (HI.out.own.lt q hq).1
      rw [vcs_arr]
      clear hds hb2 hb12 HCALL HTK HBn HI d0 d1 d2 d3 d4 d5
      go_wp2_with (at_builtin; go_loud (refine wpList_append_own_at _ rfl _ _ 22 rfl w1.heap.size 35 ti (.agg #[.int .i64 0, .bool false, .int .i64 0, .string ⟨#[]⟩, .slice none 0 0, .slice none 0 0]) 6 88 Tryz.underlying22 hti ht0 ht1 ht2 rfl (by decide) _ _ _ rfl (HROW.out _) ⟨w2.heap.size, 0, none⟩ 1 1 (vcs Z za zc zk zkc) rfl rfl (vcs_cells _ _ _ _ _ _ _) (by simp [Value.oneCell', vcs]) (by unfold maxLen; omega) (by omega) (by simp; omega) ?_); intro v' w' hown' hgr hnil hat; have HI3 := Lib.hid (HNX.out _ _ _ hown' hgr); clear hown' hgr hnil hat)
      go_roundw
      case rel => exact ⟨k + 1, _, by go_num, HI3⟩
      case measure => simp [intOf]; omega
    · have hkk : k = l.length := by omega
      subst hkk
      have HS := Lib.hid (own_baseL HI.out.own HB1.out.size)
      have HT : Hid (VsAt W0 (l.map f) rows) := by have := HI.out.at_; rw [List.take_length] at this; exact this
      clear HI
      go_wp2_with fail
      go_ret
      exact ⟨_, rows, rfl, HS.out, by rw [HFE.out]; exact HT.out, HBW.out⟩
end Go.Proofs.YtihdfkcoajpmjaaGreatDoor
