/- mastkeep1.at, awakeShip; cmp.Less, slices.IsSorted, slices.Contains of strings; slices.Clone of outputs. Conditions: as stated. -/
import Derived.Test.YtdnajcohdhkidaaDoorShI
import Derived.Test.YtdnajcohdhkidaaDoorApRd
import Derived.BigQuiet
import Derived.Lib.SliceRun
namespace Mh
open Go Go.RowKit
set_option linter.unusedVariables false
theorem look_first {l : List O} {name : ByteArray} {k : Nat} (hk : k < l.length) (h : l[k].p = name) (h0 : ∀ j (hj : j < l.length), j < k → l[j].p ≠ name) : lookO l name = some l[k].b := by
  unfold lookO
  have : (l.find? fun o => decide (o.p = name)) = some l[k] := by
    rw [List.find?_eq_some_iff_getElem]
    exact ⟨by simpa using h, k, hk, rfl, fun j hj => by simpa using h0 j (by omega) hj⟩
  rw [this]; rfl
def lookB (l : List O) (s : ByteArray) : ByteArray := (lookO l s).getD ⟨#[]⟩
end Mh
namespace Go.Proofs.YtdnajcohdhkidaaDoor
open Go.RowKit Mh Go.Sort
set_option linter.unusedVariables false
set_option maxRecDepth 100000 in
set_option maxHeartbeats 4000000 in
theorem at_any (v : Value) (l : List O) (hn : l.length ≤ 480) (name : ByteArray) (w : World) (hv : OsAt w v l) :
    Calls Tryd.prog 8 #[v, .string name] w fun e w' => e = .returned (.tuple #[.string (lookB l name), .bool (lookO l name).isSome]) ∧ Below w.heap.size w w' := by
  obtain ⟨ao, c, rfl, hlen, hat⟩ := hv.open
  have HAT := Lib.hid hat
  unfold maxLen at hlen
  clear hv hat
  go_enter Tryd.func8, Tryd.ntmps8
  go_wp2_with fail
  go_loopw [10] (fun i wr => ∃ k : Nat, k ≤ l.length ∧ i = .int .i64 k ∧ Hid (∀ j (hj : j < l.length), j < k → l[j].p ≠ name) ∧ Hid (Below w.heap.size w wr)) (fun i wr => l.length - (intOf i).toNat)
  case atStart => exact ⟨0, Nat.zero_le _, rfl, fun j hj h => by omega, Below.refl _ _⟩
  case round =>
    obtain ⟨k, hk, rfl, HA, HB⟩ := hrel
    by_cases hkl : k < l.length
    · obtain ⟨b, off, rfl, hc1, hc2, hlt, hc, hps, hbs⟩ := HAT.out k hkl
      obtain ⟨d0, d1⟩ := two_later HB.out hlt hc
      have HBW : Hid (Below w.heap.size w (wr.alloc (.cells #[.string l[k].p, .string l[k].b] 30))) := HB.out.trans ((below_alloc _ _).mono HB.out.size)
      have HX1 : Hid ((wr.alloc (.cells #[.string l[k].p, .string l[k].b] 30)).heap[wr.heap.size]? = some (.cells #[.string l[k].p, .string l[k].b] 30 (0, 0))) := heap_alloc_new _ _
      obtain ⟨e0, e1⟩ := pair_of_block HX1.out
      clear hc
      by_cases hnm : l[k].p = name
      · have HL := Lib.hid (look_first hkl hnm HA.out)
        have heq : (l[k].p.toList == name.toList) = true := by rw [hnm]; simp
        clear hnm
        go_wp2_with fail
        go_ret2
        exact ⟨by unfold lookB; rw [HL.out]; rfl, HBW.out⟩
      · have HA2 : Hid (∀ j (hj : j < l.length), j < k + 1 → l[j].p ≠ name) := fun j hj h => by
          by_cases e : j = k
          · subst e; exact hnm
          · exact HA.out j hj (by omega)
        have heq : (l[k].p.toList == name.toList) = false := str_neO hnm
        clear hnm
        go_wp2_with fail
        go_roundw
        case rel => exact ⟨k + 1, by omega, by go_num, HA2, HBW.out⟩
        case measure => simp [intOf]; omega
    · have HL : Hid (lookO l name = none) := look_none.2 fun o ho => by
        obtain ⟨j, hj, rfl⟩ := List.mem_iff_getElem.1 ho
        exact HA.out j hj (by omega)
      go_wp2_with fail
      go_ret2
      exact ⟨by unfold lookB; rw [HL.out]; rfl, HB.out⟩
theorem awakeShip_any (m : Int) (w : World) (hm : w.cell? ⟨0, 0, none⟩ = some (.int .i64 m)) : Calls Tryd.prog 4 #[] w fun e w' => e = .returned (.bool true) ∧ Below w.heap.size w w' := by
  have hmz : 0 < w.heap.size := World.block_lt_of_cell? w _ hm
  have HB : Hid (Below w.heap.size w (w.alloc (.cells #[.string ⟨#[]⟩, .string ⟨#[]⟩] 30))) := below_alloc _ _
  have hX : (w.alloc (.cells #[.string ⟨#[]⟩, .string ⟨#[]⟩] 30)).heap[w.heap.size]? = some (.cells #[.string ⟨#[]⟩, .string ⟨#[]⟩] 30 (0, 0)) := heap_alloc_new _ _
  have hO : OsAt (w.alloc (.cells #[.string ⟨#[]⟩, .string ⟨#[]⟩] 30)) (.slice (some ⟨w.heap.size, 0, none⟩) 1 1) [⟨⟨#[]⟩, ⟨#[]⟩⟩] := by
    refine ⟨⟨rfl, .inr ⟨w.heap.size, 0, 1, rfl, by decide, by decide, by decide, by simp, fun i u hu => ?_⟩⟩, fun o ho => ?_⟩
    · rw [Nat.zero_add, cell_of_row _ _ _ _ _ _ hX]
      simpa [rowsO] using hu
    · simp only [List.mem_singleton] at ho
      subst ho
      exact ⟨Nat.zero_le _, Nat.zero_le _⟩
  have HNO : Hid (¬ Outs [⟨⟨#[]⟩, ⟨#[]⟩⟩]) := fun h => by
    have := (h.2 0 (by decide)).1
    exact absurd this (by decide)
  have HC := Lib.hid (checkOuts_any _ _ m _ ((HB.out.cell hmz).trans hm) hO)
  clear hX hO hm
  go_enter Tryd.func4, Tryd.ntmps4
  go_wp2_with fail
  refine HC.out.mono ?_
  rintro e w2 ⟨r, rfl, hr, hb⟩
  have hq : (r != 0) = true := by rw [bne_iff_ne]; exact fun h => HNO.out (hr.1 h)
  have HB2 : Hid (Below w.heap.size w w2) := HB.out.trans (hb.mono HB.out.size)
  clear hr hb
  go_wp2_with fail
  go_ret
  exact ⟨rfl, HB2.out⟩
theorem nan_any (a : ByteArray) (w : World) : Calls Tryd.prog 39 #[.string a] w fun e w' => e = .returned (.bool false) ∧ w' = w := by
  go_enter Tryd.func39, Tryd.ntmps39
  go_wp2_with fail
  go_ret
  exact ⟨by simp, rfl⟩
theorem less_any (a b : ByteArray) (w : World) : Calls Tryd.prog 27 #[.string a, .string b] w fun e w' => e = .returned (.bool (kl a b)) ∧ w' = w := by
  have HN := Lib.hid (fun s w' => nan_any s w')
  go_enter Tryd.func27, Tryd.ntmps27
  go_wp2_with (go_at_call 39; refine (HN.out _ _).mono ?_; rintro e w' ⟨rfl, rfl⟩)
  go_ret
  exact ⟨by rw [← bl_kl]; rfl, rfl⟩
def stB (x : List UInt8) : ByteArray := ⟨x.toArray⟩
theorem contains_any (v : Value) (ss : List (List UInt8)) (x : ByteArray) (hn : ss.length ≤ 1000) (w : World) (h : Sl 1 w v ss.length (ss.map encStr)) :
    Calls Tryd.prog 9 #[v, .string x] w fun e w' => e = .returned (.bool (decide (x.data.toList ∈ ss))) ∧ w' = w := by
  obtain ⟨ao, c, rfl, hm, hc⟩ := h.shp
  by_cases h0 : ss.length = 0
  · have hs : ss = [] := List.length_eq_zero_iff.1 h0
    subst hs
    refine (Tryd.slices_Contains_string_empty ao c x w).mono ?_
    rintro e w' ⟨rfl, rfl⟩
    exact ⟨by simp, rfl⟩
  · obtain ⟨b, off, rfl, _, _, _, hcell⟩ := hc (by omega)
    have hl : (ss.map stB).length = ss.length := by simp
    refine (Tryd.slices_Contains_string b off ss.length c (ss.map stB) x w (by rw [hl]; exact Nat.le_refl _) (by omega) (fun j hj => ?_)).mono ?_
    · have hj' : j < ss.length := by rw [← hl]; exact hj
      refine hcell j _ ?_
      rw [List.getElem?_map, List.getElem?_eq_getElem hj', List.getD_eq_getElem?_getD, List.getElem?_map, List.getElem?_eq_getElem hj']
      rfl
    · rintro e w' ⟨rfl, rfl⟩
      refine ⟨?_, rfl⟩
      rw [← hl, List.take_length]
      have : Lib.containsS (ss.map stB) x = decide (x.data.toList ∈ ss) := by
        rw [Bool.eq_iff_iff, Lib.containsS_iff, decide_eq_true_eq, List.mem_map]
        constructor
        · rintro ⟨y, hy, rfl⟩; exact hy
        · intro h; exact ⟨_, h, bytes_eq rfl⟩
      rw [this]
set_option maxRecDepth 100000 in
set_option maxHeartbeats 4000000 in
theorem isSorted_any (v : Value) (ss : List (List UInt8)) (hn : ss.length ≤ 1000) (hs : ∀ i (hi : i + 1 < ss.length), kl (stB ss[i + 1]) (stB ss[i]) = false) (w : World) (h : Sl 1 w v ss.length (ss.map encStr)) :
    Calls Tryd.prog 11 #[v] w fun e w' => e = .returned (.bool true) ∧ Below w.heap.size w w' := by
  obtain ⟨ao, c, rfl, hm, hc⟩ := h.shp
  have HC : Hid (∀ i (hi : i < ss.length), ∃ b off, ao = some ⟨b, off, none⟩ ∧ ss.length ≤ c ∧ c ≤ maxLen ∧ b < w.heap.size ∧ w.cell? ⟨b, off + i, none⟩ = some (.string (stB ss[i]))) := fun i hi => by
    obtain ⟨b, off, h1, h2, h3, h4, h5⟩ := hc (by omega)
    exact ⟨b, off, h1, h2, h3, h4, h5 i _ (by rw [List.getElem?_map, List.getElem?_eq_getElem hi]; rfl)⟩
  have HS := Lib.hid hs
  have HL := Lib.hid (fun a b w' => less_any a b w')
  clear h hc hm hs
  go_enter Tryd.func11, Tryd.ntmps11
  go_wp2_with fail
  go_loopw [3] (fun i wr => ∃ k : Int, -1 ≤ k ∧ k ≤ (ss.length : Int) - 1 ∧ i = .int .i64 k ∧ Hid (Below w.heap.size w wr)) (fun i wr => (intOf i).toNat)
  case atStart => exact ⟨(ss.length : Int) - 1, by omega, by omega, rfl, Below.refl _ _⟩
  case round =>
    obtain ⟨k, hk1, hk2, rfl, HB⟩ := hrel
    by_cases hk : 0 < k
    · obtain ⟨j, rfl⟩ : ∃ j : Nat, k = (j : Int) + 1 := ⟨(k - 1).toNat, by omega⟩
      have hj : j + 1 < ss.length := by omega
      obtain ⟨b, off, rfl, hc1, hc2, hlt, hca⟩ := HC.out j (by omega)
      obtain ⟨b', off', hbo, _, _, _, hcb⟩ := HC.out (j + 1) hj
      simp only [Option.some.injEq, Addr.mk.injEq, and_true] at hbo
      obtain ⟨rfl, rfl⟩ := hbo
      have d0 := (HB.out.cell (p := ⟨b, off + j, none⟩) hlt).trans hca
      have d1 := (HB.out.cell (p := ⟨b, off + (j + 1), none⟩) hlt).trans hcb
      have HLS := Lib.hid (HS.out j hj)
      have HQ : Hid (∀ w', Calls Tryd.prog 27 #[.string (stB ss[j + 1]), .string (stB ss[j])] w' fun e w'' => e = .returned (.bool false) ∧ w'' = w') := fun w' => by
        have h := HL.out (stB ss[j + 1]) (stB ss[j]) w'
        rw [HLS.out] at h
        exact h
      unfold maxLen at hc2
      generalize stB ss[j + 1] = s1 at *
      generalize stB ss[j] = s0 at *
      clear hca hcb
      go_upto_region 4 with fail
      go_quiet ((go_at_call 27; refine Calls.quiet_of_same (HQ.out _)))
      go_wp2_with fail
      exact ⟨⟨j, by omega, by omega, rfl, below_drewN HB.out _⟩, by simp [intOf]⟩
    · go_wp2_with fail
      go_ret
      exact ⟨rfl, HB.out⟩
theorem infoOut : (Tryd.prog.info? 30).map (fun i => (i.zero, i.size, i.bytes)) = some (some (.agg #[.string ⟨#[]⟩, .string ⟨#[]⟩]), 2, 32) := by kernel_rfl
theorem rowsO_cells (l : List O) : ∀ u ∈ rowsO l, u.oneCell' = true := by
  induction l with
  | nil => intro u hu; simp [rowsO] at hu
  | cons o l ih =>
    intro u hu
    simp only [rowsO, List.mem_cons] at hu
    rcases hu with rfl | rfl | hu
    · rfl
    · rfl
    · exact ih u hu
set_option maxRecDepth 100000 in
set_option maxHeartbeats 4000000 in
theorem clone_any (v : Value) (l : List O) (hn : l.length ≤ 480) (w : World) (hv : OsAt w v l) :
    Calls Tryd.prog 6 #[v] w fun e w' => ∃ v', e = .returned v' ∧ Hid (w'.ownsRow w.heap.size 30 2 v' l.length (rowsO l) ∧ Below w.heap.size w w') := by
  obtain ⟨ao, c, rfl, hm, hat⟩ := hv.open
  have HSL := Lib.hid hv.1
  obtain ⟨oi, hoi, hoz0, hoz1, hoz2⟩ := info_parts infoOut
  have hnil : ∀ (w : World) (a : Option Addr) (n c n' c' : Nat), (binOp .eql 22 (.slice a n c) (.slice none n' c')).run Tryd.prog w = .ok (.bool a.isNone) w := fun w a n c n' c' => Lib.run_eql_slice_nil w _ _ a n c n' c' Tryd.underlying22
  cases ao with
  | none =>
    have h0 : l = [] := by
      cases l with
      | nil => rfl
      | cons x l => obtain ⟨b, off, h, _⟩ := hat 0 (by simp); cases h
    subst h0
    clear hat hv
    go_enter Tryd.func6, Tryd.ntmps6
    go_wp2_with fail
    go_ret
    exact ⟨_, rfl, World.ownsRow_nil _ _ _ _, Below.refl _ _⟩
  | some a =>
    have HOW : Hid ((w.alloc (.cells #[] 30)).ownsRow w.heap.size 30 2 (.slice (some ⟨w.heap.size, 0, none⟩) 0 0) 0 []) := ⟨rfl, .inr ⟨w.heap.size, 0, #[], rfl, Nat.le_refl _, heap_alloc_new _ _, Nat.le_refl _, Nat.zero_le _, rfl, rfl⟩⟩
    have HS1 := Lib.hid (HSL.out.below (below_alloc w (.cells #[] 30)))
    have HB1 : Hid (Below w.heap.size w (w.alloc (.cells #[] 30))) := below_alloc _ _
    clear hat hv
    go_enter Tryd.func6, Tryd.ntmps6
    go_wp2_with (at_builtin; refine wpList_append_sl _ rfl _ _ 22 rfl w.heap.size 30 oi (.agg #[.string ⟨#[]⟩, .string ⟨#[]⟩]) 2 32 Tryd.underlying22 hoi hoz0 hoz1 hoz2 rfl (by decide) (.slice (some ⟨w.heap.size, 0, none⟩) 0 0) 0 [] rfl HOW.out (.slice (some a) l.length c) l.length (rowsO l) rfl HS1.out (rowsO_cells l) (by unfold maxLen; omega) (by omega) (by simp) ?_; intro v3 w3 hown3 hgr3 hat3; have HO3 := Lib.hid hown3; have HG3 := Lib.hid hgr3; clear hown3 hgr3 hat3)
    go_ret
    refine ⟨v3, rfl, ?_, ?_⟩
    · have := HO3.out
      simpa using this
    · exact below_grown HB1.out HG3.out (Nat.le_refl _)
end Go.Proofs.YtdnajcohdhkidaaDoor
