/- ship.outPath, find of an output: where a path stands. Conditions: outputs that CheckOuts lets pass. -/
import Derived.Test.YtdjcificgilimaaDoorShF
import Derived.Deep.RegionHeld3
namespace Go.Proofs.YtdjcificgilimaaDoor
open Go.RowKit Mh
set_option linter.unusedVariables false
theorem heap_new_at {w : World} {o : Obj} {k : Nat} (h : k = w.heap.size) : (w.alloc o).heap[k]? = some o := by subst h; exact heap_alloc_new _ _
theorem bl_kl (a b : ByteArray) : Op.bytesLess a.toList b.toList = kl a b := by rw [Go.Proofs.bytesLess_eq, Lib.toList_data, Lib.toList_data]; rfl
theorem outPath_any (o : O) (w : World) : Calls Tryd.prog 22 #[.agg #[.string o.p, .string o.b]] w fun e w' => e = .returned (.string o.p) ∧ Below w.heap.size w w' := by
  have HX : Hid ((w.alloc (.cells #[.string o.p, .string o.b] 41)).heap[w.heap.size]? = some (.cells #[.string o.p, .string o.b] 41 (0, 0))) := heap_alloc_new _ _
  have HB : Hid (Below w.heap.size w (w.alloc (.cells #[.string o.p, .string o.b] 41))) := below_alloc _ _
  obtain ⟨e0, e1⟩ := pair_of_block HX.out
  go_enter Tryd.func22, Tryd.ntmps22
  go_wp2_with fail
  go_ret
  exact ⟨rfl, HB.out⟩
def opV : Value := .func (.func 22) #[] #[]
set_option maxRecDepth 100000 in
set_option maxHeartbeats 4000000 in
theorem findF_any (l : List O) (k : Nat) (hk : k < l.length) (name : ByteArray) (p3 p4 p5 : Nat) (v : Value) (w : World) (h5 : w.cell? ⟨p5, 0, none⟩ = some opV) (h3 : w.cell? ⟨p3, 0, none⟩ = some v) (h4 : w.cell? ⟨p4, 0, none⟩ = some (.string name)) (hv : OsAt w v l) :
    Calls Tryd.prog 35 #[.int .i64 k, .pointer (some ⟨p5, 0, none⟩), .pointer (some ⟨p3, 0, none⟩), .pointer (some ⟨p4, 0, none⟩)] w fun e w' => e = .returned (.bool (!(kl l[k].p name))) ∧ Below w.heap.size w w' := by
  obtain ⟨ao, c, rfl, hlen, hat⟩ := hv.open
  obtain ⟨b, off, rfl, hc1, hc2, hlt, hc, hps, hbs⟩ := hat k hk
  have HC := Lib.hid hc
  have H3 := Lib.hid h3
  have H4 := Lib.hid h4
  have H5 := Lib.hid h5
  unfold opV at H5
  have HS : Hid (∀ w', Below w.heap.size w w' → (w'.cell? ⟨p5, 0, none⟩ = some (.func (.func 22) #[] #[]) ∧ w'.cell? ⟨p3, 0, none⟩ = some (.slice (some ⟨b, off, none⟩) l.length c) ∧ w'.cell? ⟨p4, 0, none⟩ = some (.string name) ∧ w'.cell? ⟨b, off + k * 2, none⟩ = some (.string l[k].p) ∧ w'.cell? ⟨b, off + k * 2 + 1, none⟩ = some (.string l[k].b) ∧ Below w.heap.size w w')) := fun w' hb =>
    ⟨(hb.cell (World.block_lt_of_cell? w _ H5.out)).trans H5.out, (hb.cell (World.block_lt_of_cell? w _ H3.out)).trans H3.out, (hb.cell (World.block_lt_of_cell? w _ H4.out)).trans H4.out, (hb.cell hlt).trans HC.out.1, (hb.cell hlt).trans HC.out.2, hb⟩
  have HG : Hid (∀ w', (w'.cell? ⟨p5, 0, none⟩ = some (.func (.func 22) #[] #[]) ∧ w'.cell? ⟨p3, 0, none⟩ = some (.slice (some ⟨b, off, none⟩) l.length c) ∧ w'.cell? ⟨p4, 0, none⟩ = some (.string name) ∧ w'.cell? ⟨b, off + k * 2, none⟩ = some (.string l[k].p) ∧ w'.cell? ⟨b, off + k * 2 + 1, none⟩ = some (.string l[k].b) ∧ Below w.heap.size w w') → Below w.heap.size w w') := fun w' h => h.2.2.2.2.2
  have HOP := Lib.hid (fun w' => outPath_any l[k] w')
  unfold maxLen at hlen hc2
  clear h3 h4 h5 hc hat hv
  go_enter Tryd.func35, Tryd.ntmps35
  go_wp2_with fail
  go_region_held3 (fun w' => w'.cell? ⟨p5, 0, none⟩ = some (.func (.func 22) #[] #[]) ∧ w'.cell? ⟨p3, 0, none⟩ = some (.slice (some ⟨b, off, none⟩) l.length c) ∧ w'.cell? ⟨p4, 0, none⟩ = some (.string name) ∧ w'.cell? ⟨b, off + k * 2, none⟩ = some (.string l[k].p) ∧ w'.cell? ⟨b, off + k * 2 + 1, none⟩ = some (.string l[k].b) ∧ Below w.heap.size w w') (first | exact HS.out _ (by assumption) | exact HS.out _ (Below.refl _ _).drew | exact HS.out _ (Below.refl _ _))
    (first | (go_at_call 22; (with_reducible refine (HOP.out _).mono ?_); rintro e w' ⟨rfl, hb⟩; have hq : Below w.heap.size w _ := Below.trans (HG.out _ (by assumption)) (hb.mono (HG.out _ (by assumption)).size)))
  all_goals
    go_wp2_with fail
    go_ret
    exact ⟨by rw [bl_kl]; rfl, hq⟩
set_option maxRecDepth 100000 in
set_option maxHeartbeats 4000000 in
theorem search_any (l : List O) (ho : Outs l) (name : ByteArray) (p3 p4 p5 : Nat) (v : Value) (w : World) (h5 : w.cell? ⟨p5, 0, none⟩ = some opV) (h3 : w.cell? ⟨p3, 0, none⟩ = some v) (h4 : w.cell? ⟨p4, 0, none⟩ = some (.string name)) (hv : OsAt w v l) :
    Calls Tryd.prog 34 #[.int .i64 l.length, .func (.func 35) #[] #[.pointer (some ⟨p5, 0, none⟩), .pointer (some ⟨p3, 0, none⟩), .pointer (some ⟨p4, 0, none⟩)]] w fun e w' => ∃ i : Nat, e = .returned (.int .i64 i) ∧ Below w.heap.size w w' ∧
      Hid (i ≤ l.length ∧ (∀ k (hk : k < l.length), k < i → kl l[k].p name = true) ∧ (∀ k (hk : k < l.length), i ≤ k → kl l[k].p name = false)) := by
  have HF : Hid (∀ k (hk : k < l.length) w', Below w.heap.size w w' → Calls Tryd.prog 35 #[.int .i64 k, .pointer (some ⟨p5, 0, none⟩), .pointer (some ⟨p3, 0, none⟩), .pointer (some ⟨p4, 0, none⟩)] w' fun e w'' => e = .returned (.bool (!(kl l[k].p name))) ∧ Below w'.heap.size w' w'') := fun k hk w' hb =>
    findF_any l k hk name p3 p4 p5 v w' ((hb.cell (World.block_lt_of_cell? w _ h5)).trans h5) ((hb.cell (World.block_lt_of_cell? w _ h3)).trans h3) ((hb.cell (World.block_lt_of_cell? w _ h4)).trans h4) (hv.keep hb)
  have HUP : Hid (∀ a b (ha : a < b) (hb : b < l.length), kl l[b].p name = true → kl (l[a]'(by omega)).p name = true) := fun a b ha hb h => kl_trans (ho.lt ha hb) h
  have hn := ho.1
  clear h3 h4 h5 hv ho
  go_enter Tryd.func34, Tryd.ntmps34
  go_wp2_with fail
  go_loopw [5, 6, 7] (fun vi vj _ wr => ∃ i j : Nat, i ≤ j ∧ j ≤ l.length ∧ vi = .int .i64 i ∧ vj = .int .i64 j ∧ Hid (Below w.heap.size w wr) ∧ Hid ((∀ k (hk : k < l.length), k < i → kl l[k].p name = true) ∧ (∀ k (hk : k < l.length), j ≤ k → kl l[k].p name = false))) (fun vi vj _ wr => (intOf vj).toNat - (intOf vi).toNat)
  case atStart => exact ⟨0, l.length, Nat.zero_le _, Nat.le_refl _, rfl, rfl, Below.refl _ _, fun k hk h => by omega, fun k hk h => by omega⟩
  case round =>
    obtain ⟨i, j, hij, hj, rfl, rfl, HB, HI⟩ := hrel
    by_cases hlt : i < j
    · have hmid : (i + j) / 2 < l.length := by omega
      have HM := Lib.hid (HF.out ((i + j) / 2) hmid wr HB.out)
      go_wp2_with fail
      have hme : ((i : Int) + j) / 2 = (((i + j) / 2 : Nat) : Int) := by omega
      rw [hme]
      clear hme
      have hb1 : i ≤ (i + j) / 2 := by omega
      have hb2 : (i + j) / 2 < j := by omega
      generalize (i + j) / 2 = q at *
      refine HM.out.mono ?_
      rintro e w2 ⟨rfl, hb⟩
      have HB2 : Hid (Below w.heap.size w w2) := HB.out.trans (hb.mono HB.out.size)
      clear hb HM
      cases hkl : kl l[q].p name with
      | true =>
        have HI2 : Hid ((∀ k (hk : k < l.length), k < q + 1 → kl l[k].p name = true) ∧ (∀ k (hk : k < l.length), j ≤ k → kl l[k].p name = false)) := ⟨fun k hk h => by
          by_cases e : k = q
          · subst e; exact hkl
          · exact HUP.out k q (by omega) hmid hkl, HI.out.2⟩
        clear hkl
        go_wp2_with fail
        go_roundw
        case rel => exact ⟨q + 1, j, by omega, hj, by go_num, rfl, HB2.out, HI2⟩
        case measure => simp [intOf]; omega
      | false =>
        have HI2 : Hid ((∀ k (hk : k < l.length), k < i → kl l[k].p name = true) ∧ (∀ k (hk : k < l.length), q ≤ k → kl l[k].p name = false)) := ⟨HI.out.1, fun k hk h => by
          cases hk2 : kl l[k].p name with
          | false => rfl
          | true =>
            by_cases e : k = q
            · subst e; rw [hk2] at hkl; cases hkl
            · have := HUP.out q k (by omega) hk hk2
              rw [this] at hkl; cases hkl⟩
        clear hkl
        go_wp2_with fail
        go_roundw
        case rel => exact ⟨i, q, by omega, by omega, rfl, rfl, HB2.out, HI2⟩
        case measure => simp [intOf]; omega
    · have hije : i = j := by omega
      subst hije
      go_wp2_with fail
      go_ret
      exact ⟨i, rfl, HB.out, hj, HI.out.1, HI.out.2⟩
theorem find_none {l : List O} {name : ByteArray} {i : Nat} (h1 : ∀ k (hk : k < l.length), k < i → kl l[k].p name = true) (h2 : ∀ k (hk : k < l.length), i ≤ k → kl l[k].p name = false) (h3 : ∀ h : i < l.length, l[i].p ≠ name) (ho : Outs l) : lookO l name = none := by
  rw [look_none]
  intro o hm e
  obtain ⟨k, hk, rfl⟩ := List.mem_iff_getElem.1 hm
  by_cases hki : k < i
  · have := h1 k hk hki
    rw [e, kl_irrefl] at this; cases this
  · by_cases hke : k = i
    · subst hke; exact h3 hk e
    · have a1 := ho.lt (show i < k by omega) hk
      rw [e, h2 i (by omega) (Nat.le_refl _)] at a1
      cases a1
set_option maxRecDepth 100000 in
set_option maxHeartbeats 8000000 in
theorem find_any (v : Value) (l : List O) (ho : Outs l) (name : ByteArray) (w : World) (hv : OsAt w v l) :
    Calls Tryd.prog 21 #[v, .string name, opV] w fun e w' => ∃ (i : Nat) (b : Bool), e = .returned (.tuple #[.int .i64 i, .bool b]) ∧ Below w.heap.size w w' ∧
      Hid ((b = true → ∃ h : i < l.length, l[i].p = name) ∧ (b = false → lookO l name = none)) := by
  have hl480 := ho.1
  have HOU := Lib.hid ho
  have HV := Lib.hid hv
  obtain ⟨ao, c, rfl, hlen, hat⟩ := hv.open
  have HAT := Lib.hid hat
  have HB0 : Hid (Below w.heap.size w (((w.alloc (.cells #[.slice ao l.length c] 22)).alloc (.cells #[.string name] 9)).alloc (.cells #[opV] 56))) := ((below_alloc _ _).alloc (by simp) _).alloc (by simp; omega) _
  have HX3 : Hid ((((w.alloc (.cells #[.slice ao l.length c] 22)).alloc (.cells #[.string name] 9)).alloc (.cells #[opV] 56)).heap[w.heap.size]? = some (.cells #[.slice ao l.length c] 22 (0, 0))) := (heap_alloc_old _ _ (by simp; omega)).trans ((heap_alloc_old _ _ (by simp)).trans (heap_alloc_new _ _))
  have HX4 : Hid ((((w.alloc (.cells #[.slice ao l.length c] 22)).alloc (.cells #[.string name] 9)).alloc (.cells #[opV] 56)).heap[w.heap.size + 1]? = some (.cells #[.string name] 9 (0, 0))) := (heap_alloc_old _ _ (by simp)).trans (heap_new_at (by simp))
  have HX5 : Hid ((((w.alloc (.cells #[.slice ao l.length c] 22)).alloc (.cells #[.string name] 9)).alloc (.cells #[opV] 56)).heap[w.heap.size + 1 + 1]? = some (.cells #[opV] 56 (0, 0))) := heap_new_at (by simp)
  have c3 := cellT (i := 0) HX3.out rfl
  have c4 := cellT (i := 0) HX4.out rfl
  have c5 := cellT (i := 0) HX5.out rfl
  have HSE := Lib.hid (search_any l ho name w.heap.size (w.heap.size + 1) (w.heap.size + 1 + 1) _ _ c5 c3 c4 (hv.keep HB0.out))
  have HZ : Hid ((((w.alloc (.cells #[.slice ao l.length c] 22)).alloc (.cells #[.string name] 9)).alloc (.cells #[opV] 56)).heap.size = w.heap.size + 3) := by show _ = _; simp
  unfold opV at *
  unfold maxLen at hlen
  clear hv hat ho
  go_enter Tryd.func21, Tryd.ntmps21
  go_wp2_with fail
  refine HSE.out.mono ?_
  rintro e w1 ⟨i, rfl, hb1, hi⟩
  have hz1 : w.heap.size + 3 ≤ w1.heap.size := by have := hb1.size; rw [HZ.out] at this; exact this
  have HB1 : Hid (Below w.heap.size w w1) := HB0.out.trans (hb1.mono HB0.out.size)
  have HY3 := Lib.hid ((hb1.block _ (by rw [HZ.out]; omega)).trans HX3.out)
  have HY4 := Lib.hid ((hb1.block _ (by rw [HZ.out]; omega)).trans HX4.out)
  have HY5 := Lib.hid ((hb1.block _ (by rw [HZ.out]; omega)).trans HX5.out)
  clear hb1 c3 c4 c5 HX3 HX4 HX5 HSE HB0 HZ
  by_cases hil : i < l.length
  · have hd : decide (i < l.length) = true := decide_eq_true hil
    obtain ⟨b, off, rfl, hc1, hc2, hlt, hc, hps, hbs⟩ := HAT.out i hil
    have HC := Lib.hid (two_later HB1.out hlt hc)
    have hlt1 : b < w1.heap.size := Nat.lt_of_lt_of_le hlt HB1.out.size
    have HRES : Hid (l[i].p ≠ name → lookO l name = none) := fun h => find_none hi.out.2.1 hi.out.2.2 (fun h' => h) HOU.out
    have HIL := Lib.hid hil
    have HRY : Hid (l[i].p = name → ∃ h : i < l.length, l[i].p = name) := fun h => ⟨HIL.out, h⟩
    unfold maxLen at hc2
    generalize hoi : l[i] = oi at *
    have HOP := Lib.hid (fun w' => outPath_any oi w')
    have HS : Hid (∀ w', Below w1.heap.size w1 w' → (w'.cell? ⟨w.heap.size, 0, none⟩ = some (.slice (some ⟨b, off, none⟩) l.length c) ∧ w'.cell? ⟨w.heap.size + 1, 0, none⟩ = some (.string name) ∧ w'.cell? ⟨w.heap.size + 1 + 1, 0, none⟩ = some (.func (.func 22) #[] #[]) ∧ w'.cell? ⟨b, off + i * 2, none⟩ = some (.string oi.p) ∧ w'.cell? ⟨b, off + i * 2 + 1, none⟩ = some (.string oi.b) ∧ Below w1.heap.size w1 w')) := fun w' hb =>
      ⟨cellT (i := 0) ((hb.block _ (by omega)).trans HY3.out) rfl, cellT (i := 0) ((hb.block _ (by omega)).trans HY4.out) rfl, cellT (i := 0) ((hb.block _ (by omega)).trans HY5.out) rfl, (hb.cell hlt1).trans HC.out.1, (hb.cell hlt1).trans HC.out.2, hb⟩
    have HG : Hid (∀ w', (w'.cell? ⟨w.heap.size, 0, none⟩ = some (.slice (some ⟨b, off, none⟩) l.length c) ∧ w'.cell? ⟨w.heap.size + 1, 0, none⟩ = some (.string name) ∧ w'.cell? ⟨w.heap.size + 1 + 1, 0, none⟩ = some (.func (.func 22) #[] #[]) ∧ w'.cell? ⟨b, off + i * 2, none⟩ = some (.string oi.p) ∧ w'.cell? ⟨b, off + i * 2 + 1, none⟩ = some (.string oi.b) ∧ Below w1.heap.size w1 w') → Below w1.heap.size w1 w') := fun w' h => h.2.2.2.2.2
    clear hc hi hoi
    by_cases hnm : oi.p = name
    · have HYES := Lib.hid (HRY.out hnm)
      have heq : (oi.p.toList == name.toList) = true := by rw [hnm]; simp
      clear hnm HRES HRY
      go_upto_region 2 with fail
      go_region_held3 (fun w' => w'.cell? ⟨w.heap.size, 0, none⟩ = some (.slice (some ⟨b, off, none⟩) l.length c) ∧ w'.cell? ⟨w.heap.size + 1, 0, none⟩ = some (.string name) ∧ w'.cell? ⟨w.heap.size + 1 + 1, 0, none⟩ = some (.func (.func 22) #[] #[]) ∧ w'.cell? ⟨b, off + i * 2, none⟩ = some (.string oi.p) ∧ w'.cell? ⟨b, off + i * 2 + 1, none⟩ = some (.string oi.b) ∧ Below w1.heap.size w1 w') (first | exact HS.out _ (by assumption) | exact HS.out _ (Below.refl _ _).drew | exact HS.out _ (Below.refl _ _))
        (first | (go_at_call 22; (with_reducible refine (HOP.out _).mono ?_); rintro e w' ⟨rfl, hb⟩; have hq : Below w1.heap.size w1 _ := Below.trans (HG.out _ (by assumption)) (hb.mono (HG.out _ (by assumption)).size)))
      all_goals
        go_wp2_with fail
        go_ret2
        exact ⟨i, true, rfl, HB1.out.trans (hq.mono HB1.out.size), fun _ => HYES.out, fun h => (by cases h)⟩
    · have HNO := Lib.hid (HRES.out hnm)
      have heq : (oi.p.toList == name.toList) = false := str_neO hnm
      clear hnm HRES HRY
      go_upto_region 2 with fail
      go_region_held3 (fun w' => w'.cell? ⟨w.heap.size, 0, none⟩ = some (.slice (some ⟨b, off, none⟩) l.length c) ∧ w'.cell? ⟨w.heap.size + 1, 0, none⟩ = some (.string name) ∧ w'.cell? ⟨w.heap.size + 1 + 1, 0, none⟩ = some (.func (.func 22) #[] #[]) ∧ w'.cell? ⟨b, off + i * 2, none⟩ = some (.string oi.p) ∧ w'.cell? ⟨b, off + i * 2 + 1, none⟩ = some (.string oi.b) ∧ Below w1.heap.size w1 w') (first | exact HS.out _ (by assumption) | exact HS.out _ (Below.refl _ _).drew | exact HS.out _ (Below.refl _ _))
        (first | (go_at_call 22; (with_reducible refine (HOP.out _).mono ?_); rintro e w' ⟨rfl, hb⟩; have hq : Below w1.heap.size w1 _ := Below.trans (HG.out _ (by assumption)) (hb.mono (HG.out _ (by assumption)).size)))
      all_goals
        go_wp2_with fail
        go_ret2
        exact ⟨i, false, rfl, HB1.out.trans (hq.mono HB1.out.size), fun h => (by cases h), fun _ => HNO.out⟩
  · have hd : decide (i < l.length) = false := decide_eq_false hil
    have c3 := cellT (i := 0) HY3.out rfl
    have HNO : Hid (lookO l name = none) := find_none hi.out.2.1 hi.out.2.2 (fun h => absurd h hil) HOU.out
    clear hil hi
    go_upto_region 2 with fail
    go_quiet (fail)
    go_wp2_with fail
    go_ret2
    exact ⟨i, false, rfl, below_drewN HB1.out _, fun h => (by cases h), fun _ => HNO.out⟩
end Go.Proofs.YtdjcificgilimaaDoor
