/- Outputs as they lie in memory; ship.CheckOuts: which outputs it lets pass. Conditions: the library's variable MaxLen holds an integer. -/
import Derived.Test.YtoalbfffojpnmaaDoorShA
import Derived.Test.YtoalbfffojpnmaaDoorSl
import Derived.Outline
import Derived.Deep.CutRange
import Derived.BigQuiet
namespace Mh
open Go Go.RowKit
set_option linter.unusedVariables false
theorem Sl.shp {k : Nat} {w : World} {v : Value} {n : Nat} {xs : List Value} (h : Sl k w v n xs) :
    ∃ ao c, v = .slice ao n c ∧ n ≤ maxLen ∧ (0 < n → ∃ b off, ao = some ⟨b, off, none⟩ ∧ n ≤ c ∧ c ≤ maxLen ∧ b < w.heap.size ∧ ∀ i u, xs[i]? = some u → w.cell? ⟨b, off + i, none⟩ = some u) := by
  rcases h.2 with ⟨rfl, a, c, rfl⟩ | ⟨b, off, c, rfl, h1, h2, h3, h4, h5⟩
  · exact ⟨a, c, rfl, Nat.zero_le _, fun h => absurd h (Nat.lt_irrefl _)⟩
  · exact ⟨_, c, rfl, Nat.le_trans h2 h3, fun _ => ⟨b, off, rfl, h2, h3, h4, h5⟩⟩
def rowsO : List O → List Value
  | [] => []
  | o :: l => .string o.p :: .string o.b :: rowsO l
theorem rowsO_len : ∀ l : List O, (rowsO l).length = l.length * 2
  | [] => rfl
  | o :: l => by simp only [rowsO, List.length_cons, rowsO_len l]; omega
theorem rowsO_get : ∀ (l : List O) (i : Nat) (h : i < l.length), (rowsO l)[i * 2]? = some (.string l[i].p) ∧ (rowsO l)[i * 2 + 1]? = some (.string l[i].b)
  | [], i, h => by simp at h
  | o :: l, 0, h => ⟨rfl, rfl⟩
  | o :: l, i + 1, h => by
    have := rowsO_get l i (by simpa using h)
    have e : (i + 1) * 2 = i * 2 + 1 + 1 := by omega
    rw [e]
    simp only [rowsO, List.getElem?_cons_succ, List.getElem_cons_succ]
    exact this
theorem rowsO_app (a b : List O) : rowsO (a ++ b) = rowsO a ++ rowsO b := by
  induction a with
  | nil => rfl
  | cons x a ih => simp [rowsO, ih]
/-- A slice of outputs. -/
def OsAt (w : World) (v : Value) (l : List O) : Prop := Sl 2 w v l.length (rowsO l) ∧ ∀ o ∈ l, o.p.size ≤ maxLen ∧ o.b.size ≤ maxLen
theorem OsAt.keep {w w' : World} {v : Value} {l : List O} (h : OsAt w v l) (hb : Below w.heap.size w w') : OsAt w' v l := ⟨h.1.below hb, h.2⟩
theorem OsAt.open {w : World} {v : Value} {l : List O} (h : OsAt w v l) : ∃ ao c, v = .slice ao l.length c ∧ l.length ≤ maxLen ∧ ∀ i (hi : i < l.length), ∃ b off, ao = some ⟨b, off, none⟩ ∧ l.length ≤ c ∧ c ≤ maxLen ∧ b < w.heap.size ∧
    (w.cell? ⟨b, off + i * 2, none⟩ = some (.string l[i].p) ∧ w.cell? ⟨b, off + i * 2 + 1, none⟩ = some (.string l[i].b)) ∧ l[i].p.size ≤ maxLen ∧ l[i].b.size ≤ maxLen := by
  obtain ⟨ao, c, rfl, hm, hc⟩ := h.1.shp
  refine ⟨ao, c, rfl, hm, fun i hi => ?_⟩
  obtain ⟨b, off, h1, h2, h3, h4, h5⟩ := hc (by omega)
  obtain ⟨g1, g2⟩ := rowsO_get l i hi
  have hs := h.2 _ (List.getElem_mem hi)
  exact ⟨b, off, h1, h2, h3, h4, ⟨h5 _ _ g1, by have := h5 _ _ g2; rw [← Nat.add_assoc] at this; exact this⟩, hs.1, hs.2⟩
theorem two_later {w0 w' : World} {b off i : Nat} {x y : Value} (hb : Below w0.heap.size w0 w') (hlt : b < w0.heap.size) (h : w0.cell? ⟨b, off + i * 2, none⟩ = some x ∧ w0.cell? ⟨b, off + i * 2 + 1, none⟩ = some y) :
    w'.cell? ⟨b, off + i * 2, none⟩ = some x ∧ w'.cell? ⟨b, off + i * 2 + 1, none⟩ = some y := ⟨(hb.cell hlt).trans h.1, (hb.cell hlt).trans h.2⟩
theorem pair_of_block {w : World} {g : Nat} {T : TypeId} {a b : Value} (h : w.heap[g]? = some (.cells #[a, b] T (0, 0))) : w.cell? ⟨g, 0, none⟩ = some a ∧ w.cell? ⟨g, 1, none⟩ = some b := ⟨cellT h rfl, cellT h rfl⟩
theorem below_drewN {B : Nat} {w w' : World} (h : Below B w w') (n : Nat) : Below B w (w'.drewN n) := ⟨h.os, h.tape, h.output, h.size, h.block⟩
theorem below_alloc (w : World) (o : Obj) : Below w.heap.size w (w.alloc o) := (Below.refl _ w).alloc (Nat.le_refl _) _
end Mh
namespace Go.Proofs.YtoalbfffojpnmaaDoor
open Go.RowKit Mh
set_option linter.unusedVariables false
set_option maxRecDepth 100000 in
set_option maxHeartbeats 4000000 in
theorem checkOuts_any (v : Value) (l : List O) (m : Int) (w : World) (hm : w.cell? ⟨0, 0, none⟩ = some (.int .i64 m)) (h : OsAt w v l) :
    Calls Tryd.prog 7 #[v] w fun e w' => ∃ r : Int, e = .returned (.int .i64 r) ∧ (r = 0 ↔ Outs l) ∧ Below w.heap.size w w' := by
  have hmz : 0 < w.heap.size := World.block_lt_of_cell? w _ hm
  obtain ⟨ao, c, rfl, hlen, hat⟩ := h.open
  have HAT := Lib.hid hat
  have HP := Lib.hid (fun (s : ByteArray) (hs : s.size ≤ maxLen) w' (hb : Below w.heap.size w w') => shPath_any s w' hs ⟨m, (hb.cell hmz).trans hm⟩)
  have HHP := Lib.hid (fun (s p : ByteArray) w' => Tryd.strings_HasPrefix s p w')
  unfold maxLen at hlen
  by_cases hl : (480 : Int) < l.length
  · have HNO : Hid (¬ Outs l) := fun h => by have := h.1; omega
    clear hat h hm
    go_enter Tryd.func7, Tryd.ntmps7
    go_wp2_with fail
    go_ret
    exact ⟨4, rfl, ⟨fun h => absurd h (by decide), fun h => absurd h HNO.out⟩, Below.refl _ _⟩
  have hl' : l.length ≤ 480 := by omega
  clear hat h hm
  go_enter Tryd.func7, Tryd.ntmps7
  go_wp2_with fail
  go_loopw [12] (fun i wr => ∃ k : Nat, k ≤ l.length ∧ i = .int .i64 k ∧ Hid (∀ j (hj : j < l.length), j < k → OutAt l j hj) ∧ Hid (Below w.heap.size w wr)) (fun i wr => l.length - (intOf i).toNat)
  case atStart => exact ⟨0, Nat.zero_le _, rfl, fun j hj h => by omega, Below.refl _ _⟩
  case round =>
    obtain ⟨k, hk, rfl, HO, HB⟩ := hrel
    by_cases hkl : k < l.length
    · obtain ⟨ww, rfl⟩ : ∃ ww : World, ww = wr := ⟨_, rfl⟩
      obtain ⟨b, off, rfl, hc1, hc2, hlt, hc, hps, hbs⟩ := HAT.out k hkl
      obtain ⟨d0, d1⟩ := two_later HB.out hlt hc
      unfold maxLen at hc2
      have hBW : Below ww.heap.size ww (ww.alloc (.cells #[.string l[k].p, .string l[k].b] 34)) := below_alloc _ _
      have HBW : Hid (Below w.heap.size w (ww.alloc (.cells #[.string l[k].p, .string l[k].b] 34))) := HB.out.trans (hBW.mono HB.out.size)
      have HX1 : Hid ((ww.alloc (.cells #[.string l[k].p, .string l[k].b] 34)).heap[ww.heap.size]? = some (.cells #[.string l[k].p, .string l[k].b] 34 (0, 0))) := heap_alloc_new _ _
      have HPK := Lib.hid (HP.out l[k].p hps _ HBW.out)
      have hzw := HB.out.size
      have HZ1 : Hid (ww.heap.size < (ww.alloc (.cells #[.string l[k].p, .string l[k].b] 34)).heap.size) := by show _ < _; simp
      obtain ⟨e0, e1⟩ := pair_of_block HX1.out
      have hc0 := Lib.hid hc
      clear hBW hc
      cases hpb : pathB l[k].p.data.toList with
      | false =>
        have HNO : Hid (¬ Outs l) := fun h => by have := (h.2 k hkl).1; rw [hpb] at this; cases this
        rw [hpb] at HPK
        clear hpb
        go_wp2_with (go_at_call 12; refine HPK.out.mono ?_; rintro e w2 ⟨rfl, hb2⟩; have HB2 : Hid (Below w.heap.size w w2) := HBW.out.trans (hb2.mono HBW.out.size); clear hb2)
        go_ret
        exact ⟨3, rfl, ⟨fun h => absurd h (by decide), fun h => absurd h HNO.out⟩, HB2.out⟩
      | true =>
        have HPT := Lib.hid hpb
        have hp200 : l[k].p.size ≤ 200 := by have := path_len hpb; rw [Array.length_toList] at this; exact this
        rw [hpb] at HPK
        clear hpb
        go_upto_region 8 with (go_at_call 12; refine HPK.out.mono ?_; rintro e w2 ⟨rfl, hb2⟩; have HB2 : Hid (Below w.heap.size w w2) := HBW.out.trans (hb2.mono HBW.out.size); have HX2 := Lib.hid ((hb2.block _ HZ1.out).trans HX1.out); have hz2 : ww.heap.size < w2.heap.size := Nat.lt_of_lt_of_le HZ1.out hb2.size; clear hb2)
        obtain ⟨f0, f1⟩ := pair_of_block HX2.out
        obtain ⟨g0, g1⟩ := two_later HB2.out hlt hc0.out
        go_cut [12, 22] from 12 to 56 (fun s12 s22 wx => s12 = .int .i64 k ∧ ∃ b : Bool, s22 = .bool b ∧ Hid (Below w.heap.size w wx) ∧ Hid (wx.heap[ww.heap.size]? = some (.cells #[.string l[k].p, .string l[k].b] 34 (0, 0))) ∧ Hid (b = true → ¬ Outs l) ∧ Hid (b = false → ∀ h0 : 0 < k, kl (l[k - 1]'(by omega)).p l[k].p = true))
        case first =>
          by_cases hk0 : k = 0
          · have hkd : decide (0 < k) = false := decide_eq_false (by omega)
            have HK0 := Lib.hid hk0
            clear hk0
            go_quiet (fail)
            go_wp2_with fail
            go_meet
            exact ⟨rfl, false, rfl, below_drewN HB2.out _, HX2.out, fun h => (by cases h), fun _ h => absurd h (by have := HK0.out; omega)⟩
          · obtain ⟨j, rfl⟩ : ∃ j, k = j + 1 := ⟨k - 1, by omega⟩
            obtain ⟨b', off', hbo, _, _, hlt', hc', _, _⟩ := HAT.out j (by omega)
            simp only [Option.some.injEq, Addr.mk.injEq, and_true] at hbo
            obtain ⟨rfl, rfl⟩ := hbo
            obtain ⟨p0, p1⟩ := two_later HB2.out hlt' hc'
            have hpos : decide (0 < j + 1) = true := decide_eq_true (by omega)
            have hsub : ((j + 1 : Nat) : Int) - 1 = ((j : Nat) : Int) := by omega
            have NL : Hid (kl l[j].p l[j + 1].p = false → ¬ Outs l) := fun h ho => by
              have := (ho.2 (j + 1) hkl).2.1 (by omega)
              simp only [Nat.add_sub_cancel] at this
              rw [h] at this; cases this
            rcases lt_cases l[j + 1].p l[j].p with ⟨q1, q2, q3⟩ | ⟨q1, q2⟩ | ⟨q1, q2, q3⟩
            · have Q1 := Lib.hid q1
              clear q1 hc'
              go_quiet (fail)
              go_wp2_with fail
              go_meet
              exact ⟨rfl, false, rfl, below_drewN HB2.out _, HX2.out, fun h => (by cases h), fun _ _ => by simpa using Q1.out⟩
            · have Q1 := Lib.hid (NL.out q1)
              clear q1 hc'
              go_quiet (fail)
              go_wp2_with fail
              go_meet
              exact ⟨rfl, true, rfl, below_drewN HB2.out _, HX2.out, fun _ => Q1.out, fun h => (by cases h)⟩
            · have Q1 := Lib.hid (NL.out q1)
              clear q1 hc'
              go_quiet (fail)
              go_wp2_with fail
              go_meet
              exact ⟨rfl, true, rfl, below_drewN HB2.out _, HX2.out, fun _ => Q1.out, fun h => (by cases h)⟩
        case rest =>
          obtain ⟨rfl, b0, rfl, HB3, HX3, HT, HF⟩ := hcut
          clear HX2 HB2 HPK HBW HX1 HZ1 f0 f1 g0 g1
          cases b0 with
          | true =>
            go_wp2_with fail
            go_ret
            exact ⟨5, rfl, ⟨fun h => absurd h (by decide), fun h => absurd h (HT.out trivial)⟩, HB3.out⟩
          | false =>
            have HORD := Lib.hid (HF.out rfl)
            clear HT HF
            obtain ⟨wo, hwo⟩ : ∃ wo : World, wc = wo := ⟨_, rfl⟩
            subst hwo
            obtain ⟨n', hn'⟩ : ∃ n', l.length = k + 1 + n' := ⟨l.length - (k + 1), by omega⟩
            have hb1 : ((k : Int) + 1) ≤ (l.length : Int) := by omega
            have hb2 : ((k : Int) + 1) ≤ (c : Int) := by omega
            have HN := Lib.hid hn'
            go_upto_region 10 with fail
            go_cut [12, 39, 40, 41] from 12 to 56 (fun s12 s39 s40 s41 wx => s12 = .int .i64 k ∧ s40 = .int .i64 n' ∧ s41 = .int .i64 (0 : Nat) ∧ wc = wx ∧ ∃ (off2 cap2 : Nat), s39 = .slice (some ⟨b, off2, none⟩) n' cap2 ∧ Hid (0 < n' → off2 = off + (k + 1) * 2 ∧ n' ≤ cap2))
            case first =>
              by_cases hcap : k + 1 < c
              · have HC2 : Hid (n' ≤ c - (k + 1)) := by show _ ≤ _; omega
                go_wp2_with fail
                go_meet
                exact ⟨rfl, rfl, rfl, rfl, _, _, rfl, fun _ => ⟨rfl, HC2.out⟩⟩
              · obtain rfl : c = k + 1 := by omega
                have HC2 : Hid (n' = 0) := by show _ = _; omega
                go_wp2_with fail
                go_meet
                exact ⟨rfl, rfl, rfl, rfl, _, _, rfl, fun h => absurd h (by have := HC2.out; omega)⟩
            case rest =>
              obtain ⟨rfl, rfl, rfl, hww, off2, cap2, rfl, HOF⟩ := hcut
              subst hww
              clear hb1 hb2 hn'
              go_wp2_with fail
              go_loopw [41] (fun i wy => ∃ q : Nat, q ≤ n' ∧ i = .int .i64 q ∧ Hid (∀ j (hj : j < l.length), k < j → j < k + 1 + q → preB l[k].p l[j].p = false) ∧ Hid (Below wc.heap.size wc wy)) (fun i wy => n' - (intOf i).toNat)
              case atStart => exact ⟨0, Nat.zero_le _, rfl, fun j hj h1 h2 => by omega, Below.refl _ _⟩
              case round =>
                obtain ⟨q, hq, rfl, HA, HBY⟩ := hrel
                by_cases hqn : q < n'
                · have hjl : k + 1 + q < l.length := by have := HN.out; omega
                  have hpos : 0 < n' := by omega
                  obtain ⟨rfl, hcap2⟩ := HOF.out hpos
                  obtain ⟨b', off', hbo, _, _, hlt', hc', hps', _⟩ := HAT.out (k + 1 + q) hjl
                  simp only [Option.some.injEq, Addr.mk.injEq, and_true] at hbo
                  obtain ⟨rfl, rfl⟩ := hbo
                  have HBW2 : Hid (Below w.heap.size w wr) := HB3.out.trans (HBY.out.mono HB3.out.size)
                  obtain ⟨p0, p1⟩ := two_later HBW2.out hlt' hc'
                  have ea : off + (k + 1 + q) * 2 = off + (k + 1) * 2 + q * 2 := by omega
                  rw [ea] at p0 p1
                  clear hc' ea
                  generalize hlj : l[k + 1 + q] = lj at *
                  have HLJ := Lib.hid hlj
                  clear hlj
                  have HX4 := Lib.hid ((HBY.out.block _ (by have := (Array.getElem?_eq_some_iff.1 HX3.out).1; exact this)).trans HX3.out)
                  have hb5 : Below wr.heap.size wr (wr.alloc (.cells #[.string lj.p, .string lj.b] 34)) := below_alloc _ _
                  have HB5 : Hid (Below wc.heap.size wc (wr.alloc (.cells #[.string lj.p, .string lj.b] 34))) := HBY.out.trans (hb5.mono HBY.out.size)
                  have HX5 := Lib.hid ((hb5.block _ (by have := (Array.getElem?_eq_some_iff.1 HX4.out).1; exact this)).trans HX4.out)
                  have HX6 : Hid ((wr.alloc (.cells #[.string lj.p, .string lj.b] 34)).heap[wr.heap.size]? = some (.cells #[.string lj.p, .string lj.b] 34 (0, 0))) := heap_alloc_new _ _
                  obtain ⟨r0, r1⟩ := pair_of_block HX5.out
                  obtain ⟨t0, t1⟩ := pair_of_block HX6.out
                  have hszp : l[k].p.size ≤ 200 := hp200
                  have HPRE := Lib.hid (fun w' => HHP.out lj.p (l[k].p ++ ⟨#[47]⟩) w')
                  clear hb5
                  cases hpre : Lib.hasPrefix lj.p.data.toList (l[k].p ++ ⟨#[47]⟩).data.toList with
                  | true =>
                    have HNO : Hid (¬ Outs l) := fun ho => by
                      have := (ho.2 k hkl).2.2.1 (k + 1 + q) hjl (by omega)
                      rw [HLJ.out] at this
                      unfold preB at this
                      rw [hpre] at this; cases this
                    rw [hpre] at HPRE
                    clear hpre
                    go_wp2_with (go_at_call 6; refine (HPRE.out _).mono ?_; rintro e w' ⟨rfl, rfl⟩)
                    go_ret
                    exact ⟨6, rfl, ⟨fun h => absurd h (by decide), fun h => absurd h HNO.out⟩, HB3.out.trans (HB5.out.mono HB3.out.size)⟩
                  | false =>
                    have HA2 : Hid (∀ j (hj : j < l.length), k < j → j < k + 1 + (q + 1) → preB l[k].p l[j].p = false) := fun j hj h1 h2 => by
                      by_cases e : j = k + 1 + q
                      · subst e; rw [HLJ.out]; exact hpre
                      · exact HA.out j hj h1 (by omega)
                    rw [hpre] at HPRE
                    clear hpre
                    go_wp2_with (go_at_call 6; refine (HPRE.out _).mono ?_; rintro e w' ⟨rfl, rfl⟩)
                    go_roundw
                    case rel => exact ⟨q + 1, by omega, by go_num, HA2, HB5.out⟩
                    case measure => simp [intOf]; omega
                · have HX4 := Lib.hid ((HBY.out.block _ (by have := (Array.getElem?_eq_some_iff.1 HX3.out).1; exact this)).trans HX3.out)
                  have HBW2 : Hid (Below w.heap.size w wr) := HB3.out.trans (HBY.out.mono HB3.out.size)
                  obtain ⟨r0, r1⟩ := pair_of_block HX4.out
                  have HPRE : Hid (∀ j (hj : j < l.length), k < j → preB l[k].p l[j].p = false) := fun j hj h1 => HA.out j hj h1 (by have := HN.out; omega)
                  by_cases hz : (200000 : Int) < l[k].b.size
                  · have HNO : Hid (¬ Outs l) := fun ho => by have := (ho.2 k hkl).2.2.2; omega
                    go_wp2_with fail
                    go_ret
                    exact ⟨4, rfl, ⟨fun h => absurd h (by decide), fun h => absurd h HNO.out⟩, HBW2.out⟩
                  · have HOK : Hid (∀ j (hj : j < l.length), j < k + 1 → OutAt l j hj) := fun j hj h1 => by
                      by_cases e : j = k
                      · subst e; exact ⟨HPT.out, HORD.out, fun j hj h => HPRE.out j hj h, by omega⟩
                      · exact HO.out j hj (by omega)
                    go_wp2_with fail
                    go_roundw
                    case rel => exact ⟨k + 1, by omega, by go_num, HOK, HBW2.out⟩
                    case measure => simp [intOf]; omega
    · have HYES : Hid (Outs l) := ⟨hl', fun j hj => HO.out j hj (by omega)⟩
      go_wp2_with fail
      go_ret
      exact ⟨0, rfl, ⟨fun _ => HYES.out, fun _ => rfl⟩, HB.out⟩
end Go.Proofs.YtoalbfffojpnmaaDoor
