/- lang.stringsFault: returns 0 if and only if the entries are right. Conditions: the library's variables hold what they hold at the start. -/
import Derived.Test.YtdolpehcfifecaaGreatDoorMbt
import Derived.Test.YtdolpehcfifecaaGreatDoorMbg
import Derived.Test.YtdolpehcfifecaaGreatDoorKeVm
import Derived.Deep.CutRange
import Derived.BigQuiet
import Derived.Shelf.SlSorted.Search
namespace Mh
open Go Go.RowKit
set_option linter.unusedVariables false
theorem mlt_cases (a b : ByteArray) : (kl b a = true ∧ Op.bytesLess a.toList b.toList = false ∧ (a.toList == b.toList) = false) ∨ (kl b a = false ∧ Op.bytesLess a.toList b.toList = true) ∨ (kl b a = false ∧ Op.bytesLess a.toList b.toList = false ∧ (a.toList == b.toList) = true) := by
  rw [Go.Proofs.bytesLess_eq, Lib.toList_data, Lib.toList_data]
  show (kl b a = true ∧ kl a b = false ∧ _) ∨ (kl b a = false ∧ kl a b = true) ∨ (kl b a = false ∧ kl a b = false ∧ _)
  cases h1 : kl b a with
  | true =>
    refine .inl ⟨rfl, ?_, ?_⟩
    · cases h2 : kl a b with
      | false => rfl
      | true => have := kl_trans h1 h2; rw [kl_irrefl] at this; cases this
    · rw [beq_eq_false_iff_ne]
      intro e
      have h3 : a = b := by cases a; cases b; simpa [Array.toList_inj] using e
      rw [h3, kl_irrefl] at h1; cases h1
  | false =>
    cases h2 : kl a b with
    | true => exact .inr (.inl ⟨rfl, rfl⟩)
    | false => exact .inr (.inr ⟨rfl, rfl, by rw [kl_total h2 h1]; simp⟩)
/-- An entry. -/
structure En where
  k : ByteArray
  t : ByteArray
def EnOk (l : List En) (j : Nat) (h : j < l.length) : Prop := routeB l[j].k.data.toList = true ∧ (∀ h0 : 0 < j, kl (l[j - 1]'(by omega)).k l[j].k = true) ∧ l[j].t.size ≤ 2000 ∧ (readM l[j].t).1 = 0
def okS (l : List En) : Prop := l.length ≤ 500 ∧ ∀ j (h : j < l.length), EnOk l j h
def rowsE : List En → List Value
  | [] => []
  | o :: l => .string o.k :: .string o.t :: rowsE l
theorem rowsE_get : ∀ (l : List En) (i : Nat) (h : i < l.length), (rowsE l)[i * 2]? = some (.string l[i].k) ∧ (rowsE l)[i * 2 + 1]? = some (.string l[i].t)
  | [], i, h => by simp at h
  | o :: l, 0, h => ⟨rfl, rfl⟩
  | o :: l, i + 1, h => by
    have := rowsE_get l i (by simpa using h)
    have e : (i + 1) * 2 = i * 2 + 1 + 1 := by omega
    rw [e]
    simp only [rowsE, List.getElem?_cons_succ, List.getElem_cons_succ]
    exact this
/-- A slice of entries. -/
def EsAt (w : World) (v : Value) (l : List En) : Prop := Sl 2 w v l.length (rowsE l) ∧ ∀ o ∈ l, o.k.size ≤ maxLen ∧ o.t.size ≤ maxLen
theorem EsAt.keep {w w' : World} {v : Value} {l : List En} (h : EsAt w v l) (hb : Below w.heap.size w w') : EsAt w' v l := ⟨h.1.below hb, h.2⟩
theorem EsAt.open {w : World} {v : Value} {l : List En} (h : EsAt w v l) : ∃ ao c, v = .slice ao l.length c ∧ l.length ≤ maxLen ∧ ∀ i (hi : i < l.length), ∃ b off, ao = some ⟨b, off, none⟩ ∧ l.length ≤ c ∧ c ≤ maxLen ∧ b < w.heap.size ∧
    (w.cell? ⟨b, off + i * 2, none⟩ = some (.string l[i].k) ∧ w.cell? ⟨b, off + i * 2 + 1, none⟩ = some (.string l[i].t)) ∧ l[i].k.size ≤ maxLen ∧ l[i].t.size ≤ maxLen := by
  obtain ⟨ao, c, rfl, hm, hc⟩ := h.1.shp
  refine ⟨ao, c, rfl, hm, fun i hi => ?_⟩
  obtain ⟨b, off, h1, h2, h3, h4, h5⟩ := hc (by omega)
  obtain ⟨g1, g2⟩ := rowsE_get l i hi
  have hs := h.2 _ (List.getElem_mem hi)
  exact ⟨b, off, h1, h2, h3, h4, ⟨h5 _ _ g1, by have := h5 _ _ g2; rw [← Nat.add_assoc] at this; exact this⟩, hs.1, hs.2⟩
theorem mtwo_later {w0 w' : World} {b off i : Nat} {x y : Value} (hb : Below w0.heap.size w0 w') (hlt : b < w0.heap.size) (h : w0.cell? ⟨b, off + i * 2, none⟩ = some x ∧ w0.cell? ⟨b, off + i * 2 + 1, none⟩ = some y) :
    w'.cell? ⟨b, off + i * 2, none⟩ = some x ∧ w'.cell? ⟨b, off + i * 2 + 1, none⟩ = some y := ⟨(hb.cell hlt).trans h.1, (hb.cell hlt).trans h.2⟩
theorem mpair_of_block {w : World} {g : Nat} {T : TypeId} {a b : Value} (h : w.heap[g]? = some (.cells #[a, b] T (0, 0))) : w.cell? ⟨g, 0, none⟩ = some a ∧ w.cell? ⟨g, 1, none⟩ = some b := ⟨cellT h rfl, cellT h rfl⟩
end Mh
namespace Go.Proofs.YtdolpehcfifecaaGreatDoor
open Go.RowKit Mh
set_option linter.unusedVariables false
set_option maxRecDepth 100000 in
set_option maxHeartbeats 4000000 in
theorem gstringsFault_any (v : Value) (l : List En) (w : World) (hml : ML 0 w) (hev : EvAt w) (h : EsAt w v l) : Calls Tryz.prog 20 #[v] w (NF (okS l) w) := by
  have hmz : 0 < w.heap.size := by obtain ⟨m, hm⟩ := hml; exact World.block_lt_of_cell? w _ hm
  have hes := hev.size
  obtain ⟨ao, c, rfl, hlen, hat⟩ := h.open
  have HAT := Lib.hid hat
  have HP := Lib.hid (fun (s : ByteArray) (hs : s.size ≤ maxLen) w' (hb : Below w.heap.size w w') => groute_any s w' hs (hml.below hb hmz))
  have HM := Lib.hid (fun (s : ByteArray) (hs : s.size ≤ maxLen) w' (hb : Below w.heap.size w w') => readMessage_any s hs w' (hev.keep hb hes))
  unfold maxLen at hlen
  have HB0 : Hid (Below w.heap.size w w) := Below.refl _ _
  clear hat h hml hev hmz hes
  by_cases hl : 500 < l.length
  · have HNO : Hid (¬ okS l) := fun h => by have := h.1; omega
    have q1 : decide (500 < l.length) = true := decide_eq_true hl
    have q2 : decide ((500 : Int) < (l.length : Int)) = true := decide_eq_true (by omega)
    go_enter Tryz.func20, Tryz.ntmps20
    go_wp2_with fail
    go_ret
    exact NF.no (by decide) HNO.out HB0.out
  have q1 : decide (500 < l.length) = false := decide_eq_false hl
  have q2 : decide ((500 : Int) < (l.length : Int)) = false := decide_eq_false (by omega)
  go_enter Tryz.func20, Tryz.ntmps20
  go_wp2_with fail
  go_loopw [13] (fun i wr => ∃ k : Nat, k ≤ l.length ∧ i = .int .i64 k ∧ Hid (∀ j (hj : j < l.length), j < k → EnOk l j hj) ∧ Hid (Below w.heap.size w wr)) (fun i wr => l.length - (intOf i).toNat)
  case atStart => exact ⟨0, Nat.zero_le _, rfl, fun j hj h => by omega, HB0⟩
  case round =>
    clear HB0
    obtain ⟨k, hk, rfl, HO, HB⟩ := hrel
    by_cases hkl : k < l.length
    · obtain ⟨ww, rfl⟩ : ∃ ww : World, ww = wr := ⟨_, rfl⟩
      obtain ⟨b, off, rfl, hc1, hc2, hlt, hc, hps, hbs⟩ := HAT.out k hkl
      unfold maxLen at hc2
      obtain ⟨d0, d1⟩ := mtwo_later HB.out hlt hc
      have hBW : Below ww.heap.size ww (ww.alloc (.cells #[.string l[k].k, .string l[k].t] 82)) := below_alloc' _ _
      have HBW : Hid (Below w.heap.size w (ww.alloc (.cells #[.string l[k].k, .string l[k].t] 82))) := HB.out.trans (hBW.mono HB.out.size)
      have HX1 : Hid ((ww.alloc (.cells #[.string l[k].k, .string l[k].t] 82)).heap[ww.heap.size]? = some (.cells #[.string l[k].k, .string l[k].t] 82 (0, 0))) := heap_alloc_new _ _
      have HPK := Lib.hid (HP.out l[k].k hps _ HBW.out)
      have hzw := HB.out.size
      have HZ1 : Hid (ww.heap.size < (ww.alloc (.cells #[.string l[k].k, .string l[k].t] 82)).heap.size) := by show _ < _; simp
      have HMK := Lib.hid (fun w' hb => HM.out l[k].t hbs w' hb)
      obtain ⟨e0, e1⟩ := mpair_of_block HX1.out
      have hc0 := Lib.hid hc
      clear hBW hc
      cases hpb : routeB l[k].k.data.toList with
      | false =>
        have HNO : Hid (¬ okS l) := fun h => by have := (h.2 k hkl).1; rw [hpb] at this; cases this
        rw [hpb] at HPK
        clear hpb
        go_wp2_with (go_at_call 41; refine HPK.out.mono ?_; rintro e w2 ⟨rfl, hb2⟩; have HB2 : Hid (Below w.heap.size w w2) := HBW.out.trans (hb2.mono HBW.out.size); clear hb2)
        go_ret
        exact NF.no (by decide) HNO.out HB2.out
      | true =>
        have HPT := Lib.hid hpb
        rw [hpb] at HPK
        clear hpb
        go_upto_region 8 with (go_at_call 41; refine HPK.out.mono ?_; rintro e w2 ⟨rfl, hb2⟩; have HB2 : Hid (Below w.heap.size w w2) := HBW.out.trans (hb2.mono HBW.out.size); have HX2 := Lib.hid ((hb2.block _ HZ1.out).trans HX1.out); have hz2 : ww.heap.size < w2.heap.size := Nat.lt_of_lt_of_le HZ1.out hb2.size; clear hb2)
        obtain ⟨f0, f1⟩ := mpair_of_block HX2.out
        obtain ⟨g0, g1⟩ := mtwo_later HB2.out hlt hc0.out
        go_cut [13, 23] from 13 to 52 (fun s12 s22 wx => s12 = .int .i64 k ∧ ∃ b : Bool, s22 = .bool b ∧ Hid (Below w.heap.size w wx) ∧ Hid (wx.heap[ww.heap.size]? = some (.cells #[.string l[k].k, .string l[k].t] 82 (0, 0))) ∧ Hid (b = true → ¬ okS l) ∧ Hid (b = false → ∀ h0 : 0 < k, kl (l[k - 1]'(by omega)).k l[k].k = true))
        case first =>
          by_cases hk0 : k = 0
          · have hkd : decide (0 < k) = false := decide_eq_false (by omega)
            have HK0 := Lib.hid hk0
            clear hk0
            go_quiet (fail)
            go_wp2_with fail
            go_meet
            exact ⟨rfl, false, rfl, mbelow_drewN2 HB2.out _, HX2.out, fun h => (by cases h), fun _ h => absurd h (by have := HK0.out; omega)⟩
          · obtain ⟨j, rfl⟩ : ∃ j, k = j + 1 := ⟨k - 1, by omega⟩
            obtain ⟨b', off', hbo, _, _, hlt', hc', _, _⟩ := HAT.out j (by omega)
            simp only [Option.some.injEq, Addr.mk.injEq, and_true] at hbo
            obtain ⟨rfl, rfl⟩ := hbo
            obtain ⟨p0, p1⟩ := mtwo_later HB2.out hlt' hc'
            have hpos : decide (0 < j + 1) = true := decide_eq_true (by omega)
            have hsub : ((j + 1 : Nat) : Int) - 1 = ((j : Nat) : Int) := by omega
            have NL : Hid (kl l[j].k l[j + 1].k = false → ¬ okS l) := fun h ho => by
              have := (ho.2 (j + 1) hkl).2.1 (by omega)
              simp only [Nat.add_sub_cancel] at this
              rw [h] at this; cases this
            rcases mlt_cases l[j + 1].k l[j].k with ⟨q1, q2, q3⟩ | ⟨q1, q2⟩ | ⟨q1, q2, q3⟩
            · have Q1 := Lib.hid q1
              clear q1 hc'
              go_quiet (fail)
              go_wp2_with fail
              go_meet
              exact ⟨rfl, false, rfl, mbelow_drewN2 HB2.out _, HX2.out, fun h => (by cases h), fun _ _ => by simpa using Q1.out⟩
            · have Q1 := Lib.hid (NL.out q1)
              clear q1 hc'
              go_quiet (fail)
              go_wp2_with fail
              go_meet
              exact ⟨rfl, true, rfl, mbelow_drewN2 HB2.out _, HX2.out, fun _ => Q1.out, fun h => (by cases h)⟩
            · have Q1 := Lib.hid (NL.out q1)
              clear q1 hc'
              go_quiet (fail)
              go_wp2_with fail
              go_meet
              exact ⟨rfl, true, rfl, mbelow_drewN2 HB2.out _, HX2.out, fun _ => Q1.out, fun h => (by cases h)⟩
        case rest =>
          obtain ⟨rfl, b0, rfl, HB3, HX3, HT, HF⟩ := hcut
          clear HX2 HB2 HPK HBW HX1 HZ1 f0 f1 g0 g1 hc0 d0 d1 e0 e1
          cases b0 with
          | true =>
            go_wp2_with fail
            go_ret
            exact NF.no (by decide) (HT.out trivial) HB3.out
          | false =>
            have HORD := Lib.hid (HF.out rfl)
            clear HT HF
            obtain ⟨f0, f1⟩ := mpair_of_block HX3.out
            have HNX : Hid (l[k].t.size ≤ 2000 ∧ (readM l[k].t).1 = 0 → ∀ j (hj : j < l.length), j < k + 1 → EnOk l j hj) := by
              intro h j hj h3
              by_cases e : j = k
              · subst e; exact ⟨HPT.out, HORD.out, h.1, h.2⟩
              · exact HO.out j hj (by omega)
            have HBAD : Hid (okS l → l[k].t.size ≤ 2000 ∧ (readM l[k].t).1 = 0) := fun h => (h.2 k hkl).2.2
            clear HPT HORD HO
            obtain ⟨K, hK⟩ : ∃ x, x = l[k].k := ⟨_, rfl⟩
            obtain ⟨X, hX⟩ : ∃ x, x = l[k].t := ⟨_, rfl⟩
            rw [← hK] at f0
            rw [← hX] at f1 HNX HBAD HMK hbs
            have HMC := Lib.hid (HMK.out _ HB3.out)
            clear hK hX HMK HX3
            unfold maxLen at hbs
            by_cases h2 : 2000 < X.size
            · have HNO : Hid (¬ okS l) := fun h => by have := (HBAD.out h).1; omega
              have q4 : decide (2000 < X.size) = true := decide_eq_true h2
              have q5 : decide ((2000 : Int) < (X.size : Int)) = true := decide_eq_true (by omega)
              go_wp2_with fail
              go_ret
              exact NF.no (by decide) HNO.out HB3.out
            have q4 : decide (2000 < X.size) = false := decide_eq_false h2
            have q5 : decide ((2000 : Int) < (X.size : Int)) = false := decide_eq_false (by omega)
            generalize readM X = R at HMC HNX HBAD
            obtain ⟨er, ra, rp⟩ := R
            by_cases he : er = 0
            · subst he
              have HN := Lib.hid (HNX.out ⟨by omega, rfl⟩)
              clear HNX HBAD
              go_wp2_with (go_at_call 7; refine HMC.out.mono ?_; rintro e w4 ⟨v4, rows4, rfl, hb4, hs4, _⟩; obtain ⟨a4, c4, rfl, _⟩ := Sl.shp hs4; have HB4 : Hid (Below w.heap.size w w4) := HB3.out.trans (hb4.mono HB3.out.size); clear hb4 hs4)
              have HB5 : Hid (Below w.heap.size w (w4.alloc (.cells #[.slice a4 rp.length c4] 38))) := HB4.out.alloc HB4.out.size _
              go_roundw
              case rel => exact ⟨k + 1, by omega, by go_num, HN, HB5⟩
              case measure => simp [intOf]; omega
            · have q6 : (er != 0) = true := by rw [bne_iff_ne]; exact he
              have HNO : Hid (¬ okS l) := fun h => he (HBAD.out h).2
              clear HNX HBAD
              go_wp2_with (go_at_call 7; refine HMC.out.mono ?_; rintro e w4 ⟨v4, rows4, rfl, hb4, hs4, _⟩; obtain ⟨a4, c4, rfl, _⟩ := Sl.shp hs4; have HB4 : Hid (Below w.heap.size w w4) := HB3.out.trans (hb4.mono HB3.out.size); clear hb4 hs4)
              have HB5 : Hid (Below w.heap.size w (w4.alloc (.cells #[.slice a4 rp.length c4] 38))) := HB4.out.alloc HB4.out.size _
              go_ret
              exact NF.no he HNO.out HB5.out
    · have HOK : Hid (okS l) := ⟨by omega, fun j hj => HO.out j hj (by omega)⟩
      go_wp2_with fail
      go_ret
      exact NF.yes HOK.out HB.out
end Go.Proofs.YtdolpehcfifecaaGreatDoor
