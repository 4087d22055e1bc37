/- mastkeep1.ShipCovers answers true for any string. Conditions: the library's variable MaxLen holds an integer. -/
import Derived.Test.YtoalbfffojpnmaaDoorTnI
import Derived.Test.YtoalbfffojpnmaaDoorShAw
namespace Mh
open Go Go.RowKit
set_option linter.unusedVariables false
theorem prefix_take (l : List UInt8) (n : Nat) : Lib.hasPrefix l (l.take n) = true := by
  obtain ⟨r, hr⟩ : ∃ r, l = l.take n ++ r := ⟨_, (List.take_append_drop n l).symm⟩
  conv => lhs; rw [hr]
  rw [← hr]
  generalize l.take n = p at hr
  subst hr
  induction p with
  | nil => cases r <;> simp [Lib.hasPrefix]
  | cons x p ih => simp [Lib.hasPrefix]
end Mh
namespace Go.Proofs.YtoalbfffojpnmaaDoor
open Go.RowKit Mh
set_option linter.unusedVariables false

theorem tk_get (l : List Tk) (i : Nat) (hi : i < l.length) (j : Nat) (hj : j < 5) : (l.flatMap Tk.cells)[i * 5 + j]? = some (l[i].cells[j]'hj) := by
  induction l generalizing i with
  | nil => simp at hi
  | cons t l ih =>
    rw [List.flatMap_cons]
    have h5 : t.cells.length = 5 := rfl
    cases i with
    | zero => rw [List.getElem?_append_left (by omega), Nat.zero_mul, Nat.zero_add, List.getElem?_eq_getElem (by omega)]; rfl
    | succ i =>
      rw [List.getElem?_append_right (by omega), show (i + 1) * 5 + j - t.cells.length = i * 5 + j by omega]
      exact ih i (by simpa using hi)
def five (w : World) (b o : Nat) (t : Tk) : Prop := w.cell? ⟨b, o, none⟩ = some (.int .i64 t.k) ∧ w.cell? ⟨b, o + 1, none⟩ = some (.int .i64 t.a) ∧ w.cell? ⟨b, o + 2, none⟩ = some (.string t.nm) ∧ w.cell? ⟨b, o + 3, none⟩ = some (.string t.tx) ∧ w.cell? ⟨b, o + 4, none⟩ = some t.at_
theorem five_later {w0 w' : World} {b o : Nat} {t : Tk} (hb : Below w0.heap.size w0 w') (hlt : b < w0.heap.size) (h : five w0 b o t) : five w' b o t :=
  ⟨(hb.cell hlt).trans h.1, (hb.cell hlt).trans h.2.1, (hb.cell hlt).trans h.2.2.1, (hb.cell hlt).trans h.2.2.2.1, (hb.cell hlt).trans h.2.2.2.2⟩
theorem five_block {w : World} {g : Nat} {T : TypeId} {t : Tk} (h : w.heap[g]? = some (.cells t.cells.toArray T (0, 0))) : five w g 0 t := ⟨cellT h rfl, cellT h rfl, cellT h rfl, cellT h rfl, cellT h rfl⟩
theorem toks_open {w : World} {v : Value} {l : List Tk} (h : Sl 5 w v l.length (l.flatMap Tk.cells)) : ∃ ao c, v = .slice ao l.length c ∧ l.length ≤ maxLen ∧ ∀ i (hi : i < l.length), ∃ b off, ao = some ⟨b, off, none⟩ ∧ l.length ≤ c ∧ c ≤ maxLen ∧ b < w.heap.size ∧ five w b (off + i * 5) l[i] := by
  obtain ⟨ao, c, rfl, hm, hc⟩ := h.shp
  refine ⟨ao, c, rfl, hm, fun i hi => ?_⟩
  obtain ⟨b, off, h1, h2, h3, h4, h5⟩ := hc (by omega)
  have g := fun j (hj : j < 5) => h5 _ _ (tk_get l i hi j hj)
  refine ⟨b, off, h1, h2, h3, h4, ?_⟩
  have g0 := g 0 (by decide)
  have g1 := g 1 (by decide)
  have g2 := g 2 (by decide)
  have g3 := g 3 (by decide)
  have g4 := g 4 (by decide)
  rw [← Nat.add_assoc] at g0 g1 g2 g3 g4
  exact ⟨g0, g1, g2, g3, g4⟩
set_option maxRecDepth 100000 in
set_option maxHeartbeats 16000000 in
theorem covers_walk (s : ByteArray) (m : Int) (w : World) (hm : w.cell? ⟨0, 0, none⟩ = some (.int .i64 m)) :
    Calls Tryd.prog 3 #[.string s] w fun e w' => e = .returned (.bool true) ∧ Below w.heap.size w w' := by
  have hgl : 0 < w.heap.size := World.block_lt_of_cell? w _ hm
  have HAW := Lib.hid (awakeShip_any m w hm)
  have HT := Lib.hid (fun w1 (hb : Below w.heap.size w w1) => tokens_any s m w1 ((hb.cell (p := ⟨0, 0, none⟩) hgl).trans hm))
  clear hm hgl
  go_enter Tryd.func3, Tryd.ntmps3
  go_wp2_with fail
  refine HAW.out.mono ?_
  rintro e w1 ⟨rfl, hb1⟩
  have HB1 := Lib.hid hb1
  clear hb1
  go_wp2_with fail
  refine (HT.out w1 HB1.out).mono ?_
  rintro e w2 ⟨v, n, rfl, HR, hb2⟩
  have HB2 : Hid (Below w.heap.size w w2) := HB1.out.trans (hb2.mono HB1.out.size)
  clear hb2 HT HAW
  rcases HR.out with ⟨hn, rfl⟩ | ⟨rfl, hsz, l, hg, hl, hown, hok⟩
  · have hd : (n != 0) = true := by rw [bne_iff_ne]; exact hn
    clear HR hn
    go_wp2_with fail
    go_ret
    exact ⟨rfl, HB2.out⟩
  · clear HR
    obtain ⟨ao, c, rfl, hlm, hat⟩ := toks_open (Sl.of_own hown (by decide))
    have HAT := Lib.hid hat
    have HG := Lib.hid hg
    have HOK := Lib.hid hok
    clear hat hg hok hown
    unfold maxLen at hlm
    go_wp2_with fail
    go_loopw [21] (fun i wr => ∃ k : Nat, k ≤ l.length ∧ i = .int .i64 k ∧ Hid (Below w2.heap.size w2 wr)) (fun i wr => l.length - (intOf i).toNat)
    case atStart => exact ⟨0, Nat.zero_le _, rfl, Below.refl _ _⟩
    case round =>
      obtain ⟨k, hk, rfl, HB⟩ := hrel
      by_cases hkl : k < l.length
      · obtain ⟨ww, rfl⟩ : ∃ ww : World, ww = wr := ⟨_, rfl⟩
        obtain ⟨b, off, rfl, hc1, hc2, hlt, hc⟩ := HAT.out k hkl
        obtain ⟨d0, d1, d2, d3, d4⟩ := five_later HB.out hlt hc
        obtain ⟨aa, an, ac, hat⟩ := HOK.out l[k] (List.getElem_mem hkl)
        unfold maxLen at hc2
        obtain ⟨ha, hne, heq⟩ := HG.out.own k hkl
        have HO1 := Lib.hid (HG.out.own k hkl)
        have hBW : Below ww.heap.size ww (ww.alloc (.cells #[.int .i64 l[k].k, .int .i64 l[k].a, .string l[k].nm, .string l[k].tx, .slice aa an ac] 29)) := below_alloc _ _
        have HBW : Hid (Below w2.heap.size w2 (ww.alloc (.cells #[.int .i64 l[k].k, .int .i64 l[k].a, .string l[k].nm, .string l[k].tx, .slice aa an ac] 29))) := HB.out.trans (hBW.mono HB.out.size)
        have HX1 : Hid ((ww.alloc (.cells #[.int .i64 l[k].k, .int .i64 l[k].a, .string l[k].nm, .string l[k].tx, .slice aa an ac] 29)).heap[ww.heap.size]? = some (.cells #[.int .i64 l[k].k, .int .i64 l[k].a, .string l[k].nm, .string l[k].tx, .slice aa an ac] 29 (0, 0))) := heap_alloc_new _ _
        rw [hat] at d4
        have hc0 := Lib.hid hc
        clear hBW hc hne heq
        generalize hW : ww.alloc (.cells #[.int .i64 l[k].k, .int .i64 l[k].a, .string l[k].nm, .string l[k].tx, .slice aa an ac] 29) = W at HBW HX1
        go_upto_region 9 with fail
        clear hW d0 d1 d2 d3 d4
        obtain ⟨e0, e1, e2, e3, e4⟩ := five_block (t := ⟨l[k].k, l[k].a, l[k].nm, l[k].tx, .slice aa an ac⟩) HX1.out
        have q1 : decide ((l[k].a : Int) < 0) = false := decide_eq_false (by omega)
        have q1p : ¬ ((l[k].a : Int) < 0) := by omega
        have q2 : decide ((s.size : Int) ≤ l[k].a) = false := decide_eq_false (by omega)
        have q2p : ¬ ((s.size : Int) ≤ l[k].a) := by omega
        go_cut [50] from 26 to 50 (fun bv wx => bv = .bool false ∧ Hid (Below w2.heap.size w2 wx) ∧ Hid (wx.heap[ww.heap.size]? = some (.cells #[.int .i64 l[k].k, .int .i64 l[k].a, .string l[k].nm, .string l[k].tx, .slice aa an ac] 29 (0, 0))))
        case first =>
          by_cases hk0 : k = 0
          · have hkd : decide (0 < k) = false := decide_eq_false (by omega)
            have hkp : ¬ 0 < k := by omega
            have HK0 := Lib.hid hk0
            clear hk0
            go_quiet (fail)
            go_wp2_with fail
            go_meet
            exact ⟨rfl, below_drewN HBW.out _, HX1.out⟩
          · obtain ⟨j, rfl⟩ : ∃ j, k = j + 1 := ⟨k - 1, by omega⟩
            obtain ⟨b', off', hbo, _, _, hlt', hc'⟩ := HAT.out j (by omega)
            simp only [Option.some.injEq, Addr.mk.injEq, and_true] at hbo
            obtain ⟨rfl, rfl⟩ := hbo
            obtain ⟨p0, p1, _, _, _⟩ := five_later HBW.out hlt' hc'
            have hpos : decide (0 < j + 1) = true := decide_eq_true (by omega)
            have hsub : ((j + 1 : Nat) : Int) - 1 = ((j : Nat) : Int) := by omega
            have hpr := (HG.out.pair j hkl).1
            have q3 : decide ((l[j + 1].a : Int) ≤ l[j].a) = false := decide_eq_false (by omega)
            have q3p : ¬ ((l[j + 1].a : Int) ≤ l[j].a) := by omega
            clear hc'
            go_quiet (fail)
            go_wp2_with fail
            go_meet
            exact ⟨rfl, below_drewN HBW.out _, HX1.out⟩
        case rest =>
          obtain ⟨rfl, HB3, HX3⟩ := hcut
          clear HBW HX1 e0 e1 e2 e3 e4 q1 q1p q2 q2p
          obtain ⟨e0, e1, e2, e3, e4⟩ := five_block (t := ⟨l[k].k, l[k].a, l[k].nm, l[k].tx, .slice aa an ac⟩) HX3.out
          by_cases hk1 : l[k].k = 1
          · obtain ⟨hx0, hx1, hx2⟩ := HO1.out.2.2 hk1
            have q1 : (l[k].k != 1) = false := by rw [bne_eq_false_iff_eq]; exact hk1
            have HK1 := Lib.hid hk1
            clear hk1
            go_upto_region 14 with fail
            have HK2 := Lib.hid hx2
            have q2 : l[k].tx.toList.isEmpty = false := by
              rw [ByteArray.toList_eq, List.isEmpty_eq_false_iff]
              intro e
              have : l[k].tx.data.toList.length = l[k].tx.size := Array.length_toList
              rw [e] at this
              simp only [List.length_nil] at this
              omega
            have hsl : ∀ w, (Instr.slice 9 (.string s) (some (.int .i64 (l[k].a : Int))) none none).run Tryd.prog w = .ok (.string (s.extract l[k].a s.size)) w := by
              intro w
              have := run_slice_string_l (P := Tryd.prog) w 9 s Tryd.underlying9 .i64 (l[k].a : Int) (by omega) (by omega)
              simpa using this
            have HPX : Hid (∀ w', Calls Tryd.prog 6 #[.string (s.extract l[k].a s.size), .string l[k].tx] w' fun e w'' => e = .returned (.bool true) ∧ w'' = w') := fun w' => by
              have := Tryd.strings_HasPrefix (s.extract l[k].a s.size) l[k].tx w'
              have e : l[k].tx.data.toList = (s.extract l[k].a s.size).data.toList.take l[k].tx.size := by
                conv => lhs; rw [hx2]
                simp only [ByteArray.data_extract, Array.toList_extract, List.extract_eq_take_drop]
                rw [List.take_take]
                congr 1
                have : s.data.size = s.size := rfl
                omega
              rw [e, prefix_take] at this
              exact this
            clear hx2
            have hlb : (l[k].a : Int) ≤ s.size := by omega
            go_cut [106] from 59 to 106 (fun bv wx => bv = .bool false ∧ Hid (Below w2.heap.size w2 wx))
            case first =>
              by_cases hk2 : k + 1 < l.length
              · obtain ⟨b2, off2, hbo2, _, _, hlt2, hd2⟩ := HAT.out (k + 1) hk2
                simp only [Option.some.injEq, Addr.mk.injEq, and_true] at hbo2
                obtain ⟨rfl, rfl⟩ := hbo2
                obtain ⟨_, n1, _, _, _⟩ := five_later HB3.out hlt2 hd2
                have hpr2 := (HG.out.pair k hk2).2 HK1.out
                have hpe := hpr2.2
                have w1 : (l[k + 1].a : Int) = (l[k].a : Int) + l[k].tx.size := by omega
                have w2' : ((l[k + 1].a : Int) != (l[k].a : Int) + l[k].tx.size) = false := by rw [bne_eq_false_iff_eq]; exact w1
                have HW1 := Lib.hid w1
                have v1 : decide ((k : Int) + 1 < l.length) = true := decide_eq_true (by omega)
                have v1p : (k : Int) + 1 < l.length := by omega
                clear hd2 w1 hpr2 hpe
                by_cases hk0 : k = 0
                · have hkd : decide (0 < k) = false := decide_eq_false (by omega)
                  have hkp : ¬ 0 < k := by omega
                  have HK0 := Lib.hid hk0
                  clear hk0
                  go_quiet ((go_at_call 6; refine Calls.quiet_of_same (HPX.out _)))
                  go_wp2_with fail
                  go_meet
                  exact ⟨rfl, below_drewN HB3.out _⟩
                · obtain ⟨j, rfl⟩ : ∃ j, k = j + 1 := ⟨k - 1, by omega⟩
                  obtain ⟨b', off', hbo, _, _, hlt', hc'⟩ := HAT.out j (by omega)
                  simp only [Option.some.injEq, Addr.mk.injEq, and_true] at hbo
                  obtain ⟨rfl, rfl⟩ := hbo
                  obtain ⟨p0, p1, _, _, _⟩ := five_later HB3.out hlt' hc'
                  have hpos : decide (0 < j + 1) = true := decide_eq_true (by omega)
                  have hsub : ((j + 1 : Nat) : Int) - 1 = ((j : Nat) : Int) := by omega
                  have hjl : j < l.length := by omega
                  have hjlI : (j : Int) < l.length := by omega
                  have hj0 : (0 : Int) ≤ j := by omega
                  have hwj : IntKind.i64.wrap (j : Int) = (j : Int) := IntWalk.i64_in _ (by omega)
                  have hwj2 : IntKind.i64.wrap ((j : Int) + 1 + 1) = (j : Int) + 1 + 1 := IntWalk.i64_in _ (by omega)
                  have v2 : decide ((j : Int) + 1 + 1 < l.length) = true := decide_eq_true (by omega)
                  have v2p : (j : Int) + 1 + 1 < l.length := by omega
                  have q3 : (l[j].k == 1) = false := by
                    rw [beq_eq_false_iff_ne]
                    intro e
                    exact ((HG.out.pair j hkl).2 e).1 HK1.out
                  clear hc'
                  go_quiet ((go_at_call 6; refine Calls.quiet_of_same (HPX.out _)))
                  go_wp2_with fail
                  go_meet
                  exact ⟨rfl, below_drewN HB3.out _⟩
              · have v1 : decide ((k : Int) + 1 < l.length) = false := decide_eq_false (by omega)
                have v1p : ¬ (k : Int) + 1 < l.length := by omega
                by_cases hk0 : k = 0
                · have hkd : decide (0 < k) = false := decide_eq_false (by omega)
                  have hkp : ¬ 0 < k := by omega
                  have HK0 := Lib.hid hk0
                  clear hk0
                  go_quiet ((go_at_call 6; refine Calls.quiet_of_same (HPX.out _)))
                  go_wp2_with fail
                  go_meet
                  exact ⟨rfl, below_drewN HB3.out _⟩
                · obtain ⟨j, rfl⟩ : ∃ j, k = j + 1 := ⟨k - 1, by omega⟩
                  obtain ⟨b', off', hbo, _, _, hlt', hc'⟩ := HAT.out j (by omega)
                  simp only [Option.some.injEq, Addr.mk.injEq, and_true] at hbo
                  obtain ⟨rfl, rfl⟩ := hbo
                  obtain ⟨p0, p1, _, _, _⟩ := five_later HB3.out hlt' hc'
                  have hpos : decide (0 < j + 1) = true := decide_eq_true (by omega)
                  have hsub : ((j + 1 : Nat) : Int) - 1 = ((j : Nat) : Int) := by omega
                  have hjl : j < l.length := by omega
                  have hjlI : (j : Int) < l.length := by omega
                  have hj0 : (0 : Int) ≤ j := by omega
                  have hwj : IntKind.i64.wrap (j : Int) = (j : Int) := IntWalk.i64_in _ (by omega)
                  have hwj2 : IntKind.i64.wrap ((j : Int) + 1 + 1) = (j : Int) + 1 + 1 := IntWalk.i64_in _ (by omega)
                  have v2 : decide ((j : Int) + 1 + 1 < l.length) = false := decide_eq_false (by omega)
                  have v2p : ¬ (j : Int) + 1 + 1 < l.length := by omega
                  have q3 : (l[j].k == 1) = false := by
                    rw [beq_eq_false_iff_ne]
                    intro e
                    exact ((HG.out.pair j hkl).2 e).1 HK1.out
                  clear hc'
                  go_quiet ((go_at_call 6; refine Calls.quiet_of_same (HPX.out _)))
                  go_wp2_with fail
                  go_meet
                  exact ⟨rfl, below_drewN HB3.out _⟩
            case rest =>
              obtain ⟨rfl, HB4⟩ := hcut
              go_wp2_with fail
              go_roundw
              case rel => exact ⟨k + 1, by omega, by go_num, HB4.out⟩
              case measure => simp [intOf]; omega
          · have q1 : (l[k].k != 1) = true := by rw [bne_iff_ne]; exact hk1
            have h60 := HO1.out.2.1 hk1
            have q2 : ((s[l[k].a].toNat : Int) != 60) = false := by
              rw [bne_eq_false_iff_eq]
              rw [byteAt_lt ha] at h60
              exact h60
            have haI : (l[k].a : Int) < s.size := by omega
            clear hk1 h60
            go_wp2_with fail
            go_roundw
            case rel => exact ⟨k + 1, by omega, by go_num, HB3.out⟩
            case measure => simp [intOf]; omega
      · obtain rfl : k = l.length := by omega
        have q1 : decide ((l.length : Int) < l.length) = false := decide_eq_false (by omega)
        go_wp2_with fail
        go_ret
        exact ⟨rfl, HB2.out.trans (HB.out.mono HB2.out.size)⟩
end Go.Proofs.YtoalbfffojpnmaaDoor
