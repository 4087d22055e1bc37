/- ship.bodies: the bodies of outputs by their paths. Conditions: at most 2^40 outputs. -/
import Derived.Test.YtdnajcohdhkidaaDoorShC
import Derived.Test.YtdnajcohdhkidaaDoorMp
namespace Mh
open Go Go.RowKit
set_option linter.unusedVariables false
theorem take_snocO {α : Type} (l : List α) (k : Nat) (h : k < l.length) : l.take (k + 1) = l.take k ++ [l[k]] := by
  rw [List.take_add_one, List.getElem?_eq_getElem h]; rfl
def bodV (l : List O) (s : ByteArray) : Option Value := (bodF l s).map Value.string
theorem bodV_step (l : List O) (k : Nat) (h : k < l.length) : (fun q => if q = l[k].p then some (Value.string l[k].b) else bodV (l.take k) q) = bodV (l.take (k + 1)) := by
  funext q
  unfold bodV
  rw [take_snocO l k h, bodF_app]
  split <;> rfl
theorem below_grown {w w1 w2 : World} {b : Nat} (h : Below w.heap.size w w1) (hg : w1.grownBy w2 (some b)) (hb : w.heap.size ≤ b) : Below w.heap.size w w2 :=
  ⟨hg.os.trans h.os, hg.tape.trans h.tape, hg.output.trans h.output, Nat.le_trans h.size hg.size, fun k hk => (hg.block k (Nat.lt_of_lt_of_le hk h.size) (fun e => by simp at e; omega)).trans (h.block k hk)⟩
end Mh
namespace Go.Proofs.YtdnajcohdhkidaaDoor
open Go.RowKit Mh
set_option linter.unusedVariables false
def BodP (l : List O) (w : World) (e : Ending) (w' : World) : Prop := ∃ b, e = .returned (.map (some b)) ∧ Below w.heap.size w w' ∧ w.heap.size ≤ b ∧ Hid (MapF Tryd.prog 9 w' b l.length (bodV l))
set_option maxRecDepth 100000 in
set_option maxHeartbeats 4000000 in
theorem bodies_any (v : Value) (l : List O) (w : World) (h : OsAt w v l) (hn : l.length ≤ 480) : Calls Tryd.prog 13 #[v] w (BodP l w) := by
  obtain ⟨ao, c, rfl, hlen, hat⟩ := h.open
  have HAT := Lib.hid hat
  have H0 : Hid (MapF Tryd.prog 9 (w.alloc (.map #[] 0)) w.heap.size 0 (bodV (l.take 0))) := mapF_made w Tryd.prog 9
  have HB0 : Hid (Below w.heap.size w (w.alloc (.map #[] 0))) := below_alloc _ _
  clear hat h
  unfold maxLen at hlen
  go_enter Tryd.func13, Tryd.ntmps13
  go_wp2_with (rw [run_makeMap])
  go_loopw [9] (fun i wr => ∃ k : Nat, k ≤ l.length ∧ i = .int .i64 k ∧ Hid (MapF Tryd.prog 9 wr w.heap.size k (bodV (l.take k))) ∧ Hid (Below w.heap.size w wr)) (fun i wr => l.length - (intOf i).toNat)
  case atStart => exact ⟨0, Nat.zero_le _, rfl, H0, HB0⟩
  case round =>
    clear H0 HB0
    obtain ⟨k, hk, rfl, HM, HB⟩ := hrel
    by_cases hkl : k < l.length
    · obtain ⟨b, off, rfl, hc1, hc2, hlt, hc, hps, hbs⟩ := HAT.out k hkl
      obtain ⟨d0, d1⟩ := two_later HB.out hlt hc
      have hBW : Below wr.heap.size wr (wr.alloc (.cells #[.string l[k].p, .string l[k].b] 30)) := below_alloc _ _
      have HBW : Hid (Below w.heap.size w (wr.alloc (.cells #[.string l[k].p, .string l[k].b] 30))) := HB.out.trans (hBW.mono HB.out.size)
      have HX1 : Hid ((wr.alloc (.cells #[.string l[k].p, .string l[k].b] 30)).heap[wr.heap.size]? = some (.cells #[.string l[k].p, .string l[k].b] 30 (0, 0))) := heap_alloc_new _ _
      have HM1 := Lib.hid (HM.out.alloc (.cells #[.string l[k].p, .string l[k].b] 30))
      have HZ : Hid (k < maxLen) := by unfold maxLen; show _ < _; omega
      have HST := Lib.hid (bodV_step l k hkl)
      obtain ⟨e0, e1⟩ := pair_of_block HX1.out
      generalize l[k] = o at *
      clear hBW hc
      go_wp2_with (at_mapUpdate; refine wpList_putF _ rfl _ _ _ 43 rfl 9 9 Tryd.underlying9 Tryd.underlying43 w.heap.size k _ rfl HM1.out HZ.out o.p rfl hps (.string o.b) rfl ?_; intro w4 hM4 hg4)
      have HM4 : Hid (MapF Tryd.prog 9 w4 w.heap.size (k + 1) (bodV (l.take (k + 1)))) := by rw [← HST.out]; exact hM4
      have HB4 : Hid (Below w.heap.size w w4) := below_grown HBW.out hg4 (Nat.le_refl _)
      clear hM4 hg4 d0 d1 e0 e1 HX1 HM1 HM HB HBW HST
      go_roundw
      case rel => exact ⟨k + 1, by omega, by go_num, HM4, HB4⟩
      case measure => simp [intOf]; omega
    · have hkl' : l.length ≤ k := by omega
      have HM4 : Hid (MapF Tryd.prog 9 wr w.heap.size l.length (bodV l)) := by
        have := HM.out
        rw [List.take_of_length_le hkl'] at this
        exact this.mono (by omega) |> fun h => by have e : k = l.length := by omega
                                                  subst e; exact h
      go_wp2_with fail
      go_ret
      exact ⟨w.heap.size, rfl, HB.out, Nat.le_refl _, HM4⟩
end Go.Proofs.YtdnajcohdhkidaaDoor
