/- mastkeep1.at, awakeShip; cmp.Less, slices.IsSorted, slices.Contains of strings; slices.Clone of outputs. Conditions: as stated. -/
import Derived.Test.YtdjcificgilimaaDoorShI
import Derived.Test.YtdjcificgilimaaDoorApRd
import Derived.BigQuiet
import Derived.Lib.SliceRun
namespace Mh
open Go Go.RowKit
set_option linter.unusedVariables false
theorem look_first {l : List O} {name : ByteArray} {k : Nat} (hk : k < l.length) (h : l[k].p = name) (h0 : ∀ j (hj : j < l.length), j < k → l[j].p ≠ name) : lookO l name = some l[k].b := by
  unfold lookO
  have : (l.find? fun o => decide (o.p = name)) = some l[k] := by
    rw [List.find?_eq_some_iff_getElem]
    exact ⟨by simpa using h, k, hk, rfl, fun j hj => by simpa using h0 j (by omega) hj⟩
  rw [this]; rfl
def lookB (l : List O) (s : ByteArray) : ByteArray := (lookO l s).getD ⟨#[]⟩
end Mh
namespace Go.Proofs.YtdjcificgilimaaDoor
open Go.RowKit Mh Go.Sort
set_option linter.unusedVariables false
set_option maxRecDepth 100000 in
set_option maxHeartbeats 4000000 in
theorem at_any (v : Value) (l : List O) (hn : l.length ≤ 480) (name : ByteArray) (w : World) (hv : OsAt w v l) :
    Calls Tryd.prog 7 #[v, .string name] w fun e w' => e = .returned (.tuple #[.string (lookB l name), .bool (lookO l name).isSome]) ∧ Below w.heap.size w w' := by
  obtain ⟨ao, c, rfl, hlen, hat⟩ := hv.open
  have HAT := Lib.hid hat
  unfold maxLen at hlen
  clear hv hat
  go_enter Tryd.func7, Tryd.ntmps7
  go_wp2_with fail
  go_loopw [10] (fun i wr => ∃ k : Nat, k ≤ l.length ∧ i = .int .i64 k ∧ Hid (∀ j (hj : j < l.length), j < k → l[j].p ≠ name) ∧ Hid (Below w.heap.size w wr)) (fun i wr => l.length - (intOf i).toNat)
  case atStart => exact ⟨0, Nat.zero_le _, rfl, fun j hj h => by omega, Below.refl _ _⟩
  case round =>
    obtain ⟨k, hk, rfl, HA, HB⟩ := hrel
    by_cases hkl : k < l.length
    · obtain ⟨b, off, rfl, hc1, hc2, hlt, hc, hps, hbs⟩ := HAT.out k hkl
      obtain ⟨d0, d1⟩ := two_later HB.out hlt hc
      have HBW : Hid (Below w.heap.size w (wr.alloc (.cells #[.string l[k].p, .string l[k].b] 41))) := HB.out.trans ((below_alloc _ _).mono HB.out.size)
      have HX1 : Hid ((wr.alloc (.cells #[.string l[k].p, .string l[k].b] 41)).heap[wr.heap.size]? = some (.cells #[.string l[k].p, .string l[k].b] 41 (0, 0))) := heap_alloc_new _ _
      obtain ⟨e0, e1⟩ := pair_of_block HX1.out
      clear hc
      by_cases hnm : l[k].p = name
      · have HL := Lib.hid (look_first hkl hnm HA.out)
        have heq : (l[k].p.toList == name.toList) = true := by rw [hnm]; simp
        clear hnm
        go_wp2_with fail
        go_ret2
        exact ⟨by unfold lookB; rw [HL.out]; rfl, HBW.out⟩
      · have HA2 : Hid (∀ j (hj : j < l.length), j < k + 1 → l[j].p ≠ name) := fun j hj h => by
          by_cases e : j = k
          · subst e; exact hnm
          · exact HA.out j hj (by omega)
        have heq : (l[k].p.toList == name.toList) = false := str_neO hnm
        clear hnm
        go_wp2_with fail
        go_roundw
        case rel => exact ⟨k + 1, by omega, by go_num, HA2, HBW.out⟩
        case measure => simp [intOf]; omega
    · have HL : Hid (lookO l name = none) := look_none.2 fun o ho => by
        obtain ⟨j, hj, rfl⟩ := List.mem_iff_getElem.1 ho
        exact HA.out j hj (by omega)
      go_wp2_with fail
      go_ret2
      exact ⟨by unfold lookB; rw [HL.out]; rfl, HB.out⟩
theorem awakeShip_any (m : Int) (w : World) (hm : w.cell? ⟨0, 0, none⟩ = some (.int .i64 m)) : Calls Tryd.prog 4 #[] w fun e w' => e = .returned (.bool true) ∧ Below w.heap.size w w' := by
  have hmz : 0 < w.heap.size := World.block_lt_of_cell? w _ hm
  have HB : Hid (Below w.heap.size w (w.alloc (.cells #[.string ⟨#[]⟩, .string ⟨#[]⟩] 41))) := below_alloc _ _
  have hX : (w.alloc (.cells #[.string ⟨#[]⟩, .string ⟨#[]⟩] 41)).heap[w.heap.size]? = some (.cells #[.string ⟨#[]⟩, .string ⟨#[]⟩] 41 (0, 0)) := heap_alloc_new _ _
  have hO : OsAt (w.alloc (.cells #[.string ⟨#[]⟩, .string ⟨#[]⟩] 41)) (.slice (some ⟨w.heap.size, 0, none⟩) 1 1) [⟨⟨#[]⟩, ⟨#[]⟩⟩] := by
    refine ⟨⟨rfl, .inr ⟨w.heap.size, 0, 1, rfl, by decide, by decide, by decide, by simp, fun i u hu => ?_⟩⟩, fun o ho => ?_⟩
    · rw [Nat.zero_add, cell_of_row _ _ _ _ _ _ hX]
      simpa [rowsO] using hu
    · simp only [List.mem_singleton] at ho
      subst ho
      exact ⟨Nat.zero_le _, Nat.zero_le _⟩
  have HNO : Hid (¬ Outs [⟨⟨#[]⟩, ⟨#[]⟩⟩]) := fun h => by
    have := (h.2 0 (by decide)).1
    exact absurd this (by decide)
  have HC := Lib.hid (checkOuts_any _ _ m _ ((HB.out.cell hmz).trans hm) hO)
  clear hX hO hm
  go_enter Tryd.func4, Tryd.ntmps4
  go_wp2_with fail
  refine HC.out.mono ?_
  rintro e w2 ⟨r, rfl, hr, hb⟩
  have hq : (r != 0) = true := by rw [bne_iff_ne]; exact fun h => HNO.out (hr.1 h)
  have HB2 : Hid (Below w.heap.size w w2) := HB.out.trans (hb.mono HB.out.size)
  clear hr hb
  go_wp2_with fail
  go_ret
  exact ⟨rfl, HB2.out⟩
end Go.Proofs.YtdjcificgilimaaDoor
