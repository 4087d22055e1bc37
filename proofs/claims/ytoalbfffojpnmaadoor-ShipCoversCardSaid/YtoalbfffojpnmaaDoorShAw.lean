/- mastkeep1.awakeShip answers true. Conditions: the library's variable MaxLen holds an integer. -/
import Derived.Test.YtoalbfffojpnmaaDoorShB
namespace Go.Proofs.YtoalbfffojpnmaaDoor
open Go.RowKit Mh
set_option linter.unusedVariables false
set_option maxRecDepth 100000 in
set_option maxHeartbeats 4000000 in
theorem awakeShip_any (m : Int) (w : World) (hm : w.cell? ⟨0, 0, none⟩ = some (.int .i64 m)) : Calls Tryd.prog 4 #[] w fun e w' => e = .returned (.bool true) ∧ Below w.heap.size w w' := by
  have hmz : 0 < w.heap.size := World.block_lt_of_cell? w _ hm
  have HB : Hid (Below w.heap.size w (w.alloc (.cells #[.string ⟨#[]⟩, .string ⟨#[]⟩] 34))) := below_alloc _ _
  have hX : (w.alloc (.cells #[.string ⟨#[]⟩, .string ⟨#[]⟩] 34)).heap[w.heap.size]? = some (.cells #[.string ⟨#[]⟩, .string ⟨#[]⟩] 34 (0, 0)) := heap_alloc_new _ _
  have hO : OsAt (w.alloc (.cells #[.string ⟨#[]⟩, .string ⟨#[]⟩] 34)) (.slice (some ⟨w.heap.size, 0, none⟩) 1 1) [⟨⟨#[]⟩, ⟨#[]⟩⟩] := by
    refine ⟨⟨rfl, .inr ⟨w.heap.size, 0, 1, rfl, by decide, by decide, by decide, by simp, fun i u hu => ?_⟩⟩, fun o ho => ?_⟩
    · rw [Nat.zero_add, cell_of_row _ _ _ _ _ _ hX]
      simpa [rowsO] using hu
    · simp only [List.mem_singleton] at ho
      subst ho
      exact ⟨Nat.zero_le _, Nat.zero_le _⟩
  have HNO : Hid (¬ Outs [⟨⟨#[]⟩, ⟨#[]⟩⟩]) := fun h => by
    have := (h.2 0 (by decide)).1
    exact absurd this (by decide)
  have HC := Lib.hid (checkOuts_any _ _ m _ ((HB.out.cell hmz).trans hm) hO)
  clear hX hO hm
  go_enter Tryd.func4, Tryd.ntmps4
  go_wp2_with fail
  refine HC.out.mono ?_
  rintro e w2 ⟨r, rfl, hr, hb⟩
  have hq : (r != 0) = true := by rw [bne_iff_ne]; exact fun h => HNO.out (hr.1 h)
  have HB2 : Hid (Below w.heap.size w w2) := HB.out.trans (hb.mono HB.out.size)
  clear hr hb
  go_wp2_with fail
  go_ret
  exact ⟨rfl, HB2.out⟩
end Go.Proofs.YtoalbfffojpnmaaDoor
