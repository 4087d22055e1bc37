/- conf.joined, part: what they return. Conditions: sizes; the table of powers for Itoa. -/
import Derived.Test.YtbnlcnaccainhaaGreatDoorKeM
namespace Go.Proofs.YtbnlcnaccainhaaGreatDoor
open Go.RowKit Mh
set_option linter.unusedVariables false

theorem joined_any (r p : ByteArray) (w : World) (hs : r.size + 1 + p.size ≤ 2147483648) : Calls Tryz.prog 32 #[.string r, .string p] w fun e w' => e = .returned (.string (joinR r p)) ∧ w = w' := by
  by_cases h0 : r.size = 0
  · have he := empty_of h0
    have H : Hid (joinR r p = p) := by show _ = _; unfold joinR; rw [if_pos h0]
    clear h0
    go_enter Tryz.func32, Tryz.ntmps32
    go_wp2_with fail
    go_ret
    exact ⟨by rw [H.out]; rfl, rfl⟩
  · have he := empty_not h0
    have H : Hid (joinR r p = r ++ ⟨#[46]⟩ ++ p) := by show _ = _; unfold joinR; rw [if_neg h0]
    clear h0
    go_enter Tryz.func32, Tryz.ntmps32
    go_wp2_with fail
    go_ret
    exact ⟨by rw [H.out]; rfl, rfl⟩

set_option maxHeartbeats 1000000 in
theorem part_k (k : Int) (b : Bool) (n : Int) (t : ByteArray) (il : Nat) (ks : List ByteArray) (ia : Option Addr) (ic kc : Nat) (kb ko i : Nat) (w : World) (hk : (k == 6) = true) (hlen : ks.length ≤ 1099511627776) (hi : i < ks.length) (hkb : kb < w.heap.size) (hc : w.cell? ⟨kb, ko + i, none⟩ = some (.string ks[i])) :
    Calls Tryz.prog 33 #[.agg #[.int .i64 k, .bool b, .int .i64 n, .string t, .slice ia il ic, .slice (some ⟨kb, ko, none⟩) ks.length kc], .int .i64 i] w fun e w' => e = .returned (.string ks[i]) ∧ Below w.heap.size w w' := by
  have HB : Hid (Below w.heap.size w (w.alloc (.cells #[.int .i64 k, .bool b, .int .i64 n, .string t, .slice ia il ic, .slice (some ⟨kb, ko, none⟩) ks.length kc] 25))) := (Below.refl w.heap.size w).alloc (Nat.le_refl _) _
  have z := (HB.out.cell (p := ⟨kb, ko + i, none⟩) hkb).trans hc
  clear hc
  go_enter Tryz.func33, Tryz.ntmps33
  go_wp2_with fail
  go_ret
  exact ⟨rfl, HB.out⟩
end Go.Proofs.YtbnlcnaccainhaaGreatDoor
