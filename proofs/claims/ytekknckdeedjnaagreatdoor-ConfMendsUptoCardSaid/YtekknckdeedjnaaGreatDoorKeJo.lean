/- conf.joined. Conditions: bounds on the sizes. -/
import Derived.Test.YtekknckdeedjnaaGreatDoorKeM
namespace Go.Proofs.YtekknckdeedjnaaGreatDoor
open Go.RowKit Mh
set_option linter.unusedVariables false

theorem joined_any (r p : ByteArray) (w : World) (hs : r.size + 1 + p.size ≤ 2147483648) : Calls Tryz.prog 43 #[.string r, .string p] w fun e w' => e = .returned (.string (joinR r p)) ∧ w = w' := by
  by_cases h0 : r.size = 0
  · have he := empty_of h0
    have H : Hid (joinR r p = p) := by show _ = _; unfold joinR; rw [if_pos h0]
    clear h0
    go_enter Tryz.func43, Tryz.ntmps43
    go_wp2_with fail
    go_ret
    exact ⟨by rw [H.out]; rfl, rfl⟩
  · have he := empty_not h0
    have H : Hid (joinR r p = r ++ ⟨#[46]⟩ ++ p) := by show _ = _; unfold joinR; rw [if_neg h0]
    clear h0
    go_enter Tryz.func43, Tryz.ntmps43
    go_wp2_with fail
    go_ret
    exact ⟨by rw [H.out]; rfl, rfl⟩
end Go.Proofs.YtekknckdeedjnaaGreatDoor
