/- awakeAsset returns true: the digest of the empty body is not empty. No conditions. -/
import Derived.Test.YtckinhebbhflgaaDig
namespace Go.Proofs.Ytckinhebbhflgaa
open Go.RowKit Mh
set_option linter.unusedVariables false

theorem awake_any (w : World) : Calls Try.prog 4 #[] w fun e w' => e = .returned (.bool true) ∧ Below w.heap.size w w' := by
  have hne : (⟨(digest ⟨#[]⟩).toArray⟩ : ByteArray).toList.isEmpty = false := by
    rw [ByteArray.toList_mk]
    have h2 := digest_length ⟨#[]⟩
    generalize digest ⟨#[]⟩ = l at *
    cases l with
    | nil => simp at h2
    | cons c l => rfl
  generalize hd : (⟨(digest ⟨#[]⟩).toArray⟩ : ByteArray) = d at *
  have HD := Lib.hid hd
  clear hd
  go_enter Try.func4, Try.ntmps4
  go_wp2_with fail
  refine (digest_any ⟨#[]⟩ w (by decide)).mono ?_
  rintro e w1 ⟨rfl, hb⟩
  rw [HD.out]
  go_wp2_with fail
  go_ret
  exact ⟨rfl, hb⟩
end Go.Proofs.Ytckinhebbhflgaa
