/- The text of a rule's forms, part by part. Plain. -/
import Derived.Test.YtgfoangacbajlaaDoorRuFk
namespace Go.Proofs.YtgfoangacbajlaaDoor
open Go.RowKit Mh
set_option linter.unusedVariables false
def sSemi : List UInt8 := [59, 32]
theorem ruleTxt_cons (k : T) (ks : List T) : ruleTxt (k :: ks) = T.txt k ++ tailB sSemi (ks.map T.txt) := by
  unfold ruleTxt
  rw [List.map_cons, joinB_tail]
  rfl
theorem restO_semi : ∀ l : List (List UInt8), restO (tailB sSemi l)
  | [] => by
    refine ⟨⟨fun c hc => ?_, rfl⟩, rfl⟩
    simp [tailB] at hc
  | p :: l => by
    rw [tailB_cons]
    refine ⟨⟨fun c hc => ?_, ?_⟩, ?_⟩
    · simp [sSemi] at hc; subst hc; right; right; rfl
    · simp [sSemi, Lib.hasPrefix, List.isPrefixOf]
    · simp [sSemi, Lib.hasPrefix, List.isPrefixOf]
end Go.Proofs.YtgfoangacbajlaaDoor
