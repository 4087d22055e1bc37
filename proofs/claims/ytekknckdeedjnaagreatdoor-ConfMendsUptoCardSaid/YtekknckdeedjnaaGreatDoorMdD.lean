/- conf.remove along keys. Conditions: the value is right and of at most 4000 nodes. -/
import Derived.Test.YtekknckdeedjnaaGreatDoorMdC
namespace Go.Proofs.YtekknckdeedjnaaGreatDoor
open Go.RowKit Mh
set_option linter.unusedVariables false

theorem rem_any : ∀ (l : List ByteArray), l ≠ [] → l.length ≤ 402 → (∀ k ∈ l, isKeyL k.data.toList = true) → ∀ (X R : V), X.good → X.nodes ≤ 4000 → app1 X l none = some R → ∀ (S : Nat → Bool) (cs : List Value) (v : Value) (w : World), (∀ k, w.heap.size ≤ k → S k = false) → VAt (veil S w) X cs → StAt w v (l.map kst) →
    Calls Tryz.prog 19 #[.agg cs.toArray, v] w (RemOk S R w) := by
  intro l
  induction l with
  | nil => intro h; exact absurd rfl h
  | cons k p ih =>
    intro _ hlen hk X R hg hn hR S cs v w hS hX hv
    have hkk := hk k (by simp)
    by_cases h6 : X.kd = 6
    · have hT : tab X := ⟨hg, h6⟩
      have hf := follow_item h6 hkk
      unfold app1 at hR
      rw [if_pos h6] at hR
      cases hi : itemV X k with
      | none =>
        rw [hi] at hR
        simp only at hR
        split at hR
        · cases hR
        · cases hR
      | some x =>
        rw [hi] at hR
        simp only at hR
        have hm := (item_mem hT.asc hi).2
        cases p with
        | nil =>
          simp only [and_self, if_true, Option.some.injEq] at hR
          subst hR
          exact rem_leaf S X x (kst k) cs v w hS hX hv hT hn (kst_k0 hkk) (hf.trans hi) hi
        | cons q p =>
          rw [if_neg (by simp)] at hR
          cases ha : app1 x (q :: p) none with
          | none => rw [ha] at hR; cases hR
          | some y =>
            rw [ha] at hR
            cases hR
            refine rem_deep S X x y (kst k) ((q :: p).map kst) cs v w hS hX hv hT hn (kst_k0 hkk) (hf.trans hi) hi (by simp) (by simp at hlen ⊢; omega) ?_
            intro S' cs' v' w' hS' hX' hv'
            exact ih (by simp) (by simp at hlen ⊢; omega) (fun q' hq => hk q' (by simp [hq])) x y (hT.items x hm) (by have := nodes_item hm; omega) ha S' cs' v' w' hS' hX' hv'
    · unfold app1 at hR
      rw [if_neg h6] at hR
      cases hR
end Go.Proofs.YtekknckdeedjnaaGreatDoor
