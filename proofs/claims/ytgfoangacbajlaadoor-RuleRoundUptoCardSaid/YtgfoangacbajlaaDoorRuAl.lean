/- lang's reader of rules: all's contract from single's. Conditions: as stated. -/
import Derived.Test.YtgfoangacbajlaaDoorRuZ
namespace Go.Proofs.YtgfoangacbajlaaDoor
open Go.RowKit Mh
set_option linter.unusedVariables false

theorem all_ok (N : Nat) (hsg : SingleOk N) : AllOk N := by
  intro k hN hf hrg nn hnn b s r w hs hr h
  by_cases h2 : k.op = 2
  · obtain ⟨op, m, lo, hi, ks⟩ := k
    have h2 : op = 2 := h2
    subst h2
    have hf2 := hf
    unfold T.form at hf2
    rw [if_neg (by decide), if_pos (by decide)] at hf2
    simp only [Bool.and_eq_true, decide_eq_true_eq] at hf2
    obtain ⟨⟨hlen, hfs⟩, rfl, rfl, rfl⟩ := hf2
    have hrs : T.rngs ks = true := by
      unfold T.rng at hrg
      simp only [Bool.and_eq_true] at hrg
      exact hrg.1
    match ks, hlen with
    | k0 :: k1 :: kt, hlen =>
    have hk : ∀ x ∈ k0 :: k1 :: kt, SizeOf.sizeOf x < N ∧ x.form = true ∧ x.rng = true ∧ x.op ≠ 2 := fun x hx => by
      have h3 := forms_kid 2 _ hfs x hx
      have h4 := T.size_kid (op := 2) (m := 0) (lo := 0) (hi := 0) hx
      exact ⟨by omega, h3.1, rngs_kid _ hrs x hx, h3.2 (by decide)⟩
    have ht : itm (.mk 2 0 0 0 (k0 :: k1 :: kt)) = itm k0 ++ tailB sAnd ((k1 :: kt).map itm) := by
      rw [itm_txt _ (by show (2 : Int) ≠ 3; decide)]
      unfold T.txt
      rw [if_pos rfl, T.txts_map, List.map_cons, joinB_tail, itm_kid 2 k0 (by decide)]
      congr 2
      exact List.map_congr_left fun x _ => itm_kid 2 x (by decide)
    rw [ht, List.append_assoc] at h
    exact all_walk N hsg k0 (k1 :: kt) hk nn _ (fun e => by cases e) b s r w hs hr rfl h
  · have ht : itm k ++ r = itm k ++ (tailB sAnd (([] : List T).map itm) ++ r) := rfl
    rw [ht] at h
    refine all_walk N hsg k [] (fun x hx => ?_) nn _ (fun _ hB => ?_) b s r w hs hr rfl h
    · obtain rfl : x = k := by simpa using hx
      exact ⟨hN, hf, hrg, h2⟩
    · refine hnn (Decidable.byContradiction fun h3 => ?_)
      rw [itm_txt k h3] at hB
      obtain ⟨op, m, lo, hi, ks⟩ := k
      have h2 : op ≠ 2 := h2
      have h3 : op ≠ 3 := h3
      unfold T.txt at hB
      rw [if_neg h2, if_neg h3] at hB
      split at hB
      · simp [Lib.hasPrefix, List.isPrefixOf] at hB
      · simp [within, Lib.hasPrefix, List.isPrefixOf] at hB
end Go.Proofs.YtgfoangacbajlaaDoor
