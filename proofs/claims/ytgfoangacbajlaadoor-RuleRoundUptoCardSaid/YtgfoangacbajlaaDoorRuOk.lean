/- lang's reader of rules: single, all, some: their contracts. Conditions: as stated. -/
import Derived.Test.YtgfoangacbajlaaDoorRuSi
namespace Go.Proofs.YtgfoangacbajlaaDoor
open Go.RowKit Mh
set_option linter.unusedVariables false

theorem single_ok (N : Nat) (hso : SomeOk N) : SingleOk (N + 1) := by
  intro k hN hf hrg h2 b s r w hs hr h
  obtain ⟨op, m, lo, hi, ks⟩ := k
  have h2 : op ≠ 2 := h2
  have hf2 := hf
  have hr2 := hrg
  unfold T.form at hf2
  unfold T.rng at hr2
  simp only [Bool.and_eq_true] at hr2
  have hkid : ∀ x ∈ ks, SizeOf.sizeOf x < N := fun x hx => by
    have := T.size_kid (op := op) (m := m) (lo := lo) (hi := hi) hx
    omega
  by_cases h1 : op = 1
  · subst h1
    rw [if_pos rfl] at hf2
    simp only [if_true, decide_eq_true_eq] at hr2
    obtain rfl : ks = [] := List.isEmpty_iff.1 hf2
    rw [itm_txt _ (by show (1 : Int) ≠ 3; decide)] at h
    unfold T.txt at h
    rw [if_neg (by decide), if_neg (by decide), if_neg (by decide)] at h
    exact single_within m lo hi b s r w hr2.2 hs hr h
  · rw [if_neg h1] at hf2
    by_cases h3 : op = 3
    · subst h3
      rw [if_pos (.inr rfl)] at hf2
      simp only [Bool.and_eq_true, decide_eq_true_eq] at hf2
      obtain ⟨⟨hlen, hfs⟩, rfl, rfl, rfl⟩ := hf2
      match ks, hlen with
      | k0 :: kt, hlen =>
      have h3k : ∀ x ∈ k0 :: kt, x.op ≠ 3 := fun x hx => (forms_kid 3 _ hfs x hx).2 (by decide)
      have ht : itm (.mk 3 0 0 0 (k0 :: kt)) = 40 :: (itm k0 ++ (tailB sOr (kt.map itm) ++ [41])) := by
        show T.kid 4 _ = _
        unfold T.kid
        rw [if_pos ⟨rfl, by decide⟩]
        unfold T.txt
        rw [if_neg (by decide), if_pos rfl, T.txts_map, List.map_cons, joinB_tail, itm_some k0 (h3k _ (by simp)), List.append_assoc]
        congr 4
        exact List.map_congr_left fun x hx => itm_some x (h3k x (by simp [hx]))
      have h' : SR b s (40 :: (itm k0 ++ (tailB sOr (kt.map itm) ++ 41 :: r))) w := by
        rw [ht] at h
        simpa using h
      exact single_some N hso k0 kt (by simp at hlen; omega) (fun x hx => ⟨hkid x hx, (forms_kid 3 _ hfs x hx).1, rngs_kid _ hr2.1 x hx⟩) h3k b s r w hs h'
    · rw [if_neg (by omega)] at hf2
      by_cases h4 : op = 4
      · subst h4
        rw [if_pos rfl] at hf2
        simp only [Bool.and_eq_true, decide_eq_true_eq] at hf2
        obtain ⟨⟨hlen, hfs⟩, rfl, rfl, rfl⟩ := hf2
        match ks, hlen with
        | k0 :: kt, hlen =>
        have ht : itm (.mk 4 0 0 0 (k0 :: kt)) = 33 :: 40 :: (itm k0 ++ (tailB sOr (kt.map itm) ++ [41])) := by
          rw [itm_txt _ (by show (4 : Int) ≠ 3; decide)]
          unfold T.txt
          rw [if_neg (by decide), if_neg (by decide), if_pos rfl, T.txts_map, List.map_cons, joinB_tail, List.append_assoc]
          rfl
        have h' : SR b s (33 :: 40 :: (itm k0 ++ (tailB sOr (kt.map itm) ++ 41 :: r))) w := by
          rw [ht] at h
          simpa using h
        exact single_none N hso k0 kt (fun x hx => ⟨hkid x hx, (forms_kid 4 _ hfs x hx).1, rngs_kid _ hr2.1 x hx⟩) b s r w hs h'
      · rw [if_neg h4] at hf2
        cases hf2
theorem some_ok : ∀ N : Nat, SomeOk N
  | 0 => fun k ks hk => absurd (hk k (by simp)).1 (by omega)
  | N + 1 => some_walk (N + 1) (all_ok (N + 1) (single_ok N (some_ok N)))
end Go.Proofs.YtgfoangacbajlaaDoor
