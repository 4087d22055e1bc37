/- lang's reader of rules: form reads a test's text. Conditions: as stated. -/
import Derived.Test.YtgfoangacbajlaaDoorRuFo
namespace Go.Proofs.YtgfoangacbajlaaDoor
open Go.RowKit Mh
set_option linter.unusedVariables false

theorem form_ok (k : T) (hf : k.form = true) (hrg : k.rng = true) (b : Nat) (s : ByteArray) (r : List UInt8) (w : World) (hs : s.size ≤ 2000) (hr : restO r) (h : SR b s (T.txt k ++ r) w) :
    Calls Tryd.prog 12 #[.pointer (some ⟨b, 0, none⟩)] w (GotT b s k r w) := by
  by_cases h3 : k.op = 3
  · obtain ⟨op, m, lo, hi, ks⟩ := k
    have h3 : op = 3 := h3
    subst h3
    have hf2 := hf
    have hr2 := hrg
    unfold T.form at hf2
    unfold T.rng at hr2
    rw [if_neg (by decide), if_pos (by decide)] at hf2
    simp only [Bool.and_eq_true, decide_eq_true_eq] at hf2 hr2
    obtain ⟨⟨hlen, hfs⟩, rfl, rfl, rfl⟩ := hf2
    match ks, hlen with
    | k0 :: kt, hlen =>
    have h3k : ∀ x ∈ k0 :: kt, x.op ≠ 3 := fun x hx => (forms_kid 3 _ hfs x hx).2 (by decide)
    have ht : T.txt (.mk 3 0 0 0 (k0 :: kt)) = itm k0 ++ tailB sOr (kt.map itm) := by
      unfold T.txt
      rw [if_neg (by decide), if_pos rfl, T.txts_map, List.map_cons, joinB_tail, itm_some k0 (h3k _ (by simp))]
      congr 2
      exact List.map_congr_left fun x hx => itm_some x (h3k x (by simp [hx]))
    rw [ht, List.append_assoc] at h
    exact ruform_many k0 kt (by simp at hlen; omega) (fun x hx => ⟨(forms_kid 3 _ hfs x hx).1, rngs_kid _ hr2.1 x hx, h3k x hx⟩) b s r w hs hr h
  · rw [← itm_txt k h3] at h
    refine ruform_one k (fun x hx => ?_) b s r w hs hr h
    obtain rfl : x = k := by simpa using hx
    exact ⟨hf, hrg, h3⟩
end Go.Proofs.YtgfoangacbajlaaDoor
