/- conf.follow as one contract: it follows a step. -/
import Derived.Test.YtbnlcnaccainhaaGreatDoorKeL
import Derived.Test.YtbnlcnaccainhaaGreatDoorVeil
namespace Go.Proofs.YtbnlcnaccainhaaGreatDoor
open Go.RowKit Mh
set_option linter.unusedVariables false

theorem follow_veil (S : Nat → Bool) (X : V) (cs : List Value) (s : St) (w : World) (h : VAt (veil S w) X cs) (hA : Asc X.kys) (hl : X.kd = 6 → X.kys.length = X.its.length) (hlen : X.its.length ≤ 1099511627776) :
    Calls Tryz.prog 27 #[.agg cs.toArray, .agg #[.string s.key, .int .i64 s.num, .bool false]] w fun e w' => ∃ ds : List Value, e = .returned (.tuple #[.agg ds.toArray, .bool (followV X s).isSome]) ∧ VAt (veil S w') ((followV X s).getD V.nil) ds ∧ Below w.heap.size w w' := by
  have hf := fun w' (hb : Below w.heap.size w w') (h6 : X.kd = 6) => find_any X cs s.key w' ((h.keeps (Keeps.bare S w)).keep hb) hA (by rw [hl h6]; exact hlen)
  obtain ⟨ia, ic, ka, kc, rfl, hil, hkl, htl, hss, rows, hS, hT⟩ := h.opened
  obtain ⟨_, _, hsl, hk⟩ := VsAt.item hS hT
  simp only [Value.slice.injEq] at hsl
  obtain ⟨rfl, _, rfl⟩ := hsl
  rw [vcs_arr] at hf ⊢
  have none_case : followV X s = none → Calls Tryz.prog 27 #[.agg #[.int .i64 X.kd, .bool X.bo, .int .i64 X.nu, .string X.tx, .slice ia X.its.length ic, .slice ka X.kys.length kc], .agg #[.string s.key, .int .i64 s.num, .bool false]] w (fun e w' => e = .returned (.tuple #[.agg zv.toArray, .bool false]) ∧ Below w.heap.size w w') →
      Calls Tryz.prog 27 #[.agg #[.int .i64 X.kd, .bool X.bo, .int .i64 X.nu, .string X.tx, .slice ia X.its.length ic, .slice ka X.kys.length kc], .agg #[.string s.key, .int .i64 s.num, .bool false]] w fun e w' => ∃ ds : List Value, e = .returned (.tuple #[.agg ds.toArray, .bool (followV X s).isSome]) ∧ VAt (veil S w') ((followV X s).getD V.nil) ds ∧ Below w.heap.size w w' := by
    intro hn hc
    rw [hn]
    exact hc.mono fun e w' ⟨h1, h2⟩ => ⟨zv, h1, zv_at _, h2⟩
  by_cases h0 : s.key.size = 0
  · have he := empty_of h0
    have hk0 : s.k0 = true := by unfold St.k0; rw [h0]; rfl
    by_cases h5 : X.kd = 5
    · have hb5 : (X.kd != 5) = false := by rw [bne_eq_false_iff_eq]; exact h5
      have hfv : followV X s = X.its[s.num]? := by unfold followV; rw [if_pos hk0, if_pos h5]
      by_cases hn : s.num < X.its.length
      · obtain ⟨b, off, ja, jc, la, lc, rfl, hlt, hat, hc6v⟩ := hk s.num hn
        rw [veil_size] at hlt
        have hc6 := fun j hj => (veil_cell (hc6v j hj)).2
        have H := follow_i X.kd X.bo X.nu X.tx X.its.length X.kys.length (some ⟨b, off, none⟩) ka ic kc s.key s.num w hb5 he hlen hn b off rfl hlt _ _ _ _ _ _ _ _ _ _ (hc6 0 (by omega)) (hc6 1 (by omega)) (hc6 2 (by omega)) (hc6 3 (by omega)) (hc6 4 (by omega)) (hc6 5 (by omega))
        rw [hfv, List.getElem?_eq_getElem hn]
        exact H.mono fun e w' ⟨h1, h2⟩ => ⟨_, h1, hat.keeps (Keeps.belows h2), h2⟩
      · exact none_case (by rw [hfv]; exact List.getElem?_eq_none (by omega)) (follow_o X.kd X.bo X.nu X.tx X.its.length X.kys.length ia ka ic kc s.key s.num w hb5 he hlen (by omega))
    · exact none_case (by unfold followV; rw [if_pos hk0, if_neg h5]) (follow_t X.kd X.bo X.nu X.tx X.its.length X.kys.length ia ka ic kc s.key s.num w (by rw [bne_iff_ne]; exact h5) he)
  · have he := empty_not h0
    have hk0 : ¬ s.k0 = true := by unfold St.k0; rw [beq_iff_eq]; exact h0
    by_cases h6 : X.kd = 6
    · have hb6 : (X.kd != 6) = false := by rw [bne_eq_false_iff_eq]; exact h6
      have hlow := low_le s.key X.kys
      have hfv : followV X s = if hit s.key X.kys = true then X.its[low s.key X.kys]? else none := by unfold followV; rw [if_neg hk0, if_pos h6]
      cases hh : hit s.key X.kys with
      | false =>
        refine none_case (by rw [hfv, hh]; rfl) (follow_m X.kd X.bo X.nu X.tx X.its.length X.kys.length ia ka ic kc s.key s.num (low s.key X.kys) w hb6 he ?_)
        intro w' hb
        have := hf w' hb h6
        rw [hh] at this
        exact this
      | true =>
        have hL : low s.key X.kys < X.its.length := by
          have h1 : X.kys[low s.key X.kys]? = some s.key := of_decide_eq_true hh
          have := (List.getElem?_eq_some_iff.1 h1).1
          rw [hl h6] at this
          exact this
        obtain ⟨b, off, ja, jc, la, lc, rfl, hlt, hat, hc6v⟩ := hk _ hL
        rw [veil_size] at hlt
        have hc6 := fun j hj => (veil_cell (hc6v j hj)).2
        have H := follow_h X.kd X.bo X.nu X.tx X.its.length X.kys.length ka ic kc s.key s.num (low s.key X.kys) w hb6 he hlen hL b off hlt _ _ _ _ _ _ _ _ _ _ (hc6 0 (by omega)) (hc6 1 (by omega)) (hc6 2 (by omega)) (hc6 3 (by omega)) (hc6 4 (by omega)) (hc6 5 (by omega)) (by
          intro w' hb
          have := hf w' hb h6
          rw [hh] at this
          exact this)
        rw [hfv, hh, if_pos rfl, List.getElem?_eq_getElem hL]
        exact H.mono fun e w' ⟨h1, h2⟩ => ⟨_, h1, hat.keeps (Keeps.belows h2), h2⟩
    · exact none_case (by unfold followV; rw [if_neg hk0, if_neg h6]) (follow_n X.kd X.bo X.nu X.tx X.its.length X.kys.length ia ka ic kc s.key s.num w (by rw [bne_iff_ne]; exact h6) he)
theorem follow_any (X : V) (cs : List Value) (s : St) (w : World) (h : VAt w X cs) (hA : Asc X.kys) (hl : X.kd = 6 → X.kys.length = X.its.length) (hlen : X.its.length ≤ 1099511627776) :
    Calls Tryz.prog 27 #[.agg cs.toArray, .agg #[.string s.key, .int .i64 s.num, .bool false]] w fun e w' => ∃ ds : List Value, e = .returned (.tuple #[.agg ds.toArray, .bool (followV X s).isSome]) ∧ VAt w' ((followV X s).getD V.nil) ds ∧ Below w.heap.size w w' :=
  (follow_veil (fun _ => false) X cs s w (h.keeps (Keeps.veil (Nat.le_refl _) fun k hk => ⟨rfl, rfl⟩)) hA hl hlen).mono fun e w' ⟨ds, h1, h2, h3⟩ => ⟨ds, h1, h2.keeps (Keeps.bare _ _), h3⟩
end Go.Proofs.YtbnlcnaccainhaaGreatDoor
