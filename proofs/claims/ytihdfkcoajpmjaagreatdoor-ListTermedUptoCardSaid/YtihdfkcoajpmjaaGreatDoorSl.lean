/- Slices as they lie in memory: 'Sl k w v n xs': v is a slice of n elements of k cells each, whose cells are xs. No program. -/
import Derived.Test.YtihdfkcoajpmjaaGreatDoorBase
import Derived.ProofKit
import Derived.OpenShut
namespace Mh
open Go Go.RowKit Go.ChangeShapes
set_option linter.unusedVariables false

def Sl (k : Nat) (w : World) (v : Value) (n : Nat) (xs : List Value) : Prop :=
  xs.length = n * k ∧ ((n = 0 ∧ ∃ a c, v = .slice a 0 c) ∨
    ∃ b off c, v = .slice (some ⟨b, off, none⟩) n c ∧ 0 < n ∧ n ≤ c ∧ c ≤ maxLen ∧ b < w.heap.size ∧ ∀ i u, xs[i]? = some u → w.cell? ⟨b, off + i, none⟩ = some u)

theorem Sl.below {k : Nat} {w w' : World} {v : Value} {n : Nat} {xs : List Value} (h : Sl k w v n xs) (hb : Below w.heap.size w w') : Sl k w' v n xs := by
  refine ⟨h.1, ?_⟩
  rcases h.2 with h2 | ⟨b, off, c, rfl, hn, hc, hm, hlt, hcell⟩
  · exact .inl h2
  · refine .inr ⟨b, off, c, rfl, hn, hc, hm, Nat.lt_of_lt_of_le hlt hb.size, fun i u hu => ?_⟩
    rw [hb.cell (p := ⟨b, off + i, none⟩) hlt]
    exact hcell i u hu

theorem Sl.of_own {k base e : Nat} {w : World} {v : Value} {n : Nat} {xs : List Value} (h : w.ownsRow base e k v n xs) (hk : 0 < k) : Sl k w v n xs := by
  refine ⟨h.1, ?_⟩
  rcases h.2 with ⟨rfl, hn⟩ | ⟨g, cap, cur, rfl, hb, hg, hnc, hcm, hcs, htake⟩
  · exact .inl ⟨hn, none, 0, rfl⟩
  · by_cases hn : n = 0
    · subst hn; exact .inl ⟨rfl, _, _, rfl⟩
    · refine .inr ⟨g, 0, cap, rfl, by omega, hnc, hcm, (Array.getElem?_eq_some_iff.1 hg).1, fun i u hu => ?_⟩
      rw [Nat.zero_add, cell_of_row _ _ _ _ _ _ hg]
      rw [← htake, List.getElem?_take] at hu
      split at hu
      · simpa using hu
      · cases hu

/-- A slice of integers that was read. -/
theorem open_sl_ints {H : Type} {enc : TypeId × Value → H} {P : Program} {w : World} {t e : TypeId} {k : IntKind} {fuel : Nat} {held : Bool} {u : Value} {x : DataW H × List MemPlace} (ht : P.underlying t = some (.slice e)) (he : P.underlying e = some (.int k)) (hc : P.cellsOf e = 1)
    (h : DataW.trod enc P w 0 (fun _ => true) held fuel t [u] = some x) : ∃ L : List Int, Sl 1 w u L.length (L.map (Value.int k)) ∧ ∀ n ∈ L, (Lit.int k n).wf = true := by
  rcases open_ints ht he hc h with ⟨hcs, _⟩ | ⟨a, len, cap, zs, hcs, _, hl, hm, hz, _, hcell, hwf⟩
  · simp only [List.cons.injEq, and_true] at hcs
    subst hcs
    exact ⟨[], ⟨rfl, .inl ⟨rfl, none, 0, rfl⟩⟩, by simp⟩
  · simp only [List.cons.injEq, and_true] at hcs
    subst hcs
    simp only [if_true] at hz
    have hlen : (zs.take len).length = len := by rw [List.length_take, hz]; omega
    refine ⟨zs.take len, ?_, fun n hn => hwf n (List.mem_of_mem_take hn)⟩
    rw [hlen]
    refine ⟨by rw [List.length_map, hlen]; omega, ?_⟩
    by_cases hn : len = 0
    · subst hn; exact .inl ⟨rfl, _, _, rfl⟩
    · have h0 := hcell 0 (by omega)
      obtain ⟨b, off, s⟩ := a
      have hs : s = none := by
        cases s with
        | none => rfl
        | some z =>
          exfalso
          simp only [Addr.add] at h0
          unfold World.cell? at h0
          split at h0
          · simp at h0
          · cases h0
      subst hs
      refine .inr ⟨b, off, cap, rfl, by omega, hl, hm, ?_, ?_⟩
      · exact World.block_lt_of_cell? w _ h0
      · intro i v hv
        rw [List.getElem?_map] at hv
        obtain ⟨z, hz1, rfl⟩ := Option.map_eq_some_iff.1 hv
        rw [List.getElem?_take] at hz1
        split at hz1
        · have hi := (List.getElem?_eq_some_iff.1 hz1)
          obtain ⟨hi1, hi2⟩ := hi
          have := hcell i hi1
          rw [Addr.add_lit] at this
          rw [this, List.getD, List.getElem?_eq_getElem hi1, Option.getD_some, hi2]
        · cases hz1
end Mh
