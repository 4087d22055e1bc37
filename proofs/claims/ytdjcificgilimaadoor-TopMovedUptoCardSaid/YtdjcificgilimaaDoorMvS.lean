/- The sort of the resolved redirects in ship.Moved. Conditions: at most 60 redirects. -/
import Derived.Test.YtdjcificgilimaaDoorMvL
import Derived.Test.YtdjcificgilimaaDoorShB
namespace Mh
open Go Go.RowKit
set_option linter.unusedVariables false
theorem rowsO_cells2 (l : List O) : ∀ u ∈ rowsO l, u.oneCell' = true := by
  induction l with
  | nil => intro u hu; simp [rowsO] at hu
  | cons o l ih =>
    intro u hu
    simp only [rowsO, List.mem_cons] at hu
    rcases hu with rfl | rfl | hu
    · rfl
    · rfl
    · exact ih u hu
/-- An own row of redirects, cell by cell. -/
theorem own_rows {w : World} {g cap n : Nat} {e : TypeId} {cur : Array Value} {gs : List O} (hg : w.heap[g]? = some (.cells cur e (0, 0))) (hn : n = gs.length) (hcap : n ≤ cap) (hs : cur.size = cap * 2) (ht : cur.toList.take (n * 2) = rowsO gs) :
    w.there g 0 (gs.length * 2) ∧ ∀ j (hj : j < gs.length), w.rangeAt g (0 + j * 2) (encO2 gs[j]) := by
  have hc : ∀ q u, (rowsO gs)[q]? = some u → w.cell? ⟨g, 0 + q, none⟩ = some u := fun q u h => by
    rw [Nat.zero_add, cell_of_row _ _ _ _ _ _ hg]
    rw [← ht, List.getElem?_take] at h
    split at h
    · simpa using h
    · cases h
  refine ⟨fun q hq => ⟨?_, frozenT hg⟩, fun j hj => ?_⟩
  · have hl : q < (rowsO gs).length := by rw [rowsO_len]; exact hq
    rw [hc q _ (List.getElem?_eq_getElem hl)]; rfl
  · obtain ⟨g1, g2⟩ := rowsO_get gs j hj
    intro q v hv
    unfold encO2 at hv
    match q, hv with
    | 0, hv => cases hv; have := hc _ _ g1; rwa [Nat.add_zero]
    | 1, hv => cases hv; have := hc _ _ g2; rwa [← Nat.add_assoc] at this
    | q + 2, hv => simp at hv
theorem sl_of_rows {w0 w : World} {g n cap : Nat} {l : List O} (hl : l.length = n) (hcap : n ≤ cap) (hm : cap ≤ maxLen) (h : RowSt encO2 2 w0 g 0 n w l.toArray) : Sl 2 w (.slice (some ⟨g, 0, none⟩) n cap) n (rowsO l) := by
  refine ⟨by rw [rowsO_len, hl], ?_⟩
  by_cases h0 : n = 0
  · subst h0; exact .inl ⟨rfl, _, _, rfl⟩
  · refine .inr ⟨g, 0, cap, rfl, by omega, hcap, hm, Nat.lt_of_lt_of_le h.lt h.alg.size, fun i u hu => ?_⟩
    have hi : i < n * 2 := by have := (List.getElem?_eq_some_iff.1 hu).1; rw [rowsO_len, hl] at this; exact this
    obtain ⟨g1, g2⟩ := rowsO_get l (i / 2) (by omega)
    have hr := h.rows (i / 2) (by omega)
    have hd : l.toArray[i / 2]! = l[i / 2]'(by omega) := by rw [getElem!_pos _ _ (by simp; omega)]; simp
    rw [hd] at hr
    rcases Nat.mod_two_eq_zero_or_one i with hi2 | hi2
    · have e : i = i / 2 * 2 := by omega
      rw [e] at hu ⊢
      rw [g1] at hu
      cases hu
      have := hr 0 _ rfl
      rwa [Nat.add_zero] at this
    · have e : i = i / 2 * 2 + 1 := by omega
      rw [e] at hu ⊢
      rw [g2] at hu
      cases hu
      have := hr 1 _ rfl
      rwa [Nat.add_assoc] at this
end Mh
namespace Go.Proofs.YtdjcificgilimaaDoor
open Go.RowKit Mh
open Go.Lib (swapperK)
set_option linter.unusedVariables false
theorem infoRedirect : (Tryd.prog.info? 29).map (fun i => (i.size, i.bytes, i.hasPointers)) = some (2, 32, true) := by kernel_rfl
/-- sort.SliceStable as Moved calls it. -/
theorem movSort_any (gs : List O) (hn : gs.length ≤ 1000) (v : Value) (w : World) (base G : Nat) (hown : w.ownsRow base 29 2 v gs.length (rowsO gs)) (hG : w.heap[G]? = some (.cells #[v] 23 (0, 0))) (hGb : G < base) (hbw : base ≤ w.heap.size) :
    Calls Tryd.prog 14 #[.iface 23 v, .func (.func 15) #[] #[.pointer (some ⟨G, 0, none⟩)]] w fun e w' => e = .returned (.tuple #[]) ∧ Sl 2 w' v gs.length (rowsO (gs.mergeSort fun x y => !klO y x)) ∧ Below base w w' ∧ ∀ k, k < w.heap.size → v.ownBlock ≠ some k → w'.heap[k]? = w.heap[k]? := by
  obtain ⟨i, hi, hd⟩ := Option.map_eq_some_iff.1 (show (Tryd.prog.info? 23).map (·.desc) = some (.slice 29) by kernel_rfl)
  obtain ⟨ie, hie, hie2⟩ := Option.map_eq_some_iff.1 infoRedirect
  simp only [Prod.mk.injEq] at hie2
  obtain ⟨hsz, hby, hpt⟩ := hie2
  have hke : ∀ w, (Extern.Rtype.kind 29).run Tryd.prog w = .ok 25 w := by intro w; kernel_rfl
  by_cases h2 : 2 ≤ gs.length
  · obtain ⟨hlen, ho⟩ := hown
    rcases ho with ⟨rfl, h0⟩ | ⟨g, cap, cur, rfl, hbg, hg, hncap, hcm, hcs, htake⟩
    · omega
    obtain ⟨hthere, hrows⟩ := own_rows hg rfl hncap hcs htake
    have hK : swapperK gs.length ie 25 = 9 := by
      unfold swapperK
      rw [hpt, hby]
      have e0 : (gs.length == 0) = false := by rw [beq_eq_false_iff_ne]; omega
      have e1 : (gs.length == 1) = false := by rw [beq_eq_false_iff_ne]; omega
      rw [e0, e1]; rfl
    have hgl : g < w.heap.size := (Array.getElem?_eq_some_iff.1 hg).1
    refine (sliceStable_cells (k := 2) (enc := encO2) (lt := klO) (fun _ => rfl) (fun x u hu => by
      unfold encO2 at hu
      rcases List.mem_cons.1 hu with rfl | hu
      · rfl
      · rcases List.mem_cons.1 hu with rfl | hu
        · rfl
        · cases hu) 23 29 i ie hi hd (by kernel_rfl) hie hsz 25 hke (by intro w; kernel_rfl) gs h2 (by omega) 44 (by rw [hK]; kernel_rfl) false
      (fun args W => run_callFunc_extern Tryd.func44 (by kernel_rfl) (by kernel_rfl) (by kernel_rfl) (e := Extern.ReflectliteSwapper.swap false) (by kernel_rfl) args W)
      (enters_of Tryd.func15 (by kernel_rfl) rfl) swo_klO w hgl hthere hrows fun w' d hS i j h3 h4 => movLess_any hS hG (by omega) hn i j h3 h4).mono ?_
    rintro e w' ⟨rfl, hS⟩
    exact ⟨rfl, sl_of_rows (by rw [List.length_mergeSort]) hncap hcm hS, hS.alg.below hbg hbw, fun k hk hne => hS.alg.block k hk fun e => hne (by rw [e]; rfl)⟩
  · have hs : gs.mergeSort (fun x y => !klO y x) = gs := by
      have aux : ∀ l : List O, ¬ 2 ≤ l.length → l.mergeSort (fun x y => !klO y x) = l := fun l h => by
        match l, h with
        | [], _ => simp
        | [a], _ => simp
        | a :: b :: r, h => exact absurd (by simp) h
      exact aux gs h2
    rw [hs]
    have hSl := Sl.of_own hown (by decide)
    have hK : swapperK gs.length ie 25 = gs.length + 1 := by
      unfold swapperK
      have : gs.length = 0 ∨ gs.length = 1 := by omega
      rcases this with e | e <;> rw [e] <;> rfl
    obtain ⟨p, c, hv⟩ : ∃ p c, v = .slice p gs.length c := by
      rcases hown.2 with ⟨rfl, h0⟩ | ⟨g, cap, cur, rfl, _⟩
      · exact ⟨none, 0, by rw [h0]⟩
      · exact ⟨_, _, rfl⟩
    have hf : ∃ f, Tryd.prog.funcs.findIdx? (·.name == "internal/reflectlite" ++ ".Swapper$" ++ toString (swapperK gs.length ie 25)) = some f := by
      rw [hK]
      have : gs.length = 0 ∨ gs.length = 1 := by omega
      rcases this with e | e
      · rw [e]; exact ⟨36, by kernel_rfl⟩
      · rw [e]; exact ⟨37, by kernel_rfl⟩
    obtain ⟨f, hf⟩ := hf
    subst hv
    refine (Any.sort_SliceStable_tiny Tryd.laysGt8 23 29 i ie hi hd (by kernel_rfl) hie 25 hke p gs.length c (by omega) f hf (.func 15) #[] #[.pointer (some ⟨G, 0, none⟩)] w).mono ?_
    rintro e w' ⟨rfl, os, rfl⟩
    have hb : Below w.heap.size w (Go.Sort.grow w os) := ⟨rfl, rfl, rfl, by simp [Go.Sort.grow], fun k hk => Go.Sort.heap_grow_old _ _ hk⟩
    exact ⟨rfl, hSl.below hb, hb.mono hbw, fun k hk _ => hb.block k hk⟩
end Go.Proofs.YtdjcificgilimaaDoor
