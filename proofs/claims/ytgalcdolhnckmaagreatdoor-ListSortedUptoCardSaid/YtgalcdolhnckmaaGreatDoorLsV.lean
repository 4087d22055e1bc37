/- The sort of positions in list.Sort. Conditions: at most 2000 items, at most 8 keys. -/
import Derived.Test.YtgalcdolhnckmaaGreatDoorLsL
import Derived.Test.YtgalcdolhnckmaaGreatDoorSrO
namespace Mh
open Go Go.RowKit
set_option linter.unusedVariables false
def encP (p : Nat) : Value := .int .i64 (p : Nat)
theorem own_ints {w : World} {g n : Nat} {e : TypeId} {cur : Array Value} {ps : List Nat} (hg : w.heap[g]? = some (.cells cur e (0, 0))) (hn : n = ps.length) (ht : cur.toList.take (n * 1) = ps.map encP) :
    w.there g 0 (ps.length * 1) ∧ ∀ j (hj : j < ps.length), w.rangeAt g (0 + j * 1) [encP ps[j]] := by
  have hc : ∀ q (hq : q < ps.length), w.cell? ⟨g, 0 + q, none⟩ = some (encP ps[q]) := fun q hq => by
    rw [Nat.zero_add, cell_of_row _ _ _ _ _ _ hg]
    have h : (ps.map encP)[q]? = some (encP ps[q]) := by simp [hq]
    rw [← ht, List.getElem?_take] at h
    split at h
    · simpa using h
    · cases h
  refine ⟨fun q hq => ⟨?_, frozenT hg⟩, fun j hj => ?_⟩
  · rw [hc q (by omega)]; rfl
  · intro q v hv
    match q, hv with
    | 0, hv => cases hv; have := hc j hj; rwa [Nat.mul_one, Nat.add_zero]
    | q + 1, hv => simp at hv
theorem sl_of_ints {w0 w : World} {g n cap : Nat} {l : List Nat} (hl : l.length = n) (hcap : n ≤ cap) (hm : cap ≤ maxLen) (h : RowSt (fun x => [encP x]) 1 w0 g 0 n w l.toArray) : Sl 1 w (.slice (some ⟨g, 0, none⟩) n cap) n (l.map encP) := by
  refine ⟨by rw [List.length_map, hl, Nat.mul_one], ?_⟩
  by_cases h0 : n = 0
  · subst h0; exact .inl ⟨rfl, _, _, rfl⟩
  · refine .inr ⟨g, 0, cap, rfl, by omega, hcap, hm, Nat.lt_of_lt_of_le h.lt h.alg.size, fun i u hu => ?_⟩
    have hi : i < n := by have := (List.getElem?_eq_some_iff.1 hu).1; rw [List.length_map, hl] at this; exact this
    have hr := h.rows i hi 0 _ rfl
    have hd : l.toArray[i]! = l[i]'(by omega) := by rw [getElem!_pos _ _ (by simp; omega)]; simp
    rw [hd, Nat.mul_one, Nat.add_zero] at hr
    rw [hr, ← hu]
    simp [show i < l.length by omega]
end Mh
namespace Go.Proofs.YtgalcdolhnckmaaGreatDoor
open Go.RowKit Mh
open Go.Lib (swapperK)
set_option linter.unusedVariables false
theorem infoIntP : (Tryz.prog.info? 3).map (fun i => (i.size, i.bytes, i.hasPointers)) = some (1, 8, false) := by kernel_rfl
theorem stableK (l : List V) (ks : List Ky) (hk8 : ks.length ≤ 8) (hl2 : l.length ≤ 2000) (wv w : World) (KB VB OB : Nat) (hM : SortMem wv KB VB l ks) (hb : Below wv.heap.size wv w)
    (v : Value) (hown : w.ownsRow (OB + 1) 3 1 v l.length ((List.range l.length).map encP)) (hG : w.heap[OB]? = some (.cells #[v] 25 (0, 0))) (hOB : wv.heap.size ≤ OB) :
    Calls Tryz.prog 13 #[.iface 25 v, .func (.func 14) #[] #[.pointer (some ⟨KB, 0, none⟩), .pointer (some ⟨VB, 0, none⟩), .pointer (some ⟨OB, 0, none⟩)]] w fun e w' =>
      e = .returned (.tuple #[]) ∧ Sl 1 w' v l.length ((sortK l ks).map encP) ∧ Below OB w w' ∧ w'.heap[OB]? = some (.cells #[v] 25 (0, 0)) := by
  obtain ⟨i, hi, hd⟩ := Option.map_eq_some_iff.1 (show (Tryz.prog.info? 25).map (·.desc) = some (.slice 3) by kernel_rfl)
  obtain ⟨ie, hie, hie2⟩ := Option.map_eq_some_iff.1 infoIntP
  simp only [Prod.mk.injEq] at hie2
  obtain ⟨hsz, hby, hpt⟩ := hie2
  have hke : ∀ w, (Extern.Rtype.kind 3).run Tryz.prog w = .ok 2 w := by intro w; kernel_rfl
  have hOw : OB < w.heap.size := (Array.getElem?_eq_some_iff.1 hG).1
  by_cases h2 : 2 ≤ l.length
  · obtain ⟨hlen, ho⟩ := hown
    rcases ho with ⟨rfl, h0⟩ | ⟨g, cap, cur, rfl, hbg, hg, hncap, hcm, hcs, htake⟩
    · omega
    have hrl : (List.range l.length).length = l.length := List.length_range
    obtain ⟨hthere, hrows⟩ := own_ints (ps := List.range l.length) hg hrl.symm htake
    have hK : swapperK l.length ie 2 = 5 := by
      unfold swapperK
      rw [hpt, hby]
      have e0 : (l.length == 0) = false := by rw [beq_eq_false_iff_ne]; omega
      have e1 : (l.length == 1) = false := by rw [beq_eq_false_iff_ne]; omega
      rw [e0, e1]; rfl
    have hgl : g < w.heap.size := (Array.getElem?_eq_some_iff.1 hg).1
    have hS := sliceStable_oneQ (enc := encP) (lt := lessK l ks) (fun _ => rfl) 25 3 i ie hi hd (by kernel_rfl) hie hsz 2 hke (by intro w; kernel_rfl) (List.range l.length) (by rw [hrl]; exact h2) (by rw [hrl]; omega) 55 (by rw [hrl, hK]; kernel_rfl) true
      (fun args W => run_callFunc_extern Tryz.func55 (by kernel_rfl) (by kernel_rfl) (by kernel_rfl) (e := Extern.ReflectliteSwapper.swap true) (by kernel_rfl) args W)
      (enters_of Tryz.func14 (by kernel_rfl) rfl) (swo_lessK l ks) w (off := 0) (c := cap) hgl hthere hrows (fun p => p < l.length) (fun x hx => List.mem_range.1 hx)
      (lb := #[.pointer (some ⟨KB, 0, none⟩), .pointer (some ⟨VB, 0, none⟩), .pointer (some ⟨OB, 0, none⟩)]) fun w' d hR hQ i j h3 h4 => by
        rw [hrl] at hR hQ h3 h4
        have hbw : Below wv.heap.size wv w' := hb.trans (hR.alg.below (by omega) hb.size)
        have hci : w'.cell? ⟨g, i, none⟩ = some (.int .i64 (d[i]! : Nat)) := by have := hR.rows i h3 0 _ rfl; rwa [Nat.mul_one, Nat.zero_add, Nat.add_zero] at this
        have hcj : w'.cell? ⟨g, j, none⟩ = some (.int .i64 (d[j]! : Nat)) := by have := hR.rows j h4 0 _ rfl; rwa [Nat.mul_one, Nat.zero_add, Nat.add_zero] at this
        exact sortL_any l ks hk8 hl2 wv w' KB VB OB hM hbw g cap (cellT ((hR.alg.block OB hOw (by omega)).trans hG) rfl) hncap hcm i j h3 h4 _ _ (hQ i h3) (hQ j h4) hci hcj
    rw [hrl] at hS
    refine hS.mono ?_
    rintro e w' ⟨rfl, hR⟩
    exact ⟨rfl, sl_of_ints (sortK_len l ks) hncap hcm hR, hR.alg.below (by omega) (by omega), (hR.alg.block OB hOw (by omega)).trans hG⟩
  · have hs : sortK l ks = List.range l.length := by
      have aux : ∀ ps : List Nat, ¬ 2 ≤ ps.length → ps.mergeSort (fun x y => !lessK l ks y x) = ps := fun ps h => by
        match ps, h with
        | [], _ => simp
        | [a], _ => simp
        | a :: b :: r, h => exact absurd (by simp) h
      exact aux _ (by rw [List.length_range]; exact h2)
    rw [hs]
    have hSl := Sl.of_own hown (by decide)
    have hK : swapperK l.length ie 2 = l.length + 1 := by
      unfold swapperK
      have : l.length = 0 ∨ l.length = 1 := by omega
      rcases this with e | e <;> rw [e] <;> rfl
    obtain ⟨p, c, hv⟩ : ∃ p c, v = .slice p l.length c := by
      rcases hown.2 with ⟨rfl, h0⟩ | ⟨g, cap, cur, rfl, _⟩
      · exact ⟨none, 0, by rw [h0]⟩
      · exact ⟨_, _, rfl⟩
    have hf : ∃ f, Tryz.prog.funcs.findIdx? (·.name == "internal/reflectlite" ++ ".Swapper$" ++ toString (swapperK l.length ie 2)) = some f := by
      rw [hK]
      have : l.length = 0 ∨ l.length = 1 := by omega
      rcases this with e | e
      · rw [e]; exact ⟨51, by kernel_rfl⟩
      · rw [e]; exact ⟨52, by kernel_rfl⟩
    obtain ⟨f, hf⟩ := hf
    subst hv
    refine (Any.sort_SliceStable_tiny Tryz.laysGt8 25 3 i ie hi hd (by kernel_rfl) hie 2 hke p l.length c (by omega) f hf (.func 14) #[] _ w).mono ?_
    rintro e w' ⟨rfl, os, rfl⟩
    have hbg : Below w.heap.size w (Go.Sort.grow w os) := ⟨rfl, rfl, rfl, by simp [Go.Sort.grow], fun k hk => Go.Sort.heap_grow_old _ _ hk⟩
    exact ⟨rfl, hSl.below hbg, hbg.mono (by omega), (hbg.block OB hOw).trans hG⟩
end Go.Proofs.YtgalcdolhnckmaaGreatDoor
