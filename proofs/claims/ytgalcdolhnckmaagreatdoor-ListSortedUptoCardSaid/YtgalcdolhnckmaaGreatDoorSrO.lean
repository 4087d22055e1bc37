/- sort.SliceStable at a row of elements of one cell, with what all elements have. Conditions: 'less' is a strict weak order. -/
import Derived.Test.YtgalcdolhnckmaaGreatDoorSrU
namespace Go.Proofs.YtgalcdolhnckmaaGreatDoor
open Go.RowKit Mh
open Go.Sort (swp SWO swp_left swp_right swp_other)
open Go.Lib (swapperK)
set_option linter.unusedVariables false
section
variable {α : Type} [Inhabited α]
set_option maxHeartbeats 1000000 in
theorem sliceStable_oneQ {g : Nat} {lb : Array Value} {blk off c : Nat} {enc : α → Value} {lt : α → α → Bool} (h1 : ∀ x, (enc x).oneCell' = true) (t e : TypeId) (i ie : TypeInfo) (hi : Tryz.prog.info? t = some i) (hd : i.desc = .slice e) (hpk : Tryz.prog.packed t = false) (hie : Tryz.prog.info? e = some ie) (hsz : ie.size = 1) (ke : Nat) (hke : ∀ w, (Extern.Rtype.kind e).run Tryz.prog w = .ok ke w)
    (hagg : ∀ w, (isAgg e).run Tryz.prog w = .ok false w) (l : List α) (h2 : 2 ≤ l.length) (hn : l.length < 1152921504606846976) (f : Nat) (hf : Tryz.prog.funcs.findIdx? (·.name == "internal/reflectlite" ++ ".Swapper$" ++ toString (swapperK l.length ie ke)) = some f)
    (gS : Bool) (hx : ∀ args W, (callFunc f args).run Tryz.prog W = ((Extern.ReflectliteSwapper.swap gS args).run Tryz.prog W).andThen fun v w' => .ok (.value v) w') (eg : ∀ args w, (callFunc g args).run Tryz.prog w = .ok (.enter g args) w) (hO : SWO lt) (w : World)
    (hb : blk < w.heap.size) (ht : w.there blk off (l.length * 1)) (hr : ∀ j (hj : j < l.length), w.rangeAt blk (off + j * 1) [enc l[j]]) (Q : α → Prop) (hQ : ∀ x ∈ l, Q x)
    (hless : ∀ w' (d : Array α), RowSt (fun x => [enc x]) 1 w blk off l.length w' d → (∀ i, i < l.length → Q d[i]!) → ∀ i j, i < l.length → j < l.length → Calls Tryz.prog g (#[.int .i64 (i : Nat), .int .i64 (j : Nat)] ++ lb) w' fun e w'' => e = .returned (.bool (lt d[i]! d[j]!)) ∧ Below w'.heap.size w' w'') :
    Calls Tryz.prog 13 #[.iface t (.slice (some ⟨blk, off, none⟩) l.length c), .func (.func g) #[] lb] w fun e w' => e = .returned (.tuple #[]) ∧ RowSt (fun x => [enc x]) 1 w blk off l.length w' (l.mergeSort fun x y => !lt y x).toArray := by
  have hB : sliceBound Tryz.prog e ie ke (some ⟨blk, off, none⟩) l.length c = #[.slice (some ⟨blk, off, none⟩) l.length c, typeHandle Tryz.prog e] := by
    unfold sliceBound; rw [if_neg (swapperK_gt _ _ _ h2)]
  have S : Srt Tryz.prog g lb f (sliceBound Tryz.prog e ie ke (some ⟨blk, off, none⟩) l.length c) blk l.length (fun (x y : α × Nat) => lt x.1 y.1) (fun w' D => RowSt (fun p : α × Nat => [enc p.1]) 1 w blk off l.length w' D ∧ ∀ i, i < l.length → Q D[i]!.1) := by
    refine ⟨fun w' d h => ⟨h.1.size, Nat.lt_of_lt_of_le h.1.lt h.1.alg.size⟩, fun w' w'' d h hb => ⟨h.1.grow hb, h.2⟩, eg, fun w' d h i j hi hj => ?_, ?_⟩
    · have := hless w' _ (RowSt.untag (enc := fun x => [enc x]) h.1) (fun k hk => by rw [map_fst_get d k (by rw [h.1.size]; exact hk)]; exact h.2 k hk) i j hi hj
      rwa [map_fst_get d i (by rw [h.1.size]; exact hi), map_fst_get d j (by rw [h.1.size]; exact hj)] at this
    · rw [hB]
      intro w' d h i j hi hj
      obtain ⟨w2, hr2, hS2, hA2⟩ := rowSt_swaps_one (enc := fun p : α × Nat => enc p.1) (fun p => h1 p.1) e ie hie hsz hagg hx w' d h.1 i j hi hj
      refine ⟨w2, hr2, ⟨hS2, fun k hk => ?_⟩, hA2⟩
      by_cases ej : k = j
      · subst ej
        rw [swp_right d i k (by rw [h.1.size]; exact hk)]
        exact h.2 i hi
      · by_cases ei : k = i
        · subst ei
          rw [swp_left d k j (by rw [h.1.size]; exact hk) ej]
          exact h.2 j hj
        · rw [swp_other d i j k ei ej]
          exact h.2 k hk
  refine (sliceStable_st (tag := fun p : α × Nat => p.2) t e i ie hi hd hpk hie ke hke hn f hf S (swo_fst hO) w (tagged l) ⟨RowSt.start (enc := fun x => [enc x]) hb ht hr, fun k hk => by rw [tagged_get l k hk]; exact hQ _ (List.getElem_mem hk)⟩).mono ?_
  rintro e' w' ⟨rfl, D, hS, hM, _⟩
  refine ⟨rfl, ?_⟩
  have hu := RowSt.untag (enc := fun x => [enc x]) hS.1
  have he : D.map (·.1) = (l.mergeSort fun x y => !lt y x).toArray := by
    rw [← stable_unique hO l (hM (tagged_inc l)), ← Array.toList_map]
  rw [he] at hu
  exact hu
end
end Go.Proofs.YtgalcdolhnckmaaGreatDoor
