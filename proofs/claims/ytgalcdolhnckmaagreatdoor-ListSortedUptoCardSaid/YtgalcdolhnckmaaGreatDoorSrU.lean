/- sort.SliceStable of a slice of whatever length below 2^60: the row then holds mergeSort's list. Conditions: 'less' is a strict weak order on what the row holds. -/
import Derived.Test.YtgalcdolhnckmaaGreatDoorSrV
import Derived.Test.YtgalcdolhnckmaaGreatDoorShelf
import Derived.Shelf.GgSortMore.Stable
namespace Mh
open Go Go.RowKit
open Go.Sort (SWO)
set_option linter.unusedVariables false
section
variable {α : Type} [Inhabited α]
theorem map_fst_get (D : Array (α × Nat)) (i : Nat) (h : i < D.size) : (D.map (·.1))[i]! = D[i]!.1 := by
  rw [getElem!_pos _ i (by simpa using h), getElem!_pos D i h, Array.getElem_map]
theorem RowSt.untag {enc : α → List Value} {k : Nat} {w0 : World} {blk off n : Nat} {w : World} {D : Array (α × Nat)} (h : RowSt (fun p : α × Nat => enc p.1) k w0 blk off n w D) : RowSt enc k w0 blk off n w (D.map (·.1)) :=
  ⟨by rw [Array.size_map]; exact h.size, h.lt, h.alg, h.there, fun j hj => by rw [map_fst_get D j (by rw [h.size]; exact hj)]; exact h.rows j hj⟩
/-- The row at its start, tagged. -/
theorem RowSt.start {enc : α → List Value} {k : Nat} {w : World} {blk off : Nat} {l : List α} (hb : blk < w.heap.size) (ht : w.there blk off (l.length * k)) (hr : ∀ j (hj : j < l.length), w.rangeAt blk (off + j * k) (enc l[j])) :
    RowSt (fun p : α × Nat => enc p.1) k w blk off l.length w (tagged l) :=
  ⟨tagged_size l, hb, Alg.refl _ _, ht, fun j hj => by rw [tagged_get l j hj]; exact hr j hj⟩
end
end Mh
namespace Go.Proofs.YtgalcdolhnckmaaGreatDoor
open Go.RowKit Mh
open Go.Sort (swp SWO)
open Go.Lib (swapperK)
set_option linter.unusedVariables false
section
variable {α : Type} [Inhabited α]
set_option maxHeartbeats 1000000 in
/-- sort.SliceStable over a state that 'less' and 'swap' carry on. -/
theorem sliceStable_st {β : Type} [Inhabited β] {g : Nat} {lb : Array Value} {blk off n c : Nat} {lt : β → β → Bool} {tag : β → Nat} {St : World → Array β → Prop} (t e : TypeId) (i ie : TypeInfo) (hi : Tryz.prog.info? t = some i) (hd : i.desc = .slice e) (hpk : Tryz.prog.packed t = false) (hie : Tryz.prog.info? e = some ie) (ke : Nat) (hke : ∀ w, (Extern.Rtype.kind e).run Tryz.prog w = .ok ke w)
    (hn : n < 1152921504606846976) (f : Nat) (hf : Tryz.prog.funcs.findIdx? (·.name == "internal/reflectlite" ++ ".Swapper$" ++ toString (swapperK n ie ke)) = some f)
    (S : Srt Tryz.prog g lb f (sliceBound Tryz.prog e ie ke (some ⟨blk, off, none⟩) n c) blk n lt St) (hO : SWO lt) (w : World) (d : Array β) (h : St w d) :
    Calls Tryz.prog 13 #[.iface t (.slice (some ⟨blk, off, none⟩) n c), .func (.func g) #[] lb] w fun e w' => e = .returned (.tuple #[]) ∧ ∃ d', St w' d' ∧ (Inc tag n d → Mrg lt tag 0 n d d') ∧ Alg blk w w' := by
  refine Any.sort_SliceStable_of_stable Tryz.laysGt8 t e i ie hi hd hpk hie ke hke (some ⟨blk, off, none⟩) n c (by omega) f hf (.func g) #[] lb w _ ?_
  have hW : Below w.heap.size w (stableWorld Tryz.prog Tryz.laysGt8_ren t (some ⟨blk, off, none⟩) n c w) := by
    unfold stableWorld
    exact ((Below.refl _ w).alloc (Nat.le_refl _) _).alloc (by simp) _
  refine (stable_any (tag := tag) S hO hn _ d (S.grow _ _ _ h hW)).mono ?_
  rintro e w' ⟨rfl, d', h1, h2, h3⟩
  exact ⟨rfl, d', h1, h2, (Alg.of_below hW).trans h3⟩
/-- .. at a row of elements of several cells. -/
theorem sliceStable_cells {g : Nat} {lb : Array Value} {blk off c k : Nat} {enc : α → List Value} {lt : α → α → Bool} (hk : ∀ x, (enc x).length = k) (h1 : ∀ x, ∀ v ∈ enc x, v.oneCell' = true) (t e : TypeId) (i ie : TypeInfo) (hi : Tryz.prog.info? t = some i) (hd : i.desc = .slice e) (hpk : Tryz.prog.packed t = false) (hie : Tryz.prog.info? e = some ie) (hsz : ie.size = k) (ke : Nat) (hke : ∀ w, (Extern.Rtype.kind e).run Tryz.prog w = .ok ke w)
    (hagg : ∀ w, (isAgg e).run Tryz.prog w = .ok true w) (l : List α) (h2 : 2 ≤ l.length) (hn : l.length < 1152921504606846976) (f : Nat) (hf : Tryz.prog.funcs.findIdx? (·.name == "internal/reflectlite" ++ ".Swapper$" ++ toString (swapperK l.length ie ke)) = some f)
    (gS : Bool) (hx : ∀ args W, (callFunc f args).run Tryz.prog W = ((Extern.ReflectliteSwapper.swap gS args).run Tryz.prog W).andThen fun v w' => .ok (.value v) w') (eg : ∀ args w, (callFunc g args).run Tryz.prog w = .ok (.enter g args) w) (hO : SWO lt) (w : World)
    (hb : blk < w.heap.size) (ht : w.there blk off (l.length * k)) (hr : ∀ j (hj : j < l.length), w.rangeAt blk (off + j * k) (enc l[j]))
    (hless : ∀ w' (d : Array α), RowSt enc k w blk off l.length w' d → ∀ i j, i < l.length → j < l.length → Calls Tryz.prog g (#[.int .i64 (i : Nat), .int .i64 (j : Nat)] ++ lb) w' fun e w'' => e = .returned (.bool (lt d[i]! d[j]!)) ∧ Below w'.heap.size w' w'') :
    Calls Tryz.prog 13 #[.iface t (.slice (some ⟨blk, off, none⟩) l.length c), .func (.func g) #[] lb] w fun e w' => e = .returned (.tuple #[]) ∧ RowSt enc k w blk off l.length w' (l.mergeSort fun x y => !lt y x).toArray := by
  have hB : sliceBound Tryz.prog e ie ke (some ⟨blk, off, none⟩) l.length c = #[.slice (some ⟨blk, off, none⟩) l.length c, typeHandle Tryz.prog e] := by
    unfold sliceBound; rw [if_neg (swapperK_gt _ _ _ h2)]
  have S : Srt Tryz.prog g lb f (sliceBound Tryz.prog e ie ke (some ⟨blk, off, none⟩) l.length c) blk l.length (fun (x y : α × Nat) => lt x.1 y.1) (fun w' D => RowSt (fun p : α × Nat => enc p.1) k w blk off l.length w' D) := by
    refine ⟨fun w' d h => ⟨h.size, Nat.lt_of_lt_of_le h.lt h.alg.size⟩, fun w' w'' d h hb => h.grow hb, eg, fun w' d h i j hi hj => ?_, ?_⟩
    · have := hless w' _ h.untag i j hi hj
      rwa [map_fst_get d i (by rw [h.size]; exact hi), map_fst_get d j (by rw [h.size]; exact hj)] at this
    · rw [hB]
      exact rowSt_swaps (enc := fun p : α × Nat => enc p.1) (fun p => hk p.1) (fun p => h1 p.1) e ie hie hsz hagg hx
  refine (sliceStable_st (tag := fun p : α × Nat => p.2) t e i ie hi hd hpk hie ke hke hn f hf S (swo_fst hO) w (tagged l) (RowSt.start hb ht hr)).mono ?_
  rintro e' w' ⟨rfl, D, hS, hM, _⟩
  refine ⟨rfl, ?_⟩
  have hu := hS.untag
  have he : D.map (·.1) = (l.mergeSort fun x y => !lt y x).toArray := by
    rw [← stable_unique hO l (hM (tagged_inc l)), ← Array.toList_map]
  rw [he] at hu
  exact hu
/-- .. and at a row of elements of one cell. -/
theorem sliceStable_one {g : Nat} {lb : Array Value} {blk off c : Nat} {enc : α → Value} {lt : α → α → Bool} (h1 : ∀ x, (enc x).oneCell' = true) (t e : TypeId) (i ie : TypeInfo) (hi : Tryz.prog.info? t = some i) (hd : i.desc = .slice e) (hpk : Tryz.prog.packed t = false) (hie : Tryz.prog.info? e = some ie) (hsz : ie.size = 1) (ke : Nat) (hke : ∀ w, (Extern.Rtype.kind e).run Tryz.prog w = .ok ke w)
    (hagg : ∀ w, (isAgg e).run Tryz.prog w = .ok false w) (l : List α) (h2 : 2 ≤ l.length) (hn : l.length < 1152921504606846976) (f : Nat) (hf : Tryz.prog.funcs.findIdx? (·.name == "internal/reflectlite" ++ ".Swapper$" ++ toString (swapperK l.length ie ke)) = some f)
    (gS : Bool) (hx : ∀ args W, (callFunc f args).run Tryz.prog W = ((Extern.ReflectliteSwapper.swap gS args).run Tryz.prog W).andThen fun v w' => .ok (.value v) w') (eg : ∀ args w, (callFunc g args).run Tryz.prog w = .ok (.enter g args) w) (hO : SWO lt) (w : World)
    (hb : blk < w.heap.size) (ht : w.there blk off (l.length * 1)) (hr : ∀ j (hj : j < l.length), w.rangeAt blk (off + j * 1) [enc l[j]])
    (hless : ∀ w' (d : Array α), RowSt (fun x => [enc x]) 1 w blk off l.length w' d → ∀ i j, i < l.length → j < l.length → Calls Tryz.prog g (#[.int .i64 (i : Nat), .int .i64 (j : Nat)] ++ lb) w' fun e w'' => e = .returned (.bool (lt d[i]! d[j]!)) ∧ Below w'.heap.size w' w'') :
    Calls Tryz.prog 13 #[.iface t (.slice (some ⟨blk, off, none⟩) l.length c), .func (.func g) #[] lb] w fun e w' => e = .returned (.tuple #[]) ∧ RowSt (fun x => [enc x]) 1 w blk off l.length w' (l.mergeSort fun x y => !lt y x).toArray := by
  have hB : sliceBound Tryz.prog e ie ke (some ⟨blk, off, none⟩) l.length c = #[.slice (some ⟨blk, off, none⟩) l.length c, typeHandle Tryz.prog e] := by
    unfold sliceBound; rw [if_neg (swapperK_gt _ _ _ h2)]
  have S : Srt Tryz.prog g lb f (sliceBound Tryz.prog e ie ke (some ⟨blk, off, none⟩) l.length c) blk l.length (fun (x y : α × Nat) => lt x.1 y.1) (fun w' D => RowSt (fun p : α × Nat => [enc p.1]) 1 w blk off l.length w' D) := by
    refine ⟨fun w' d h => ⟨h.size, Nat.lt_of_lt_of_le h.lt h.alg.size⟩, fun w' w'' d h hb => h.grow hb, eg, fun w' d h i j hi hj => ?_, ?_⟩
    · have := hless w' _ (RowSt.untag (enc := fun x => [enc x]) h) i j hi hj
      rwa [map_fst_get d i (by rw [h.size]; exact hi), map_fst_get d j (by rw [h.size]; exact hj)] at this
    · rw [hB]
      exact rowSt_swaps_one (enc := fun p : α × Nat => enc p.1) (fun p => h1 p.1) e ie hie hsz hagg hx
  refine (sliceStable_st (tag := fun p : α × Nat => p.2) t e i ie hi hd hpk hie ke hke hn f hf S (swo_fst hO) w (tagged l) (RowSt.start (enc := fun x => [enc x]) hb ht hr)).mono ?_
  rintro e' w' ⟨rfl, D, hS, hM, _⟩
  refine ⟨rfl, ?_⟩
  have hu := RowSt.untag (enc := fun x => [enc x]) hS
  have he : D.map (·.1) = (l.mergeSort fun x y => !lt y x).toArray := by
    rw [← stable_unique hO l (hM (tagged_inc l)), ← Array.toList_map]
  rw [he] at hu
  exact hu
end
end Go.Proofs.YtgalcdolhnckmaaGreatDoor
