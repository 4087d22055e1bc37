/- What a sort by 'less' and 'swap' asks: a state that both carry on; the state of a row of elements of some cells under reflect's swapper. Over any program. -/
import Derived.Test.YtgalcdolhnckmaaGreatDoorBase
import Derived.Test.YtgalcdolhnckmaaGreatDoorSrT
import Derived.Lib.ReflectliteSwap
import Derived.Deep.MidRow
import Derived.BigQuiet
namespace Mh
open Go Go.RowKit
open Go.Sort (swp size_swp swp_left swp_right swp_other)
set_option linter.unusedVariables false
/-- w' has grown out of w; block blk alone may have turned. -/
structure Alg (blk : Nat) (w w' : World) : Prop where
  os : w'.os = w.os
  tape : w'.tape = w.tape
  output : w'.output = w.output
  size : w.heap.size ≤ w'.heap.size
  block : ∀ k, k < w.heap.size → k ≠ blk → w'.heap[k]? = w.heap[k]?
theorem Alg.refl (blk : Nat) (w : World) : Alg blk w w := ⟨rfl, rfl, rfl, Nat.le_refl _, fun _ _ _ => rfl⟩
theorem Alg.trans {blk : Nat} {a b c : World} (h : Alg blk a b) (g : Alg blk b c) : Alg blk a c :=
  ⟨g.os.trans h.os, g.tape.trans h.tape, g.output.trans h.output, Nat.le_trans h.size g.size, fun k h1 h2 => (g.block k (Nat.lt_of_lt_of_le h1 h.size) h2).trans (h.block k h1 h2)⟩
theorem Alg.of_below {blk : Nat} {w w' : World} (h : Below w.heap.size w w') : Alg blk w w' := ⟨h.os, h.tape, h.output, h.size, fun k h1 _ => h.block k h1⟩
theorem Alg.alloc {blk : Nat} {w w' : World} (h : Alg blk w w') (o : Obj) : Alg blk w (w'.alloc o) := h.trans (.of_below ((Below.refl _ w').alloc (Nat.le_refl _) o))
theorem below_drewN_at (w : World) (q : Nat) : Below w.heap.size w (w.drewN q) := ⟨rfl, rfl, rfl, Nat.le_refl _, fun _ _ => rfl⟩
theorem Alg.drewN {blk : Nat} {w w' : World} (h : Alg blk w w') (q : Nat) : Alg blk w (w'.drewN q) := h.trans (.of_below (below_drewN_at w' q))
theorem Alg.below {blk B : Nat} {w w' : World} (h : Alg blk w w') (hb : B ≤ blk) (hB : B ≤ w.heap.size) : Below B w w' := ⟨h.os, h.tape, h.output, h.size, fun k hk => h.block k (by omega) (by omega)⟩
/-- What 'less' and 'swap' do to a state. -/
structure Srt {β : Type} [Inhabited β] (P : Program) (g : Nat) (lb : Array Value) (sf : Nat) (sb : Array Value) (blk n : Nat) (lt : β → β → Bool) (St : World → Array β → Prop) : Prop where
  sz : ∀ w d, St w d → d.size = n ∧ blk < w.heap.size
  grow : ∀ w w' d, St w d → Below w.heap.size w w' → St w' d
  eg : ∀ args w, (callFunc g args).run P w = .ok (.enter g args) w
  less : ∀ w d, St w d → ∀ i j, i < n → j < n → Calls P g (#[.int .i64 (i : Nat), .int .i64 (j : Nat)] ++ lb) w fun e w' => e = .returned (.bool (lt d[i]! d[j]!)) ∧ Below w.heap.size w w'
  swap : ∀ w d, St w d → ∀ i j, i < n → j < n → ∃ w', (callFunc sf (#[.int .i64 (i : Nat), .int .i64 (j : Nat)] ++ sb)).run P w = .ok (.value (.tuple #[])) w' ∧ St w' (swp d i j) ∧ Alg blk w w'
theorem Srt.al {β : Type} [Inhabited β] {P : Program} {g : Nat} {lb : Array Value} {sf : Nat} {sb : Array Value} {blk n : Nat} {lt : β → β → Bool} {St : World → Array β → Prop} (S : Srt P g lb sf sb blk n lt St) {w : World} {d : Array β} (h : St w d) (o : Obj) : St (w.alloc o) d := S.grow _ _ _ h ((Below.refl _ w).alloc (Nat.le_refl _) o)
/-- A row of n elements of k cells each. -/
structure RowSt {β : Type} [Inhabited β] (enc : β → List Value) (k : Nat) (w0 : World) (blk off n : Nat) (w : World) (d : Array β) : Prop where
  size : d.size = n
  lt : blk < w0.heap.size
  alg : Alg blk w0 w
  there : w.there blk off (n * k)
  rows : ∀ j, j < n → w.rangeAt blk (off + j * k) (enc d[j]!)
theorem rangeAt_below {w w' : World} {b o : Nat} {cs : List Value} (h : w.rangeAt b o cs) (hb : Below w.heap.size w w') : w'.rangeAt b o cs := fun j v hv => by
  have := h j v hv
  rw [hb.cell (World.block_lt_of_cell? w _ this)]; exact this
theorem there_below {w w' : World} {b o n : Nat} (h : w.there b o n) (hb : Below w.heap.size w w') : w'.there b o n := fun j hj => by
  obtain ⟨h1, h2⟩ := h j hj
  obtain ⟨u, hu⟩ := Option.isSome_iff_exists.1 h1
  have hl := World.block_lt_of_cell? w _ hu
  refine ⟨by rw [hb.cell hl]; exact h1, ?_⟩
  have := (bcell hb).2 b (o + j) hl
  rw [this]; exact h2
theorem RowSt.grow {β : Type} [Inhabited β] {enc : β → List Value} {k : Nat} {w0 : World} {blk off n : Nat} {w w' : World} {d : Array β} (h : RowSt enc k w0 blk off n w d) (hb : Below w.heap.size w w') : RowSt enc k w0 blk off n w' d :=
  ⟨h.size, h.lt, h.alg.trans (.of_below hb), there_below h.there hb, fun j hj => rangeAt_below (h.rows j hj) hb⟩
theorem alg_setCells (blk o : Nat) : ∀ (vs : List Value) (o : Nat) (w : World), Alg blk w (w.setCells blk o vs)
  | [], _, w => Alg.refl _ _
  | v :: r, o, w => by
    rw [World.setCells]
    refine Alg.trans ?_ (alg_setCells blk o r (o + 1) _)
    exact ⟨rfl, rfl, rfl, by simp [World.setCell], fun k h1 h2 => Below.heap_setCell _ _ _ _ (by simpa using h2)⟩
theorem RowSt.swap {β : Type} [Inhabited β] {enc : β → List Value} {k : Nat} {w0 : World} {blk off n : Nat} {w : World} {d : Array β} (hk : ∀ x, (enc x).length = k) (h : RowSt enc k w0 blk off n w d) {i j : Nat} (hi : i < n) (hj : j < n) :
    RowSt enc k w0 blk off n ((w.setCells blk (off + i * k) (enc d[j]!)).setCells blk (off + j * k) (enc d[i]!)) (swp d i j) := by
  have hs := h.size
  have hin : i * k + k ≤ n * k := by rw [← Nat.succ_mul]; exact Nat.mul_le_mul_right _ hi
  have hjn : j * k + k ≤ n * k := by rw [← Nat.succ_mul]; exact Nat.mul_le_mul_right _ hj
  have ap : ∀ a b : Nat, a ≠ b → a * k + k ≤ b * k ∨ b * k + k ≤ a * k := fun a b hab => by
    rcases Nat.lt_or_gt_of_ne hab with q | q
    · left; rw [← Nat.succ_mul]; exact Nat.mul_le_mul_right _ q
    · right; rw [← Nat.succ_mul]; exact Nat.mul_le_mul_right _ q
  have t1 : w.there blk (off + i * k) k := fun q hq => by have := h.there (i * k + q) (by omega); rwa [← Nat.add_assoc] at this
  have t2 : w.there blk (off + j * k) k := fun q hq => by have := h.there (j * k + q) (by omega); rwa [← Nat.add_assoc] at this
  have r1 := World.rangeAt_setCells_same w blk (off + i * k) (enc d[j]!) (by rw [hk]; exact t1)
  refine ⟨by rw [size_swp]; exact hs, h.lt, h.alg.trans ((alg_setCells blk 0 _ _ _).trans (alg_setCells blk 0 _ _ _)), World.there_setCells (World.there_setCells h.there _ _ _) _ _ _, fun x hx => ?_⟩
  by_cases e1 : x = j
  · subst e1
    rw [swp_right _ _ _ (by omega)]
    exact World.rangeAt_setCells_same _ blk (off + x * k) (enc d[i]!) (by rw [hk]; exact World.there_setCells t2 _ _ _)
  · refine World.rangeAt_setCells_apart ?_ _ _ _ (.inr (by rw [hk, hk]; have := ap x j e1; omega))
    by_cases e2 : x = i
    · subst e2
      rw [swp_left _ _ _ (by omega) e1]; exact r1
    · rw [swp_other _ _ _ _ e2 e1]
      exact World.rangeAt_setCells_apart (h.rows x hx) _ _ _ (.inr (by rw [hk, hk]; have := ap x i e2; omega))
/-- The swapper of reflect at elements of several cells. -/
theorem rowSt_swaps {β : Type} [Inhabited β] {P : Program} {enc : β → List Value} {k : Nat} {w0 : World} {blk off n c : Nat} (hk : ∀ x, (enc x).length = k) (h1 : ∀ x, ∀ v ∈ enc x, v.oneCell' = true) (e : TypeId) (ie : TypeInfo) (hie : P.info? e = some ie) (hsz : ie.size = k)
    (hagg : ∀ w, (isAgg e).run P w = .ok true w) {sf : Nat} {gS : Bool} (hx : ∀ args W, (callFunc sf args).run P W = ((Extern.ReflectliteSwapper.swap gS args).run P W).andThen fun v w' => .ok (.value v) w') :
    ∀ w d, RowSt enc k w0 blk off n w d → ∀ i j, i < n → j < n → ∃ w', (callFunc sf (#[.int .i64 (i : Nat), .int .i64 (j : Nat)] ++ #[.slice (some ⟨blk, off, none⟩) n c, typeHandle P e])).run P w = .ok (.value (.tuple #[])) w' ∧ RowSt enc k w0 blk off n w' (swp d i j) ∧ Alg blk w w' := by
  intro w d h i j hi hj
  refine ⟨(w.setCells blk (off + i * k) (enc d[j]!)).setCells blk (off + j * k) (enc d[i]!), ?_, h.swap hk hi hj, (alg_setCells blk 0 _ _ _).trans (alg_setCells blk 0 _ _ _)⟩
  have hin : i * k + k ≤ n * k := by rw [← Nat.succ_mul]; exact Nat.mul_le_mul_right _ hi
  have hjn : j * k + k ≤ n * k := by rw [← Nat.succ_mul]; exact Nat.mul_le_mul_right _ hj
  have hr := Lib.run_swap_cells (P := P) gS e ie hie hagg blk off n c i j hi hj (enc d[i]!) (enc d[j]!) (by rw [hk, hsz]) (by rw [hk, hsz]) (h1 _) (h1 _) w
    (fun q v hv => by rw [hsz]; exact h.rows i hi q v hv) (fun q v hv => by rw [hsz]; exact h.rows j hj q v hv)
    (fun q hq => by rw [hsz] at hq ⊢; have := (h.there (i * k + q) (by omega)).2; rwa [← Nat.add_assoc] at this)
    (fun q hq => by rw [hsz] at hq ⊢; have := (h.there (j * k + q) (by omega)).2; rwa [← Nat.add_assoc] at this)
  rw [hx]
  show ((Extern.ReflectliteSwapper.swap gS #[.int .i64 i, .int .i64 j, .slice (some ⟨blk, off, none⟩) n c, typeHandle P e]).run P w).andThen _ = _
  rw [hr, hsz]
  rfl
/-- .. and at elements of one cell. -/
theorem rowSt_swaps_one {β : Type} [Inhabited β] {P : Program} {enc : β → Value} {w0 : World} {blk off n c : Nat} (h1 : ∀ x, (enc x).oneCell' = true) (e : TypeId) (ie : TypeInfo) (hie : P.info? e = some ie) (hsz : ie.size = 1)
    (hagg : ∀ w, (isAgg e).run P w = .ok false w) {sf : Nat} {gS : Bool} (hx : ∀ args W, (callFunc sf args).run P W = ((Extern.ReflectliteSwapper.swap gS args).run P W).andThen fun v w' => .ok (.value v) w') :
    ∀ w d, RowSt (fun x => [enc x]) 1 w0 blk off n w d → ∀ i j, i < n → j < n → ∃ w', (callFunc sf (#[.int .i64 (i : Nat), .int .i64 (j : Nat)] ++ #[.slice (some ⟨blk, off, none⟩) n c, typeHandle P e])).run P w = .ok (.value (.tuple #[])) w' ∧ RowSt (fun x => [enc x]) 1 w0 blk off n w' (swp d i j) ∧ Alg blk w w' := by
  intro w d h i j hi hj
  have hS := h.swap (k := 1) (fun x => (rfl : ([enc x] : List Value).length = 1)) hi hj
  refine ⟨_, ?_, hS, (alg_setCells blk 0 _ _ _).trans (alg_setCells blk 0 _ _ _)⟩
  have ci : w.cell? ⟨blk, off + i, none⟩ = some (enc d[i]!) := by have := h.rows i hi 0 _ rfl; rwa [Nat.mul_one, Nat.add_zero] at this
  have cj : w.cell? ⟨blk, off + j, none⟩ = some (enc d[j]!) := by have := h.rows j hj 0 _ rfl; rwa [Nat.mul_one, Nat.add_zero] at this
  have hr := Lib.run_swap_one (P := P) gS e ie hie hsz hagg blk off n c i j hi hj (enc d[i]!) (enc d[j]!) (h1 _) (h1 _) w ci cj (h.there i (by omega)).2 (h.there j (by omega)).2
  rw [hx]
  show ((Extern.ReflectliteSwapper.swap gS #[.int .i64 i, .int .i64 j, .slice (some ⟨blk, off, none⟩) n c, typeHandle P e]).run P w).andThen _ = _
  rw [hr, Nat.mul_one, Nat.mul_one]
  rfl
end Mh
