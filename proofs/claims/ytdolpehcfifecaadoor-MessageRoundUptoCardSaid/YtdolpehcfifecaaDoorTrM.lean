/- A map in memory as a function from keys (of whatever type that has a law) to what stands there: made, looked up, written; an entry taken and stored later. Over any program. No conditions beyond those that each law states. -/
import Derived.Test.YtdolpehcfifecaaDoorBase
import Derived.Maps.OwnSet
import Derived.Maps.OwnOps
import Derived.WideKeyEntry
import Derived.StringKeys
import Derived.DeepKeys4
namespace Mh
open Go Go.RowKit Go.MapKept Go.ChangeMaps Go.WideElems Go.WideShapes
open Go.WideMaps (KeyLaw)
set_option linter.unusedVariables false
def rdV (v : Value) : Option (DataW Value × List MemPlace) := some (.held v, [])
/-- The entries give f. -/
def Ents (l : List MapEntry) (f : Value → Option Value) : Prop := ∀ q : Value, (∀ e ∈ l, e.key = q → f q = some e.val) ∧ ((∀ e ∈ l, e.key ≠ q) → f q = none)
open Classical in
noncomputable def updV (f : Value → Option Value) (key v : Value) : Value → Option Value := fun q => if q = key then some v else f q
theorem updV_same (f : Value → Option Value) (key v : Value) : updV f key v key = some v := by unfold updV; rw [if_pos rfl]
theorem updV_other (f : Value → Option Value) {key q : Value} (v : Value) (h : q ≠ key) : updV f key v q = f q := by unfold updV; rw [if_neg h]
theorem updV_again (f : Value → Option Value) (key u v : Value) : updV (updV f key u) key v = updV f key v := by
  funext q
  by_cases h : q = key
  · rw [h, updV_same, updV_same]
  · rw [updV_other _ _ h, updV_other _ _ h, updV_other _ _ h]
theorem updV_swap (f : Value → Option Value) {k1 k2 : Value} (u v : Value) (h : k1 ≠ k2) : updV (updV f k1 u) k2 v = updV (updV f k2 v) k1 u := by
  funext q
  by_cases h1 : q = k1
  · rw [h1, updV_other _ _ h, updV_same, updV_same]
  · by_cases h2 : q = k2
    · rw [h2, updV_same, updV_other _ _ (fun e => h e.symm), updV_same]
    · rw [updV_other _ _ h2, updV_other _ _ h1, updV_other _ _ h1, updV_other _ _ h2]
theorem Ents.push {l : List MapEntry} {f : Value → Option Value} (h : Ents l f) {key : Value} (v : Value) (c : Nat) (hn : ∀ e ∈ l, e.key ≠ key) : Ents (l ++ [⟨key, v, c⟩]) (updV f key v) := fun q => by
  refine ⟨fun e he hq => ?_, fun ha => ?_⟩
  · rcases List.mem_append.1 he with he | he
    · have : q ≠ key := fun e' => hn e he (hq.trans e')
      rw [updV_other _ _ this]
      exact (h q).1 e he hq
    · rw [List.mem_singleton] at he
      subst he
      simp only at hq
      subst hq
      exact updV_same _ _ _
  · have : q ≠ key := fun e' => ha ⟨key, v, c⟩ (by simp) e'.symm
    rw [updV_other _ _ this]
    exact (h q).2 fun e he => ha e (by simp [he])
theorem Ents.set {l : List MapEntry} {f : Value → Option Value} (h : Ents l f) (hp : l.Pairwise (fun x y => x.key ≠ y.key)) {j : Nat} {e0 : MapEntry} (h2 : l[j]? = some e0) {key : Value} (h3 : e0.key = key) (v : Value) :
    Ents (l.set j { e0 with key := key, val := v }) (updV f key v) := fun q => by
  have hj : j < l.length := (List.getElem?_eq_some_iff.1 h2).1
  have hej : l[j] = e0 := (List.getElem?_eq_some_iff.1 h2).2
  have hapart : ∀ i (hi : i < l.length), i ≠ j → l[i].key ≠ key := fun i hi hne => by
    rw [List.pairwise_iff_getElem] at hp
    rcases Nat.lt_or_gt_of_ne hne with g | g
    · have := hp i j hi hj g
      rw [hej, h3] at this
      exact this
    · have := hp j i hj hi g
      rw [hej, h3] at this
      exact fun e => this e.symm
  refine ⟨fun e he hq => ?_, fun ha => ?_⟩
  · obtain ⟨i, hi, hie⟩ := List.mem_iff_getElem.1 he
    rw [List.getElem_set] at hie
    have hi' : i < l.length := by simpa using hi
    split at hie
    · subst hie
      simp only at hq
      subst hq
      exact updV_same _ _ _
    · rename_i hne
      subst hie
      have hk := hapart i hi' (fun e => hne e.symm)
      rw [updV_other _ _ (fun e => hk (hq.trans e))]
      exact (h q).1 _ (List.getElem_mem hi') hq
  · have hqk : q ≠ key := fun e' => by
      refine ha ((l.set j { e0 with key := key, val := v })[j]'(by simpa using hj)) (List.getElem_mem (by simpa using hj)) ?_
      rw [List.getElem_set_self]
      exact e'.symm
    rw [updV_other _ _ hqk]
    refine (h q).2 fun e he hq => ?_
    obtain ⟨i, hi, rfl⟩ := List.mem_iff_getElem.1 he
    by_cases hij : i = j
    · subst hij
      rw [hej, h3] at hq
      exact hqk hq.symm
    · exact ha ((l.set j { e0 with key := key, val := v })[i]'(by simpa using hi)) (List.getElem_mem (by simpa using hi)) (by rw [List.getElem_set_ne (fun e => hij e.symm)]; exact hq)
theorem Ents.same {l : List MapEntry} {f : Value → Option Value} (h : Ents l f) {e0 : MapEntry} (he : e0 ∈ l) : updV f e0.key e0.val = f := by
  funext q
  by_cases hq : q = e0.key
  · rw [hq, updV_same, (h e0.key).1 e0 he rfl]
  · rw [updV_other _ _ hq]
/-- Block b is a map of at most n entries that gives f. -/
def MapV (P : Program) (k : TypeId) (w : World) (b n : Nat) (f : Value → Option Value) : Prop :=
  ∃ es clock, w.heap[b]? = some (.map es clock) ∧ Fit P k rdV es clock ∧ es.size ≤ n ∧ Ents es.toList f
/-- The entry of a key bears a stamp. -/
def StampAt (w : World) (b st : Nat) (key : Value) : Prop := ∃ es clock, w.heap[b]? = some (.map es clock) ∧ ∃ e ∈ es.toList, e.key = key ∧ e.born = st
section
variable {P : Program} {k e t : TypeId} {w : World} {b n : Nat} {f : Value → Option Value}
theorem mapV_made (w : World) (P : Program) (k : TypeId) : MapV P k (w.alloc (.map #[] 0)) w.heap.size 0 (fun _ => none) :=
  ⟨#[], 0, (MapKept.heap_alloc w _).1, ⟨by simp, stamped_empty 0, by simp⟩, Nat.le_refl _, fun q => ⟨fun e he => by simp at he, fun _ => rfl⟩⟩
theorem MapV.lt (h : MapV P k w b n f) : b < w.heap.size := by obtain ⟨es, clock, h, _⟩ := h; exact (Array.getElem?_eq_some_iff.1 h).1
theorem MapV.block {w' : World} (h : MapV P k w b n f) (hb : w'.heap[b]? = w.heap[b]?) : MapV P k w' b n f := by
  obtain ⟨es, clock, h0, h1⟩ := h; exact ⟨es, clock, hb.trans h0, h1⟩
theorem MapV.below {w' : World} (h : MapV P k w b n f) (hb : Below w.heap.size w w') : MapV P k w' b n f := h.block (hb.block _ h.lt)
theorem MapV.alloc (h : MapV P k w b n f) (o : Obj) : MapV P k (w.alloc o) b n f := h.below ((Below.refl _ w).alloc (Nat.le_refl _) _)
theorem MapV.mono (h : MapV P k w b n f) {n' : Nat} (hn : n ≤ n') : MapV P k w b n' f := by obtain ⟨es, clock, h0, h1, h2, h3⟩ := h; exact ⟨es, clock, h0, h1, Nat.le_trans h2 hn, h3⟩
theorem MapV.kept {w' : World} {row : Option Nat} (h : MapV P k w b n f) (hg : w.grownBy w' row) (hne : some b ≠ row) : MapV P k w' b n f := h.block (hg.block b h.lt hne)
theorem StampAt.block {w' : World} {st : Nat} {key : Value} (h : StampAt w b st key) (hb : w'.heap[b]? = w.heap[b]?) : StampAt w' b st key := by
  obtain ⟨es, clock, h0, h1⟩ := h; exact ⟨es, clock, hb.trans h0, h1⟩
theorem setBlock_grown (w : World) (b : Nat) (o : Obj) : w.grownBy (setBlock w b o) (some b) :=
  ⟨rfl, rfl, rfl, by simp [setBlock], fun i _ hi => by
    have : i ≠ b := fun e => hi (by rw [e])
    unfold setBlock
    simp only
    rw [Array.getElem?_setIfInBounds_ne (fun e => this e.symm)]⟩
/-- 'm[k]'. -/
theorem MapV.look (h : MapV P k w b n f) (K : KeyLaw P k) (ht : P.underlying t = some (.map k e)) {z : Value} (hz : (zeroValue e).run P w = .ok z w) {key : Value} {kl : Lit} (hkey : keyOf P k key = some kl) :
    (Instr.lookup t (.map (some b)) key false).run P w = .ok ((f key).getD z) w := by
  obtain ⟨es, clock, hb, F, _, hE⟩ := h
  rcases K.find w hkey es.toList F.keys with ⟨h1, h2⟩ | ⟨j, e0, h1, h2, h3⟩
  · rw [(hE key).2 h2]
    simp [Instr.lookup, run_underlying ht, MapKept.run_getObj_map hb, K.check w _ hkey, h1, hz, Result.andThen]
  · rw [(hE key).1 e0 (List.mem_of_getElem? h2) h3]
    simp [Instr.lookup, run_underlying ht, MapKept.run_getObj_map hb, K.check w _ hkey, h1, Result.andThen]
/-- 'v, ok := m[k]'. -/
theorem MapV.look_ok (h : MapV P k w b n f) (K : KeyLaw P k) (ht : P.underlying t = some (.map k e)) {z : Value} (hz : (zeroValue e).run P w = .ok z w) {key : Value} {kl : Lit} (hkey : keyOf P k key = some kl) :
    (Instr.lookup t (.map (some b)) key true).run P w = .ok (.tuple #[(f key).getD z, .bool (f key).isSome]) w := by
  obtain ⟨es, clock, hb, F, _, hE⟩ := h
  rcases K.find w hkey es.toList F.keys with ⟨h1, h2⟩ | ⟨j, e0, h1, h2, h3⟩
  · rw [(hE key).2 h2]
    simp [Instr.lookup, run_underlying ht, MapKept.run_getObj_map hb, K.check w _ hkey, h1, hz, Result.andThen]
  · rw [(hE key).1 e0 (List.mem_of_getElem? h2) h3]
    simp [Instr.lookup, run_underlying ht, MapKept.run_getObj_map hb, K.check w _ hkey, h1, Result.andThen]
/-- 'm[k] = v'. -/
theorem MapV.put (h : MapV P k w b n f) (K : KeyLaw P k) (ht : P.underlying t = some (.map k e)) (hn : n < maxLen) {key : Value} {kl : Lit} (hkey : keyOf P k key = some kl) (v : Value) :
    ∃ w', (Instr.mapUpdate t (.map (some b)) key v).run P w = .ok () w' ∧ MapV P k w' b (n + 1) (updV f key v) ∧ w.grownBy w' (some b) := by
  obtain ⟨es, clock, hb, F, hs, hE⟩ := h
  rcases K.find w hkey es.toList F.keys with ⟨h1, h2⟩ | ⟨j, e0, h1, h2, h3⟩
  · refine ⟨setBlock w b (.map (es.push ⟨key, v, clock⟩) (clock + 1)), ?_, ⟨_, _, heap_setBlock_same hb _, ⟨by simp; omega, stamped_push F.stamped h2, fun x hx => ?_⟩, by simp; omega, ?_⟩, setBlock_grown _ _ _⟩
    · simp [Instr.mapUpdate, run_underlying ht, MapKept.run_getObj_map hb, K.check w false hkey, h1, MapKept.run_setObj_map _ hb, Result.andThen, setBlock]
    · simp only [Array.toList_push, List.mem_append, List.mem_singleton] at hx
      rcases hx with hx | rfl
      · exact F.reads x hx
      · exact ⟨_, rd_mk hkey rfl⟩
    · rw [Array.toList_push]; exact hE.push v clock h2
  · have hj : es[j]? = some e0 := by simpa using h2
    have hkeyf : ∀ e', es[j]? = some e' → ({ e' with key := key, val := v } : MapEntry).key = e'.key := fun e' he' => by rw [hj] at he'; cases he'; exact h3.symm
    refine ⟨setBlock w b (.map (es.modify j (fun e' => { e' with key := key, val := v })) clock), ?_, ⟨_, _, heap_setBlock_same hb _, ⟨by simpa using F.size, stamped_modify F.stamped _ _ (fun _ _ => rfl) (fun e' _ he' => hkeyf e' he'), fun x hx => ?_⟩, by simp; omega, ?_⟩, setBlock_grown _ _ _⟩
    · simp [Instr.mapUpdate, run_underlying ht, MapKept.run_getObj_map hb, K.check w false hkey, h1, hj, h3, K.stays w hkey, MapKept.run_setObj_map _ hb, Result.andThen, setBlock]
    · rcases MapFrom.mem_modify hx with hx | ⟨e', _, rfl⟩
      · exact F.reads x hx
      · exact ⟨_, rd_mk hkey rfl⟩
    · rw [Array.toList_modify, modify_eq_set _ _ _ _ h2]
      exact hE.set ((stamped_iff es clock).1 F.stamped).2.2 h2 h3 v
/-- The entry of a key, taken: behind it the map gives something at the key; the entry bears a stamp; the stamps that were there are there. -/
theorem MapV.entry (h : MapV P k w b n f) (K : KeyLaw P k) (ht : P.underlying t = some (.map k e)) {z : Value} (hz : (zeroValue e).run P w = .ok z w) (hn : n < maxLen) {key : Value} {kl : Lit} (hkey : keyOf P k key = some kl) :
    ∃ (w' : World) (v0 : Value) (st : Nat), (Instr.mapEntry t (.map (some b)) key).run P w = .ok (.tuple #[v0, goInt st]) w' ∧ (∃ u, MapV P k w' b (n + 1) (updV f key u)) ∧ StampAt w' b st key ∧ w.grownBy w' (some b) ∧
      ∀ st' key', StampAt w b st' key' → StampAt w' b st' key' := by
  obtain ⟨es, clock, hb, F, hs, hE⟩ := h
  rcases K.find w hkey es.toList F.keys with ⟨h1, h2⟩ | ⟨j, e0, h1, h2, h3⟩
  · refine ⟨setBlock w b (.map (es.push ⟨key, z, clock⟩) (clock + 1)), z, clock, ?_, ⟨z, _, _, heap_setBlock_same hb _, ⟨by simp; omega, stamped_push F.stamped h2, fun x hx => ?_⟩, by simp; omega, ?_⟩, ⟨_, _, heap_setBlock_same hb _, ⟨key, z, clock⟩, by simp, rfl, rfl⟩, setBlock_grown _ _ _, ?_⟩
    · simp [Instr.mapEntry, run_underlying ht, MapKept.run_getObj_map hb, K.check w false hkey, h1, hz, MapKept.run_setObj_map _ hb, Result.andThen, setBlock]
    · simp only [Array.toList_push, List.mem_append, List.mem_singleton] at hx
      rcases hx with hx | rfl
      · exact F.reads x hx
      · exact ⟨_, rd_mk hkey rfl⟩
    · rw [Array.toList_push]; exact hE.push z clock h2
    · rintro st' key' ⟨es1, c1, hb1, x, hx, hx1, hx2⟩
      rw [hb] at hb1
      cases hb1
      exact ⟨_, _, heap_setBlock_same hb _, x, by simp [hx], hx1, hx2⟩
  · have hj : es[j]? = some e0 := by simpa using h2
    have hm := List.mem_of_getElem? h2
    have hsame : es.modify j (fun e => { e with key := key }) = es := by
      apply Array.ext'
      rw [Array.toList_modify, modify_eq_set _ _ _ _ h2]
      have : ({ e0 with key := key } : MapEntry) = e0 := by rw [← h3]
      rw [this]
      exact set_self _ _ _ h2
    refine ⟨setBlock w b (.map es clock), e0.val, e0.born, ?_, ⟨e0.val, es, clock, heap_setBlock_same hb _, F, by omega, ?_⟩, ⟨_, _, heap_setBlock_same hb _, e0, hm, h3, rfl⟩, setBlock_grown _ _ _, ?_⟩
    · simp [Instr.mapEntry, run_underlying ht, MapKept.run_getObj_map hb, K.check w false hkey, h1, hj, h3, K.stays w hkey, hsame, MapKept.run_setObj_map _ hb, Result.andThen, setBlock]
    · rw [← h3, hE.same hm]; exact hE
    · rintro st' key' ⟨es1, c1, hb1, x, hx, hx1, hx2⟩
      rw [hb] at hb1
      cases hb1
      exact ⟨_, _, heap_setBlock_same hb _, x, hx, hx1, hx2⟩
/-- A store to an entry that was taken. -/
theorem MapV.entryStore (h : MapV P k w b n f) (ht : P.underlying t = some (.map k e)) {key : Value} {st : Nat} (hst : StampAt w b st key) (v : Value) :
    ∃ w', (Instr.entryStore t (.map (some b)) (goInt st) v).run P w = .ok () w' ∧ MapV P k w' b n (updV f key v) ∧ w.grownBy w' (some b) ∧ ∀ st' key', StampAt w b st' key' → StampAt w' b st' key' := by
  obtain ⟨es, clock, hb, F, hs, hE⟩ := h
  obtain ⟨es1, c1, hb1, e0, he0, h3, hborn⟩ := hst
  rw [hb] at hb1
  cases hb1
  obtain ⟨j, hjl, hje⟩ := List.mem_iff_getElem.1 he0
  have h2 : es.toList[j]? = some e0 := by rw [List.getElem?_eq_getElem hjl, hje]
  have hj : es[j]? = some e0 := by simpa using h2
  obtain ⟨_, s2, s3⟩ := (stamped_iff es clock).1 F.stamped
  have hidx : es.findIdx? (fun e => ((e.born : Nat) : Int) == ((st : Nat) : Int)) = some j := by
    rw [findIdx_arr, ← hborn]
    exact findIdx_born s2 h2
  subst h3
  have hfe : ({ e0 with key := e0.key, val := v } : MapEntry) = { e0 with val := v } := rfl
  refine ⟨setBlock w b (.map (es.modify j (fun e => { e with val := v })) clock), ?_, ⟨_, _, heap_setBlock_same hb _, ⟨by simpa using F.size, stamped_modify F.stamped _ _ (fun _ _ => rfl) (fun e' _ he' => rfl), fun x hx => ?_⟩, by simpa using hs, ?_⟩, setBlock_grown _ _ _, ?_⟩
  · simp [Instr.entryStore, MapKept.run_getObj_map hb, asInt, asIntOf, goInt, hidx, MapKept.run_setObj_map _ hb, Result.andThen, setBlock]
  · rcases MapFrom.mem_modify hx with hx | ⟨e', he', rfl⟩
    · exact F.reads x hx
    · obtain ⟨y, hy⟩ := F.reads e' (by rw [Array.mem_toList_iff]; exact Array.mem_of_getElem? he')
      exact ⟨_, rd_mk (rd_key hy) rfl⟩
  · rw [Array.toList_modify, modify_eq_set _ _ _ _ h2]
    exact hE.set s3 h2 rfl v
  · rintro st' key' ⟨es1, c1, hb1, x, hx, hx1, hx2⟩
    rw [hb] at hb1
    cases hb1
    obtain ⟨i, hi, rfl⟩ := List.mem_iff_getElem.1 hx
    refine ⟨_, _, heap_setBlock_same hb _, if i = j then { e0 with val := v } else es.toList[i], ?_, ?_, ?_⟩
    · rw [Array.toList_modify, modify_eq_set _ _ _ _ h2]
      refine List.mem_iff_getElem.2 ⟨i, by simpa using hi, ?_⟩
      rw [List.getElem_set]
      by_cases hij : j = i
      · subst hij; simp
      · rw [if_neg hij, if_neg (fun e => hij e.symm)]
    · split
      · rename_i hij; subst hij; rw [hje] at hx1; exact hx1
      · exact hx1
    · split
      · rename_i hij; subst hij; rw [hje] at hx2; exact hx2
      · exact hx2
end
end Mh
