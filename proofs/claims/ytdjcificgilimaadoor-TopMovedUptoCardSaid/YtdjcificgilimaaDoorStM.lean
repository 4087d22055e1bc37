/- Maps from strings to strings in memory, as functions: made, looked up, written. Conditions: keys of at most maxLen bytes. -/
import Derived.Test.YtdjcificgilimaaDoorProg
import Derived.Test.YtdjcificgilimaaDoorTrM
import Derived.KernelRfl
namespace Go.Proofs.YtdjcificgilimaaDoor
open Go.RowKit Mh
open Go.WideMaps (KeyLaw)
open Go.WideMaps Go.Maps
set_option linter.unusedVariables false
theorem keyS_law : KeyLaw Tryd.prog 9 := string_law Tryd.underlying9
theorem keyS_of {a : ByteArray} (ha : a.size ≤ maxLen) : ∃ kl, keyOf Tryd.prog 9 (.string a) = some kl := ⟨_, keyOf_string_mk Tryd.underlying9 ha⟩
theorem zStr (w : World) : (zeroValue 9).run Tryd.prog w = .ok (.string ⟨#[]⟩) w := by kernel_rfl
def StrM (w : World) (b n : Nat) (f : ByteArray → Option ByteArray) : Prop := ∃ F, MapV Tryd.prog 9 w b n F ∧ ∀ s, F (.string s) = (f s).map Value.string
theorem StrM.made (w : World) : StrM (w.alloc (.map #[] 0)) w.heap.size 0 (fun _ => none) := ⟨_, mapV_made w Tryd.prog 9, fun _ => rfl⟩
theorem StrM.lt {w : World} {b n : Nat} {f : ByteArray → Option ByteArray} (h : StrM w b n f) : b < w.heap.size := by obtain ⟨F, h, _⟩ := h; exact h.lt
theorem StrM.block {w w' : World} {b n : Nat} {f : ByteArray → Option ByteArray} (h : StrM w b n f) (hb : w'.heap[b]? = w.heap[b]?) : StrM w' b n f := by obtain ⟨F, h, h2⟩ := h; exact ⟨F, h.block hb, h2⟩
theorem StrM.below {w w' : World} {b n : Nat} {f : ByteArray → Option ByteArray} (h : StrM w b n f) (hb : Below w.heap.size w w') : StrM w' b n f := h.block (hb.block _ h.lt)
theorem StrM.mono {w : World} {b n n' : Nat} {f : ByteArray → Option ByteArray} (h : StrM w b n f) (hn : n ≤ n') : StrM w b n' f := by obtain ⟨F, h, h2⟩ := h; exact ⟨F, h.mono hn, h2⟩
theorem StrM.congr {w : World} {b n : Nat} {f f' : ByteArray → Option ByteArray} (h : StrM w b n f) (hf : ∀ s, f' s = f s) : StrM w b n f' := by obtain ⟨F, h, h2⟩ := h; exact ⟨F, h, fun s => by rw [h2 s, hf s]⟩
theorem StrM.look {w : World} {b n : Nat} {f : ByteArray → Option ByteArray} (h : StrM w b n f) {s : ByteArray} (hs : s.size ≤ maxLen) {r : Option ByteArray} (hr : f s = r) :
    (Instr.lookup 42 (.map (some b)) (.string s) false).run Tryd.prog w = .ok (.string (r.getD ⟨#[]⟩)) w := by
  obtain ⟨F, hM, hF⟩ := h
  obtain ⟨kl, hkl⟩ := keyS_of hs
  rw [hM.look keyS_law Tryd.underlying42 (zStr w) hkl, hF s, hr]
  cases r <;> rfl
theorem StrM.look_ok {w : World} {b n : Nat} {f : ByteArray → Option ByteArray} (h : StrM w b n f) {s : ByteArray} (hs : s.size ≤ maxLen) {r : Option ByteArray} (hr : f s = r) :
    (Instr.lookup 42 (.map (some b)) (.string s) true).run Tryd.prog w = .ok (.tuple #[.string (r.getD ⟨#[]⟩), .bool r.isSome]) w := by
  obtain ⟨F, hM, hF⟩ := h
  obtain ⟨kl, hkl⟩ := keyS_of hs
  rw [hM.look_ok keyS_law Tryd.underlying42 (zStr w) hkl, hF s, hr]
  cases r <;> rfl
theorem StrM.put {w : World} {b n : Nat} {f : ByteArray → Option ByteArray} (h : StrM w b n f) (hn : n < maxLen) {s : ByteArray} (hs : s.size ≤ maxLen) (v : ByteArray) :
    ∃ w', (Instr.mapUpdate 42 (.map (some b)) (.string s) (.string v)).run Tryd.prog w = .ok () w' ∧ StrM w' b (n + 1) (fun q => if q = s then some v else f q) ∧ w.grownBy w' (some b) := by
  obtain ⟨F, hM, hF⟩ := h
  obtain ⟨kl, hkl⟩ := keyS_of hs
  obtain ⟨w', h1, h3, h4⟩ := hM.put keyS_law Tryd.underlying42 hn hkl (.string v)
  refine ⟨w', h1, ⟨_, h3, fun q => ?_⟩, h4⟩
  show _ = (if q = s then some v else f q).map Value.string
  by_cases e : q = s
  · subst e; rw [updV_same, if_pos rfl]; rfl
  · rw [updV_other _ _ (fun x => e (by cases x; rfl)), if_neg e, hF q]
theorem below_grownS {w w1 w2 : World} {b : Nat} (h : Below w.heap.size w w1) (hg : w1.grownBy w2 (some b)) (hb : w.heap.size ≤ b) : Below w.heap.size w w2 :=
  ⟨hg.os.trans h.os, hg.tape.trans h.tape, hg.output.trans h.output, Nat.le_trans h.size hg.size, fun k hk => (hg.block k (Nat.lt_of_lt_of_le hk h.size) (fun e => by simp at e; omega)).trans (h.block k hk)⟩
end Go.Proofs.YtdjcificgilimaaDoor
