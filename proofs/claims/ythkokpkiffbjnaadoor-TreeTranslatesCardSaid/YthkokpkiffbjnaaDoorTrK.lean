/- The maps of tree's checker: their key types have a law; what a lookup, a store and an entry do. Conditions: strings of at most maxLen bytes. -/
import Derived.Test.YthkokpkiffbjnaaDoorTrM
import Derived.Test.YthkokpkiffbjnaaDoorPath
import Derived.WideKeyArr
import Derived.KernelRfl
namespace Go.Proofs.YthkokpkiffbjnaaDoor
open Go.RowKit Mh
open Go.WideMaps (KeyLaw ArrKey)
open Go.WideMaps Go.Maps
set_option linter.unusedVariables false
theorem key1_law : KeyLaw Tryd.prog 9 := string_law Tryd.underlying9
theorem key2_arr : ArrKey Tryd.prog 56 9 2 := ⟨Tryd.underlying56, by kernel_rfl, by kernel_rfl, by kernel_rfl⟩
theorem key3_arr : ArrKey Tryd.prog 60 9 3 := ⟨Tryd.underlying60, by kernel_rfl, by kernel_rfl, by kernel_rfl⟩
def k2 (a b : ByteArray) : Value := .agg #[.string a, .string b]
def k3 (c a b : ByteArray) : Value := .agg #[.string c, .string a, .string b]
theorem k2_inj {a b c d : ByteArray} : k2 a b = k2 c d ↔ a = c ∧ b = d := by unfold k2; simp
theorem k3_inj {a b c d e f : ByteArray} : k3 a b c = k3 d e f ↔ a = d ∧ b = e ∧ c = f := by unfold k3; simp
theorem key1_of {a : ByteArray} (ha : a.size ≤ maxLen) : ∃ kl, keyOf Tryd.prog 9 (.string a) = some kl := ⟨_, keyOf_string_mk Tryd.underlying9 ha⟩
theorem key2_of {a b : ByteArray} (ha : a.size ≤ maxLen) (hb : b.size ≤ maxLen) : ∃ kl, keyOf Tryd.prog 56 (k2 a b) = some kl := by
  obtain ⟨m, hm⟩ : ∃ m, Tryd.prog.types.size + 1 = m + 2 := ⟨Tryd.prog.types.size - 1, by have : 1 ≤ Tryd.prog.types.size := by { have : Tryd.prog.types.size = Tryd.prog.types.size := rfl; exact Nat.le_of_ble_eq_true (by kernel_rfl) }; omega⟩
  have hc := key2_arr.size
  have h1 := key2_arr.one
  have hk : Tryd.prog.keyType 56 = true := by kernel_rfl
  refine ⟨.string (keyBytes [.string a.data.toList, .string b.data.toList]), ?_⟩
  unfold keyOf k2
  rw [Tryd.underlying56, hk, hm]
  simp only [Value.formed, Tryd.underlying56, hc, Program.keyLits, Value.cells, h1]
  simp [ha, hb, List.range, List.range.loop, Tryd.underlying9]
theorem key3_of {c a b : ByteArray} (hc0 : c.size ≤ maxLen) (ha : a.size ≤ maxLen) (hb : b.size ≤ maxLen) : ∃ kl, keyOf Tryd.prog 60 (k3 c a b) = some kl := by
  obtain ⟨m, hm⟩ : ∃ m, Tryd.prog.types.size + 1 = m + 2 := ⟨Tryd.prog.types.size - 1, by have : 1 ≤ Tryd.prog.types.size := by { have : Tryd.prog.types.size = Tryd.prog.types.size := rfl; exact Nat.le_of_ble_eq_true (by kernel_rfl) }; omega⟩
  have hc := key3_arr.size
  have h1 := key3_arr.one
  have hk : Tryd.prog.keyType 60 = true := by kernel_rfl
  refine ⟨.string (keyBytes [.string c.data.toList, .string a.data.toList, .string b.data.toList]), ?_⟩
  unfold keyOf k3
  rw [Tryd.underlying60, hk, hm]
  simp only [Value.formed, Tryd.underlying60, hc, Program.keyLits, Value.cells, h1]
  simp [hc0, ha, hb, List.range, List.range.loop, Tryd.underlying9]
theorem zBool (w : World) : (zeroValue 4).run Tryd.prog w = .ok (.bool false) w := by kernel_rfl
theorem zInt (w : World) : (zeroValue 3).run Tryd.prog w = .ok (.int .i64 0) w := by kernel_rfl
/-- A set of keys in memory. -/
def SetM {α : Type} (P : Program) (k : TypeId) (w : World) (b n : Nat) (key : α → Value) (A : α → Prop) : Prop :=
  ∃ f, MapV P k w b n f ∧ ∀ s, (A s → f (key s) = some (.bool true)) ∧ (¬ A s → f (key s) = none)
theorem SetM.lt {α : Type} {P : Program} {k : TypeId} {w : World} {b n : Nat} {key : α → Value} {A : α → Prop} (h : SetM P k w b n key A) : b < w.heap.size := by obtain ⟨f, h, _⟩ := h; exact h.lt
theorem SetM.block {α : Type} {P : Program} {k : TypeId} {w w' : World} {b n : Nat} {key : α → Value} {A : α → Prop} (h : SetM P k w b n key A) (hb : w'.heap[b]? = w.heap[b]?) : SetM P k w' b n key A := by
  obtain ⟨f, h, h2⟩ := h; exact ⟨f, h.block hb, h2⟩
theorem SetM.made {α : Type} (w : World) (P : Program) (k : TypeId) (key : α → Value) : SetM P k (w.alloc (.map #[] 0)) w.heap.size 0 key (fun _ => False) :=
  ⟨_, mapV_made w P k, fun s => ⟨fun h => h.elim, fun _ => rfl⟩⟩
theorem setM_look {α : Type} {P : Program} {k t e : TypeId} {w : World} {b n : Nat} {key : α → Value} {A : α → Prop} (h : SetM P k w b n key A) (K : KeyLaw P k) (ht : P.underlying t = some (.map k e)) (hz : (zeroValue e).run P w = .ok (.bool false) w) (s : α) (hs : ∃ kl, keyOf P k (key s) = some kl) (r : Bool) (hr : r = true ↔ A s) :
    (Instr.lookup t (.map (some b)) (key s) false).run P w = .ok (.bool r) w := by
  obtain ⟨f, hM, hA⟩ := h
  obtain ⟨kl, hkl⟩ := hs
  rw [hM.look K ht hz hkl]
  cases r with
  | true => rw [(hA s).1 (hr.1 rfl)]; rfl
  | false => rw [(hA s).2 (fun h => by have := hr.2 h; cases this)]; rfl
/-- The set with one key more. -/
theorem setM_upd {α : Type} {f : Value → Option Value} {key : α → Value} {A : α → Prop} (hA : ∀ s, (A s → f (key s) = some (.bool true)) ∧ (¬ A s → f (key s) = none)) (hinj : ∀ x y, key x = key y → x = y) (s : α) :
    ∀ q, ((A q ∨ q = s) → updV f (key s) (.bool true) (key q) = some (.bool true)) ∧ (¬ (A q ∨ q = s) → updV f (key s) (.bool true) (key q) = none) := fun q => by
  by_cases e : q = s
  · subst e
    exact ⟨fun _ => updV_same _ _ _, fun h => absurd (.inr rfl) h⟩
  · have hne : key q ≠ key s := fun h => e (hinj _ _ h)
    rw [updV_other _ _ hne]
    exact ⟨fun h => (hA q).1 (h.resolve_right e), fun h => (hA q).2 fun h2 => h (.inl h2)⟩
end Go.Proofs.YthkokpkiffbjnaaDoor
