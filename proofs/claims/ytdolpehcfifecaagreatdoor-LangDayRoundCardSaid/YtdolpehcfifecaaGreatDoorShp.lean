/- Slice words, strings and their bytes: plain facts. Conditions: as stated. -/
import Derived.Test.YtdolpehcfifecaaGreatDoorProg
import Derived.Test.YtdolpehcfifecaaGreatDoorVAt
import Derived.Test.YtdolpehcfifecaaGreatDoorJoinP
import Derived.Outline
namespace Go.Proofs.YtdolpehcfifecaaGreatDoor
open Go.RowKit Mh
set_option linter.unusedVariables false

/-- A slice word, empty or not. -/
theorem Sl.shape {k : Nat} {w : World} {v : Value} {n : Nat} {xs : List Value} (h : Sl k w v n xs) :
    ∃ ao c, v = .slice ao n c ∧ n ≤ maxLen ∧ (0 < n → ∃ b off, ao = some ⟨b, off, none⟩ ∧ n ≤ c ∧ c ≤ maxLen ∧ b < w.heap.size ∧ ∀ i u, xs[i]? = some u → w.cell? ⟨b, off + i, none⟩ = some u) := by
  rcases h.2 with ⟨rfl, a, c, rfl⟩ | ⟨b, off, c, rfl, h1, h2, h3, h4, h5⟩
  · exact ⟨a, c, rfl, Nat.zero_le _, fun h => absurd h (Nat.lt_irrefl _)⟩
  · exact ⟨_, c, rfl, Nat.le_trans h2 h3, fun _ => ⟨b, off, rfl, h2, h3, h4, h5⟩⟩

theorem str_ne {a b : ByteArray} (h : a ≠ b) : (a.toList == b.toList) = false := by
  rw [beq_eq_false_iff_ne, ByteArray.toList_eq, ByteArray.toList_eq]
  exact fun e => h (bext e)
theorem all_getElem {s : ByteArray} {p : UInt8 → Bool} : (s.data.toList.all p = true ↔ ∀ k (h : k < s.size), p s[k] = true) := by
  rw [List.all_eq_true]
  constructor
  · intro h k hk
    exact h s[k] (by
      have : s[k] = s.data.toList[k]'(by simpa using hk) := rfl
      rw [this]
      exact List.getElem_mem _)
  · intro h x hx
    obtain ⟨k, hk, rfl⟩ := List.mem_iff_getElem.1 hx
    exact h k (by simpa using hk)

def smallB (n : Int) : Bool := decide (97 ≤ n ∧ n ≤ 122)
def digitB (n : Int) : Bool := decide (48 ≤ n ∧ n ≤ 57)
end Go.Proofs.YtdolpehcfifecaaGreatDoor
