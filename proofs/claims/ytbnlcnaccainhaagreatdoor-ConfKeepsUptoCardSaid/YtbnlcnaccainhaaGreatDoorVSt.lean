/- A value in memory, opened: its six cells by name, its keys, its items one by one; later worlds. No program. -/
import Derived.Test.YtbnlcnaccainhaaGreatDoorVAt
import Derived.Test.YtbnlcnaccainhaaGreatDoorKeP
namespace Mh
open Go Go.RowKit
set_option linter.unusedVariables false

def V.bo : V → Bool | .mk _ b _ _ _ _ => b
def V.nu : V → Int | .mk _ _ n _ _ _ => n
def V.tx : V → ByteArray | .mk _ _ _ t _ _ => t
/-- The six cells of a value whose slices lie at ia, ka. -/
def vcs (X : V) (ia : Option Addr) (ic : Nat) (ka : Option Addr) (kc : Nat) : List Value := [.int .i64 X.kd, .bool X.bo, .int .i64 X.nu, .string X.tx, .slice ia X.its.length ic, .slice ka X.kys.length kc]
theorem Sl.word {k : Nat} {w : World} {v : Value} {n : Nat} {xs : List Value} (h : Sl k w v n xs) : ∃ ao c, v = .slice ao n c ∧ n ≤ maxLen := by
  rcases h.2 with ⟨rfl, a, c, rfl⟩ | ⟨b, off, c, rfl, h1, h2, h3, h4, h5⟩
  · exact ⟨a, c, rfl, Nat.zero_le _⟩
  · exact ⟨_, c, rfl, Nat.le_trans h2 h3⟩
theorem Sl.shp {k : Nat} {w : World} {v : Value} {n : Nat} {xs : List Value} (h : Sl k w v n xs) :
    ∃ ao c, v = .slice ao n c ∧ n ≤ maxLen ∧ (0 < n → ∃ b off, ao = some ⟨b, off, none⟩ ∧ n ≤ c ∧ c ≤ maxLen ∧ b < w.heap.size ∧ ∀ i u, xs[i]? = some u → w.cell? ⟨b, off + i, none⟩ = some u) := by
  rcases h.2 with ⟨rfl, a, c, rfl⟩ | ⟨b, off, c, rfl, h1, h2, h3, h4, h5⟩
  · exact ⟨a, c, rfl, Nat.zero_le _, fun h => absurd h (Nat.lt_irrefl _)⟩
  · exact ⟨_, c, rfl, Nat.le_trans h2 h3, fun _ => ⟨b, off, rfl, h2, h3, h4, h5⟩⟩
theorem VAt.opened {w : World} {X : V} {cs : List Value} (h : VAt w X cs) :
    ∃ ia ic ka kc, cs = vcs X ia ic ka kc ∧ X.its.length ≤ maxLen ∧ X.kys.length ≤ maxLen ∧ X.tx.size ≤ maxLen ∧ Ss w (.slice ka X.kys.length kc) X.kys ∧ ∃ rows, Sl 6 w (.slice ia X.its.length ic) X.its.length rows ∧ VsAt w X.its rows := by
  obtain ⟨k, b, n, t, is, ks⟩ := X
  unfold VAt at h
  obtain ⟨iv, kv, rfl, h1, h2, h3, h4, rows, h5, h6⟩ := h
  obtain ⟨ia, ic, rfl, hi⟩ := Sl.word h5
  obtain ⟨ka, kc, rfl, hk⟩ := Sl.word h4.1
  exact ⟨ia, ic, ka, kc, rfl, hi, hk, h3, h4, rows, h5, h6⟩
theorem VsAt.item {w : World} {iv : Value} {is : List V} {rows : List Value} (hS : Sl 6 w iv is.length rows) (hT : VsAt w is rows) :
    ∃ ao c, iv = .slice ao is.length c ∧ ∀ k (h : k < is.length), ∃ b off ia ic ka kc, ao = some ⟨b, off, none⟩ ∧ b < w.heap.size ∧ VAt w is[k] (vcs is[k] ia ic ka kc) ∧
      ∀ j (hj : j < 6), w.cell? ⟨b, off + k * 6 + j, none⟩ = some ((vcs is[k] ia ic ka kc)[j]'hj) := by
  obtain ⟨ao, c, rfl, _, hs⟩ := Sl.shp hS
  refine ⟨ao, c, rfl, fun k h => ?_⟩
  obtain ⟨b, off, rfl, _, _, hlt, hc⟩ := hs (by omega)
  obtain ⟨c', h1, h2⟩ := VsAt.get is rows hT k h
  obtain ⟨ia, ic, ka, kc, rfl, _⟩ := h1.opened
  refine ⟨b, off, ia, ic, ka, kc, rfl, hlt, h1, fun j hj => ?_⟩
  rw [Nat.add_assoc]
  exact hc _ _ (by rw [h2 j hj, List.getElem?_eq_getElem hj])
theorem Ss.key {w : World} {kv : Value} {ks : List ByteArray} (h : Ss w kv ks) :
    ∃ ao c, kv = .slice ao ks.length c ∧ ∀ k (hk : k < ks.length), ∃ b off, ao = some ⟨b, off, none⟩ ∧ b < w.heap.size ∧ w.cell? ⟨b, off + k, none⟩ = some (.string ks[k]) ∧ ks[k].size ≤ maxLen := by
  obtain ⟨ao, c, rfl, _, hs⟩ := Sl.shp h.1
  refine ⟨ao, c, rfl, fun k hk => ?_⟩
  obtain ⟨b, off, rfl, _, _, hlt, hc⟩ := hs (by omega)
  exact ⟨b, off, rfl, hlt, hc _ _ (by rw [List.getElem?_map, List.getElem?_eq_getElem hk]; rfl), h.2 _ (List.getElem_mem hk)⟩
/-- The six cells of an item later on. -/
theorem six_later {w wr : World} {b o : Nat} {X : V} {ia ka : Option Addr} {ic kc : Nat} (hb : Below w.heap.size w wr) (hlt : b < w.heap.size)
    (h : ∀ j (hj : j < 6), w.cell? ⟨b, o + j, none⟩ = some ((vcs X ia ic ka kc)[j]'hj)) :
    wr.cell? ⟨b, o, none⟩ = some (.int .i64 X.kd) ∧ wr.cell? ⟨b, o + 1, none⟩ = some (.bool X.bo) ∧ wr.cell? ⟨b, o + 2, none⟩ = some (.int .i64 X.nu) ∧ wr.cell? ⟨b, o + 3, none⟩ = some (.string X.tx) ∧
      wr.cell? ⟨b, o + 4, none⟩ = some (.slice ia X.its.length ic) ∧ wr.cell? ⟨b, o + 5, none⟩ = some (.slice ka X.kys.length kc) := by
  have g := fun j (hj : j < 6) => (hb.cell (p := ⟨b, o + j, none⟩) hlt).trans (h j hj)
  exact ⟨g 0 (by omega), g 1 (by omega), g 2 (by omega), g 3 (by omega), g 4 (by omega), g 5 (by omega)⟩
end Mh
