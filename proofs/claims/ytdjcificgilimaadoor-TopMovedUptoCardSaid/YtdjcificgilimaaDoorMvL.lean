/- The comparison of ship.Moved; the sort of the resolved redirects. Conditions: at most 60 redirects. -/
import Derived.Test.YtdjcificgilimaaDoorMvK
namespace Mh
open Go Go.RowKit
set_option linter.unusedVariables false
instance inhO : Inhabited O := ⟨⟨⟨#[]⟩, ⟨#[]⟩⟩⟩
def encO2 (o : O) : List Value := [.string o.p, .string o.b]
def klO (x y : O) : Bool := kl x.p y.p
theorem swo_klO : Go.Sort.SWO klO := ⟨fun x => kl_irrefl _, fun x y z => kl_trans, fun x y z h1 h2 => by
  show kl x.p z.p = false
  cases h : kl x.p z.p with
  | false => rfl
  | true =>
    have h1' : kl x.p y.p = false := h1
    have h2' : kl y.p z.p = false := h2
    cases hy : kl y.p x.p with
    | true => have := kl_trans hy h; rw [h2'] at this; cases this
    | false => have := kl_total h1' hy; rw [this, h2'] at h; cases h⟩
end Mh
namespace Go.Proofs.YtdjcificgilimaaDoor
open Go.RowKit Mh
open Go.Lib (swapperK)
set_option linter.unusedVariables false
set_option maxHeartbeats 4000000 in
theorem movLess_any {w0 w' : World} {blk off n c G : Nat} {d : Array O} (h : RowSt encO2 2 w0 blk off n w' d) (hG : w0.heap[G]? = some (.cells #[.slice (some ⟨blk, off, none⟩) n c] 23 (0, 0))) (hne : G ≠ blk) (hn : n ≤ 1000) (i j : Nat) (hi : i < n) (hj : j < n) :
    Calls Tryd.prog 15 (#[.int .i64 (i : Nat), .int .i64 (j : Nat)] ++ #[.pointer (some ⟨G, 0, none⟩)]) w' fun e w'' => e = .returned (.bool (klO d[i]! d[j]!)) ∧ Below w'.heap.size w' w'' := by
  have hG' := (h.alg.block G (Array.getElem?_eq_some_iff.1 hG).1 hne).trans hG
  have g0 := cellT hG' (i := 0) rfl
  have ci : w'.cell? ⟨blk, off + i * 2, none⟩ = some (.string d[i]!.p) := by have := h.rows i hi 0 _ rfl; rwa [Nat.add_zero] at this
  have cj : w'.cell? ⟨blk, off + j * 2, none⟩ = some (.string d[j]!.p) := by have := h.rows j hj 0 _ rfl; rwa [Nat.add_zero] at this
  have HR : Hid (∀ a b : ByteArray, Op.bytesLess a.toList b.toList = kl a b) := fun a b => by rw [Go.Proofs.bytesLess_eq, Lib.toList_data, Lib.toList_data]; rfl
  have hkl := HR.out d[i]!.p d[j]!.p
  have hi0 : (i : Int) < n := by omega
  have hj0 : (j : Int) < n := by omega
  show Calls Tryd.prog 15 #[.int .i64 (i : Nat), .int .i64 (j : Nat), .pointer (some ⟨G, 0, none⟩)] w' _
  unfold klO
  generalize kl d[i]!.p d[j]!.p = R at *
  generalize d[i]!.p = x at *
  generalize d[j]!.p = y at *
  clear h hG hG'
  go_enter Tryd.func15, Tryd.ntmps15
  go_wp2_with fail
  go_quiet (fail)
  go_wp2_with fail
  go_ret
  exact ⟨rfl, below_drewN_at _ _⟩
end Go.Proofs.YtdjcificgilimaaDoor
