/- conf.set along any steps. Conditions: the value is right and of at most 1000 values; at most 401 steps; keys of at most maxLen bytes. -/
import Derived.Test.YtbnlcnaccainhaaGreatDoorKeDa
import Derived.Test.YtbnlcnaccainhaaGreatDoorKeDb
namespace Go.Proofs.YtbnlcnaccainhaaGreatDoor
open Go.RowKit Mh
set_option linter.unusedVariables false
theorem set_any : ∀ (l : List St), l.length ≤ 402 → (∀ s ∈ l, s.key.size ≤ maxLen) → ∀ (S : Nat → Bool) (X Y : V) (cs ds : List Value) (v : Value) (w : World), (∀ k, w.heap.size ≤ k → S k = false) → VAt (veil S w) X cs → VAt (veil S w) Y ds → StAt w v l → X.mid →
    Calls Tryz.prog 12 #[.agg cs.toArray, v, .agg ds.toArray] w (SetOk S X l Y w) := by
  intro l
  induction l with
  | nil => intro _ _ S X Y cs ds v w _ hX hY hv _; exact set_nil S X Y cs ds v w hX hY hv
  | cons s l ih =>
    intro hlen hk S X Y cs ds v w hS hX hY hv hm
    simp only [List.length_cons] at hlen
    have HIH := Lib.hid (fun (S : Nat → Bool) (X : V) (cs ds : List Value) (v : Value) (w : World) h1 h2 h3 h4 h5 => ih (by omega) (fun x hx => hk x (by simp [hx])) S X Y cs ds v w h1 h2 h3 h4 h5)
    cases h0 : s.k0 with
    | false => exact set_tab S X Y s l cs ds v w hS hX hY hv hm (hk s (by simp)) (by omega) h0 HIH
    | true => exact set_lst S X Y s l cs ds v w hS hX hY hv hm (hk s (by simp)) (by omega) h0 HIH
end Go.Proofs.YtbnlcnaccainhaaGreatDoor
