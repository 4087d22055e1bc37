/- The variable strconv.ErrRange, as it is laid, holds an error; the table of the powers of ten, as it is laid. -/
import Derived.Test.YtdolpehcfifecaaDoorMgW
import Derived.Test.YtdolpehcfifecaaDoorLawKit
import Derived.Test.YtdolpehcfifecaaDoorTb10
import Derived.Test.YtdolpehcfifecaaDoorRows
namespace Mh
open Go Go.RowKit
set_option linter.unusedVariables false
theorem iface_of {H : Type} {enc : TypeId × Value → H} {P : Program} {w : World} {base : Nat} {spare : Nat → Bool} {held : Bool} {fuel : Nat} {t : TypeId} {ms : Array (String × TypeId)} {cs : List Value} {n : String} {d : DataW H} {p : List MemPlace}
    (ht : P.underlying t = some (.interface ms)) (h : DataW.trod enc P w base spare held fuel t cs = some (.iface n d, p)) : ∃ u v, cs = [.iface u v] := by
  cases fuel with
  | zero => simp [DataW.trod] at h
  | succ f =>
    unfold DataW.trod at h
    rw [ht] at h
    split at h <;> first | exact ⟨_, _, rfl⟩ | simp_all
end Mh
namespace Go.Proofs.YtdolpehcfifecaaDoor
open Go.RowKit Mh
set_option linter.unusedVariables false
theorem ev_laid {W : World} {l : List (String × DataW Unit)} (h : laidMet Tryd.prog l W) (hm : ("strconv.ErrRange", Rows.laid_strconv_ErrRange) ∈ l) : EvAt W := by
  obtain ⟨ps, hl, _⟩ := h
  obtain ⟨g, t, cs, fuel, p, hg, ht, hvar, hd⟩ := laid_mem l ps hl hm
  obtain rfl := Option.some.inj ((show Tryd.prog.globalNamed "strconv.ErrRange" = some 4 by kernel_rfl).symm.trans hg)
  obtain rfl := Option.some.inj ((show (Tryd.prog.globals[4]?).map (·.type) = some 118 by kernel_rfl).symm.trans ht)
  obtain ⟨u, v, hu⟩ := iface_of Tryd.underlying118 hd
  have := World.var?_cell hg hvar 0
  refine ⟨u, v, ?_⟩
  have h1 : cs[0]? = some (.iface u v) := by rw [← Array.getElem?_toList, hu]; rfl
  rw [h1] at this
  exact this
theorem tab10_laid {W : World} {l : List (String × DataW Unit)} (h : laidMet Tryd.prog l W) (hm : ("internal/strconv.uint64pow10", Lib.tabData .u64 Lib.pow10Tab) ∈ l) : Tab10 W :=
  tabIs_of_mem (k := .u64) (zs := Lib.pow10Tab) (show Tryd.prog.globalNamed "internal/strconv.uint64pow10" = some 5 by kernel_rfl) (show (Tryd.prog.globals[5]?).map (·.type) = some 162 by kernel_rfl) Tryd.underlying162 Tryd.underlying142 (by kernel_rfl) (by kernel_rfl) h hm
end Go.Proofs.YtdolpehcfifecaaDoor
