/- The variable strconv.ErrRange, as it is laid, holds an error; the table of the powers of ten, as it is laid. -/
import Derived.Test.YtejnoedlfbglcaaGreatDoorWvB
import Derived.Test.YtejnoedlfbglcaaGreatDoorLawKit
import Derived.Test.YtejnoedlfbglcaaGreatDoorTb10
import Derived.Test.YtejnoedlfbglcaaGreatDoorRows
namespace Mh
open Go Go.RowKit
set_option linter.unusedVariables false
theorem iface_of {H : Type} {enc : TypeId × Value → H} {P : Program} {w : World} {base : Nat} {spare : Nat → Bool} {held : Bool} {fuel : Nat} {t : TypeId} {ms : Array (String × TypeId)} {cs : List Value} {n : String} {d : DataW H} {p : List MemPlace}
    (ht : P.underlying t = some (.interface ms)) (h : DataW.trod enc P w base spare held fuel t cs = some (.iface n d, p)) : ∃ u v, cs = [.iface u v] := by
  cases fuel with
  | zero => simp [DataW.trod] at h
  | succ f =>
    unfold DataW.trod at h
    rw [ht] at h
    split at h <;> first | exact ⟨_, _, rfl⟩ | simp_all
end Mh
namespace Go.Proofs.YtejnoedlfbglcaaGreatDoor
open Go.RowKit Mh
set_option linter.unusedVariables false
theorem ev_laid {W : World} {l : List (String × DataW Unit)} (h : laidMet Tryz.prog l W) (hm : ("strconv.ErrRange", Rows.laid_strconv_ErrRange) ∈ l) : EvAt W := by
  obtain ⟨ps, hl, _⟩ := h
  obtain ⟨g, t, cs, fuel, p, hg, ht, hvar, hd⟩ := laid_mem l ps hl hm
  obtain rfl := Option.some.inj ((show Tryz.prog.globalNamed "strconv.ErrRange" = some 3 by kernel_rfl).symm.trans hg)
  obtain rfl := Option.some.inj ((show (Tryz.prog.globals[3]?).map (·.type) = some 108 by kernel_rfl).symm.trans ht)
  obtain ⟨u, v, hu⟩ := iface_of Tryz.underlying108 hd
  have := World.var?_cell hg hvar 0
  refine ⟨u, v, ?_⟩
  have h1 : cs[0]? = some (.iface u v) := by rw [← Array.getElem?_toList, hu]; rfl
  rw [h1] at this
  exact this
theorem tab10_laid {W : World} {l : List (String × DataW Unit)} (h : laidMet Tryz.prog l W) (hm : ("internal/strconv.uint64pow10", Lib.tabData .u64 Lib.pow10Tab) ∈ l) : Tab10 W :=
  tabIs_of_mem (k := .u64) (zs := Lib.pow10Tab) (show Tryz.prog.globalNamed "internal/strconv.uint64pow10" = some 4 by kernel_rfl) (show (Tryz.prog.globals[4]?).map (·.type) = some 203 by kernel_rfl) Tryz.underlying203 Tryz.underlying159 (by kernel_rfl) (by kernel_rfl) h hm
end Go.Proofs.YtejnoedlfbglcaaGreatDoor
