/- conf.part: the part of a route that leads to an item. Conditions: the value is right; the library's table of powers of ten is laid. -/
import Derived.Test.YtbnlcnaccainhaaGreatDoorKeN
import Derived.Test.YtbnlcnaccainhaaGreatDoorKeT
import Derived.Lib.SmallJoins
import Derived.Lib.AppendIntMem
namespace Go.Proofs.YtbnlcnaccainhaaGreatDoor
open Go.RowKit Mh
set_option linter.unusedVariables false

/-- The library's table of powers of ten. -/
def Tab10 (w : World) : Prop := Lib.TabIs Tryz.prog w "internal/strconv.uint64pow10" .u64 Lib.pow10Tab
theorem Tab10.next {w w' : World} (h : Tab10 w) (hb : Below w.heap.size w w') : Tab10 w' := Lib.tabBelow_of_tabIs h w' hb
theorem itoa_any (n : Nat) (h1 : n ≤ 1000000000) (w : World) (ht : Tab10 w) :
    Calls Tryz.prog 50 #[.int .i64 (n : Int)] w fun e w' => e = .returned (.string (bz (Lib.decDigits n))) ∧ Below w.heap.size w w' := by
  refine (Tryz.strconv_Itoa (n : Int) (by omega) (by omega) w ht).mono ?_
  rintro e w' ⟨rfl, k, os, rfl⟩
  refine ⟨?_, Lib.below_grow _ _ (Nat.le_refl _) _ _⟩
  rw [Lib.itoa_nonneg]
  rfl
theorem part_l (k : Int) (b : Bool) (n : Int) (t : ByteArray) (il kl : Nat) (ia ka : Option Addr) (ic kc i : Nat) (w : World) (hk : (k == 6) = false) (hi : i ≤ 1000000) (ht : Tab10 w) :
    Calls Tryz.prog 33 #[.agg #[.int .i64 k, .bool b, .int .i64 n, .string t, .slice ia il ic, .slice ka kl kc], .int .i64 i] w fun e w' => e = .returned (.string (bz (Lib.decDigits i))) ∧ Below w.heap.size w w' := by
  have HB : Hid (Below w.heap.size w (w.alloc (.cells #[.int .i64 k, .bool b, .int .i64 n, .string t, .slice ia il ic, .slice ka kl kc] 25))) := (Below.refl w.heap.size w).alloc (Nat.le_refl _) _
  have HC := Lib.hid (itoa_any i (by omega) _ (ht.next HB.out))
  go_enter Tryz.func33, Tryz.ntmps33
  go_wp2_with fail
  refine HC.out.mono ?_
  rintro e w1 ⟨rfl, hb1⟩
  have HB1 : Hid (Below w.heap.size w w1) := HB.out.trans (hb1.mono (by simp))
  clear hb1 HB HC
  go_wp2_with fail
  go_ret
  exact ⟨rfl, HB1.out⟩
theorem part_any (X : V) (cs : List Value) (i : Nat) (w : World) (h : VAt w X cs) (hm : X.mid) (hi : i < X.its.length) (ht : Tab10 w) :
    Calls Tryz.prog 33 #[.agg cs.toArray, .int .i64 i] w fun e w' => e = .returned (.string (partB X.kd X.kys i)) ∧ Below w.heap.size w w' := by
  have hl := hm.len
  obtain ⟨ia, ic, ka, kc, rfl, _, _, _, hss, _⟩ := h.opened
  rw [vcs_arr]
  by_cases h6 : X.kd = 6
  · have he := (good_facts hm.1).2.1 h6
    obtain ⟨_, _, hsl, hkey⟩ := Ss.key hss
    simp only [Value.slice.injEq] at hsl
    obtain ⟨rfl, _, rfl⟩ := hsl
    obtain ⟨b, off, rfl, hlt, hc, _⟩ := hkey i (by omega)
    have := part_k X.kd X.bo X.nu X.tx X.its.length X.kys ia ic kc b off i w (by rw [h6]; rfl) (by omega) (by omega) hlt hc
    refine this.mono fun e w' ⟨h1, h2⟩ => ⟨?_, h2⟩
    rw [h1]
    unfold partB
    rw [if_pos h6]
    simp [List.getD, show i < X.kys.length by omega]
  · have := part_l X.kd X.bo X.nu X.tx X.its.length X.kys.length ia ka ic kc i w (by rw [beq_eq_false_iff_ne]; exact h6) (by omega) ht
    refine this.mono fun e w' ⟨h1, h2⟩ => ⟨?_, h2⟩
    rw [h1]
    unfold partB
    rw [if_neg h6]
end Go.Proofs.YtbnlcnaccainhaaGreatDoor
