/- ship.cutAt where there is no sign; decoded where there is no percent sign. Conditions: strings of at most 2^40 bytes. -/
import Derived.Test.YtdjcificgilimaaDoorShC
import Derived.Test.YtdjcificgilimaaDoorMp
import Derived.Sort.OwnSorted
import Derived.Shelf.Slices.In.SortNone2
namespace Mh
open Go Go.RowKit
set_option linter.unusedVariables false
theorem indexByte_no {l : List UInt8} {c : UInt8} (h : c ∉ l) : Lib.indexByte l c = -1 := by
  induction l with
  | nil => rfl
  | cons b l ih =>
    have hb : (b == c) = false := by rw [beq_eq_false_iff_ne]; exact fun e => h (by rw [e]; exact List.mem_cons_self)
    unfold Lib.indexByte
    rw [hb, ih fun h2 => h (List.mem_cons_of_mem _ h2)]
    rfl
end Mh
namespace Go.Proofs.YtdjcificgilimaaDoor
open Go.RowKit Mh
set_option linter.unusedVariables false
theorem cutAt_no (s : ByteArray) (c : UInt8) (h : c ∉ s.data.toList) (w : World) :
    Calls Tryd.prog 19 #[.string s, .int .u8 (c.toNat : Int)] w fun e w' => e = .returned (.tuple #[.string s, .string ⟨#[]⟩]) ∧ w' = w := by
  have HI := Lib.hid (Tryd.strings_IndexByte s (c.toNat : Int) w)
  rw [show ((c.toNat : Int)).toNat.toUInt8 = c by simp, indexByte_no h] at HI
  clear h
  go_enter Tryd.func19, Tryd.ntmps19
  go_wp2_with (go_at_call 32; refine HI.out.mono ?_; rintro e w' ⟨rfl, rfl⟩)
  go_ret2
  exact ⟨rfl, rfl⟩
theorem shByte : (Tryd.prog.info? 5).map (fun i => (i.zero, i.size, i.bytes)) = some (some (.int .u8 0), 1, 1) := by kernel_rfl
set_option maxRecDepth 100000 in
set_option maxHeartbeats 4000000 in
theorem decoded_no (s : ByteArray) (hs : s.size ≤ 1099511627776) (h : (37 : UInt8) ∉ s.data.toList) (w : World) :
    Calls Tryd.prog 20 #[.string s] w fun e w' => e = .returned (.string s) ∧ Below w.heap.size w w' := by
  have HNO : Hid (∀ k (hk : k < s.size), ((s[k].toNat : Int) == 37) = false) := fun k hk => by
    rw [beq_eq_false_iff_ne]
    intro e
    have e2 : s[k] = 37 := UInt8.toNat_inj.1 (by have h37 : (37 : UInt8).toNat = 37 := rfl; omega)
    exact h (by rw [← e2]; exact List.getElem_mem (by simpa using hk))
  have HTK : Hid (∀ k (hk : k < s.size), s.data.toList.take (k + 1) = s.data.toList.take k ++ [s[k]]) := fun k hk => by
    rw [take_snocO s.data.toList k (by simpa using hk)]; rfl
  have hlen : s.data.toList.length = s.size := Array.length_toList
  have HLT : Hid (∀ k, (s.data.toList.take k).length ≤ k) := fun k => by rw [List.length_take]; omega
  obtain ⟨i0, hi, hz0, hz1, hz2⟩ := info_parts shByte
  clear h
  go_enter Tryd.func20, Tryd.ntmps20
  go_wp2_with fail
  go_loopw [3, 4] (fun v i wr => ∃ (k : Nat) (va : Option Addr) (vc : Nat), k ≤ s.size ∧ i = .int .i64 k ∧ v = .slice va (s.data.toList.take k).length vc ∧ Hid (wr.ownsRow w.heap.size 5 1 (.slice va (s.data.toList.take k).length vc) (s.data.toList.take k).length (byteCells (s.data.toList.take k))) ∧ Hid (Below w.heap.size w wr)) (fun _ i wr => s.size - (intOf i).toNat)
  case atStart => exact ⟨0, none, 0, Nat.zero_le _, rfl, rfl, World.ownsRow_nil _ _ _ _, Below.refl _ _⟩
  case round =>
    obtain ⟨k, va, vc, hk, rfl, rfl, HO, HB⟩ := hrel
    by_cases hkl : k < s.size
    · have hno := HNO.out k hkl
      have HT1 := Lib.hid (HTK.out k hkl)
      have HL := Lib.hid (HLT.out k)
      have hsz := HB.out.size
      generalize htl : s.data.toList.take k = tl at *
      have HL1 : Hid (tl.length + 1 ≤ 140737488355328) := by have := HL.out; show _ ≤ _; omega
      clear htl
      go_wp2_with (at_builtin; refine wpList_append_byte HB.out rfl _ _ 71 rfl 5 i0 (.int .u8 0) Tryd.underlying71 hi hz0 hz1 hz2 rfl _ _ rfl HO.out _ rfl HL1.out (Nat.le_refl _) hsz ?_; intro v' w' hown' hbel' hsz'; obtain ⟨va6, vc6, hv6⟩ := row_form hown'; subst hv6)
      have HO2 := Lib.hid hown'
      have HB2 := Lib.hid hbel'
      clear hown' hbel' hsz'
      go_roundw
      case rel => exact ⟨k + 1, va6, vc6, by omega, by go_num, by rw [HT1.out]; simp, by rw [HT1.out]; exact HO2.out, HB2.out⟩
      case measure => simp [intOf]; omega
    · have hke : s.data.toList.take k = s.data.toList := List.take_of_length_le (by omega)
      rw [hke] at HO ⊢
      have hcv := run_convert_own (P := Tryd.prog) wr 71 5 Tryd.underlying71 Tryd.underlying5 HO.out 9 Tryd.underlying9
      rw [hlen] at hcv
      clear hke hlen
      go_wp2_with fail
      go_ret
      exact ⟨by simp, HB.out⟩
end Go.Proofs.YtdjcificgilimaaDoor
