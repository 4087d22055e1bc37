/- mark.Unescape gives a string that is not longer than what it is asked of. Conditions: its size. -/
import Derived.Test.YtoalbfffojpnmaaDoorUnH
namespace Go.Proofs.YtoalbfffojpnmaaDoor
open Go.RowKit Mh
set_option linter.unusedVariables false

theorem made_one (z : Value) (n : Nat) : madeCells #[z] n = (List.replicate n z).toArray := by
  apply Array.ext
  · simp [madeCells]
  · intro i h1 h2
    simp [madeCells, Nat.mod_one]
theorem asw_start (w : World) (n : Nat) (hn : n ≤ 1000000000) : Asw w.heap.size (w.heap.size + 1) [] ((w.alloc (.cells (Array.replicate n (.int .u8 0)) 5)).alloc (.cells #[.slice (some ⟨w.heap.size, 0, none⟩) 0 n] 155)) := by
  have hc : ((w.alloc (.cells (Array.replicate n (.int .u8 0)) 5)).alloc (.cells #[.slice (some ⟨w.heap.size, 0, none⟩) 0 n] 155)).heap[w.heap.size + 1]? = some (.cells #[.slice (some ⟨w.heap.size, 0, none⟩) 0 n] 155 (0, 0)) := heap_new_at (by simp)
  refine ⟨⟨_, cellT hc rfl, ?_, by simp [Value.ownBlock]⟩, frozenT hc, by omega⟩
  refine ⟨rfl, .inr ⟨w.heap.size, n, Array.replicate n (.int .u8 0), rfl, Nat.le_refl _, (heap_alloc_old _ _ (by simp)).trans (heap_alloc_new _ _), by simp, by unfold maxLen; omega, by simp, by simp [byteCells]⟩⟩
set_option maxRecDepth 100000 in
set_option maxHeartbeats 4000000 in
theorem grReplace_any (b0 r : Nat) (s : ByteArray) (w : World) (h : Tr b0 w r 5) (hs : s.size ≤ 1000000000) :
    Calls Tryd.prog 103 #[ptr r, .string s] w fun e w' => ∃ t : ByteArray, e = .returned (.string t) ∧ t.size ≤ s.size ∧ Below w.heap.size w w' := by
  obtain ⟨bi, hbi, hbz0, hbz1, hbz2⟩ := info_parts infoU8c
  have hmk : ∀ w : World, (Instr.makeSlice 155 (.int .i64 0) (.int .i64 (s.size : Int))).run Tryd.prog w = .ok (.slice (some ⟨w.heap.size, 0, none⟩) 0 s.size) (w.alloc (.cells (List.replicate s.size (.int .u8 0)).toArray 5)) := by
    intro w
    rw [run_make (P := Tryd.prog) w 155 5 bi (.int .u8 0) Tryd.underlying155 hbi hbz0 .i64 .i64 0 (s.size : Int) (by omega) (by omega) (by rw [hbz2]; omega) (by omega)]
    have e : madeCells (Value.int .u8 0).cells ((s.size : Int).toNat * bi.size) = (List.replicate s.size (.int .u8 0)).toArray := by
      rw [hbz1, Int.toNat_natCast, Nat.mul_one]
      exact made_one _ _
    rw [e, Int.toNat_natCast]; rfl
  have HG := Lib.hid (fun C W (hb : Below w.heap.size w W) (ha : Asw w.heap.size C [] W) => grWrite_any b0 r C s w W h hb ha hs)
  have HS := Lib.hid (asw_start w s.size hs)
  have HBW : Hid (Below w.heap.size w ((w.alloc (.cells (Array.replicate s.size (.int .u8 0)) 5)).alloc (.cells #[.slice (some ⟨w.heap.size, 0, none⟩) 0 s.size] 155))) := (below_new w _).alloc (by simp) _
  have HCV : Hid (∀ W v l, W.ownsRow w.heap.size 5 1 v (List.length l) (byteCells l) → (convert 155 9 v).run Tryd.prog W = .ok (.string ⟨l.toArray⟩) W) := fun W v l ho => run_convert_own W 155 5 Tryd.underlying155 Tryd.underlying5 ho 9 Tryd.underlying9
  clear h hbi hbz0 hbz1 hbz2
  unfold ptr at *
  go_enter Tryd.func103, Tryd.ntmps103
  go_wp2_with (go_at_call 104; refine (HG.out _ _ HBW.out HS.out).mono ?_; rintro e w' ⟨⟨nn, rfl⟩, HL, HB⟩; obtain ⟨l, hl, ha⟩ := HL.out; obtain ⟨v, hv, hown, _⟩ := ha.ex; obtain ⟨va, vc, rfl⟩ := ownsRow_form hown; have hcv := HCV.out _ _ _ hown; have HLN := Lib.hid hl; clear hown ha hl)
  go_ret
  exact ⟨_, rfl, by show l.toArray.size ≤ _; simpa using HLN.out, HB.out⟩
set_option maxRecDepth 100000 in
set_option maxHeartbeats 4000000 in
theorem rReplace_any (R b0 : Nat) (s : ByteArray) (w : World) (h : Rpl b0 w R) (hs : s.size ≤ 1000000000) :
    Calls Tryd.prog 31 #[.pointer (some ⟨R, 0, none⟩), .string s] w fun e w' => ∃ t : ByteArray, e = .returned (.string t) ∧ t.size ≤ s.size ∧ Hid (Kept [R] w w') := by
  obtain ⟨q, c, h4, hqR, hq⟩ := h.c4
  have HD := Lib.hid (do_any R q c w _ h.c0 h.c1 h.c3 h4 hq hqR h.f)
  have hmf : ∀ (fn : Fn) (first cap : Array Value) (w : World), (Instr.makeFunc fn first cap).run Tryd.prog w = .ok (.func fn first cap) w := fun _ _ _ _ => rfl
  have HC : Hid (∀ w2 B, Tr w.heap.size w2 B 5 → Calls Tryd.prog 103 #[.pointer (some ⟨B, 0, none⟩), .string s] w2 fun e w' => ∃ t : ByteArray, e = .returned (.string t) ∧ t.size ≤ s.size ∧ Below w2.heap.size w2 w') := fun w2 B hb => grReplace_any _ B s w2 hb hs
  clear h h4 hq
  go_enter Tryd.func31, Tryd.ntmps31
  go_wp2_with (first | (go_at_call 39; refine HD.out.mono ?_; rintro e w2 ⟨rfl, ho⟩; obtain ⟨⟨B, hB, l3⟩, hk⟩ := ho.out; have HB := Lib.hid hB; have HK := Lib.hid hk; clear hB hk ho) | (go_at_call 103; refine (HC.out _ _ HB.out).mono ?_; rintro e w3 ⟨t, rfl, ht, hb3⟩; have HT := Lib.hid ht; clear ht))
  go_ret
  exact ⟨_, rfl, HT.out, HK.out.call (Kept.of_below (S := [R]) hb3) (fun b hb => .inl hb)⟩
theorem str10 (w : World) : Sl 1 (w.alloc (.cells (unL.map Value.string).toArray 9)) (.slice (some ⟨w.heap.size, 0, none⟩) 10 10) 10 (unL.map Value.string) := by
  refine ⟨rfl, .inr ⟨w.heap.size, 0, 10, rfl, by omega, by omega, by unfold maxLen; omega, by simp, fun i u hu => ?_⟩⟩
  rw [Nat.zero_add, cell_of_row _ _ _ _ _ _ (heap_alloc_new w _), List.getElem?_toArray]
  exact hu
set_option maxRecDepth 100000 in
set_option maxHeartbeats 4000000 in
theorem unescape_any (s : ByteArray) (w : World) (hs : s.size ≤ 1000000000) :
    Calls Tryd.prog 26 #[.string s] w fun e w' => ∃ t : ByteArray, e = .returned (.string t) ∧ t.size ≤ s.size ∧ Below w.heap.size w w' := by
  have HR : Hid (∀ R b0 w, Rpl b0 w R → Calls Tryd.prog 31 #[.pointer (some ⟨R, 0, none⟩), .string s] w fun e w' => ∃ t : ByteArray, e = .returned (.string t) ∧ t.size ≤ s.size ∧ Hid (Kept [R] w w')) := fun R b0 w h => rReplace_any R b0 s w h hs
  have HN := Lib.hid (fun w => new_any _ _ (str10 w))
  go_enter Tryd.func26, Tryd.ntmps26
  go_wp2_with (first | (go_at_call 30; refine (HN.out _).mono ?_; rintro e w2 ⟨R, rfl, HRP, hb2⟩; have HB2 := Lib.hid hb2; clear hb2) | (go_at_call 31; refine (HR.out _ _ _ HRP.out).mono ?_; rintro e w3 ⟨t, rfl, ht, HK⟩; have HT := Lib.hid ht; clear ht))
  go_ret
  refine ⟨_, rfl, HT.out, ?_⟩
  have h1 : Below w.heap.size w w2 := ((Below.refl _ w).alloc (Nat.le_refl _) _).trans (HB2.out.mono (by simp))
  exact h1.trans (HK.out.below h1.size (fun b hb => by simp at hb; subst hb; have := HRP.out.lo; simp at this; omega))
end Go.Proofs.YtoalbfffojpnmaaDoor
