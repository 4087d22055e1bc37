/- asset.joined; slices.Equal over rows of the same tokens. Conditions: where the tokens lie; bounds. -/
import Derived.Test.YtckinhebbhflgaaTkI
import Derived.Test.YtckinhebbhflgaaBldS
namespace Go.Proofs.Ytckinhebbhflgaa
open Go.RowKit Mh
set_option linter.unusedVariables false

theorem isB_alloc2 {T e : TypeId} {B b : Nat} {bs : List Value} {w : World} (h : Lib.IsBuilderF T e B b bs w) (o : Obj) : Lib.IsBuilderF T e B b bs (w.alloc o) := h.elim (fun x => .inl (x.alloc o)) (fun x => .inr (x.alloc o))
set_option maxRecDepth 100000 in
set_option maxHeartbeats 4000000 in
theorem joined_any (l : List Tk) (v : Value) (w : World) (h : Sl 2 w v l.length (rowsT l)) (hl : l.length ≤ 1000000) (hc : (cat l).length ≤ 1000000) :
    Calls Try.prog 12 #[v] w fun e w' => e = .returned (.string ⟨(cat l).toArray⟩) ∧ Below w.heap.size w w' := by
  obtain ⟨ao, c, rfl, hk⟩ := tok_at h
  have HK := Lib.hid hk
  have HCT : Hid (∀ k, (cat (l.take k)).length ≤ 1000000) := fun k => Nat.le_trans (cat_take_le l k) hc
  clear h hk hc
  go_enter Try.func12, Try.ntmps12
  go_wp2_with fail
  go_loopw [8] (fun i wr => ∃ k : Nat, k ≤ l.length ∧ i = .int .i64 k ∧ Hid (Lib.IsBuilderF 60 5 w.heap.size w.heap.size (Lib.byteCells (cat (l.take k))) wr) ∧ Hid (Below w.heap.size w wr)) (fun i _ => l.length - (intOf i).toNat)
  case atStart => exact ⟨0, Nat.zero_le _, rfl, .inl ⟨Nat.le_refl _, .slice none 0 0, heap_alloc_new _ _, ⟨rfl, .inl ⟨rfl, rfl⟩⟩, by simp [Value.ownBlock]⟩, (Below.refl _ w).alloc (Nat.le_refl _) _⟩
  case round =>
    obtain ⟨k, hk, rfl, HBL, HB⟩ := hrel
    have hzr := HB.out.size
    by_cases hkl : k < l.length
    · obtain ⟨b, off, rfl, hlt, c0, c1⟩ := HK.out k hkl
      have d0 := (HB.out.cell (p := ⟨b, off + k * 2, none⟩) hlt).trans c0
      have d1 := (HB.out.cell (p := ⟨b, off + k * 2 + 1, none⟩) hlt).trans c1
      have HC1 : Hid (cat (l.take (k + 1)) = cat (l.take k) ++ l[k].text) := by
        show _ = _
        rw [List.take_succ_eq_append_getElem hkl, cat_append]
        simp [cat]
      have hcl : (cat (l.take k)).length + l[k].text.length ≤ 1000000 := by
        have := HCT.out (k + 1)
        rw [HC1.out, List.length_append] at this
        exact this
      obtain ⟨K, hK⟩ : ∃ K, K = l[k].kind := ⟨_, rfl⟩
      obtain ⟨S, hS⟩ : ∃ S : ByteArray, S = ⟨l[k].text.toArray⟩ := ⟨_, rfl⟩
      have hSz : S.size = l[k].text.length := by rw [hS]; show l[k].text.toArray.size = _; simp
      have hSl : S.data.toList = l[k].text := by rw [hS]
      rw [← hK] at d0
      rw [← hS] at d1
      have HSL := Lib.hid hSl
      have HW := Lib.hid (writeString_any w.heap.size w.heap.size _ S (wr.alloc (.cells #[.int .i64 K, .string S] 33)) (isB_alloc2 HBL.out _) (by rw [Lib.byteCells_length]; omega) (by simp; omega))
      have HB1 : Hid (Below w.heap.size w (wr.alloc (.cells #[.int .i64 K, .string S] 33))) := HB.out.alloc hzr _
      clear c0 c1 hK hS hSz hSl hcl
      go_wp2_with fail
      refine HW.out.mono ?_
      rintro e w2 ⟨rfl, hb2, hbel2, hk2⟩
      have HB2 : Hid (Below w.heap.size w w2) := HB1.out.trans hbel2
      have HBL2 : Hid (Lib.IsBuilderF 60 5 w.heap.size w.heap.size (Lib.byteCells (cat (l.take (k + 1)))) w2) := by
        rw [Lib.strCells_eq, ← Lib.byteCells_append, HSL.out, ← HC1.out] at hb2
        exact .inr hb2
      clear hb2 hbel2 hk2
      go_wp2_with fail
      go_roundw
      case rel => exact ⟨k + 1, by omega, by go_num, HBL2, HB2⟩
      case measure => simp [intOf]; omega
    · obtain rfl : k = l.length := by omega
      have HST := Lib.hid (Try.Builder_String_any_f w.heap.size w.heap.size (cat (l.take l.length)) wr HBL.out hzr)
      have e9 : l.take l.length = l := List.take_length
      rw [e9] at HST
      clear e9
      obtain ⟨J, hJ⟩ : ∃ J : ByteArray, J = ⟨(cat l).toArray⟩ := ⟨_, rfl⟩
      rw [← hJ] at HST
      have HJ := Lib.hid hJ
      clear hJ
      go_wp2_with fail
      refine HST.out.mono ?_
      rintro e w2 ⟨rfl, _, hbel2⟩
      have HB2 : Hid (Below w.heap.size w w2) := HB.out.trans hbel2
      clear hbel2
      go_wp2_with fail
      go_ret
      exact ⟨by rw [← HJ.out]; rfl, HB2.out⟩
set_option maxRecDepth 100000 in
set_option maxHeartbeats 4000000 in
theorem equal_same (l : List Tk) (v u : Value) (w : World) (h : Sl 2 w v l.length (rowsT l)) (h2 : Sl 2 w u l.length (rowsT l)) (hl : l.length ≤ 1000000) :
    Calls Try.prog 9 #[v, u] w fun e w' => e = .returned (.bool true) ∧ Below w.heap.size w w' := by
  obtain ⟨ao, c, rfl, hk⟩ := tok_at h
  obtain ⟨ao', c', rfl, hk'⟩ := tok_at h2
  have HK := Lib.hid hk
  have HK' := Lib.hid hk'
  clear h hk h2 hk'
  go_enter Try.func9, Try.ntmps9
  go_wp2_with fail
  go_loopw [13] (fun i wr => ∃ k : Nat, k ≤ l.length ∧ i = .int .i64 k ∧ Hid (Below w.heap.size w wr)) (fun i _ => l.length - (intOf i).toNat)
  case atStart => exact ⟨0, Nat.zero_le _, rfl, Below.refl _ _⟩
  case round =>
    obtain ⟨k, hk, rfl, HB⟩ := hrel
    have hzr := HB.out.size
    by_cases hkl : k < l.length
    · obtain ⟨b, off, rfl, hlt, c0, c1⟩ := HK.out k hkl
      obtain ⟨b', off', rfl, hlt', x0, x1⟩ := HK'.out k hkl
      have d0 := (HB.out.cell (p := ⟨b, off + k * 2, none⟩) hlt).trans c0
      have d1 := (HB.out.cell (p := ⟨b, off + k * 2 + 1, none⟩) hlt).trans c1
      have y0 := (HB.out.cell (p := ⟨b', off' + k * 2, none⟩) hlt').trans x0
      have y1 := (HB.out.cell (p := ⟨b', off' + k * 2 + 1, none⟩) hlt').trans x1
      obtain ⟨K, hK⟩ : ∃ K, K = l[k].kind := ⟨_, rfl⟩
      obtain ⟨S, hS⟩ : ∃ S : ByteArray, S = ⟨l[k].text.toArray⟩ := ⟨_, rfl⟩
      rw [← hK] at d0 y0
      rw [← hS] at d1 y1
      have qk : (k : Int) < (l.length : Int) := by omega
      have q0 : (0 : Int) ≤ (k : Int) := by omega
      clear c0 c1 x0 x1 hK hS
      go_wp2_with fail
      go_quiet (fail)
      go_wp2_with fail
      go_roundw
      case rel => exact ⟨k + 1, by omega, by go_num, HB.out.trans ⟨rfl, rfl, rfl, Nat.le_refl _, fun _ _ => rfl⟩⟩
      case measure => simp [intOf]; omega
    · obtain rfl : k = l.length := by omega
      go_wp2_with fail
      go_ret
      exact ⟨rfl, HB.out⟩
end Go.Proofs.Ytckinhebbhflgaa
