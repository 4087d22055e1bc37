/- lang's reader of rules: more, close, where what they want is there, or is not. Conditions: as stated. -/
import Derived.Test.YtgfoangacbajlaaDoorRuN
namespace Go.Proofs.YtgfoangacbajlaaDoor
open Go.RowKit Mh
set_option linter.unusedVariables false

theorem hasPrefix_app (p r : List UInt8) : Lib.hasPrefix (p ++ r) p = true := by
  unfold Lib.hasPrefix; rw [List.isPrefixOf_iff_prefix]; exact List.prefix_append _ _
/-- What more's first test gives. -/
def m2 (s : ByteArray) (i : Nat) (sign : ByteArray) : Bool := Lib.hasPrefix (s.data.toList.drop i) (sign.data.toList.take 2)

set_option maxHeartbeats 2000000 in
theorem more_no (b : Nat) (s : ByteArray) (i : Nat) (sign : ByteArray) (w : World) (h : RS b s i w) (hi : i ≤ s.size) (hs : s.size ≤ 2000) (h3 : sign.size = 3) (hno : m2 s i sign = false) :
    Calls Tryd.prog 42 #[.pointer (some ⟨b, 0, none⟩), .string sign] w fun e w' => e = .returned (.bool false) ∧ Below w.heap.size w w' := by
  have c0 : w.cell? ⟨b, 0, none⟩ = some (.string s) := cellT h rfl
  have c1 : w.cell? ⟨b, 1, none⟩ = some (.int .i64 i) := cellT h rfl
  have c3 : w.cell? ⟨b, 3, none⟩ = some (.bool false) := cellT h rfl
  obtain ⟨t, ht⟩ : ∃ t, t = s.extract i s.size := ⟨_, rfl⟩
  have hts : t.data.toList = s.data.toList.drop i := by
    rw [ht]
    simp only [ByteArray.data_extract, Array.toList_extract, List.extract_eq_take_drop]
    exact List.take_of_length_le (by simp)
  obtain ⟨u, hu⟩ : ∃ u, u = sign.extract 0 2 := ⟨_, rfl⟩
  have hus : u.data.toList = sign.data.toList.take 2 := by
    rw [hu]
    simp only [ByteArray.data_extract, Array.toList_extract, List.extract_eq_take_drop, List.drop_zero]
  have HP : Hid (∀ m, Calls Tryd.prog 28 #[.string t, .string u] (w.drewN m) fun e w' => e = .returned (.bool false) ∧ w' = w.drewN m) := by
    intro m
    have := Tryd.strings_HasPrefix t u (w.drewN m)
    rw [hts, hus] at this
    unfold m2 at hno
    rw [hno] at this
    exact this
  have hsl : ∀ w, (Instr.slice 9 (.string s) (some (.int .i64 (i : Int))) none none).run Tryd.prog w = .ok (.string t) w := by
    intro w
    have := run_slice_string_l (P := Tryd.prog) w 9 s Tryd.underlying9 .i64 (i : Int) (by omega) (by omega)
    rw [ht]; simpa using this
  have hsu : ∀ w, (Instr.slice 9 (.string sign) none (some (.int .i64 2)) none).run Tryd.prog w = .ok (.string u) w := by
    intro w
    have := run_slice_string_h (P := Tryd.prog) w 9 sign Tryd.underlying9 .i64 2 (by omega) (by rw [h3]; decide)
    rw [hu]; simpa using this
  clear h ht hts hu hus hno
  go_enter Tryd.func42, Tryd.ntmps42
  go_wp2_with fail
  go_quiet ((go_at_call 28; with_reducible exact Calls.quiet_of_same (HP.out _)))
  go_wp2_with fail
  go_ret
  exact ⟨rfl, below_drewN' _ _⟩

set_option maxHeartbeats 2000000 in
theorem more_yes (b : Nat) (s : ByteArray) (i : Nat) (sign : ByteArray) (rest : List UInt8) (w : World) (h : RS b s i w) (hi : i ≤ s.size) (hs : s.size ≤ 2000) (h3 : sign.size = 3) (hd : s.data.toList.drop i = sign.data.toList ++ rest) :
    Calls Tryd.prog 42 #[.pointer (some ⟨b, 0, none⟩), .string sign] w fun e w' => e = .returned (.bool true) ∧ RS b s (i + 3) w' ∧ Kept [b] w w' := by
  have c0 : w.cell? ⟨b, 0, none⟩ = some (.string s) := cellT h rfl
  have c1 : w.cell? ⟨b, 1, none⟩ = some (.int .i64 i) := cellT h rfl
  have c3 : w.cell? ⟨b, 3, none⟩ = some (.bool false) := cellT h rfl
  obtain ⟨t, ht⟩ : ∃ t, t = s.extract i s.size := ⟨_, rfl⟩
  have hts : t.data.toList = s.data.toList.drop i := by
    rw [ht]
    simp only [ByteArray.data_extract, Array.toList_extract, List.extract_eq_take_drop]
    exact List.take_of_length_le (by simp)
  obtain ⟨u, hu⟩ : ∃ u, u = sign.extract 0 2 := ⟨_, rfl⟩
  have hus : u.data.toList = sign.data.toList.take 2 := by
    rw [hu]
    simp only [ByteArray.data_extract, Array.toList_extract, List.extract_eq_take_drop, List.drop_zero]
  have HP : Hid (∀ m, Calls Tryd.prog 28 #[.string t, .string u] (w.drewN m) fun e w' => e = .returned (.bool true) ∧ w' = w.drewN m) := by
    intro m
    have := Tryd.strings_HasPrefix t u (w.drewN m)
    rw [hts, hus, hd] at this
    have e : sign.data.toList ++ rest = sign.data.toList.take 2 ++ (sign.data.toList.drop 2 ++ rest) := by rw [← List.append_assoc, List.take_append_drop]
    rw [e, hasPrefix_app] at this
    exact this
  have hsl : ∀ w, (Instr.slice 9 (.string s) (some (.int .i64 (i : Int))) none none).run Tryd.prog w = .ok (.string t) w := by
    intro w
    have := run_slice_string_l (P := Tryd.prog) w 9 s Tryd.underlying9 .i64 (i : Int) (by omega) (by omega)
    rw [ht]; simpa using this
  have hsu : ∀ w, (Instr.slice 9 (.string sign) none (some (.int .i64 2)) none).run Tryd.prog w = .ok (.string u) w := by
    intro w
    have := run_slice_string_h (P := Tryd.prog) w 9 sign Tryd.underlying9 .i64 2 (by omega) (by rw [h3]; decide)
    rw [hu]; simpa using this
  have HT : Hid (∀ m, Calls Tryd.prog 14 #[.pointer (some ⟨b, 0, none⟩), .string sign] (w.drewN m) fun e w' => e = .returned (.tuple #[]) ∧ RS b s (i + 3) w' ∧ Kept [b] (w.drewN m) w') := by
    intro m
    rw [← h3]
    exact take_ok b s i sign rest (w.drewN m) h hd hi hs
  clear h ht hts hu hus hd
  go_enter Tryd.func42, Tryd.ntmps42
  go_wp2_with fail
  go_quiet ((go_at_call 28; with_reducible exact Calls.quiet_of_same (HP.out _)))
  go_wp2_with fail
  refine (HT.out _).mono ?_
  rintro e w2 ⟨rfl, hr2, hk2⟩
  have c3' : w2.cell? ⟨b, 3, none⟩ = some (.bool false) := cellT hr2 rfl
  have HR2 := Lib.hid hr2
  have HK2 := Lib.hid (((Kept.refl [b] w).drewN _).trans hk2)
  clear hr2 hk2
  go_wp2_with fail
  go_ret
  exact ⟨rfl, HR2.out, HK2.out⟩

set_option maxHeartbeats 2000000 in
theorem close_ok (b : Nat) (s : ByteArray) (i : Nat) (rest : List UInt8) (w : World) (h : RS b s i w) (hi : i ≤ s.size) (hs : s.size ≤ 2000) (hd : s.data.toList.drop i = 41 :: rest) :
    Calls Tryd.prog 66 #[.pointer (some ⟨b, 0, none⟩)] w fun e w' => e = .returned (.tuple #[]) ∧ RS b s (i + 1) w' ∧ Kept [b] w w' := by
  have c3 : w.cell? ⟨b, 3, none⟩ = some (.bool false) := cellT h rfl
  have hp : Lib.hasPrefix (s.data.toList.drop i) (⟨#[41]⟩ : ByteArray).data.toList = true := by rw [hd]; exact hasPrefix_app [41] rest
  have HI := Lib.hid (is_any b s i ⟨#[41]⟩ w h hi hs)
  rw [hp] at HI
  have HT := Lib.hid (fun w' (hb : Below w.heap.size w w') => take_ok b s i ⟨#[41]⟩ rest w' (h.next hb) hd hi hs)
  clear h hd hp
  go_enter Tryd.func66, Tryd.ntmps66
  go_wp2_with fail
  refine HI.out.mono ?_
  rintro e w1 ⟨rfl, hb1⟩
  have HB1 := Lib.hid hb1
  clear hb1
  go_wp2_with fail
  refine (HT.out _ HB1.out).mono ?_
  rintro e w2 ⟨rfl, hr2, hk2⟩
  have HR2 := Lib.hid hr2
  have HK2 := Lib.hid ((Kept.of_below HB1.out).trans hk2)
  clear hr2 hk2
  go_wp2_with fail
  go_end0
  exact ⟨rfl, HR2.out, HK2.out⟩
end Go.Proofs.YtgfoangacbajlaaDoor
