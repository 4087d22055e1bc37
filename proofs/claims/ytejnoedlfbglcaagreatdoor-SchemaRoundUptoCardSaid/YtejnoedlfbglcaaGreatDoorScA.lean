/- Small functions of schemas: str, yes, whole, kindName, fieldKind, kindOf, item. Conditions: the cells of kindNames. -/
import Derived.Test.YtejnoedlfbglcaaGreatDoorScP
import Derived.Test.YtejnoedlfbglcaaGreatDoorKeV
namespace Go.Proofs.YtejnoedlfbglcaaGreatDoor
open Go.RowKit Mh
set_option linter.unusedVariables false

theorem str_ret (s : ByteArray) (w : World) : Calls Tryz.prog 18 #[.string s] w fun e w' => e = .returned (.agg #[.int .i64 3, .bool false, .int .i64 0, .string s, .slice none 0 0, .slice none 0 0]) ∧ w' = w.alloc (.cells #[.int .i64 3, .bool false, .int .i64 0, .string s, .slice none 0 0, .slice none 0 0] 29) := by
  go_enter Tryz.func18, Tryz.ntmps18
  go_wp2_with fail
  refine bodyPost_ret (v := .agg #[.int .i64 3, .bool false, .int .i64 0, .string s, .slice none 0 0, .slice none 0 0]) (by simp [results, Tryz.results18, go_sem] <;> rfl) rfl ⟨rfl, rfl⟩
theorem yes_ret (b : Bool) (w : World) : Calls Tryz.prog 20 #[.bool b] w fun e w' => e = .returned (.agg #[.int .i64 1, .bool b, .int .i64 0, .string ⟨#[]⟩, .slice none 0 0, .slice none 0 0]) ∧ w' = w.alloc (.cells #[.int .i64 1, .bool b, .int .i64 0, .string ⟨#[]⟩, .slice none 0 0, .slice none 0 0] 29) := by
  go_enter Tryz.func20, Tryz.ntmps20
  go_wp2_with fail
  refine bodyPost_ret (v := .agg #[.int .i64 1, .bool b, .int .i64 0, .string ⟨#[]⟩, .slice none 0 0, .slice none 0 0]) (by simp [results, Tryz.results20, go_sem] <;> rfl) rfl ⟨rfl, rfl⟩
theorem whole_ret (n : Int) (w : World) : Calls Tryz.prog 21 #[.int .i64 n] w fun e w' => e = .returned (.agg #[.int .i64 2, .bool false, .int .i64 n, .string ⟨#[]⟩, .slice none 0 0, .slice none 0 0]) ∧ w' = w.alloc (.cells #[.int .i64 2, .bool false, .int .i64 n, .string ⟨#[]⟩, .slice none 0 0, .slice none 0 0] 29) := by
  go_enter Tryz.func21, Tryz.ntmps21
  go_wp2_with fail
  refine bodyPost_ret (v := .agg #[.int .i64 2, .bool false, .int .i64 n, .string ⟨#[]⟩, .slice none 0 0, .slice none 0 0]) (by simp [results, Tryz.results21, go_sem] <;> rfl) rfl ⟨rfl, rfl⟩

/-- The variable kindNames as its text lays it. -/
def KNames (w : World) : Prop := ∃ b o c, w.cell? ⟨0, 0, none⟩ = some (.slice (some ⟨b, o, none⟩) 7 c) ∧ 7 ≤ c ∧ b < w.heap.size ∧ ∀ i, i < 7 → w.cell? ⟨b, o + i, none⟩ = some (.string (kname i))
theorem KNames.keep {w w' : World} (h : KNames w) (hb : Below w.heap.size w w') : KNames w' := by
  obtain ⟨b, o, c, h1, h2, h3, h4⟩ := h
  refine ⟨b, o, c, (hb.cell (World.block_lt_of_cell? w _ h1)).trans h1, h2, Nat.lt_of_lt_of_le h3 hb.size, fun i hi => (hb.cell (p := ⟨b, o + i, none⟩) h3).trans (h4 i hi)⟩
theorem kindName_any (k : Int) (hk : k = -1 ∨ (0 ≤ k ∧ k ≤ 6)) (w : World) (hw : KNames w) : Calls Tryz.prog 19 #[.int .i64 k] w fun e w' => e = .returned (.string (knameI k)) ∧ w' = w := by
  obtain ⟨b, o, c, h1, h2, h3, h4⟩ := hw
  rcases hk with rfl | ⟨k1, k2⟩
  · go_enter Tryz.func19, Tryz.ntmps19
    go_wp2_with fail
    go_ret
    exact ⟨rfl, rfl⟩
  · obtain ⟨n, rfl⟩ := Int.eq_ofNat_of_zero_le k1
    have hn : n < 7 := by omega
    have hc := h4 n hn
    have hq : ((n : Int) == -1) = false := by rw [beq_eq_false_iff_ne]; omega
    have HR : Hid (knameI (n : Int) = kname n) := by show _ = _; unfold knameI; rw [if_neg (by omega)]; rfl
    clear h4 k1 k2
    go_enter Tryz.func19, Tryz.ntmps19
    go_wp2_with fail
    go_ret
    exact ⟨by rw [HR.out]; rfl, rfl⟩

theorem lit_true {s : ByteArray} {l : List UInt8} (h : s = ⟨l.toArray⟩) : (s.toList == l) = true := by subst h; simp [ByteArray.toList_eq]
theorem lit_false {s : ByteArray} {l : List UInt8} (h : s ≠ ⟨l.toArray⟩) : (s.toList == l) = false := by
  rw [beq_eq_false_iff_ne]
  intro e
  apply h
  rw [ByteArray.toList_eq] at e
  cases s with
  | mk d => subst e; simp
theorem two_true {s t : ByteArray} (h : s = t) : (s.toList == t.toList) = true := by subst h; simp
theorem two_false {s t : ByteArray} (h : s ≠ t) : (s.toList == t.toList) = false := by
  rw [beq_eq_false_iff_ne]
  intro e
  apply h
  rw [ByteArray.toList_eq, ByteArray.toList_eq] at e
  cases s with
  | mk d => cases t with
    | mk d2 => congr 1; exact Array.toList_inj.1 e
theorem fieldKind_any (s : ByteArray) (w : World) : Calls Tryz.prog 42 #[.string s] w fun e w' => e = .returned (.int .i64 (fkind s)) ∧ w' = w := by
  by_cases h1 : s = qRoute
  · have HR : Hid (fkind s = 3) := by show _ = _; rw [h1]; decide
    have q1 : (s.toList == [114, 111, 117, 116, 101]) = true := lit_true h1
    clear h1
    go_enter Tryz.func42, Tryz.ntmps42
    go_wp2_with fail
    go_ret
    exact ⟨by rw [HR.out]; rfl, rfl⟩
  have q1 : (s.toList == [114, 111, 117, 116, 101]) = false := lit_false h1
  by_cases h2 : s = qKind
  · have HR : Hid (fkind s = 3) := by show _ = _; rw [h2]; decide
    have q2 : (s.toList == [107, 105, 110, 100]) = true := lit_true h2
    clear h1 h2
    go_enter Tryz.func42, Tryz.ntmps42
    go_wp2_with fail
    go_ret
    exact ⟨by rw [HR.out]; rfl, rfl⟩
  have q2 : (s.toList == [107, 105, 110, 100]) = false := lit_false h2
  by_cases h3 : s = qNeed
  · have HR : Hid (fkind s = 1) := by show _ = _; rw [h3]; decide
    have q3 : (s.toList == [110, 101, 101, 100]) = true := lit_true h3
    clear h1 h2 h3
    go_enter Tryz.func42, Tryz.ntmps42
    go_wp2_with fail
    go_ret
    exact ⟨by rw [HR.out]; rfl, rfl⟩
  have q3 : (s.toList == [110, 101, 101, 100]) = false := lit_false h3
  by_cases h4 : s = qMax
  · have HR : Hid (fkind s = 2) := by show _ = _; rw [h4]; decide
    have q4 : (s.toList == [109, 97, 120]) = true := lit_true h4
    clear h1 h2 h3 h4
    go_enter Tryz.func42, Tryz.ntmps42
    go_wp2_with fail
    go_ret
    exact ⟨by rw [HR.out]; rfl, rfl⟩
  have q4 : (s.toList == [109, 97, 120]) = false := lit_false h4
  by_cases h5 : s = qMin
  · have HR : Hid (fkind s = 2) := by show _ = _; rw [h5]; decide
    have q5 : (s.toList == [109, 105, 110]) = true := lit_true h5
    clear h1 h2 h3 h4 h5
    go_enter Tryz.func42, Tryz.ntmps42
    go_wp2_with fail
    go_ret
    exact ⟨by rw [HR.out]; rfl, rfl⟩
  have q5 : (s.toList == [109, 105, 110]) = false := lit_false h5
  by_cases h6 : s = qOneof
  · have HR : Hid (fkind s = 5) := by show _ = _; rw [h6]; decide
    have q6 : (s.toList == [111, 110, 101, 111, 102]) = true := lit_true h6
    clear h1 h2 h3 h4 h5 h6
    go_enter Tryz.func42, Tryz.ntmps42
    go_wp2_with fail
    go_ret
    exact ⟨by rw [HR.out]; rfl, rfl⟩
  have q6 : (s.toList == [111, 110, 101, 111, 102]) = false := lit_false h6
  have HR : Hid (fkind s = -1) := by show _ = _; unfold fkind; rw [if_neg (by simp [h1, h2]), if_neg h3, if_neg (by simp [h4, h5]), if_neg h6]
  clear h1 h2 h3 h4 h5 h6
  go_enter Tryz.func42, Tryz.ntmps42
  go_wp2_with fail
  go_ret
  exact ⟨by rw [HR.out]; rfl, rfl⟩
set_option maxHeartbeats 2000000 in
theorem kindOf_any (k : Int) (hk : k = -1 ∨ (0 ≤ k ∧ k ≤ 6)) (w : World) (hw : KNames w) : Calls Tryz.prog 43 #[.string (knameI k)] w fun e w' => e = .returned (.tuple #[.int .i64 k, .bool true]) ∧ w' = w := by
  obtain ⟨b, o, c, h1, h2, h3, h4⟩ := hw
  rcases hk with rfl | ⟨k1, k2⟩
  · go_enter Tryz.func43, Tryz.ntmps43
    have q : ((knameI (-1)).toList == [97, 110, 121]) = true := lit_true rfl
    generalize knameI (-1) = s at *
    go_wp2_with fail
    go_ret2
    exact ⟨rfl, rfl⟩
  · obtain ⟨n, rfl⟩ := Int.eq_ofNat_of_zero_le k1
    have hn : n < 7 := by omega
    have e1 : knameI (n : Int) = kname n := by unfold knameI; rw [if_neg (by omega)]; rfl
    rw [e1]
    have q : ((kname n).toList == [97, 110, 121]) = false := lit_false (kname_any n hn)
    have HT : Hid (∀ j, j < 7 → j ≠ n → ((kname j).toList == (kname n).toList) = false) := fun j hj hne => two_false (kname_ne j n hj hn hne)
    have HC := Lib.hid h4
    clear e1 h4 k1 k2
    go_enter Tryz.func43, Tryz.ntmps43
    go_wp2_with fail
    go_loopw [10] (fun i wr => ∃ j : Nat, i = .int .i64 j ∧ Hid (j ≤ n) ∧ wr = w) (fun i _ => 7 - (intOf i).toNat)
    case atStart => exact ⟨0, rfl, Nat.zero_le _, rfl⟩
    case round =>
      obtain ⟨j, rfl, HJ, rfl⟩ := hrel
      have hjn := HJ.out
      have hj7 : j < 7 := by omega
      have c0 := HC.out j hj7
      by_cases hjn2 : j = n
      · subst hjn2
        have qq : ((kname j).toList == (kname j).toList) = true := two_true rfl
        generalize kname j = s at *
        go_wp2_with fail
        go_ret2
        exact ⟨rfl, rfl⟩
      · have qq := HT.out j hj7 hjn2
        have HJ2 : Hid (j + 1 ≤ n) := by show _ ≤ _; omega
        generalize kname n = s at *
        generalize kname j = s2 at *
        go_wp2_with fail
        go_roundw
        case rel => exact ⟨j + 1, by go_num, HJ2, (by first | trivial | rfl)⟩
        case measure => simp [intOf]; omega

set_option maxHeartbeats 2000000 in
/-- A key that a table has not. -/
theorem item_m (k : Int) (b : Bool) (n : Int) (t : ByteArray) (il kl : Nat) (ia ka : Option Addr) (ic kc : Nat) (key : ByteArray) (L : Nat) (w : World)
    (CF : Hid (∀ w', Below w.heap.size w w' → Calls Tryz.prog 38 #[.agg #[.int .i64 k, .bool b, .int .i64 n, .string t, .slice ia il ic, .slice ka kl kc], .string key] w' fun e w2 => e = .returned (.tuple #[.int .i64 L, .bool false]) ∧ Below w'.heap.size w' w2)) :
    Calls Tryz.prog 26 #[.agg #[.int .i64 k, .bool b, .int .i64 n, .string t, .slice ia il ic, .slice ka kl kc], .string key] w fun e w' => e = .returned (.tuple #[.agg zv.toArray, .bool false]) ∧ Below w.heap.size w w' := by
  have HB : Hid (Below w.heap.size w ((w.alloc (.cells #[.int .i64 k, .bool b, .int .i64 n, .string t, .slice ia il ic, .slice ka kl kc] 29)).alloc (.cells #[.int .i64 0, .bool false, .int .i64 0, .string ⟨#[]⟩, .slice none 0 0, .slice none 0 0] 29))) := ((Below.refl w.heap.size w).alloc (Nat.le_refl _) _).alloc (by simp) _
  go_enter Tryz.func26, Tryz.ntmps26
  go_wp2_with fail
  refine (CF.out _ HB.out).mono ?_
  rintro e w1 ⟨rfl, hb1⟩
  have hZ : w1.heap[w.heap.size + 1]? = some (.cells #[.int .i64 0, .bool false, .int .i64 0, .string ⟨#[]⟩, .slice none 0 0, .slice none 0 0] 29 (0, 0)) := (hb1.block _ (by simp)).trans (heap_new_at (by simp))
  have HB1 : Hid (Below w.heap.size w w1) := HB.out.trans (hb1.mono (by simp <;> omega))
  obtain ⟨r0, r1, r2, r3, r4, r5⟩ := six_of_block hZ
  obtain ⟨f0, f1, f2, f3, f4, f5⟩ := six_open hZ
  have HZ := Lib.hid hZ
  clear hb1 hZ CF HB
  go_wp2_with fail
  have hput := put6_at (a := .int .i64 0) (b := .bool false) (c := .int .i64 0) (d := .string ⟨#[]⟩) (e := .slice none 0 0) (f := .slice none 0 0) rfl HZ.out
  have hbel : Below w.heap.size w (put6 w1 (w.heap.size + 1) (.int .i64 0) (.bool false) (.int .i64 0) (.string ⟨#[]⟩) (.slice none 0 0) (.slice none 0 0)) := put6_below HB1.out (by omega)
  unfold put6 at hput hbel
  generalize hwf : World.setCell _ _ _ = wf at hput hbel ⊢
  clear hwf r0 r1 r2 r3 r4 r5 f0 f1 f2 f3 f4 f5
  obtain ⟨r0, r1, r2, r3, r4, r5⟩ := six_of_block hput
  refine bodyPost_ret (v := .tuple #[.agg zv.toArray, .bool false]) (by simp [results, Tryz.results26, go_sem, zv, r0, r1, r2, r3, r4, r5] <;> rfl) rfl ⟨rfl, hbel⟩
set_option maxHeartbeats 2000000 in
/-- A key that a table has. -/
theorem item_h (k : Int) (b : Bool) (n : Int) (t : ByteArray) (il kl : Nat) (ka : Option Addr) (ic kc : Nat) (key : ByteArray) (L : Nat) (w : World) (hlen : il ≤ 1099511627776) (hL : L < il) (ib io : Nat) (hib : ib < w.heap.size) (k1 : Int) (b1 : Bool) (n1 : Int) (t1 : ByteArray) (il1 kl1 : Nat) (ia1 ka1 : Option Addr) (ic1 kc1 : Nat) (d0 : w.cell? ⟨ib, io + L * 6, none⟩ = some (.int .i64 k1)) (d1 : w.cell? ⟨ib, io + L * 6 + 1, none⟩ = some (.bool b1)) (d2 : w.cell? ⟨ib, io + L * 6 + 2, none⟩ = some (.int .i64 n1)) (d3 : w.cell? ⟨ib, io + L * 6 + 3, none⟩ = some (.string t1)) (d4 : w.cell? ⟨ib, io + L * 6 + 4, none⟩ = some (.slice ia1 il1 ic1)) (d5 : w.cell? ⟨ib, io + L * 6 + 5, none⟩ = some (.slice ka1 kl1 kc1))
    (CF : Hid (∀ w', Below w.heap.size w w' → Calls Tryz.prog 38 #[.agg #[.int .i64 k, .bool b, .int .i64 n, .string t, .slice (some ⟨ib, io, none⟩) il ic, .slice ka kl kc], .string key] w' fun e w2 => e = .returned (.tuple #[.int .i64 L, .bool true]) ∧ Below w'.heap.size w' w2)) :
    Calls Tryz.prog 26 #[.agg #[.int .i64 k, .bool b, .int .i64 n, .string t, .slice (some ⟨ib, io, none⟩) il ic, .slice ka kl kc], .string key] w fun e w' => e = .returned (.tuple #[.agg #[.int .i64 k1, .bool b1, .int .i64 n1, .string t1, .slice ia1 il1 ic1, .slice ka1 kl1 kc1], .bool true]) ∧ Below w.heap.size w w' := by
  have HB : Hid (Below w.heap.size w ((w.alloc (.cells #[.int .i64 k, .bool b, .int .i64 n, .string t, .slice (some ⟨ib, io, none⟩) il ic, .slice ka kl kc] 29)).alloc (.cells #[.int .i64 0, .bool false, .int .i64 0, .string ⟨#[]⟩, .slice none 0 0, .slice none 0 0] 29))) := ((Below.refl w.heap.size w).alloc (Nat.le_refl _) _).alloc (by simp) _
  go_enter Tryz.func26, Tryz.ntmps26
  go_wp2_with fail
  refine (CF.out _ HB.out).mono ?_
  rintro e w1 ⟨rfl, hb1⟩
  have hZ : w1.heap[w.heap.size + 1]? = some (.cells #[.int .i64 0, .bool false, .int .i64 0, .string ⟨#[]⟩, .slice none 0 0, .slice none 0 0] 29 (0, 0)) := (hb1.block _ (by simp)).trans (heap_new_at (by simp))
  have HB1 : Hid (Below w.heap.size w w1) := HB.out.trans (hb1.mono (by simp <;> omega))
  obtain ⟨r0, r1, r2, r3, r4, r5⟩ := six_of_block hZ
  obtain ⟨f0, f1, f2, f3, f4, f5⟩ := six_open hZ
  have HZ := Lib.hid hZ
  have z0 := (HB1.out.cell (p := ⟨ib, io + L * 6, none⟩) hib).trans d0
  have z1 := (HB1.out.cell (p := ⟨ib, io + L * 6 + 1, none⟩) hib).trans d1
  have z2 := (HB1.out.cell (p := ⟨ib, io + L * 6 + 2, none⟩) hib).trans d2
  have z3 := (HB1.out.cell (p := ⟨ib, io + L * 6 + 3, none⟩) hib).trans d3
  have z4 := (HB1.out.cell (p := ⟨ib, io + L * 6 + 4, none⟩) hib).trans d4
  have z5 := (HB1.out.cell (p := ⟨ib, io + L * 6 + 5, none⟩) hib).trans d5
  have hbk : w1.heap[w.heap.size]? = some (.cells #[.int .i64 k, .bool b, .int .i64 n, .string t, .slice (some ⟨ib, io, none⟩) il ic, .slice ka kl kc] 29 (0, 0)) := (hb1.block _ (by simp <;> omega)).trans ((heap_alloc_old _ _ (by simp)).trans (heap_alloc_new _ _))
  have x4 : w1.cell? ⟨w.heap.size, 4, none⟩ = some (.slice (some ⟨ib, io, none⟩) il ic) := cellT hbk rfl
  clear hb1 hZ CF HB hbk d0 d1 d2 d3 d4 d5
  go_wp2_with fail
  have hput := put6_at (a := .int .i64 k1) (b := .bool b1) (c := .int .i64 n1) (d := .string t1) (e := .slice ia1 il1 ic1) (f := .slice ka1 kl1 kc1) rfl HZ.out
  have hbel : Below w.heap.size w (put6 w1 (w.heap.size + 1) (.int .i64 k1) (.bool b1) (.int .i64 n1) (.string t1) (.slice ia1 il1 ic1) (.slice ka1 kl1 kc1)) := put6_below HB1.out (by omega)
  unfold put6 at hput hbel
  generalize hwf : World.setCell _ _ _ = wf at hput hbel ⊢
  clear hwf z0 z1 z2 z3 z4 z5 x4 r0 r1 r2 r3 r4 r5 f0 f1 f2 f3 f4 f5
  obtain ⟨r0, r1, r2, r3, r4, r5⟩ := six_of_block hput
  refine bodyPost_ret (v := .tuple #[.agg #[.int .i64 k1, .bool b1, .int .i64 n1, .string t1, .slice ia1 il1 ic1, .slice ka1 kl1 kc1], .bool true]) (by simp [results, Tryz.results26, go_sem, r0, r1, r2, r3, r4, r5] <;> rfl) rfl ⟨rfl, hbel⟩
/-- What item gives. -/
def itemV (X : V) (key : ByteArray) : V := if hit key X.kys = true then X.its.getD (low key X.kys) V.nil else V.nil
theorem item_any (X : V) (cs : List Value) (key : ByteArray) (w : World) (h : VAt w X cs) (hA : Asc X.kys) (hl : X.kys.length = X.its.length) (hlen : X.its.length ≤ 1099511627776) :
    Calls Tryz.prog 26 #[.agg cs.toArray, .string key] w fun e w' => ∃ ds : List Value, e = .returned (.tuple #[.agg ds.toArray, .bool (hit key X.kys)]) ∧ VAt w' (itemV X key) ds ∧ Below w.heap.size w w' := by
  have hf := fun w' (hb : Below w.heap.size w w') => find_any X cs key w' (h.keep hb) hA (by rw [hl]; exact hlen)
  obtain ⟨ia, ic, ka, kc, rfl, hil, hkl, htl, hss, rows, hS, hT⟩ := h.opened
  obtain ⟨_, _, hsl, hk⟩ := VsAt.item hS hT
  simp only [Value.slice.injEq] at hsl
  obtain ⟨rfl, _, rfl⟩ := hsl
  rw [vcs_arr] at hf ⊢
  unfold itemV
  cases hh : hit key X.kys with
  | false =>
    rw [hh] at hf
    refine (item_m X.kd X.bo X.nu X.tx X.its.length X.kys.length ia ka ic kc key (low key X.kys) w hf).mono ?_
    rintro e w' ⟨h1, h2⟩
    exact ⟨zv, h1, zv_at _, h2⟩
  | true =>
    rw [hh] at hf
    have hL : low key X.kys < X.its.length := by
      have h1 : X.kys[low key X.kys]? = some key := of_decide_eq_true hh
      have := (List.getElem?_eq_some_iff.1 h1).1
      rw [hl] at this
      exact this
    obtain ⟨b, off, ja, jc, la, lc, rfl, hlt, hat, hc6⟩ := hk _ hL
    refine (item_h X.kd X.bo X.nu X.tx X.its.length X.kys.length ka ic kc key (low key X.kys) w hlen hL b off hlt _ _ _ _ _ _ _ _ _ _ (hc6 0 (by omega)) (hc6 1 (by omega)) (hc6 2 (by omega)) (hc6 3 (by omega)) (hc6 4 (by omega)) (hc6 5 (by omega)) hf).mono ?_
    rintro e w' ⟨h1, h2⟩
    refine ⟨_, h1, ?_, h2⟩
    rw [if_pos rfl, List.getD_eq_getElem?_getD, List.getElem?_eq_getElem hL]
    exact hat.keep h2
end Go.Proofs.YtejnoedlfbglcaaGreatDoor
