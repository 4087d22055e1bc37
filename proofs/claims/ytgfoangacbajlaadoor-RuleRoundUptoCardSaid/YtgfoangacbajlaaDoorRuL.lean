/- lang's reader of rules: within, at a right test's text. Conditions: as stated. -/
import Derived.Test.YtgfoangacbajlaaDoorRuM
import Derived.Test.YtgfoangacbajlaaDoorRuQ
namespace Go.Proofs.YtgfoangacbajlaaDoor
open Go.RowKit Mh
set_option linter.unusedVariables false

/-- What stands while 'within' reads: the reader at i, the test read so far, the result's place. -/
structure WS (b : Nat) (s : ByteArray) (w : World) (i : Nat) (m lo hi : Int) (wk : World) : Prop where
  lt : b < w.heap.size
  rs : RS b s i wk
  t : wk.heap[w.heap.size + 1]? = some (.cells #[.int .i64 1, .int .i64 m, .int .i64 lo, .int .i64 hi, .slice none 0 0] 42 (0, 0))
  r : wk.heap[w.heap.size]? = some (.cells #[.int .i64 0, .int .i64 0, .int .i64 0, .int .i64 0, .slice none 0 0] 42 (0, 0))
  k : Kept [b] w wk
  z : w.heap.size + 2 ≤ wk.heap.size
theorem WS.call {b : Nat} {s : ByteArray} {w : World} {i j : Nat} {m lo hi : Int} {wk wl : World} (h : WS b s w i m lo hi wk) (hr : RS b s j wl) (hk : Kept [b] wk wl) : WS b s w j m lo hi wl :=
  ⟨h.lt, hr, (hk.block _ (by have := h.z; omega) (by have := h.lt; simp; omega)).trans h.t, (hk.block _ (by have := h.z; omega) (by have := h.lt; simp; omega)).trans h.r, h.k.trans hk, Nat.le_trans h.z hk.size⟩
theorem WS.next {b : Nat} {s : ByteArray} {w : World} {i : Nat} {m lo hi : Int} {wk wl : World} (h : WS b s w i m lo hi wk) (hb : Below wk.heap.size wk wl) : WS b s w i m lo hi wl := h.call (h.rs.next hb) (Kept.of_below hb)
theorem WS.drewN {b : Nat} {s : ByteArray} {w : World} {i : Nat} {m lo hi : Int} {wk : World} (h : WS b s w i m lo hi wk) (n : Nat) : WS b s w i m lo hi (wk.drewN n) := ⟨h.lt, h.rs, h.t, h.r, h.k.drewN n, h.z⟩
theorem WS.inc {b : Nat} {s : ByteArray} {w : World} {i : Nat} {m lo hi : Int} {wk : World} (h : WS b s w i m lo hi wk) : WS b s w (i + 1) m lo hi (wk.setCell ⟨b, 1, none⟩ (.int .i64 ((i : Int) + 1))) :=
  h.call (heap_setCell_same _ _ 1 _ _ _ h.rs) ((Kept.refl _ _).set _ _ (by simp) _)
theorem WS.put {b : Nat} {s : ByteArray} {w : World} {i : Nat} {m lo hi : Int} {wk : World} (h : WS b s w i m lo hi wk) (o : Nat) (v : Value) {m' lo' hi' : Int} (ht : (wk.setCell ⟨w.heap.size + 1, o, none⟩ v).heap[w.heap.size + 1]? = some (.cells #[.int .i64 1, .int .i64 m', .int .i64 lo', .int .i64 hi', .slice none 0 0] 42 (0, 0))) :
    WS b s w i m' lo' hi' (wk.setCell ⟨w.heap.size + 1, o, none⟩ v) :=
  ⟨h.lt, (heap_setCell_other _ _ _ _ (by have := h.lt; simp; omega)).trans h.rs, ht, (heap_setCell_other _ _ _ _ (by simp)).trans h.r, h.k.setNew _ _ (by simp) _, by simpa using h.z⟩
theorem WS.cells {b : Nat} {s : ByteArray} {w : World} {i : Nat} {m lo hi : Int} {wk : World} (h : WS b s w i m lo hi wk) :
    wk.cell? ⟨b, 0, none⟩ = some (.string s) ∧ wk.cell? ⟨b, 1, none⟩ = some (.int .i64 i) ∧ wk.cell? ⟨b, 3, none⟩ = some (.bool false) ∧ wk.frozen? ⟨b, 1, none⟩ = false ∧
    wk.cell? ⟨w.heap.size + 1, 0, none⟩ = some (.int .i64 1) ∧ wk.cell? ⟨w.heap.size + 1, 1, none⟩ = some (.int .i64 m) ∧ wk.cell? ⟨w.heap.size + 1, 2, none⟩ = some (.int .i64 lo) ∧ wk.cell? ⟨w.heap.size + 1, 3, none⟩ = some (.int .i64 hi) ∧ wk.cell? ⟨w.heap.size + 1, 4, none⟩ = some (.slice none 0 0) ∧
    wk.frozen? ⟨w.heap.size + 1, 1, none⟩ = false ∧ wk.frozen? ⟨w.heap.size + 1, 2, none⟩ = false ∧ wk.frozen? ⟨w.heap.size + 1, 3, none⟩ = false :=
  ⟨cellT h.rs rfl, cellT h.rs rfl, cellT h.rs rfl, frozenT h.rs, cellT h.t rfl, cellT h.t rfl, cellT h.t rfl, cellT h.t rfl, cellT h.t rfl, frozenT h.t, frozenT h.t, frozenT h.t⟩
theorem WS.out {b : Nat} {s : ByteArray} {w : World} {i : Nat} {m lo hi : Int} {wk : World} (h : WS b s w i m lo hi wk) :
    wk.cell? ⟨w.heap.size, 0, none⟩ = some (.int .i64 0) ∧ wk.cell? ⟨w.heap.size, 1, none⟩ = some (.int .i64 0) ∧ wk.cell? ⟨w.heap.size, 2, none⟩ = some (.int .i64 0) ∧ wk.cell? ⟨w.heap.size, 3, none⟩ = some (.int .i64 0) ∧ wk.cell? ⟨w.heap.size, 4, none⟩ = some (.slice none 0 0) ∧
    wk.frozen? ⟨w.heap.size, 0, none⟩ = false ∧ wk.frozen? ⟨w.heap.size, 1, none⟩ = false ∧ wk.frozen? ⟨w.heap.size, 2, none⟩ = false ∧ wk.frozen? ⟨w.heap.size, 3, none⟩ = false ∧ wk.frozen? ⟨w.heap.size, 4, none⟩ = false :=
  ⟨cellT h.r rfl, cellT h.r rfl, cellT h.r rfl, cellT h.r rfl, cellT h.r rfl, frozenT h.r, frozenT h.r, frozenT h.r, frozenT h.r, frozenT h.r⟩
/-- What is left when the test was stored into the result's place. -/
theorem WS.done {b : Nat} {s : ByteArray} {w : World} {i : Nat} {m lo hi : Int} {wk : World} (h : WS b s w i m lo hi wk) (v0 v1 v2 v3 v4 : Value) :
    RS b s i (((((wk.setCell ⟨w.heap.size, 0, none⟩ v0).setCell ⟨w.heap.size, 1, none⟩ v1).setCell ⟨w.heap.size, 2, none⟩ v2).setCell ⟨w.heap.size, 3, none⟩ v3).setCell ⟨w.heap.size, 4, none⟩ v4) ∧
    Kept [b] w (((((wk.setCell ⟨w.heap.size, 0, none⟩ v0).setCell ⟨w.heap.size, 1, none⟩ v1).setCell ⟨w.heap.size, 2, none⟩ v2).setCell ⟨w.heap.size, 3, none⟩ v3).setCell ⟨w.heap.size, 4, none⟩ v4) := by
  have hne : w.heap.size ≠ b := by have := h.lt; omega
  have st : ∀ {x : World} (o : Nat) (v : Value), RS b s i x → RS b s i (x.setCell ⟨w.heap.size, o, none⟩ v) := fun o v hx => (heap_setCell_other _ _ _ _ (by simpa using hne.symm)).trans hx
  exact ⟨st _ _ (st _ _ (st _ _ (st _ _ (st _ _ h.rs)))), ((((h.k.setNew _ _ (by simp) _).setNew _ _ (by simp) _).setNew _ _ (by simp) _).setNew _ _ (by simp) _).setNew _ _ (by simp) _⟩
/-- The parts of a test's text, one behind the other. -/
theorem drop_next {l p r : List UInt8} {i : Nat} (h : l.drop i = p ++ r) : l.drop (i + p.length) = r := by
  rw [← List.drop_drop, h, List.drop_left]

set_option maxRecDepth 100000 in
set_option maxHeartbeats 4000000 in
theorem within_ok (b : Nat) (s : ByteArray) (i : Nat) (m lo hi : Int) (rest : List UInt8) (w : World) (h : RS b s i w) (hd : s.data.toList.drop i = within m lo hi ++ rest) (hr : noDigit rest) (hr2 : rest.head? ≠ some 46) (hs : s.size ≤ 2000)
    (hg : (m = 0 ∨ 2 ≤ m ∧ m ≤ 1000000) ∧ 0 ≤ lo ∧ lo ≤ hi ∧ hi ≤ 1000000000) :
    Calls Tryd.prog 67 #[.pointer (some ⟨b, 0, none⟩)] w fun e w' => e = .returned (.agg #[.int .i64 1, .int .i64 m, .int .i64 lo, .int .i64 hi, .slice none 0 0]) ∧ RS b s (i + (within m lo hi).length) w' ∧ Kept [b] w w' := by
  obtain ⟨hm, hl0, hlh, hh⟩ := hg
  have hlen : s.data.toList.length = s.size := by simp
  have hbd : ∀ {j : Nat} {p r : List UInt8}, s.data.toList.drop j = p ++ r → p ≠ [] → j + p.length ≤ s.size := by
    intro j p r e hp
    have h1 := congrArg List.length e
    simp only [List.length_drop, List.length_append] at h1
    have : 0 < p.length := List.length_pos_iff.2 hp
    omega
  -- the positions
  obtain ⟨M, hM⟩ : ∃ M : List UInt8, M = if m = 0 then [] else 37 :: dec m := ⟨_, rfl⟩
  obtain ⟨H, hH⟩ : ∃ H : List UInt8, H = if hi = lo then [] else 46 :: 46 :: dec hi := ⟨_, rfl⟩
  have hw : within m lo hi = [110] ++ (M ++ ([61] ++ (dec lo ++ H))) := by rw [hM, hH]; unfold within; simp
  rw [hw] at hd ⊢
  have d0 : s.data.toList.drop i = [110] ++ (M ++ ([61] ++ (dec lo ++ (H ++ rest)))) := by rw [hd]; simp
  have d1 := drop_next d0
  have d2 := drop_next d1
  have d3 := drop_next d2
  have d4 := drop_next d3
  have b1 := hbd d0 (by simp)
  have b3 := hbd d2 (by simp)
  have b4 := hbd d3 (dec_ne _)
  simp only [List.length_cons, List.length_nil] at d1 d2 d3 d4 b1 b3 b4
  have hw0 : WS b s w i 0 0 0 ((w.alloc (.cells #[.int .i64 0, .int .i64 0, .int .i64 0, .int .i64 0, .slice none 0 0] 42)).alloc (.cells #[.int .i64 1, .int .i64 0, .int .i64 0, .int .i64 0, .slice none 0 0] 42)) :=
    ⟨h.lt, (h.alloc _).alloc _, heap_new_at (by simp), (heap_alloc_old _ _ (by simp)).trans (heap_alloc_new _ _), ((Kept.refl _ _).alloc _).alloc _, by simp⟩
  have HW0 := Lib.hid hw0
  have HT1 : Hid (∀ w', RS b s i w' → Calls Tryd.prog 14 #[.pointer (some ⟨b, 0, none⟩), .string ⟨#[110]⟩] w' fun e w2 => e = .returned (.tuple #[]) ∧ RS b s (i + 1) w2 ∧ Kept [b] w' w2) := fun w' hw => take_ok b s i ⟨#[110]⟩ _ w' hw d0 (by omega) hs
  have hbne : b ≠ w.heap.size := by have := h.lt; omega
  have hbne1 : b ≠ w.heap.size + 1 := by have := h.lt; omega
  have hbne2 : w.heap.size ≠ b := by omega
  have hbne3 : w.heap.size + 1 ≠ b := by omega
  have hmn : (m.toNat : Int) = m := by omega
  have hln : (lo.toNat : Int) = lo := by omega
  have hhn : (hi.toNat : Int) = hi := by omega
  have HPOS : Hid (i + ([110] ++ (M ++ ([61] ++ (dec lo ++ H)))).length = i + 1 + M.length + 1 + (dec lo).length + H.length) := by show _ = _; simp only [List.length_append, List.length_cons, List.length_nil]; omega
  obtain ⟨i1, hi1⟩ : ∃ x, x = i + 1 := ⟨_, rfl⟩
  obtain ⟨i2, hi2⟩ : ∃ x, x = i1 + M.length := ⟨_, rfl⟩
  obtain ⟨i3, hi3⟩ : ∃ x, x = i2 + 1 := ⟨_, rfl⟩
  obtain ⟨i4, hi4⟩ : ∃ x, x = i3 + (dec lo).length := ⟨_, rfl⟩
  have d1' : s.data.toList.drop i1 = M ++ ([61] ++ (dec lo ++ (H ++ rest))) := by rw [hi1]; exact d1
  have d2' : s.data.toList.drop i2 = [61] ++ (dec lo ++ (H ++ rest)) := by rw [hi2, hi1]; exact d2
  have d3' : s.data.toList.drop i3 = dec lo ++ (H ++ rest) := by rw [hi3, hi2, hi1]; exact d3
  have d4' : s.data.toList.drop i4 = H ++ rest := by rw [hi4, hi3, hi2, hi1]; exact d4
  have b1' : i1 ≤ s.size := by omega
  have b3' : i2 + 1 ≤ s.size := by omega
  have b4' : i4 ≤ s.size := by rw [hi4, hi3, hi2, hi1]; exact b4
  have hloL : Lib.decDigits lo.toNat = dec lo := rfl
  have HT2 : Hid (∀ w', RS b s i2 w' → Calls Tryd.prog 14 #[.pointer (some ⟨b, 0, none⟩), .string ⟨#[61]⟩] w' fun e w2 => e = .returned (.tuple #[]) ∧ RS b s i3 w2 ∧ Kept [b] w' w2) := by
    intro w' hw; rw [hi3]; exact take_ok b s i2 ⟨#[61]⟩ _ w' hw d2' (by omega) hs
  have hnd : noDigit (H ++ rest) := by
    rw [hH]; split
    · exact hr
    · intro c hc; simp at hc; subst hc; left; decide
  have HN2 : Hid (∀ w', RS b s i3 w' → Calls Tryd.prog 75 #[.pointer (some ⟨b, 0, none⟩)] w' fun e w2 => e = .returned (.int .i64 lo) ∧ RS b s i4 w2 ∧ Kept [b] w' w2) := by
    intro w' hw
    have := number_ok b s i3 lo.toNat (H ++ rest) w' hw d3' hnd (by omega) (by omega) hs
    rw [hln, hloL, ← hi4] at this
    exact this
  have HI1 : Hid (∀ w', RS b s i1 w' → Calls Tryd.prog 13 #[.pointer (some ⟨b, 0, none⟩), .string ⟨#[37]⟩] w' fun e w2 => e = .returned (.bool (decide (m ≠ 0))) ∧ Below w'.heap.size w' w2) := by
    intro w' hw
    have := is_any b s i1 ⟨#[37]⟩ w' hw b1' hs
    have e : Lib.hasPrefix (s.data.toList.drop i1) (⟨#[37]⟩ : ByteArray).data.toList = decide (m ≠ 0) := by
      rw [d1', hM]
      by_cases e1 : m = 0
      · rw [if_pos e1, decide_eq_false (by simpa using e1)]; rfl
      · rw [if_neg e1, decide_eq_true e1]; exact hasPrefix_app [37] _
    rw [e] at this
    exact this
  have HI2 : Hid (∀ w', RS b s i4 w' → Calls Tryd.prog 13 #[.pointer (some ⟨b, 0, none⟩), .string ⟨#[46]⟩] w' fun e w2 => e = .returned (.bool (decide (hi ≠ lo))) ∧ Below w'.heap.size w' w2) := by
    intro w' hw
    have := is_any b s i4 ⟨#[46]⟩ w' hw b4' hs
    have e : Lib.hasPrefix (s.data.toList.drop i4) (⟨#[46]⟩ : ByteArray).data.toList = decide (hi ≠ lo) := by
      rw [d4', hH]
      by_cases e1 : hi = lo
      · rw [if_pos e1, decide_eq_false (by simpa using e1), List.nil_append]
        cases rest with
        | nil => rfl
        | cons c r =>
          have : c ≠ 46 := fun h => hr2 (by rw [h]; rfl)
          unfold Lib.hasPrefix
          simp [List.isPrefixOf, this.symm]
      · rw [if_neg e1, decide_eq_true e1]; exact hasPrefix_app [46] _
    rw [e] at this
    exact this
  have HE1 := Lib.hid hi1
  have HE2 := Lib.hid hi2
  have HE4 := Lib.hid hi4
  have HD1 := Lib.hid d1'
  have HD3 := Lib.hid d3'
  have HD4 := Lib.hid d4'
  have HM := Lib.hid hM
  have HH := Lib.hid hH
  have HHR := Lib.hid hr
  have h34 : i3 ≤ i4 := by omega
  have h43 : i2 ≤ s.size := by omega
  have HE3 := Lib.hid hi3
  clear hbd hw d0 d1 d2 d3 d4 b1 b3 b4 hi1 hi2 hi3 hi4 d1' d2' d3' d4' hnd hM hH hr hr2 hd hw0 hlen hloL h
  by_cases e1 : m = 0
  · have q1 : decide (m ≠ 0) = false := decide_eq_false (by simpa using e1)
    have HI1' : Hid (∀ w', RS b s i1 w' → Calls Tryd.prog 13 #[.pointer (some ⟨b, 0, none⟩), .string ⟨#[37]⟩] w' fun e w2 => e = .returned (.bool false) ∧ Below w'.heap.size w' w2) := by rw [← q1]; exact HI1.out
    have HI12 : Hid (i2 = i1) := by show _ = _; rw [HE2.out, HM.out, if_pos e1]; rfl
    by_cases e2 : hi = lo
    · have q2 : decide (hi ≠ lo) = false := decide_eq_false (by simpa using e2)
      have HI2' : Hid (∀ w', RS b s i4 w' → Calls Tryd.prog 13 #[.pointer (some ⟨b, 0, none⟩), .string ⟨#[46]⟩] w' fun e w2 => e = .returned (.bool false) ∧ Below w'.heap.size w' w2) := by rw [← q2]; exact HI2.out
      have HEND : Hid (i + ([110] ++ (M ++ ([61] ++ (dec lo ++ H)))).length = i4) := by show _ = _; rw [HPOS.out, HE4.out, HE3.out, HE2.out, HE1.out, HH.out, if_pos e2]; rfl
      clear HI1 HI2 q1 q2
      subst e1
      subst e2
      go_enter Tryd.func67, Tryd.ntmps67
      go_wp2_with fail
      refine (HT1.out _ HW0.out.rs).mono ?_
      rintro e w1 ⟨rfl, hr1, hk1⟩
      have HW1 := Lib.hid (HW0.out.call (hr1) hk1)
      rw [← HE1.out] at HW1
      clear hr1 hk1
      go_wp2_with fail
      refine (HI1'.out _ HW1.out.rs).mono ?_
      rintro e w2 ⟨rfl, hb2⟩
      have HW2 := Lib.hid (HW1.out.next hb2)
      clear hb2
      rw [← HI12.out] at HW2
      go_wp2_with fail
      refine (HT2.out _ HW2.out.rs).mono ?_
      rintro e w5 ⟨rfl, hr5, hk5⟩
      have HW5 := Lib.hid (HW2.out.call hr5 hk5)
      clear hr5 hk5
      obtain ⟨a0, a1, a3, af, t0, t1, t2, t3, t4, g1, g2, g3⟩ := HW5.out.cells
      have zz : w.heap.size + 2 ≤ w5.heap.size := HW5.out.z
      have z1 : w.heap.size + 1 < w5.heap.size := by omega
      have z2 : w.heap.size < w5.heap.size := by omega
      go_wp2_with fail
      refine (HN2.out _ HW5.out.rs).mono ?_
      rintro e w6 ⟨rfl, hr6, hk6⟩
      have HW6 := Lib.hid (HW5.out.call hr6 hk6)
      clear a0 a1 a3 af t0 t1 t2 t3 t4 g1 g2 g3 zz z1 z2 hr6 hk6
      obtain ⟨a0, a1, a3, af, t0, t1, t2, t3, t4, g1, g2, g3⟩ := HW6.out.cells
      have zz : w.heap.size + 2 ≤ w6.heap.size := HW6.out.z
      have z1 : w.heap.size + 1 < w6.heap.size := by omega
      have z2 : w.heap.size < w6.heap.size := by omega
      go_wp2_with fail
      have HW7 := Lib.hid ((HW6.out.put (m' := 0) (lo' := hi) (hi' := 0) 2 (.int .i64 hi) (heap_setCell_same _ _ 2 _ _ _ HW6.out.t)).put (m' := 0) (lo' := hi) (hi' := hi) 3 (.int .i64 hi) (heap_setCell_same _ _ 3 _ _ _ (heap_setCell_same _ _ 2 _ _ _ HW6.out.t)))
      go_quiet (fail)
      go_wp2_with fail
      refine (HI2'.out _ (HW7.out.drewN _).rs).mono ?_
      rintro e w8 ⟨rfl, hb8⟩
      have HW8 := Lib.hid ((HW7.out.drewN _).next hb8)
      clear a0 a1 a3 af t0 t1 t2 t3 t4 g1 g2 g3 zz z1 z2 hb8
      obtain ⟨a0, a1, a3, af, t0, t1, t2, t3, t4, g1, g2, g3⟩ := HW8.out.cells
      have zz : w.heap.size + 2 ≤ w8.heap.size := HW8.out.z
      have z1 : w.heap.size + 1 < w8.heap.size := by omega
      have z2 : w.heap.size < w8.heap.size := by omega
      obtain ⟨r0, r1, r2, r3, r4, s0, s1, s2, s3, s4⟩ := HW8.out.out
      go_wp2_with fail
      refine bodyPost_ret (v := .agg #[.int .i64 1, .int .i64 0, .int .i64 hi, .int .i64 hi, .slice none 0 0]) ?_ rfl ⟨rfl, ?_, ?_⟩
      · simp [results, Tryd.results67, go_sem, r0, r1, r2, r3, r4]
      · have hE : i + ((M ++ 61 :: (dec hi ++ H)).length + 1) = _ := HEND.out
        rw [hE]; exact (HW8.out.done _ _ _ _ _).1
      · exact (HW8.out.done _ _ _ _ _).2
    · have q2 : decide (hi ≠ lo) = true := decide_eq_true e2
      have HI2' : Hid (∀ w', RS b s i4 w' → Calls Tryd.prog 13 #[.pointer (some ⟨b, 0, none⟩), .string ⟨#[46]⟩] w' fun e w2 => e = .returned (.bool true) ∧ Below w'.heap.size w' w2) := by rw [← q2]; exact HI2.out
      have hH2 : H = [46, 46] ++ dec hi := by rw [HH.out, if_neg e2]; rfl
      have HEND : Hid (i + ([110] ++ (M ++ ([61] ++ (dec lo ++ H)))).length = i4 + 2 + (dec hi).length) := by show _ = _; rw [HPOS.out, HE4.out, HE3.out, HE2.out, HE1.out, hH2]; simp only [List.length_append, List.length_cons, List.length_nil]; omega
      have d4 := HD4.out
      rw [hH2, List.append_assoc] at d4
      have HT3 : Hid (∀ w', RS b s i4 w' → Calls Tryd.prog 14 #[.pointer (some ⟨b, 0, none⟩), .string ⟨#[46, 46]⟩] w' fun e w2 => e = .returned (.tuple #[]) ∧ RS b s (i4 + 2) w2 ∧ Kept [b] w' w2) := fun w' hw => take_ok b s i4 ⟨#[46, 46]⟩ _ w' hw d4 b4' hs
      have d5 : s.data.toList.drop (i4 + 2) = Lib.decDigits hi.toNat ++ rest := drop_next (p := [46, 46]) d4
      have b5 : i4 + 2 + (dec hi).length ≤ s.size := by
        have h1 := congrArg List.length d5
        have h0 : 0 < (dec hi).length := List.length_pos_iff.2 (dec_ne _)
        have h2 : (Lib.decDigits hi.toNat).length = (dec hi).length := rfl
        simp only [List.length_drop, List.length_append] at h1
        have h3 : s.data.toList.length = s.size := by simp
        omega
      have HN3 : Hid (∀ w', RS b s (i4 + 2) w' → Calls Tryd.prog 75 #[.pointer (some ⟨b, 0, none⟩)] w' fun e w2 => e = .returned (.int .i64 hi) ∧ RS b s (i4 + 2 + (dec hi).length) w2 ∧ Kept [b] w' w2) := by
        intro w' hw
        have := number_ok b s (i4 + 2) hi.toNat rest w' hw d5 HHR.out (by omega) (by omega) hs
        rw [hhn] at this
        exact this
      obtain ⟨i5, hi5⟩ : ∃ x, x = i4 + 2 := ⟨_, rfl⟩
      rw [← hi5] at HT3 HN3 HEND b5 d5
      obtain ⟨i6, hi6⟩ : ∃ x, x = i5 + (dec hi).length := ⟨_, rfl⟩
      rw [← hi6] at HN3 HEND b5
      have HNE : Hid (((s.extract i5 i6).toList == (s.extract i3 i4).toList) = false) := by
        show _ = _
        have x1 : (s.extract i5 i6).data.toList = dec hi := by
          simp only [ByteArray.data_extract, Array.toList_extract, List.extract_eq_take_drop]
          rw [d5, show i6 - i5 = (dec hi).length by omega]
          exact List.take_left
        have x2 : (s.extract i3 i4).data.toList = dec lo := by
          have d3 : s.data.toList.drop i3 = dec lo ++ (H ++ rest) := HD3.out
          simp only [ByteArray.data_extract, Array.toList_extract, List.extract_eq_take_drop]
          rw [d3, show i4 - i3 = (dec lo).length by have := HE4.out; omega]
          exact List.take_left
        rw [beq_eq_false_iff_ne, ByteArray.toList_eq, ByteArray.toList_eq, x1, x2]
        intro hc
        have := dec_inj hc
        exact e2 (by omega)
      have hle6 : i5 ≤ i6 := by omega
      have HE5 := Lib.hid hi5
      clear hH2 d4 d5 hi6 hi5
      clear HI1 HI2 q1 q2
      subst e1
      clear e2
      go_enter Tryd.func67, Tryd.ntmps67
      go_wp2_with fail
      refine (HT1.out _ HW0.out.rs).mono ?_
      rintro e w1 ⟨rfl, hr1, hk1⟩
      have HW1 := Lib.hid (HW0.out.call (hr1) hk1)
      rw [← HE1.out] at HW1
      clear hr1 hk1
      go_wp2_with fail
      refine (HI1'.out _ HW1.out.rs).mono ?_
      rintro e w2 ⟨rfl, hb2⟩
      have HW2 := Lib.hid (HW1.out.next hb2)
      clear hb2
      rw [← HI12.out] at HW2
      go_wp2_with fail
      refine (HT2.out _ HW2.out.rs).mono ?_
      rintro e w5 ⟨rfl, hr5, hk5⟩
      have HW5 := Lib.hid (HW2.out.call hr5 hk5)
      clear hr5 hk5
      obtain ⟨a0, a1, a3, af, t0, t1, t2, t3, t4, g1, g2, g3⟩ := HW5.out.cells
      have zz : w.heap.size + 2 ≤ w5.heap.size := HW5.out.z
      have z1 : w.heap.size + 1 < w5.heap.size := by omega
      have z2 : w.heap.size < w5.heap.size := by omega
      go_wp2_with fail
      refine (HN2.out _ HW5.out.rs).mono ?_
      rintro e w6 ⟨rfl, hr6, hk6⟩
      have HW6 := Lib.hid (HW5.out.call hr6 hk6)
      clear a0 a1 a3 af t0 t1 t2 t3 t4 g1 g2 g3 zz z1 z2 hr6 hk6
      obtain ⟨a0, a1, a3, af, t0, t1, t2, t3, t4, g1, g2, g3⟩ := HW6.out.cells
      have zz : w.heap.size + 2 ≤ w6.heap.size := HW6.out.z
      have z1 : w.heap.size + 1 < w6.heap.size := by omega
      have z2 : w.heap.size < w6.heap.size := by omega
      go_wp2_with fail
      have HW7 := Lib.hid ((HW6.out.put (m' := 0) (lo' := lo) (hi' := 0) 2 (.int .i64 lo) (heap_setCell_same _ _ 2 _ _ _ HW6.out.t)).put (m' := 0) (lo' := lo) (hi' := lo) 3 (.int .i64 lo) (heap_setCell_same _ _ 3 _ _ _ (heap_setCell_same _ _ 2 _ _ _ HW6.out.t)))
      go_quiet (fail)
      go_wp2_with fail
      refine (HI2'.out _ (HW7.out.drewN _).rs).mono ?_
      rintro e w8 ⟨rfl, hb8⟩
      have HW8 := Lib.hid ((HW7.out.drewN _).next hb8)
      clear a0 a1 a3 af t0 t1 t2 t3 t4 g1 g2 g3 zz z1 z2 hb8
      obtain ⟨a0, a1, a3, af, t0, t1, t2, t3, t4, g1, g2, g3⟩ := HW8.out.cells
      have zz : w.heap.size + 2 ≤ w8.heap.size := HW8.out.z
      have z1 : w.heap.size + 1 < w8.heap.size := by omega
      have z2 : w.heap.size < w8.heap.size := by omega
      go_wp2_with fail
      refine (HT3.out _ HW8.out.rs).mono ?_
      rintro e w9 ⟨rfl, hr9, hk9⟩
      have HW9 := Lib.hid (HW8.out.call hr9 hk9)
      clear a0 a1 a3 af t0 t1 t2 t3 t4 g1 g2 g3 zz z1 z2 hr9 hk9
      obtain ⟨a0, a1, a3, af, t0, t1, t2, t3, t4, g1, g2, g3⟩ := HW9.out.cells
      have zz : w.heap.size + 2 ≤ w9.heap.size := HW9.out.z
      have z1 : w.heap.size + 1 < w9.heap.size := by omega
      have z2 : w.heap.size < w9.heap.size := by omega
      go_wp2_with fail
      refine (HN3.out _ HW9.out.rs).mono ?_
      rintro e wa ⟨rfl, hra, hka⟩
      have HWa := Lib.hid (HW9.out.call hra hka)
      clear a0 a1 a3 af t0 t1 t2 t3 t4 g1 g2 g3 zz z1 z2 hra hka
      obtain ⟨a0, a1, a3, af, t0, t1, t2, t3, t4, g1, g2, g3⟩ := HWa.out.cells
      have zz : w.heap.size + 2 ≤ wa.heap.size := HWa.out.z
      have z1 : w.heap.size + 1 < wa.heap.size := by omega
      have z2 : w.heap.size < wa.heap.size := by omega
      have HW10 := Lib.hid (HWa.out.put (m' := 0) (lo' := lo) (hi' := hi) 3 (.int .i64 hi) (heap_setCell_same _ _ 3 _ _ _ HWa.out.t))
      have hne := HNE.out
      obtain ⟨r0, r1, r2, r3, r4, s0, s1, s2, s3, s4⟩ := HWa.out.out
      go_wp2_with fail
      go_quiet (fail)
      go_wp2_with fail
      refine bodyPost_ret (v := .agg #[.int .i64 1, .int .i64 0, .int .i64 lo, .int .i64 hi, .slice none 0 0]) ?_ rfl ⟨rfl, ?_, ?_⟩
      · simp [results, Tryd.results67, go_sem, r0, r1, r2, r3, r4]
      · have hE : i + ((M ++ 61 :: (dec lo ++ H)).length + 1) = _ := HEND.out
        rw [hE]; exact ((HW10.out.drewN _).done _ _ _ _ _).1
      · exact ((HW10.out.drewN _).done _ _ _ _ _).2
  · have q1 : decide (m ≠ 0) = true := decide_eq_true e1
    have HI1' : Hid (∀ w', RS b s i1 w' → Calls Tryd.prog 13 #[.pointer (some ⟨b, 0, none⟩), .string ⟨#[37]⟩] w' fun e w2 => e = .returned (.bool true) ∧ Below w'.heap.size w' w2) := by rw [← q1]; exact HI1.out
    have hNM : ∀ w', RS b s (i1 + 1) w' → Calls Tryd.prog 75 #[.pointer (some ⟨b, 0, none⟩)] w' fun e w2 => e = .returned (.int .i64 m) ∧ RS b s i2 w2 ∧ Kept [b] w' w2 := by
      intro w' hw
      have e2 := HD1.out
      rw [HM.out, if_neg e1] at e2
      have e3 : s.data.toList.drop (i1 + 1) = Lib.decDigits m.toNat ++ ([61] ++ (dec lo ++ (H ++ rest))) := drop_next (p := [37]) e2
      have e4 : i1 + 1 + (Lib.decDigits m.toNat).length = i2 := by rw [HE2.out, HM.out, if_neg e1]; simp [dec]; omega
      have := number_ok b s (i1 + 1) m.toNat _ w' hw e3 (by intro c hc; simp at hc; subst hc; right; decide) (by omega) (by omega) hs
      rw [hmn] at this
      rw [e4] at this
      exact this
    have HNM := Lib.hid hNM
    have qm : (m == 0) = false := by rw [beq_eq_false_iff_ne]; exact e1
    clear hNM
    by_cases e2 : hi = lo
    · have q2 : decide (hi ≠ lo) = false := decide_eq_false (by simpa using e2)
      have HI2' : Hid (∀ w', RS b s i4 w' → Calls Tryd.prog 13 #[.pointer (some ⟨b, 0, none⟩), .string ⟨#[46]⟩] w' fun e w2 => e = .returned (.bool false) ∧ Below w'.heap.size w' w2) := by rw [← q2]; exact HI2.out
      have HEND : Hid (i + ([110] ++ (M ++ ([61] ++ (dec lo ++ H)))).length = i4) := by show _ = _; rw [HPOS.out, HE4.out, HE3.out, HE2.out, HE1.out, HH.out, if_pos e2]; rfl
      clear HI1 HI2 q1 q2 e1
      subst e2
      go_enter Tryd.func67, Tryd.ntmps67
      go_wp2_with fail
      refine (HT1.out _ HW0.out.rs).mono ?_
      rintro e w1 ⟨rfl, hr1, hk1⟩
      have HW1 := Lib.hid (HW0.out.call (hr1) hk1)
      rw [← HE1.out] at HW1
      clear hr1 hk1
      go_wp2_with fail
      refine (HI1'.out _ HW1.out.rs).mono ?_
      rintro e w2 ⟨rfl, hb2⟩
      have HW2 := Lib.hid (HW1.out.next hb2)
      clear hb2
      obtain ⟨a0, a1, a3, af, t0, t1, t2, t3, t4, g1, g2, g3⟩ := HW2.out.cells
      have zz : w.heap.size + 2 ≤ w2.heap.size := HW2.out.z
      have z1 : w.heap.size + 1 < w2.heap.size := by omega
      have z2 : w.heap.size < w2.heap.size := by omega
      go_wp2_with fail
      refine (HNM.out _ HW2.out.inc.rs).mono ?_
      rintro e w3 ⟨rfl, hr3, hk3⟩
      have HW3 := Lib.hid (HW2.out.inc.call hr3 hk3)
      clear a0 a1 a3 af t0 t1 t2 t3 t4 g1 g2 g3 zz z1 z2 hr3 hk3
      obtain ⟨a0, a1, a3, af, t0, t1, t2, t3, t4, g1, g2, g3⟩ := HW3.out.cells
      have zz : w.heap.size + 2 ≤ w3.heap.size := HW3.out.z
      have z1 : w.heap.size + 1 < w3.heap.size := by omega
      have z2 : w.heap.size < w3.heap.size := by omega
      have HW4 := Lib.hid (HW3.out.put (m' := m) (lo' := 0) (hi' := 0) 1 (.int .i64 m) (heap_setCell_same _ _ 1 _ _ _ HW3.out.t))
      go_wp2_with fail
      refine (HT2.out _ HW4.out.rs).mono ?_
      rintro e w5 ⟨rfl, hr5, hk5⟩
      have HW5 := Lib.hid (HW4.out.call hr5 hk5)
      clear hr5 hk5 a0 a1 a3 af t0 t1 t2 t3 t4 g1 g2 g3 zz z1 z2
      obtain ⟨a0, a1, a3, af, t0, t1, t2, t3, t4, g1, g2, g3⟩ := HW5.out.cells
      have zz : w.heap.size + 2 ≤ w5.heap.size := HW5.out.z
      have z1 : w.heap.size + 1 < w5.heap.size := by omega
      have z2 : w.heap.size < w5.heap.size := by omega
      go_wp2_with fail
      refine (HN2.out _ HW5.out.rs).mono ?_
      rintro e w6 ⟨rfl, hr6, hk6⟩
      have HW6 := Lib.hid (HW5.out.call hr6 hk6)
      clear a0 a1 a3 af t0 t1 t2 t3 t4 g1 g2 g3 zz z1 z2 hr6 hk6
      obtain ⟨a0, a1, a3, af, t0, t1, t2, t3, t4, g1, g2, g3⟩ := HW6.out.cells
      have zz : w.heap.size + 2 ≤ w6.heap.size := HW6.out.z
      have z1 : w.heap.size + 1 < w6.heap.size := by omega
      have z2 : w.heap.size < w6.heap.size := by omega
      go_wp2_with fail
      have HW7 := Lib.hid ((HW6.out.put (m' := m) (lo' := hi) (hi' := 0) 2 (.int .i64 hi) (heap_setCell_same _ _ 2 _ _ _ HW6.out.t)).put (m' := m) (lo' := hi) (hi' := hi) 3 (.int .i64 hi) (heap_setCell_same _ _ 3 _ _ _ (heap_setCell_same _ _ 2 _ _ _ HW6.out.t)))
      go_quiet (fail)
      go_wp2_with fail
      refine (HI2'.out _ (HW7.out.drewN _).rs).mono ?_
      rintro e w8 ⟨rfl, hb8⟩
      have HW8 := Lib.hid ((HW7.out.drewN _).next hb8)
      clear a0 a1 a3 af t0 t1 t2 t3 t4 g1 g2 g3 zz z1 z2 hb8
      obtain ⟨a0, a1, a3, af, t0, t1, t2, t3, t4, g1, g2, g3⟩ := HW8.out.cells
      have zz : w.heap.size + 2 ≤ w8.heap.size := HW8.out.z
      have z1 : w.heap.size + 1 < w8.heap.size := by omega
      have z2 : w.heap.size < w8.heap.size := by omega
      obtain ⟨r0, r1, r2, r3, r4, s0, s1, s2, s3, s4⟩ := HW8.out.out
      go_wp2_with fail
      refine bodyPost_ret (v := .agg #[.int .i64 1, .int .i64 m, .int .i64 hi, .int .i64 hi, .slice none 0 0]) ?_ rfl ⟨rfl, ?_, ?_⟩
      · simp [results, Tryd.results67, go_sem, r0, r1, r2, r3, r4]
      · have hE : i + ((M ++ 61 :: (dec hi ++ H)).length + 1) = _ := HEND.out
        rw [hE]; exact (HW8.out.done _ _ _ _ _).1
      · exact (HW8.out.done _ _ _ _ _).2
    · have q2 : decide (hi ≠ lo) = true := decide_eq_true e2
      have HI2' : Hid (∀ w', RS b s i4 w' → Calls Tryd.prog 13 #[.pointer (some ⟨b, 0, none⟩), .string ⟨#[46]⟩] w' fun e w2 => e = .returned (.bool true) ∧ Below w'.heap.size w' w2) := by rw [← q2]; exact HI2.out
      have hH2 : H = [46, 46] ++ dec hi := by rw [HH.out, if_neg e2]; rfl
      have HEND : Hid (i + ([110] ++ (M ++ ([61] ++ (dec lo ++ H)))).length = i4 + 2 + (dec hi).length) := by show _ = _; rw [HPOS.out, HE4.out, HE3.out, HE2.out, HE1.out, hH2]; simp only [List.length_append, List.length_cons, List.length_nil]; omega
      have d4 := HD4.out
      rw [hH2, List.append_assoc] at d4
      have HT3 : Hid (∀ w', RS b s i4 w' → Calls Tryd.prog 14 #[.pointer (some ⟨b, 0, none⟩), .string ⟨#[46, 46]⟩] w' fun e w2 => e = .returned (.tuple #[]) ∧ RS b s (i4 + 2) w2 ∧ Kept [b] w' w2) := fun w' hw => take_ok b s i4 ⟨#[46, 46]⟩ _ w' hw d4 b4' hs
      have d5 : s.data.toList.drop (i4 + 2) = Lib.decDigits hi.toNat ++ rest := drop_next (p := [46, 46]) d4
      have b5 : i4 + 2 + (dec hi).length ≤ s.size := by
        have h1 := congrArg List.length d5
        have h0 : 0 < (dec hi).length := List.length_pos_iff.2 (dec_ne _)
        have h2 : (Lib.decDigits hi.toNat).length = (dec hi).length := rfl
        simp only [List.length_drop, List.length_append] at h1
        have h3 : s.data.toList.length = s.size := by simp
        omega
      have HN3 : Hid (∀ w', RS b s (i4 + 2) w' → Calls Tryd.prog 75 #[.pointer (some ⟨b, 0, none⟩)] w' fun e w2 => e = .returned (.int .i64 hi) ∧ RS b s (i4 + 2 + (dec hi).length) w2 ∧ Kept [b] w' w2) := by
        intro w' hw
        have := number_ok b s (i4 + 2) hi.toNat rest w' hw d5 HHR.out (by omega) (by omega) hs
        rw [hhn] at this
        exact this
      obtain ⟨i5, hi5⟩ : ∃ x, x = i4 + 2 := ⟨_, rfl⟩
      rw [← hi5] at HT3 HN3 HEND b5 d5
      obtain ⟨i6, hi6⟩ : ∃ x, x = i5 + (dec hi).length := ⟨_, rfl⟩
      rw [← hi6] at HN3 HEND b5
      have HNE : Hid (((s.extract i5 i6).toList == (s.extract i3 i4).toList) = false) := by
        show _ = _
        have x1 : (s.extract i5 i6).data.toList = dec hi := by
          simp only [ByteArray.data_extract, Array.toList_extract, List.extract_eq_take_drop]
          rw [d5, show i6 - i5 = (dec hi).length by omega]
          exact List.take_left
        have x2 : (s.extract i3 i4).data.toList = dec lo := by
          have d3 : s.data.toList.drop i3 = dec lo ++ (H ++ rest) := HD3.out
          simp only [ByteArray.data_extract, Array.toList_extract, List.extract_eq_take_drop]
          rw [d3, show i4 - i3 = (dec lo).length by have := HE4.out; omega]
          exact List.take_left
        rw [beq_eq_false_iff_ne, ByteArray.toList_eq, ByteArray.toList_eq, x1, x2]
        intro hc
        have := dec_inj hc
        exact e2 (by omega)
      have hle6 : i5 ≤ i6 := by omega
      have HE5 := Lib.hid hi5
      clear hH2 d4 d5 hi6 hi5
      clear HI1 HI2 q1 q2 e1
      clear e2
      go_enter Tryd.func67, Tryd.ntmps67
      go_wp2_with fail
      refine (HT1.out _ HW0.out.rs).mono ?_
      rintro e w1 ⟨rfl, hr1, hk1⟩
      have HW1 := Lib.hid (HW0.out.call (hr1) hk1)
      rw [← HE1.out] at HW1
      clear hr1 hk1
      go_wp2_with fail
      refine (HI1'.out _ HW1.out.rs).mono ?_
      rintro e w2 ⟨rfl, hb2⟩
      have HW2 := Lib.hid (HW1.out.next hb2)
      clear hb2
      obtain ⟨a0, a1, a3, af, t0, t1, t2, t3, t4, g1, g2, g3⟩ := HW2.out.cells
      have zz : w.heap.size + 2 ≤ w2.heap.size := HW2.out.z
      have z1 : w.heap.size + 1 < w2.heap.size := by omega
      have z2 : w.heap.size < w2.heap.size := by omega
      go_wp2_with fail
      refine (HNM.out _ HW2.out.inc.rs).mono ?_
      rintro e w3 ⟨rfl, hr3, hk3⟩
      have HW3 := Lib.hid (HW2.out.inc.call hr3 hk3)
      clear a0 a1 a3 af t0 t1 t2 t3 t4 g1 g2 g3 zz z1 z2 hr3 hk3
      obtain ⟨a0, a1, a3, af, t0, t1, t2, t3, t4, g1, g2, g3⟩ := HW3.out.cells
      have zz : w.heap.size + 2 ≤ w3.heap.size := HW3.out.z
      have z1 : w.heap.size + 1 < w3.heap.size := by omega
      have z2 : w.heap.size < w3.heap.size := by omega
      have HW4 := Lib.hid (HW3.out.put (m' := m) (lo' := 0) (hi' := 0) 1 (.int .i64 m) (heap_setCell_same _ _ 1 _ _ _ HW3.out.t))
      go_wp2_with fail
      refine (HT2.out _ HW4.out.rs).mono ?_
      rintro e w5 ⟨rfl, hr5, hk5⟩
      have HW5 := Lib.hid (HW4.out.call hr5 hk5)
      clear hr5 hk5 a0 a1 a3 af t0 t1 t2 t3 t4 g1 g2 g3 zz z1 z2
      obtain ⟨a0, a1, a3, af, t0, t1, t2, t3, t4, g1, g2, g3⟩ := HW5.out.cells
      have zz : w.heap.size + 2 ≤ w5.heap.size := HW5.out.z
      have z1 : w.heap.size + 1 < w5.heap.size := by omega
      have z2 : w.heap.size < w5.heap.size := by omega
      go_wp2_with fail
      refine (HN2.out _ HW5.out.rs).mono ?_
      rintro e w6 ⟨rfl, hr6, hk6⟩
      have HW6 := Lib.hid (HW5.out.call hr6 hk6)
      clear a0 a1 a3 af t0 t1 t2 t3 t4 g1 g2 g3 zz z1 z2 hr6 hk6
      obtain ⟨a0, a1, a3, af, t0, t1, t2, t3, t4, g1, g2, g3⟩ := HW6.out.cells
      have zz : w.heap.size + 2 ≤ w6.heap.size := HW6.out.z
      have z1 : w.heap.size + 1 < w6.heap.size := by omega
      have z2 : w.heap.size < w6.heap.size := by omega
      go_wp2_with fail
      have HW7 := Lib.hid ((HW6.out.put (m' := m) (lo' := lo) (hi' := 0) 2 (.int .i64 lo) (heap_setCell_same _ _ 2 _ _ _ HW6.out.t)).put (m' := m) (lo' := lo) (hi' := lo) 3 (.int .i64 lo) (heap_setCell_same _ _ 3 _ _ _ (heap_setCell_same _ _ 2 _ _ _ HW6.out.t)))
      go_quiet (fail)
      go_wp2_with fail
      refine (HI2'.out _ (HW7.out.drewN _).rs).mono ?_
      rintro e w8 ⟨rfl, hb8⟩
      have HW8 := Lib.hid ((HW7.out.drewN _).next hb8)
      clear a0 a1 a3 af t0 t1 t2 t3 t4 g1 g2 g3 zz z1 z2 hb8
      obtain ⟨a0, a1, a3, af, t0, t1, t2, t3, t4, g1, g2, g3⟩ := HW8.out.cells
      have zz : w.heap.size + 2 ≤ w8.heap.size := HW8.out.z
      have z1 : w.heap.size + 1 < w8.heap.size := by omega
      have z2 : w.heap.size < w8.heap.size := by omega
      go_wp2_with fail
      refine (HT3.out _ HW8.out.rs).mono ?_
      rintro e w9 ⟨rfl, hr9, hk9⟩
      have HW9 := Lib.hid (HW8.out.call hr9 hk9)
      clear a0 a1 a3 af t0 t1 t2 t3 t4 g1 g2 g3 zz z1 z2 hr9 hk9
      obtain ⟨a0, a1, a3, af, t0, t1, t2, t3, t4, g1, g2, g3⟩ := HW9.out.cells
      have zz : w.heap.size + 2 ≤ w9.heap.size := HW9.out.z
      have z1 : w.heap.size + 1 < w9.heap.size := by omega
      have z2 : w.heap.size < w9.heap.size := by omega
      go_wp2_with fail
      refine (HN3.out _ HW9.out.rs).mono ?_
      rintro e wa ⟨rfl, hra, hka⟩
      have HWa := Lib.hid (HW9.out.call hra hka)
      clear a0 a1 a3 af t0 t1 t2 t3 t4 g1 g2 g3 zz z1 z2 hra hka
      obtain ⟨a0, a1, a3, af, t0, t1, t2, t3, t4, g1, g2, g3⟩ := HWa.out.cells
      have zz : w.heap.size + 2 ≤ wa.heap.size := HWa.out.z
      have z1 : w.heap.size + 1 < wa.heap.size := by omega
      have z2 : w.heap.size < wa.heap.size := by omega
      have HW10 := Lib.hid (HWa.out.put (m' := m) (lo' := lo) (hi' := hi) 3 (.int .i64 hi) (heap_setCell_same _ _ 3 _ _ _ HWa.out.t))
      have hne := HNE.out
      obtain ⟨r0, r1, r2, r3, r4, s0, s1, s2, s3, s4⟩ := HWa.out.out
      go_wp2_with fail
      go_quiet (fail)
      go_wp2_with fail
      refine bodyPost_ret (v := .agg #[.int .i64 1, .int .i64 m, .int .i64 lo, .int .i64 hi, .slice none 0 0]) ?_ rfl ⟨rfl, ?_, ?_⟩
      · simp [results, Tryd.results67, go_sem, r0, r1, r2, r3, r4]
      · have hE : i + ((M ++ 61 :: (dec lo ++ H)).length + 1) = _ := HEND.out
        rw [hE]; exact ((HW10.out.drewN _).done _ _ _ _ _).1
      · exact ((HW10.out.drewN _).done _ _ _ _ _).2
end Go.Proofs.YtgfoangacbajlaaDoor
