/- (*strings.genericReplacer).lookup at mark.Unescape's trie. Conditions: the trie in memory. -/
import Derived.Test.YtoalbfffojpnmaaDoorUnF
import Derived.Test.YtoalbfffojpnmaaDoorShelf
import Derived.WalkSpells
namespace Go.Proofs.YtoalbfffojpnmaaDoor
open Go.RowKit Mh
set_option linter.unusedVariables false

theorem empty_of_size {s : ByteArray} (h : s.size = 0) : s.toList.isEmpty = true := by
  rw [ByteArray.toList_eq, List.isEmpty_iff]
  apply List.eq_nil_of_length_eq_zero
  rw [Array.length_toList]; exact h
/-- How far a lookup has come. -/
structure Lk (s0 : ByteArray) (n : Nat) (s : ByteArray) : Prop where
  le : n ≤ s0.size
  eq : s = s0.extract n s0.size
theorem Lk.size {s0 s : ByteArray} {n : Nat} (h : Lk s0 n s) : s.size = s0.size - n := by rw [h.eq]; simp
theorem Lk.step {s0 s : ByteArray} {n k : Nat} (h : Lk s0 n s) (hk : k ≤ s.size) : Lk s0 (n + k) (s.extract k s.size) := by
  have hz := h.size
  have hl := h.le
  refine ⟨by omega, ?_⟩
  rw [h.eq]
  apply ByteArray.ext
  simp only [ByteArray.data_extract, ByteArray.size_extract]
  rw [Array.extract_extract]
  congr 1 <;> omega
/-- The node of a lookup: 0 the root, 1 below it, 2 a pair's, 3 its leaf. -/
def Stg (b0 : Nat) (W : World) (r : Nat) (nd : Value) (n : Nat) (st : Nat) : Prop :=
  (st = 0 ∧ nd = ptr r ∧ n = 0) ∨ (st = 1 ∧ ∃ n1, nd = ptr n1 ∧ n = 1 ∧ ∃ T1 row, b0 ≤ T1 ∧ Nd W n1 ⟨#[]⟩ 0 ⟨#[]⟩ nilP (.slice (some ⟨T1, 0, none⟩) 14 14) ∧ W.heap[T1]? = some (.cells row.toArray 110 (0, 0)) ∧ RowOk b0 W ents row) ∨
  (st = 2 ∧ ∃ e ∈ ents, ∃ b q, nd = ptr b ∧ n = 2 ∧ Nd W b ⟨#[]⟩ 0 e.rest (ptr q) nilT ∧ Nd W q e.val e.pri ⟨#[]⟩ nilP nilT) ∨
  (st = 3 ∧ ∃ e ∈ ents, ∃ q, nd = ptr q ∧ n = 2 + e.rest.size ∧ Nd W q e.val e.pri ⟨#[]⟩ nilP nilT) ∨ (st = 4 ∧ nd = nilP)
theorem ents_facts : ∀ e ∈ ents, 0 < e.pri ∧ e.pri ≤ 10 ∧ 0 < e.rest.size ∧ e.rest.size ≤ 4 ∧ e.val.size = 1 ∧ e.m < 14 ∧ e.m ≠ 1 ∧ e.rest.toList.isEmpty = false := by
  intro e he
  have h : e = ents[0] ∨ e = ents[1] ∨ e = ents[2] ∨ e = ents[3] ∨ e = ents[4] := by
    simp [ents] at he
    simpa [ents] using he
  rcases h with rfl | rfl | rfl | rfl | rfl <;> exact ⟨by decide, by decide, by decide, by decide, by decide, by decide, by decide, ne_of_size (by decide)⟩
theorem row_slot {b0 : Nat} {W : World} {row : List Value} (h : RowOk b0 W ents row) {m : Nat} (hm : m < 14) : (∃ e ∈ ents, ∃ b, row[m]? = some (ptr b) ∧ EntAt b0 W e b) ∨ row[m]? = some nilP := by
  by_cases hx : ∃ e ∈ ents, e.m = m
  · obtain ⟨e, he, rfl⟩ := hx
    obtain ⟨b, h1, h2⟩ := h.at_ e he
    exact .inl ⟨e, he, b, h1, h2⟩
  · exact .inr (h.rest m hm (fun e he hm => hx ⟨e, he, hm⟩))
theorem Nd.same {w w' : World} {b : Nat} {v pf : ByteArray} {p : Int} {nx tb : Value} (h : Nd w b v p pf nx tb) (sm : Same w w') : Nd w' b v p pf nx tb := by unfold Nd; rw [sm.heap]; exact h
theorem Stg.same {b0 : Nat} {W W' : World} {r : Nat} {nd : Value} {n st : Nat} (h : Stg b0 W r nd n st) (sm : Same W W') : Stg b0 W' r nd n st := by
  rcases h with h | ⟨h, n1, h1, h2, T1, row, h3, h4, h5, h6⟩ | ⟨h, e, he, b, q, h1, h2, h3, h4⟩ | ⟨h, e, he, q, h1, h2, h3⟩ | h
  · exact .inl h
  · exact .inr (.inl ⟨h, n1, h1, h2, T1, row, h3, h4.same sm, by rw [sm.heap]; exact h5, h6.len, fun e he => by
      obtain ⟨b, hb, g1, q, g2, g3, g4⟩ := h6.at_ e he
      exact ⟨b, hb, g1, q, g2, g3.same sm, g4.same sm⟩, h6.rest⟩)
  · exact .inr (.inr (.inl ⟨h, e, he, b, q, h1, h2, h3.same sm, h4.same sm⟩))
  · exact .inr (.inr (.inr (.inl ⟨h, e, he, q, h1, h2, h3.same sm⟩)))
  · exact .inr (.inr (.inr (.inr h)))
set_option maxRecDepth 100000 in
set_option maxHeartbeats 8000000 in
theorem lookup_any (b0 r : Nat) (s0 : ByteArray) (w : World) (h : Tr b0 w r 5) (hs : s0.size ≤ 1000000000) :
    Calls Tryd.prog 106 #[ptr r, .string s0, .bool false] w fun e w' => ∃ (v : ByteArray) (n : Nat) (f : Bool), e = .returned (.tuple #[.string v, .int .i64 (n : Int), .bool f]) ∧ Same w w' ∧ n ≤ s0.size ∧ v.size ≤ 1 ∧ (f = true → 0 < n) := by
  obtain ⟨⟨T0, hT0, hr, n1, ht, hn1, T1, row, hT1, m1, m5, hrow⟩, hlo⟩ := h
  rw [if_neg (by omega)] at ht
  have R := rt_of hr
  have hst := some_tab
  have hnt := nil_tab
  have HHP := Lib.hid (fun (s p : ByteArray) w' => Tryd.strings_HasPrefix s p w')
  have HROOT : Hid (∀ wr, Same w wr → wr.cell? ⟨r, 1, none⟩ = some (.int .i64 0) ∧ wr.cell? ⟨r, 4, none⟩ = some (.slice (some ⟨T0, 0, none⟩) 14 14) ∧ wr.cell? ⟨r, 5, none⟩ = some (.int .i64 14) ∧ (∀ c, c < 256 → wr.cell? ⟨r, 6 + c, none⟩ = some (.int .u8 (mpK c))) ∧ (∀ m, m < 14 → wr.cell? ⟨T0, m, none⟩ = some (if m = 1 then ptr n1 else nilP))) := by
    intro wr sm
    refine ⟨(sm.cell _).trans (cellT hr (by rw [List.getElem?_toArray]; rfl)), (sm.cell _).trans R.c4, (sm.cell _).trans R.c5, fun c hc => (sm.cell _).trans (R.cm c hc), fun m hm => (sm.cell _).trans (cellT ht ?_)⟩
    rw [List.getElem?_toArray]
    by_cases e : m = 1
    · subst e; simp [row14]
    · rw [if_neg e, List.getElem?_set_ne (fun x => e x.symm)]; unfold row14; rw [List.getElem?_replicate, if_pos hm]
  have HB1 : Hid (Stg b0 w r (ptr n1) 1 1) := .inr (.inl ⟨rfl, n1, rfl, rfl, T1, row, hT1, m1, m5, hrow⟩)
  clear ht m1 m5 hrow R
  unfold ptr at *
  go_enter Tryd.func106, Tryd.ntmps106
  go_wp2_with fail
  go_loopw [1, 6, 7, 8, 9, 10, 11] (fun s v kl fo be nd n wr => ∃ (s' : ByteArray) (k st : Nat), s = .string s' ∧ v = .string ⟨#[]⟩ ∧ kl = .int .i64 0 ∧ fo = .bool false ∧ be = .int .i64 0 ∧ n = .int .i64 (k : Int) ∧ Hid (Lk s0 k s') ∧ Hid (Stg b0 wr r nd k st) ∧ Hid (Same w wr) ∧ Hid (nd = nilP ∨ ∃ b, nd = ptr b)) (fun _ _ _ _ _ nd n _ => match nd with | .pointer none => 0 | _ => 10 - (intOf n).toNat)
  case atStart => exact ⟨s0, 0, 0, rfl, rfl, rfl, rfl, rfl, rfl, ⟨by omega, by apply ByteArray.ext; simp⟩, .inl ⟨rfl, rfl, rfl⟩, Same.refl w, .inr ⟨r, rfl⟩⟩
  case round =>
    obtain ⟨s', k, st, rfl, rfl, rfl, rfl, rfl, rfl, HL, HS, HW, HP⟩ := hrel
    have hsz := HL.out.size
    have hle := HL.out.le
    rcases HS.out with ⟨hst0, rfl, hk0⟩ | ⟨hst0, n2, rfl, hk0, T2, row, hT2, m1, m5, hrow⟩ | ⟨hst0, e, he, b, q, rfl, hk0, m1, m2⟩ | ⟨hst0, e, he, q, rfl, hk0, m1⟩ | ⟨hst0, rfl⟩
    · -- S0
      subst hk0
      obtain ⟨r1, r4, r5, rm, rT⟩ := HROOT.out _ HW.out
      unfold ptr
      by_cases he : s'.size = 0
      · have hem : s'.toList.isEmpty = true := empty_of_size he
        clear rm rT HP hsz hle he
        go_wp2_with fail
        refine bodyPost_ret (v := .tuple #[.string ⟨#[]⟩, .int .i64 0, .bool false]) (by simp [results, Tryd.results106, go_sem]) rfl ?_
        exact ⟨_, 0, false, rfl, HW.out, by omega, by decide, fun h => by cases h⟩
      · have hem : s'.toList.isEmpty = false := ne_of_size (by omega)
        have hs0 : 0 < s'.size := by omega
        have hs0I : (0 : Int) < s'.size := by omega
        have h256 : s'[0].toNat < 256 := UInt8.toNat_lt _
        have h256I : (s'[0].toNat : Int) < 256 := by omega
        have r6 := rm _ h256
        obtain ⟨b1, b2⟩ := mpK_lt _ h256
        have HL1 : Hid (Lk s0 1 (s'.extract 1 s'.size)) := HL.out.step (k := 1) (by omega)
        clear rm he hsz hle
        obtain ⟨m, hm⟩ : ∃ m : Nat, (m : Int) = mpK s'[0].toNat := ⟨(mpK s'[0].toNat).toNat, by omega⟩
        rw [← hm] at r6 b1 b2
        clear hm
        by_cases h14 : m = 14
        · have hd : ((m : Int) == 14) = true := by simp [h14]
          clear rT HP h14
          go_wp2_with fail
          go_quiet (fail)
          have HW2 : Hid (Same w (wr.drewN nq)) := HW.out.drewN nq
          have r5 : (wr.drewN nq).cell? ⟨r, 5, none⟩ = some (.int .i64 14) := r5
          generalize wr.drewN nq = w2 at *
          go_wp2_with fail
          refine bodyPost_ret (v := .tuple #[.string ⟨#[]⟩, .int .i64 0, .bool false]) (by simp [results, Tryd.results106, go_sem]) rfl ?_
          exact ⟨_, 0, false, rfl, HW2.out, by omega, by decide, fun h => by cases h⟩
        · have hd : ((m : Int) == 14) = false := by rw [beq_eq_false_iff_ne]; omega
          have hm14 : m < 14 := by omega
          have hm14I : (m : Int) < 14 := by omega
          have t1 := rT m hm14
          clear rT HP h14
          go_wp2_with fail
          go_quiet (fail)
          have HW2 : Hid (Same w (wr.drewN nq)) := HW.out.drewN nq
          have r5 : (wr.drewN nq).cell? ⟨r, 5, none⟩ = some (.int .i64 14) := r5
          have r4 : (wr.drewN nq).cell? ⟨r, 4, none⟩ = some (.slice (some ⟨T0, 0, none⟩) 14 14) := r4
          have t1 : (wr.drewN nq).cell? ⟨T0, m, none⟩ = _ := t1
          generalize wr.drewN nq = w2 at *
          by_cases h1 : m = 1
          · rw [if_pos h1] at t1
            clear h1
            go_wp2_with fail
            go_roundw
            case rel => exact ⟨_, 1, 1, rfl, rfl, rfl, rfl, rfl, rfl, HL1, HB1.out.same HW2.out, HW2, .inr ⟨n1, rfl⟩⟩
            case measure => first | (simp [intOf]; done) | (simp [intOf]; omega)
          · rw [if_neg h1] at t1
            clear h1
            unfold nilP at *
            go_wp2_with fail
            go_roundw
            case rel => exact ⟨_, 1, 4, rfl, rfl, rfl, rfl, rfl, rfl, HL1, .inr (.inr (.inr (.inr ⟨rfl, rfl⟩))), HW2, .inl rfl⟩
            case measure => first | (simp [intOf]; done) | (simp [intOf]; omega)
    · -- S1
      subst hk0
      obtain ⟨q0, q1, q2, q3, q4, _⟩ := m1.cells
      obtain ⟨_, _, r5, rm, _⟩ := HROOT.out _ HW.out
      unfold ptr
      by_cases he : s'.size = 0
      · have hem : s'.toList.isEmpty = true := empty_of_size he
        clear rm HP hsz hle he
        go_wp2_with fail
        refine bodyPost_ret (v := .tuple #[.string ⟨#[]⟩, .int .i64 0, .bool false]) (by simp [results, Tryd.results106, go_sem]) rfl ?_
        exact ⟨_, 0, false, rfl, HW.out, by omega, by decide, fun h => by cases h⟩
      · have hem : s'.toList.isEmpty = false := ne_of_size (by omega)
        have hs0 : 0 < s'.size := by omega
        have hs0I : (0 : Int) < s'.size := by omega
        have h256 : s'[0].toNat < 256 := UInt8.toNat_lt _
        have h256I : (s'[0].toNat : Int) < 256 := by omega
        have r6 := rm _ h256
        obtain ⟨b1, b2⟩ := mpK_lt _ h256
        have HL1 : Hid (Lk s0 2 (s'.extract 1 s'.size)) := HL.out.step (k := 1) (by omega)
        clear rm he hsz hle
        obtain ⟨m, hm⟩ : ∃ m : Nat, (m : Int) = mpK s'[0].toNat := ⟨(mpK s'[0].toNat).toNat, by omega⟩
        rw [← hm] at r6 b1 b2
        clear hm
        by_cases h14 : m = 14
        · have hd : ((m : Int) == 14) = true := by simp [h14]
          clear HP h14
          go_wp2_with fail
          go_quiet (fail)
          have HW2 : Hid (Same w (wr.drewN nq)) := HW.out.drewN nq
          have r5 : (wr.drewN nq).cell? ⟨r, 5, none⟩ = some (.int .i64 14) := r5
          generalize wr.drewN nq = w2 at *
          go_wp2_with fail
          refine bodyPost_ret (v := .tuple #[.string ⟨#[]⟩, .int .i64 0, .bool false]) (by simp [results, Tryd.results106, go_sem]) rfl ?_
          exact ⟨_, 0, false, rfl, HW2.out, by omega, by decide, fun h => by cases h⟩
        · have hd : ((m : Int) == 14) = false := by rw [beq_eq_false_iff_ne]; omega
          have hm14 : m < 14 := by omega
          have hm14I : (m : Int) < 14 := by omega
          have HROW := row_slot hrow hm14
          have HCT : Hid (∀ v, row[m]? = some v → wr.cell? ⟨T2, m, none⟩ = some v) := fun v hv => cellT m5 (by rw [List.getElem?_toArray]; exact hv)
          clear hrow m5 m1 q0 q2 q3
          clear HP h14
          go_wp2_with fail
          go_quiet (fail)
          have HW2 : Hid (Same w (wr.drewN nq)) := HW.out.drewN nq
          have r5 : (wr.drewN nq).cell? ⟨r, 5, none⟩ = some (.int .i64 14) := r5
          have q4 : (wr.drewN nq).cell? ⟨n2, 4, none⟩ = some (.slice (some ⟨T2, 0, none⟩) 14 14) := q4
          have HCT : Hid (∀ v, row[m]? = some v → (wr.drewN nq).cell? ⟨T2, m, none⟩ = some v) := HCT
          have HSS : Hid (Same wr (wr.drewN nq)) := (Same.refl wr).drewN nq
          generalize wr.drewN nq = w2 at *
          rcases HROW with ⟨e, he, b, hb, hE, q, hq, g3, g4⟩ | hnone
          · have t1 := HCT.out _ hb
            have HN : Hid (Stg b0 w2 r (ptr b) 2 2) := .inr (.inr (.inl ⟨rfl, e, he, b, q, rfl, rfl, g3.same HSS.out, g4.same HSS.out⟩))
            clear HCT hb g3 g4
            unfold ptr at *
            go_wp2_with fail
            go_roundw
            case rel => exact ⟨_, 2, 2, rfl, rfl, rfl, rfl, rfl, rfl, HL1, HN, HW2, .inr ⟨b, rfl⟩⟩
            case measure => first | (simp [intOf]; done) | (simp [intOf]; omega)
          · have t1 := HCT.out _ hnone
            clear HCT hnone
            unfold nilP at *
            go_wp2_with fail
            go_roundw
            case rel => exact ⟨_, 2, 4, rfl, rfl, rfl, rfl, rfl, rfl, HL1, .inr (.inr (.inr (.inr ⟨rfl, rfl⟩))), HW2, .inl rfl⟩
            case measure => first | (simp [intOf]; done) | (simp [intOf]; omega)
    · -- S2
      subst hk0
      obtain ⟨q0, q1, q2, q3, q4, _⟩ := m1.cells
      obtain ⟨f1, f2, f3, f4, f5, f6, f7, f8⟩ := ents_facts e he
      unfold ptr nilT at *
      by_cases he0 : s'.size = 0
      · have hem : s'.toList.isEmpty = true := empty_of_size he0
        clear HP hsz hle he0
        go_wp2_with fail
        refine bodyPost_ret (v := .tuple #[.string ⟨#[]⟩, .int .i64 0, .bool false]) (by simp [results, Tryd.results106, go_sem]) rfl ?_
        first | exact ⟨_, 0, false, rfl, HW.out, by omega, by decide, fun h => by cases h⟩ | exact ⟨_, 0, .inl ⟨rfl, HW.out, Nat.zero_le _, by decide⟩⟩
      · have hem : s'.toList.isEmpty = false := ne_of_size (by omega)
        have HPR := Lib.hid (fun w' => HHP.out s' e.rest w')
        have HPL : Hid (Lib.hasPrefix s'.data.toList e.rest.data.toList = true → e.rest.size ≤ s'.size) := by
          intro h
          rw [← Lib.hasPrefix_raw, Bool.and_eq_true] at h
          exact of_decide_eq_true h.1
        cases hp : Lib.hasPrefix s'.data.toList e.rest.data.toList with
        | false =>
          rw [hp] at HPR
          clear HP hsz hle he0 HHP HPL
          go_wp2_with (go_at_call 6; refine (HPR.out _).mono ?_; rintro e2 w' ⟨rfl, rfl⟩)
          refine bodyPost_ret (v := .tuple #[.string ⟨#[]⟩, .int .i64 0, .bool false]) (by simp [results, Tryd.results106, go_sem]) rfl ?_
          first | exact ⟨_, 0, false, rfl, HW.out, by omega, by decide, fun h => by cases h⟩ | exact ⟨_, 0, .inl ⟨rfl, HW.out, Nat.zero_le _, by decide⟩⟩
        | true =>
          rw [hp] at HPR
          have hle2 := HPL.out hp
          have HLN : Hid (Lk s0 (2 + e.rest.size) (s'.extract e.rest.size s'.size)) := HL.out.step hle2
          have HN : Hid (Stg b0 wr r (.pointer (some ⟨q, 0, none⟩)) (2 + e.rest.size) 3) := .inr (.inr (.inr (.inl ⟨rfl, e, he, q, rfl, rfl, m2⟩)))
          have hle3 : (e.rest.size : Int) ≤ s'.size := by omega
          have hrz : e.rest.size ≤ 4 := f4
          obtain ⟨N, hN⟩ : ∃ N, N = e.rest.size := ⟨_, rfl⟩
          clear HP hsz hle he0 HHP HPL
          go_wp2_with (go_at_call 6; refine (HPR.out _).mono ?_; rintro e2 w' ⟨rfl, rfl⟩)
          go_roundw
          case rel => exact ⟨_, 2 + e.rest.size, 3, rfl, rfl, rfl, rfl, rfl, by go_num, HLN, HN, HW, .inr ⟨q, rfl⟩⟩
          case measure => first | (simp [intOf]; done) | (simp [intOf]; omega)
    · -- S3
      obtain ⟨q0, q1, q2, q3, q4, _⟩ := m1.cells
      obtain ⟨f1, f2, f3, f4, f5, f6, f7, f8⟩ := ents_facts e he
      have hd : decide (0 < e.pri) = true := decide_eq_true f1
      have hv : e.val.size ≤ 1 := by omega
      have hk : 0 < k := by omega
      unfold ptr nilT at *
      clear hk0 hsz
      by_cases he0 : s'.size = 0
      · have hem : s'.toList.isEmpty = true := empty_of_size he0
        clear HP he0
        go_wp2_with fail
        refine bodyPost_ret (v := .tuple #[.string e.val, .int .i64 k, .bool true]) (by simp [results, Tryd.results106, go_sem]) rfl ?_
        first | exact ⟨_, k, true, rfl, HW.out, hle, hv, fun _ => hk⟩ | exact ⟨_, k, .inr ⟨rfl, HW.out, hle, hv, hk⟩⟩
      · have hem : s'.toList.isEmpty = false := ne_of_size (by omega)
        clear HP he0
        go_wp2_with fail
        refine bodyPost_ret (v := .tuple #[.string e.val, .int .i64 k, .bool true]) (by simp [results, Tryd.results106, go_sem]) rfl ?_
        first | exact ⟨_, k, true, rfl, HW.out, hle, hv, fun _ => hk⟩ | exact ⟨_, k, .inr ⟨rfl, HW.out, hle, hv, hk⟩⟩
    · clear hsz hle
      unfold nilP
      go_wp2_with fail
      refine bodyPost_ret (v := .tuple #[.string ⟨#[]⟩, .int .i64 0, .bool false]) (by simp [results, Tryd.results106, go_sem]) rfl ?_
      first | exact ⟨_, 0, false, rfl, HW.out, by omega, by decide, fun h => by cases h⟩ | exact ⟨_, 0, .inl ⟨rfl, HW.out, Nat.zero_le _, by decide⟩⟩
end Go.Proofs.YtoalbfffojpnmaaDoor
