/- (*scanner).read, the walk. Conditions: the parser's cells; a string of at most 10^9 bytes. · (*scanner).read, all tokens. Conditions: the parser's cells; a string of at most 10^9 bytes. · (*scanner).next: the next token. Conditions: the parser's cells; a string of at most 10^9 bytes. -/
import Derived.Test.YtejnoedlfbglcaaGreatDoorPsE
import Derived.Deep.QuietTactic
import Derived.BigQuiet
import Derived.StillTailTactics
namespace Go.Proofs.YtejnoedlfbglcaaGreatDoor
open Go.RowKit Mh
set_option linter.unusedVariables false

theorem extract_at (s : ByteArray) (a b : Nat) : s.extract a b = ⟨((s.data.toList.drop a).take (b - a)).toArray⟩ := by
  refine ByteArray.ext ?_
  rw [ByteArray.data_extract]
  refine Array.toList_inj.1 ?_
  simp [Array.toList_extract, List.extract_eq_take_drop]
/-- A word is read. -/
theorem scan_word {s : ByteArray} {q : Ps} {j : Nat} {c : UInt8} {l : List UInt8} (he : q.e = 0) (h1 : q.i ≤ j) (h2 : j ≤ s.size) (hall : ∀ i (h : i < s.size), q.i ≤ i → i < j → wordB s[i] = true) (hend : ∀ i (h : i < s.size), i = j → wordB s[i] = false)
    (hr : readF c l = some (.word ((s.data.toList.drop q.i).takeWhile wordB), (s.data.toList.drop q.i).dropWhile wordB)) : Scan s q { q with i := j, k := 1, ta := q.i, tx := s.extract q.i j } (readF c l) := by
  obtain ⟨e1, e2⟩ := takeW_at h1 h2 hall hend
  rw [hr]
  refine ⟨rfl, h2, he, rfl, rfl, ?_, ⟨by show (0 : Int) ≤ q.i; omega, by show (q.i : Int) ≤ s.size; omega⟩, e2.symm⟩
  show s.extract q.i j = ⟨((s.data.toList.drop q.i).takeWhile wordB).toArray⟩
  rw [extract_at, e1]
/-- The place in memory as a number. -/
def atI (Q : Nat) (w : World) : Nat := match w.cell? ⟨Q, 1, none⟩ with
  | some (.int _ n) => n.toNat
  | _ => 0
theorem PsAt.atI {Q T : Nat} {s : ByteArray} {q : Ps} {w : World} (h : PsAt Q T s q w) : atI Q w = q.i := by
  have := h.cells.2.1
  unfold Proofs.YtejnoedlfbglcaaGreatDoor.atI
  rw [this]
  simp
theorem PsAt.drewN {Q T : Nat} {s : ByteArray} {q : Ps} {w : World} (h : PsAt Q T s q w) (n : Nat) : PsAt Q T s q (w.drewN n) := h
theorem PsAt.drew {Q T : Nat} {s : ByteArray} {q : Ps} {w : World} (h : PsAt Q T s q w) : PsAt Q T s q w.drew := h
set_option maxRecDepth 100000 in
set_option maxHeartbeats 16000000 in
theorem read_word (Q T : Nat) (s : ByteArray) (q : Ps) (w : World) (h : PsAt Q T s q w) (he : q.e = 0) (hi : q.i < s.size) (hs : s.size ≤ 1000000000) (hw : wordB s[q.i] = true) :
    Calls Tryz.prog 47 #[.pointer (some ⟨Q, 0, none⟩), .int .u8 s[q.i].toNat] w fun en w' => en = .returned (.tuple #[]) ∧ ∃ q', PsAt Q T s q' w' ∧ Kept [Q] w w' ∧ Scan s q q' (readF s[q.i] (s.data.toList.drop (q.i + 1))) := by
  have HE := Lib.hid he
  have HR : Hid (readF s[q.i] (s.data.toList.drop (q.i + 1)) = some (.word ((s.data.toList.drop q.i).takeWhile wordB), (s.data.toList.drop q.i).dropWhile wordB)) := by
    show _ = _
    unfold readF
    rw [if_pos hw, drop_at hi]
  obtain ⟨c0, c1, c2, c3, c4, c5, c6, c7, fz⟩ := h.cells
  have HP := Lib.hid h
  have HWD := Lib.hid (fun w => isWord_any s[q.i] w)
  rw [hw] at HWD
  clear h he
  go_enter Tryz.func47, Tryz.ntmps47
  go_wp2_with (go_at_call 62; refine (HWD.out _).mono ?_; rintro e w' ⟨rfl, hww⟩; obtain rfl : w = w' := hww.symm)
  clear c0 c1 c2 c3 c4 c5 c6 c7 fz
  go_loopw [] (fun wr => ∃ (j : Nat), q.i ≤ j ∧ j ≤ s.size ∧ Hid (PsAt Q T s { q with i := j } wr ∧ Kept [Q] w wr ∧ ∀ i (h : i < s.size), q.i ≤ i → i < j → wordB s[i] = true)) (fun wr => s.size - atI Q wr)
  case atStart => exact ⟨q.i, Nat.le_refl _, by omega, HP.out, Kept.refl _ _, fun i h h1 h2 => by omega⟩
  case round =>
    obtain ⟨j, h1, h2, HI⟩ := hrel
    obtain ⟨c0, c1, c2, c3, c4, c5, c6, c7, fz⟩ := HI.out.1.cells
    have hat := HI.out.1.atI
    have HAT := Lib.hid hat
    clear hat
    have c1 : wr.cell? ⟨Q, 1, none⟩ = some (.int .i64 (j : Int)) := c1
    by_cases hlt : j < s.size
    · have HJ := Lib.hid (fun w => isWord_any s[j] w)
      cases hc : wordB s[j] with
      | true =>
        rw [hc] at HJ
        have HC := Lib.hid hc
        clear hc
        go_wp2_with fail
        go_quiet ((go_at_call 62; exact Calls.quiet_of_same (HJ.out _)))
        go_wp2_with fail
        go_roundw
        case rel => exact ⟨j + 1, by omega, by omega, (HI.out.1.drewN nq).set1 (j + 1), (HI.out.2.1.drewN nq).set Q 1 (by simp) _, fun i h a b => by by_cases e : i = j; subst e; exact HC.out; exact HI.out.2.2 i h a (by omega)⟩
        case measure =>
          have h1 := ((HI.out.1.drewN nq).set1 (j + 1)).atI
          rw [HAT.out]
          have h2 : Proofs.YtejnoedlfbglcaaGreatDoor.atI Q ((wr.drewN nq).setCell { block := Q, off := 1 } (Value.int IntKind.i64 (↑j + 1))) = j + 1 := h1
          omega
      | false =>
        rw [hc] at HJ
        have HC := Lib.hid hc
        clear hc
        have HEND : Hid (∀ i (h : i < s.size), i = j → wordB s[i] = false) := fun i h e => by subst e; exact HC.out
        go_wp2_with fail
        go_quiet ((go_at_call 62; exact Calls.quiet_of_same (HJ.out _)))
        go_wp2_with fail
        obtain ⟨wz, hwz⟩ : ∃ wz, wz = wr.drewN nq := ⟨_, rfl⟩
        have HP2 : Hid (PsAt Q T s { q with i := j } wz.drew) := by rw [hwz]; exact (HI.out.1.drewN nq).drew
        have HK2 : Hid (Kept [Q] w wz.drew) := by rw [hwz]; exact (HI.out.2.1.drewN nq).drew
        have hp : PsAt Q T s { q with i := j } wz := by rw [hwz]; exact HI.out.1.drewN nq
        rw [← hwz]
        clear hwz c0 c1 c2 c3 c4 c5 c6 c7 fz
        obtain ⟨c0, c1, c2, c3, c4, c5, c6, c7, fz⟩ := hp.cells
        have c1 : wz.cell? ⟨Q, 1, none⟩ = some (.int .i64 (j : Int)) := c1
        clear hp
        go_still_tail 15, (by kernel_rfl)
        go_wp2_with fail
        go_end0
        exact ⟨rfl, _, (HP2.out.setT 1 q.i (s.extract q.i j)), ((HK2.out.set Q 2 (by simp) _).set Q 3 (by simp) _).set Q 4 (by simp) _, scan_word HE.out h1 h2 HI.out.2.2 HEND.out HR.out⟩
    · obtain rfl : j = s.size := by omega
      have HEND : Hid (∀ i (h : i < s.size), i = s.size → wordB s[i] = false) := fun i h e => by omega
      have hd : decide ((s.size : Int) < s.size) = false := by simp
      go_wp2_with fail
      go_quiet (fail)
      go_wp2_with fail
      obtain ⟨wz, hwz⟩ : ∃ wz, wz = wr.drewN nq := ⟨_, rfl⟩
      have HP2 : Hid (PsAt Q T s { q with i := s.size } wz.drew) := by rw [hwz]; exact (HI.out.1.drewN nq).drew
      have HK2 : Hid (Kept [Q] w wz.drew) := by rw [hwz]; exact (HI.out.2.1.drewN nq).drew
      have hp : PsAt Q T s { q with i := s.size } wz := by rw [hwz]; exact HI.out.1.drewN nq
      rw [← hwz]
      clear hwz c0 c1 c2 c3 c4 c5 c6 c7 fz
      obtain ⟨c0, c1, c2, c3, c4, c5, c6, c7, fz⟩ := hp.cells
      have c1 : wz.cell? ⟨Q, 1, none⟩ = some (.int .i64 (s.size : Int)) := c1
      clear hp
      go_still_tail 15, (by kernel_rfl)
      go_wp2_with fail
      go_end0
      exact ⟨rfl, _, (HP2.out.setT 1 q.i (s.extract q.i s.size)), ((HK2.out.set Q 2 (by simp) _).set Q 3 (by simp) _).set Q 4 (by simp) _, scan_word HE.out h1 h2 HI.out.2.2 HEND.out HR.out⟩
end Go.Proofs.YtejnoedlfbglcaaGreatDoor
namespace Go.Proofs.YtejnoedlfbglcaaGreatDoor
open Go.RowKit Mh
set_option linter.unusedVariables false

theorem signs_any (c : UInt8) (w : World) : Calls Tryz.prog 64 #[.string ⟨#[91, 93, 123, 125, 59]⟩, .int .u8 c.toNat] w fun e w' => e = .returned (.int .i64 (Lib.indexByte [91, 93, 123, 125, 59] c)) ∧ w' = w := by
  have h := Tryz.strings_IndexByte ⟨#[91, 93, 123, 125, 59]⟩ (c.toNat : Int) w
  have ed : (c.toNat : Int).toNat.toUInt8 = c := by simp
  rw [ed] at h
  exact h
set_option maxRecDepth 100000 in
set_option maxHeartbeats 16000000 in
theorem read_other (Q T : Nat) (s : ByteArray) (q : Ps) (w : World) (h : PsAt Q T s q w) (he : q.e = 0) (hi : q.i < s.size) (hs : s.size ≤ 1000000000) (hw : wordB s[q.i] = false) :
    Calls Tryz.prog 47 #[.pointer (some ⟨Q, 0, none⟩), .int .u8 s[q.i].toNat] w fun en w' => en = .returned (.tuple #[]) ∧ ∃ q', PsAt Q T s q' w' ∧ Kept [Q] w w' ∧ Scan s q q' (readF s[q.i] (s.data.toList.drop (q.i + 1))) := by
  have HE := Lib.hid he
  have HWD := Lib.hid (fun w => isWord_any s[q.i] w)
  rw [hw] at HWD
  have HT := Lib.hid (text_any Q T s q w h he hi hs)
  have HF := Lib.hid (fail_any Q T s q (q.i : Int) 8 w h)
  rw [if_pos he] at HF
  have hb : (s[q.i].toNat : Int) < 256 := by have := s[q.i].toNat_lt; omega
  have HSI := Lib.hid (fun w => signs_any s[q.i] w)
  obtain ⟨K, hK⟩ : ∃ K, Lib.indexByte [91, 93, 123, 125, 59] s[q.i] = K := ⟨_, rfl⟩
  rw [hK] at HSI
  have HKS := signB_index s[q.i]
  rw [hK] at HKS
  obtain ⟨c0, c1, c2, c3, c4, c5, c6, c7, fz⟩ := h.cells
  have HP := Lib.hid h
  clear hK h
  by_cases h34 : s[q.i].toNat = 34
  · have b34 : ((s[q.i].toNat : Int) == 34) = true := by rw [beq_iff_eq]; omega
    have HR : Hid (readF s[q.i] (s.data.toList.drop (q.i + 1)) = (textF (s.data.toList.drop (q.i + 1))).map fun p => (.text p.1, p.2)) := by
      show _ = _
      unfold readF
      rw [if_neg (by rw [hw]; simp), if_pos h34]
    clear he hw h34 HKS HSI
    go_enter Tryz.func47, Tryz.ntmps47
    go_wp2_with (first | (go_at_call 62; refine (HWD.out _).mono ?_; rintro e w' ⟨rfl, hww⟩; obtain rfl : w = w' := hww.symm) | (go_at_call 63; refine HT.out.mono ?_; rintro e w2 ⟨rfl, q', hp, hk, hsc⟩; have H2 := Lib.hid (And.intro hp (And.intro hk hsc)); clear hp hk hsc))
    go_end0
    exact ⟨rfl, q', H2.out.1, H2.out.2.1, by rw [HR.out]; exact H2.out.2.2⟩
  have b34 : ((s[q.i].toNat : Int) == 34) = false := by rw [beq_eq_false_iff_ne]; omega
  by_cases hsg : signB s[q.i] = true
  · have hK0 : 0 ≤ K := HKS.2 hsg
    have HR : Hid (readF s[q.i] (s.data.toList.drop (q.i + 1)) = some (.sign s[q.i], s.data.toList.drop (q.i + 1))) := by
      show _ = _
      unfold readF
      rw [if_neg (by rw [hw]; simp), if_neg h34, if_pos hsg]
    clear he hw h34 HKS HT HF hsg
    go_enter Tryz.func47, Tryz.ntmps47
    go_wp2_with (first | (go_at_call 62; refine (HWD.out _).mono ?_; rintro e w' ⟨rfl, hww⟩; obtain rfl : w = w' := hww.symm) | (go_at_call 64; refine (HSI.out _).mono ?_; rintro e w' ⟨rfl, hww⟩; obtain rfl : w = w' := hww.symm))
    go_end0
    exact ⟨rfl, _, (HP.out.set1 (q.i + 1)).setT s[q.i].toNat q.i ⟨#[]⟩, ((((Kept.refl [Q] w).set Q 1 (by simp) _).set Q 2 (by simp) _).set Q 3 (by simp) _).set Q 4 (by simp) _, by rw [HR.out]; exact ⟨rfl, by show q.i + 1 ≤ _; omega, HE.out, rfl, rfl, rfl, ⟨by show (0 : Int) ≤ q.i; omega, by show (q.i : Int) ≤ s.size; omega⟩, rfl⟩⟩
  · have hK0 : ¬ 0 ≤ K := fun e => hsg (HKS.1 e)
    have HR : Hid (readF s[q.i] (s.data.toList.drop (q.i + 1)) = none) := by
      show _ = _
      unfold readF
      rw [if_neg (by rw [hw]; simp), if_neg h34, if_neg hsg]
    clear he hw h34 HKS HT hsg
    go_enter Tryz.func47, Tryz.ntmps47
    go_wp2_with (first | (go_at_call 62; refine (HWD.out _).mono ?_; rintro e w' ⟨rfl, hww⟩; obtain rfl : w = w' := hww.symm) | (go_at_call 64; refine (HSI.out _).mono ?_; rintro e w' ⟨rfl, hww⟩; obtain rfl : w = w' := hww.symm) | (go_at_call 46; refine HF.out.mono ?_; rintro e w2 ⟨rfl, hp, hk⟩; have H2 := Lib.hid (And.intro hp hk); clear hp hk))
    go_end0
    exact ⟨rfl, _, H2.out.1, H2.out.2, by rw [HR.out]; exact ⟨rfl, by show q.i ≤ _; omega, by show (8 : Int) ≠ 0; decide, by show (0 : Int) ≤ q.i; omega, by show (q.i : Int) ≤ s.size; omega⟩⟩
theorem read_any (Q T : Nat) (s : ByteArray) (q : Ps) (w : World) (h : PsAt Q T s q w) (he : q.e = 0) (hi : q.i < s.size) (hs : s.size ≤ 1000000000) :
    Calls Tryz.prog 47 #[.pointer (some ⟨Q, 0, none⟩), .int .u8 s[q.i].toNat] w fun en w' => en = .returned (.tuple #[]) ∧ ∃ q', PsAt Q T s q' w' ∧ Kept [Q] w w' ∧ Scan s q q' (readF s[q.i] (s.data.toList.drop (q.i + 1))) := by
  cases hw : wordB s[q.i] with
  | true => exact read_word Q T s q w h he hi hs hw
  | false => exact read_other Q T s q w h he hi hs hw
end Go.Proofs.YtejnoedlfbglcaaGreatDoor
namespace Mh
open Go Go.RowKit
theorem nextF_cons (lines cm : Bool) (c : UInt8) (l : List UInt8) : nextF lines cm (c :: l) = (if ctlB c = true then none else if c.toNat = 10 then (if lines = true then nextF lines false l else some (.sign c, l)) else if (cm || decide (c.toNat = 32) || decide (c.toNat = 9)) = true then nextF lines cm l else if c.toNat = 35 then nextF lines true l else Go.Proofs.YtejnoedlfbglcaaGreatDoor.readF c l) := by
  unfold Go.Proofs.YtejnoedlfbglcaaGreatDoor.readF
  conv => lhs; unfold nextF
  cases textF l with
  | none => rfl
  | some p => obtain ⟨a, b⟩ := p; rfl
end Mh
namespace Go.Proofs.YtejnoedlfbglcaaGreatDoor
open Go.RowKit Mh
set_option linter.unusedVariables false

theorem Scan.at {s : ByteArray} {q q' : Ps} {o : Option (Tk × List UInt8)} {j : Nat} (h : Scan s { q with i := j } q' o) : Scan s q q' o := h
/-- What stands at the head of next's loop. -/
structure NxIn (Q T : Nat) (s : ByteArray) (q : Ps) (w wr : World) (lines : Bool) (j : Nat) (cm : Bool) : Prop where
  le : j ≤ s.size
  ge : q.i ≤ j
  p : PsAt Q T s { q with i := j } wr
  kept : Kept [Q] w wr
  eq : nextF lines false (s.data.toList.drop q.i) = nextF lines cm (s.data.toList.drop j)
theorem NxIn.drewN {Q T : Nat} {s : ByteArray} {q : Ps} {w wr : World} {lines : Bool} {j : Nat} {cm : Bool} (h : NxIn Q T s q w wr lines j cm) (n : Nat) : NxIn Q T s q w (wr.drewN n) lines j cm := ⟨h.le, h.ge, h.p.drewN n, h.kept.drewN n, h.eq⟩
theorem NxIn.step {Q T : Nat} {s : ByteArray} {q : Ps} {w wr : World} {lines : Bool} {j : Nat} {cm cm' : Bool} (h : NxIn Q T s q w wr lines j cm) (hlt : j < s.size) (he : nextF lines cm (s.data.toList.drop j) = nextF lines cm' (s.data.toList.drop (j + 1))) :
    NxIn Q T s q w (wr.setCell ⟨Q, 1, none⟩ (.int .i64 ((j + 1 : Nat) : Int))) lines (j + 1) cm' :=
  ⟨hlt, by have := h.ge; omega, h.p.set1 (j + 1), h.kept.set Q 1 (by simp) _, h.eq.trans he⟩
set_option maxRecDepth 100000 in
set_option maxHeartbeats 16000000 in
theorem next_any (Q T : Nat) (s : ByteArray) (q : Ps) (lines : Bool) (w : World) (h : PsAt Q T s q w) (he : q.e = 0) (hi : q.i ≤ s.size) (hs : s.size ≤ 1000000000) :
    Calls Tryz.prog 30 #[.pointer (some ⟨Q, 0, none⟩), .bool lines] w fun en w' => en = .returned (.tuple #[]) ∧ ∃ q', PsAt Q T s q' w' ∧ Kept [Q] w w' ∧ Scan s q q' (nextF lines false (s.data.toList.drop q.i)) := by
  have HE := Lib.hid he
  have HI0 : Hid (NxIn Q T s q w w lines q.i false) := ⟨hi, Nat.le_refl _, h, Kept.refl _ _, rfl⟩
  clear h he
  go_enter Tryz.func30, Tryz.ntmps30
  go_wp2_with fail
  go_loopw [4] (fun v wr => ∃ (j : Nat) (cm : Bool), v = .bool cm ∧ Hid (NxIn Q T s q w wr lines j cm)) (fun _ wr => s.size - atI Q wr)
  case atStart => exact ⟨q.i, false, rfl, HI0⟩
  case round =>
    obtain ⟨j, cm, rfl, HI⟩ := hrel
    have HAT := Lib.hid HI.out.p.atI
    obtain ⟨c0, c1, c2, c3, c4, c5, c6, c7, fz⟩ := HI.out.p.cells
    have c1 : wr.cell? ⟨Q, 1, none⟩ = some (.int .i64 (j : Int)) := c1
    have hle := HI.out.le
    by_cases hlt : j < s.size
    · go_wp2_with fail
      go_quiet (fail)
      go_wp2_with fail
      go_quiet (fail)
      generalize hwz : World.drewN (World.drewN wr _) _ = wz
      have HZ : Hid (NxIn Q T s q w wz lines j cm) := by rw [← hwz]; exact (HI.out.drewN _).drewN _
      clear hwz c0 c1 c2 c3 c4 c5 c6 c7 fz
      have HN := Lib.hid (nextF_cons lines cm s[j] (s.data.toList.drop (j + 1)))
      rw [← drop_at hlt] at HN
      have HEQ := Lib.hid HZ.out.eq
      obtain ⟨c0, c1, c2, c3, c4, c5, c6, c7, fz⟩ := HZ.out.p.cells
      have c1 : wz.cell? ⟨Q, 1, none⟩ = some (.int .i64 (j : Int)) := c1
      have HF := Lib.hid (fail_any Q T s { q with i := j } (j : Int) 9 wz HZ.out.p)
      rw [if_pos HE.out] at HF
      have HRD := Lib.hid (read_any Q T s { q with i := j } wz HZ.out.p HE.out hlt hs)
      have HC := Lib.hid (fun w => isControl_any s[j] w)
      cases hct : ctlB s[j] with
      | true =>
        rw [hct] at HC
        have HNO : Hid (nextF lines false (s.data.toList.drop q.i) = none) := by show _ = _; rw [HEQ.out, HN.out, if_pos hct]
        clear hct
        go_wp2_with (first | (go_at_call 45; refine (HC.out _).mono ?_; rintro e w' ⟨rfl, hww⟩; obtain rfl : wz = w' := hww.symm) | (go_at_call 46; refine HF.out.mono ?_; rintro e w2 ⟨rfl, hp, hk⟩; have H2 := Lib.hid (And.intro hp hk); clear hp hk))
        refine bodyPost_ret (results_none rfl _ _ _) rfl ?_
        exact ⟨rfl, _, H2.out.1, HZ.out.kept.trans H2.out.2, by rw [HNO.out]; exact ⟨rfl, by show j ≤ _; omega, by show (9 : Int) ≠ 0; decide, by show (0 : Int) ≤ j; omega, by show (j : Int) ≤ s.size; omega⟩⟩
      | false =>
        rw [hct] at HC
        have hm : s.size - (j + 1) < s.size - j := by omega
        have HM := Lib.hid hm
        clear hm HF
        have HAZ : Hid (∀ W, PsAt Q T s { q with i := j + 1 } W → s.size - atI Q W < s.size - atI Q wr) := fun W hW => by rw [HAT.out, hW.atI]; exact HM.out
        by_cases h10 : s[j].toNat = 10
        · have b10 : ((s[j].toNat : Int) == 10) = true := by rw [beq_iff_eq]; omega
          cases lines with
          | true =>
            have HST := Lib.hid (HZ.out.step (cm' := false) hlt (by rw [HN.out, if_neg (by rw [hct]; simp), if_pos h10, if_pos rfl]))
            clear hct h10 HRD
            go_wp2_with (go_at_call 45; refine (HC.out _).mono ?_; rintro e w' ⟨rfl, hww⟩; obtain rfl : wz = w' := hww.symm)
            go_roundw
            case rel => exact ⟨j + 1, false, rfl, HST⟩
            case measure => exact HAZ.out _ HST.out.p
          | false =>
            have HNO : Hid (nextF false false (s.data.toList.drop q.i) = some (.sign s[j], s.data.toList.drop (j + 1))) := by show _ = _; rw [HEQ.out, HN.out, if_neg (by rw [hct]; simp), if_pos h10, if_neg (by simp)]
            have H10 := Lib.hid h10
            clear hct h10 HRD
            go_wp2_with (go_at_call 45; refine (HC.out _).mono ?_; rintro e w' ⟨rfl, hww⟩; obtain rfl : wz = w' := hww.symm)
            refine bodyPost_ret (results_none rfl _ _ _) rfl ?_
            exact ⟨rfl, _, (HZ.out.p.setT 10 j ⟨#[]⟩).set1 (j + 1), (((HZ.out.kept.set Q 2 (by simp) _).set Q 3 (by simp) _).set Q 4 (by simp) _).set Q 1 (by simp) _, by rw [HNO.out]; exact ⟨rfl, by show j + 1 ≤ _; omega, HE.out, rfl, by show (10 : Int) = s[j].toNat; rw [H10.out]; rfl, rfl, ⟨by show (0 : Int) ≤ j; omega, by show (j : Int) ≤ s.size; omega⟩, rfl⟩⟩
        · have b10 : ((s[j].toNat : Int) == 10) = false := by rw [beq_eq_false_iff_ne]; omega
          have HN2 : Hid (nextF lines cm (s.data.toList.drop j) = if (cm || decide (s[j].toNat = 32) || decide (s[j].toNat = 9)) = true then nextF lines cm (s.data.toList.drop (j + 1)) else if s[j].toNat = 35 then nextF lines true (s.data.toList.drop (j + 1)) else readF s[j] (s.data.toList.drop (j + 1))) := by show _ = _; rw [HN.out, if_neg (by rw [hct]; simp), if_neg h10]
          clear HN hct h10
          by_cases hsk : (cm || decide (s[j].toNat = 32) || decide (s[j].toNat = 9)) = true
          · have HST := Lib.hid (HZ.out.step (cm' := cm) hlt (by rw [HN2.out, if_pos hsk]))
            cases cm with
            | true =>
              clear hsk HRD
              go_wp2_with (go_at_call 45; refine (HC.out _).mono ?_; rintro e w' ⟨rfl, hww⟩; obtain rfl : wz = w' := hww.symm)
              go_roundw
              case rel => exact ⟨j + 1, true, rfl, HST⟩
              case measure => exact HAZ.out _ HST.out.p
            | false =>
              by_cases h32 : s[j].toNat = 32
              · have b32 : ((s[j].toNat : Int) == 32) = true := by rw [beq_iff_eq]; omega
                clear hsk HRD h32
                go_wp2_with (go_at_call 45; refine (HC.out _).mono ?_; rintro e w' ⟨rfl, hww⟩; obtain rfl : wz = w' := hww.symm)
                go_roundw
                case rel => exact ⟨j + 1, false, rfl, HST⟩
                case measure => exact HAZ.out _ HST.out.p
              · have b32 : ((s[j].toNat : Int) == 32) = false := by rw [beq_eq_false_iff_ne]; omega
                have b9 : ((s[j].toNat : Int) == 9) = true := by
                  rw [decide_eq_false h32] at hsk
                  have : s[j].toNat = 9 := by simpa using hsk
                  rw [beq_iff_eq]; omega
                clear hsk HRD h32
                go_wp2_with (go_at_call 45; refine (HC.out _).mono ?_; rintro e w' ⟨rfl, hww⟩; obtain rfl : wz = w' := hww.symm)
                go_roundw
                case rel => exact ⟨j + 1, false, rfl, HST⟩
                case measure => exact HAZ.out _ HST.out.p
          · obtain rfl : cm = false := by cases cm with
              | true => simp at hsk
              | false => rfl
            have h32 : s[j].toNat ≠ 32 := fun e => hsk (by rw [e]; rfl)
            have h9 : s[j].toNat ≠ 9 := fun e => hsk (by rw [e]; rfl)
            have b32 : ((s[j].toNat : Int) == 32) = false := by rw [beq_eq_false_iff_ne]; omega
            have b9 : ((s[j].toNat : Int) == 9) = false := by rw [beq_eq_false_iff_ne]; omega
            have HN3 : Hid (nextF lines false (s.data.toList.drop j) = if s[j].toNat = 35 then nextF lines true (s.data.toList.drop (j + 1)) else readF s[j] (s.data.toList.drop (j + 1))) := by show _ = _; rw [HN2.out, if_neg hsk]
            clear hsk h32 h9 HN2
            by_cases h35 : s[j].toNat = 35
            · have b35 : ((s[j].toNat : Int) == 35) = true := by rw [beq_iff_eq]; omega
              have HST := Lib.hid (HZ.out.step (cm' := true) hlt (by rw [HN3.out, if_pos h35]))
              clear h35 HRD
              go_wp2_with (go_at_call 45; refine (HC.out _).mono ?_; rintro e w' ⟨rfl, hww⟩; obtain rfl : wz = w' := hww.symm)
              go_roundw
              case rel => exact ⟨j + 1, true, rfl, HST⟩
              case measure => exact HAZ.out _ HST.out.p
            · have b35 : ((s[j].toNat : Int) == 35) = false := by rw [beq_eq_false_iff_ne]; omega
              have HNO : Hid (nextF lines false (s.data.toList.drop q.i) = readF s[j] (s.data.toList.drop (j + 1))) := by show _ = _; rw [HEQ.out, HN3.out, if_neg h35]
              clear h35
              go_wp2_with (first | (go_at_call 45; refine (HC.out _).mono ?_; rintro e w' ⟨rfl, hww⟩; obtain rfl : wz = w' := hww.symm) | (go_at_call 47; refine HRD.out.mono ?_; rintro e w2 ⟨rfl, q', hp, hk, hsc⟩; have H2 := Lib.hid (And.intro hp (And.intro hk hsc)); clear hp hk hsc))
              refine bodyPost_ret (results_none rfl _ _ _) rfl ?_
              exact ⟨rfl, q', H2.out.1, HZ.out.kept.trans H2.out.2.1, by rw [HNO.out]; exact H2.out.2.2.at⟩
    · obtain rfl : j = s.size := by omega
      go_wp2_with fail
      go_quiet (fail)
      generalize hwz : World.drewN wr _ = wz
      have HZ : Hid (NxIn Q T s q w wz lines s.size cm) := by rw [← hwz]; exact HI.out.drewN _
      clear hwz c0 c1 c2 c3 c4 c5 c6 c7 fz
      obtain ⟨c0, c1, c2, c3, c4, c5, c6, c7, fz⟩ := HZ.out.p.cells
      go_wp2_with fail
      go_end0
      exact ⟨rfl, _, HZ.out.p.setT 0 s.size ⟨#[]⟩, ((HZ.out.kept.set Q 2 (by simp) _).set Q 3 (by simp) _).set Q 4 (by simp) _, by rw [HZ.out.eq, drop_end (Nat.le_refl _)]; exact ⟨rfl, Nat.le_refl _, HE.out, rfl, rfl, rfl, ⟨by show (0 : Int) ≤ s.size; omega, by show (s.size : Int) ≤ s.size; omega⟩, drop_end (Nat.le_refl _)⟩⟩
end Go.Proofs.YtejnoedlfbglcaaGreatDoor
