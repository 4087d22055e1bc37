/- sort.symMerge_func, whole, over a state that 'less' and 'swap' carry on: a merge that keeps the order of equals. Conditions: indices within a length below 2^62; 'less' is a strict weak order. -/
import Derived.Test.YtgalcdolhnckmaaGreatDoorSrY
namespace Mh
open Go.Sort
/-- Where the search begins and ends. -/
def SymEnds (a m b mid st r : Nat) : Prop := (mid < m ∧ st = mid + m - b ∧ r = mid) ∨ (m ≤ mid ∧ st = a ∧ r = m)
theorem cut_of {β : Type} [Inhabited β] {lt : β → β → Bool} {a m b mid st0 r0 st : Nat} {d : Array β} (hmid : mid = (a + b) / 2) (he : SymEnds a m b mid st0 r0) (h1 : st0 ≤ st) (h2 : st ≤ r0) (g1 : st = st0 ∨ lt d[mid + m - st]! d[st - 1]! = false) (g2 : st = r0 ∨ lt d[mid + m - 1 - st]! d[st]! = true) : Cut lt a m b st d := by
  refine ⟨mid, hmid, ?_⟩
  rcases he with ⟨c, rfl, rfl⟩ | ⟨c, rfl, rfl⟩
  · exact .inl ⟨c, h1, h2, g1, g2⟩
  · exact .inr ⟨c, h1, h2, g1, g2⟩
end Mh
namespace Go.Proofs.YtgalcdolhnckmaaGreatDoor
open Go.RowKit Mh
open Go.Sort (swp SWO)
set_option linter.unusedVariables false
section
variable {β : Type} [Inhabited β] {g : Nat} {lb : Array Value} {sf : Nat} {sb : Array Value} {blk n : Nat} {lt : β → β → Bool} {tag : β → Nat} {St : World → Array β → Prop}
set_option maxRecDepth 100000 in
set_option maxHeartbeats 4000000 in
theorem sym_mid (S : Srt Tryz.prog g lb sf sb blk n lt St) (hO : SWO lt) (hn : n < 4611686018427387904) (a m b : Nat) (ham : a + 1 < m) (hmb : m + 1 < b) (hb : b ≤ n)
    (hih : ∀ a' m' b', a' < m' → m' < b' → b' ≤ n → b' - a' < b - a → SymOk Tryz.prog 61 g lb sf sb blk n lt tag St a' m' b') : SymOk Tryz.prog 61 g lb sf sb blk n lt tag St a m b := by
  intro w d h
  obtain ⟨hsd, hblk⟩ := S.sz w d h
  have HSD := Lib.hid hsd
  have HIH := Lib.hid hih
  have HBX : Hid ((w.alloc (.cells #[.func (.func g) #[] lb, .func (.func sf) #[] sb] 79)).heap[w.heap.size]? = some (.cells #[.func (.func g) #[] lb, .func (.func sf) #[] sb] 79 (0, 0))) := heap_alloc_new _ _
  have HS0 : Hid (St (w.alloc (.cells #[.func (.func g) #[] lb, .func (.func sf) #[] sb] 79)) d) := S.al h _
  have HA0 : Hid (Alg blk w (w.alloc (.cells #[.func (.func g) #[] lb, .func (.func sf) #[] sb] 79))) := (Alg.refl _ _).alloc _
  have HSZ := Lib.hid (fun w' (d' : Array β) (h3 : St w' d') => (S.sz w' d' h3).1)
  have HROT := Lib.hid (fun (a m b : Nat) (h1 : a < m) (h2 : m < b) (h3 : b ≤ n) w' (d' : Array β) (h4 : St w' d') => rotate_any S hn a m b h1 h2 h3 w' d' h4)
  have eg := S.eg
  obtain ⟨mid, hmid⟩ : ∃ mid, mid = (a + b) / 2 := ⟨_, rfl⟩
  have hmid1 : a < mid := by omega
  have hmid2 : mid < b := by omega
  have HMI : Hid (((a : Int) + (b : Int)) / 2 = (mid : Int)) := by show _ = _; omega
  have HMID := Lib.hid hmid
  have hq : ((m : Int) - (a : Int) == 1) = false := by rw [beq_eq_false_iff_ne]; omega
  have hq2 : ((b : Int) - (m : Int) == 1) = false := by rw [beq_eq_false_iff_ne]; omega
  clear h hsd hih hmid
  go_enter Tryz.func61, Tryz.ntmps61
  go_upto_region 26 with fail
  simp only [HMI.out]
  go_upto_if 106 with fail
  generalize hw1 : World.alloc w _ = w1 at HBX HS0 HA0 ⊢
  clear hw1
  have HZ1 : Hid (w.heap.size < w1.heap.size) := (Array.getElem?_eq_some_iff.1 HBX.out).1
  go_cut [18, 19] from 104 to 113 (fun s18 s19 wx => wx = w1 ∧ ∃ st r : Nat, s18 = .int .i64 (st : Nat) ∧ s19 = .int .i64 (r : Nat) ∧ Hid (SymEnds a m b mid st r))
  case first =>
    by_cases c : mid < m
    · have hd : decide ((mid : Int) < (m : Int)) = true := decide_eq_true (by omega)
      have HE : Hid (SymEnds a m b mid (mid + m - b) mid) := .inl ⟨c, rfl, rfl⟩
      have hv : (((mid + m - b : Nat)) : Int) = (mid : Int) + (m : Int) - (b : Int) := by have := HMID.out; omega
      go_wp2_with fail
      go_meet
      exact ⟨rfl, mid + m - b, mid, by rw [hv], rfl, HE⟩
    · have hd : decide ((mid : Int) < (m : Int)) = false := decide_eq_false (by omega)
      have HE : Hid (SymEnds a m b mid a m) := .inr ⟨by omega, rfl, rfl⟩
      go_wp2_with fail
      go_meet
      exact ⟨rfl, a, m, rfl, rfl, HE⟩
  case rest =>
  obtain ⟨rfl, st0, r0, rfl, rfl, HE⟩ := hcut
  have hE1 : a ≤ st0 ∧ st0 ≤ r0 ∧ r0 ≤ m ∧ r0 ≤ mid ∧ mid + m ≤ b + st0 := by
    have := HMID.out
    rcases HE.out with ⟨c, h1, h2⟩ | ⟨c, h1, h2⟩ <;> omega
  obtain ⟨e1, e2, e3, e4, e5⟩ := hE1
  have hmid3 : mid + m < 9223372036854775807 := by omega
  go_wp2_with fail
  go_loopw [18, 19] (fun vi vj wr => ∃ (i j : Nat), st0 ≤ i ∧ i ≤ j ∧ j ≤ r0 ∧ vi = .int .i64 (i : Nat) ∧ vj = .int .i64 (j : Nat) ∧ Hid (St wr d) ∧ Hid (i = st0 ∨ lt d[mid + m - i]! d[i - 1]! = false) ∧ Hid (j = r0 ∨ lt d[mid + m - 1 - j]! d[j]! = true) ∧ Hid (Alg blk wc wr)) (fun vi vj _ => (intOf vj).toNat - (intOf vi).toNat)
  case atStart => exact ⟨st0, r0, Nat.le_refl _, e2, Nat.le_refl _, rfl, rfl, HS0, .inl rfl, .inl rfl, Alg.refl _ _⟩
  case round =>
    obtain ⟨i, j, hai, hij, hjb, rfl, rfl, HS, HI, HJ, HA⟩ := hrel
    clear HS0
    obtain ⟨wo, rfl⟩ : ∃ wo : World, wo = wr := ⟨_, rfl⟩
    have hB := (HA.out.block w.heap.size HZ1.out (by omega)).trans HBX.out
    by_cases hlt : i < j
    · have c0 := cellT hB (i := 0) rfl
      have hd : decide ((i : Int) < (j : Int)) = true := decide_eq_true (by omega)
      have HC := Lib.hid (S.less wo d HS.out (mid + m - 1 - (i + j) / 2) ((i + j) / 2) (by omega) (by omega))
      rw [show (((mid + m - 1 - (i + j) / 2 : Nat)) : Int) = (mid : Int) + (m : Int) - 1 - ((i : Int) + (j : Int)) / 2 by omega, show ((((i + j) / 2 : Nat)) : Int) = ((i : Int) + (j : Int)) / 2 by omega] at HC
      go_wp2_with fail
      refine HC.out.mono ?_
      rintro e w2 ⟨rfl, hb2⟩
      have HS2 := Lib.hid (S.grow _ _ _ HS.out hb2)
      have HA2 := Lib.hid (HA.out.trans (Alg.of_below (blk := blk) hb2))
      clear hb2 hB c0 HC
      cases hlv : lt d[mid + m - 1 - (i + j) / 2]! d[(i + j) / 2]! with
      | false =>
        have HI2 : Hid ((i + j) / 2 + 1 = st0 ∨ lt d[mid + m - ((i + j) / 2 + 1)]! d[(i + j) / 2 + 1 - 1]! = false) := .inr (by rw [show mid + m - ((i + j) / 2 + 1) = mid + m - 1 - (i + j) / 2 by omega]; exact hlv)
        clear hlv
        go_wp2_with fail
        go_roundw
        case rel => exact ⟨(i + j) / 2 + 1, j, by omega, by omega, by omega, by congr 1, rfl, HS2, HI2, HJ, HA2⟩
        case measure => simp only [intOf]; omega
      | true =>
        have HJ2 : Hid ((i + j) / 2 = r0 ∨ lt d[mid + m - 1 - (i + j) / 2]! d[(i + j) / 2]! = true) := .inr hlv
        clear hlv
        go_wp2_with fail
        go_roundw
        case rel => exact ⟨i, (i + j) / 2, by omega, by omega, by omega, rfl, by congr 1, HS2, HI, HJ2, HA2⟩
        case measure => simp only [intOf]; omega
    · obtain rfl : i = j := by omega
      have HCUT : Hid (Cut lt a m b i d) := cut_of HMID.out HE.out hai hjb HI.out HJ.out
      clear hB HI HJ hlt
      have hend : ((mid + m - i : Nat) : Int) = (mid : Int) + (m : Int) - (i : Int) := by omega
      have hi1 : a ≤ i ∧ i ≤ m ∧ i ≤ mid ∧ m ≤ mid + m - i ∧ mid + m - i ≤ b := by omega
      obtain ⟨i1, i2, i3, i4, i5⟩ := hi1
      have HW := Lib.hid (HA0.out.trans HA.out)
      have HWZ : Hid (w.heap.size < wo.heap.size) := Nat.lt_of_lt_of_le HZ1.out HA.out.size
      have HBO : Hid (wo.heap[w.heap.size]? = some (.cells #[.func (.func g) #[] lb, .func (.func sf) #[] sb] 79 (0, 0))) := (HA.out.block w.heap.size HZ1.out (by omega)).trans HBX.out
      clear HA HZ1 HBX HA0
      go_upto_region 40 with fail
      go_cut [145] from 138 to 145 (fun s wx => wx = wo ∧ ∃ r : Bool, s = .bool r ∧ Hid (r = true ↔ i < m ∧ m < mid + m - i))
      case first =>
        by_cases c1 : i < m
        · have q1 : decide ((i : Int) < (m : Int)) = true := decide_eq_true (by omega)
          have q1n : decide (i < m) = true := decide_eq_true c1
          have HQ : Hid (decide ((m : Int) < (mid : Int) + (m : Int) - (i : Int)) = true ↔ i < m ∧ m < mid + m - i) := ⟨fun h => ⟨c1, by have := of_decide_eq_true h; omega⟩, fun h => decide_eq_true (by omega)⟩
          clear c1
          go_wp2_with fail
          go_meet
          exact ⟨rfl, _, rfl, HQ⟩
        · have q1 : decide ((i : Int) < (m : Int)) = false := decide_eq_false (by omega)
          have q1n : decide (i < m) = false := decide_eq_false c1
          have HQ : Hid (¬ (i < m ∧ m < mid + m - i)) := fun h => c1 h.1
          clear c1
          go_wp2_with fail
          go_meet
          exact ⟨rfl, false, rfl, ⟨fun h => (by cases h), fun h => absurd h HQ.out⟩⟩
      case rest =>
      obtain ⟨rfl, r, rfl, HRB⟩ := hcut
      go_upto_if 145 with fail
      go_cut [] from 146 to 151 (fun wx => ∃ d1 : Array β, Hid (St wx d1) ∧ Hid (Rot i m (mid + m - i) d d1) ∧ Hid (Alg blk wc wx))
      case first =>
        cases r with
        | true =>
          obtain ⟨c1, c2⟩ := HRB.out.1 rfl
          have b0 := cellT HBO.out (i := 0) rfl
          have b1 := cellT HBO.out (i := 1) rfl
          have HC := Lib.hid (HROT.out i m (mid + m - i) c1 c2 (by omega) wc d HS.out)
          rw [hend] at HC
          clear c1 c2
          go_wp2_with fail
          refine HC.out.mono ?_
          rintro e w2 ⟨rfl, d1, hs1, hr1, ha1⟩
          have HS1 := Lib.hid hs1
          have HR1 := Lib.hid hr1
          have HA1 := Lib.hid ha1
          clear hs1 hr1 ha1
          go_wp2_with fail
          go_meet
          exact ⟨d1, HS1, HR1, HA1⟩
        | false =>
          have hne : ¬ (i < m ∧ m < mid + m - i) := fun h => by have := HRB.out.2 h; cases this
          have HR1 := Lib.hid (Rot.triv (s := i) (m := m) (e := mid + m - i) (by omega) i2 i4 d)
          clear hne
          go_wp2_with fail
          go_meet
          exact ⟨d, HS, HR1, Alg.refl _ _⟩
      case rest =>
      obtain ⟨d1, HS1, HR1, HA1⟩ := hcut
      clear HS HROT HRB
      have HB1 : Hid (wc.heap[w.heap.size]? = some (.cells #[.func (.func g) #[] lb, .func (.func sf) #[] sb] 79 (0, 0))) := (HA1.out.block w.heap.size HWZ.out (by omega)).trans HBO.out
      have HZ2 : Hid (w.heap.size < wc.heap.size) := Nat.lt_of_lt_of_le HWZ.out HA1.out.size
      obtain ⟨wp, rfl⟩ : ∃ wp : World, wp = wc := ⟨_, rfl⟩
      go_upto_region 42 with fail
      go_cut [158] from 151 to 158 (fun s wx => wx = wp ∧ ∃ r : Bool, s = .bool r ∧ Hid (r = true ↔ a < i ∧ i < mid))
      case first =>
        by_cases c1 : a < i
        · have q1 : decide ((a : Int) < (i : Int)) = true := decide_eq_true (by omega)
          have q1n : decide (a < i) = true := decide_eq_true c1
          have HQ : Hid (decide (i < mid) = true ↔ a < i ∧ i < mid) := ⟨fun h => ⟨c1, by have := of_decide_eq_true h; omega⟩, fun h => decide_eq_true (by omega)⟩
          clear c1
          go_wp2_with fail
          go_meet
          exact ⟨rfl, _, rfl, HQ⟩
        · have q1 : decide ((a : Int) < (i : Int)) = false := decide_eq_false (by omega)
          have q1n : decide (a < i) = false := decide_eq_false c1
          have HQ : Hid (¬ (a < i ∧ i < mid)) := fun h => c1 h.1
          clear c1
          go_wp2_with fail
          go_meet
          exact ⟨rfl, false, rfl, ⟨fun h => (by cases h), fun h => absurd h HQ.out⟩⟩
      case rest =>
      obtain ⟨rfl, r, rfl, HRB⟩ := hcut
      go_upto_if 158 with fail
      go_cut [] from 159 to 164 (fun wx => ∃ d2 : Array β, Hid (St wx d2) ∧ Hid ((a < i ∧ i < mid ∧ (Pre lt tag a i mid d1 → Mrg lt tag a mid d1 d2)) ∨ (¬ (a < i ∧ i < mid) ∧ d2 = d1)) ∧ Hid (Alg blk wc wx))
      case first =>
        cases r with
        | true =>
          obtain ⟨c1, c2⟩ := HRB.out.1 rfl
          have b0 := cellT HB1.out (i := 0) rfl
          have b1 := cellT HB1.out (i := 1) rfl
          have HC := Lib.hid (HIH.out a i mid c1 c2 (by omega) (by omega) wc d1 HS1.out)
          have HCC := Lib.hid (And.intro c1 c2)
          clear c1 c2
          go_wp2_with fail
          refine HC.out.mono ?_
          rintro e w2 ⟨rfl, d2, hs2, hr2, ha2⟩
          have HS2 := Lib.hid hs2
          have HR2 : Hid ((a < i ∧ i < mid ∧ (Pre lt tag a i mid d1 → Mrg lt tag a mid d1 d2)) ∨ (¬ (a < i ∧ i < mid) ∧ d2 = d1)) := .inl ⟨HCC.out.1, HCC.out.2, hr2.2⟩
          have HA2 := Lib.hid ha2
          clear hs2 hr2 ha2
          go_wp2_with fail
          go_meet
          exact ⟨d2, HS2, HR2, HA2⟩
        | false =>
          have HN : Hid (¬ (a < i ∧ i < mid)) := fun h => (by have := HRB.out.2 h; cases this)
          go_wp2_with fail
          go_meet
          exact ⟨d1, HS1, .inr ⟨HN.out, rfl⟩, Alg.refl _ _⟩
      case rest =>
      obtain ⟨d2, HS2, HR2, HA2⟩ := hcut
      have HB2 : Hid (wc.heap[w.heap.size]? = some (.cells #[.func (.func g) #[] lb, .func (.func sf) #[] sb] 79 (0, 0))) := (HA2.out.block w.heap.size HZ2.out (by omega)).trans HB1.out
      have HALL := Lib.hid (HW.out.trans (HA1.out.trans HA2.out))
      clear HS1 HRB HA1 HA2 HB1 HZ2 HW HWZ HBO
      obtain ⟨wq, rfl⟩ : ∃ wq : World, wq = wc := ⟨_, rfl⟩
      have HFIN : Hid (∀ d3 : Array β, ((mid < mid + m - i ∧ mid + m - i < b ∧ (Pre lt tag mid (mid + m - i) b d2 → Mrg lt tag mid b d2 d3)) ∨ (¬ (mid < mid + m - i ∧ mid + m - i < b) ∧ d3 = d2)) → Pre lt tag a m b d → Mrg lt tag a b d d3) := fun d3 h3 hP => sym_step hO hP (by omega) (by omega) (by have := HSD.out; omega) HMID.out HCUT.out HR1.out HR2.out h3
      go_upto_region 44 with fail
      go_cut [171] from 164 to 171 (fun s wx => wx = wq ∧ ∃ r : Bool, s = .bool r ∧ Hid (r = true ↔ mid < mid + m - i ∧ mid + m - i < b))
      case first =>
        by_cases c1 : mid < mid + m - i
        · have q1 : decide ((mid : Int) < (mid : Int) + (m : Int) - (i : Int)) = true := decide_eq_true (by omega)
          have HQ : Hid (decide ((mid : Int) + (m : Int) - (i : Int) < (b : Int)) = true ↔ mid < mid + m - i ∧ mid + m - i < b) := ⟨fun h => ⟨c1, by have := of_decide_eq_true h; omega⟩, fun h => decide_eq_true (by omega)⟩
          clear c1
          go_wp2_with fail
          go_meet
          exact ⟨rfl, _, rfl, HQ⟩
        · have q1 : decide ((mid : Int) < (mid : Int) + (m : Int) - (i : Int)) = false := decide_eq_false (by omega)
          have HQ : Hid (¬ (mid < mid + m - i ∧ mid + m - i < b)) := fun h => c1 h.1
          clear c1
          go_wp2_with fail
          go_meet
          exact ⟨rfl, false, rfl, ⟨fun h => (by cases h), fun h => absurd h HQ.out⟩⟩
      case rest =>
      obtain ⟨rfl, r, rfl, HRB⟩ := hcut
      cases r with
      | true =>
        obtain ⟨c1, c2⟩ := HRB.out.1 rfl
        have b0 := cellT HB2.out (i := 0) rfl
        have b1 := cellT HB2.out (i := 1) rfl
        have HC := Lib.hid (HIH.out mid (mid + m - i) b c1 c2 (by omega) (by omega) wc d2 HS2.out)
        rw [hend] at HC
        have HCC := Lib.hid (And.intro c1 c2)
        clear c1 c2
        go_wp2_with fail
        refine HC.out.mono ?_
        rintro e w2 ⟨rfl, d3, hs3, hr3, ha3⟩
        have HS3 := Lib.hid hs3
        have HF := Lib.hid (And.intro hr3.1 (HFIN.out d3 (.inl ⟨HCC.out.1, HCC.out.2, hr3.2⟩)))
        have HA3 := Lib.hid ha3
        clear hs3 hr3 ha3
        go_wp2_with fail
        go_end0
        exact ⟨rfl, d3, HS3.out, HF.out, HALL.out.trans HA3.out⟩
      | false =>
        have HF := Lib.hid (And.intro (HSZ.out _ _ HS2.out) (HFIN.out d2 (.inr ⟨fun h => (by have := HRB.out.2 h; cases this), rfl⟩)))
        go_wp2_with fail
        go_end0
        exact ⟨rfl, d2, HS2.out, HF.out, HALL.out⟩
/-- sort.symMerge_func: two runs made one; equals keep their order. -/
theorem sym_any (S : Srt Tryz.prog g lb sf sb blk n lt St) (hO : SWO lt) (hn : n < 4611686018427387904) : ∀ (F a m b : Nat), b - a < F → a < m → m < b → b ≤ n → SymOk Tryz.prog 61 g lb sf sb blk n lt tag St a m b := by
  intro F
  induction F with
  | zero => intro a m b h; omega
  | succ F ih =>
    intro a m b hF ham hmb hb
    by_cases c1 : m = a + 1
    · subst c1; exact sym_left S hO hn a b hmb hb
    by_cases c2 : b = m + 1
    · subst c2; exact sym_right S hO hn a m (by omega) hb
    exact sym_mid S hO hn a m b (by omega) (by omega) hb fun a' m' b' h1 h2 h3 h4 => ih a' m' b' (by omega) h1 h2 h3
end
end Go.Proofs.YtgalcdolhnckmaaGreatDoor
