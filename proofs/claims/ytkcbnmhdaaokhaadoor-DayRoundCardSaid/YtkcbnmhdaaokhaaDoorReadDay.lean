/- conf.ReadDay reads what DayString writes. Conditions: right days. -/
import Derived.Test.YtkcbnmhdaaokhaaDoorDays
import Derived.RegionTactic
import Derived.ChangeAlike
import Derived.BigRegion
import Derived.Outline
namespace Go.Proofs.YtkcbnmhdaaokhaaDoor
open Go.RowKit Mh Mh.Cal
set_option linter.unusedVariables false

theorem cdigit_yes (n : Int) (w : World) (h0 : 48 ≤ n) (h1 : n ≤ 57) : Calls Tryd.prog 48 #[.int .u8 n] w fun e w' => e = .returned (.bool true) ∧ w = w' := by
  have q1 : decide (48 ≤ n) = true := decide_eq_true h0
  have q2 : decide (n ≤ 57) = true := decide_eq_true h1
  go_enter Tryd.func48, Tryd.ntmps48
  go_wp2_with fail
  go_ret
  exact ⟨rfl, rfl⟩

theorem dayB_size (y m d : Nat) : (dayB y m d).size = 10 := by
  show (dayL y m d).toArray.size = 10
  simp [dayL_length]
theorem dayB_get (y m d i : Nat) (h : i < (dayB y m d).size) : (dayB y m d)[i] = (dayL y m d)[i]'(by rw [dayL_length]; rw [dayB_size] at h; exact h) := rfl

/-- What ReadDay is about to read: ten bytes, eight of them digits. -/
structure TenB (s : ByteArray) (y m d : Nat) : Prop where
  size : s.size = 10
  b4 : ∀ h : 4 < s.size, s[4].toNat = 45
  b7 : ∀ h : 7 < s.size, s[7].toNat = 45
  y0 : ∀ h : 0 < s.size, s[0].toNat = 48 + y / 1000 % 10
  y1 : ∀ h : 1 < s.size, s[1].toNat = 48 + y / 100 % 10
  y2 : ∀ h : 2 < s.size, s[2].toNat = 48 + y / 10 % 10
  y3 : ∀ h : 3 < s.size, s[3].toNat = 48 + y % 10
  m0 : ∀ h : 5 < s.size, s[5].toNat = 48 + m / 10 % 10
  m1 : ∀ h : 6 < s.size, s[6].toNat = 48 + m % 10
  d0 : ∀ h : 8 < s.size, s[8].toNat = 48 + d / 10 % 10
  d1 : ∀ h : 9 < s.size, s[9].toNat = 48 + d % 10
theorem dayB_ten (y m d : Nat) : TenB (dayB y m d) y m d := by
  have g : ∀ i (h : i < (dayB y m d).size), (dayB y m d)[i].toNat = ((dayL y m d)[i]'(by rw [dayL_length]; rw [dayB_size] at h; exact h)).toNat := fun i h => rfl
  have g2 : ∀ i (h : i < (dayB y m d).size) c, (dayL y m d)[i]? = some c → (dayB y m d)[i].toNat = c.toNat := by
    intro i h c hc
    rw [g i h]
    rw [List.getElem?_eq_getElem (by rw [dayL_length]; rw [dayB_size] at h; exact h)] at hc
    rw [Option.some.inj hc]
  have e := dayL_eq y m d
  have n10 := fun k : Nat => Nat.mod_lt k (show 0 < 10 by omega)
  refine ⟨dayB_size _ _ _, ?_, ?_, ?_, ?_, ?_, ?_, ?_, ?_, ?_, ?_⟩
  · intro h; rw [g2 4 h 45 (by rw [e]; rfl)]; rfl
  · intro h; rw [g2 7 h 45 (by rw [e]; rfl)]; rfl
  · intro h; rw [g2 0 h _ (by rw [e]; rfl)]; exact ofNat_toNat _ (n10 _)
  · intro h; rw [g2 1 h _ (by rw [e]; rfl)]; exact ofNat_toNat _ (n10 _)
  · intro h; rw [g2 2 h _ (by rw [e]; rfl)]; exact ofNat_toNat _ (n10 _)
  · intro h; rw [g2 3 h _ (by rw [e]; rfl)]; exact ofNat_toNat _ (n10 _)
  · intro h; rw [g2 5 h _ (by rw [e]; rfl)]; exact ofNat_toNat _ (n10 _)
  · intro h; rw [g2 6 h _ (by rw [e]; rfl)]; exact ofNat_toNat _ (n10 _)
  · intro h; rw [g2 8 h _ (by rw [e]; rfl)]; exact ofNat_toNat _ (n10 _)
  · intro h; rw [g2 9 h _ (by rw [e]; rfl)]; exact ofNat_toNat _ (n10 _)

/-- The three numbers that have been read when i bytes are behind, and which of them is being read. -/
def St (y m d : Nat) : Nat → Nat → Nat → Nat → Nat → Prop
  | 0, k, a, b, c => k = 0 ∧ a = 0 ∧ b = 0 ∧ c = 0
  | 1, k, a, b, c => k = 0 ∧ a = y / 1000 ∧ b = 0 ∧ c = 0
  | 2, k, a, b, c => k = 0 ∧ a = y / 100 ∧ b = 0 ∧ c = 0
  | 3, k, a, b, c => k = 0 ∧ a = y / 10 ∧ b = 0 ∧ c = 0
  | 4, k, a, b, c => k = 0 ∧ a = y ∧ b = 0 ∧ c = 0
  | 5, k, a, b, c => k = 1 ∧ a = y ∧ b = 0 ∧ c = 0
  | 6, k, a, b, c => k = 1 ∧ a = y ∧ b = m / 10 ∧ c = 0
  | 7, k, a, b, c => k = 1 ∧ a = y ∧ b = m ∧ c = 0
  | 8, k, a, b, c => k = 2 ∧ a = y ∧ b = m ∧ c = 0
  | 9, k, a, b, c => k = 2 ∧ a = y ∧ b = m ∧ c = d / 10
  | 10, k, a, b, c => k = 2 ∧ a = y ∧ b = m ∧ c = d
  | _, _, _, _, _ => False
theorem st_step {s : ByteArray} {y m d : Nat} (hT : TenB s y m d) (hy : y ≤ 9999) (hm : m ≤ 99) (hd : d ≤ 99) (i k a b c : Nat) (hi : i < 10) (h : i < s.size) (hs : St y m d i k a b c) :
    ((i = 4 ∨ i = 7) ∧ k ≤ 1 ∧ St y m d (i + 1) (k + 1) a b c) ∨
    ((i ≠ 4 ∧ i ≠ 7) ∧ 48 ≤ s[i].toNat ∧ s[i].toNat ≤ 57 ∧ a ≤ 9999 ∧ b ≤ 9999 ∧ c ≤ 9999 ∧
      ((k = 0 ∧ St y m d (i + 1) 0 (10 * a + (s[i].toNat - 48)) b c) ∨ (k = 1 ∧ St y m d (i + 1) 1 a (10 * b + (s[i].toNat - 48)) c) ∨ (k = 2 ∧ St y m d (i + 1) 2 a b (10 * c + (s[i].toNat - 48))))) := by
  match i, hi with
  | 0, _ => have e := hT.y0 h; obtain ⟨h1, h2, h3, h4⟩ := hs; exact .inr ⟨⟨by omega, by omega⟩, by omega, by omega, by omega, by omega, by omega, .inl ⟨h1, ⟨rfl, by omega, by omega, by omega⟩⟩⟩
  | 1, _ => have e := hT.y1 h; obtain ⟨h1, h2, h3, h4⟩ := hs; exact .inr ⟨⟨by omega, by omega⟩, by omega, by omega, by omega, by omega, by omega, .inl ⟨h1, ⟨rfl, by omega, by omega, by omega⟩⟩⟩
  | 2, _ => have e := hT.y2 h; obtain ⟨h1, h2, h3, h4⟩ := hs; exact .inr ⟨⟨by omega, by omega⟩, by omega, by omega, by omega, by omega, by omega, .inl ⟨h1, ⟨rfl, by omega, by omega, by omega⟩⟩⟩
  | 3, _ => have e := hT.y3 h; obtain ⟨h1, h2, h3, h4⟩ := hs; exact .inr ⟨⟨by omega, by omega⟩, by omega, by omega, by omega, by omega, by omega, .inl ⟨h1, ⟨rfl, by omega, by omega, by omega⟩⟩⟩
  | 4, _ => obtain ⟨h1, h2, h3, h4⟩ := hs; exact .inl ⟨by omega, by omega, ⟨by omega, h2, h3, h4⟩⟩
  | 5, _ => have e := hT.m0 h; obtain ⟨h1, h2, h3, h4⟩ := hs; exact .inr ⟨⟨by omega, by omega⟩, by omega, by omega, by omega, by omega, by omega, .inr (.inl ⟨h1, ⟨rfl, by omega, by omega, by omega⟩⟩)⟩
  | 6, _ => have e := hT.m1 h; obtain ⟨h1, h2, h3, h4⟩ := hs; exact .inr ⟨⟨by omega, by omega⟩, by omega, by omega, by omega, by omega, by omega, .inr (.inl ⟨h1, ⟨rfl, by omega, by omega, by omega⟩⟩)⟩
  | 7, _ => obtain ⟨h1, h2, h3, h4⟩ := hs; exact .inl ⟨by omega, by omega, ⟨by omega, h2, h3, h4⟩⟩
  | 8, _ => have e := hT.d0 h; obtain ⟨h1, h2, h3, h4⟩ := hs; exact .inr ⟨⟨by omega, by omega⟩, by omega, by omega, by omega, by omega, by omega, .inr (.inr ⟨h1, ⟨rfl, by omega, by omega, by omega⟩⟩)⟩
  | 9, _ => have e := hT.d1 h; obtain ⟨h1, h2, h3, h4⟩ := hs; exact .inr ⟨⟨by omega, by omega⟩, by omega, by omega, by omega, by omega, by omega, .inr (.inr ⟨h1, ⟨rfl, by omega, by omega, by omega⟩⟩)⟩

abbrev tri (a b c : Nat) : Obj := .cells #[.int .i64 (a : Int), .int .i64 (b : Int), .int .i64 (c : Int)] 102 (0, 0)
theorem tri0 {wr : World} {g a b c a' : Nat} {v : Int} (h : wr.heap[g]? = some (tri a b c)) (hv : v = (a' : Int)) : ((wr.setCell ⟨g, 0, none⟩ (.int .i64 v)).drew).heap[g]? = some (tri a' b c) := by
  subst hv; exact heap_setCell_same _ _ 0 _ _ _ h
theorem tri1 {wr : World} {g a b c b' : Nat} {v : Int} (h : wr.heap[g]? = some (tri a b c)) (hv : v = (b' : Int)) : ((wr.setCell ⟨g, 1, none⟩ (.int .i64 v)).drew).heap[g]? = some (tri a b' c) := by
  subst hv; exact heap_setCell_same _ _ 1 _ _ _ h
theorem tri2 {wr : World} {g a b c c' : Nat} {v : Int} (h : wr.heap[g]? = some (tri a b c)) (hv : v = (c' : Int)) : ((wr.setCell ⟨g, 2, none⟩ (.int .i64 v)).drew).heap[g]? = some (tri a b c') := by
  subst hv; exact heap_setCell_same _ _ 2 _ _ _ h
theorem cast_step (a n : Nat) (h : 48 ≤ n) : 10 * (a : Int) + ((n : Int) - 48) = ((10 * a + (n - 48) : Nat) : Int) := by omega

set_option maxRecDepth 100000 in
set_option maxHeartbeats 4000000 in
theorem readDay_ok (n : Int) (y m d : Nat) (w : World) (hY : Ymd n y m d) :
    Calls Tryd.prog 20 #[.string (dayB y m d)] w fun e w' => e = .returned (.tuple #[.int .i64 n, .int .i64 0]) ∧ Below w.heap.size w w' := by
  have hy9 : y ≤ 9999 := by have := hY.y1; omega
  have hm9 : m ≤ 99 := by have := hY.m1; omega
  have hd9 : d ≤ 99 := by have := hY.d1; have := md_bd y m; omega
  have HT := Lib.hid (dayB_ten y m d)
  have HST := Lib.hid (fun i k a b c hi h => st_step HT.out hy9 hm9 hd9 i k a b c hi h)
  have HY := Lib.hid hY
  generalize dayB y m d = s at *
  clear hY hy9 hm9 hd9
  have hs10 : s.size ≤ 10 := Nat.le_of_eq HT.out.size
  have hs11 : 10 ≤ s.size := Nat.le_of_eq HT.out.size.symm
  have q10 : ((s.size : Int) != 10) = false := by rw [bne_eq_false_iff_eq]; omega
  have q4 : ((s[4].toNat : Int) != 45) = false := by rw [bne_eq_false_iff_eq, HT.out.b4]; rfl
  have q7 : ((s[7].toNat : Int) != 45) = false := by rw [bne_eq_false_iff_eq, HT.out.b7]; rfl
  go_enter Tryd.func20, Tryd.ntmps20
  go_wp2_with fail
  clear q10 q4 q7
  go_loopw [5, 6] (fun k i wr => ∃ kn j a b c : Nat, j ≤ 10 ∧ kn ≤ 2 ∧ k = .int .i64 kn ∧ i = .int .i64 j ∧ Hid (St y m d j kn a b c) ∧ Hid (wr.heap[w.heap.size]? = some (tri a b c)) ∧ Below w.heap.size w wr)
    (fun _ i _ => 10 - (intOf i).toNat)
  case atStart => exact ⟨0, 0, 0, 0, 0, by omega, by omega, rfl, rfl, ⟨rfl, rfl, rfl, rfl⟩, heap_alloc_new _ _, (Below.refl _ _).alloc (Nat.le_refl _) _⟩
  case round =>
    obtain ⟨kn, j, a, b, c, hj, hkn, rfl, rfl, HS, HB, hbr⟩ := hrel
    have HBR := Lib.hid hbr
    clear hbr
    by_cases hj10 : j < 10
    · have hjs : j < s.size := by omega
      rcases HST.out j kn a b c hj10 hjs HS.out with ⟨hsep, hk1, hs2⟩ | ⟨hno, l0, l1, la, lb, lc, hs2⟩
      · have HS2 := Lib.hid hs2
        have hq : ((j : Int) == 4) = true ∨ (((j : Int) == 4) = false ∧ ((j : Int) == 7) = true) := by
          rcases hsep with rfl | rfl
          · left; rfl
          · right; exact ⟨rfl, rfl⟩
        clear hs2 hsep
        rcases hq with hq | ⟨hq, hq2⟩
        all_goals
          go_wp2_with fail
          go_roundw
          case rel => exact ⟨kn + 1, j + 1, a, b, c, by omega, by omega, by go_num, by go_num, HS2.out, HB.out, HBR.out⟩
          case measure => simp [intOf]; omega
      · have hq : ((j : Int) == 4) = false := by rw [beq_eq_false_iff_ne]; omega
        have hq2 : ((j : Int) == 7) = false := by rw [beq_eq_false_iff_ne]; omega
        have c0 : wr.cell? ⟨w.heap.size, 0, none⟩ = some (.int .i64 a) := cellT HB.out rfl
        have c1 : wr.cell? ⟨w.heap.size, 1, none⟩ = some (.int .i64 b) := cellT HB.out rfl
        have c2 : wr.cell? ⟨w.heap.size, 2, none⟩ = some (.int .i64 c) := cellT HB.out rfl
        have g0 : wr.frozen? ⟨w.heap.size, 0, none⟩ = false := frozenT HB.out
        have g1 : wr.frozen? ⟨w.heap.size, 1, none⟩ = false := frozenT HB.out
        have g2 : wr.frozen? ⟨w.heap.size, 2, none⟩ = false := frozenT HB.out
        have HSS := Lib.hid hs2
        clear hno hs2
        rcases HSS.out with ⟨hk, hs3⟩ | ⟨hk, hs3⟩ | ⟨hk, hs3⟩
        · subst hk
          have HS3 := Lib.hid hs3
          clear hs3 HSS
          go_wp2_with (go_at_call 48; refine (cdigit_yes _ _ (by omega) (by omega)).mono ?_; rintro e w' ⟨rfl, rfl⟩)
          go_region
          go_wp2_with fail
          go_roundw
          case rel => exact ⟨0, j + 1, 10 * a + (s[j].toNat - 48), b, c, by omega, by omega, rfl, by go_num, HS3.out, tri0 HB.out (cast_step _ _ l0), (HBR.out.setCell (p := ⟨w.heap.size, 0, none⟩) (Nat.le_refl _) _).drew⟩
          case measure => simp [intOf]; omega
        · subst hk
          have HS3 := Lib.hid hs3
          clear hs3 HSS
          go_wp2_with (go_at_call 48; refine (cdigit_yes _ _ (by omega) (by omega)).mono ?_; rintro e w' ⟨rfl, rfl⟩)
          go_region
          go_wp2_with fail
          go_roundw
          case rel => exact ⟨1, j + 1, a, 10 * b + (s[j].toNat - 48), c, by omega, by omega, rfl, by go_num, HS3.out, tri1 HB.out (cast_step _ _ l0), (HBR.out.setCell (p := ⟨w.heap.size, 1, none⟩) (Nat.le_refl _) _).drew⟩
          case measure => simp [intOf]; omega
        · subst hk
          have HS3 := Lib.hid hs3
          clear hs3 HSS
          go_wp2_with (go_at_call 48; refine (cdigit_yes _ _ (by omega) (by omega)).mono ?_; rintro e w' ⟨rfl, rfl⟩)
          go_region
          go_wp2_with fail
          go_roundw
          case rel => exact ⟨2, j + 1, a, b, 10 * c + (s[j].toNat - 48), by omega, by omega, rfl, by go_num, HS3.out, tri2 HB.out (cast_step _ _ l0), (HBR.out.setCell (p := ⟨w.heap.size, 2, none⟩) (Nat.le_refl _) _).drew⟩
          case measure => simp [intOf]; omega
    · obtain rfl : j = 10 := by omega
      have c0 : wr.cell? ⟨w.heap.size, 0, none⟩ = some (.int .i64 a) := cellT HB.out rfl
      have c1 : wr.cell? ⟨w.heap.size, 1, none⟩ = some (.int .i64 b) := cellT HB.out rfl
      have c2 : wr.cell? ⟨w.heap.size, 2, none⟩ = some (.int .i64 c) := cellT HB.out rfl
      have HD : Hid (∀ w, Calls Tryd.prog 22 #[.int .i64 a, .int .i64 b, .int .i64 c] w fun e w' => e = .returned (.tuple #[.int .i64 n, .int .i64 0]) ∧ w = w') := by
        obtain ⟨h1, h2, h3, h4⟩ := HS.out
        exact fun w => DayOf_ok n y m d a b c w HY.out (by rw [h2]) (by rw [h3]) (by rw [h4])
      go_wp2_with fail
      refine (HD.out _).mono ?_
      rintro e w' ⟨rfl, rfl⟩
      go_wp2_with fail
      go_ret2
      exact ⟨rfl, HBR.out⟩
end Go.Proofs.YtkcbnmhdaaokhaaDoor
