/- sort.stable_func over a state that 'less' and 'swap' carry on: the stable order. Conditions: a length below 2^60; 'less' is a strict weak order. -/
import Derived.Test.YtgalcdolhnckmaaGreatDoorSrZ
namespace Go.Proofs.YtgalcdolhnckmaaGreatDoor
open Go.RowKit Mh
open Go.Sort (swp SWO PermIn permIn_refl)
set_option linter.unusedVariables false
section
variable {β : Type} [Inhabited β] {g : Nat} {lb : Array Value} {sf : Nat} {sb : Array Value} {blk n : Nat} {lt : β → β → Bool} {tag : β → Nat} {St : World → Array β → Prop}
/-- Insertion of [a, b), which may be empty. -/
theorem insertion_all (S : Srt Tryz.prog g lb sf sb blk n lt St) (hO : SWO lt) (hn : n < 1152921504606846976) (a b : Nat) (hab : a ≤ b) (hb : b ≤ n) (w : World) (d : Array β) (h : St w d) :
    Calls Tryz.prog 60 #[.agg #[.func (.func g) #[] lb, .func (.func sf) #[] sb], .int .i64 (a : Nat), .int .i64 (b : Nat)] w fun e w' => e = .returned (.tuple #[]) ∧ ∃ d', St w' d' ∧ ((∀ x y, a ≤ x → x < y → y < b → tag d[x]! < tag d[y]!) → Mrg lt tag a b d d') ∧ Alg blk w w' := by
  by_cases c : a < b
  · exact insertion_any S hO (by omega) a b c hb w d h
  · refine (insertion_none S a b (by omega) (by omega) w d h).mono ?_
    rintro e w' ⟨rfl, h1, h2⟩
    exact ⟨rfl, d, h1, fun _ => ⟨permIn_refl _ _ _, fun i j q1 q2 q3 => by omega⟩, h2⟩
set_option maxRecDepth 100000 in
set_option maxHeartbeats 4000000 in
theorem stable_any (S : Srt Tryz.prog g lb sf sb blk n lt St) (hO : SWO lt) (hn : n < 1152921504606846976) (w : World) (d : Array β) (h : St w d) :
    Calls Tryz.prog 30 #[.agg #[.func (.func g) #[] lb, .func (.func sf) #[] sb], .int .i64 (n : Nat)] w fun e w' => e = .returned (.tuple #[]) ∧ ∃ d', St w' d' ∧ (Inc tag n d → Mrg lt tag 0 n d d') ∧ Alg blk w w' := by
  obtain ⟨hsd, hblk⟩ := S.sz w d h
  have HSD := Lib.hid hsd
  have HBX : Hid ((w.alloc (.cells #[.func (.func g) #[] lb, .func (.func sf) #[] sb] 79)).heap[w.heap.size]? = some (.cells #[.func (.func g) #[] lb, .func (.func sf) #[] sb] 79 (0, 0))) := heap_alloc_new _ _
  have HS0 : Hid (St (w.alloc (.cells #[.func (.func g) #[] lb, .func (.func sf) #[] sb] 79)) d) := S.al h _
  have HA0 : Hid (Alg blk w (w.alloc (.cells #[.func (.func g) #[] lb, .func (.func sf) #[] sb] 79))) := (Alg.refl _ _).alloc _
  have HSZ := Lib.hid (fun w' (d' : Array β) (h3 : St w' d') => (S.sz w' d' h3).1)
  have HINS := Lib.hid (fun (a b : Nat) (h1 : a ≤ b) (h3 : b ≤ n) w' (d' : Array β) (h4 : St w' d') => insertion_all (tag := tag) S hO hn a b h1 h3 w' d' h4)
  have HSYM := Lib.hid (fun (a m b : Nat) (h1 : a < m) (h2 : m < b) (h3 : b ≤ n) => sym_any (tag := tag) S hO (by omega) (b - a + 1) a m b (by omega) h1 h2 h3)
  have HI0 : Hid (Inc tag n d → InsB lt tag n 20 (0 * 20) d d) := fun hi => by rw [Nat.zero_mul]; exact InsB.start (by decide) hi
  have hdn : n ≤ d.size := by omega
  have HDN := Lib.hid hdn
  clear h hsd hdn
  go_enter Tryz.func30, Tryz.ntmps30
  go_wp2_with fail
  generalize hw1 : World.alloc w _ = w1 at HBX HS0 HA0 ⊢
  clear hw1
  have HZ1 : Hid (w.heap.size < w1.heap.size) := (Array.getElem?_eq_some_iff.1 HBX.out).1
  go_loopw [5, 6] (fun va vb wr => ∃ (j A : Nat) (dk : Array β), Hid (A = j * 20) ∧ A ≤ n ∧ va = .int .i64 (A : Nat) ∧ vb = .int .i64 ((A + 20 : Nat) : Int) ∧ Hid (St wr dk) ∧ Hid (Inc tag n d → InsB lt tag n 20 A d dk) ∧ Hid (Alg blk w1 wr)) (fun va _ _ => n - (intOf va).toNat)
  case atStart => exact ⟨0, 0, d, rfl, Nat.zero_le _, rfl, rfl, HS0, HI0, Alg.refl _ _⟩
  case round =>
    obtain ⟨j, A, dk, HJ, hAn, rfl, rfl, HS, HI, HA⟩ := hrel
    clear HS0 HI0
    obtain ⟨wo, rfl⟩ : ∃ wo : World, wo = wr := ⟨_, rfl⟩
    have hB := (HA.out.block w.heap.size HZ1.out (by omega)).trans HBX.out
    have c0 := cellT hB (i := 0) rfl
    have c1 := cellT hB (i := 1) rfl
    clear hB
    by_cases hlt : A + 20 ≤ n
    · have hd : decide (((A + 20 : Nat) : Int) ≤ (n : Int)) = true := decide_eq_true (by omega)
      have HC := Lib.hid (HINS.out A (A + 20) (by omega) hlt wo dk HS.out)
      go_wp2_with fail
      refine HC.out.mono ?_
      rintro e w2 ⟨rfl, d2, hs2, hr2, ha2⟩
      have HS2 := Lib.hid hs2
      have HA2 := Lib.hid (HA.out.trans ha2)
      have HI2 : Hid (Inc tag n d → InsB lt tag n 20 (A + 20) d d2) := fun hi => by
        have g := HI.out hi
        rw [HJ.out] at g hr2
        have e1 : A + 20 = (j + 1) * 20 := by rw [HJ.out]; omega
        rw [e1]
        rw [show j * 20 + 20 = (j + 1) * 20 by omega] at hr2
        exact g.step (by decide) HDN.out rfl (by omega) (hr2 fun x y q1 q2 q3 => by rw [g.out x q1, g.out y (by omega)]; exact hi x y q2 (by omega))
      have HJ2 : Hid (A + 20 = (j + 1) * 20) := by show _ = _; rw [HJ.out]; omega
      clear hs2 hr2 ha2 c0 c1
      go_wp2_with fail
      go_roundw
      case rel => exact ⟨j + 1, A + 20, d2, HJ2, hlt, by go_num, by go_num, HS2, HI2, HA2⟩
      case measure => simp only [intOf]; omega
    · have hd : decide (((A + 20 : Nat) : Int) ≤ (n : Int)) = false := decide_eq_false (by omega)
      have HC := Lib.hid (HINS.out A n hAn (Nat.le_refl _) wo dk HS.out)
      go_wp2_with fail
      refine HC.out.mono ?_
      rintro e w2 ⟨rfl, d2, hs2, hr2, ha2⟩
      have HS2 := Lib.hid hs2
      have HA2 := Lib.hid (HA.out.trans ha2)
      have HBL : Hid (Inc tag n d → Blks lt tag n 20 d d2) := fun hi => by
        have g := HI.out hi
        rw [HJ.out] at g hr2
        exact g.done (by decide) HDN.out (by have := HJ.out; omega) (by have := HJ.out; omega) (hr2 fun x y q1 q2 q3 => by rw [g.out x q1, g.out y (by omega)]; exact hi x y q2 (by omega))
      clear hs2 hr2 ha2 c0 c1 HA HS HI hd hlt hAn HJ
      go_wp2_with fail
      go_loopw [4] (fun vs wr => ∃ (bs : Nat) (dk : Array β), 0 < bs ∧ bs ≤ n + n + 20 ∧ vs = .int .i64 (bs : Nat) ∧ Hid (St wr dk) ∧ Hid (Inc tag n d → Blks lt tag n bs d dk) ∧ Hid (Alg blk w1 wr)) (fun vs _ => n - (intOf vs).toNat)
      case atStart => exact ⟨20, d2, by omega, by omega, rfl, HS2, HBL, HA2⟩
      case round =>
        obtain ⟨bs, dk, hbs, hbn, rfl, HS, HBK, HA⟩ := hrel
        clear HS2 HBL HA2
        obtain ⟨wp, rfl⟩ : ∃ wp : World, wp = wr := ⟨_, rfl⟩
        by_cases hlt : bs < n
        rotate_left
        · have hd : decide ((bs : Int) < (n : Int)) = false := decide_eq_false (by omega)
          have HF : Hid (Inc tag n d → Mrg lt tag 0 n d dk) := fun hi => (HBK.out hi).whole (by omega)
          go_wp2_with fail
          go_end0
          exact ⟨rfl, dk, HS.out, HF.out, HA0.out.trans HA.out⟩
        have hd : decide ((bs : Int) < (n : Int)) = true := decide_eq_true (by omega)
        have HP0 : Hid (Inc tag n d → Pass lt tag n bs 0 d dk) := fun hi => (HBK.out hi).pass
        have HJ0 : Hid (0 = 0 * (2 * bs)) := (Nat.zero_mul _).symm
        go_wp2_with fail
        go_loopw [5, 6] (fun va vb wr => ∃ (j A : Nat) (dj : Array β), Hid (A = j * (2 * bs)) ∧ A ≤ n ∧ va = .int .i64 (A : Nat) ∧ vb = .int .i64 ((A + 2 * bs : Nat) : Int) ∧ Hid (St wr dj) ∧ Hid (Inc tag n d → Pass lt tag n bs j d dj) ∧ Hid (Alg blk w1 wr)) (fun va _ _ => n - (intOf va).toNat)
        case atStart => exact ⟨0, 0, dk, HJ0, Nat.zero_le _, rfl, by congr 1 <;> omega, HS, HP0, HA⟩
        case round =>
          obtain ⟨j, A, dj, HJ, hAn, rfl, rfl, HSj, HPj, HAj⟩ := hrel
          clear HS HP0 HA HBK HJ0
          obtain ⟨wq, rfl⟩ : ∃ wq : World, wq = wr := ⟨_, rfl⟩
          have hB := (HAj.out.block w.heap.size HZ1.out (by omega)).trans HBX.out
          have c0 := cellT hB (i := 0) rfl
          have c1 := cellT hB (i := 1) rfl
          clear hB
          have HJ1 : Hid (A + 2 * bs = (j + 1) * (2 * bs)) := (by rw [Nat.succ_mul j (2 * bs), ← HJ.out] : A + 2 * bs = (j + 1) * (2 * bs))
          by_cases hl2 : A + 2 * bs ≤ n
          · have hd2 : decide (((A + 2 * bs : Nat) : Int) ≤ (n : Int)) = true := decide_eq_true (by omega)
            have HC := Lib.hid (HSYM.out A (A + bs) (A + 2 * bs) (by omega) (by omega) hl2 wq dj HSj.out)
            rw [Int.natCast_add A bs] at HC
            go_wp2_with fail
            refine HC.out.mono ?_
            rintro e w3 ⟨rfl, d3, hs3, hr3, ha3⟩
            have HS3 := Lib.hid hs3
            have HA3 := Lib.hid (HAj.out.trans ha3)
            have HP3 : Hid (Inc tag n d → Pass lt tag n bs (j + 1) d d3) := fun hi => by
              have g := HPj.out hi
              have hp := g.pre (b := A + 2 * bs) hbs (by rw [← HJ.out]; omega) (by rw [← HJ1.out]; omega)
              rw [← HJ.out] at hp
              have hm := hr3.2 hp
              rw [HJ.out] at hm
              rw [← HJ.out] at hm
              exact g.step hbs HDN.out HJ1.out hl2 (by rw [← HJ.out]; exact hm)
            clear hs3 hr3 ha3 c0 c1
            go_wp2_with fail
            go_roundw
            case rel => exact ⟨j + 1, A + 2 * bs, d3, HJ1, hl2, by first | rfl | go_num, by congr 1 <;> omega, HS3, HP3, HA3⟩
            case measure => simp only [intOf]; omega
          · have hd2 : decide (((A + 2 * bs : Nat) : Int) ≤ (n : Int)) = false := decide_eq_false (by omega)
            by_cases hl3 : A + bs < n
            · have hd3 : decide ((A : Int) + (bs : Int) < (n : Int)) = true := decide_eq_true (by omega)
              have HC := Lib.hid (HSYM.out A (A + bs) n (by omega) hl3 (Nat.le_refl _) wq dj HSj.out)
              rw [Int.natCast_add A bs] at HC
              go_wp2_with fail
              refine HC.out.mono ?_
              rintro e w3 ⟨rfl, d3, hs3, hr3, ha3⟩
              have HS3 := Lib.hid hs3
              have HA3 := Lib.hid (HAj.out.trans ha3)
              have HB3 : Hid (Inc tag n d → Blks lt tag n (2 * bs) d d3) := fun hi => by
                have g := HPj.out hi
                have hp := g.pre (b := n) hbs (by rw [← HJ.out]; omega) (by rw [← HJ1.out]; omega)
                rw [← HJ.out] at hp
                have hm := hr3.2 hp
                exact g.last hbs HDN.out (by rw [← HJ.out]; exact hAn) (by rw [← HJ1.out]; omega) (by rw [← HJ.out]; exact hm)
              clear hs3 hr3 ha3 c0 c1
              go_wp2_with fail
              go_roundw
              case rel => exact ⟨2 * bs, d3, by omega, by omega, by congr 1 <;> omega, HS3, HB3, HA3⟩
              case measure => simp only [intOf]; omega
            · have hd3 : decide ((A : Int) + (bs : Int) < (n : Int)) = false := decide_eq_false (by omega)
              have HB3 : Hid (Inc tag n d → Blks lt tag n (2 * bs) d dj) := fun hi => (HPj.out hi).lone hbs (by rw [← HJ.out]; exact hAn) (by rw [← HJ1.out]; omega) (by rw [← HJ.out]; exact hl3)
              clear c0 c1
              go_wp2_with fail
              go_roundw
              case rel => exact ⟨2 * bs, dj, by omega, by omega, by congr 1 <;> omega, HSj, HB3, HAj⟩
              case measure => simp only [intOf]; omega
end
end Go.Proofs.YtgalcdolhnckmaaGreatDoor
