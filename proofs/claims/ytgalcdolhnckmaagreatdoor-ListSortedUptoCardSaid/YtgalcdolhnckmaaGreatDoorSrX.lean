/- sort.insertionSort_func over a state that 'less' and 'swap' carry on: the stable order. Conditions: indices within a length below 2^62; 'less' is a strict weak order. -/
import Derived.Test.YtgalcdolhnckmaaGreatDoorSrW
namespace Go.Proofs.YtgalcdolhnckmaaGreatDoor
open Go.RowKit Mh
open Go.Sort (swp SWO)
set_option linter.unusedVariables false
section
variable {β : Type} [Inhabited β] {g : Nat} {lb : Array Value} {sf : Nat} {sb : Array Value} {blk n : Nat} {lt : β → β → Bool} {tag : β → Nat} {St : World → Array β → Prop}
set_option maxRecDepth 100000 in
set_option maxHeartbeats 4000000 in
theorem insertion_none (S : Srt Tryz.prog g lb sf sb blk n lt St) (a b : Nat) (hab : b ≤ a + 1) (ha : a < 4611686018427387904) (w : World) (d : Array β) (h : St w d) :
    Calls Tryz.prog 60 #[.agg #[.func (.func g) #[] lb, .func (.func sf) #[] sb], .int .i64 (a : Nat), .int .i64 (b : Nat)] w fun e w' => e = .returned (.tuple #[]) ∧ St w' d ∧ Alg blk w w' := by
  have HS0 : Hid (St (w.alloc (.cells #[.func (.func g) #[] lb, .func (.func sf) #[] sb] 79)) d) := S.al h _
  have HA0 : Hid (Alg blk w (w.alloc (.cells #[.func (.func g) #[] lb, .func (.func sf) #[] sb] 79))) := (Alg.refl _ _).alloc _
  have hd : decide ((a : Int) + 1 < (b : Int)) = false := decide_eq_false (by omega)
  clear h
  go_enter Tryz.func60, Tryz.ntmps60
  go_wp2_with fail
  generalize hw1 : World.alloc w _ = w1 at HS0 HA0 ⊢
  clear hw1
  go_loopw [6] (fun vi wr => vi = .int .i64 ((a : Int) + 1) ∧ w1 = wr) (fun _ _ => 0)
  case atStart => exact ⟨rfl, rfl⟩
  case round =>
    obtain ⟨rfl, hw⟩ := hrel
    subst hw
    go_wp2_with fail
    go_end0
    exact ⟨rfl, HS0.out, HA0.out⟩
set_option maxRecDepth 100000 in
set_option maxHeartbeats 4000000 in
theorem insertion_any (S : Srt Tryz.prog g lb sf sb blk n lt St) (hO : SWO lt) (hn : n < 4611686018427387904) (a b : Nat) (hab : a < b) (hb : b ≤ n) (w : World) (d : Array β) (h : St w d) :
    Calls Tryz.prog 60 #[.agg #[.func (.func g) #[] lb, .func (.func sf) #[] sb], .int .i64 (a : Nat), .int .i64 (b : Nat)] w fun e w' => e = .returned (.tuple #[]) ∧ ∃ d', St w' d' ∧ ((∀ x y, a ≤ x → x < y → y < b → tag d[x]! < tag d[y]!) → Mrg lt tag a b d d') ∧ Alg blk w w' := by
  obtain ⟨hsd, hblk⟩ := S.sz w d h
  have HSD := Lib.hid hsd
  have HBX : Hid ((w.alloc (.cells #[.func (.func g) #[] lb, .func (.func sf) #[] sb] 79)).heap[w.heap.size]? = some (.cells #[.func (.func g) #[] lb, .func (.func sf) #[] sb] 79 (0, 0))) := heap_alloc_new _ _
  have HS0 : Hid (St (w.alloc (.cells #[.func (.func g) #[] lb, .func (.func sf) #[] sb] 79)) d) := S.al h _
  have HA0 : Hid (Alg blk w (w.alloc (.cells #[.func (.func g) #[] lb, .func (.func sf) #[] sb] 79))) := (Alg.refl _ _).alloc _
  have HSZ := Lib.hid (fun w' (d' : Array β) (h3 : St w' d') => (S.sz w' d' h3).1)
  have HI0 : Hid ((∀ x y, a ≤ x → x < y → y < b → tag d[x]! < tag d[y]!) → InsO lt tag a b (a + 1) d d) := fun _ => InsO.start a b d
  have eg := S.eg
  clear h hsd
  go_enter Tryz.func60, Tryz.ntmps60
  go_wp2_with fail
  generalize hw1 : World.alloc w _ = w1 at HBX HS0 HA0 ⊢
  clear hw1
  have HZ1 : Hid (w.heap.size < w1.heap.size) := (Array.getElem?_eq_some_iff.1 HBX.out).1
  go_loopw [6] (fun vi wr => ∃ (i : Nat) (dk : Array β), a < i ∧ i ≤ b ∧ vi = .int .i64 (i : Nat) ∧ Hid (St wr dk) ∧ Hid ((∀ x y, a ≤ x → x < y → y < b → tag d[x]! < tag d[y]!) → InsO lt tag a b i d dk) ∧ Hid (Alg blk w1 wr)) (fun vi _ => b - (intOf vi).toNat)
  case atStart => exact ⟨a + 1, d, by omega, by omega, by go_num, HS0, HI0, Alg.refl _ _⟩
  case round =>
    obtain ⟨i, di, hai, hib, rfl, HS, HI, HA⟩ := hrel
    clear HS0 HI0
    obtain ⟨wo, rfl⟩ : ∃ wo : World, wo = wr := ⟨_, rfl⟩
    by_cases hlt : i < b
    · have HDI : Hid (di.size = n) := HSZ.out _ _ HS.out
      have HR0 := Lib.hid (Rot.one' i di)
      have hdo : decide ((i : Int) < (b : Int)) = true := decide_eq_true (by omega)
      go_wp2_with fail
      go_loopw [7] (fun vj wr2 => ∃ (j : Nat) (dj : Array β), a ≤ j ∧ j ≤ i ∧ vj = .int .i64 (j : Nat) ∧ Hid (St wr2 dj) ∧ Hid (Rot j i (i + 1) di dj) ∧ Hid (j = i ∨ lt di[i]! di[j]! = true) ∧ Hid (Alg blk w1 wr2)) (fun vj _ => (intOf vj).toNat)
      case atStart => exact ⟨i, di, by omega, Nat.le_refl _, rfl, HS, HR0, .inl rfl, HA⟩
      case round =>
        obtain ⟨j, dj, haj, hji, rfl, HSj, HRj, HLj, HAj⟩ := hrel
        clear HS HR0 HA
        obtain ⟨wp, rfl⟩ : ∃ wp : World, wp = wr := ⟨_, rfl⟩
        have hB := (HAj.out.block w.heap.size HZ1.out (by omega)).trans HBX.out
        have HDJ : Hid (dj.size = n) := HSZ.out _ _ HSj.out
        by_cases hja : a < j
        · have c0 := cellT hB (i := 0) rfl
          have hg : decide ((a : Int) < (j : Int)) = true := decide_eq_true (by omega)
          have hl := Lib.hid (S.less wp dj HSj.out j (j - 1) (by omega) (by omega))
          rw [show (((j - 1 : Nat) : Int)) = (j : Int) - 1 by omega] at hl
          cases hlv : lt dj[j]! dj[j - 1]! with
          | true =>
            rw [hlv] at hl
            have HLV := Lib.hid hlv
            clear hB hlv
            go_wp2_with fail
            refine hl.out.mono ?_
            rintro e w2 ⟨rfl, hb2⟩
            have hs2 := S.grow _ _ _ HSj.out hb2
            have ha2 := HAj.out.trans (Alg.of_below (blk := blk) hb2)
            have hB2 := (ha2.block w.heap.size HZ1.out (by omega)).trans HBX.out
            have c1 := cellT hB2 (i := 1) rfl
            obtain ⟨w3, hrun, hst3, halg3⟩ := S.swap w2 dj hs2 j (j - 1) (by omega) (by omega)
            rw [show (((j - 1 : Nat) : Int)) = (j : Int) - 1 by omega] at hrun
            have HS3 := Lib.hid hst3
            have HA3 := Lib.hid (ha2.trans halg3)
            have HR3 : Hid (Rot (j - 1) i (i + 1) di (swp dj j (j - 1))) := by
              have hj1 : j - 1 + 1 = j := by omega
              have := Rot.down (m := i) (k := j - 1) (d := di) (d' := dj) (by rw [hj1]; exact HRj.out) (by omega) (by have := HDI.out; omega)
              rw [hj1] at this
              exact this
            have HL3 : Hid (j - 1 = i ∨ lt di[i]! di[j - 1]! = true) := by
              right
              have := HLV.out
              rwa [HRj.out.lo j (Nat.le_refl _) (by omega), HRj.out.out (j - 1) (.inl (by omega)), show j + (i - j) = i by omega] at this
            clear hs2 ha2 hB2 hst3 halg3 hb2 c0
            go_wp2_with fail
            go_roundw
            case rel => exact ⟨j - 1, _, by omega, by omega, by go_num, HS3, HR3, HL3, HA3⟩
            case measure => simp [intOf]; omega
          | false =>
            rw [hlv] at hl
            have HLV := Lib.hid hlv
            clear hB hlv
            go_wp2_with fail
            refine hl.out.mono ?_
            rintro e w2 ⟨rfl, hb2⟩
            have HS2 := Lib.hid (S.grow _ _ _ HSj.out hb2)
            have HA2 := Lib.hid (HAj.out.trans (Alg.of_below (blk := blk) hb2))
            have HI2 : Hid ((∀ x y, a ≤ x → x < y → y < b → tag d[x]! < tag d[y]!) → InsO lt tag a b (i + 1) d dj) := fun ht => (HI.out ht).step hO ht hai hlt (by have := HSD.out; omega) HRj.out haj hji HLj.out (.inr HLV.out)
            clear hb2 c0
            go_wp2_with fail
            go_roundw
            case rel => exact ⟨i + 1, dj, by omega, by omega, by go_num, HS2, HI2, HA2⟩
            case measure => simp [intOf]; omega
        · have hg : decide ((a : Int) < (j : Int)) = false := decide_eq_false (by omega)
          have HI2 : Hid ((∀ x y, a ≤ x → x < y → y < b → tag d[x]! < tag d[y]!) → InsO lt tag a b (i + 1) d dj) := fun ht => (HI.out ht).step hO ht hai hlt (by have := HSD.out; omega) HRj.out haj hji HLj.out (.inl (by omega))
          clear hB
          go_wp2_with fail
          go_roundw
          case rel => exact ⟨i + 1, dj, by omega, by omega, by go_num, HSj, HI2, HAj⟩
          case measure => simp [intOf]; omega
    · have e : i = b := by omega
      subst e
      have HF : Hid ((∀ x y, a ≤ x → x < y → y < i → tag d[x]! < tag d[y]!) → Mrg lt tag a i d di) := fun ht => ⟨(HI.out ht).perm, (HI.out ht).stb⟩
      go_wp2_with fail
      go_end0
      exact ⟨rfl, di, HS.out, HF.out, HA0.out.trans HA.out⟩
end
end Go.Proofs.YtgalcdolhnckmaaGreatDoor
