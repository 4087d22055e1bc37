/- asset.isSide, CheckImage: what each returns. Conditions: the sizes named. -/
import Derived.Test.YtjmnnnjddbmiaaaDoorProg
import Derived.Test.YtjmnnnjddbmiaaaDoorSl
namespace Go.Proofs.YtjmnnnjddbmiaaaDoor
open Go.RowKit Mh
set_option linter.unusedVariables false

def sideB (n : Int) : Bool := decide (1 ≤ n ∧ n ≤ 64)
theorem sideB_yes {n : Int} (h : sideB n = true) : 1 ≤ n ∧ n ≤ 64 := by simpa [sideB] using h
theorem sideB_no {n : Int} (h : sideB n = false) : ¬ (1 ≤ n ∧ n ≤ 64) := by simpa [sideB] using h
theorem isSide_any (n : Int) (w : World) : Calls Tryd.prog 47 #[.int .i64 n] w fun e w' => e = .returned (.bool (sideB n)) ∧ w = w' := by
  by_cases h1 : 1 ≤ n
  · by_cases h2 : n ≤ 64
    · have hd : sideB n = true := by simp [sideB, h1, h2]
      have H := Lib.hid hd
      clear hd
      have a1 : decide (n ≤ 64) = true := by simpa using h2
      go_enter Tryd.func47, Tryd.ntmps47
      go_wp2_with fail
      go_ret
      exact ⟨by rw [H.out]; rfl, rfl⟩
    · have hd : sideB n = false := by simp [sideB]; omega
      have H := Lib.hid hd
      clear hd
      have a1 : decide (n ≤ 64) = false := by simpa using h2
      go_enter Tryd.func47, Tryd.ntmps47
      go_wp2_with fail
      go_ret
      exact ⟨by rw [H.out]; rfl, rfl⟩
  · have hd : sideB n = false := by simp [sideB]; omega
    have H := Lib.hid hd
    clear hd
    have a1 : decide (1 ≤ n) = false := by simpa using h1
    go_enter Tryd.func47, Tryd.ntmps47
    go_wp2_with fail
    go_ret
    exact ⟨by rw [H.out]; rfl, rfl⟩

/-- What CheckImage returns. -/
def chk (W H : Int) (L : List Int) : Int := if sideB W && sideB H then (if (L.length : Int) = W * H then (if L.all (fun n => decide (0 ≤ n ∧ n ≤ 15)) then 0 else 2) else 1) else 2

theorem check_w (W H : Int) (lv : Value) (L : List Int) (w : World) (h : sideB W = false) :
    Calls Tryd.prog 37 #[.agg #[.int .i64 W, .int .i64 H, lv]] w fun e w' => e = .returned (.int .i64 (chk W H L)) ∧ Below w.heap.size w w' := by
  have hd : chk W H L = 2 := by simp [chk, h]
  have HH := Lib.hid hd
  clear hd
  go_enter Tryd.func37, Tryd.ntmps37
  go_wp2_with (go_at_call 47; refine (isSide_any _ _).mono ?_; rintro e w' ⟨rfl, rfl⟩)
  go_ret
  exact ⟨by rw [HH.out]; rfl, (Below.refl _ _).alloc (Nat.le_refl _) _⟩
theorem check_h (W H : Int) (lv : Value) (L : List Int) (w : World) (h0 : sideB W = true) (h : sideB H = false) :
    Calls Tryd.prog 37 #[.agg #[.int .i64 W, .int .i64 H, lv]] w fun e w' => e = .returned (.int .i64 (chk W H L)) ∧ Below w.heap.size w w' := by
  have hd : chk W H L = 2 := by simp [chk, h]
  have HH := Lib.hid hd
  clear hd
  go_enter Tryd.func37, Tryd.ntmps37
  go_wp2_with (go_at_call 47; refine (isSide_any _ _).mono ?_; rintro e w' ⟨rfl, rfl⟩)
  go_ret
  exact ⟨by rw [HH.out]; rfl, (Below.refl _ _).alloc (Nat.le_refl _) _⟩
theorem check_len (W H : Int) (a : Option Addr) (n c : Nat) (L : List Int) (w : World) (h0 : sideB W = true) (h : sideB H = true) (hn : L.length = n) (hne : (n : Int) ≠ W * H) :
    Calls Tryd.prog 37 #[.agg #[.int .i64 W, .int .i64 H, .slice a n c]] w fun e w' => e = .returned (.int .i64 (chk W H L)) ∧ Below w.heap.size w w' := by
  have hd : chk W H L = 1 := by simp [chk, h, h0, hn, hne]
  have HH := Lib.hid hd
  have hw := sideB_yes h0
  have hh := sideB_yes h
  have hp0 : 0 ≤ W * H := Int.mul_nonneg (by omega) (by omega)
  have hp1 : W * H ≤ 64 * 64 := Int.mul_le_mul (by omega) (by omega) (by omega) (by omega)
  have hb : ((n : Int) == W * H) = false := by rw [beq_eq_false_iff_ne]; exact hne
  clear hd hn hne
  go_enter Tryd.func37, Tryd.ntmps37
  go_wp2_with (go_at_call 47; refine (isSide_any _ _).mono ?_; rintro e w' ⟨rfl, rfl⟩)
  go_ret
  exact ⟨by rw [HH.out]; rfl, (Below.refl _ _).alloc (Nat.le_refl _) _⟩
theorem check_lev (W H : Int) (b off c : Nat) (L : List Int) (w : World) (h0 : sideB W = true) (h : sideB H = true) (hn : (L.length : Int) = W * H)
    (hlt : b < w.heap.size) (hcell : ∀ i, i < L.length → w.cell? ⟨b, off + i, none⟩ = some (.int .i64 (L.getD i 0))) :
    Calls Tryd.prog 37 #[.agg #[.int .i64 W, .int .i64 H, .slice (some ⟨b, off, none⟩) L.length c]] w fun e w' => e = .returned (.int .i64 (chk W H L)) ∧ Below w.heap.size w w' := by
  have hd : chk W H L = if L.all (fun n => decide (0 ≤ n ∧ n ≤ 15)) then 0 else 2 := by simp [chk, h, h0, hn]
  have HH := Lib.hid hd
  have hw := sideB_yes h0
  have hh := sideB_yes h
  have hp0 : 0 ≤ W * H := Int.mul_nonneg (by omega) (by omega)
  have hp1 : W * H ≤ 64 * 64 := Int.mul_le_mul (by omega) (by omega) (by omega) (by omega)
  have hb : ((L.length : Int) == W * H) = true := by rw [beq_iff_eq]; exact hn
  have hb2 : ((L.length : Int) != W * H) = false := by simp [hn]
  have hl : L.length ≤ 4096 := by omega
  have HC := Lib.hid hcell
  clear hd hn hcell
  go_enter Tryd.func37, Tryd.ntmps37
  go_wp2_with (go_at_call 47; refine (isSide_any _ _).mono ?_; rintro e w' ⟨rfl, rfl⟩)
  go_loop [27] (fun i => ∃ k : Nat, k ≤ L.length ∧ i = .int .i64 k ∧ Hid (∀ j, j < k → decide (0 ≤ L.getD j 0 ∧ L.getD j 0 ≤ 15) = true)) (fun i => L.length - (intOf i).toNat)
  case atStart => exact ⟨0, by omega, rfl, fun j hj => by omega⟩
  case round =>
    obtain ⟨k, hk, rfl, HA⟩ := hrel
    by_cases hkl : k < L.length
    · have hc := HC.out k hkl
      have hc2 : (w.alloc (.cells #[.int .i64 W, .int .i64 H, .slice (some ⟨b, off, none⟩) L.length c] 48)).cell? ⟨b, off + k, none⟩ = some (.int .i64 (L.getD k 0)) := by
        rw [← hc]
        exact World.cell?_of_block (heap_alloc_old w _ hlt)
      clear hc
      by_cases hz : 0 ≤ L.getD k 0
      · by_cases hz2 : L.getD k 0 ≤ 15
        · generalize hzz : L.getD k 0 = z at *
          have HZ := Lib.hid hzz
          clear hzz
          go_wp2_with fail
          go_round
          case rel =>
            refine ⟨k + 1, by omega, by go_num, ?_⟩
            intro j hj
            by_cases e : j = k
            · rw [e, HZ.out]; simpa using ⟨hz, hz2⟩
            · exact HA.out j (by omega)
          case measure => simp [intOf]; omega
        · have hf : (L.all fun n => decide (0 ≤ n ∧ n ≤ 15)) = false := by
            rw [List.all_eq_false]
            refine ⟨L.getD k 0, ?_, by rw [decide_eq_true_eq]; omega⟩
            rw [List.getD, List.getElem?_eq_getElem hkl]
            exact List.getElem_mem hkl
          have HF := Lib.hid hf
          clear hf
          generalize L.getD k 0 = z at *
          go_wp2_with fail
          go_ret
          exact ⟨by rw [HH.out, HF.out]; rfl, (Below.refl _ _).alloc (Nat.le_refl _) _⟩
      · have hf : (L.all fun n => decide (0 ≤ n ∧ n ≤ 15)) = false := by
          rw [List.all_eq_false]
          refine ⟨L.getD k 0, ?_, by rw [decide_eq_true_eq]; omega⟩
          rw [List.getD, List.getElem?_eq_getElem hkl]
          exact List.getElem_mem hkl
        have HF := Lib.hid hf
        clear hf
        generalize L.getD k 0 = z at *
        go_wp2_with fail
        go_ret
        exact ⟨by rw [HH.out, HF.out]; rfl, (Below.refl _ _).alloc (Nat.le_refl _) _⟩
    · have hf : (L.all fun n => decide (0 ≤ n ∧ n ≤ 15)) = true := by
        rw [List.all_eq_true]
        intro x hx
        obtain ⟨j, hj, rfl⟩ := List.mem_iff_getElem.1 hx
        have := HA.out j (by omega)
        rwa [List.getD, List.getElem?_eq_getElem hj] at this
      have HF := Lib.hid hf
      clear hf
      go_wp2_with fail
      go_ret
      exact ⟨by rw [HH.out, HF.out]; rfl, (Below.refl _ _).alloc (Nat.le_refl _) _⟩

theorem ints_cell {w : World} {b off : Nat} {L : List Int} (h : ∀ i u, (L.map (Value.int .i64))[i]? = some u → w.cell? ⟨b, off + i, none⟩ = some u) :
    ∀ i, i < L.length → w.cell? ⟨b, off + i, none⟩ = some (.int .i64 (L.getD i 0)) := by
  intro i hi
  refine h i _ ?_
  simp [List.getD, hi]

/-- CheckImage. -/
theorem check_any (W H : Int) (lv : Value) (L : List Int) (w : World) (hl : Sl 1 w lv L.length (L.map (Value.int .i64))) :
    Calls Tryd.prog 37 #[.agg #[.int .i64 W, .int .i64 H, lv]] w fun e w' => e = .returned (.int .i64 (chk W H L)) ∧ Below w.heap.size w w' := by
  cases h0 : sideB W with
  | false => exact check_w W H lv L w h0
  | true =>
    cases h1 : sideB H with
    | false => exact check_h W H lv L w h0 h1
    | true =>
      rcases hl.2 with ⟨hn, a, c, rfl⟩ | ⟨b, off, c, rfl, hn, hc, hm, hlt, hcell⟩
      · have hw := sideB_yes h0
        have hh := sideB_yes h1
        have hp0 : 1 * 1 ≤ W * H := Int.mul_le_mul (by omega) (by omega) (by omega) (by omega)
        exact check_len W H a 0 c L w h0 h1 hn (by omega)
      · by_cases hne : (L.length : Int) = W * H
        · exact check_lev W H b off c L w h0 h1 hne hlt (ints_cell hcell)
        · exact check_len W H _ _ c L w h0 h1 rfl hne
end Go.Proofs.YtjmnnnjddbmiaaaDoor
