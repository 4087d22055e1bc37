/- asset.Encode64 returns the digits of base 64 of its bytes, as the plain function enc64 says, where there are at most 20000; else the empty string and ErrLarge. No other conditions. -/
import Derived.Test.YtjmnnnjddbmiaaaProg
import Derived.Test.YtjmnnnjddbmiaaaBase
namespace Go.Proofs.Ytjmnnnjddbmiaaa
open Go.RowKit Mh
set_option linter.unusedVariables false

/-- The byte at a place, 0 behind the end. -/
def bAt (s : ByteArray) (j : Nat) : Int := if h : j < s.size then (s[j].toNat : Int) else 0
theorem bAt_bd (s : ByteArray) (j : Nat) : 0 ≤ bAt s j ∧ bAt s j < 256 := by
  unfold bAt
  split
  · have := s[j].toNat_lt; omega
  · omega
/-- The number of the first k bytes from i on. -/
def grp (s : ByteArray) (i : Nat) : Nat → Int
  | 0 => 0
  | k + 1 => grp s i k * 256 + bAt s (i + k)
theorem grp_bd (s : ByteArray) (i : Nat) : ∀ k, k ≤ 3 → 0 ≤ grp s i k ∧ grp s i k < 16777216 ∧ (k ≤ 2 → grp s i k < 65536)
  | 0, _ => by simp [grp]
  | 1, _ => by have := bAt_bd s (i + 0); simp only [grp]; omega
  | 2, _ => by have := bAt_bd s (i + 0); have := bAt_bd s (i + 1); simp only [grp]; omega
  | 3, _ => by have := bAt_bd s (i + 0); have := bAt_bd s (i + 1); have := bAt_bd s (i + 2); simp only [grp]; omega
def d64 : List UInt8 := [65, 66, 67, 68, 69, 70, 71, 72, 73, 74, 75, 76, 77, 78, 79, 80, 81, 82, 83, 84, 85, 86, 87, 88, 89, 90, 97, 98, 99, 100, 101, 102, 103, 104, 105, 106, 107, 108, 109, 110, 111, 112, 113, 114, 115, 116, 117, 118, 119, 120, 121, 122, 48, 49, 50, 51, 52, 53, 54, 55, 56, 57, 45, 95]
/-- Digit j of a number of 24 bits. -/
def dig (n : Int) (j : Nat) : Int := n / 2 ^ (18 - 6 * j) % 64
def encD (n : Int) (j : Nat) : List UInt8 := (List.range j).map fun j => d64.getD (dig n j).toNat 0
theorem encD_succ (n : Int) (j : Nat) : encD n (j + 1) = encD n j ++ [d64.getD (dig n j).toNat 0] := by simp [encD, List.range_succ]
theorem encD_length (n : Int) (j : Nat) : (encD n j).length = j := by simp [encD]
def many (s : ByteArray) (g : Nat) : Nat := min 3 (s.size - 3 * g)
def encTo (s : ByteArray) (g : Nat) : List UInt8 := (List.range g).flatMap fun g => encD (grp s (3 * g) 3) (many s g + 1)
theorem encTo_succ (s : ByteArray) (g : Nat) : encTo s (g + 1) = encTo s g ++ encD (grp s (3 * g) 3) (many s g + 1) := by simp [encTo, List.range_succ]
theorem encTo_le (s : ByteArray) (g : Nat) : (encTo s g).length ≤ 4 * g := by
  induction g with
  | zero => simp [encTo]
  | succ g ih => rw [encTo_succ, List.length_append, encD_length]; unfold many; omega
def enc64 (s : ByteArray) : List UInt8 := encTo s ((s.size + 2) / 3)
theorem d64_get (m : Nat) (h : m < 64) (h' : m < (⟨#[65, 66, 67, 68, 69, 70, 71, 72, 73, 74, 75, 76, 77, 78, 79, 80, 81, 82, 83, 84, 85, 86, 87, 88, 89, 90, 97, 98, 99, 100, 101, 102, 103, 104, 105, 106, 107, 108, 109, 110, 111, 112, 113, 114, 115, 116, 117, 118, 119, 120, 121, 122, 48, 49, 50, 51, 52, 53, 54, 55, 56, 57, 45, 95]⟩ : ByteArray).size) :
    (⟨#[65, 66, 67, 68, 69, 70, 71, 72, 73, 74, 75, 76, 77, 78, 79, 80, 81, 82, 83, 84, 85, 86, 87, 88, 89, 90, 97, 98, 99, 100, 101, 102, 103, 104, 105, 106, 107, 108, 109, 110, 111, 112, 113, 114, 115, 116, 117, 118, 119, 120, 121, 122, 48, 49, 50, 51, 52, 53, 54, 55, 56, 57, 45, 95]⟩ : ByteArray)[m]'h' = d64.getD m 0 := by
  show (#[65, 66, 67, 68, 69, 70, 71, 72, 73, 74, 75, 76, 77, 78, 79, 80, 81, 82, 83, 84, 85, 86, 87, 88, 89, 90, 97, 98, 99, 100, 101, 102, 103, 104, 105, 106, 107, 108, 109, 110, 111, 112, 113, 114, 115, 116, 117, 118, 119, 120, 121, 122, 48, 49, 50, 51, 52, 53, 54, 55, 56, 57, 45, 95] : Array UInt8)[m]'h' = _
  simp [d64, List.getD, h]
theorem shr18 (n : Int) (j : Nat) (h0 : 0 ≤ n) (h1 : n < 16777216) : 0 ≤ n / 2 ^ j ∧ n / 2 ^ j < 4294967296 := by
  refine ⟨Int.ediv_nonneg h0 (Int.pow_nonneg (by omega)), ?_⟩
  have := Int.ediv_le_self (2 ^ j) h0
  omega
theorem infoU8b : (Try.prog.info? 5).map (fun i => (i.zero, i.size, i.bytes)) = some (some (.int .u8 0), 1, 1) := by kernel_rfl

theorem encode_large (s : ByteArray) (w : World) (hs : s.size ≤ maxLen) (hl : 20000 < s.size) :
    Calls Try.prog 7 #[.string s] w fun e w' => e = .returned (.tuple #[.string ⟨#[]⟩, .int .i64 4]) ∧ w = w' := by
  unfold maxLen at hs
  go_enter Try.func7, Try.ntmps7
  go_wp2_with fail
  go_ret2
  exact ⟨rfl, rfl⟩

set_option maxRecDepth 100000 in
set_option maxHeartbeats 1000000 in
theorem encode_any (s : ByteArray) (w : World) (hs : s.size ≤ 20000) :
    Calls Try.prog 7 #[.string s] w fun e w' => e = .returned (.tuple #[.string ⟨(enc64 s).toArray⟩, .int .i64 0]) ∧ Below w.heap.size w w' := by
  obtain ⟨i0, hi, hz0, hz1, hz2⟩ := info_parts infoU8b
  go_enter Try.func7, Try.ntmps7
  go_wp2_with fail
  go_loopw [4, 5] (fun v i wr => ∃ g : Nat, 3 * g ≤ s.size + 2 ∧ i = .int .i64 (3 * (g : Int)) ∧ Below w.heap.size w wr ∧ w.heap.size ≤ wr.heap.size ∧ wr.ownsRow w.heap.size 5 1 v (encTo s g).length (byteCells (encTo s g)))
    (fun _ i _ => s.size + 3 - (intOf i).toNat)
  case atStart => exact ⟨0, by omega, rfl, Below.refl _ _, Nat.le_refl _, World.ownsRow_nil _ _ _ _⟩
  case round =>
    obtain ⟨g, hg, rfl, hbel, hsz, hown⟩ := hrel
    by_cases hlt : 3 * g < s.size
    · have hd0 : decide (3 * (g : Int) < (s.size : Int)) = true := by simp; omega
      have hm1 : (many s g : Int) ≤ 3 := by unfold many; omega
      have hm2 : (many s g : Int) ≤ s.size - 3 * (g : Int) := by unfold many; omega
      have hm3 : 1 ≤ (many s g : Int) := by unfold many; omega
      have hm4 : min (3 : Int) (s.size - 3 * (g : Int)) = (many s g : Int) := by unfold many; omega
      have HM := Lib.hid hm4
      have hm5 : ∀ k, k < 3 → (k < many s g ↔ 3 * g + k < s.size) := by unfold many; omega
      have H5 := Lib.hid hm5
      clear hm4 hm5
      have HN := Lib.hid (rfl : many s g = many s g)
      go_wp2_with fail
      rw [HM.out]
      generalize hmm : many s g = m at *
      have HMM := Lib.hid hmm
      clear hmm HM HN
      go_loop [6, 24] (fun n i => ∃ k : Nat, k ≤ 3 ∧ i = .int .i64 k ∧ n = .int .i64 (grp s (3 * g) k)) (fun _ i => 3 - (intOf i).toNat)
      case atStart => exact ⟨0, by omega, rfl, rfl⟩
      case round =>
        obtain ⟨k, hk, rfl, rfl⟩ := hrel
        have hgb := grp_bd s (3 * g) k hk
        have hg1 := hgb.1
        have hg2 := hgb.2.1
        by_cases hk3 : k < 3
        · have hg3 := hgb.2.2 (by omega)
          clear hgb
          have hiff := H5.out k hk3
          by_cases hin : 3 * g + k < s.size
          · have hkm : k < m := hiff.2 hin
            clear hiff
            have hbt : bAt s (3 * g + k) = (s[3 * g + k].toNat : Int) := by unfold bAt; rw [dif_pos hin]
            have HB := Lib.hid hbt
            clear hbt
            have hb256 := s[3 * g + k].toNat_lt
            go_wp2_with fail
            go_round
            case rel => exact ⟨k + 1, by omega, by go_num, by rw [grp, HB.out]⟩
            case measure => simp [intOf]; omega
          · have hkm : ¬ k < m := fun h => hin (hiff.1 h)
            clear hiff
            have hbt : bAt s (3 * g + k) = 0 := by unfold bAt; rw [dif_neg hin]
            have HB := Lib.hid hbt
            clear hbt
            go_wp2_with fail
            go_round
            case rel => exact ⟨k + 1, by omega, by go_num, by rw [grp, HB.out, Int.add_zero]⟩
            case measure => simp [intOf]; omega
        · have e3 : k = 3 := by omega
          have hne : grp s (3 * g) k = grp s (3 * g) 3 := by rw [e3]
          clear e3 hgb
          generalize hnn : grp s (3 * g) k = n at *
          have HN := Lib.hid hne
          clear hne hnn
          have hdk : decide ((k : Int) < 3) = false := by simp; omega
          go_wp2_with fail
          go_loopw [4, 43] (fun v i wr => ∃ j : Nat, j ≤ m + 1 ∧ i = .int .i64 j ∧ Below w.heap.size w wr ∧ w.heap.size ≤ wr.heap.size ∧ wr.ownsRow w.heap.size 5 1 v (encTo s g ++ encD n j).length (byteCells (encTo s g ++ encD n j)))
            (fun _ i _ => m + 1 - (intOf i).toNat)
          case atStart => exact ⟨0, by omega, rfl, hbel, hsz, by simpa [encD] using hown⟩
          case round =>
            clear hbel hsz hown
            obtain ⟨j, hj, rfl, hbel, hsz, hown⟩ := hrel
            by_cases hjt : j < m + 1
            · have hsb := shr18 n (18 - 6 * j) hg1 hg2
              have hm := i64_and63 _ hsb.1 hsb.2
              have hm0 : 0 ≤ bits BinOp.and IntKind.i64 (n / 2 ^ (18 - 6 * j)) 63 := by rw [hm]; omega
              have hm1 : bits BinOp.and IntKind.i64 (n / 2 ^ (18 - 6 * j)) 63 < 64 := by rw [hm]; omega
              have HD := Lib.hid hm
              have hll : (encTo s g ++ encD n j).length + 1 ≤ 140737488355328 := by have := encTo_le s g; rw [List.length_append, encD_length]; omega
              have HL := Lib.hid hll
              clear hm hsb hll
              go_wp2_with (at_builtin; refine wpList_append_byte hbel rfl _ _ 54 rfl 5 i0 (.int .u8 0) Try.underlying54 hi hz0 hz1 hz2 rfl _ _ rfl hown _ rfl HL.out (Nat.le_refl _) hsz ?_; intro v' w' hown' hbel' hsz')
              go_roundw
              case rel =>
                refine ⟨j + 1, by omega, by go_num, hbel', hsz', ?_⟩
                rw [encD_succ, ← List.append_assoc, dig, ← HD.out, ← d64_get _ (by omega)]
                exact hown'
              case measure => simp [intOf]; omega
            · have ej : j = m + 1 := by omega
              rw [ej] at hown
              clear ej
              go_wp2_with fail
              go_roundw
              case rel => exact ⟨g + 1, by omega, by go_num, hbel, hsz, by rw [encTo_succ, ← HN.out, HMM.out]; exact hown⟩
              case measure => simp [intOf]; omega
    · have eg : g = (s.size + 2) / 3 := by omega
      have HE : Hid (encTo s g = enc64 s) := by rw [eg]; rfl
      clear eg
      have hcv := run_convert_own (P := Try.prog) wr 54 5 Try.underlying54 Try.underlying5 hown 9 Try.underlying9
      go_wp2_with fail
      go_ret2
      exact ⟨by rw [← HE.out]; rfl, hbel⟩
end Go.Proofs.Ytjmnnnjddbmiaaa
