/- asset.Digest returns 32 digits of base 16 that the body alone determines; nothing that was there is turned. No conditions beyond the body's length. -/
import Derived.Test.YtckinhebbhflgaaProg
import Derived.WalkKit
import Derived.Test.YtckinhebbhflgaaBase
import Derived.Deep.QuietTactic
import Derived.BigQuiet
import Derived.Lib.Hide
import Derived.Handy
import Derived.Deep.RegionLaw
import Derived.Laws.CopyOwn
namespace Go.Proofs.Ytckinhebbhflgaa
open Go.RowKit Mh
set_option linter.unusedVariables false

def dgP (b p : Int) : Int := (p + b) % 4294967296 * 16777619 % 4294967296
def dgQ (b p q : Int) : Int := (q + (p + b) % 4294967296 * 16777619) % 4294967296 * 2654435761 % 4294967296
def dgR (b p q r : Int) : Int := (bits BinOp.xor IntKind.u32 r (dgQ b p q) + 374761393) % 4294967296
def dgS (b p q r s : Int) : Int := (s + 9 * dgR b p q r + b) % 4294967296


/-- The four words of the digest's state. -/
structure DgSt where
  p : Int
  q : Int
  r : Int
  s : Int
def dgRow (x : DgSt) : Array Value := #[.int .u32 x.p, .int .u32 x.q, .int .u32 x.r, .int .u32 x.s]
def dgNext (b : Int) (x : DgSt) : DgSt := ⟨dgQ b x.p x.q, dgR b x.p x.q x.r, dgS b x.p x.q x.r x.s, dgP b x.p⟩
def DgSt.nth (x : DgSt) : Nat → Int
  | 0 => x.p
  | 1 => x.q
  | 2 => x.r
  | _ => x.s
def dgInit : DgSt := ⟨1732584193, 4023233417, 2562383102, 271733878⟩
theorem dig1 (b p q r s : Int) (B T : Nat) (w : World)
    (hb0 : 0 ≤ b) (hb1 : b < 4294967296)
    (hh : w.heap[B]? = some (.cells #[.int .u32 p, .int .u32 q, .int .u32 r, .int .u32 s] T (0, 0))) :
    Calls Try.prog 17 #[.int .u32 b, .pointer (some ⟨B, 0, none⟩)] w fun e w' => e = .returned (.tuple #[]) ∧
      w'.heap[B]? = some (.cells #[.int .u32 (dgQ b p q), .int .u32 (dgR b p q r), .int .u32 (dgS b p q r s), .int .u32 (dgP b p)] T (0, 0)) ∧ Below B w w' := by
  have c0 : w.cell? ⟨B, 0, none⟩ = some (.int .u32 p) := by simp [World.cell?, hh]
  have c1 : w.cell? ⟨B, 1, none⟩ = some (.int .u32 q) := by simp [World.cell?, hh]
  have c2 : w.cell? ⟨B, 2, none⟩ = some (.int .u32 r) := by simp [World.cell?, hh]
  have c3 : w.cell? ⟨B, 3, none⟩ = some (.int .u32 s) := by simp [World.cell?, hh]
  have hB : B < w.heap.size := (Array.getElem?_eq_some_iff.1 hh).1
  have HH := Lib.hid hh
  clear hh
  go_enter Try.func17, Try.ntmps17
  go_wp2
  go_quiet (fail)
  have hbel : Below B w (w.drewN nq) := ⟨rfl, rfl, rfl, Nat.le_refl _, fun _ _ => rfl⟩
  have hh2 : (w.drewN nq).heap[B]? = w.heap[B]? := rfl
  rw [HH.out] at hh2
  have HH2 := Lib.hid hh2
  have HBel := Lib.hid hbel
  have hB : B < (w.drewN nq).heap.size := hB
  clear hbel hh2 c0 c1 c2 c3
  generalize w.drewN nq = w2 at *
  go_wp2
  have hcell : ∀ (o : Obj), (w2.alloc o).heap[B]? = some (.cells [Value.int .u32 p, .int .u32 q, .int .u32 r, .int .u32 s].toArray T (0, 0)) := fun o => by
    rw [heap_alloc_old w2 o hB]; exact HH2.out
  have HC := Lib.hid hcell
  clear hcell
  have hnews : ∀ (x0 x1 x2 x3 : Value) (t : Nat) (j : Nat) (v : Value), [x0, x1, x2, x3][j]? = some v → (w2.alloc (.cells #[x0, x1, x2, x3] t)).cell? (Addr.add ⟨w2.heap.size, 0, none⟩ j) = some v := by
    intro x0 x1 x2 x3 t j v hj
    have hlt : j < 4 := (List.getElem?_eq_some_iff.1 hj).1
    rw [Addr.add_lit, cell_of_row _ _ _ _ _ _ (heap_alloc_new w2 _)]
    simpa using hj
  have HN := Lib.hid hnews
  clear hnews
  go_region_law (refine step_copy_splice rfl (.tmp 39) (.tmp 40) 45 45 rfl 43 Try.underlying45 (by kernel_rfl) (some ⟨B, 0, none⟩) (some ⟨w2.heap.size, 0, none⟩) 4 4 4 4 rfl rfl B 0 [Value.int .u32 p, .int .u32 q, .int .u32 r, .int .u32 s] T (HC.out _) [.int .u32 (dgQ b p q), .int .u32 (dgR b p q r), .int .u32 (dgS b p q r s), .int .u32 (dgP b p)] rfl (fun _ => ⟨rfl, _, rfl, HN.out _ _ _ _ _⟩) (by simp) (by simp [Value.oneCell']) B w (Below.drew (Below.alloc HBel.out (by omega) _)) (Nat.le_refl _) ?_; intro w4 hg4 hb4)
  all_goals go_end0
  all_goals exact ⟨rfl, hg4.out, hb4⟩

theorem dig1x (b : Int) (x : DgSt) (B T : Nat) (w : World) (hb0 : 0 ≤ b) (hb1 : b < 4294967296) (hh : w.heap[B]? = some (.cells (dgRow x) T (0, 0))) :
    Calls Try.prog 17 #[.int .u32 b, .pointer (some ⟨B, 0, none⟩)] w fun e w' => e = .returned (.tuple #[]) ∧
      Hid (w'.heap[B]? = some (.cells (dgRow (dgNext b x)) T (0, 0))) ∧ Below B w w' :=
  (dig1 b x.p x.q x.r x.s B T w hb0 hb1 hh).mono fun e w' h => h

def dgBytes (l : List UInt8) (x : DgSt) : DgSt := l.foldl (fun x c => dgNext ((c.toNat : Int) % 4294967296) x) x
theorem dgBytes_snoc (l : List UInt8) (c : UInt8) (x : DgSt) : dgBytes (l ++ [c]) x = dgNext ((c.toNat : Int) % 4294967296) (dgBytes l x) := by simp [dgBytes]

def dgLb (n j : Nat) : Int := bits BinOp.and IntKind.u32 ((n : Int) / 2 ^ (8 * j) % 4294967296) 255
theorem dgLb_bd (n j : Nat) : 0 ≤ dgLb n j ∧ dgLb n j < 4294967296 := by
  unfold dgLb
  rw [u32_and255 _ (by omega) (by omega)]
  omega
def dgLens (n j : Nat) (x : DgSt) : DgSt := (List.range j).foldl (fun x j => dgNext (dgLb n j) x) x
theorem dgLens_succ (n j : Nat) (x : DgSt) : dgLens n (j + 1) x = dgNext (dgLb n j) (dgLens n j x) := by simp [dgLens, List.range_succ]
def dgZeros : Nat → DgSt → DgSt
  | 0, x => x
  | k + 1, x => dgNext 0 (dgZeros k x)
theorem dgZeros_succ (k : Nat) (x : DgSt) : dgZeros (k + 1) x = dgNext 0 (dgZeros k x) := rfl
def DgSt.ok (x : DgSt) : Prop := ∀ k, 0 ≤ x.nth k ∧ x.nth k < 4294967296
theorem dgNext_ok (b : Int) (x : DgSt) : (dgNext b x).ok := by
  intro k
  unfold DgSt.nth dgNext
  split <;> simp only [dgP, dgQ, dgR, dgS] <;> omega
theorem dgZeros_ok (k : Nat) (x : DgSt) : (dgZeros (k + 1) x).ok := dgNext_ok _ _
def hexD : List UInt8 := [48, 49, 50, 51, 52, 53, 54, 55, 56, 57, 97, 98, 99, 100, 101, 102]
/-- The digits of a word, the first k of eight. -/
def hexWord (n : Int) (k : Nat) : List UInt8 := (List.range k).map fun j => hexD.getD (n / 2 ^ (28 - 4 * j) % 16).toNat 0
def hexAll (k : Nat) (x : DgSt) : List UInt8 := (List.range k).flatMap fun j => hexWord (x.nth j) 8
theorem idxArr_0 (a b c d : Value) (w : World) : (Instr.index 44 (.agg #[a, b, c, d]) (.int .i64 0)).run Try.prog w = .ok a w := by kernel_rfl
theorem idxArr_1 (a b c d : Value) (w : World) : (Instr.index 44 (.agg #[a, b, c, d]) (.int .i64 1)).run Try.prog w = .ok b w := by kernel_rfl
theorem idxArr_2 (a b c d : Value) (w : World) : (Instr.index 44 (.agg #[a, b, c, d]) (.int .i64 2)).run Try.prog w = .ok c w := by kernel_rfl
theorem idxArr_3 (a b c d : Value) (w : World) : (Instr.index 44 (.agg #[a, b, c, d]) (.int .i64 3)).run Try.prog w = .ok d w := by kernel_rfl
theorem idxArr (x : DgSt) (k : Nat) (hk : k < 4) (w : World) : (Instr.index 44 (.agg #[Value.int IntKind.u32 x.p, Value.int IntKind.u32 x.q, Value.int IntKind.u32 x.r, Value.int IntKind.u32 x.s]) (.int .i64 k)).run Try.prog w = .ok (.int .u32 (x.nth k)) w := by
  match k, hk with
  | 0, _ => exact idxArr_0 _ _ _ _ w
  | 1, _ => exact idxArr_1 _ _ _ _ w
  | 2, _ => exact idxArr_2 _ _ _ _ w
  | 3, _ => exact idxArr_3 _ _ _ _ w
theorem hexWord_succ (n : Int) (j : Nat) : hexWord n (j + 1) = hexWord n j ++ [hexD.getD (n / 2 ^ (28 - 4 * j) % 16).toNat 0] := by simp [hexWord, List.range_succ]
theorem hexAll_succ (k : Nat) (x : DgSt) : hexAll (k + 1) x = hexAll k x ++ hexWord (x.nth k) 8 := by simp [hexAll, List.range_succ]
theorem hexWord_length (n : Int) (j : Nat) : (hexWord n j).length = j := by simp [hexWord]
theorem hexAll_length (k : Nat) (x : DgSt) : (hexAll k x).length = 8 * k := by
  induction k with
  | zero => rfl
  | succ k ih => rw [hexAll_succ, List.length_append, ih, hexWord_length]; omega
theorem hexD_get (m : Nat) (h : m < 16) (h' : m < (⟨#[48, 49, 50, 51, 52, 53, 54, 55, 56, 57, 97, 98, 99, 100, 101, 102]⟩ : ByteArray).size) :
    (⟨#[48, 49, 50, 51, 52, 53, 54, 55, 56, 57, 97, 98, 99, 100, 101, 102]⟩ : ByteArray)[m]'h' = hexD.getD m 0 := by
  show (#[48, 49, 50, 51, 52, 53, 54, 55, 56, 57, 97, 98, 99, 100, 101, 102] : Array UInt8)[m]'h' = _
  simp [hexD, List.getD, h]
theorem shr_bd (n : Int) (j : Nat) (h0 : 0 ≤ n) (h1 : n < 4294967296) : 0 ≤ n / 2 ^ j ∧ n / 2 ^ j < 4294967296 := by
  refine ⟨Int.ediv_nonneg h0 (Int.pow_nonneg (by omega)), ?_⟩
  exact Int.lt_of_le_of_lt (Int.ediv_le_self _ h0) h1
theorem infoU8 : (Try.prog.info? 5).map (fun i => (i.zero, i.size, i.bytes)) = some (some (.int .u8 0), 1, 1) := by kernel_rfl
/-- The digest's 32 digits. -/
def digest (s : ByteArray) : List UInt8 := hexAll 4 (dgZeros 16 (dgLens s.size 4 (dgBytes (List.take s.size s.data.toList) dgInit)))
theorem digest_length (s : ByteArray) : (digest s).length = 32 := by simp [digest, hexAll_length]
set_option maxRecDepth 100000 in
set_option maxHeartbeats 1000000 in
theorem digest_any (s : ByteArray) (w : World) (hs : s.size ≤ maxLen) :
    Calls Try.prog 10 #[.string s] w fun e w' => e = .returned (.string ⟨(digest s).toArray⟩) ∧ Below w.heap.size w w' := by
  unfold maxLen at hs
  obtain ⟨i0, hi, hz0, hz1, hz2⟩ := info_parts infoU8
  go_enter Try.func10, Try.ntmps10
  go_wp2_with fail
  go_loopw [5] (fun i wr => ∃ k : Nat, k ≤ s.size ∧ i = .int .i64 k ∧ Hid (wr.heap[w.heap.size]? = some (.cells (dgRow (dgBytes (s.data.toList.take k) dgInit)) 44 (0, 0))) ∧ Below w.heap.size w wr)
    (fun i _ => s.size - (intOf i).toNat)
  case atStart =>
    refine ⟨0, Nat.zero_le _, rfl, ?_, ?_⟩
    · show _ = _
      simpa [dgRow, dgBytes, dgInit] using heap_alloc_new w _
    · exact (Below.refl _ _).alloc (Nat.le_refl _) _
  case round =>
    obtain ⟨k, hk, rfl, hrow, hbel⟩ := hrel
    by_cases hlt : k < s.size
    · go_wp2_with (go_at_call 17; refine (dig1x _ _ _ _ _ (by omega) (by omega) hrow.out).mono ?_; rintro e w' ⟨rfl, hrow', hbel'⟩)
      go_roundw
      case rel =>
        refine ⟨k + 1, by omega, by go_num, ?_, hbel.trans hbel'⟩
        rw [take_snoc s k hlt, dgBytes_snoc]; exact hrow'
      case measure => simp [intOf]; omega
    · go_wp2_with fail
      obtain rfl : k = s.size := by omega
      clear hk hlt
      have HE : Hid (digest s = hexAll 4 (dgZeros 16 (dgLens s.size 4 (dgBytes (List.take s.size s.data.toList) dgInit)))) := rfl
      generalize dgBytes (List.take s.size s.data.toList) dgInit = st at *
      go_loopw [25] (fun i wr => ∃ k : Nat, k ≤ 4 ∧ i = .int .i64 k ∧ Hid (wr.heap[w.heap.size]? = some (.cells (dgRow (dgLens s.size k st)) 44 (0, 0))) ∧ Below w.heap.size w wr)
        (fun i _ => 4 - (intOf i).toNat)
      case atStart => exact ⟨0, by omega, rfl, hrow, hbel⟩
      case round =>
        clear hrow hbel
        obtain ⟨k, hk, rfl, hrow, hbel⟩ := hrel
        by_cases hlt : k < 4
        · go_wp2_with fail
          have hb := dgLb_bd s.size k
          unfold dgLb at hb
          refine (dig1x _ _ _ _ _ hb.1 hb.2 hrow.out).mono ?_
          rintro e w' ⟨rfl, hrow', hbel'⟩
          clear hb
          go_wp2_with fail
          go_roundw
          case rel => exact ⟨k + 1, by omega, by go_num, by rw [dgLens_succ]; exact hrow', hbel.trans hbel'⟩
          case measure => simp [intOf]; omega
        · have e4 : k = 4 := by omega
          rw [e4] at hrow
          clear e4
          generalize dgLens s.size 4 st = st2 at *
          go_wp2_with fail
          go_loopw [38] (fun i wr => ∃ k : Nat, k ≤ 16 ∧ i = .int .i64 k ∧ Hid (wr.heap[w.heap.size]? = some (.cells (dgRow (dgZeros k st2)) 44 (0, 0))) ∧ Below w.heap.size w wr)
            (fun i _ => 16 - (intOf i).toNat)
          case atStart => exact ⟨0, by omega, rfl, hrow, hbel⟩
          case round =>
            clear hrow hbel
            obtain ⟨k, hk, rfl, hrow, hbel⟩ := hrel
            by_cases hlt : k < 16
            · go_wp2_with (go_at_call 17; refine (dig1x _ _ _ _ _ (by omega) (by omega) hrow.out).mono ?_; rintro e w' ⟨rfl, hrow', hbel'⟩)
              go_roundw
              case rel => exact ⟨k + 1, by omega, by go_num, by rw [dgZeros_succ]; exact hrow', hbel.trans hbel'⟩
              case measure => simp [intOf]; omega
            · have e4 : k = 16 := by omega
              rw [e4] at hrow
              clear e4
              have HX := dgZeros_ok 15 st2
              generalize dgZeros 16 st2 = x at *
              have c0 : wr.cell? ⟨w.heap.size, 0, none⟩ = some (.int .u32 x.p) := by simp [World.cell?, hrow.out, dgRow]
              have c1 : wr.cell? ⟨w.heap.size, 1, none⟩ = some (.int .u32 x.q) := by simp [World.cell?, hrow.out, dgRow]
              have c2 : wr.cell? ⟨w.heap.size, 2, none⟩ = some (.int .u32 x.r) := by simp [World.cell?, hrow.out, dgRow]
              have c3 : wr.cell? ⟨w.heap.size, 3, none⟩ = some (.int .u32 x.s) := by simp [World.cell?, hrow.out, dgRow]
              go_wp2_with fail
              clear c0 c1 c2 c3
              have hidx := idxArr x
              have HI := Lib.hid hidx
              clear hidx
              obtain ⟨wo, hwo⟩ : ∃ wo : World, wo = wr := ⟨_, rfl⟩
              rw [← hwo] at hrow hbel ⊢
              clear hwo
              go_loopw [7, 44] (fun v i wr => ∃ k : Nat, k ≤ 4 ∧ i = .int .i64 k ∧ Below w.heap.size w wr ∧ w.heap.size ≤ wr.heap.size ∧ wr.ownsRow w.heap.size 5 1 v (hexAll k x).length (byteCells (hexAll k x)))
                (fun _ i _ => 4 - (intOf i).toNat)
              case atStart => exact ⟨0, by omega, rfl, hbel, hbel.size, World.ownsRow_nil _ _ _ _⟩
              case round =>
                clear hrow hbel
                obtain ⟨k, hk, rfl, hbel, hsz, hown⟩ := hrel
                by_cases hlt : k < 4
                · have hix := HI.out k hlt
                  have hdk : decide ((k : Int) < 4) = true := by simp; omega
                  go_wp2_with fail
                  clear hix
                  obtain ⟨wq, hwq⟩ : ∃ wq : World, wq = wr := ⟨_, rfl⟩
                  rw [← hwq] at hown hbel hsz ⊢
                  clear hwq
                  have hnk := HX k
                  generalize hnkE : x.nth k = nk at *
                  have HNK := Lib.hid hnkE
                  clear hnkE
                  go_loopw [7, 10] (fun v i wr => ∃ j : Nat, j ≤ 8 ∧ i = .int .i64 (28 - 4 * (j : Int)) ∧ Below w.heap.size w wr ∧ w.heap.size ≤ wr.heap.size ∧ wr.ownsRow w.heap.size 5 1 v (hexAll k x ++ hexWord nk j).length (byteCells (hexAll k x ++ hexWord nk j)))
                    (fun _ i _ => (intOf i + 4).toNat)
                  case atStart => exact ⟨0, by omega, rfl, hbel, hsz, by simpa [hexWord] using hown⟩
                  case round =>
                    clear hbel hsz hown
                    obtain ⟨j, hj, rfl, hbel, hsz, hown⟩ := hrel
                    by_cases hjt : j < 8
                    · have hsb := shr_bd nk (28 - 4 * j) hnk.1 hnk.2
                      have hm := u32_and15 _ hsb.1 hsb.2
                      have hm0 : 0 ≤ bits BinOp.and IntKind.u32 (nk / 2 ^ (28 - 4 * j)) 15 := by rw [hm]; omega
                      have hm1 : bits BinOp.and IntKind.u32 (nk / 2 ^ (28 - 4 * j)) 15 < 16 := by rw [hm]; omega
                      have HM := Lib.hid hm
                      have hll : (hexAll k x ++ hexWord nk j).length + 1 ≤ 140737488355328 := by rw [List.length_append, hexAll_length, hexWord_length]; omega
                      have HL := Lib.hid hll
                      clear hm hsb hll
                      go_wp2_with (at_builtin; refine wpList_append_byte hbel rfl _ _ 47 rfl 5 i0 (.int .u8 0) Try.underlying47 hi hz0 hz1 hz2 rfl _ _ rfl hown _ rfl HL.out (Nat.le_refl _) hsz ?_; intro v' w' hown' hbel' hsz')
                      go_roundw
                      case rel =>
                        refine ⟨j + 1, by omega, by go_num, hbel', hsz', ?_⟩
                        rw [hexWord_succ, ← List.append_assoc, ← HM.out, ← hexD_get _ (by omega)]
                        exact hown'
                      case measure => simp [intOf]; omega
                    · have e8 : j = 8 := by omega
                      rw [e8] at hown
                      clear e8
                      go_wp2_with fail
                      go_roundw
                      case rel => exact ⟨k + 1, by omega, by go_num, hbel, hsz, by rw [hexAll_succ, HNK.out]; exact hown⟩
                      case measure => simp [intOf]; omega
                · have e4 : k = 4 := by omega
                  rw [e4] at hown
                  have hcv := run_convert_own (P := Try.prog) wr 47 5 Try.underlying47 Try.underlying5 hown 9 Try.underlying9
                  clear e4
                  go_wp2_with fail
                  go_ret
                  exact ⟨by rw [HE.out]; rfl, hbel⟩
end Go.Proofs.Ytckinhebbhflgaa
