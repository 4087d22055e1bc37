/- What (*strings.byteStringReplacer).Replace counts and writes: the plain part, and the table's cells read. Conditions: the table. · (*strings.byteStringReplacer).Replace at conf's table. Conditions: the table; the string at most 2^30 long. · (*strings.Replacer).Replace on a new replacer, and conf.quoted. Conditions: the string at most 10^9 long. -/
import Derived.Test.YtejnoedlfbglcaaGreatDoorReC
import Derived.Test.YtejnoedlfbglcaaGreatDoorPaP
import Derived.Lib.Bytealg
import Derived.Laws.CopyOwn
import Derived.Test.YtejnoedlfbglcaaGreatDoorShelf
import Derived.Laws.MakeOwn
import Derived.Deep.QuietTactic
import Derived.BigQuiet
namespace Go.Proofs.YtejnoedlfbglcaaGreatDoor
open Go.RowKit Mh
set_option linter.unusedVariables false

def spec (c : UInt8) : Bool := c.toNat == 92 || c.toNat == 34 || c.toNat == 9 || c.toNat == 10
theorem u8_of {c : UInt8} {n : Nat} (h : c.toNat = n) : c = UInt8.ofNat n := by rw [← h]; simp
theorem esc_plain {c : UInt8} (h : spec c = false) : escL c = [c] := by
  simp [spec] at h
  unfold escL
  rw [if_neg h.2, if_neg h.1.2, if_neg h.1.1.2, if_neg h.1.1.1]
theorem esc_two {c : UInt8} (h : spec c = true) : ∃ y, escL c = [92, y] ∧ (c.toNat, y) ∈ pairs := by
  simp [spec] at h
  unfold escL pairs
  rcases h with ((h | h) | h) | h <;> simp [h]
theorem flat_len (l : List UInt8) : (l.flatMap escL).length = l.length + l.countP spec := by
  induction l with
  | nil => rfl
  | cons c l ih =>
    rw [List.flatMap_cons, List.length_append, ih, List.length_cons, List.countP_cons]
    cases h : spec c with
    | false => rw [esc_plain h]; simp; omega
    | true => obtain ⟨y, e, _⟩ := esc_two h; rw [e]; simp; omega
theorem flat_none (l : List UInt8) (h : l.countP spec = 0) : l.flatMap escL = l := by
  induction l with
  | nil => rfl
  | cons c l ih =>
    rw [List.countP_cons] at h
    cases hc : spec c with
    | false => rw [List.flatMap_cons, esc_plain hc, ih (by omega)]; rfl
    | true => rw [hc, if_pos rfl] at h; omega
theorem count_four (l : List UInt8) : Lib.countByte l 92 + Lib.countByte l 34 + Lib.countByte l 9 + Lib.countByte l 10 = l.countP spec := by
  unfold Lib.countByte
  induction l with
  | nil => rfl
  | cons c l ih =>
    rw [List.count_cons, List.count_cons, List.count_cons, List.count_cons, List.countP_cons, ← ih]
    have e : ∀ n : Nat, n < 256 → ((c == UInt8.ofNat n) = (c.toNat == n)) := fun n hn => by
      by_cases h : c.toNat = n
      · subst h; simp
      · have h2 : c ≠ UInt8.ofNat n := fun e => h (by rw [e, UInt8.toNat_ofNat']; omega)
        rw [beq_false_of_ne h2, beq_false_of_ne h]
    have e1 := e 92 (by omega)
    have e2 := e 34 (by omega)
    have e3 := e 9 (by omega)
    have e4 := e 10 (by omega)
    change (c == 92) = _ at e1; change (c == 34) = _ at e2; change (c == 9) = _ at e3; change (c == 10) = _ at e4
    rw [e1, e2, e3, e4]
    unfold spec
    by_cases h1 : c.toNat = 92
    · simp [h1]; omega
    by_cases h2 : c.toNat = 34
    · simp [h2]; omega
    by_cases h3 : c.toNat = 9
    · simp [h3]; omega
    by_cases h4 : c.toNat = 10
    · simp [h4]; omega
    simp [h1, h2, h3, h4]
theorem Bsr.hit {b0 B : Nat} {W : World} (h : Bsr b0 W B) {c : UInt8} (hc : spec c = true) : ∃ (P k : Nat) (y : UInt8), W.cell? ⟨B, c.toNat, none⟩ = some (.slice (some ⟨P, 0, none⟩) 2 k) ∧ 2 ≤ k ∧ k ≤ maxLen ∧ W.cell? ⟨P, 0, none⟩ = some (.int .u8 92) ∧ W.cell? ⟨P, 1, none⟩ = some (.int .u8 (y.toNat : Int)) ∧ b0 ≤ P ∧ escL c = [92, y] := by
  obtain ⟨y, e, hm⟩ := esc_two hc
  obtain ⟨P, k, h1, h2, h3, h4, h5, h6⟩ := h.at_ _ hm
  exact ⟨P, k, y, h1, h2, h3, h4, h5, h6, e⟩
theorem Bsr.miss {b0 B : Nat} {W : World} (h : Bsr b0 W B) {c : UInt8} (hc : spec c = false) : W.cell? ⟨B, c.toNat, none⟩ = some (.slice none 0 0) := by
  refine h.rest _ (UInt8.toNat_lt c) (fun p hp e => ?_)
  simp [spec] at hc
  simp [pairs] at hp
  rcases hp with rfl | rfl | rfl | rfl <;> simp at e <;> omega
theorem take_next {l : List UInt8} {j : Nat} (h : j < l.length) : l.take (j + 1) = l.take j ++ [l[j]] := by
  rw [List.take_add_one, List.getElem?_eq_getElem h]; rfl
/-- Where the byte j is written, and the buffer then. -/
def Jn (l : List UInt8) (j : Nat) : Nat := ((l.take j).flatMap escL).length
def bfRow (l : List UInt8) (j N : Nat) : List Value := byteCells ((l.take j).flatMap escL) ++ List.replicate (N - Jn l j) (.int .u8 0)
theorem Jn_next {l : List UInt8} {j : Nat} (h : j < l.length) : Jn l (j + 1) = Jn l j + (escL l[j]).length := by
  unfold Jn; rw [take_next h, List.flatMap_append, List.length_append]; simp
theorem Jn_le (l : List UInt8) (j : Nat) : Jn l j ≤ (l.flatMap escL).length := by
  have : l.flatMap escL = (l.take j).flatMap escL ++ (l.drop j).flatMap escL := by rw [← List.flatMap_append, List.take_append_drop]
  rw [this, List.length_append]; unfold Jn; omega
theorem bc_len (l : List UInt8) (j : Nat) : (byteCells ((l.take j).flatMap escL)).length = Jn l j := by simp [byteCells, Jn]
theorem bf_len {l : List UInt8} {j N : Nat} (h : Jn l j ≤ N) : (bfRow l j N).length = N := by
  unfold bfRow; rw [List.length_append, bc_len, List.length_replicate]; omega
theorem bf_get {l : List UInt8} {j N : Nat} (h : Jn l j < N) : (bfRow l j N)[Jn l j]? = some (.int .u8 0) := by
  unfold bfRow
  rw [List.getElem?_append_right (by rw [bc_len]; exact Nat.le_refl _), bc_len, List.getElem?_replicate, if_pos (by omega)]
theorem bf_one {l : List UInt8} {j N : Nat} (hj : j < l.length) (he : escL l[j] = [l[j]]) (h : Jn l j < N) : (bfRow l j N).set (Jn l j) (.int .u8 (l[j].toNat : Int)) = bfRow l (j + 1) N := by
  unfold bfRow
  rw [List.set_append_right _ _ (by rw [bc_len]; exact Nat.le_refl _), bc_len, Jn_next hj, he, take_next hj, List.flatMap_append]
  have : N - Jn l j = (N - (Jn l j + 1)) + 1 := by omega
  rw [this, List.replicate_succ, Nat.sub_self]
  simp [byteCells, he]
theorem bf_two {l : List UInt8} {j N : Nat} {y : UInt8} (hj : j < l.length) (he : escL l[j] = [92, y]) (h : Jn l j + 2 ≤ N) : splice (bfRow l j N) (Jn l j) [.int .u8 92, .int .u8 (y.toNat : Int)] = bfRow l (j + 1) N := by
  unfold bfRow splice
  rw [List.take_append_of_le_length (by rw [bc_len]; exact Nat.le_refl _), List.take_of_length_le (by rw [bc_len]; exact Nat.le_refl _), Jn_next hj, he, take_next hj, List.flatMap_append,
    List.drop_append, List.drop_eq_nil_of_le (by rw [bc_len]; simp), bc_len]
  have e : Jn l j + [Value.int .u8 92, .int .u8 (y.toNat : Int)].length - Jn l j = 2 := by simp
  rw [e, List.drop_replicate]
  have : N - Jn l j - 2 = N - (Jn l j + [92, y].length) := by simp; omega
  rw [this]
  simp [byteCells, he]
theorem bf_end (l : List UInt8) (N : Nat) (h : N = (l.flatMap escL).length) : bfRow l l.length N = byteCells (l.flatMap escL) := by
  unfold bfRow Jn; subst h; simp
theorem bf_start (l : List UInt8) (N : Nat) : bfRow l 0 N = List.replicate N (.int .u8 0) := by simp [bfRow, Jn, byteCells]
theorem made_one (z : Value) (n : Nat) : madeCells #[z] n = (List.replicate n z).toArray := by
  apply Array.ext
  · simp [madeCells]
  · intro i h1 h2
    simp [madeCells, Nat.mod_one]
end Go.Proofs.YtejnoedlfbglcaaGreatDoor
namespace Go.Proofs.YtejnoedlfbglcaaGreatDoor
open Go.RowKit Mh
set_option linter.unusedVariables false

/-- The counts of the first bytes of the table. -/
def cUp (l : List UInt8) : Nat → Nat
  | 0 => 0
  | 1 => Lib.countByte l 92
  | 2 => Lib.countByte l 92 + Lib.countByte l 34
  | 3 => Lib.countByte l 92 + Lib.countByte l 34 + Lib.countByte l 9
  | _ => Lib.countByte l 92 + Lib.countByte l 34 + Lib.countByte l 9 + Lib.countByte l 10
theorem nil_bytes_ne (w : World) : (binOp .neq 63 (.slice none 0 0) (.slice none 0 0)).run Tryz.prog w = .ok (.bool false) w := by kernel_rfl
theorem infoU8c : (Tryz.prog.info? 5).map (fun i => (i.zero, i.size, i.bytes)) = some (some (.int .u8 0), 1, 1) := by kernel_rfl
theorem nil_bytes_some (w : World) (P k : Nat) : (binOp .neq 63 (.slice (some ⟨P, 0, none⟩) 2 k) (.slice none 0 0)).run Tryz.prog w = .ok (.bool true) w := by kernel_rfl
theorem data_at (s : ByteArray) (k : Nat) (h : k < s.size) (h2 : k < s.data.toList.length) : s.data.toList[k] = s[k] := by simp [← Array.getElem_toList, ByteArray.getElem_eq_getElem_data]
set_option maxRecDepth 100000 in
set_option maxHeartbeats 16000000 in
theorem bsr_any (b0 B : Nat) (s : ByteArray) (w : World) (h : Bsr b0 w B) (hs : s.size ≤ 1000000000) (hbw : b0 ≤ w.heap.size) :
    Calls Tryz.prog 202 #[.pointer (some ⟨B, 0, none⟩), .string s] w fun e w' => e = .returned (.string ⟨(s.data.toList.flatMap escL).toArray⟩) ∧ Below w.heap.size w w' := by
  have HB := Lib.hid h
  obtain ⟨g, gc, l256, hg0, t0, t1, t2, t3⟩ := h.last
  have hl : s.data.toList.length = s.size := by rw [Array.length_toList]; rfl
  obtain ⟨n0, hn0⟩ : ∃ n, Lib.countByte s.data.toList 92 = n := ⟨_, rfl⟩
  obtain ⟨n1, hn1⟩ : ∃ n, Lib.countByte s.data.toList 34 = n := ⟨_, rfl⟩
  obtain ⟨n2, hn2⟩ : ∃ n, Lib.countByte s.data.toList 9 = n := ⟨_, rfl⟩
  obtain ⟨n3, hn3⟩ : ∃ n, Lib.countByte s.data.toList 10 = n := ⟨_, rfl⟩
  obtain ⟨cn, hcn⟩ : ∃ cn, s.data.toList.countP spec = cn := ⟨_, rfl⟩
  have HSUM : Hid (n0 + n1 + n2 + n3 = cn) := by show _ = _; rw [← hcn]; rw [← hn0, ← hn1, ← hn2, ← hn3]; exact count_four _
  have m0 : n0 ≤ 1000000000 := by rw [← hn0]; have := List.count_le_length (a := (92 : UInt8)) (l := s.data.toList); unfold Lib.countByte; omega
  have m1 : n1 ≤ 1000000000 := by rw [← hn1]; have := List.count_le_length (a := (34 : UInt8)) (l := s.data.toList); unfold Lib.countByte; omega
  have m2 : n2 ≤ 1000000000 := by rw [← hn2]; have := List.count_le_length (a := (9 : UInt8)) (l := s.data.toList); unfold Lib.countByte; omega
  have m3 : n3 ≤ 1000000000 := by rw [← hn3]; have := List.count_le_length (a := (10 : UInt8)) (l := s.data.toList); unfold Lib.countByte; omega
  have HC0 : Hid (∀ w, Calls Tryz.prog 51 #[.string s, .string ⟨#[92]⟩] w fun e w' => e = .returned (.int .i64 (n0 : Int)) ∧ w' = w) := fun w => by have := Tryz.strings_Count_one s 92 w; rwa [hn0] at this
  have HC1 : Hid (∀ w, Calls Tryz.prog 51 #[.string s, .string ⟨#[34]⟩] w fun e w' => e = .returned (.int .i64 (n1 : Int)) ∧ w' = w) := fun w => by have := Tryz.strings_Count_one s 34 w; rwa [hn1] at this
  have HC2 : Hid (∀ w, Calls Tryz.prog 51 #[.string s, .string ⟨#[9]⟩] w fun e w' => e = .returned (.int .i64 (n2 : Int)) ∧ w' = w) := fun w => by have := Tryz.strings_Count_one s 9 w; rwa [hn2] at this
  have HC3 : Hid (∀ w, Calls Tryz.prog 51 #[.string s, .string ⟨#[10]⟩] w fun e w' => e = .returned (.int .i64 (n3 : Int)) ∧ w' = w) := fun w => by have := Tryz.strings_Count_one s 10 w; rwa [hn3] at this
  have HCN := Lib.hid hcn
  clear hn0 hn1 hn2 hn3 h hcn
  obtain ⟨big, hbig⟩ : ∃ big, decide ((32 : Int) ≤ (s.size : Int)) = big := ⟨_, rfl⟩
  go_enter Tryz.func202, Tryz.ntmps202
  go_upto_if 26 with fail
  clear hbig
  go_cut [5, 6] from 26 to 80 (fun v5 v6 wx => Hid (Below w.heap.size w wx) ∧ v5 = .int .i64 ((s.size + cn : Nat) : Int) ∧ v6 = .bool (decide (0 < cn)))
  case first =>
    cases big with
    | true =>
      obtain ⟨P0, k0, y0, r0, _, _, _, _, _, _⟩ := HB.out.hit (c := 92) (by decide)
      obtain ⟨P1, k1, y1, r1, _, _, _, _, _, _⟩ := HB.out.hit (c := 34) (by decide)
      obtain ⟨P2, k2, y2, r2, _, _, _, _, _, _⟩ := HB.out.hit (c := 9) (by decide)
      obtain ⟨P3, k3, y3, r3, _, _, _, _, _, _⟩ := HB.out.hit (c := 10) (by decide)
      have r0 : w.cell? ⟨B, 92, none⟩ = some (.slice (some ⟨P0, 0, none⟩) 2 k0) := r0
      have r1 : w.cell? ⟨B, 34, none⟩ = some (.slice (some ⟨P1, 0, none⟩) 2 k1) := r1
      have r2 : w.cell? ⟨B, 9, none⟩ = some (.slice (some ⟨P2, 0, none⟩) 2 k2) := r2
      have r3 : w.cell? ⟨B, 10, none⟩ = some (.slice (some ⟨P3, 0, none⟩) 2 k3) := r3
      have hx0 : ((⟨#[92]⟩ : ByteArray)[0]'(by decide)).toNat = 92 := rfl
      have hx1 : ((⟨#[34]⟩ : ByteArray)[0]'(by decide)).toNat = 34 := rfl
      have hx2 : ((⟨#[9]⟩ : ByteArray)[0]'(by decide)).toNat = 9 := rfl
      have hx3 : ((⟨#[10]⟩ : ByteArray)[0]'(by decide)).toNat = 10 := rfl
      have HT : Hid (∀ w', Below w.heap.size w w' → (w'.cell? ⟨g, 0, none⟩ = some (.string ⟨#[92]⟩) ∧ w'.cell? ⟨g, 1, none⟩ = some (.string ⟨#[34]⟩) ∧ w'.cell? ⟨g, 2, none⟩ = some (.string ⟨#[9]⟩) ∧ w'.cell? ⟨g, 3, none⟩ = some (.string ⟨#[10]⟩)) ∧ w'.cell? ⟨B, 92, none⟩ = some (.slice (some ⟨P0, 0, none⟩) 2 k0) ∧ w'.cell? ⟨B, 34, none⟩ = some (.slice (some ⟨P1, 0, none⟩) 2 k1) ∧ w'.cell? ⟨B, 9, none⟩ = some (.slice (some ⟨P2, 0, none⟩) 2 k2) ∧ w'.cell? ⟨B, 10, none⟩ = some (.slice (some ⟨P3, 0, none⟩) 2 k3)) := fun w' hb => by
        have e : ∀ q j u, w.cell? ⟨q, j, none⟩ = some u → w'.cell? ⟨q, j, none⟩ = some u := fun q j u hu => (hb.cell (p := ⟨q, j, none⟩) (World.block_lt_of_cell? w _ hu)).trans hu
        exact ⟨⟨e _ _ _ t0, e _ _ _ t1, e _ _ _ t2, e _ _ _ t3⟩, e _ _ _ r0, e _ _ _ r1, e _ _ _ r2, e _ _ _ r3⟩
      go_wp2_with fail
      clear r0 r1 r2 r3 t0 t1 t2 t3
      go_loopw [5, 6, 32] (fun n a i wr => Hid (Below w.heap.size w wr) ∧ ∃ (k m : Nat), ((k = 0 ∧ m = 0) ∨ (k = 1 ∧ m = n0) ∨ (k = 2 ∧ m = n0 + n1) ∨ (k = 3 ∧ m = n0 + n1 + n2) ∨ (k = 4 ∧ m = cn)) ∧ i = .int .i64 (k : Int) ∧ n = .int .i64 ((s.size + m : Nat) : Int) ∧ a = .bool (decide (0 < m))) (fun _ _ i _ => 4 - (intOf i).toNat)
      case atStart => exact ⟨Below.refl _ _, 0, 0, .inl ⟨rfl, rfl⟩, rfl, rfl, rfl⟩
      case round =>
        obtain ⟨HBW, k, m, hkm, rfl, rfl, rfl⟩ := hrel
        obtain ⟨⟨t0, t1, t2, t3⟩, r0, r1, r2, r3⟩ := HT.out _ HBW.out
        have hm : m ≤ 4000000000 := by have := HSUM.out; omega
        rcases hkm with ⟨rfl, hm2⟩ | ⟨rfl, hm2⟩ | ⟨rfl, hm2⟩ | ⟨rfl, hm2⟩ | ⟨rfl, hm2⟩
        · have HM := Lib.hid hm2
          clear hm2
          by_cases hz : n0 = 0
          · have HC : Hid (∀ w, Calls Tryz.prog 51 #[.string s, .string ⟨#[92]⟩] w fun e w' => e = .returned (.int .i64 0) ∧ w' = w) := fun w => by have := HC0.out w; rwa [hz] at this
            have HZ := Lib.hid hz
            clear hz
            go_wp2_with (go_at_call 51; refine (HC.out _).mono ?_; rintro e w' ⟨rfl, rfl⟩)
            go_roundw
            case rel => exact ⟨HBW, 1, m, (by have := HZ.out; have := HM.out; exact .inr (.inl ⟨rfl, by omega⟩)), rfl, rfl, rfl⟩
            case measure => simp [intOf]
          · have hz2 : ¬ (n0 : Int) = 0 := by omega
            have HZ := Lib.hid hz
            clear hz
            go_wp2_with (go_at_call 51; refine (HC0.out _).mono ?_; rintro e w' ⟨rfl, rfl⟩)
            go_quiet (fail)
            go_wp2_with fail
            go_roundw
            case rel => exact ⟨below_drewN HBW.out _, 1, m + n0, (by have := HZ.out; have := HM.out; exact .inr (.inl ⟨rfl, by omega⟩)), rfl, by congr 1; push_cast; omega, by have := HZ.out; congr 1; symm; simp; omega⟩
            case measure => simp [intOf]
        · have HM := Lib.hid hm2
          clear hm2
          by_cases hz : n1 = 0
          · have HC : Hid (∀ w, Calls Tryz.prog 51 #[.string s, .string ⟨#[34]⟩] w fun e w' => e = .returned (.int .i64 0) ∧ w' = w) := fun w => by have := HC1.out w; rwa [hz] at this
            have HZ := Lib.hid hz
            clear hz
            go_wp2_with (go_at_call 51; refine (HC.out _).mono ?_; rintro e w' ⟨rfl, rfl⟩)
            go_roundw
            case rel => exact ⟨HBW, 2, m, (by have := HZ.out; have := HM.out; exact .inr (.inr (.inl ⟨rfl, by omega⟩))), rfl, rfl, rfl⟩
            case measure => simp [intOf]
          · have hz2 : ¬ (n1 : Int) = 0 := by omega
            have HZ := Lib.hid hz
            clear hz
            go_wp2_with (go_at_call 51; refine (HC1.out _).mono ?_; rintro e w' ⟨rfl, rfl⟩)
            go_quiet (fail)
            go_wp2_with fail
            go_roundw
            case rel => exact ⟨below_drewN HBW.out _, 2, m + n1, (by have := HZ.out; have := HM.out; exact .inr (.inr (.inl ⟨rfl, by omega⟩))), rfl, by congr 1; push_cast; omega, by have := HZ.out; congr 1; symm; simp; omega⟩
            case measure => simp [intOf]
        · have HM := Lib.hid hm2
          clear hm2
          by_cases hz : n2 = 0
          · have HC : Hid (∀ w, Calls Tryz.prog 51 #[.string s, .string ⟨#[9]⟩] w fun e w' => e = .returned (.int .i64 0) ∧ w' = w) := fun w => by have := HC2.out w; rwa [hz] at this
            have HZ := Lib.hid hz
            clear hz
            go_wp2_with (go_at_call 51; refine (HC.out _).mono ?_; rintro e w' ⟨rfl, rfl⟩)
            go_roundw
            case rel => exact ⟨HBW, 3, m, (by have := HZ.out; have := HM.out; exact .inr (.inr (.inr (.inl ⟨rfl, by omega⟩)))), rfl, rfl, rfl⟩
            case measure => simp [intOf]
          · have hz2 : ¬ (n2 : Int) = 0 := by omega
            have HZ := Lib.hid hz
            clear hz
            go_wp2_with (go_at_call 51; refine (HC2.out _).mono ?_; rintro e w' ⟨rfl, rfl⟩)
            go_quiet (fail)
            go_wp2_with fail
            go_roundw
            case rel => exact ⟨below_drewN HBW.out _, 3, m + n2, (by have := HZ.out; have := HM.out; exact .inr (.inr (.inr (.inl ⟨rfl, by omega⟩)))), rfl, by congr 1; push_cast; omega, by have := HZ.out; congr 1; symm; simp; omega⟩
            case measure => simp [intOf]
        · have HM := Lib.hid hm2
          clear hm2
          by_cases hz : n3 = 0
          · have HC : Hid (∀ w, Calls Tryz.prog 51 #[.string s, .string ⟨#[10]⟩] w fun e w' => e = .returned (.int .i64 0) ∧ w' = w) := fun w => by have := HC3.out w; rwa [hz] at this
            have HZ := Lib.hid hz
            clear hz
            go_wp2_with (go_at_call 51; refine (HC.out _).mono ?_; rintro e w' ⟨rfl, rfl⟩)
            go_roundw
            case rel => exact ⟨HBW, 4, m, (by have := HZ.out; have := HM.out; exact .inr (.inr (.inr (.inr ⟨rfl, by have := HSUM.out; omega⟩)))), rfl, rfl, rfl⟩
            case measure => simp [intOf]
          · have hz2 : ¬ (n3 : Int) = 0 := by omega
            have HZ := Lib.hid hz
            clear hz
            go_wp2_with (go_at_call 51; refine (HC3.out _).mono ?_; rintro e w' ⟨rfl, rfl⟩)
            go_quiet (fail)
            go_wp2_with fail
            go_roundw
            case rel => exact ⟨below_drewN HBW.out _, 4, m + n3, (by have := HZ.out; have := HM.out; exact .inr (.inr (.inr (.inr ⟨rfl, by have := HSUM.out; omega⟩)))), rfl, by congr 1; push_cast; omega, by have := HZ.out; congr 1; symm; simp; omega⟩
            case measure => simp [intOf]
        · go_wp2_with fail
          go_meet
          exact ⟨HBW, by rw [hm2], by rw [hm2]⟩
    | false =>
      have HK2 : Hid (∀ w', Below w.heap.size w w' → Bsr b0 w' B) := fun w' hb => HB.out.keep (fun b h1 h2 => hb.block b h2)
      clear t0 t1 t2 t3 l256
      go_wp2_with fail
      go_loopw [5, 6, 10] (fun n a i wr => Hid (Below w.heap.size w wr) ∧ ∃ (j m : Nat), j ≤ s.size ∧ Hid (m = (s.data.toList.take j).countP spec) ∧ i = .int .i64 (j : Int) ∧ n = .int .i64 ((s.size + m : Nat) : Int) ∧ a = .bool (decide (0 < m))) (fun _ _ i _ => s.size - (intOf i).toNat)
      case atStart => exact ⟨Below.refl _ _, 0, 0, by omega, rfl, rfl, rfl, rfl⟩
      case round =>
        obtain ⟨HBW, j, m, hj, HM, rfl, rfl, rfl⟩ := hrel
        have hm : m ≤ 1000000000 := by have := HM.out; have h2 := List.countP_le_length (p := spec) (l := s.data.toList.take j); rw [List.length_take] at h2; omega
        by_cases hlt : j < s.size
        · have h256 : (s[j].toNat : Int) < 256 := by have := UInt8.toNat_lt s[j]; omega
          have HN : Hid ((s.data.toList.take (j + 1)).countP spec = m + (if spec s[j] = true then 1 else 0)) := by
            show _ = _
            rw [take_next (by omega), List.countP_append, ← HM.out, List.countP_singleton, data_at s j hlt]
          cases hc : spec s[j] with
          | true =>
            obtain ⟨P, k, y, r0, hk2, hkm, r1, r2, hP, HE⟩ := (HK2.out _ HBW.out).hit hc
            have hne := fun w => nil_bytes_some w P k
            rw [hc, if_pos rfl] at HN
            clear HE hc r1 r2 hP
            go_wp2_with fail
            go_roundw
            case rel => exact ⟨HBW, j + 1, m + 1, by omega, HN.out.symm, by first | rfl | go_num, by first | rfl | (congr 1; push_cast; omega), by first | rfl | (congr 1; symm; simp)⟩
            case measure => first | (simp [intOf]; omega) | go_num
          | false =>
            have r0 := (HK2.out _ HBW.out).miss hc
            have hne := nil_bytes_ne
            rw [hc, if_neg (by simp)] at HN
            clear hc
            go_wp2_with fail
            go_roundw
            case rel => exact ⟨HBW, j + 1, m, by omega, HN.out.symm, by first | rfl | go_num, rfl, rfl⟩
            case measure => first | (simp [intOf]; omega) | go_num
        · obtain rfl : j = s.size := by omega
          have hmc : m = cn := by rw [HM.out, ← HCN.out, List.take_of_length_le (by omega)]
          go_wp2_with fail
          go_meet
          exact ⟨HBW, by rw [hmc], by rw [hmc]⟩
  case rest =>
  obtain ⟨HBW, rfl, rfl⟩ := hcut
  obtain ⟨W, hW⟩ : ∃ W, W = wc := ⟨_, rfl⟩
  rw [← hW] at HBW ⊢
  clear hW wc l256 t0 t1 t2 t3 HC0 HC1 HC2 HC3 HSUM m0 m1 m2 m3
  have hcl : cn ≤ s.size := by have := List.countP_le_length (p := spec) (l := s.data.toList); have := HCN.out; omega
  by_cases hcz : cn = 0
  · have HE : Hid (s = ⟨(s.data.toList.flatMap escL).toArray⟩) := by show _ = _; rw [flat_none _ (by rw [HCN.out]; exact hcz)]
    have a0 : decide (0 < cn) = false := decide_eq_false (by omega)
    clear hcz
    go_wp2_with fail
    go_ret
    exact ⟨by rw [← HE.out]; rfl, HBW.out⟩
  have a0 : decide (0 < cn) = true := decide_eq_true (by omega)
  rw [a0]
  clear hcz a0
  have hw0 : w.heap.size ≤ W.heap.size := HBW.out.size
  obtain ⟨bi, hbi, hbz0, hbz1, hbz2⟩ := info_parts infoU8c
  obtain ⟨n, hn⟩ : ∃ n, n = s.size + cn := ⟨_, rfl⟩
  rw [← hn]
  have HNL : Hid (n = (s.data.toList.flatMap escL).length) := by show _ = _; rw [flat_len, HCN.out, hn, hl]
  have hn2 : n ≤ 2000000000 := by omega
  have hmk : ∀ w : World, (Instr.makeSlice 63 (.int .i64 (n : Int)) (.int .i64 (n : Int))).run Tryz.prog w = .ok (.slice (some ⟨w.heap.size, 0, none⟩) n n) (w.alloc (.cells (bfRow s.data.toList 0 n).toArray 5)) := by
    intro w
    rw [run_make (P := Tryz.prog) w 63 5 bi (.int .u8 0) Tryz.underlying63 hbi hbz0 .i64 .i64 (n : Int) (n : Int) (by omega) (by omega) (by rw [hbz2]; omega) (by omega)]
    have e : madeCells (Value.int .u8 0).cells ((n : Int).toNat * bi.size) = (bfRow s.data.toList 0 n).toArray := by
      rw [hbz1, Int.toNat_natCast, Nat.mul_one, bf_start]
      exact made_one _ _
    rw [e, Int.toNat_natCast]
  clear hn hbi hbz0 hbz1 hbz2
  have HK2 : Hid (∀ w', Below w.heap.size w w' → Bsr b0 w' B ∧ True) := fun w' hb => ⟨HB.out.keep (fun b h1 h2 => hb.block b h2), trivial⟩
  go_wp2_with fail
  go_loopw [13, 14] (fun jv i wr => ∃ (j : Nat), j ≤ s.size ∧ jv = .int .i64 (Jn s.data.toList j : Int) ∧ i = .int .i64 (j : Int) ∧ Hid (wr.heap[W.heap.size]? = some (.cells (bfRow s.data.toList j n).toArray 5 (0, 0))) ∧ Hid (Below W.heap.size W wr)) (fun _ i _ => s.size - (intOf i).toNat)
  case atStart => exact ⟨0, by omega, rfl, rfl, heap_alloc_new _ _, (Below.refl _ W).alloc (Nat.le_refl _) _⟩
  case round =>
    clear hmk
    obtain ⟨j, hj, rfl, rfl, HG, HBR⟩ := hrel
    have HW : Hid (Below w.heap.size w wr) := HBW.out.trans (HBR.out.mono hw0)
    by_cases hlt : j < s.size
    · have h256 : (s[j].toNat : Int) < 256 := by have := UInt8.toNat_lt s[j]; omega
      have hdj : s.data.toList[j]'(by omega) = s[j] := data_at s j hlt (by omega)
      have HJ : Hid (Jn s.data.toList (j + 1) = Jn s.data.toList j + (escL s[j]).length) := by show _ = _; rw [Jn_next (by omega), hdj]
      have HJ2 : Hid (Jn s.data.toList (j + 1) ≤ n) := by show _ ≤ _; rw [HNL.out]; exact Jn_le _ _
      cases hc : spec s[j] with
      | true =>
        obtain ⟨P, k, y, r0, hk2, hkm, r1, r2, hP, HE⟩ := (HK2.out _ HW.out).1.hit hc
        have hne := fun w => nil_bytes_some w P k
        have HR : Hid (splice (bfRow s.data.toList j n) (Jn s.data.toList j) [.int .u8 92, .int .u8 (y.toNat : Int)] = bfRow s.data.toList (j + 1) n) := bf_two (by omega) (by rw [hdj]; exact HE) (by have h1 := HJ.out; have h2 := HJ2.out; rw [HE] at h1; simp at h1; omega)
        have hjn : Jn s.data.toList j + 2 ≤ n := by have h1 := HJ.out; have h2 := HJ2.out; rw [HE] at h1; simp at h1; omega
        have HJ3 : Hid (Jn s.data.toList (j + 1) = Jn s.data.toList j + 2) := by show _ = _; rw [HJ.out, HE]; rfl
        have HLN : Hid ((bfRow s.data.toList j n).length = n) := bf_len (by omega)
        have HSRC : Hid (∀ (i : Nat) (v : Value), [Value.int .u8 92, .int .u8 (y.toNat : Int)][i]? = some v → wr.cell? (Addr.add ⟨P, 0, none⟩ i) = some v) := by
          intro i v hv
          rw [Addr.add_lit]
          match i, hv with
          | 0, hv => simp at hv; subst hv; exact r1
          | 1, hv => simp at hv; subst hv; exact r2
        clear HE hc r1 r2 hP hdj HJ HJ2
        obtain ⟨J, hJ⟩ : ∃ J, J = Jn s.data.toList j := ⟨_, rfl⟩
        rw [← hJ] at hjn HR HJ3 ⊢
        have HJJ := Lib.hid hJ
        clear hJ
        have hJ1 : J ≤ n := by omega
        have hJ2 : ¬ n = J := by omega
        go_wp2_with fail
        go_region_law (refine step_copy_splice rfl (.tmp 105) (.tmp 111) 63 63 rfl 5 Tryz.underlying63 (by kernel_rfl) _ _ _ _ _ _ rfl rfl W.heap.size J (bfRow s.data.toList j n) 5 HG.out [.int .u8 92, .int .u8 (y.toNat : Int)] (by show (2 : Nat) = min 2 (n - J); omega) (fun _ => ⟨by first | rfl | simp, _, rfl, HSRC.out⟩) (by rw [HLN.out]; simp; omega) (by simp [Value.oneCell']) W.heap.size W (by first | exact HBR.out | exact HBR.out.drew | exact below_drewN HBR.out _) (Nat.le_refl _) ?_; intro w4 HG4 hb4; have HB4 := Lib.hid hb4; clear hb4)
        all_goals
          clear HSRC
          go_wp2_with fail
          go_roundw
          case rel => exact ⟨j + 1, by omega, by rw [HJ3.out]; first | rfl | (congr 1; push_cast; omega), by first | rfl | go_num, by show _ = _; rw [← HR.out]; exact HG4.out, HB4⟩
          case measure => first | (simp [intOf]; omega) | go_num
      | false =>
        have HEP := Lib.hid (esc_plain hc)
        have r0 := (HK2.out _ HW.out).1.miss hc
        have hne := nil_bytes_ne
        have HJ3 : Hid (Jn s.data.toList (j + 1) = Jn s.data.toList j + 1) := by show _ = _; rw [HJ.out, HEP.out]; rfl
        have hjn : Jn s.data.toList j + 1 ≤ n := by rw [← HJ3.out]; exact HJ2.out
        have HR : Hid ((bfRow s.data.toList j n).set (Jn s.data.toList j) (.int .u8 (s[j].toNat : Int)) = bfRow s.data.toList (j + 1) n) := by
          have := bf_one (l := s.data.toList) (j := j) (N := n) (by omega) (by rw [hdj]; exact HEP.out) (by omega)
          rw [hdj] at this
          exact this
        have g0 : wr.cell? ⟨W.heap.size, Jn s.data.toList j, none⟩ = some (.int .u8 0) := cellT HG.out (by rw [List.getElem?_toArray]; exact bf_get (by omega))
        have f0 : wr.frozen? ⟨W.heap.size, Jn s.data.toList j, none⟩ = false := frozenT HG.out
        clear hc hdj HJ HJ2
        obtain ⟨J, hJ⟩ : ∃ J, J = Jn s.data.toList j := ⟨_, rfl⟩
        rw [← hJ] at hjn HR HJ3 g0 f0 ⊢
        have HJJ := Lib.hid hJ
        clear hJ
        have hJ1 : (J : Int) < n := by omega
        go_wp2_with fail
        go_roundw
        case rel =>
          refine ⟨j + 1, by omega, by rw [HJ3.out]; first | rfl | (congr 1; push_cast; omega), by first | rfl | go_num, ?_, HBR.out.setCell (Nat.le_refl _) _⟩
          show _ = _
          rw [heap_setCell_same _ _ J _ _ _ HG.out, ← HR.out]
          simp
        case measure => first | (simp [intOf]; omega) | go_num
    · obtain rfl : j = s.size := by omega
      have hcv := run_convert_bytes_back (P := Tryz.prog) wr 63 9 5 ⟨W.heap.size, 0, none⟩ n (s.data.toList.flatMap escL) Tryz.underlying63 Tryz.underlying5 Tryz.underlying9 (fun i hi => by
        have hbe := bf_end s.data.toList n HNL.out
        rw [hl] at hbe
        rw [Addr.add_lit]
        refine cellT HG.out ?_
        rw [hbe, List.getElem?_toArray, byteCells, List.getElem?_map, Nat.zero_add, List.getElem?_eq_getElem hi]
        rfl)
      rw [← HNL.out] at hcv
      go_wp2_with fail
      go_ret
      exact ⟨rfl, HW.out⟩
end Go.Proofs.YtejnoedlfbglcaaGreatDoor
namespace Go.Proofs.YtejnoedlfbglcaaGreatDoor
open Go.RowKit Mh
set_option linter.unusedVariables false

set_option maxRecDepth 100000 in
set_option maxHeartbeats 4000000 in
theorem replace_any (R b0 : Nat) (s : ByteArray) (w : World) (h : Rpl b0 w R) (hs : s.size ≤ 1000000000) :
    Calls Tryz.prog 83 #[.pointer (some ⟨R, 0, none⟩), .string s] w fun e w' => e = .returned (.string ⟨(s.data.toList.flatMap escL).toArray⟩) ∧ Hid (Kept [R] w w') := by
  obtain ⟨q, c, h4, hqR, hq⟩ := h.c4
  have HD := Lib.hid (do_any R q 0 c w _ h.c0 h.c1 h.c3 h4 hq hqR h.f)
  have hmf : ∀ (fn : Fn) (first cap : Array Value) (w : World), (Instr.makeFunc fn first cap).run Tryz.prog w = .ok (.func fn first cap) w := fun _ _ _ _ => rfl
  have HC : Hid (∀ w2 B, Bsr w.heap.size w2 B → w.heap.size ≤ w2.heap.size → Calls Tryz.prog 202 #[.pointer (some ⟨B, 0, none⟩), .string s] w2 fun e w' => e = .returned (.string ⟨(s.data.toList.flatMap escL).toArray⟩) ∧ Below w2.heap.size w2 w') := fun w2 B hb hl => bsr_any _ B s w2 hb hs hl
  clear h h4 hq
  go_enter Tryz.func83, Tryz.ntmps83
  go_wp2_with (first | (go_at_call 94; refine HD.out.mono ?_; rintro e w2 ⟨rfl, ho⟩; obtain ⟨⟨B, hB, l3⟩, hk⟩ := ho.out; have HB := Lib.hid hB; have HK := Lib.hid hk; clear hB hk ho) | (go_at_call 202; refine (HC.out _ _ HB.out HK.out.size).mono ?_; rintro e w3 ⟨rfl, hb3⟩))
  go_ret
  exact ⟨rfl, HK.out.call (Kept.of_below (S := [R]) hb3) (fun b hb => .inl hb)⟩
theorem str8 (w : World) : Sl 1 (w.alloc (.cells #[.string ⟨#[10]⟩, .string ⟨#[92, 110]⟩, .string ⟨#[9]⟩, .string ⟨#[92, 116]⟩, .string ⟨#[34]⟩, .string ⟨#[92, 34]⟩, .string ⟨#[92]⟩, .string ⟨#[92, 92]⟩] 9)) (.slice (some ⟨w.heap.size, 0, none⟩) 8 8) 8 (oldnew.map Value.string) := by
  refine ⟨rfl, .inr ⟨w.heap.size, 0, 8, rfl, by omega, by omega, by unfold maxLen; omega, by simp, fun i u hu => ?_⟩⟩
  rw [Nat.zero_add, cell_of_row _ _ _ _ _ _ (heap_alloc_new w _), ← Array.getElem?_toList]
  exact hu
set_option maxRecDepth 100000 in
set_option maxHeartbeats 4000000 in
theorem quoted_any (s : ByteArray) (w : World) (hs : s.size ≤ 1000000000) :
    Calls Tryz.prog 60 #[.string s] w fun e w' => e = .returned (.string ⟨(quoteL s.data.toList).toArray⟩) ∧ Below w.heap.size w w' := by
  have HQ : Hid ((⟨#[34]⟩ : ByteArray) ++ ⟨(s.data.toList.flatMap escL).toArray⟩ ++ ⟨#[34]⟩ = ⟨(quoteL s.data.toList).toArray⟩) := by
    show _ = _
    apply ByteArray.ext
    simp [quoteL, ByteArray.data_append]
  have hfl := flat_len s.data.toList
  have hcl := List.countP_le_length (p := spec) (l := s.data.toList)
  have hl : s.data.toList.length = s.size := by rw [Array.length_toList]; rfl
  obtain ⟨S, hS⟩ : ∃ S : ByteArray, S = ⟨(s.data.toList.flatMap escL).toArray⟩ := ⟨_, rfl⟩
  have hSS : S.size ≤ 2000000000 := by rw [hS]; show (s.data.toList.flatMap escL).toArray.size ≤ _; simp only [List.size_toArray]; omega
  have HR : Hid (∀ R b0 w, Rpl b0 w R → Calls Tryz.prog 83 #[.pointer (some ⟨R, 0, none⟩), .string s] w fun e w' => e = .returned (.string S) ∧ Hid (Kept [R] w w')) := fun R b0 w h => by rw [hS]; exact replace_any R b0 s w h hs
  have HN := Lib.hid (fun w => new_any _ _ (str8 w))
  rw [← hS] at HQ
  clear hS hfl hcl
  go_enter Tryz.func60, Tryz.ntmps60
  go_wp2_with (first | (go_at_call 82; refine (HN.out _).mono ?_; rintro e w2 ⟨R, rfl, HRP, hb2⟩; have HB2 := Lib.hid hb2; clear hb2) | (go_at_call 83; refine (HR.out _ _ _ HRP.out).mono ?_; rintro e w3 ⟨rfl, HK⟩))
  go_ret
  refine ⟨by rw [← HQ.out]; rfl, ?_⟩
  have h1 : Below w.heap.size w w2 := ((Below.refl _ w).alloc (Nat.le_refl _) _).trans (HB2.out.mono (by simp))
  exact h1.trans (HK.out.below h1.size (fun b hb => by simp at hb; subst hb; have := HRP.out.lo; simp at this; omega))
end Go.Proofs.YtejnoedlfbglcaaGreatDoor
