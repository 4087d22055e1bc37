/- ship's bytes of tags, lower, upTo, name, value: what they return, how far they come. Conditions: the scanner in memory; its string's size; the library's variable MaxLen holds an integer. -/
import Derived.Test.YtoalbfffojpnmaaDoorShA
import Derived.Test.YtoalbfffojpnmaaDoorKept
import Derived.Test.YtoalbfffojpnmaaDoorSl
import Derived.Test.YtoalbfffojpnmaaDoorUnA
import Derived.BigQuiet
import Derived.StillTailTactics
import Derived.Laws.IdiomStrings
import Derived.Deep.RegionWith
namespace Go.Proofs.YtoalbfffojpnmaaDoor
open Go.RowKit Mh
set_option linter.unusedVariables false

def letB (n : Int) : Bool := (decide (97 ≤ n) && decide (n ≤ 122)) || (decide (65 ≤ n) && decide (n ≤ 90))
def tagB (n : Int) : Bool := letB n || digB' n || n == 45
def attB (n : Int) : Bool := tagB n || n == 95 || n == 58 || n == 46
def spcB (n : Int) : Bool := n == 32 || n == 9 || n == 10
theorem shLetter_any (n : Int) (w : World) : Calls Tryd.prog 13 #[.int .u8 n] w fun e w' => e = .returned (.bool (letB n)) ∧ w' = w := by
  have HL : Hid (letB n = ((decide (97 ≤ n) && decide (n ≤ 122)) || (decide (65 ≤ n) && decide (n ≤ 90)))) := rfl
  cases d1 : decide (97 ≤ n) <;> cases d2 : decide (n ≤ 122) <;> cases d3 : decide (65 ≤ n) <;> cases d4 : decide (n ≤ 90)
  all_goals
    rw [d1, d2, d3, d4] at HL
    go_enter Tryd.func13, Tryd.ntmps13
    go_wp2_with fail
    go_ret
    exact ⟨by rw [HL.out]; rfl, rfl⟩
theorem shTag_any (n : Int) (w : World) : Calls Tryd.prog 16 #[.int .u8 n] w fun e w' => e = .returned (.bool (tagB n)) ∧ w' = w := by
  have HL := Lib.hid (fun w => shLetter_any n w)
  have HD := Lib.hid (fun w => shDigit_any n w)
  have HT : Hid (tagB n = (letB n || digB' n || n == 45)) := rfl
  cases d1 : letB n <;> cases d2 : digB' n <;> cases d3 : (n == 45)
  all_goals
    rw [d1] at HL
    rw [d2] at HD
    rw [d1, d2, d3] at HT
    clear d1 d2
    go_enter Tryd.func16, Tryd.ntmps16
    go_wp2_with (first | (go_at_call 13; refine (HL.out _).mono ?_; rintro e w' ⟨rfl, rfl⟩) | (go_at_call 24; refine (HD.out _).mono ?_; rintro e w' ⟨rfl, rfl⟩))
    go_ret
    exact ⟨by rw [HT.out]; rfl, rfl⟩
theorem shAttB_any (n : Int) (w : World) : Calls Tryd.prog 25 #[.int .u8 n] w fun e w' => e = .returned (.bool (attB n)) ∧ w' = w := by
  have HL := Lib.hid (fun w => shTag_any n w)
  have HT : Hid (attB n = (tagB n || n == 95 || n == 58 || n == 46)) := rfl
  cases d1 : tagB n <;> cases d2 : (n == 95) <;> cases d3 : (n == 58) <;> cases d4 : (n == 46)
  all_goals
    rw [d1] at HL
    rw [d1, d2, d3, d4] at HT
    clear d1
    go_enter Tryd.func25, Tryd.ntmps25
    go_wp2_with (go_at_call 16; refine (HL.out _).mono ?_; rintro e w' ⟨rfl, rfl⟩)
    go_ret
    exact ⟨by rw [HT.out]; rfl, rfl⟩
theorem shSpace_any (n : Int) (w : World) : Calls Tryd.prog 32 #[.int .u8 n] w fun e w' => e = .returned (.bool (spcB n)) ∧ w' = w := by
  have HT : Hid (spcB n = (n == 32 || n == 9 || n == 10)) := rfl
  cases d1 : (n == 32) <;> cases d2 : (n == 9) <;> cases d3 : (n == 10)
  all_goals
    rw [d1, d2, d3] at HT
    go_enter Tryd.func32, Tryd.ntmps32
    go_wp2_with fail
    go_ret
    exact ⟨by rw [HT.out]; rfl, rfl⟩
theorem index_fits (sub : List UInt8) : ∀ s : List UInt8, Lib.index s sub = -1 ∨ (0 ≤ Lib.index s sub ∧ Lib.index s sub + sub.length ≤ s.length)
  | [] => by
    unfold Lib.index
    by_cases h : sub.isEmpty = true
    · rw [if_pos h]
      obtain rfl : sub = [] := List.isEmpty_iff.1 h
      exact .inr ⟨by omega, by simp⟩
    · rw [if_neg h]; exact .inl rfl
  | b :: l => by
    unfold Lib.index
    by_cases h : sub.isPrefixOf (b :: l) = true
    · rw [if_pos h]
      have := (List.isPrefixOf_iff_prefix.1 h).length_le
      exact .inr ⟨by omega, by omega⟩
    · rw [if_neg h]
      rcases index_fits sub l with e | ⟨e1, e2⟩
      · rw [e]; exact .inl rfl
      · rw [if_neg (by rw [beq_iff_eq]; omega)]
        exact .inr ⟨by omega, by simp only [List.length_cons]; omega⟩
def lowB (c : UInt8) : UInt8 := if 65 ≤ c.toNat ∧ c.toNat ≤ 90 then c + 32 else c
/-- The scanner. -/
def Scn (s : ByteArray) (X i : Nat) (v : Value) (W : World) : Prop := W.heap[X]? = some (.cells #[.string s, .int .i64 (i : Int), v] 38 (0, 0))
theorem Scn.lt {s : ByteArray} {X i : Nat} {v : Value} {W : World} (h : Scn s X i v W) : X < W.heap.size := (Array.getElem?_eq_some_iff.1 h).1
theorem Scn.cells {s : ByteArray} {X i : Nat} {v : Value} {W : World} (h : Scn s X i v W) : W.cell? ⟨X, 0, none⟩ = some (.string s) ∧ W.cell? ⟨X, 1, none⟩ = some (.int .i64 (i : Int)) ∧ W.cell? ⟨X, 2, none⟩ = some v ∧ W.frozen? ⟨X, 1, none⟩ = false ∧ W.frozen? ⟨X, 2, none⟩ = false :=
  ⟨cellT h rfl, cellT h rfl, cellT h rfl, frozenT h, frozenT h⟩
theorem Scn.set1 {s : ByteArray} {X i : Nat} {v : Value} {W : World} (h : Scn s X i v W) (j : Nat) : Scn s X j v (W.setCell ⟨X, 1, none⟩ (.int .i64 (j : Int))) := by
  unfold Scn; rw [heap_setCell_same _ _ 1 _ _ _ h]; rfl
theorem Scn.same {s : ByteArray} {X i : Nat} {v : Value} {W W1 : World} (h : Scn s X i v W) (sm : Same W W1) : Scn s X i v W1 := by unfold Scn; rw [sm.heap]; exact h
theorem Scn.below {s : ByteArray} {X i : Nat} {v : Value} {W W1 : World} (h : Scn s X i v W) (hb : Below W.heap.size W W1) : Scn s X i v W1 := (hb.block X h.lt).trans h
/-- Where a function of the scanner leaves it. -/
structure To (s : ByteArray) (X i : Nat) (v : Value) (w w' : World) (lo : Nat) : Prop where
  ex : ∃ i', lo ≤ i' ∧ i' ≤ s.size ∧ Scn s X i' v w'
  kept : Kept [X] w w'
set_option maxRecDepth 100000 in
set_option maxHeartbeats 8000000 in
theorem upTo_any (s sign : ByteArray) (X i : Nat) (v : Value) (m : Int) (w : World) (h : Scn s X i v w) (hi : i ≤ s.size) (hs : s.size ≤ 1000000000) (hm : w.cell? ⟨0, 0, none⟩ = some (.int .i64 m)) (hsg : sign.size ≤ 100) :
    Calls Tryd.prog 14 #[ptr X, .string sign] w fun e w' => (∃ t : ByteArray, e = .returned (.string t) ∧ t.size ≤ s.size) ∧ Hid (To s X i v w w' i) := by
  obtain ⟨c0, c1, c2, f1, f2⟩ := h.cells
  have hiI : (i : Int) ≤ s.size := by omega
  have H := Lib.hid h
  have hm2 := fun w2 (sm : Same w w2) => (sm.cell ⟨0, 0, none⟩).trans hm
  have HIX := Lib.hid (fun w2 (sm : Same w w2) => Tryd.strings_Index (s.extract i s.size) sign m w2 (by simp; omega) (hm2 w2 sm))
  have hlen : Lib.index (s.extract i s.size).data.toList sign.data.toList = -1 ∨ (0 ≤ Lib.index (s.extract i s.size).data.toList sign.data.toList ∧ Lib.index (s.extract i s.size).data.toList sign.data.toList + sign.size ≤ s.size - i) := by
    have := index_fits sign.data.toList (s.extract i s.size).data.toList
    rw [Array.length_toList, Array.length_toList] at this
    have h1 : sign.data.size = sign.size := rfl
    have h2 : (s.extract i s.size).data.size = s.size - i := by show (s.extract i s.size).size = _; simp
    omega
  generalize hK : Lib.index (s.extract i s.size).data.toList sign.data.toList = K at *
  clear h hm hm2 hK
  unfold ptr
  go_enter Tryd.func14, Tryd.ntmps14
  go_wp2_with fail
  go_quiet ((go_at_call 22; exact Calls.quiet_of_same (HIX.out _ (by first | exact (Same.refl _).drewN _ | exact Same.refl _ | exact (Same.refl _).drew))))
  have HS : Hid (Same w (w.drewN nq)) := (Same.refl w).drewN nq
  generalize w.drewN nq = w2 at *
  have H2 := Lib.hid (H.out.same HS.out)
  clear c0 c1 c2 f1 f2 HIX
  obtain ⟨c0, c1, c2, f1, f2⟩ := H2.out.cells
  have HK : Hid (∀ j, Kept [X] w (w2.setCell ⟨X, 1, none⟩ (.int .i64 j))) := fun j => (HS.out.kept [X]).set X 1 (by simp) _
  rcases hlen with hk | ⟨hk0, hk1⟩
  · have hd : decide (K < 0) = true := decide_eq_true (by omega)
    have HT := Lib.hid (H2.out.set1 s.size)
    clear hk
    go_wp2_with fail
    go_ret
    exact ⟨⟨_, rfl, by simp⟩, ⟨⟨s.size, hi, Nat.le_refl _, HT.out⟩, HK.out _⟩⟩
  · obtain ⟨k, rfl⟩ : ∃ k : Nat, K = k := ⟨K.toNat, by omega⟩
    have hd : decide ((k : Int) < 0) = false := decide_eq_false (by omega)
    have hsub : i + k + sign.size ≤ s.size := by omega
    have HT := Lib.hid (H2.out.set1 (i + (k + sign.size)))
    have hki : (i : Int) + k ≤ s.size := by omega
    have hki2 : (i : Int) ≤ i + k := by omega
    have e1 : ((i + (k + sign.size) : Nat) : Int) = (i : Int) + ((k : Int) + sign.size) := by omega
    rw [e1] at HT
    have e2 : ((i : Int) + k).toNat = i + k := by omega
    clear hk0 hk1 e1
    go_wp2_with fail
    go_ret
    exact ⟨⟨_, rfl, by simp; omega⟩, ⟨⟨i + (k + sign.size), by omega, by omega, by have := HT.out; first | exact this | simpa using this⟩, HK.out _⟩⟩
theorem lowB_nat (c : UInt8) : (lowB c).toNat = if 65 ≤ c.toNat ∧ c.toNat ≤ 90 then c.toNat + 32 else c.toNat := by
  unfold lowB
  split
  · rw [UInt8.toNat_add]; show (c.toNat + 32) % 256 = _; omega
  · rfl
def lowS' (s : ByteArray) : ByteArray := ⟨(s.data.toList.map lowB).toArray⟩
structure Lw (s : ByteArray) (B j : Nat) (w wr : World) : Prop where
  cell : ∀ k (h : k < s.size), wr.cell? ⟨B, k, none⟩ = some (.int .u8 (if k < j then (lowB s[k]).toNat else s[k].toNat : Nat))
  fz : ∀ k, k < s.size → wr.frozen? ⟨B, k, none⟩ = false
  below : Below w.heap.size w wr
  lo : w.heap.size ≤ B
theorem Lw.next {s : ByteArray} {B j : Nat} {w wr : World} (h : Lw s B j w wr) (hj : j < s.size) (hl : lowB s[j] = s[j]) : Lw s B (j + 1) w wr := by
  refine ⟨fun k hk => ?_, h.fz, h.below, h.lo⟩
  rw [h.cell k hk]
  by_cases e : k = j
  · subst e; rw [if_neg (by omega), if_pos (by omega), hl]
  · by_cases e2 : k < j
    · rw [if_pos e2, if_pos (by omega)]
    · rw [if_neg e2, if_neg (by omega)]
theorem Lw.set {s : ByteArray} {B j : Nat} {w wr : World} (h : Lw s B j w wr) (hj : j < s.size) : Lw s B (j + 1) w (wr.setCell ⟨B, j, none⟩ (.int .u8 ((lowB s[j]).toNat : Int))) := by
  refine ⟨fun k hk => ?_, fun k hk => by rw [World.frozen?_setCell]; exact h.fz k hk, h.below.setCell h.lo _, h.lo⟩
  by_cases e : k = j
  · subst e
    rw [World.cell?_setCell_same _ _ _ (h.cell k hk), if_pos (by omega)]
  · rw [cell_other_off _ _ _ _ _ (fun x => e x.symm), h.cell k hk]
    by_cases e2 : k < j
    · rw [if_pos e2, if_pos (by omega)]
    · rw [if_neg e2, if_neg (by omega)]
set_option maxRecDepth 100000 in
set_option maxHeartbeats 8000000 in
theorem lower_any (s : ByteArray) (w : World) (hs : s.size ≤ 1000000000) :
    Calls Tryd.prog 23 #[.string s] w fun e w' => e = .returned (.string (lowS' s)) ∧ Below w.heap.size w w' := by
  have hcv0 := fun w => run_bytes_of_string (P := Tryd.prog) w 9 54 5 s Tryd.underlying9 Tryd.underlying54 Tryd.underlying5
  obtain ⟨cap, W1, hcv, HL⟩ : ∃ (cap : Nat) (W1 : World), (convert 9 54 (.string s)).run Tryd.prog w = .ok (.slice (some ⟨w.heap.size, 0, none⟩) s.size cap) W1 ∧ Hid (Lw s w.heap.size 0 w W1) := by
    refine ⟨_, _, hcv0 w, ⟨fun k hk => ?_, fun k hk => ?_, (Below.refl _ w).drew.alloc (Nat.le_refl _) _, Nat.le_refl _⟩⟩
    · rw [cell_of_row _ _ _ _ _ _ (heap_new_at (w := w.drew) (by rfl)), if_neg (by omega)]
      unfold bytesRow
      rw [Array.getElem?_append_left (by simpa using hk)]
      simp [hk]
      rfl
    · unfold World.frozen?
      rw [heap_new_at (w := w.drew) (by rfl)]
      have hz : s.size ≤ (bytesRow s (grownCap w s.size 0 5)).size := by unfold bytesRow; simp
      simp only [Bool.and_eq_false_iff, decide_eq_false_iff_not]
      left; omega
  clear hcv0
  have HCV : Hid (∀ wr, Lw s w.heap.size s.size w wr → (convert 54 9 (.slice (some ⟨w.heap.size, 0, none⟩) s.size cap)).run Tryd.prog wr = .ok (.string (lowS' s)) wr) := by
    intro wr h
    have hl : (s.data.toList.map lowB).length = s.size := by rw [List.length_map, Array.length_toList]; rfl
    have := run_convert_bytes_back (P := Tryd.prog) wr 54 9 5 ⟨w.heap.size, 0, none⟩ cap (s.data.toList.map lowB) Tryd.underlying54 Tryd.underlying5 Tryd.underlying9 (fun i hi => by
      rw [hl] at hi
      rw [Addr.add_lit, Nat.zero_add, h.cell i hi, if_pos hi]
      simp [← Array.getElem_toList, ByteArray.getElem_eq_getElem_data])
    rw [hl] at this
    exact this
  go_enter Tryd.func23, Tryd.ntmps23
  go_wp2_with fail
  go_loopw [10] (fun i wr => ∃ j : Nat, j ≤ s.size ∧ i = .int .i64 (j : Int) ∧ Hid (Lw s w.heap.size j w wr)) (fun i _ => s.size - (intOf i).toNat)
  case atStart => exact ⟨0, by omega, rfl, HL⟩
  case round =>
    obtain ⟨j, hj, rfl, HW⟩ := hrel
    by_cases hlt : j < s.size
    · have hltI : (j : Int) < s.size := by omega
      have c0 := HW.out.cell j hlt
      rw [if_neg (by omega)] at c0
      have f0 := HW.out.fz j hlt
      have h256 : s[j].toNat < 256 := UInt8.toNat_lt _
      have hnat := lowB_nat s[j]
      by_cases h1 : 65 ≤ s[j].toNat ∧ s[j].toNat ≤ 90
      · have HN := Lib.hid (HW.out.set hlt)
        rw [hnat, if_pos h1] at HN
        obtain ⟨h1, h2⟩ := h1
        have hd1 : decide ((65 : Int) ≤ (s[j].toNat : Int)) = true := decide_eq_true (by omega)
        have hd2 : decide ((s[j].toNat : Int) ≤ 90) = true := decide_eq_true (by omega)
        generalize s[j].toNat = c at *
        clear hnat
        go_wp2_with fail
        go_roundw
        case rel => exact ⟨j + 1, by omega, by go_num, by have := HN.out; first | exact this | (push_cast at this; exact this)⟩
        case measure => first | (simp [intOf]; omega) | go_num
      · have hle : lowB s[j] = s[j] := by unfold lowB; rw [if_neg h1]
        have HN := Lib.hid (HW.out.next hlt hle)
        by_cases h2 : 65 ≤ s[j].toNat
        · have hd1 : decide ((65 : Int) ≤ (s[j].toNat : Int)) = true := decide_eq_true (by omega)
          have hd2 : decide ((s[j].toNat : Int) ≤ 90) = false := decide_eq_false (by omega)
          generalize s[j].toNat = c at *
          clear hnat hle h1 h2
          go_wp2_with fail
          go_roundw
          case rel => exact ⟨j + 1, by omega, by go_num, HN⟩
          case measure => first | (simp [intOf]; omega) | go_num
        · have hd1 : decide ((65 : Int) ≤ (s[j].toNat : Int)) = false := decide_eq_false (by omega)
          generalize s[j].toNat = c at *
          clear hnat hle h1 h2
          go_wp2_with fail
          go_roundw
          case rel => exact ⟨j + 1, by omega, by go_num, HN⟩
          case measure => first | (simp [intOf]; omega) | go_num
    · have hje : j = s.size := by omega
      have hd : decide ((j : Int) < s.size) = false := decide_eq_false (by omega)
      have hcv := HCV.out wr (hje ▸ HW.out)
      have HB := Lib.hid HW.out.below
      clear hje HW
      go_wp2_with fail
      go_ret
      exact ⟨rfl, HB.out⟩
end Go.Proofs.YtoalbfffojpnmaaDoor
