/- lang.lettersFault: returns 0 if and only if the letters are right. Conditions: none. -/
import Derived.Test.YtdolpehcfifecaaGreatDoorMbj
import Derived.Test.YtdolpehcfifecaaGreatDoorMp
namespace Mh
open Go Go.RowKit
set_option linter.unusedVariables false
/-- Right letters. -/
def okL (ls : List ByteArray) : Prop := ls.length ≤ 200 ∧ (∀ t ∈ ls, t.size ≠ 0 ∧ t.size ≤ 4) ∧ ∀ j (h : j < ls.length), ls[j] ∉ ls.take j
/-- Returns an error that is 0 if and only if P. -/
def NF (P : Prop) (w : World) (e : Ending) (w' : World) : Prop := ∃ n : Int, e = .returned (.int .i64 n) ∧ (n = 0 ↔ P) ∧ Below w.heap.size w w'
theorem NF.no {P : Prop} {w w' : World} {n : Int} (hn : n ≠ 0) (hp : ¬ P) (hb : Below w.heap.size w w') : NF P w (.returned (.int .i64 n)) w' := ⟨n, rfl, ⟨fun h => absurd h hn, fun h => absurd h hp⟩, hb⟩
theorem NF.yes {P : Prop} {w w' : World} (hp : P) (hb : Below w.heap.size w w') : NF P w (.returned (.int .i64 0)) w' := ⟨0, rfl, ⟨fun _ => hp, fun _ => rfl⟩, hb⟩
def setM (L : List ByteArray) (s : ByteArray) : Option Value := if (L.any fun x => decide (x = s)) = true then some (.bool true) else none
theorem setM_in {L : List ByteArray} {s : ByteArray} (h : s ∈ L) : setM L s = some (.bool true) := by unfold setM; rw [if_pos]; exact List.any_eq_true.2 ⟨s, h, decide_eq_true rfl⟩
theorem setM_out {L : List ByteArray} {s : ByteArray} (h : s ∉ L) : setM L s = none := by
  unfold setM; rw [if_neg]
  intro h2
  obtain ⟨x, hx, he⟩ := List.any_eq_true.1 h2
  rw [of_decide_eq_true he] at hx
  exact h hx
theorem setM_step (l : List ByteArray) (k : Nat) (h : k < l.length) : (fun q => if q = l[k] then some (.bool true) else setM (l.take k) q) = setM (l.take (k + 1)) := by
  funext q
  rw [List.take_succ_eq_append_getElem h]
  unfold setM
  by_cases e : q = l[k]
  · rw [if_pos e, if_pos]
    rw [List.any_append]; simp [e]
  · rw [if_neg e, List.any_append]
    have : decide (l[k] = q) = false := decide_eq_false fun h => e h.symm
    simp only [List.any_cons, List.any_nil, this, Bool.or_false]
theorem empty_of_size {s : ByteArray} (h : s.size = 0) : s = ⟨#[]⟩ := by
  cases s with | mk x => cases x with | mk l => cases l with
    | nil => rfl
    | cons a l => simp [ByteArray.size] at h
theorem mempty_ne {s : ByteArray} (h : s.size ≠ 0) : s.toList.isEmpty = false := by
  rw [ByteArray.toList_eq]
  cases s with | mk x => cases x with | mk l => cases l with
    | nil => exact absurd rfl h
    | cons a l => rfl
theorem mbelow_grownB {w w1 w2 : World} {b : Nat} (h : Below w.heap.size w w1) (hg : w1.grownBy w2 (some b)) (hb : w.heap.size ≤ b) : Below w.heap.size w w2 :=
  ⟨hg.os.trans h.os, hg.tape.trans h.tape, hg.output.trans h.output, Nat.le_trans h.size hg.size, fun k hk => (hg.block k (Nat.lt_of_lt_of_le hk h.size) (fun e => by simp at e; omega)).trans (h.block k hk)⟩
end Mh
namespace Go.Proofs.YtdolpehcfifecaaGreatDoor
open Go.RowKit Mh
set_option linter.unusedVariables false
theorem mzeroBool (w : World) : (zeroValue 4).run Tryz.prog w = .ok (.bool false) w := by kernel_rfl
set_option maxRecDepth 100000 in
set_option maxHeartbeats 4000000 in
theorem glettersFault_any (ls : List ByteArray) (v : Value) (w : World) (h : Ss w v ls) : Calls Tryz.prog 19 #[v] w (NF (okL ls) w) := by
  obtain ⟨_, _, _, hlen, _⟩ := Sl.shp h.1
  obtain ⟨ao, c, rfl, hk⟩ := h.key
  have HK := Lib.hid hk
  unfold maxLen at hlen
  have HB0 : Hid (Below w.heap.size w w) := Below.refl _ _
  clear h hk
  by_cases h2 : 200 < ls.length
  · have q1 : decide (200 < ls.length) = true := decide_eq_true h2
    have q2 : decide ((200 : Int) < (ls.length : Int)) = true := decide_eq_true (by omega)
    have HN : Hid (¬ okL ls) := fun h => by have := h.1; omega
    go_enter Tryz.func19, Tryz.ntmps19
    go_wp2_with fail
    go_ret
    exact NF.no (by decide) HN.out HB0.out
  have q1 : decide (200 < ls.length) = false := decide_eq_false h2
  have q2 : decide ((200 : Int) < (ls.length : Int)) = false := decide_eq_false (by omega)
  go_enter Tryz.func19, Tryz.ntmps19
  go_wp2_with fail
  go_loopw [13] (fun i wr => ∃ k : Nat, k ≤ ls.length ∧ i = .int .i64 k ∧ Hid (∀ i (h : i < ls.length), i < k → ls[i].size ≠ 0 ∧ ls[i].size ≤ 4) ∧ Hid (Below w.heap.size w wr)) (fun i wr => ls.length - (intOf i).toNat)
  case atStart => exact ⟨0, Nat.zero_le _, rfl, fun i h h2 => by omega, HB0⟩
  case round =>
    clear HB0
    obtain ⟨k, hkk, rfl, HI, HB⟩ := hrel
    by_cases hkl : k < ls.length
    · obtain ⟨b, off, rfl, hlt, hc, hsz⟩ := HK.out k hkl
      have d0 := (HB.out.cell (p := ⟨b, off + k, none⟩) hlt).trans hc
      unfold maxLen at hsz
      have HNX : Hid (ls[k].size ≠ 0 ∧ ls[k].size ≤ 4 → ∀ i (h : i < ls.length), i < k + 1 → ls[i].size ≠ 0 ∧ ls[i].size ≤ 4) := by
        intro h i hi h3
        by_cases e : i = k
        · subst e; exact h
        · exact HI.out i hi (by omega)
      have HBAD : Hid (okL ls → ls[k].size ≠ 0 ∧ ls[k].size ≤ 4) := fun h => h.2.1 _ (List.getElem_mem hkl)
      clear hc HI
      generalize ls[k] = t at d0 HNX HBAD hsz
      by_cases h0 : t.size = 0
      · have HN : Hid (¬ okL ls) := fun h => (HBAD.out h).1 h0
        obtain rfl := empty_of_size h0
        go_wp2_with fail
        go_ret
        exact NF.no (by decide) HN.out HB.out
      have q3 := mempty_ne h0
      by_cases h4 : 4 < t.size
      · have HN : Hid (¬ okL ls) := fun h => by have := (HBAD.out h).2; omega
        have q4 : decide (4 < t.size) = true := decide_eq_true h4
        have q5 : decide ((4 : Int) < (t.size : Int)) = true := decide_eq_true (by omega)
        go_wp2_with fail
        go_ret
        exact NF.no (by decide) HN.out HB.out
      · have q4 : decide (4 < t.size) = false := decide_eq_false h4
        have q5 : decide ((4 : Int) < (t.size : Int)) = false := decide_eq_false (by omega)
        have HN := Lib.hid (HNX.out ⟨h0, by omega⟩)
        go_wp2_with fail
        go_roundw
        case rel => exact ⟨k + 1, by omega, by go_num, HN, HB⟩
        case measure => simp [intOf]; omega
    · have HS : Hid (∀ t ∈ ls, t.size ≠ 0 ∧ t.size ≤ 4) := by
        intro t ht
        obtain ⟨i, hi, rfl⟩ := List.mem_iff_getElem.1 ht
        exact HI.out i hi (by omega)
      obtain rfl : k = ls.length := by omega
      clear HI hkl hkk
      obtain ⟨w0, rfl⟩ : ∃ x : World, x = wr := ⟨_, rfl⟩
      have hw0 := HB.out.size
      have H0 : Hid (MapF Tryz.prog 9 (w0.alloc (.map #[] 0)) w0.heap.size 0 (setM (ls.take 0))) := mapF_made w0 Tryz.prog 9
      have HB1 : Hid (Below w.heap.size w (w0.alloc (.map #[] 0))) := HB.out.alloc hw0 _
      go_wp2_with (rw [run_makeMap])
      go_loopw [28] (fun i wr => ∃ k : Nat, k ≤ ls.length ∧ i = .int .i64 k ∧ Hid (MapF Tryz.prog 9 wr w0.heap.size k (setM (ls.take k))) ∧ Hid (Below w.heap.size w wr) ∧ Hid (∀ i (h : i < ls.length), i < k → ls[i] ∉ ls.take i)) (fun i wr => ls.length - (intOf i).toNat)
      case atStart => exact ⟨0, Nat.zero_le _, rfl, H0, HB1, fun i h h2 => by omega⟩
      case round =>
        clear H0 HB1 HB
        obtain ⟨k, hkk, rfl, HM, HB, HI⟩ := hrel
        by_cases hkl : k < ls.length
        · obtain ⟨b, off, rfl, hlt, hc, hsz⟩ := HK.out k hkl
          have d0 := (HB.out.cell (p := ⟨b, off + k, none⟩) hlt).trans hc
          have HST := Lib.hid (setM_step ls k hkl)
          have HZ : Hid (k < maxLen) := by show _ < _; unfold maxLen; omega
          by_cases hin : ls[k] ∈ ls.take k
          · have HN : Hid (¬ okL ls) := fun h => h.2.2 k hkl hin
            have HG := Lib.hid (setM_in hin)
            clear hin hc
            generalize ls[k] = t at *
            go_wp2_with (at_lookup; refine wpList_lookF _ rfl _ _ 80 rfl 9 4 Tryz.underlying9 Tryz.underlying80 (.bool false) (mzeroBool _) w0.heap.size k _ rfl HM.out t rfl hsz (.bool true) (by rw [HG.out]; rfl) ?_)
            go_ret
            exact NF.no (by decide) HN.out HB.out
          · have HN : Hid (∀ i (h : i < ls.length), i < k + 1 → ls[i] ∉ ls.take i) := by
              intro i hi h3
              by_cases e : i = k
              · subst e; exact hin
              · exact HI.out i hi (by omega)
            have HG := Lib.hid (setM_out hin)
            clear hin hc
            generalize ls[k] = t at d0 HST HG hsz
            go_wp2_with (first
              | (at_lookup; refine wpList_lookF _ rfl _ _ 80 rfl 9 4 Tryz.underlying9 Tryz.underlying80 (.bool false) (mzeroBool _) w0.heap.size k _ rfl HM.out t rfl hsz (.bool false) (by rw [HG.out]; rfl) ?_)
              | (at_mapUpdate; refine wpList_putF _ rfl _ _ _ 80 rfl 9 4 Tryz.underlying9 Tryz.underlying80 w0.heap.size k _ rfl HM.out HZ.out t rfl hsz (.bool true) rfl ?_; intro w4 hM4 hg4))
            have HM4 : Hid (MapF Tryz.prog 9 w4 w0.heap.size (k + 1) (setM (ls.take (k + 1)))) := by rw [← HST.out]; exact hM4
            have HB4 : Hid (Below w.heap.size w w4) := mbelow_grownB HB.out hg4 hw0
            clear hM4 hg4
            go_roundw
            case rel => exact ⟨k + 1, by omega, by go_num, HM4, HB4, HN⟩
            case measure => simp [intOf]; omega
        · have HOK : Hid (okL ls) := ⟨by omega, HS.out, fun i hi => HI.out i hi (by omega)⟩
          go_wp2_with fail
          go_ret
          exact NF.yes HOK.out HB.out
end Go.Proofs.YtdolpehcfifecaaGreatDoor
