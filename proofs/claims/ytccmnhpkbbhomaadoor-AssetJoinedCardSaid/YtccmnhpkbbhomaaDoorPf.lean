/- asset.partsFault: it returns 0 if and only if all paths are right and all differ. Conditions: the library's variable MaxLen holds an integer. -/
import Derived.Test.YtccmnhpkbbhomaaDoorProg
import Derived.Test.YtccmnhpkbbhomaaDoorPath
import Derived.Test.YtccmnhpkbbhomaaDoorVAt
import Derived.Test.YtccmnhpkbbhomaaDoorJoinP
import Derived.Outline
namespace Go.Proofs.YtccmnhpkbbhomaaDoor
open Go.RowKit Mh
set_option linter.unusedVariables false

/-- A slice word, empty or not. -/
theorem Sl.shape {k : Nat} {w : World} {v : Value} {n : Nat} {xs : List Value} (h : Sl k w v n xs) :
    ∃ ao c, v = .slice ao n c ∧ n ≤ maxLen ∧ (0 < n → ∃ b off, ao = some ⟨b, off, none⟩ ∧ n ≤ c ∧ c ≤ maxLen ∧ b < w.heap.size ∧ ∀ i u, xs[i]? = some u → w.cell? ⟨b, off + i, none⟩ = some u) := by
  rcases h.2 with ⟨rfl, a, c, rfl⟩ | ⟨b, off, c, rfl, h1, h2, h3, h4, h5⟩
  · exact ⟨a, c, rfl, Nat.zero_le _, fun h => absurd h (Nat.lt_irrefl _)⟩
  · exact ⟨_, c, rfl, Nat.le_trans h2 h3, fun _ => ⟨b, off, rfl, h2, h3, h4, h5⟩⟩

/-- All paths are right and all differ. -/
def goodL (l : List ByteArray) : Prop := (∀ i (h : i < l.length), pathB l[i].data.toList = true) ∧ ∀ j (hj : j < l.length), ∀ i (h : i < j), l[j] ≠ l[i]
def PF (l : List ByteArray) (w : World) (e : Ending) (w' : World) : Prop := ∃ n : Int, e = .returned (.int .i64 n) ∧ (n = 0 ↔ goodL l) ∧ Below w.heap.size w w'

theorem str_ne {a b : ByteArray} (h : a ≠ b) : (a.toList == b.toList) = false := by
  rw [beq_eq_false_iff_ne, ByteArray.toList_eq, ByteArray.toList_eq]
  exact fun e => h (bext e)
theorem pf_empty (v : Value) (w : World) (h : Ss w v []) : Calls Tryd.prog 30 #[v] w (PF [] w) := by
  obtain ⟨ao, c, rfl, _, _⟩ := Sl.shape h.1
  have H : Hid (PF [] w (.returned (.int .i64 0)) w) := ⟨0, rfl, ⟨fun _ => ⟨fun i h => by simp at h, fun i h => by simp at h⟩, fun _ => rfl⟩, Below.refl _ _⟩
  clear h
  go_enter Tryd.func30, Tryd.ntmps30
  go_wp2
  go_loop [9] (fun i => i = .int .i64 0) (fun _ => 0)
  case atStart => rfl
  case round =>
    obtain rfl := hrel
    go_wp2
    go_ret
    exact H.out
set_option maxHeartbeats 1000000 in
theorem pf_some (v : Value) (l : List ByteArray) (w : World) (h : Ss w v l) (hn : 0 < l.length) (hml : ML 0 w) : Calls Tryd.prog 30 #[v] w (PF l w) := by
  obtain ⟨ao, c, rfl, hm, hs⟩ := Sl.shape h.1
  obtain ⟨b, off, rfl, hnc, hcm, hlt, hcell⟩ := hs hn
  have HC : Hid (∀ i (hi : i < l.length), w.cell? ⟨b, off + i, none⟩ = some (.string l[i])) := fun i hi => hcell i _ (by simp [hi])
  have HZ : Hid (∀ i (hi : i < l.length), l[i].size ≤ maxLen) := fun i hi => h.2 _ (List.getElem_mem hi)
  have HML := Lib.hid hml
  unfold maxLen at hm hcm
  clear h hcell hs hml
  go_enter Tryd.func30, Tryd.ntmps30
  go_wp2_with fail
  go_loopw [9] (fun i wr => ∃ k : Nat, k ≤ l.length ∧ i = .int .i64 k ∧ Below w.heap.size w wr ∧ Hid ((∀ i (h : i < l.length), i < k → pathB l[i].data.toList = true) ∧ ∀ j (hj : j < l.length), j < k → ∀ i (h : i < j), l[j] ≠ l[i])) (fun i _ => l.length - (intOf i).toNat)
  case atStart => exact ⟨0, by omega, rfl, Below.refl _ _, ⟨fun i h h' => by omega, fun i h h' => by omega⟩⟩
  case round =>
    obtain ⟨k, hk, rfl, hbr, HG⟩ := hrel
    by_cases hkl : k < l.length
    · have g := (hbr.cell (p := ⟨b, off + k, none⟩) hlt).trans (HC.out k hkl)
      have hz := HZ.out k hkl
      have HP := Lib.hid (tpath_any l[k] wr hz (HML.out.below hbr HML.out.lt))
      have HA := Lib.hid (aPath_any l[k] wr hz (HML.out.below hbr HML.out.lt))
      have HBr := Lib.hid hbr
      obtain ⟨p, hp⟩ : ∃ p, p = l[k] := ⟨_, rfl⟩
      rw [← hp] at g HA
      have HPE := Lib.hid hp
      clear hz HP hp hbr
      obtain ⟨wo, rfl⟩ : ∃ wo : World, wo = wr := ⟨_, rfl⟩
      cases hb : pathB p.data.toList with
      | false =>
        rw [hb] at HA
        have H : Hid (∀ w1, Below wo.heap.size wo w1 → PF l w (.returned (.int .i64 3)) w1) := by
          intro w1 h1
          refine ⟨3, rfl, ⟨fun h => by omega, fun hg => ?_⟩, HBr.out.trans (h1.mono HBr.out.size)⟩
          have := hg.1 k hkl
          rw [← HPE.out, hb] at this
          cases this
        have hb' := Lib.hid hb
        clear hb
        go_wp2_with fail
        refine HA.out.mono ?_
        rintro e w1 ⟨rfl, hb1⟩
        have HB1 := Lib.hid hb1
        clear hb1
        go_wp2_with fail
        go_ret
        exact H.out _ HB1.out
      | true =>
        rw [hb] at HA
        have HB := Lib.hid hb
        clear hb
        go_wp2_with fail
        refine HA.out.mono ?_
        rintro e w1 ⟨rfl, hb1⟩
        have HB1 : Hid (Below w.heap.size w w1) := HBr.out.trans (hb1.mono HBr.out.size)
        clear hb1
        have hl3 : (k : Int) ≤ c := by omega
        go_wp2_with fail
        go_loop [21] (fun i => ∃ m : Nat, m ≤ k ∧ i = .int .i64 m ∧ Hid (∀ i (h : i < m) (h2 : i < l.length), p ≠ l[i])) (fun i => k - (intOf i).toNat)
        case atStart => exact ⟨0, by omega, rfl, fun i h => by omega⟩
        case round =>
          obtain ⟨m, hm2, rfl, HD⟩ := hrel
          by_cases hmk : m < k
          · have hml : m < l.length := by omega
            have g2 := (HB1.out.cell (p := ⟨b, off + m, none⟩) hlt).trans (HC.out m hml)
            by_cases he : p = l[m]
            · have H : Hid (PF l w (.returned (.int .i64 6)) w1) := by
                refine ⟨6, rfl, ⟨fun h => by omega, fun hg => ?_⟩, HB1.out⟩
                exact absurd (HPE.out.symm.trans he) (hg.2 k hkl m hmk)
              rw [← he] at g2
              clear he
              go_wp2_with fail
              go_ret
              exact H.out
            · have hse := str_ne he
              have HN : Hid (∀ i (h : i < m + 1) (h2 : i < l.length), p ≠ l[i]) := by
                intro i h h2
                by_cases e : i = m
                · subst e; exact he
                · exact HD.out i (by omega) h2
              clear he HD
              generalize l[m] = q at *
              go_wp2_with fail
              go_round
              case rel => exact ⟨m + 1, by omega, by go_num, HN⟩
              case measure => simp [intOf]; omega
          · have HN : Hid ((∀ i (h : i < l.length), i < k + 1 → pathB l[i].data.toList = true) ∧ ∀ j (hj : j < l.length), j < k + 1 → ∀ i (h : i < j), l[j] ≠ l[i]) := by
              refine ⟨fun i h h2 => ?_, fun j hj h2 i h => ?_⟩
              · by_cases e : i = k
                · subst e; rw [← HPE.out]; exact HB.out
                · exact HG.out.1 i h (by omega)
              · by_cases e : j = k
                · subst e; rw [← HPE.out]; exact HD.out i (by omega) (by omega)
                · exact HG.out.2 j hj (by omega) i h
            clear HD
            go_wp2_with fail
            go_roundw
            case rel => exact ⟨k + 1, by omega, by go_num, HB1.out, HN⟩
            case measure => simp [intOf]; omega
    · have H : Hid (PF l w (.returned (.int .i64 0)) wr) := ⟨0, rfl, ⟨fun _ => ⟨fun i h => HG.out.1 i h (by omega), fun j hj => HG.out.2 j hj (by omega)⟩, fun _ => rfl⟩, hbr⟩
      go_wp2_with fail
      go_ret
      exact H.out
theorem pf_any (v : Value) (l : List ByteArray) (w : World) (h : Ss w v l) (hml : ML 0 w) : Calls Tryd.prog 30 #[v] w (PF l w) := by
  by_cases hn : 0 < l.length
  · exact pf_some v l w h hn hml
  · obtain rfl : l = [] := List.eq_nil_of_length_eq_zero (by omega)
    exact pf_empty v w h
end Go.Proofs.YtccmnhpkbbhomaaDoor
