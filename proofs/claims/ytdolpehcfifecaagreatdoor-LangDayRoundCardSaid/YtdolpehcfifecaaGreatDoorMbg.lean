/- awakeLang; lang.isRoute. Conditions: sizes; the variables strconv.ErrRange and bytealg.MaxLen. -/
import Derived.Test.YtdolpehcfifecaaGreatDoorMbd
import Derived.Test.YtdolpehcfifecaaGreatDoorTxt
namespace Mh
open Go Go.RowKit
set_option linter.unusedVariables false
theorem readM_open : (readM ⟨#[123]⟩).1 ≠ 0 := by
  obtain ⟨s, hs⟩ : ∃ s : ByteArray, s = ⟨#[123]⟩ := ⟨_, rfl⟩
  rw [← hs]
  have h1 : s.size = 1 := by rw [hs]; rfl
  have h2 : s[0].toNat = 123 := by subst hs; rfl
  have hh : (mhead s ⟨1, 0, 0, 1⟩).2.1 = none ∧ (mhead s ⟨1, 0, 0, 1⟩).2.2.e = 8 := by subst hs; exact ⟨by kernel_rfl, by kernel_rfl⟩
  have hp : ((⟨0, 0, 0, 0⟩ : Ms).piece 0).at 1 = ⟨1, 0, 0, 1⟩ := rfl
  have hb := mbrace_done (s := s) (d := 1) (cnt := false) hh.1
  have hl := mloop_brace (s := s) (d := 1) (cnt := false) (m := ⟨0, 0, 0, 0⟩) (out := []) (pl := []) rfl (by show 0 < s.size; omega) h2 rfl (Nat.le_refl 1)
  have hp2 : ((⟨0, 0, 0, 0⟩ : Ms).piece (⟨0, 0, 0, 0⟩ : Ms).i).at ((⟨0, 0, 0, 0⟩ : Ms).i + 1) = ⟨1, 0, 0, 1⟩ := rfl
  rw [hp2, hb] at hl
  generalize mhead s ⟨1, 0, 0, 1⟩ = M at hh hl
  have hl2 := hl.trans (mloop_end (m := M.2.2) (fun h => by rw [hh.2] at h; exact absurd h.1 (by decide)))
  have he : (mloop s 1 false ⟨0, 0, 0, 0⟩ [] []).1.e = 8 := by
    rw [hl2]
    unfold mfin
    simp only
    exact hh.2
  unfold readM
  rw [if_neg (by omega)]
  simp only
  rw [if_pos (by rw [he]; decide), he]
  exact (by decide : (8 : Int) ≠ 0)
def routeB (l : List UInt8) : Bool := decide (l.length ≤ 400) && (spl 46 l).all isKeyL
end Mh
namespace Go.Proofs.YtdolpehcfifecaaGreatDoor
open Go.RowKit Mh
set_option linter.unusedVariables false
theorem RmR.err {R : Int × Int × List Pc} {w w' : World} {en : Ending} (h : RmR R w en w') : ∃ a n c, en = .returned (.tuple #[.agg #[.slice a n c], .int .i64 R.2.1, .int .i64 R.1]) ∧ Below w.heap.size w w' := by
  obtain ⟨v, rows, he, hb, hs, _⟩ := h
  obtain ⟨a, c, rfl⟩ := sl_form hs
  exact ⟨a, _, c, he, hb⟩
set_option maxHeartbeats 1000000 in
theorem gawake_any (w : World) (hev : EvAt w) : Calls Tryz.prog 4 #[] w fun e w' => e = .returned (.bool true) ∧ Below w.heap.size w w' := by
  have HC := Lib.hid (readMessage_any ⟨#[123]⟩ (by show 1 ≤ maxLen; decide) w hev)
  have hne : ((readM ⟨#[123]⟩).1 != 0) = true := by rw [bne_iff_ne]; exact readM_open
  generalize readM ⟨#[123]⟩ = R at HC hne
  obtain ⟨e0, a0, ps⟩ := R
  have hne : (e0 != 0) = true := hne
  go_enter Tryz.func4, Tryz.ntmps4
  go_wp2_with fail
  refine HC.out.mono ?_
  intro e w1 h
  obtain ⟨a, n, c, rfl, hb⟩ := h.err
  have HB := Lib.hid hb
  clear h hb
  go_wp2_with fail
  go_ret
  exact ⟨rfl, HB.out.alloc HB.out.size _⟩
theorem groute_long (s : ByteArray) (w : World) (hs : s.size ≤ maxLen) (h : 400 < s.size) : Calls Tryz.prog 41 #[.string s] w fun e w' => e = .returned (.bool (routeB s.data.toList)) ∧ w' = w := by
  unfold maxLen at hs
  have hl : s.data.toList.length = s.size := by simp
  have H : Hid (routeB s.data.toList = false) := by
    show _ = _
    unfold routeB; rw [hl, decide_eq_false (show ¬ s.size ≤ 400 by omega)]; rfl
  have hd : decide (400 < (s.size : Int)) = true := decide_eq_true (by omega)
  clear hl
  go_enter Tryz.func41, Tryz.ntmps41
  go_wp2_with fail
  go_ret
  exact ⟨by rw [H.out]; rfl, rfl⟩
set_option maxHeartbeats 2000000 in
theorem groute_short (s : ByteArray) (w : World) (hs : s.size ≤ 400) (hml : ML 0 w) :
    Calls Tryz.prog 41 #[.string s] w fun e w' => e = .returned (.bool (routeB s.data.toList)) ∧ Below w.heap.size w w' := by
  have hl : s.data.toList.length = s.size := by simp
  have hsp := splitB_spl 46 s
  have hln := splitB_len 46 s
  have hcn : Lib.countB s ⟨#[46]⟩ ≤ s.size := Lib.countB_le ⟨#[46]⟩ (Nat.le_refl 1) _ s (Nat.le_refl _)
  have hsz : ∀ p ∈ Lib.splitB ⟨#[46]⟩ 0 (Lib.countB s ⟨#[46]⟩) s, p.size ≤ s.size := split_size 46 s
  obtain ⟨m, hm⟩ := hml
  have HSP := Lib.hid (Tryz.strings_Split s ⟨#[46]⟩ m w (by omega) hm (Nat.le_refl 1))
  have H : Hid (routeB s.data.toList = (Lib.splitB ⟨#[46]⟩ 0 (Lib.countB s ⟨#[46]⟩) s).all fun p => isKeyL p.data.toList) := by
    show _ = _
    unfold routeB
    rw [hl, decide_eq_true hs, ← hsp, List.all_map]
    rfl
  generalize hps : Lib.splitB ⟨#[46]⟩ 0 (Lib.countB s ⟨#[46]⟩) s = ps at *
  generalize Lib.countB s ⟨#[46]⟩ = n at *
  have HL := Lib.hid hln
  have HZ := Lib.hid hsz
  have hd : decide (400 < (s.size : Int)) = false := decide_eq_false (by omega)
  clear hl hsp hln hsz hps hm
  go_enter Tryz.func41, Tryz.ntmps41
  go_wp2_with fail
  refine HSP.out.mono ?_
  rintro e w1 ⟨rfl, rfl⟩
  have HC : Hid (∀ k (h : k < ps.length), (w.alloc (.cells (ps.map Value.string).toArray 9)).cell? ⟨w.heap.size, k, none⟩ = some (.string ps[k])) := by
    intro k h
    rw [cell_of_row _ _ _ _ _ _ (heap_alloc_new w _)]
    simp [h]
  go_wp2_with fail
  go_loop [11] (fun i => ∃ k : Nat, k ≤ n + 1 ∧ i = .int .i64 k ∧ Hid (∀ j (h : j < ps.length), j < k → isKeyL ps[j].data.toList = true)) (fun i => n + 1 - (intOf i).toNat)
  case atStart => exact ⟨0, by omega, rfl, fun j h hj => by omega⟩
  case round =>
    obtain ⟨k, hk, rfl, HA⟩ := hrel
    by_cases hlt : k < n + 1
    · have hkl : k < ps.length := by rw [HL.out]; exact hlt
      have hc := HC.out k hkl
      have hz := HZ.out ps[k] (List.getElem_mem hkl)
      generalize hp : ps[k] = p at *
      have HP := Lib.hid hp
      clear hp
      cases hb : isKeyL p.data.toList with
      | true =>
        go_wp2_with (go_at_call 50; refine (misKey_any _ _ (by unfold maxLen; omega)).mono ?_; rintro e w' ⟨rfl, rfl⟩)
        go_round
        case rel =>
          refine ⟨k + 1, by omega, by go_num, ?_⟩
          intro j h hj
          by_cases e : j = k
          · subst e; rw [HP.out]; exact hb
          · exact HA.out j h (by omega)
        case measure => simp [intOf]; omega
      | false =>
        have HF : Hid ((ps.all fun p => isKeyL p.data.toList) = false) := by
          show _ = _
          rw [List.all_eq_false]
          exact ⟨p, by rw [← HP.out]; exact List.getElem_mem hkl, by rw [hb]; decide⟩
        go_wp2_with (go_at_call 50; refine (misKey_any _ _ (by unfold maxLen; omega)).mono ?_; rintro e w' ⟨rfl, rfl⟩)
        go_ret
        exact ⟨by rw [H.out, HF.out]; rfl, (Below.refl _ _).alloc (Nat.le_refl _) _⟩
    · have HT : Hid ((ps.all fun p => isKeyL p.data.toList) = true) := by
        show _ = _
        rw [List.all_eq_true]
        intro p hp
        obtain ⟨j, hj, rfl⟩ := List.mem_iff_getElem.1 hp
        exact HA.out j hj (by have := HL.out; omega)
      go_wp2_with fail
      go_ret
      exact ⟨by rw [H.out, HT.out]; rfl, (Below.refl _ _).alloc (Nat.le_refl _) _⟩
theorem groute_any (s : ByteArray) (w : World) (hs : s.size ≤ maxLen) (hml : ML 0 w) :
    Calls Tryz.prog 41 #[.string s] w fun e w' => e = .returned (.bool (routeB s.data.toList)) ∧ Below w.heap.size w w' := by
  by_cases h : 400 < s.size
  · exact (groute_long s w hs h).mono fun e w' ⟨h1, h2⟩ => ⟨h1, h2 ▸ Below.refl _ _⟩
  · exact groute_short s w (by omega) hml
end Go.Proofs.YtdolpehcfifecaaGreatDoor
