/- list.tableFault, valueFault, valuesFault, CheckItem, listFault: whether a value can be an item. Conditions: at most 2^40 values. -/
import Derived.Test.YtihdfkcoajpmjaaGreatDoorLsC
import Derived.Test.YtihdfkcoajpmjaaGreatDoorLsG
import Derived.Shelf.SlSorted.Search
namespace Go.Proofs.YtihdfkcoajpmjaaGreatDoor
open Go.RowKit Mh
set_option linter.unusedVariables false
set_option maxHeartbeats 4000000 in
set_option maxRecDepth 100000 in
theorem ltableFault_any (X : V) (cs : List Value) (w : World) (h : VAt w X cs) :
    Calls Tryz.prog 94 #[.agg cs.toArray] w fun e w' => ∃ r : Int, e = .returned (.int .i64 r) ∧ (r = 0 ↔ X.tabOk) ∧ Below w.heap.size w w' := by
  obtain ⟨ia, ic, ka, kc, rfl, hil, hkl, htl, hss, _⟩ := h.opened
  obtain ⟨_, _, hsl, hkey⟩ := Ss.key hss
  simp only [Value.slice.injEq] at hsl
  obtain ⟨rfl, _, rfl⟩ := hsl
  rw [vcs_arr]
  obtain ⟨k, b, n, t, is, ks⟩ := X
  simp only [kd_mk, its_mk, kys_mk, V.bo, V.nu, V.tx] at *
  obtain ⟨G, hG⟩ : ∃ G : Prop, G ↔ V.tabOk (.mk k b n t is ks) := ⟨_, Iff.rfl⟩
  suffices H : Calls Tryz.prog 94 #[.agg #[.int .i64 k, .bool b, .int .i64 n, .string t, .slice ia is.length ic, .slice ka ks.length kc]] w fun e w' => ∃ r : Int, e = .returned (.int .i64 r) ∧ (r = 0 ↔ G) ∧ Below w.heap.size w w' from
    H.mono fun e w' ⟨r, h1, h2, h3⟩ => ⟨r, h1, h2.trans hG, h3⟩
  replace hG : G ↔ (b = false ∧ n = 0 ∧ t.size = 0 ∧ ks.length = is.length) ∧ keysOk ks := hG
  have HK := Lib.hid hkey
  have HG := Lib.hid hG
  have HB : Hid (Below w.heap.size w (w.alloc (.cells #[.int .i64 k, .bool b, .int .i64 n, .string t, .slice ia is.length ic, .slice ka ks.length kc] 35))) := (Below.refl w.heap.size w).alloc (Nat.le_refl _) _
  unfold maxLen at hil hkl htl
  clear hG h hss hkey
  cases b with
  | true =>
    have HN : Hid (¬ G) := fun g => by have := (HG.out.1 g).1.1; cases this
    go_enter Tryz.func94, Tryz.ntmps94
    go_wp2_with fail
    go_ret
    exact ⟨1, rfl, ⟨fun h => absurd h (by decide), fun g => absurd g HN.out⟩, HB.out⟩
  | false =>
  by_cases hn : n = 0
  case neg =>
    have HN : Hid (¬ G) := fun g => hn (HG.out.1 g).1.2.1
    have q : (n != 0) = true := by rw [bne_iff_ne]; exact hn
    clear hn
    go_enter Tryz.func94, Tryz.ntmps94
    go_wp2_with fail
    go_ret
    exact ⟨1, rfl, ⟨fun h => absurd h (by decide), fun g => absurd g HN.out⟩, HB.out⟩
  subst hn
  by_cases ht : t.size = 0
  case neg =>
    have HN : Hid (¬ G) := fun g => ht (HG.out.1 g).1.2.2.1
    have q := empty_not (t := t) ht
    clear ht
    go_enter Tryz.func94, Tryz.ntmps94
    go_wp2_with fail
    go_ret
    exact ⟨1, rfl, ⟨fun h => absurd h (by decide), fun g => absurd g HN.out⟩, HB.out⟩
  have qt := empty_of (t := t) ht
  by_cases hl : ks.length = is.length
  case neg =>
    have HN : Hid (¬ G) := fun g => hl (HG.out.1 g).1.2.2.2
    have q : ((ks.length : Int) != (is.length : Int)) = true := by rw [bne_iff_ne]; omega
    have q' : (ks.length != is.length) = true := by rw [bne_iff_ne]; exact hl
    clear hl ht
    go_enter Tryz.func94, Tryz.ntmps94
    go_wp2_with fail
    go_ret
    exact ⟨1, rfl, ⟨fun h => absurd h (by decide), fun g => absurd g HN.out⟩, HB.out⟩
  have HG5 : Hid (G ↔ keysOk ks) := HG.out.trans ⟨fun g => g.2, fun g => ⟨⟨rfl, rfl, ht, hl⟩, g⟩⟩
  have q : ((ks.length : Int) != (is.length : Int)) = false := by rw [bne_eq_false_iff_eq]; omega
  have q' : (ks.length != is.length) = false := by rw [bne_eq_false_iff_eq]; exact hl
  clear hl ht HG
  generalize hil2 : is.length = il at *
  clear hil2
  go_enter Tryz.func94, Tryz.ntmps94
  go_wp2_with fail
  clear q q' qt
  have x5 : (w.alloc (.cells #[.int .i64 k, .bool false, .int .i64 0, .string t, .slice ia il ic, .slice ka ks.length kc] 35)).cell? ⟨w.heap.size, 5, none⟩ = some (.slice ka ks.length kc) := cellT (heap_alloc_new _ _) rfl
  generalize World.alloc _ _ = w1 at HB x5 ⊢
  go_loop [29] (fun i => ∃ j : Nat, j ≤ ks.length ∧ i = .int .i64 j ∧ Hid (∀ q (hq : q < ks.length), q < j → isKeyL ks[q].data.toList = true ∧ (∀ h0 : 0 < q, kl (ks[q - 1]'(by omega)) ks[q] = true))) (fun i => ks.length - (intOf i).toNat)
  case atStart => exact ⟨0, by omega, rfl, fun q hq h => by omega⟩
  case round =>
    obtain ⟨j, hj, rfl, HA⟩ := hrel
    by_cases hjl : j < ks.length
    · obtain ⟨kb, ko, rfl, hkb, hcell, hsz⟩ := HK.out j hjl
      have y1 : w1.cell? ⟨kb, ko + j, none⟩ = some (.string ks[j]) := (HB.out.cell (p := ⟨kb, ko + j, none⟩) hkb).trans hcell
      have CK := Lib.hid (fun w => lisKey_any ks[j] w hsz)
      have NK : Hid (isKeyL ks[j].data.toList = false → ¬ G) := by
        intro hf g
        have := (HG5.out.1 g j hjl).1
        rw [hf] at this; cases this
      have NL : Hid (∀ h0 : 0 < j, kl (ks[j - 1]'(by omega)) ks[j] = false → ¬ G) := by
        intro h0 hf g
        have := (HG5.out.1 g j hjl).2 h0
        rw [hf] at this; cases this
      have NX : Hid (isKeyL ks[j].data.toList = true → (∀ h0 : 0 < j, kl (ks[j - 1]'(by omega)) ks[j] = true) → ∀ q (hq : q < ks.length), q < j + 1 → isKeyL ks[q].data.toList = true ∧ (∀ h0 : 0 < q, kl (ks[q - 1]'(by omega)) ks[q] = true)) := by
        intro h1 h2 q hq hlt
        by_cases e : q = j
        · subst e; exact ⟨h1, h2⟩
        · exact HA.out q hq (by omega)
      generalize isKeyL ks[j].data.toList = B at *
      clear hcell hsz HA
      cases B with
      | false =>
        have HN := Lib.hid (NK.out rfl)
        clear NK NL NX
        go_wp2_with (go_at_call 38; refine (CK.out _).mono ?_; rintro e w' ⟨rfl, rfl⟩)
        go_ret
        exact ⟨12, rfl, ⟨fun h => absurd h (by decide), fun g => absurd g HN.out⟩, HB.out⟩
      | true =>
        have NX2 := Lib.hid (NX.out rfl)
        clear NK NX
        by_cases hj0 : j = 0
        · have HX := Lib.hid (NX2.out (fun h0 => by omega))
          have t0 : decide ((0 : Int) < (j : Int)) = false := decide_eq_false (by omega)
          have t0' : decide (0 < j) = false := decide_eq_false (by omega)
          clear NL NX2 hj0
          go_wp2_with (go_at_call 38; refine (CK.out _).mono ?_; rintro e w' ⟨rfl, rfl⟩)
          go_round
          case rel => exact ⟨j + 1, by omega, by go_num, HX⟩
          case measure => simp [intOf]; omega
        · have t0 : decide ((0 : Int) < (j : Int)) = true := decide_eq_true (by omega)
          have t0' : decide (0 < j) = true := decide_eq_true (by omega)
          obtain ⟨p, hp⟩ : ∃ p, p = j - 1 := ⟨_, rfl⟩
          have hpl : p < ks.length := by omega
          have hw : IntKind.i64.wrap ((j : Int) - 1) = (p : Int) := by rw [IntWalk.i64_in _ (by omega)]; omega
          have hcell2 : w1.cell? ⟨kb, ko + p, none⟩ = some (.string ks[p]) := by
            obtain ⟨kb', ko', e', _, hcell', _⟩ := HK.out p hpl
            cases e'
            exact (HB.out.cell (p := ⟨kb, ko + p, none⟩) hkb).trans hcell'
          have NL2 : Hid (kl ks[p] ks[j] = false → ¬ G) := by
            have := NL.out (by omega)
            simp only [← hp] at this
            exact this
          have NX3 : Hid (kl ks[p] ks[j] = true → ∀ q (hq : q < ks.length), q < j + 1 → isKeyL ks[q].data.toList = true ∧ (∀ h0 : 0 < q, kl (ks[q - 1]'(by omega)) ks[q] = true)) := by
            intro h
            exact NX2.out (fun h0 => by simp only [← hp]; exact h)
          have hL := lt_cases ks[j] ks[p]
          have hj1 : 1 ≤ j := by omega
          have HP := Lib.hid hp
          clear NL NX2 hj0 hp
          rcases hL with ⟨l1, l2, l3⟩ | ⟨l1, l2⟩ | ⟨l1, l2, l3⟩
          · have HX := Lib.hid (NX3.out l1)
            clear NL2 NX3 l1
            go_wp2_with (go_at_call 38; refine (CK.out _).mono ?_; rintro e w' ⟨rfl, rfl⟩)
            go_round
            case rel => exact ⟨j + 1, by omega, by go_num, HX⟩
            case measure => simp [intOf]; omega
          all_goals
            have HN := Lib.hid (NL2.out l1)
            clear NL2 NX3 l1
            go_wp2_with (go_at_call 38; refine (CK.out _).mono ?_; rintro e w' ⟨rfl, rfl⟩)
            go_ret
            exact ⟨5, rfl, ⟨fun h => absurd h (by decide), fun g => absurd g HN.out⟩, HB.out⟩
    · have HY : Hid G := HG5.out.2 (fun i hi => HA.out i hi (by omega))
      go_wp2_with fail
      go_ret
      exact ⟨0, rfl, ⟨fun _ => HY.out, fun _ => rfl⟩, HB.out⟩
end Go.Proofs.YtihdfkcoajpmjaaGreatDoor
