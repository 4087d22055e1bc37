/- conf.valueFault: whether a value's own parts are right. No conditions but that it is a value. · conf.valuesFault, Check: whether a value is right. Conditions (Check): at most 2^40 nodes. -/
import Derived.Test.YtihdfkcoajpmjaaGreatDoorKeH
import Derived.Test.YtihdfkcoajpmjaaGreatDoorKeC
import Derived.Shelf.SlSorted.Search
import Derived.Test.YtihdfkcoajpmjaaGreatDoorKePl
namespace Go.Proofs.YtihdfkcoajpmjaaGreatDoor
open Go.RowKit Mh
set_option linter.unusedVariables false

theorem lt_cases (a b : ByteArray) : (kl b a = true ∧ Op.bytesLess a.toList b.toList = false ∧ (a.toList == b.toList) = false) ∨ (kl b a = false ∧ Op.bytesLess a.toList b.toList = true) ∨ (kl b a = false ∧ Op.bytesLess a.toList b.toList = false ∧ (a.toList == b.toList) = true) := by
  rw [bytesLess_eq, Lib.toList_data, Lib.toList_data]
  show (kl b a = true ∧ kl a b = false ∧ _) ∨ (kl b a = false ∧ kl a b = true) ∨ (kl b a = false ∧ kl a b = false ∧ _)
  cases h1 : kl b a with
  | true =>
    refine .inl ⟨rfl, ?_, ?_⟩
    · cases h2 : kl a b with
      | false => rfl
      | true => have := kl_trans h1 h2; rw [kl_irrefl] at this; cases this
    · rw [beq_eq_false_iff_ne]
      intro e
      have h3 : a = b := by cases a; cases b; simpa [Array.toList_inj] using e
      rw [h3, kl_irrefl] at h1; cases h1
  | false =>
    cases h2 : kl a b with
    | true => exact .inr (.inl ⟨rfl, rfl⟩)
    | false => exact .inr (.inr ⟨rfl, rfl, by rw [kl_total h2 h1]; simp⟩)

set_option maxHeartbeats 4000000 in
set_option maxRecDepth 100000 in
theorem valueFault_any (X : V) (cs : List Value) (w : World) (h : VAt w X cs) :
    Calls Tryz.prog 98 #[.agg cs.toArray] w fun e w' => ∃ r : Int, e = .returned (.int .i64 r) ∧ (r = 0 ↔ V.good1 X) ∧ Below w.heap.size w w' := by
  obtain ⟨ia, ic, ka, kc, rfl, hil, hkl, htl, hss, _⟩ := h.opened
  obtain ⟨_, _, hsl, hkey⟩ := Ss.key hss
  simp only [Value.slice.injEq] at hsl
  obtain ⟨rfl, _, rfl⟩ := hsl
  rw [vcs_arr]
  obtain ⟨k, b, n, t, is, ks⟩ := X
  simp only [kd_mk, its_mk, kys_mk, V.bo, V.nu, V.tx] at *
  obtain ⟨G, hG⟩ : ∃ G : Prop, G ↔ V.good1 (.mk k b n t is ks) := ⟨_, Iff.rfl⟩
  suffices H : Calls Tryz.prog 98 #[.agg #[.int .i64 k, .bool b, .int .i64 n, .string t, .slice ia is.length ic, .slice ka ks.length kc]] w fun e w' => ∃ r : Int, e = .returned (.int .i64 r) ∧ (r = 0 ↔ G) ∧ Below w.heap.size w w' from
    H.mono fun e w' ⟨r, h1, h2, h3⟩ => ⟨r, h1, h2.trans hG, h3⟩
  unfold V.good1 at hG
  have HK := Lib.hid hkey
  have HB : Hid (Below w.heap.size w (w.alloc (.cells #[.int .i64 k, .bool b, .int .i64 n, .string t, .slice ia is.length ic, .slice ka ks.length kc] 35))) := (Below.refl w.heap.size w).alloc (Nat.le_refl _) _
  by_cases hk0 : k < 0
  · have HG : Hid (¬ G) := by intro g; have := (hG.1 g).1.1; omega
    have q : decide (k < 0) = true := decide_eq_true hk0
    clear hG h hss hkey hk0 HK
    go_enter Tryz.func98, Tryz.ntmps98
    go_wp2_with fail
    go_ret
    exact ⟨10, rfl, ⟨fun h => absurd h (by decide), fun g => absurd g HG.out⟩, HB.out⟩
  have q : decide (k < 0) = false := decide_eq_false hk0
  by_cases hk6 : 6 < k
  · have HG : Hid (¬ G) := by intro g; have := (hG.1 g).1.2; omega
    have q6 : decide (6 < k) = true := decide_eq_true hk6
    clear hG h hss hkey hk0 hk6 HK
    go_enter Tryz.func98, Tryz.ntmps98
    go_wp2_with fail
    go_ret
    exact ⟨10, rfl, ⟨fun h => absurd h (by decide), fun g => absurd g HG.out⟩, HB.out⟩
  have q6 : decide (6 < k) = false := decide_eq_false hk6
  have CU := Lib.hid (fun w => unused_any k b n t is ks ia ka ic kc w ⟨by omega, by omega⟩ hil hkl)
  have CD := Lib.hid (fun w => badDay_any n w)
  have CB := Lib.hid (fun w => badBytes_any t w htl)
  have hG2 : G ↔ unusedV (.mk k b n t is ks) = false ∧ ¬ (k = 4 ∧ decide (n < 0 ∨ 84005 < n) = true) ∧ t.size ≤ 5000 ∧ badL t.data.toList = false ∧ keysOk ks := by
    rw [hG]
    constructor
    · rintro ⟨_, h2, h3, h4, h5, h6⟩
      exact ⟨h2, fun h => h3 ⟨h.1, of_decide_eq_true h.2⟩, h4, h5, h6⟩
    · rintro ⟨h2, h3, h4, h5, h6⟩
      exact ⟨⟨by omega, by omega⟩, h2, fun h => h3 ⟨h.1, decide_eq_true h.2⟩, h4, h5, h6⟩
  clear hG
  generalize unusedV (.mk k b n t is ks) = U at *
  generalize decide (n < 0 ∨ 84005 < n) = D at *
  generalize badL t.data.toList = T at *
  have HG := Lib.hid hG2
  unfold maxLen at hil hkl htl
  clear hG2 h hss hkey hk0 hk6
  go_enter Tryz.func98, Tryz.ntmps98
  go_wp2_with fail
  refine (CU.out _).mono ?_
  rintro e w1 ⟨rfl, hb1⟩
  have hbk : w1.heap[w.heap.size]? = some (.cells #[.int .i64 k, .bool b, .int .i64 n, .string t, .slice ia is.length ic, .slice ka ks.length kc] 35 (0, 0)) := (hb1.block _ (by simp)).trans (heap_alloc_new _ _)
  have HB1 : Hid (Below w.heap.size w w1) := HB.out.trans (hb1.mono (by simp))
  have x0 : w1.cell? ⟨w.heap.size, 0, none⟩ = some (.int .i64 k) := cellT hbk rfl
  have x2 : w1.cell? ⟨w.heap.size, 2, none⟩ = some (.int .i64 n) := cellT hbk rfl
  have x3 : w1.cell? ⟨w.heap.size, 3, none⟩ = some (.string t) := cellT hbk rfl
  have x5 : w1.cell? ⟨w.heap.size, 5, none⟩ = some (.slice ka ks.length kc) := cellT hbk rfl
  clear hb1 hbk CU HB
  cases U with
  | true =>
    go_wp2_with fail
    go_ret
    exact ⟨1, rfl, ⟨fun h => absurd h (by decide), fun g => by have := (HG.out.1 g).1; cases this⟩, HB1.out⟩
  | false =>
  have HG2 : Hid (k = 4 → D = true → ¬ G) := fun h4 hD g => (HG.out.1 g).2.1 ⟨h4, hD⟩
  have KD : ((k == 4) = false) ∨ ((k == 4) = true ∧ D = false) ∨ ((k == 4) = true ∧ D = true ∧ Hid (¬ G)) := by
    by_cases h4 : k = 4
    · have e : (k == 4) = true := by rw [beq_iff_eq]; exact h4
      cases hD : D with
      | false => exact .inr (.inl ⟨e, rfl⟩)
      | true => exact .inr (.inr ⟨e, rfl, HG2.out h4 hD⟩)
    · exact .inl (by rw [beq_eq_false_iff_ne]; exact h4)
  have HD0 : Hid (((k == 4) = false ∨ D = false) → (G ↔ t.size ≤ 5000 ∧ T = false ∧ keysOk ks)) := by
    intro h
    rw [HG.out]
    refine ⟨fun g => g.2.2, fun g => ⟨rfl, fun h4 => ?_, g⟩⟩
    rcases h with h | h
    · rw [beq_eq_false_iff_ne] at h; exact h h4.1
    · rw [h] at h4; cases h4.2
  clear HG2 HG
  rcases KD with K1 | ⟨K1, rfl⟩ | ⟨K1, rfl, HN⟩
  rotate_left 2
  · clear HD0
    go_wp2_with (go_at_call 103; refine (CD.out _).mono ?_; rintro e w' ⟨rfl, rfl⟩)
    go_ret
    exact ⟨2, rfl, ⟨fun h => absurd h (by decide), fun g => absurd g HN.out⟩, HB1.out⟩
  all_goals
    have HG3 := Lib.hid (HD0.out (by first | exact .inl K1 | exact .inr rfl))
    clear HD0
    by_cases h5 : 5000 < t.size
    · have HN : Hid (¬ G) := by intro g; have := (HG3.out.1 g).1; omega
      have q5 : decide ((5000 : Int) < (t.size : Int)) = true := decide_eq_true (by omega)
      have q5' : decide (5000 < t.size) = true := decide_eq_true h5
      clear HG3 h5
      go_wp2_with (go_at_call 103; refine (CD.out _).mono ?_; rintro e w' ⟨rfl, rfl⟩)
      go_ret
      exact ⟨4, rfl, ⟨fun h => absurd h (by decide), fun g => absurd g HN.out⟩, HB1.out⟩
    · have q5 : decide ((5000 : Int) < (t.size : Int)) = false := decide_eq_false (by omega)
      have q5' : decide (5000 < t.size) = false := decide_eq_false h5
      have HG4 : Hid (G ↔ T = false ∧ keysOk ks) := HG3.out.trans ⟨fun g => g.2, fun g => ⟨by omega, g⟩⟩
      clear HG3 h5
      cases T with
      | true =>
        go_wp2_with (first | (go_at_call 103; refine (CD.out _).mono ?_; rintro e w' ⟨rfl, rfl⟩) | (go_at_call 104; refine (CB.out _).mono ?_; rintro e w' ⟨rfl, rfl⟩))
        go_ret
        exact ⟨9, rfl, ⟨fun h => absurd h (by decide), fun g => by have := (HG4.out.1 g).1; cases this⟩, HB1.out⟩
      | false =>
        have HG5 : Hid (G ↔ keysOk ks) := HG4.out.trans ⟨fun g => g.2, fun g => ⟨rfl, g⟩⟩
        clear HG4
        go_wp2_with (first | (go_at_call 103; refine (CD.out _).mono ?_; rintro e w' ⟨rfl, rfl⟩) | (go_at_call 104; refine (CB.out _).mono ?_; rintro e w' ⟨rfl, rfl⟩))
        clear CD CB q q6 K1 q5 q5' x0 x2 x3
        go_loop [38] (fun i => ∃ j : Nat, j ≤ ks.length ∧ i = .int .i64 j ∧ Hid (∀ q (hq : q < ks.length), q < j → isKeyL ks[q].data.toList = true ∧ (∀ h0 : 0 < q, kl (ks[q - 1]'(by omega)) ks[q] = true))) (fun i => ks.length - (intOf i).toNat)
        case atStart => exact ⟨0, by omega, rfl, fun q hq h => by omega⟩
        case round =>
          obtain ⟨j, hj, rfl, HA⟩ := hrel
          by_cases hjl : j < ks.length
          · obtain ⟨kb, ko, rfl, hkb, hcell, hsz⟩ := HK.out j hjl
            have y1 : w1.cell? ⟨kb, ko + j, none⟩ = some (.string ks[j]) := (HB1.out.cell (p := ⟨kb, ko + j, none⟩) hkb).trans hcell
            have CK := Lib.hid (fun w => isKey_any ks[j] w hsz)
            have NK : Hid (isKeyL ks[j].data.toList = false → ¬ G) := by
              intro hf g
              have := (HG5.out.1 g j hjl).1
              rw [hf] at this; cases this
            have NL : Hid (∀ h0 : 0 < j, kl (ks[j - 1]'(by omega)) ks[j] = false → ¬ G) := by
              intro h0 hf g
              have := (HG5.out.1 g j hjl).2 h0
              rw [hf] at this; cases this
            have NX : Hid (isKeyL ks[j].data.toList = true → (∀ h0 : 0 < j, kl (ks[j - 1]'(by omega)) ks[j] = true) → ∀ q (hq : q < ks.length), q < j + 1 → isKeyL ks[q].data.toList = true ∧ (∀ h0 : 0 < q, kl (ks[q - 1]'(by omega)) ks[q] = true)) := by
              intro h1 h2 q hq hlt
              by_cases e : q = j
              · subst e; exact ⟨h1, h2⟩
              · exact HA.out q hq (by omega)
            generalize isKeyL ks[j].data.toList = B at *
            clear hcell hsz HA
            cases B with
            | false =>
              have HN := Lib.hid (NK.out rfl)
              clear NK NL NX
              go_wp2_with (go_at_call 105; refine (CK.out _).mono ?_; rintro e w' ⟨rfl, rfl⟩)
              go_ret
              exact ⟨12, rfl, ⟨fun h => absurd h (by decide), fun g => absurd g HN.out⟩, HB1.out⟩
            | true =>
              have NX2 := Lib.hid (NX.out rfl)
              clear NK NX
              by_cases hj0 : j = 0
              · have HX := Lib.hid (NX2.out (fun h0 => by omega))
                have t0 : decide ((0 : Int) < (j : Int)) = false := decide_eq_false (by omega)
                have t0' : decide (0 < j) = false := decide_eq_false (by omega)
                clear NL NX2 hj0
                go_wp2_with (go_at_call 105; refine (CK.out _).mono ?_; rintro e w' ⟨rfl, rfl⟩)
                go_round
                case rel => exact ⟨j + 1, by omega, by go_num, HX⟩
                case measure => simp [intOf]; omega
              · have t0 : decide ((0 : Int) < (j : Int)) = true := decide_eq_true (by omega)
                have t0' : decide (0 < j) = true := decide_eq_true (by omega)
                obtain ⟨p, hp⟩ : ∃ p, p = j - 1 := ⟨_, rfl⟩
                have hpl : p < ks.length := by omega
                have hw : IntKind.i64.wrap ((j : Int) - 1) = (p : Int) := by rw [IntWalk.i64_in _ (by omega)]; omega
                have hcell2 : w1.cell? ⟨kb, ko + p, none⟩ = some (.string ks[p]) := by
                  obtain ⟨kb', ko', e', _, hcell', _⟩ := HK.out p hpl
                  cases e'
                  exact (HB1.out.cell (p := ⟨kb, ko + p, none⟩) hkb).trans hcell'
                have NL2 : Hid (kl ks[p] ks[j] = false → ¬ G) := by
                  have := NL.out (by omega)
                  simp only [← hp] at this
                  exact this
                have NX3 : Hid (kl ks[p] ks[j] = true → ∀ q (hq : q < ks.length), q < j + 1 → isKeyL ks[q].data.toList = true ∧ (∀ h0 : 0 < q, kl (ks[q - 1]'(by omega)) ks[q] = true)) := by
                  intro h
                  exact NX2.out (fun h0 => by simp only [← hp]; exact h)
                have hL := lt_cases ks[j] ks[p]
                have hj1 : 1 ≤ j := by omega
                have HP := Lib.hid hp
                clear NL NX2 hj0 hp
                rcases hL with ⟨l1, l2, l3⟩ | ⟨l1, l2⟩ | ⟨l1, l2, l3⟩
                · have HX := Lib.hid (NX3.out l1)
                  clear NL2 NX3 l1
                  go_wp2_with (go_at_call 105; refine (CK.out _).mono ?_; rintro e w' ⟨rfl, rfl⟩)
                  go_round
                  case rel => exact ⟨j + 1, by omega, by go_num, HX⟩
                  case measure => simp [intOf]; omega
                all_goals
                  have HN := Lib.hid (NL2.out l1)
                  clear NL2 NX3 l1
                  go_wp2_with (go_at_call 105; refine (CK.out _).mono ?_; rintro e w' ⟨rfl, rfl⟩)
                  go_ret
                  exact ⟨5, rfl, ⟨fun h => absurd h (by decide), fun g => absurd g HN.out⟩, HB1.out⟩
          · have HY : Hid G := HG5.out.2 (fun i hi => HA.out i hi (by omega))
            go_wp2_with fail
            go_ret
            exact ⟨0, rfl, ⟨fun _ => HY.out, fun _ => rfl⟩, HB1.out⟩
end Go.Proofs.YtihdfkcoajpmjaaGreatDoor
namespace Go.Proofs.YtihdfkcoajpmjaaGreatDoor
open Go.RowKit Mh
set_option linter.unusedVariables false

theorem goods_drop (is : List V) (i : Nat) (h : i < is.length) : V.goods (is.drop i) ↔ is[i].good ∧ V.goods (is.drop (i + 1)) := by
  rw [List.drop_eq_getElem_cons h]
  simp only [V.goods]
set_option maxHeartbeats 4000000 in
theorem valuesFault_any : ∀ (M : Nat) (X : V), SizeOf.sizeOf X < M → ∀ (cs : List Value) (w : World), VAt w X cs →
    Calls Tryz.prog 92 #[.agg cs.toArray] w fun e w' => ∃ r : Int, e = .returned (.int .i64 r) ∧ (r = 0 ↔ X.good) ∧ Below w.heap.size w w' := by
  intro M
  induction M with
  | zero => intro X h; omega
  | succ M ih =>
    intro X hX cs w h
    have CF := Lib.hid (fun w' (hb : Below w.heap.size w w') => valueFault_any X cs w' (h.keep hb))
    obtain ⟨ia, ic, ka, kc, rfl, hil, _, _, _, rows, hS, hT⟩ := h.opened
    obtain ⟨_, _, hsl, hk⟩ := VsAt.item hS hT
    simp only [Value.slice.injEq] at hsl
    obtain ⟨rfl, _, rfl⟩ := hsl
    have HK := Lib.hid hk
    rw [vcs_arr] at CF
    rw [vcs_arr]
    have hsz : ∀ y ∈ X.its, SizeOf.sizeOf y < M := by
      obtain ⟨k, b, n, t, is, ks⟩ := X
      intro y hy
      have := size_item (k := k) (b := b) (n := n) (t := t) (ks := ks) (show y ∈ is from hy)
      omega
    have HIH : Hid (∀ k (h : k < X.its.length) (cs : List Value) (w : World), VAt w X.its[k] cs → Calls Tryz.prog 92 #[.agg cs.toArray] w fun e w' => ∃ r : Int, e = .returned (.int .i64 r) ∧ (r = 0 ↔ X.its[k].good) ∧ Below w.heap.size w w') := by
      intro k h
      exact ih X.its[k] (hsz _ (List.getElem_mem h))
    have HG : Hid (X.good ↔ X.good1 ∧ V.goods X.its) := by
      obtain ⟨k, b, n, t, is, ks⟩ := X
      show _ ↔ _
      simp only [V.good]; exact Iff.rfl
    have HB0 : Hid (Below w.heap.size w (w.alloc (.cells (sixA X ia ic ka kc) 35))) := (Below.refl w.heap.size w).alloc (Nat.le_refl _) _
    unfold sixA at HB0
    generalize X.good = G at *
    generalize X.good1 = G1 at *
    generalize X.its = is at *
    generalize X.kys = ks at *
    generalize X.kd = xk at *
    generalize X.bo = xb at *
    generalize X.nu = xn at *
    generalize X.tx = xt at *
    unfold maxLen at hil
    clear hS hT hk ih hX h hsz
    go_enter Tryz.func92, Tryz.ntmps92
    go_wp2_with fail
    refine (CF.out _ HB0.out).mono ?_
    rintro e w1 ⟨r, rfl, hr, hb1⟩
    have hbk : w1.heap[w.heap.size]? = some (.cells #[.int .i64 xk, .bool xb, .int .i64 xn, .string xt, .slice ia is.length ic, .slice ka ks.length kc] 35 (0, 0)) := (hb1.block _ (by simp)).trans (heap_alloc_new _ _)
    have HB1 : Hid (Below w.heap.size w w1) := HB0.out.trans (hb1.mono (by simp))
    have hz1 : w.heap.size + 1 ≤ w1.heap.size := by have := hb1.size; simp at this; omega
    have x4 : w1.cell? ⟨w.heap.size, 4, none⟩ = some (.slice ia is.length ic) := cellT hbk rfl
    clear hb1 hbk CF HB0
    by_cases hr0 : r = 0
    · subst hr0
      have HG1 : Hid (G ↔ V.goods is) := HG.out.trans ⟨fun g => g.2, fun g => ⟨hr.1 rfl, g⟩⟩
      clear hr HG
      go_wp2_with fail
      go_loopw [15] (fun i wr => ∃ j : Nat, j ≤ is.length ∧ i = .int .i64 j ∧ Hid (G ↔ V.goods (is.drop j)) ∧ Hid (Below w.heap.size w wr) ∧ w.heap.size + 1 ≤ wr.heap.size) (fun i _ => is.length - (intOf i).toNat)
      case atStart => exact ⟨0, by omega, rfl, by show _ ↔ _; rw [List.drop_zero]; exact HG1.out, HB1, hz1⟩
      case round =>
        obtain ⟨j, hj, rfl, HJ, HB, hzr⟩ := hrel
        by_cases hjl : j < is.length
        · obtain ⟨b, off, ja, jc, la, lc, rfl, hlt, hat, hc6⟩ := HK.out j hjl
          obtain ⟨d0, d1, d2, d3, d4, d5⟩ := six_later HB.out hlt hc6
          have hBn : Below wr.heap.size wr (wr.alloc (.cells #[.int .i64 is[j].kd, .bool is[j].bo, .int .i64 is[j].nu, .string is[j].tx, .slice ja is[j].its.length jc, .slice la is[j].kys.length lc] 35)) := (Below.refl _ wr).alloc (Nat.le_refl _) _
          have HB2 : Hid (Below w.heap.size w (wr.alloc (.cells #[.int .i64 is[j].kd, .bool is[j].bo, .int .i64 is[j].nu, .string is[j].tx, .slice ja is[j].its.length jc, .slice la is[j].kys.length lc] 35))) := HB.out.trans (hBn.mono HB.out.size)
          have HCALL := Lib.hid (HIH.out j hjl _ _ (hat.keep HB2.out))
          rw [vcs_arr] at HCALL
          have HD := Lib.hid (goods_drop is j hjl)
          clear hBn hc6 hat
          go_wp2_with fail
          refine HCALL.out.mono ?_
          rintro e w2 ⟨r, rfl, hr, hb2⟩
          have HB3 : Hid (Below w.heap.size w w2) := HB2.out.trans (hb2.mono HB2.out.size)
          have hz3 : w.heap.size + 1 ≤ w2.heap.size := by have := hb2.size; simp at this; omega
          clear hb2 d0 d1 d2 d3 d4 d5 HCALL
          by_cases hr0 : r = 0
          · subst hr0
            have HX : Hid (G ↔ V.goods (is.drop (j + 1))) := HJ.out.trans (HD.out.trans ⟨fun g => g.2, fun g => ⟨hr.1 rfl, g⟩⟩)
            clear hr HJ HD
            go_wp2_with fail
            go_roundw
            case rel => exact ⟨j + 1, by omega, by go_num, HX, HB3, hz3⟩
            case measure => simp [intOf]; omega
          · have HN : Hid (¬ G) := fun g => hr0 (hr.2 (HD.out.1 (HJ.out.1 g)).1)
            have q : (r != 0) = true := by rw [bne_iff_ne]; exact hr0
            have HR0 := Lib.hid hr0
            clear hr HJ HD hr0
            go_wp2_with fail
            go_ret
            exact ⟨r, rfl, ⟨fun h => absurd h HR0.out, fun g => absurd g HN.out⟩, HB3.out⟩
        · have HY : Hid G := HJ.out.2 (by rw [List.drop_eq_nil_of_le (by omega)]; simp [V.goods])
          go_wp2_with fail
          go_ret
          exact ⟨0, rfl, ⟨fun _ => HY.out, fun _ => rfl⟩, HB.out⟩
    · have HN : Hid (¬ G) := fun g => hr0 (hr.2 (HG.out.1 g).1)
      have q : (r != 0) = true := by rw [bne_iff_ne]; exact hr0
      have HR0 := Lib.hid hr0
      clear hr hr0 HG
      go_wp2_with fail
      go_ret
      exact ⟨r, rfl, ⟨fun h => absurd h HR0.out, fun g => absurd g HN.out⟩, HB1.out⟩

set_option maxHeartbeats 2000000 in
theorem check_any (X : V) (hn : X.nodes ≤ 1099511627776) (cs : List Value) (w : World) (h : VAt w X cs) :
    Calls Tryz.prog 78 #[.agg cs.toArray] w fun e w' => ∃ r : Int, e = .returned (.int .i64 r) ∧ (r = 0 ↔ X.okc) ∧ Below w.heap.size w w' := by
  have C1 := Lib.hid (fun w' (hb : Below w.heap.size w w') => count_any _ X (Nat.lt_succ_self _) hn cs w' (h.keep hb))
  have C2 := Lib.hid (fun w' (hb : Below w.heap.size w w') => levels_any _ X (Nat.lt_succ_self _) hn cs w' (h.keep hb))
  have C3 := Lib.hid (fun w' (hb : Below w.heap.size w w') => valuesFault_any _ X (Nat.lt_succ_self _) cs w' (h.keep hb))
  have c1 := cnt_nodes X
  have c2 := lev_nodes X
  have HG : Hid (X.okc ↔ X.cnt ≤ 1000 ∧ X.lev ≤ 8 ∧ X.good) := Iff.rfl
  obtain ⟨ia, ic, ka, kc, rfl, _⟩ := h.opened
  rw [vcs_arr] at C1 C2 C3
  rw [vcs_arr]
  have HB0 : Hid (Below w.heap.size w (w.alloc (.cells (sixA X ia ic ka kc) 35))) := (Below.refl w.heap.size w).alloc (Nat.le_refl _) _
  unfold sixA at HB0
  generalize X.okc = O at *
  generalize X.cnt = c at *
  generalize X.lev = l at *
  generalize X.good = G at *
  generalize X.its = is at *
  generalize X.kys = ks at *
  generalize X.kd = xk at *
  generalize X.bo = xb at *
  generalize X.nu = xn at *
  generalize X.tx = xt at *
  clear h
  go_enter Tryz.func78, Tryz.ntmps78
  go_wp2_with fail
  refine (C1.out _ HB0.out).mono ?_
  rintro e w1 ⟨rfl, hb1⟩
  have hbk : w1.heap[w.heap.size]? = some (.cells #[.int .i64 xk, .bool xb, .int .i64 xn, .string xt, .slice ia is.length ic, .slice ka ks.length kc] 35 (0, 0)) := (hb1.block _ (by simp)).trans (heap_alloc_new _ _)
  have HB1 : Hid (Below w.heap.size w w1) := HB0.out.trans (hb1.mono (by simp))
  have HZ1 : Hid (w.heap.size < w1.heap.size) := by have := hb1.size; simp at this; show _ < _; omega
  have x0 := cellT hbk (i := 0) rfl
  have x1 := cellT hbk (i := 1) rfl
  have x2 := cellT hbk (i := 2) rfl
  have x3 := cellT hbk (i := 3) rfl
  have x4 := cellT hbk (i := 4) rfl
  have x5 := cellT hbk (i := 5) rfl
  have HBK := Lib.hid hbk
  clear hb1 hbk HB0
  by_cases hc : 1000 < c
  · have HN : Hid (¬ O) := fun o => by have := (HG.out.1 o).1; omega
    have q : decide ((1000 : Int) < (c : Int)) = true := decide_eq_true (by omega)
    have q' : decide (1000 < c) = true := decide_eq_true hc
    clear HG hc c1 c2
    go_wp2_with fail
    go_ret
    exact ⟨4, rfl, ⟨fun h => absurd h (by decide), fun g => absurd g HN.out⟩, HB1.out⟩
  · have q : decide ((1000 : Int) < (c : Int)) = false := decide_eq_false (by omega)
    have q' : decide (1000 < c) = false := decide_eq_false hc
    have HG2 : Hid (O ↔ l ≤ 8 ∧ G) := HG.out.trans ⟨fun g => g.2, fun g => ⟨by omega, g⟩⟩
    clear HG hc c1
    go_wp2_with fail
    refine (C2.out _ HB1.out).mono ?_
    rintro e w2 ⟨rfl, hb2⟩
    have hbk := (hb2.block _ HZ1.out).trans HBK.out
    have HB2 : Hid (Below w.heap.size w w2) := HB1.out.trans (hb2.mono HB1.out.size)
    clear x0 x1 x2 x3 x4 x5 hb2
    have x0 := cellT hbk (i := 0) rfl
    have x1 := cellT hbk (i := 1) rfl
    have x2 := cellT hbk (i := 2) rfl
    have x3 := cellT hbk (i := 3) rfl
    have x4 := cellT hbk (i := 4) rfl
    have x5 := cellT hbk (i := 5) rfl
    clear hbk HBK
    by_cases hl : 8 < l
    · have HN : Hid (¬ O) := fun o => by have := (HG2.out.1 o).1; omega
      have q2 : decide ((8 : Int) < (l : Int)) = true := decide_eq_true (by omega)
      have q2' : decide (8 < l) = true := decide_eq_true hl
      clear HG2 hl c2
      go_wp2_with fail
      go_ret
      exact ⟨13, rfl, ⟨fun h => absurd h (by decide), fun g => absurd g HN.out⟩, HB2.out⟩
    · have q2 : decide ((8 : Int) < (l : Int)) = false := decide_eq_false (by omega)
      have q2' : decide (8 < l) = false := decide_eq_false hl
      have HG3 : Hid (O ↔ G) := HG2.out.trans ⟨fun g => g.2, fun g => ⟨by omega, g⟩⟩
      clear HG2 hl c2
      go_wp2_with fail
      refine (C3.out _ HB2.out).mono ?_
      rintro e w3 ⟨r, rfl, hr, hb3⟩
      have HB3 : Hid (Below w.heap.size w w3) := HB2.out.trans (hb3.mono HB2.out.size)
      have HR : Hid (r = 0 ↔ O) := hr.trans HG3.out.symm
      clear hr hb3 x0 x1 x2 x3 x4 x5
      go_wp2_with fail
      go_ret
      exact ⟨r, rfl, HR.out, HB3.out⟩
end Go.Proofs.YtihdfkcoajpmjaaGreatDoor
