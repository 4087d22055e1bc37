/- lang.namesFault: returns 0 if and only if the names are right. Conditions: none. -/
import Derived.Test.YtdolpehcfifecaaGreatDoorMbt
import Derived.Test.YtdolpehcfifecaaGreatDoorMbf
namespace Mh
open Go Go.RowKit
set_option linter.unusedVariables false
def okW1 (s : ByteArray) : Prop := s.size ≠ 0 ∧ s.data.toList.any badB = false ∧ s.data.toList.any digB = false
def okNm (g p : ByteArray) (ls : List (List ByteArray)) : Prop := g.data.toList.any badB = false ∧ p.data.toList.any badB = false ∧ (∀ (i : Nat) (L : List ByteArray), ls[i]? = some L → ∀ j (h : j < L.length), okW1 L[j]) ∧ (∀ (i : Nat) (L : List ByteArray), ls[i]? = some L → ∀ j (h : j < L.length), L[j].size ≤ 40) ∧
  (∀ (i : Nat) (L : List ByteArray), ls[i]? = some L → ∀ j (h : j < L.length), ∀ k (h2 : k < L.length), j ≠ k → preB L[k] L[j] = false)
/-- A list's strings in all later worlds. -/
def LsAt (W1 : World) (blk i : Nat) (L : List ByteArray) : Prop := ∃ ao c, (∀ w', Below W1.heap.size W1 w' → w'.cell? ⟨blk, i, none⟩ = some (.slice ao L.length c)) ∧ L.length ≤ maxLen ∧
  ∀ k (hk : k < L.length), ∃ b off, ao = some ⟨b, off, none⟩ ∧ (∀ w', Below W1.heap.size W1 w' → w'.cell? ⟨b, off + k, none⟩ = some (.string L[k])) ∧ L[k].size ≤ maxLen
theorem LsAt.mk' {W1 w : World} {blk i : Nat} {L : List ByteArray} {v : Value} (h : Ss w v L) (hb : Below w.heap.size w W1) (hc : W1.cell? ⟨blk, i, none⟩ = some v) : LsAt W1 blk i L := by
  obtain ⟨_, _, _, hlen, _⟩ := Sl.shp h.1
  obtain ⟨ao, c, rfl, hk⟩ := h.key
  refine ⟨ao, c, fun w' h' => (h'.cell (World.block_lt_of_cell? W1 _ hc)).trans hc, hlen, fun k hkl => ?_⟩
  obtain ⟨b, off, rfl, hlt, hc', hs⟩ := hk k hkl
  exact ⟨b, off, rfl, fun w' h' => (h'.cell (p := ⟨b, off + k, none⟩) (Nat.lt_of_lt_of_le hlt hb.size)).trans ((hb.cell (p := ⟨b, off + k, none⟩) hlt).trans hc'), hs⟩
end Mh
namespace Go.Proofs.YtdolpehcfifecaaGreatDoor
open Go.RowKit Mh
set_option linter.unusedVariables false
set_option maxRecDepth 100000 in
set_option maxHeartbeats 8000000 in
theorem gnamesFault_any (x0 x1 x2 x7 x8 mv dv : Value) (gs ps : ByteArray) (ms ds : List ByteArray) (w : World) (hgs : gs.size ≤ maxLen) (hps : ps.size ≤ maxLen) (hm : Ss w mv ms) (hd : Ss w dv ds) (hone : ∀ v ∈ [x0, x1, x2, x7, x8], v.oneCell' = true) :
    Calls Tryz.prog 18 #[.agg #[x0, x1, x2, .string gs, .string ps, mv, dv, x7, x8]] w (NF (okNm gs ps [ms, ds]) w) := by
  obtain ⟨W0, hW0⟩ : ∃ W0, W0 = w.alloc (.cells #[x0, x1, x2, .string gs, .string ps, mv, dv, x7, x8] 28) := ⟨_, rfl⟩
  have HW0 : Hid (W0.heap[w.heap.size]? = some (.cells #[x0, x1, x2, .string gs, .string ps, mv, dv, x7, x8] 28 (0, 0))) := by rw [hW0]; exact heap_alloc_new _ _
  have HB0 : Hid (Below w.heap.size w W0) := by rw [hW0]; exact below_alloc' _ _
  have hz0 : W0.heap.size = w.heap.size + 1 := by rw [hW0]; simp
  obtain ⟨W1, hW1⟩ : ∃ W1, W1 = W0.alloc (.cells #[mv, dv] 25) := ⟨_, rfl⟩
  have HB1 : Hid (Below w.heap.size w W1) := by rw [hW1]; exact HB0.out.alloc HB0.out.size _
  have HW1 : W1.heap[W0.heap.size]? = some (.cells #[mv, dv] 25 (0, 0)) := by rw [hW1]; exact heap_alloc_new _ _
  have HL : Hid (∀ i, i < 2 → ∃ L, [ms, ds][i]? = some L ∧ LsAt W1 W0.heap.size i L) := by
    intro i hi
    rcases (show i = 0 ∨ i = 1 by omega) with rfl | rfl
    · exact ⟨ms, rfl, LsAt.mk' hm HB1.out (cellT HW1 rfl)⟩
    · exact ⟨ds, rfl, LsAt.mk' hd HB1.out (cellT HW1 rfl)⟩
  have HBD := Lib.hid (fun (s : ByteArray) (hs : s.size ≤ maxLen) w' => gbadByte_any s w' hs)
  have HDG := Lib.hid (fun (s : ByteArray) (hs : s.size ≤ maxLen) w' => ghasDigit_any s hs w')
  have HPX := Lib.hid (fun u p w' => Tryz.strings_HasPrefix u p w')
  obtain ⟨LS, hLS⟩ : ∃ LS, LS = [ms, ds] := ⟨_, rfl⟩
  have HL2 : Hid (∀ i, 2 ≤ i → LS[i]? = none) := by
    intro i hi
    rw [hLS]
    obtain ⟨j, rfl⟩ : ∃ j, i = j + 2 := ⟨i - 2, by omega⟩
    rfl
  rw [← hLS] at HL ⊢
  rw [hz0] at HL
  obtain ⟨ao, c, hmv, _⟩ := hm.key
  obtain ⟨ao2, c2, hdv, _⟩ := hd.key
  subst hmv
  subst hdv
  have HNG : Hid (okNm gs ps LS → gs.data.toList.any badB = false ∧ ps.data.toList.any badB = false) := fun h => ⟨h.1, h.2.1⟩
  have HOK : Hid (gs.data.toList.any badB = false → ps.data.toList.any badB = false → (∀ (i : Nat) (L : List ByteArray), LS[i]? = some L → ∀ j (h : j < L.length), okW1 L[j]) → (∀ (i : Nat) (L : List ByteArray), LS[i]? = some L → ∀ j (h : j < L.length), L[j].size ≤ 40) →
    (∀ (i : Nat) (L : List ByteArray), LS[i]? = some L → ∀ j (h : j < L.length), ∀ k (h2 : k < L.length), j ≠ k → preB L[k] L[j] = false) → okNm gs ps LS) := fun a b c d e => ⟨a, b, c, d, e⟩
  have HNO : Hid ((∀ (i : Nat) (L : List ByteArray), okNm gs ps LS → LS[i]? = some L → ∀ j (h : j < L.length), okW1 L[j] ∧ L[j].size ≤ 40 ∧ ∀ k (h2 : k < L.length), j ≠ k → preB L[k] L[j] = false)) := fun i L h h2 j hj => ⟨h.2.2.1 i L h2 j hj, h.2.2.2.1 i L h2 j hj, h.2.2.2.2 i L h2 j hj⟩
  obtain ⟨G, hG⟩ : ∃ G : Prop, G = okNm gs ps LS := ⟨_, rfl⟩
  rw [← hG] at HNG HOK HNO ⊢
  clear hm hd hG hLS HW1 hone
  obtain ⟨F, hF⟩ : ∃ F : ByteArray → Bool, F = fun s => s.data.toList.any badB := ⟨_, rfl⟩
  have HF : Hid (∀ s : ByteArray, s.data.toList.any badB = F s) := fun s => by rw [hF]
  have HBD := Lib.hid (fun (s : ByteArray) (hs : s.size ≤ maxLen) w' => HF.out s ▸ HBD.out s hs w')
  rw [HF.out gs, HF.out ps] at HNG HOK
  clear hF
  go_enter Tryz.func18, Tryz.ntmps18
  have HB0' := HB0.out
  rw [hW0] at HB0'
  have HBX := Lib.hid HB0'
  clear HB0'
  cases hbg : F gs with
  | true =>
    have HN : Hid (¬ G) := fun h => by have := (HNG.out h).1; rw [hbg] at this; cases this
    go_wp2_with (go_at_call 39; refine (HBD.out _ (by assumption) _).mono ?_; rintro e w' ⟨rfl, rfl⟩)
    go_ret
    exact NF.no (by decide) HN.out HBX.out
  | false =>
  cases hbp : F ps with
  | true =>
    have HN : Hid (¬ G) := fun h => by have := (HNG.out h).2; rw [hbp] at this; cases this
    go_wp2_with (go_at_call 39; refine (HBD.out _ (by assumption) _).mono ?_; rintro e w' ⟨rfl, rfl⟩)
    go_ret
    exact NF.no (by decide) HN.out HBX.out
  | false =>
  have HGP := Lib.hid (HOK.out hbg hbp)
  go_wp2_with (go_at_call 39; refine (HBD.out _ (by assumption) _).mono ?_; rintro e w' ⟨rfl, rfl⟩)
  clear HNG HBX HOK hbg hbp
  have HB1X : Hid (∀ w', Below W1.heap.size W1 w' → Below w.heap.size w w') := fun w' h => HB1.out.trans (h.mono HB1.out.size)
  go_loopw [33] (fun i wr => ∃ k : Nat, k ≤ 2 ∧ i = .int .i64 k ∧ Hid (∀ (i : Nat) (L : List ByteArray), i < k → LS[i]? = some L → ∀ j (h : j < L.length), okW1 L[j]) ∧ Hid (Below W1.heap.size W1 wr)) (fun i wr => 2 - (intOf i).toNat)
  case atStart => exact ⟨0, Nat.zero_le _, rfl, fun i L h => by omega, by rw [hW1, hW0]; exact Below.refl _ _⟩
  case round =>
    obtain ⟨i, hi2, rfl, HI, HB⟩ := hrel
    by_cases hi : i < 2
    · have qi : decide ((i : Int) < 2) = true := decide_eq_true (by omega)
      obtain ⟨L, hLi, ao3, c3, hcell, hLl, hLk⟩ := HL.out i hi
      have r0 := hcell wr HB.out
      have HLK := Lib.hid hLk
      have HLI := Lib.hid hLi
      unfold maxLen at hLl
      clear hcell hLk hLi
      go_wp2_with fail
      go_loopw [39] (fun v wx => ∃ k : Nat, k ≤ L.length ∧ v = .int .i64 k ∧ Hid (∀ j (h : j < L.length), j < k → okW1 L[j]) ∧ Hid (Below W1.heap.size W1 wx)) (fun v wx => L.length - (intOf v).toNat)
      case atStart => exact ⟨0, Nat.zero_le _, rfl, fun j h h2 => by omega, HB⟩
      case round =>
        clear HB r0
        obtain ⟨k, hk, rfl, HJ, HB⟩ := hrel
        by_cases hkl : k < L.length
        · obtain ⟨b, off, rfl, hcell, hsz⟩ := HLK.out k hkl
          have d0 := hcell wr HB.out
          have HNX : Hid (okW1 L[k] → ∀ j (h : j < L.length), j < k + 1 → okW1 L[j]) := by
            intro h j hj h3
            by_cases e : j = k
            · subst e; exact h
            · exact HJ.out j hj (by omega)
          have HBAD : Hid (G → okW1 L[k]) := fun h => (HNO.out i L h HLI.out k hkl).1
          have HOW : Hid (okW1 L[k] ↔ L[k].size ≠ 0 ∧ F L[k] = false ∧ L[k].data.toList.any digB = false) := by
            show _ ↔ _
            unfold okW1
            rw [HF.out]
          have HDG2 := Lib.hid (fun w' => HDG.out L[k] hsz w')
          clear hcell HJ
          generalize L[k] = t at d0 HNX HBAD HOW HDG2 hsz
          by_cases h0 : t.size = 0
          · have HN : Hid (¬ G) := fun h => (HOW.out.1 (HBAD.out h)).1 h0
            obtain rfl := empty_of_size h0
            go_wp2_with fail
            go_ret
            exact NF.no (by decide) HN.out (HB1X.out _ HB.out)
          have q3 := mempty_ne h0
          cases hbt : F t with
          | true =>
            have HN : Hid (¬ G) := fun h => by have := (HOW.out.1 (HBAD.out h)).2.1; rw [hbt] at this; cases this
            go_wp2_with (go_at_call 39; refine (HBD.out _ (by assumption) _).mono ?_; rintro e w' ⟨rfl, rfl⟩)
            go_ret
            exact NF.no (by decide) HN.out (HB1X.out _ HB.out)
          | false =>
            have HOW2 : Hid (okW1 t ↔ t.data.toList.any digB = false) := by show _ ↔ _; rw [HOW.out]; exact ⟨fun h => h.2.2, fun h => ⟨h0, hbt, h⟩⟩
            clear HOW
            generalize t.data.toList.any digB = dg at HOW2 HDG2
            go_upto_region 10 with fail
            go_cut [39, 52] from 39 to 53 (fun s2 s3 wx => s2 = .int .i64 k ∧ s3 = .bool dg ∧ Hid (Below W1.heap.size W1 wx))
            case first =>
              go_wp2_with (first
                | (go_at_call 39; refine (HBD.out _ (by assumption) _).mono ?_; rintro e w' ⟨rfl, rfl⟩)
                | (go_at_call 40; refine (HDG2.out _).mono ?_; rintro e w2 ⟨rfl, hb2⟩; have HB2 : Hid (Below W1.heap.size W1 w2) := HB.out.trans (hb2.mono HB.out.size); clear hb2))
              go_meet
              exact ⟨rfl, rfl, HB2⟩
            case rest =>
              clear HB d0 HDG2 hbt
              obtain ⟨rfl, rfl, HB⟩ := hcut
              cases dg with
              | true =>
                have HN : Hid (¬ G) := fun h => by have := HOW2.out.1 (HBAD.out h); cases this
                go_wp2_with fail
                go_ret
                exact NF.no (by decide) HN.out (HB1X.out _ HB.out)
              | false =>
                have HN := Lib.hid (HNX.out (HOW2.out.2 rfl))
                go_wp2_with fail
                go_roundw
                case rel => exact ⟨k + 1, by omega, by go_num, HN, HB⟩
                case measure => simp [intOf]; omega
        · have HIN : Hid (∀ (i' : Nat) (L' : List ByteArray), i' < i + 1 → LS[i']? = some L' → ∀ j (h : j < L'.length), okW1 L'[j]) := by
            intro i' L' h1 h2 j hj
            by_cases e : i' = i
            · subst e
              rw [HLI.out] at h2
              cases h2
              exact HJ.out j hj (by omega)
            · exact HI.out i' L' (by omega) h2 j hj
          go_wp2_with fail
          go_roundw
          case rel => exact ⟨i + 1, by omega, by go_num, HIN, HB⟩
          case measure => simp [intOf]; omega
    · have H1 : Hid (∀ (i : Nat) (L : List ByteArray), LS[i]? = some L → ∀ j (h : j < L.length), okW1 L[j]) := fun i' L' h j hj => by
        by_cases e : 2 ≤ i'
        · rw [HL2.out i' e] at h; cases h
        · exact HI.out i' L' (by omega) h j hj
      have HG1 := Lib.hid (HGP.out H1.out)
      have qi : decide ((i : Int) < 2) = false := decide_eq_false (by omega)
      clear HI H1 HGP
      obtain ⟨wy, rfl⟩ : ∃ x : World, x = wr := ⟨_, rfl⟩
      go_wp2_with fail
      go_loopw [57] (fun i wr => ∃ k : Nat, k ≤ 2 ∧ i = .int .i64 k ∧ Hid (∀ (i : Nat) (L : List ByteArray), i < k → LS[i]? = some L → ∀ j (h : j < L.length), L[j].size ≤ 40) ∧ Hid (Below W1.heap.size W1 wr)) (fun i wr => 2 - (intOf i).toNat)
      case atStart => exact ⟨0, Nat.zero_le _, rfl, fun i L h => by omega, HB⟩
      case round =>
        clear HB
        obtain ⟨i, hi2, rfl, HI, HB⟩ := hrel
        by_cases hi : i < 2
        · have qi : decide ((i : Int) < 2) = true := decide_eq_true (by omega)
          obtain ⟨L, hLi, ao3, c3, hcell, hLl, hLk⟩ := HL.out i hi
          have r0 := hcell wr HB.out
          have HLK := Lib.hid hLk
          have HLI := Lib.hid hLi
          unfold maxLen at hLl
          clear hcell hLk hLi
          go_wp2_with fail
          go_loopw [63] (fun v wx => ∃ k : Nat, k ≤ L.length ∧ v = .int .i64 k ∧ Hid (∀ j (h : j < L.length), j < k → L[j].size ≤ 40) ∧ Hid (Below W1.heap.size W1 wx)) (fun v wx => L.length - (intOf v).toNat)
          case atStart => exact ⟨0, Nat.zero_le _, rfl, fun j h h2 => by omega, HB⟩
          case round =>
            clear HB r0
            obtain ⟨k, hk, rfl, HJ, HB⟩ := hrel
            by_cases hkl : k < L.length
            · obtain ⟨b, off, rfl, hcell, hsz⟩ := HLK.out k hkl
              have d0 := hcell wr HB.out
              have HNX : Hid (L[k].size ≤ 40 → ∀ j (h : j < L.length), j < k + 1 → L[j].size ≤ 40) := by
                intro h j hj h3
                by_cases e : j = k
                · subst e; exact h
                · exact HJ.out j hj (by omega)
              have HBAD : Hid (G → L[k].size ≤ 40) := fun h => (HNO.out i L h HLI.out k hkl).2.1
              clear hcell HJ
              unfold maxLen at hsz
              generalize L[k] = t at d0 HNX HBAD hsz
              by_cases h0 : 40 < t.size
              · have HN : Hid (¬ G) := fun h => by have := HBAD.out h; omega
                have q1 : decide (40 < t.size) = true := decide_eq_true h0
                have q2 : decide ((40 : Int) < (t.size : Int)) = true := decide_eq_true (by omega)
                go_wp2_with fail
                go_ret
                exact NF.no (by decide) HN.out (HB1X.out _ HB.out)
              · have HN := Lib.hid (HNX.out (by omega))
                have q1 : decide (40 < t.size) = false := decide_eq_false h0
                have q2 : decide ((40 : Int) < (t.size : Int)) = false := decide_eq_false (by omega)
                go_wp2_with fail
                go_roundw
                case rel => exact ⟨k + 1, by omega, by go_num, HN, HB⟩
                case measure => simp [intOf]; omega
            · have HIN : Hid (∀ (i' : Nat) (L' : List ByteArray), i' < i + 1 → LS[i']? = some L' → ∀ j (h : j < L'.length), L'[j].size ≤ 40) := by
                intro i' L' h1 h2 j hj
                by_cases e : i' = i
                · subst e
                  rw [HLI.out] at h2
                  cases h2
                  exact HJ.out j hj (by omega)
                · exact HI.out i' L' (by omega) h2 j hj
              go_wp2_with fail
              go_roundw
              case rel => exact ⟨i + 1, by omega, by go_num, HIN, HB⟩
              case measure => simp [intOf]; omega
        · have H1 : Hid (∀ (i : Nat) (L : List ByteArray), LS[i]? = some L → ∀ j (h : j < L.length), L[j].size ≤ 40) := fun i' L' h j hj => by
            by_cases e : 2 ≤ i'
            · rw [HL2.out i' e] at h; cases h
            · exact HI.out i' L' (by omega) h j hj
          have HG2 := Lib.hid (HG1.out H1.out)
          have qi : decide ((i : Int) < 2) = false := decide_eq_false (by omega)
          clear HI H1 HG1
          obtain ⟨wz, rfl⟩ : ∃ x : World, x = wr := ⟨_, rfl⟩
          go_wp2_with fail
          go_loopw [74] (fun i wr => ∃ k : Nat, k ≤ 2 ∧ i = .int .i64 k ∧ Hid (∀ (i : Nat) (L : List ByteArray), i < k → LS[i]? = some L → ∀ j (h : j < L.length), ∀ q (h2 : q < L.length), j ≠ q → preB L[q] L[j] = false) ∧ Hid (Below W1.heap.size W1 wr)) (fun i wr => 2 - (intOf i).toNat)
          case atStart => exact ⟨0, Nat.zero_le _, rfl, fun i L h => by omega, HB⟩
          case round =>
            clear HB
            obtain ⟨i, hi2, rfl, HI, HB⟩ := hrel
            by_cases hi : i < 2
            · have qi : decide ((i : Int) < 2) = true := decide_eq_true (by omega)
              obtain ⟨L, hLi, ao3, c3, hcell, hLl, hLk⟩ := HL.out i hi
              have r0 := hcell wr HB.out
              have HLK := Lib.hid hLk
              have HLI := Lib.hid hLi
              unfold maxLen at hLl
              clear hcell hLk hLi
              go_wp2_with fail
              go_loopw [80] (fun v wx => ∃ k : Nat, k ≤ L.length ∧ v = .int .i64 k ∧ Hid (∀ j (h : j < L.length), j < k → ∀ q (h2 : q < L.length), j ≠ q → preB L[q] L[j] = false) ∧ Hid (Below W1.heap.size W1 wx)) (fun v wx => L.length - (intOf v).toNat)
              case atStart => exact ⟨0, Nat.zero_le _, rfl, fun j h h2 => by omega, HB⟩
              case round =>
                clear HB r0
                obtain ⟨k, hk, rfl, HJ, HB⟩ := hrel
                by_cases hkl : k < L.length
                · obtain ⟨b, off, rfl, hcell, hsz⟩ := HLK.out k hkl
                  have d0 := hcell wr HB.out
                  clear hcell
                  go_wp2_with fail
                  go_loopw [87] (fun v wx => ∃ q : Nat, q ≤ L.length ∧ v = .int .i64 q ∧ Hid (∀ q' (h2 : q' < L.length), q' < q → k ≠ q' → preB L[q'] L[k] = false) ∧ Hid (Below W1.heap.size W1 wx)) (fun v wx => L.length - (intOf v).toNat)
                  case atStart => exact ⟨0, Nat.zero_le _, rfl, fun j h h2 => by omega, HB⟩
                  case round =>
                    clear HB d0
                    obtain ⟨q, hq, rfl, HQ, HB⟩ := hrel
                    by_cases hql : q < L.length
                    · obtain ⟨b', off', hbo, hcell', _⟩ := HLK.out q hql
                      simp only [Option.some.injEq, Addr.mk.injEq, and_true] at hbo
                      obtain ⟨rfl, rfl⟩ := hbo
                      have d1 := hcell' wr HB.out
                      clear hcell'
                      by_cases hkq : k = q
                      · have HN : Hid (∀ q' (h2 : q' < L.length), q' < q + 1 → k ≠ q' → preB L[q'] L[k] = false) := by
                          intro q' h2 h3 h4
                          exact HQ.out q' h2 (by omega) h4
                        have q1 : ((k : Int) != (q : Int)) = false := by rw [bne_eq_false_iff_eq]; omega
                        have q2 : (k != q) = false := by rw [bne_eq_false_iff_eq]; omega
                        have HQ9 := Lib.hid hkq
                        clear hkq
                        go_wp2_with fail
                        go_roundw
                        case rel => exact ⟨q + 1, by omega, by go_num, HN, HB⟩
                        case measure => simp [intOf]; omega
                      · have q1 : ((k : Int) != (q : Int)) = true := by rw [bne_iff_ne]; omega
                        have q2 : (k != q) = true := by rw [bne_iff_ne]; omega
                        have HPC := Lib.hid (fun w' => HPX.out L[k] L[q] w')
                        have HPB : Hid (Lib.hasPrefix L[k].data.toList L[q].data.toList = preB L[q] L[k]) := rfl
                        rw [HPB.out] at HPC
                        have HBAD : Hid (G → preB L[q] L[k] = false) := fun h => (HNO.out i L h HLI.out k hkl).2.2 q hql hkq
                        have HNX : Hid (preB L[q] L[k] = false → ∀ q' (h2 : q' < L.length), q' < q + 1 → k ≠ q' → preB L[q'] L[k] = false) := by
                          intro h q' h2 h3 h4
                          by_cases e : q' = q
                          · subst e; exact h
                          · exact HQ.out q' h2 (by omega) h4
                        clear HPB HQ hkq
                        generalize preB L[q] L[k] = pb at HPC HBAD HNX
                        obtain ⟨wo, rfl⟩ : ∃ wo : World, wo = wr := ⟨_, rfl⟩
                        cases pb with
                        | true =>
                          have HN : Hid (¬ G) := fun h => by have := HBAD.out h; cases this
                          go_wp2_with (go_at_call 24; refine (HPC.out _).mono ?_; rintro e w' ⟨rfl, hw⟩; obtain rfl : wo = w' := hw.symm)
                          go_ret
                          exact NF.no (by decide) HN.out (HB1X.out _ HB.out)
                        | false =>
                          have HN := Lib.hid (HNX.out rfl)
                          go_wp2_with (go_at_call 24; refine (HPC.out _).mono ?_; rintro e w' ⟨rfl, hw⟩; obtain rfl : wo = w' := hw.symm)
                          go_roundw
                          case rel => exact ⟨q + 1, by omega, by go_num, HN, HB⟩
                          case measure => simp [intOf]; omega
                    · have HIN : Hid (∀ j (h : j < L.length), j < k + 1 → ∀ q (h2 : q < L.length), j ≠ q → preB L[q] L[j] = false) := by
                        intro j hj h3 q' hq' hne
                        by_cases e : j = k
                        · subst e; exact HQ.out q' hq' (by omega) hne
                        · exact HJ.out j hj (by omega) q' hq' hne
                      go_wp2_with fail
                      go_roundw
                      case rel => exact ⟨k + 1, by omega, by go_num, HIN, HB⟩
                      case measure => simp [intOf]; omega
                · have HIN : Hid (∀ (i' : Nat) (L' : List ByteArray), i' < i + 1 → LS[i']? = some L' → ∀ j (h : j < L'.length), ∀ q (h2 : q < L'.length), j ≠ q → preB L'[q] L'[j] = false) := by
                    intro i' L' h1 h2 j hj q hq hne
                    by_cases e : i' = i
                    · subst e
                      rw [HLI.out] at h2
                      cases h2
                      exact HJ.out j hj (by omega) q hq hne
                    · exact HI.out i' L' (by omega) h2 j hj q hq hne
                  go_wp2_with fail
                  go_roundw
                  case rel => exact ⟨i + 1, by omega, by go_num, HIN, HB⟩
                  case measure => simp [intOf]; omega
            · have H1 : Hid (∀ (i : Nat) (L : List ByteArray), LS[i]? = some L → ∀ j (h : j < L.length), ∀ q (h2 : q < L.length), j ≠ q → preB L[q] L[j] = false) := fun i' L' h j hj q hq hne => by
                by_cases e : 2 ≤ i'
                · rw [HL2.out i' e] at h; cases h
                · exact HI.out i' L' (by omega) h j hj q hq hne
              have HG3 := Lib.hid (HG2.out H1.out)
              go_wp2_with fail
              go_ret
              exact NF.yes HG3.out (HB1X.out _ HB.out)
end Go.Proofs.YtdolpehcfifecaaGreatDoor
