/- lang.readable: where it says true. Conditions: at most forty fields. -/
import Derived.Test.YtdolpehcfifecaaGreatDoorMeb
namespace Mh
open Go Go.RowKit
set_option linter.unusedVariables false
def cntP (p : Df → Bool) (fs : List Df) (k : Nat) : Nat := (fs.take k).countP p
theorem cntP_step (p : Df → Bool) (fs : List Df) (k : Nat) (hk : k < fs.length) : cntP p fs (k + 1) = cntP p fs k + (if p fs[k] = true then 1 else 0) := by
  unfold cntP
  rw [List.take_succ_eq_append_getElem hk, List.countP_append, List.countP_cons]
  simp
theorem cntP_le (p : Df → Bool) (fs : List Df) (k : Nat) : cntP p fs k ≤ k := by
  unfold cntP
  have h1 := List.countP_le_length (p := p) (l := fs.take k)
  rw [List.length_take] at h1
  omega
theorem cntP_ex {p : Df → Bool} {fs : List Df} (h : cntP p fs fs.length = 1) : ∃ f ∈ fs, p f = true := by
  unfold cntP at h
  rw [List.take_length] at h
  have h2 : 0 < fs.countP p := by omega
  obtain ⟨f, h3, h4⟩ := List.countP_pos_iff.1 h2
  exact ⟨f, h3, h4⟩
theorem readB_mk {fs : List Df} (hy : cntP isYear fs fs.length = 1) (hm : cntP isMon fs fs.length = 1) (hd : cntP isDay fs fs.length = 1)
    (hn : ∀ j (h : j + 1 < fs.length), (fs[j].w = wM1 ∨ fs[j].w = wD1) → digF fs[j + 1] = false) : readB fs := by
  refine ⟨cntP_ex hy, cntP_ex hm, cntP_ex hd, ?_⟩
  intro a b f g e hf
  have hl : a.length + 1 < fs.length := by rw [e]; simp
  have h := hn a.length hl
  have e1 : fs[a.length] = f := by subst e; simp
  have e2 : fs[a.length + 1] = g := by subst e; simp
  rw [e1, e2] at h
  exact h hf
end Mh
namespace Go.Proofs.YtdolpehcfifecaaGreatDoor
open Go.RowKit Mh
set_option linter.unusedVariables false
/-- What readable returns. -/
def RdP (P : Prop) (w : World) (e : Ending) (w' : World) : Prop := ∃ b : Bool, e = .returned (.bool b) ∧ (b = true → P) ∧ Below w.heap.size w w'
theorem RdP.no {P : Prop} {w w' : World} (hb : Below w.heap.size w w') : RdP P w (.returned (.bool false)) w' := ⟨false, rfl, fun h => (by cases h), hb⟩
theorem RdP.yes {P : Prop} {w w' : World} (hp : P) (hb : Below w.heap.size w w') : RdP P w (.returned (.bool true)) w' := ⟨true, rfl, fun _ => hp, hb⟩
set_option maxRecDepth 100000 in
set_option maxHeartbeats 8000000 in
theorem greadable_any (fs : List Df) (v : Value) (w : World) (h : FdAt w v fs) (h40 : fs.length ≤ 40) (hw7 : ∀ f ∈ fs, f.w = ⟨#[]⟩ ∨ f.w ∈ words7) :
    Calls Tryz.prog 11 #[v] w (RdP (readB fs) w) := by
  obtain ⟨ao, c, rfl, hlm, hget⟩ := h.open
  have HGET := Lib.hid hget
  have HFW := Lib.hid hw7
  have HMK := Lib.hid (readB_mk (fs := fs))
  have HSY := Lib.hid (cntP_step isYear fs)
  have HSM := Lib.hid (cntP_step isMon fs)
  have HSD := Lib.hid (cntP_step isDay fs)
  have HLY := Lib.hid (cntP_le isYear fs)
  have HLM := Lib.hid (cntP_le isMon fs)
  have HLD := Lib.hid (cntP_le isDay fs)
  have HZY : Hid (cntP isYear fs 0 = 0) := rfl
  have HZM : Hid (cntP isMon fs 0 = 0) := rfl
  have HZD : Hid (cntP isDay fs 0 = 0) := rfl
  generalize cntP isYear fs = CY at *
  generalize cntP isMon fs = CM at *
  generalize cntP isDay fs = CD at *
  generalize readB fs = RB at *
  clear h hget hw7
  go_enter Tryz.func11, Tryz.ntmps11
  go_wp2_with fail
  go_loopw [3, 4, 5, 11] (fun v3 v4 v5 v11 wx => ∃ k : Nat, k ≤ fs.length ∧ v3 = .int .i64 (CY k : Int) ∧ v4 = .int .i64 (CM k : Int) ∧ v5 = .int .i64 (CD k : Int) ∧ v11 = .int .i64 (k : Int) ∧ Hid (∀ j (h : j + 1 < fs.length), j < k → (fs[j].w = wM1 ∨ fs[j].w = wD1) → digF fs[j + 1] = false) ∧ Hid (Below w.heap.size w wx)) (fun _ _ _ v _ => fs.length - dstr v)
  case atStart => exact ⟨0, Nat.zero_le _, by rw [HZY.out]; rfl, by rw [HZM.out]; rfl, by rw [HZD.out]; rfl, rfl, fun j _ h => by omega, Below.refl _ _⟩
  case round =>
    obtain ⟨k, hk, rfl, rfl, rfl, rfl, HO, HB⟩ := hrel
    have hcy := HLY.out k
    have hcm := HLM.out k
    have hcd := HLD.out k
    by_cases hkl : k < fs.length
    · have q3 : decide ((k : Int) < (fs.length : Int)) = true := decide_eq_true (by omega)
      have q3N : decide (k < fs.length) = true := decide_eq_true hkl
      obtain ⟨ww, rfl⟩ : ∃ ww : World, ww = wr := ⟨_, rfl⟩
      have hgk := HGET.out k hkl
      obtain ⟨b, off, rfl, hsc1, hsc2, hblt, hc⟩ := hgk
      obtain ⟨d0, d1⟩ := dtwo_later HB.out hblt hc
      have HSY := Lib.hid (HSY.out k hkl)
      have HSM := Lib.hid (HSM.out k hkl)
      have HSD := Lib.hid (HSD.out k hkl)
      have HCS := Lib.hid (df_cases (HFW.out _ (List.getElem_mem hkl)))
      have HNX : Hid ((∀ h : k + 1 < fs.length, (fs[k].w = wM1 ∨ fs[k].w = wD1) → digF fs[k + 1] = false) → ∀ j (h : j + 1 < fs.length), j < k + 1 → (fs[j].w = wM1 ∨ fs[j].w = wD1) → digF fs[j + 1] = false) := fun hh j h hjk => by
        by_cases e : j = k
        · subst e; exact hh h
        · exact HO.out j h (by omega)
      generalize fs[k] = f at d0 d1 HSY HSM HSD HCS HNX
      clear hc
      have HBW : Hid (Below w.heap.size w (ww.alloc (.cells #[.string f.w, .int .u8 (f.c.toNat : Int)] 47))) := HB.out.trans ((below_alloc' _ _).mono HB.out.size)
      have HX1 : Hid ((ww.alloc (.cells #[.string f.w, .int .u8 (f.c.toNat : Int)] 47)).heap[ww.heap.size]? = some (.cells #[.string f.w, .int .u8 (f.c.toNat : Int)] 47 (0, 0))) := heap_alloc_new _ _
      obtain ⟨e0, e1⟩ := dpair_of_block HX1.out
      have hsz1 : (ww.alloc (.cells #[.string f.w, .int .u8 (f.c.toNat : Int)] 47)).heap.size = ww.heap.size + 1 := by simp
      rcases HCS.out with hx | hx | hx | hx | hx | hx | hx | hx
      · have t0 : (f.w.toList == [121, 121, 121, 121]) = false := dw_not (t := wY) rfl (by rw [hx]; decide)
        have t1 : (f.w.toList == [109, 109]) = false := dw_not (t := wM2) rfl (by rw [hx]; decide)
        have t2 : (f.w.toList == [109]) = false := dw_not (t := wM1) rfl (by rw [hx]; decide)
        have t3 : (f.w.toList == [100, 100]) = false := dw_not (t := wD2) rfl (by rw [hx]; decide)
        have t4 : (f.w.toList == [100]) = false := dw_not (t := wD1) rfl (by rw [hx]; decide)
        have t5 : (f.w.toList == [77, 77, 77, 77]) = false := dw_not (t := wMN) rfl (by rw [hx]; decide)
        have t6 : (f.w.toList == [87, 87, 87, 87]) = false := dw_not (t := wWN) rfl (by rw [hx]; decide)
        have te : f.w.toList.isEmpty = true := dempty_at (by rw [hx]; rfl)
        have HY2 : Hid (CY (k + 1) = CY k) := by show _ = _; rw [HSY.out, if_neg (by unfold isYear; rw [hx]; decide)]; rfl
        have HM2 : Hid (CM (k + 1) = CM k) := by show _ = _; rw [HSM.out, if_neg (by unfold isMon; rw [hx]; decide)]; rfl
        have HD2 : Hid (CD (k + 1) = CD k) := by show _ = _; rw [HSD.out, if_neg (by unfold isDay; rw [hx]; decide)]; rfl
        have HN := Lib.hid (HNX.out fun _ h => by rcases h with h | h <;> rw [hx] at h <;> exact absurd h (by decide))
        clear hx HSY HSM HSD HCS HNX HX1 HO
        go_wp2_with fail
        go_roundw
        case rel => exact ⟨k + 1, by omega, by rw [HY2.out]; first | done | rfl, by rw [HM2.out]; first | done | rfl, by rw [HD2.out]; first | done | rfl, by go_num, HN, HBW⟩
        case measure => simp [dstr]; omega
      · have t0 : (f.w.toList == [121, 121, 121, 121]) = true := dw_is (t := wY) rfl hx
        have t1 : (f.w.toList == [109, 109]) = false := dw_not (t := wM2) rfl (by rw [hx]; decide)
        have t2 : (f.w.toList == [109]) = false := dw_not (t := wM1) rfl (by rw [hx]; decide)
        have t3 : (f.w.toList == [100, 100]) = false := dw_not (t := wD2) rfl (by rw [hx]; decide)
        have t4 : (f.w.toList == [100]) = false := dw_not (t := wD1) rfl (by rw [hx]; decide)
        have t5 : (f.w.toList == [77, 77, 77, 77]) = false := dw_not (t := wMN) rfl (by rw [hx]; decide)
        have t6 : (f.w.toList == [87, 87, 87, 87]) = false := dw_not (t := wWN) rfl (by rw [hx]; decide)
        have HY2 : Hid (CY (k + 1) = CY k + 1) := by show _ = _; rw [HSY.out, if_pos (by unfold isYear; rw [hx]; decide)]
        have HM2 : Hid (CM (k + 1) = CM k) := by show _ = _; rw [HSM.out, if_neg (by unfold isMon; rw [hx]; decide)]; rfl
        have HD2 : Hid (CD (k + 1) = CD k) := by show _ = _; rw [HSD.out, if_neg (by unfold isDay; rw [hx]; decide)]; rfl
        have HN := Lib.hid (HNX.out fun _ h => by rcases h with h | h <;> rw [hx] at h <;> exact absurd h (by decide))
        clear hx HSY HSM HSD HCS HNX HX1 HO
        go_wp2_with fail
        go_roundw
        case rel => exact ⟨k + 1, by omega, by rw [HY2.out]; first | done | rfl, by rw [HM2.out]; first | done | rfl, by rw [HD2.out]; first | done | rfl, by go_num, HN, HBW⟩
        case measure => simp [dstr]; omega
      · have t0 : (f.w.toList == [121, 121, 121, 121]) = false := dw_not (t := wY) rfl (by rw [hx]; decide)
        have t1 : (f.w.toList == [109, 109]) = true := dw_is (t := wM2) rfl hx
        have t2 : (f.w.toList == [109]) = false := dw_not (t := wM1) rfl (by rw [hx]; decide)
        have t3 : (f.w.toList == [100, 100]) = false := dw_not (t := wD2) rfl (by rw [hx]; decide)
        have t4 : (f.w.toList == [100]) = false := dw_not (t := wD1) rfl (by rw [hx]; decide)
        have t5 : (f.w.toList == [77, 77, 77, 77]) = false := dw_not (t := wMN) rfl (by rw [hx]; decide)
        have t6 : (f.w.toList == [87, 87, 87, 87]) = false := dw_not (t := wWN) rfl (by rw [hx]; decide)
        have HY2 : Hid (CY (k + 1) = CY k) := by show _ = _; rw [HSY.out, if_neg (by unfold isYear; rw [hx]; decide)]; rfl
        have HM2 : Hid (CM (k + 1) = CM k + 1) := by show _ = _; rw [HSM.out, if_pos (by unfold isMon; rw [hx]; decide)]
        have HD2 : Hid (CD (k + 1) = CD k) := by show _ = _; rw [HSD.out, if_neg (by unfold isDay; rw [hx]; decide)]; rfl
        have HN := Lib.hid (HNX.out fun _ h => by rcases h with h | h <;> rw [hx] at h <;> exact absurd h (by decide))
        clear hx HSY HSM HSD HCS HNX HX1 HO
        go_wp2_with fail
        go_roundw
        case rel => exact ⟨k + 1, by omega, by rw [HY2.out]; first | done | rfl, by rw [HM2.out]; first | done | rfl, by rw [HD2.out]; first | done | rfl, by go_num, HN, HBW⟩
        case measure => simp [dstr]; omega
      · have t0 : (f.w.toList == [121, 121, 121, 121]) = false := dw_not (t := wY) rfl (by rw [hx]; decide)
        have t1 : (f.w.toList == [109, 109]) = false := dw_not (t := wM2) rfl (by rw [hx]; decide)
        have t2 : (f.w.toList == [109]) = true := dw_is (t := wM1) rfl hx
        have t3 : (f.w.toList == [100, 100]) = false := dw_not (t := wD2) rfl (by rw [hx]; decide)
        have t4 : (f.w.toList == [100]) = false := dw_not (t := wD1) rfl (by rw [hx]; decide)
        have t5 : (f.w.toList == [77, 77, 77, 77]) = false := dw_not (t := wMN) rfl (by rw [hx]; decide)
        have t6 : (f.w.toList == [87, 87, 87, 87]) = false := dw_not (t := wWN) rfl (by rw [hx]; decide)
        have HY2 : Hid (CY (k + 1) = CY k) := by show _ = _; rw [HSY.out, if_neg (by unfold isYear; rw [hx]; decide)]; rfl
        have HM2 : Hid (CM (k + 1) = CM k + 1) := by show _ = _; rw [HSM.out, if_pos (by unfold isMon; rw [hx]; decide)]
        have HD2 : Hid (CD (k + 1) = CD k) := by show _ = _; rw [HSD.out, if_neg (by unfold isDay; rw [hx]; decide)]; rfl
        by_cases hk1 : k + 1 < fs.length
        · have q5 : decide ((k : Int) + 1 < (fs.length : Int)) = true := decide_eq_true (by omega)
          have q5N : decide (k + 1 < fs.length) = true := decide_eq_true hk1
          have hk1I : (k : Int) + 1 < (fs.length : Int) := by omega
          obtain ⟨b2, off2, hbb, hsc3, hsc4, hblt2, hc2⟩ := HGET.out (k + 1) hk1
          simp only [Option.some.injEq, Addr.mk.injEq, and_true] at hbb
          obtain ⟨rfl, rfl⟩ := hbb
          obtain ⟨n0, n1⟩ := dtwo_later HBW.out hblt hc2
          have HCG := Lib.hid (df_cases (HFW.out _ (List.getElem_mem hk1)))
          have HNX := Lib.hid (fun (h : digF fs[k + 1] = false) => HNX.out fun _ _ => h)
          generalize fs[k + 1] = g at n0 n1 HCG HNX
          clear hc2
          have HBG : Hid (Below w.heap.size w ((ww.alloc (.cells #[.string f.w, .int .u8 (f.c.toNat : Int)] 47)).alloc (.cells #[.string g.w, .int .u8 (g.c.toNat : Int)] 47))) := HBW.out.trans ((below_alloc' _ _).mono HBW.out.size)
          have HXG : Hid (((ww.alloc (.cells #[.string f.w, .int .u8 (f.c.toNat : Int)] 47)).alloc (.cells #[.string g.w, .int .u8 (g.c.toNat : Int)] 47)).heap[ww.heap.size + 1]? = some (.cells #[.string g.w, .int .u8 (g.c.toNat : Int)] 47 (0, 0))) := by rw [← hsz1]; exact heap_alloc_new _ _
          obtain ⟨m0, m1⟩ := dpair_of_block HXG.out
          rcases HCG.out with hg | hg | hg | hg | hg | hg | hg | hg
          · have s0 : (g.w.toList == [121, 121, 121, 121]) = false := dw_not (t := wY) rfl (by rw [hg]; decide)
            have s1 : (g.w.toList == [109, 109]) = false := dw_not (t := wM2) rfl (by rw [hg]; decide)
            have s2 : (g.w.toList == [109]) = false := dw_not (t := wM1) rfl (by rw [hg]; decide)
            have s3 : (g.w.toList == [100, 100]) = false := dw_not (t := wD2) rfl (by rw [hg]; decide)
            have s4 : (g.w.toList == [100]) = false := dw_not (t := wD1) rfl (by rw [hg]; decide)
            have s5 : (g.w.toList == [77, 77, 77, 77]) = false := dw_not (t := wMN) rfl (by rw [hg]; decide)
            have s6 : (g.w.toList == [87, 87, 87, 87]) = false := dw_not (t := wWN) rfl (by rw [hg]; decide)
            have se : g.w.toList.isEmpty = true := dempty_at (by rw [hg]; rfl)
            have HDG := Lib.hid (fun w' => mdigit_any g.c w')
            cases hd : digB g.c with
            | true =>
              rw [hd] at HDG
              clear hg hd HXG HCG
              clear hx HSY HSM HSD HCS HNX HX1 HO
              go_wp2_with (go_at_call 26; refine (HDG.out _).mono ?_; rintro e w' ⟨rfl, rfl⟩)
              go_ret
              exact RdP.no HBG.out
            | false =>
              rw [hd] at HDG
              have HN := Lib.hid (HNX.out (by unfold digF isYear isDay; simp only [hg, hd]; decide))
              clear hg hd HXG HCG
              clear hx HSY HSM HSD HCS HNX HX1 HO
              go_wp2_with (go_at_call 26; refine (HDG.out _).mono ?_; rintro e w' ⟨rfl, rfl⟩)
              go_roundw
              case rel => exact ⟨k + 1, by omega, by rw [HY2.out]; first | done | rfl, by rw [HM2.out]; first | done | rfl, by rw [HD2.out]; first | done | rfl, by go_num, HN, HBG⟩
              case measure => simp [dstr]; omega
          · have s0 : (g.w.toList == [121, 121, 121, 121]) = true := dw_is (t := wY) rfl hg
            have s1 : (g.w.toList == [109, 109]) = false := dw_not (t := wM2) rfl (by rw [hg]; decide)
            have s2 : (g.w.toList == [109]) = false := dw_not (t := wM1) rfl (by rw [hg]; decide)
            have s3 : (g.w.toList == [100, 100]) = false := dw_not (t := wD2) rfl (by rw [hg]; decide)
            have s4 : (g.w.toList == [100]) = false := dw_not (t := wD1) rfl (by rw [hg]; decide)
            have s5 : (g.w.toList == [77, 77, 77, 77]) = false := dw_not (t := wMN) rfl (by rw [hg]; decide)
            have s6 : (g.w.toList == [87, 87, 87, 87]) = false := dw_not (t := wWN) rfl (by rw [hg]; decide)
            have se : g.w.toList.isEmpty = false := dempty_not (by rw [hg]; decide)
            clear hg HXG HCG
            clear hx HSY HSM HSD HCS HNX HX1 HO
            go_wp2_with fail
            go_ret
            exact RdP.no HBG.out
          · have s0 : (g.w.toList == [121, 121, 121, 121]) = false := dw_not (t := wY) rfl (by rw [hg]; decide)
            have s1 : (g.w.toList == [109, 109]) = true := dw_is (t := wM2) rfl hg
            have s2 : (g.w.toList == [109]) = false := dw_not (t := wM1) rfl (by rw [hg]; decide)
            have s3 : (g.w.toList == [100, 100]) = false := dw_not (t := wD2) rfl (by rw [hg]; decide)
            have s4 : (g.w.toList == [100]) = false := dw_not (t := wD1) rfl (by rw [hg]; decide)
            have s5 : (g.w.toList == [77, 77, 77, 77]) = false := dw_not (t := wMN) rfl (by rw [hg]; decide)
            have s6 : (g.w.toList == [87, 87, 87, 87]) = false := dw_not (t := wWN) rfl (by rw [hg]; decide)
            have se : g.w.toList.isEmpty = false := dempty_not (by rw [hg]; decide)
            clear hg HXG HCG
            clear hx HSY HSM HSD HCS HNX HX1 HO
            go_wp2_with fail
            go_ret
            exact RdP.no HBG.out
          · have s0 : (g.w.toList == [121, 121, 121, 121]) = false := dw_not (t := wY) rfl (by rw [hg]; decide)
            have s1 : (g.w.toList == [109, 109]) = false := dw_not (t := wM2) rfl (by rw [hg]; decide)
            have s2 : (g.w.toList == [109]) = true := dw_is (t := wM1) rfl hg
            have s3 : (g.w.toList == [100, 100]) = false := dw_not (t := wD2) rfl (by rw [hg]; decide)
            have s4 : (g.w.toList == [100]) = false := dw_not (t := wD1) rfl (by rw [hg]; decide)
            have s5 : (g.w.toList == [77, 77, 77, 77]) = false := dw_not (t := wMN) rfl (by rw [hg]; decide)
            have s6 : (g.w.toList == [87, 87, 87, 87]) = false := dw_not (t := wWN) rfl (by rw [hg]; decide)
            have se : g.w.toList.isEmpty = false := dempty_not (by rw [hg]; decide)
            clear hg HXG HCG
            clear hx HSY HSM HSD HCS HNX HX1 HO
            go_wp2_with fail
            go_ret
            exact RdP.no HBG.out
          · have s0 : (g.w.toList == [121, 121, 121, 121]) = false := dw_not (t := wY) rfl (by rw [hg]; decide)
            have s1 : (g.w.toList == [109, 109]) = false := dw_not (t := wM2) rfl (by rw [hg]; decide)
            have s2 : (g.w.toList == [109]) = false := dw_not (t := wM1) rfl (by rw [hg]; decide)
            have s3 : (g.w.toList == [100, 100]) = true := dw_is (t := wD2) rfl hg
            have s4 : (g.w.toList == [100]) = false := dw_not (t := wD1) rfl (by rw [hg]; decide)
            have s5 : (g.w.toList == [77, 77, 77, 77]) = false := dw_not (t := wMN) rfl (by rw [hg]; decide)
            have s6 : (g.w.toList == [87, 87, 87, 87]) = false := dw_not (t := wWN) rfl (by rw [hg]; decide)
            have se : g.w.toList.isEmpty = false := dempty_not (by rw [hg]; decide)
            clear hg HXG HCG
            clear hx HSY HSM HSD HCS HNX HX1 HO
            go_wp2_with fail
            go_ret
            exact RdP.no HBG.out
          · have s0 : (g.w.toList == [121, 121, 121, 121]) = false := dw_not (t := wY) rfl (by rw [hg]; decide)
            have s1 : (g.w.toList == [109, 109]) = false := dw_not (t := wM2) rfl (by rw [hg]; decide)
            have s2 : (g.w.toList == [109]) = false := dw_not (t := wM1) rfl (by rw [hg]; decide)
            have s3 : (g.w.toList == [100, 100]) = false := dw_not (t := wD2) rfl (by rw [hg]; decide)
            have s4 : (g.w.toList == [100]) = true := dw_is (t := wD1) rfl hg
            have s5 : (g.w.toList == [77, 77, 77, 77]) = false := dw_not (t := wMN) rfl (by rw [hg]; decide)
            have s6 : (g.w.toList == [87, 87, 87, 87]) = false := dw_not (t := wWN) rfl (by rw [hg]; decide)
            have se : g.w.toList.isEmpty = false := dempty_not (by rw [hg]; decide)
            clear hg HXG HCG
            clear hx HSY HSM HSD HCS HNX HX1 HO
            go_wp2_with fail
            go_ret
            exact RdP.no HBG.out
          · have s0 : (g.w.toList == [121, 121, 121, 121]) = false := dw_not (t := wY) rfl (by rw [hg]; decide)
            have s1 : (g.w.toList == [109, 109]) = false := dw_not (t := wM2) rfl (by rw [hg]; decide)
            have s2 : (g.w.toList == [109]) = false := dw_not (t := wM1) rfl (by rw [hg]; decide)
            have s3 : (g.w.toList == [100, 100]) = false := dw_not (t := wD2) rfl (by rw [hg]; decide)
            have s4 : (g.w.toList == [100]) = false := dw_not (t := wD1) rfl (by rw [hg]; decide)
            have s5 : (g.w.toList == [77, 77, 77, 77]) = true := dw_is (t := wMN) rfl hg
            have s6 : (g.w.toList == [87, 87, 87, 87]) = false := dw_not (t := wWN) rfl (by rw [hg]; decide)
            have se : g.w.toList.isEmpty = false := dempty_not (by rw [hg]; decide)
            have HN := Lib.hid (HNX.out (by unfold digF isYear isDay; simp only [hg]; generalize digB g.c = B; revert B; decide))
            clear hg HXG HCG
            clear hx HSY HSM HSD HCS HNX HX1 HO
            go_wp2_with fail
            go_roundw
            case rel => exact ⟨k + 1, by omega, by rw [HY2.out]; first | done | rfl, by rw [HM2.out]; first | done | rfl, by rw [HD2.out]; first | done | rfl, by go_num, HN, HBG⟩
            case measure => simp [dstr]; omega
          · have s0 : (g.w.toList == [121, 121, 121, 121]) = false := dw_not (t := wY) rfl (by rw [hg]; decide)
            have s1 : (g.w.toList == [109, 109]) = false := dw_not (t := wM2) rfl (by rw [hg]; decide)
            have s2 : (g.w.toList == [109]) = false := dw_not (t := wM1) rfl (by rw [hg]; decide)
            have s3 : (g.w.toList == [100, 100]) = false := dw_not (t := wD2) rfl (by rw [hg]; decide)
            have s4 : (g.w.toList == [100]) = false := dw_not (t := wD1) rfl (by rw [hg]; decide)
            have s5 : (g.w.toList == [77, 77, 77, 77]) = false := dw_not (t := wMN) rfl (by rw [hg]; decide)
            have s6 : (g.w.toList == [87, 87, 87, 87]) = true := dw_is (t := wWN) rfl hg
            have se : g.w.toList.isEmpty = false := dempty_not (by rw [hg]; decide)
            have HN := Lib.hid (HNX.out (by unfold digF isYear isDay; simp only [hg]; generalize digB g.c = B; revert B; decide))
            clear hg HXG HCG
            clear hx HSY HSM HSD HCS HNX HX1 HO
            go_wp2_with fail
            go_roundw
            case rel => exact ⟨k + 1, by omega, by rw [HY2.out]; first | done | rfl, by rw [HM2.out]; first | done | rfl, by rw [HD2.out]; first | done | rfl, by go_num, HN, HBG⟩
            case measure => simp [dstr]; omega
        · have q5 : decide ((k : Int) + 1 < (fs.length : Int)) = false := decide_eq_false (by omega)
          have q5N : decide (k + 1 < fs.length) = false := decide_eq_false hk1
          have HN := Lib.hid (HNX.out fun h _ => absurd h hk1)
          have hk1I : ¬ (k : Int) + 1 < (fs.length : Int) := by omega
          clear hx HSY HSM HSD HCS HNX HX1 HO
          go_wp2_with fail
          go_roundw
          case rel => exact ⟨k + 1, by omega, by rw [HY2.out]; first | done | rfl, by rw [HM2.out]; first | done | rfl, by rw [HD2.out]; first | done | rfl, by go_num, HN, HBW⟩
          case measure => simp [dstr]; omega
      · have t0 : (f.w.toList == [121, 121, 121, 121]) = false := dw_not (t := wY) rfl (by rw [hx]; decide)
        have t1 : (f.w.toList == [109, 109]) = false := dw_not (t := wM2) rfl (by rw [hx]; decide)
        have t2 : (f.w.toList == [109]) = false := dw_not (t := wM1) rfl (by rw [hx]; decide)
        have t3 : (f.w.toList == [100, 100]) = true := dw_is (t := wD2) rfl hx
        have t4 : (f.w.toList == [100]) = false := dw_not (t := wD1) rfl (by rw [hx]; decide)
        have t5 : (f.w.toList == [77, 77, 77, 77]) = false := dw_not (t := wMN) rfl (by rw [hx]; decide)
        have t6 : (f.w.toList == [87, 87, 87, 87]) = false := dw_not (t := wWN) rfl (by rw [hx]; decide)
        have HY2 : Hid (CY (k + 1) = CY k) := by show _ = _; rw [HSY.out, if_neg (by unfold isYear; rw [hx]; decide)]; rfl
        have HM2 : Hid (CM (k + 1) = CM k) := by show _ = _; rw [HSM.out, if_neg (by unfold isMon; rw [hx]; decide)]; rfl
        have HD2 : Hid (CD (k + 1) = CD k + 1) := by show _ = _; rw [HSD.out, if_pos (by unfold isDay; rw [hx]; decide)]
        have HN := Lib.hid (HNX.out fun _ h => by rcases h with h | h <;> rw [hx] at h <;> exact absurd h (by decide))
        clear hx HSY HSM HSD HCS HNX HX1 HO
        go_wp2_with fail
        go_roundw
        case rel => exact ⟨k + 1, by omega, by rw [HY2.out]; first | done | rfl, by rw [HM2.out]; first | done | rfl, by rw [HD2.out]; first | done | rfl, by go_num, HN, HBW⟩
        case measure => simp [dstr]; omega
      · have t0 : (f.w.toList == [121, 121, 121, 121]) = false := dw_not (t := wY) rfl (by rw [hx]; decide)
        have t1 : (f.w.toList == [109, 109]) = false := dw_not (t := wM2) rfl (by rw [hx]; decide)
        have t2 : (f.w.toList == [109]) = false := dw_not (t := wM1) rfl (by rw [hx]; decide)
        have t3 : (f.w.toList == [100, 100]) = false := dw_not (t := wD2) rfl (by rw [hx]; decide)
        have t4 : (f.w.toList == [100]) = true := dw_is (t := wD1) rfl hx
        have t5 : (f.w.toList == [77, 77, 77, 77]) = false := dw_not (t := wMN) rfl (by rw [hx]; decide)
        have t6 : (f.w.toList == [87, 87, 87, 87]) = false := dw_not (t := wWN) rfl (by rw [hx]; decide)
        have HY2 : Hid (CY (k + 1) = CY k) := by show _ = _; rw [HSY.out, if_neg (by unfold isYear; rw [hx]; decide)]; rfl
        have HM2 : Hid (CM (k + 1) = CM k) := by show _ = _; rw [HSM.out, if_neg (by unfold isMon; rw [hx]; decide)]; rfl
        have HD2 : Hid (CD (k + 1) = CD k + 1) := by show _ = _; rw [HSD.out, if_pos (by unfold isDay; rw [hx]; decide)]
        by_cases hk1 : k + 1 < fs.length
        · have q5 : decide ((k : Int) + 1 < (fs.length : Int)) = true := decide_eq_true (by omega)
          have q5N : decide (k + 1 < fs.length) = true := decide_eq_true hk1
          have hk1I : (k : Int) + 1 < (fs.length : Int) := by omega
          obtain ⟨b2, off2, hbb, hsc3, hsc4, hblt2, hc2⟩ := HGET.out (k + 1) hk1
          simp only [Option.some.injEq, Addr.mk.injEq, and_true] at hbb
          obtain ⟨rfl, rfl⟩ := hbb
          obtain ⟨n0, n1⟩ := dtwo_later HBW.out hblt hc2
          have HCG := Lib.hid (df_cases (HFW.out _ (List.getElem_mem hk1)))
          have HNX := Lib.hid (fun (h : digF fs[k + 1] = false) => HNX.out fun _ _ => h)
          generalize fs[k + 1] = g at n0 n1 HCG HNX
          clear hc2
          have HBG : Hid (Below w.heap.size w ((ww.alloc (.cells #[.string f.w, .int .u8 (f.c.toNat : Int)] 47)).alloc (.cells #[.string g.w, .int .u8 (g.c.toNat : Int)] 47))) := HBW.out.trans ((below_alloc' _ _).mono HBW.out.size)
          have HXG : Hid (((ww.alloc (.cells #[.string f.w, .int .u8 (f.c.toNat : Int)] 47)).alloc (.cells #[.string g.w, .int .u8 (g.c.toNat : Int)] 47)).heap[ww.heap.size + 1]? = some (.cells #[.string g.w, .int .u8 (g.c.toNat : Int)] 47 (0, 0))) := by rw [← hsz1]; exact heap_alloc_new _ _
          obtain ⟨m0, m1⟩ := dpair_of_block HXG.out
          rcases HCG.out with hg | hg | hg | hg | hg | hg | hg | hg
          · have s0 : (g.w.toList == [121, 121, 121, 121]) = false := dw_not (t := wY) rfl (by rw [hg]; decide)
            have s1 : (g.w.toList == [109, 109]) = false := dw_not (t := wM2) rfl (by rw [hg]; decide)
            have s2 : (g.w.toList == [109]) = false := dw_not (t := wM1) rfl (by rw [hg]; decide)
            have s3 : (g.w.toList == [100, 100]) = false := dw_not (t := wD2) rfl (by rw [hg]; decide)
            have s4 : (g.w.toList == [100]) = false := dw_not (t := wD1) rfl (by rw [hg]; decide)
            have s5 : (g.w.toList == [77, 77, 77, 77]) = false := dw_not (t := wMN) rfl (by rw [hg]; decide)
            have s6 : (g.w.toList == [87, 87, 87, 87]) = false := dw_not (t := wWN) rfl (by rw [hg]; decide)
            have se : g.w.toList.isEmpty = true := dempty_at (by rw [hg]; rfl)
            have HDG := Lib.hid (fun w' => mdigit_any g.c w')
            cases hd : digB g.c with
            | true =>
              rw [hd] at HDG
              clear hg hd HXG HCG
              clear hx HSY HSM HSD HCS HNX HX1 HO
              go_wp2_with (go_at_call 26; refine (HDG.out _).mono ?_; rintro e w' ⟨rfl, rfl⟩)
              go_ret
              exact RdP.no HBG.out
            | false =>
              rw [hd] at HDG
              have HN := Lib.hid (HNX.out (by unfold digF isYear isDay; simp only [hg, hd]; decide))
              clear hg hd HXG HCG
              clear hx HSY HSM HSD HCS HNX HX1 HO
              go_wp2_with (go_at_call 26; refine (HDG.out _).mono ?_; rintro e w' ⟨rfl, rfl⟩)
              go_roundw
              case rel => exact ⟨k + 1, by omega, by rw [HY2.out]; first | done | rfl, by rw [HM2.out]; first | done | rfl, by rw [HD2.out]; first | done | rfl, by go_num, HN, HBG⟩
              case measure => simp [dstr]; omega
          · have s0 : (g.w.toList == [121, 121, 121, 121]) = true := dw_is (t := wY) rfl hg
            have s1 : (g.w.toList == [109, 109]) = false := dw_not (t := wM2) rfl (by rw [hg]; decide)
            have s2 : (g.w.toList == [109]) = false := dw_not (t := wM1) rfl (by rw [hg]; decide)
            have s3 : (g.w.toList == [100, 100]) = false := dw_not (t := wD2) rfl (by rw [hg]; decide)
            have s4 : (g.w.toList == [100]) = false := dw_not (t := wD1) rfl (by rw [hg]; decide)
            have s5 : (g.w.toList == [77, 77, 77, 77]) = false := dw_not (t := wMN) rfl (by rw [hg]; decide)
            have s6 : (g.w.toList == [87, 87, 87, 87]) = false := dw_not (t := wWN) rfl (by rw [hg]; decide)
            have se : g.w.toList.isEmpty = false := dempty_not (by rw [hg]; decide)
            clear hg HXG HCG
            clear hx HSY HSM HSD HCS HNX HX1 HO
            go_wp2_with fail
            go_ret
            exact RdP.no HBG.out
          · have s0 : (g.w.toList == [121, 121, 121, 121]) = false := dw_not (t := wY) rfl (by rw [hg]; decide)
            have s1 : (g.w.toList == [109, 109]) = true := dw_is (t := wM2) rfl hg
            have s2 : (g.w.toList == [109]) = false := dw_not (t := wM1) rfl (by rw [hg]; decide)
            have s3 : (g.w.toList == [100, 100]) = false := dw_not (t := wD2) rfl (by rw [hg]; decide)
            have s4 : (g.w.toList == [100]) = false := dw_not (t := wD1) rfl (by rw [hg]; decide)
            have s5 : (g.w.toList == [77, 77, 77, 77]) = false := dw_not (t := wMN) rfl (by rw [hg]; decide)
            have s6 : (g.w.toList == [87, 87, 87, 87]) = false := dw_not (t := wWN) rfl (by rw [hg]; decide)
            have se : g.w.toList.isEmpty = false := dempty_not (by rw [hg]; decide)
            clear hg HXG HCG
            clear hx HSY HSM HSD HCS HNX HX1 HO
            go_wp2_with fail
            go_ret
            exact RdP.no HBG.out
          · have s0 : (g.w.toList == [121, 121, 121, 121]) = false := dw_not (t := wY) rfl (by rw [hg]; decide)
            have s1 : (g.w.toList == [109, 109]) = false := dw_not (t := wM2) rfl (by rw [hg]; decide)
            have s2 : (g.w.toList == [109]) = true := dw_is (t := wM1) rfl hg
            have s3 : (g.w.toList == [100, 100]) = false := dw_not (t := wD2) rfl (by rw [hg]; decide)
            have s4 : (g.w.toList == [100]) = false := dw_not (t := wD1) rfl (by rw [hg]; decide)
            have s5 : (g.w.toList == [77, 77, 77, 77]) = false := dw_not (t := wMN) rfl (by rw [hg]; decide)
            have s6 : (g.w.toList == [87, 87, 87, 87]) = false := dw_not (t := wWN) rfl (by rw [hg]; decide)
            have se : g.w.toList.isEmpty = false := dempty_not (by rw [hg]; decide)
            clear hg HXG HCG
            clear hx HSY HSM HSD HCS HNX HX1 HO
            go_wp2_with fail
            go_ret
            exact RdP.no HBG.out
          · have s0 : (g.w.toList == [121, 121, 121, 121]) = false := dw_not (t := wY) rfl (by rw [hg]; decide)
            have s1 : (g.w.toList == [109, 109]) = false := dw_not (t := wM2) rfl (by rw [hg]; decide)
            have s2 : (g.w.toList == [109]) = false := dw_not (t := wM1) rfl (by rw [hg]; decide)
            have s3 : (g.w.toList == [100, 100]) = true := dw_is (t := wD2) rfl hg
            have s4 : (g.w.toList == [100]) = false := dw_not (t := wD1) rfl (by rw [hg]; decide)
            have s5 : (g.w.toList == [77, 77, 77, 77]) = false := dw_not (t := wMN) rfl (by rw [hg]; decide)
            have s6 : (g.w.toList == [87, 87, 87, 87]) = false := dw_not (t := wWN) rfl (by rw [hg]; decide)
            have se : g.w.toList.isEmpty = false := dempty_not (by rw [hg]; decide)
            clear hg HXG HCG
            clear hx HSY HSM HSD HCS HNX HX1 HO
            go_wp2_with fail
            go_ret
            exact RdP.no HBG.out
          · have s0 : (g.w.toList == [121, 121, 121, 121]) = false := dw_not (t := wY) rfl (by rw [hg]; decide)
            have s1 : (g.w.toList == [109, 109]) = false := dw_not (t := wM2) rfl (by rw [hg]; decide)
            have s2 : (g.w.toList == [109]) = false := dw_not (t := wM1) rfl (by rw [hg]; decide)
            have s3 : (g.w.toList == [100, 100]) = false := dw_not (t := wD2) rfl (by rw [hg]; decide)
            have s4 : (g.w.toList == [100]) = true := dw_is (t := wD1) rfl hg
            have s5 : (g.w.toList == [77, 77, 77, 77]) = false := dw_not (t := wMN) rfl (by rw [hg]; decide)
            have s6 : (g.w.toList == [87, 87, 87, 87]) = false := dw_not (t := wWN) rfl (by rw [hg]; decide)
            have se : g.w.toList.isEmpty = false := dempty_not (by rw [hg]; decide)
            clear hg HXG HCG
            clear hx HSY HSM HSD HCS HNX HX1 HO
            go_wp2_with fail
            go_ret
            exact RdP.no HBG.out
          · have s0 : (g.w.toList == [121, 121, 121, 121]) = false := dw_not (t := wY) rfl (by rw [hg]; decide)
            have s1 : (g.w.toList == [109, 109]) = false := dw_not (t := wM2) rfl (by rw [hg]; decide)
            have s2 : (g.w.toList == [109]) = false := dw_not (t := wM1) rfl (by rw [hg]; decide)
            have s3 : (g.w.toList == [100, 100]) = false := dw_not (t := wD2) rfl (by rw [hg]; decide)
            have s4 : (g.w.toList == [100]) = false := dw_not (t := wD1) rfl (by rw [hg]; decide)
            have s5 : (g.w.toList == [77, 77, 77, 77]) = true := dw_is (t := wMN) rfl hg
            have s6 : (g.w.toList == [87, 87, 87, 87]) = false := dw_not (t := wWN) rfl (by rw [hg]; decide)
            have se : g.w.toList.isEmpty = false := dempty_not (by rw [hg]; decide)
            have HN := Lib.hid (HNX.out (by unfold digF isYear isDay; simp only [hg]; generalize digB g.c = B; revert B; decide))
            clear hg HXG HCG
            clear hx HSY HSM HSD HCS HNX HX1 HO
            go_wp2_with fail
            go_roundw
            case rel => exact ⟨k + 1, by omega, by rw [HY2.out]; first | done | rfl, by rw [HM2.out]; first | done | rfl, by rw [HD2.out]; first | done | rfl, by go_num, HN, HBG⟩
            case measure => simp [dstr]; omega
          · have s0 : (g.w.toList == [121, 121, 121, 121]) = false := dw_not (t := wY) rfl (by rw [hg]; decide)
            have s1 : (g.w.toList == [109, 109]) = false := dw_not (t := wM2) rfl (by rw [hg]; decide)
            have s2 : (g.w.toList == [109]) = false := dw_not (t := wM1) rfl (by rw [hg]; decide)
            have s3 : (g.w.toList == [100, 100]) = false := dw_not (t := wD2) rfl (by rw [hg]; decide)
            have s4 : (g.w.toList == [100]) = false := dw_not (t := wD1) rfl (by rw [hg]; decide)
            have s5 : (g.w.toList == [77, 77, 77, 77]) = false := dw_not (t := wMN) rfl (by rw [hg]; decide)
            have s6 : (g.w.toList == [87, 87, 87, 87]) = true := dw_is (t := wWN) rfl hg
            have se : g.w.toList.isEmpty = false := dempty_not (by rw [hg]; decide)
            have HN := Lib.hid (HNX.out (by unfold digF isYear isDay; simp only [hg]; generalize digB g.c = B; revert B; decide))
            clear hg HXG HCG
            clear hx HSY HSM HSD HCS HNX HX1 HO
            go_wp2_with fail
            go_roundw
            case rel => exact ⟨k + 1, by omega, by rw [HY2.out]; first | done | rfl, by rw [HM2.out]; first | done | rfl, by rw [HD2.out]; first | done | rfl, by go_num, HN, HBG⟩
            case measure => simp [dstr]; omega
        · have q5 : decide ((k : Int) + 1 < (fs.length : Int)) = false := decide_eq_false (by omega)
          have q5N : decide (k + 1 < fs.length) = false := decide_eq_false hk1
          have HN := Lib.hid (HNX.out fun h _ => absurd h hk1)
          have hk1I : ¬ (k : Int) + 1 < (fs.length : Int) := by omega
          clear hx HSY HSM HSD HCS HNX HX1 HO
          go_wp2_with fail
          go_roundw
          case rel => exact ⟨k + 1, by omega, by rw [HY2.out]; first | done | rfl, by rw [HM2.out]; first | done | rfl, by rw [HD2.out]; first | done | rfl, by go_num, HN, HBW⟩
          case measure => simp [dstr]; omega
      · have t0 : (f.w.toList == [121, 121, 121, 121]) = false := dw_not (t := wY) rfl (by rw [hx]; decide)
        have t1 : (f.w.toList == [109, 109]) = false := dw_not (t := wM2) rfl (by rw [hx]; decide)
        have t2 : (f.w.toList == [109]) = false := dw_not (t := wM1) rfl (by rw [hx]; decide)
        have t3 : (f.w.toList == [100, 100]) = false := dw_not (t := wD2) rfl (by rw [hx]; decide)
        have t4 : (f.w.toList == [100]) = false := dw_not (t := wD1) rfl (by rw [hx]; decide)
        have t5 : (f.w.toList == [77, 77, 77, 77]) = true := dw_is (t := wMN) rfl hx
        have t6 : (f.w.toList == [87, 87, 87, 87]) = false := dw_not (t := wWN) rfl (by rw [hx]; decide)
        have HY2 : Hid (CY (k + 1) = CY k) := by show _ = _; rw [HSY.out, if_neg (by unfold isYear; rw [hx]; decide)]; rfl
        have HM2 : Hid (CM (k + 1) = CM k + 1) := by show _ = _; rw [HSM.out, if_pos (by unfold isMon; rw [hx]; decide)]
        have HD2 : Hid (CD (k + 1) = CD k) := by show _ = _; rw [HSD.out, if_neg (by unfold isDay; rw [hx]; decide)]; rfl
        have HN := Lib.hid (HNX.out fun _ h => by rcases h with h | h <;> rw [hx] at h <;> exact absurd h (by decide))
        clear hx HSY HSM HSD HCS HNX HX1 HO
        go_wp2_with fail
        go_roundw
        case rel => exact ⟨k + 1, by omega, by rw [HY2.out]; first | done | rfl, by rw [HM2.out]; first | done | rfl, by rw [HD2.out]; first | done | rfl, by go_num, HN, HBW⟩
        case measure => simp [dstr]; omega
      · have t0 : (f.w.toList == [121, 121, 121, 121]) = false := dw_not (t := wY) rfl (by rw [hx]; decide)
        have t1 : (f.w.toList == [109, 109]) = false := dw_not (t := wM2) rfl (by rw [hx]; decide)
        have t2 : (f.w.toList == [109]) = false := dw_not (t := wM1) rfl (by rw [hx]; decide)
        have t3 : (f.w.toList == [100, 100]) = false := dw_not (t := wD2) rfl (by rw [hx]; decide)
        have t4 : (f.w.toList == [100]) = false := dw_not (t := wD1) rfl (by rw [hx]; decide)
        have t5 : (f.w.toList == [77, 77, 77, 77]) = false := dw_not (t := wMN) rfl (by rw [hx]; decide)
        have t6 : (f.w.toList == [87, 87, 87, 87]) = true := dw_is (t := wWN) rfl hx
        have HY2 : Hid (CY (k + 1) = CY k) := by show _ = _; rw [HSY.out, if_neg (by unfold isYear; rw [hx]; decide)]; rfl
        have HM2 : Hid (CM (k + 1) = CM k) := by show _ = _; rw [HSM.out, if_neg (by unfold isMon; rw [hx]; decide)]; rfl
        have HD2 : Hid (CD (k + 1) = CD k) := by show _ = _; rw [HSD.out, if_neg (by unfold isDay; rw [hx]; decide)]; rfl
        have HN := Lib.hid (HNX.out fun _ h => by rcases h with h | h <;> rw [hx] at h <;> exact absurd h (by decide))
        clear hx HSY HSM HSD HCS HNX HX1 HO
        go_wp2_with fail
        go_roundw
        case rel => exact ⟨k + 1, by omega, by rw [HY2.out]; first | done | rfl, by rw [HM2.out]; first | done | rfl, by rw [HD2.out]; first | done | rfl, by go_num, HN, HBW⟩
        case measure => simp [dstr]; omega
    · obtain rfl : k = fs.length := by omega
      have q3 : decide ((fs.length : Int) < (fs.length : Int)) = false := decide_eq_false (by omega)
      have q3N : decide (fs.length < fs.length) = false := decide_eq_false (by omega)
      by_cases hy : CY fs.length = 1
      · have a1 : ((CY fs.length : Int) == 1) = true := by rw [beq_iff_eq]; omega
        have a1N : (CY fs.length == 1) = true := by rw [beq_iff_eq]; exact hy
        by_cases hm : CM fs.length = 1
        · have a2 : ((CM fs.length : Int) == 1) = true := by rw [beq_iff_eq]; omega
          have a2N : (CM fs.length == 1) = true := by rw [beq_iff_eq]; exact hm
          by_cases hd : CD fs.length = 1
          · have a3 : ((CD fs.length : Int) == 1) = true := by rw [beq_iff_eq]; omega
            have HR : Hid RB := HMK.out hy hm hd fun j h => HO.out j h (by omega)
            clear hy hm hd
            go_wp2_with fail
            go_ret
            exact RdP.yes HR.out HB.out
          · have a3 : ((CD fs.length : Int) == 1) = false := by rw [beq_eq_false_iff_ne]; omega
            clear hy hm hd
            go_wp2_with fail
            go_ret
            exact RdP.no HB.out
        · have a2 : ((CM fs.length : Int) == 1) = false := by rw [beq_eq_false_iff_ne]; omega
          clear hy hm
          go_wp2_with fail
          go_ret
          exact RdP.no HB.out
      · have a1 : ((CY fs.length : Int) == 1) = false := by rw [beq_eq_false_iff_ne]; omega
        clear hy
        go_wp2_with fail
        go_ret
        exact RdP.no HB.out
end Go.Proofs.YtdolpehcfifecaaGreatDoor
