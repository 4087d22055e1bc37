/- conf.isInteger, find: what they return. Conditions: sizes; the keys ascend. -/
import Derived.Test.YtejnoedlfbglcaaGreatDoorKeJ
import Derived.Deep.QuietTactic
import Derived.BigQuiet
import Derived.StillTailTactics
import Derived.RegionTactic
namespace Go.Proofs.YtejnoedlfbglcaaGreatDoor
open Go.RowKit Mh
set_option linter.unusedVariables false

theorem isInt_trim (l : List UInt8) : isIntL l = (!(Lib.trimPrefix l [45]).isEmpty && (Lib.trimPrefix l [45]).all digB) := by
  cases l with
  | nil => rfl
  | cons c r =>
    by_cases h : c.toNat = 45
    · have hc : c = 45 := UInt8.toNat_inj.1 (by rw [h]; rfl)
      subst hc
      have e : Lib.trimPrefix (45 :: r) [45] = r := by simp [Lib.trimPrefix, Lib.hasPrefix, List.isPrefixOf]
      rw [e]
      show (if (45 : UInt8).toNat = 45 then (!r.isEmpty) && r.all digB else digB 45 && r.all digB) = _
      rw [if_pos h]
    · have hc : (45 == c) = false := by rw [beq_eq_false_iff_ne]; rintro rfl; exact h rfl
      have e : Lib.trimPrefix (c :: r) [45] = c :: r := by simp [Lib.trimPrefix, Lib.hasPrefix, List.isPrefixOf, hc]
      rw [e]
      show (if c.toNat = 45 then (!r.isEmpty) && r.all digB else digB c && r.all digB) = _
      rw [if_neg h]
      simp
theorem trim_len (l : List UInt8) : (Lib.trimPrefix l [45]).length ≤ l.length := by
  unfold Lib.trimPrefix
  split <;> simp
set_option maxHeartbeats 1000000 in
theorem isInteger_any (s : ByteArray) (w : World) (hs : s.size ≤ maxLen) :
    Calls Tryz.prog 77 #[.string s] w fun e w' => e = .returned (.bool (isIntL s.data.toList)) ∧ w = w' := by
  have CT := Lib.hid (fun w => Tryz.strings_TrimPrefix s ⟨#[45]⟩ w)
  have hl := trim_len s.data.toList
  have H := Lib.hid (isInt_trim s.data.toList)
  generalize isIntL s.data.toList = R at *
  have e45 : (⟨#[45]⟩ : ByteArray).data.toList = [45] := rfl
  rw [e45] at CT
  obtain ⟨u, hu⟩ : ∃ u : ByteArray, u = ⟨(Lib.trimPrefix s.data.toList [45]).toArray⟩ := ⟨_, rfl⟩
  have hul : u.data.toList = Lib.trimPrefix s.data.toList [45] := by rw [hu]
  rw [← hu] at CT
  rw [← hul] at H hl
  have hsz : u.size ≤ maxLen := by
    have h1 : u.data.toList.length = u.size := by simp
    have h2 : s.data.toList.length = s.size := by simp
    omega
  unfold maxLen at hsz
  clear hu hul hl hs
  by_cases hu0 : u.size = 0
  · have he := empty_of hu0
    have HR : Hid (R = false) := by
      have : u.data.toList = [] := List.eq_nil_of_length_eq_zero (by simpa using hu0)
      show _ = _
      rw [H.out, this]; rfl
    clear H hu0
    go_enter Tryz.func77, Tryz.ntmps77
    go_wp2_with (go_at_call 88; refine (CT.out _).mono ?_; rintro e w' ⟨rfl, rfl⟩)
    go_ret
    exact ⟨by rw [HR.out]; rfl, rfl⟩
  · have he := empty_not hu0
    have HR : Hid (R = u.data.toList.all digB) := by
      show _ = _
      rw [H.out]
      have : u.data.toList.isEmpty = false := by rw [← ByteArray.toList_eq]; exact he
      rw [this]; rfl
    clear H hu0
    go_enter Tryz.func77, Tryz.ntmps77
    go_wp2_with (go_at_call 88; refine (CT.out _).mono ?_; rintro e w' ⟨rfl, rfl⟩)
    go_loop [3] (fun i => ∃ k : Nat, k ≤ u.size ∧ i = .int .i64 k ∧ Hid (∀ j (h : j < u.size), j < k → digB u[j] = true)) (fun i => u.size - (intOf i).toNat)
    case atStart => exact ⟨0, by omega, rfl, fun j h hj => by omega⟩
    case round =>
      obtain ⟨k, hk, rfl, HA⟩ := hrel
      by_cases hlt : k < u.size
      · have FIN : Hid (digB u[k] = true → ∀ j (h : j < u.size), j < k + 1 → digB u[j] = true) := by
          intro hok j h hj
          by_cases e : j = k
          · subst e; exact hok
          · exact HA.out j h (by omega)
        have BAD : Hid (digB u[k] = false → R = false) := by
          intro hok
          rw [HR.out, Bool.eq_false_iff]
          intro hall
          have := all_at.1 hall k hlt
          rw [hok] at this
          cases this
        have CD := Lib.hid (fun w => kdigit_any u[k] w)
        clear HA
        generalize digB u[k] = D at *
        cases D with
        | true =>
          have HF := Lib.hid (FIN.out rfl)
          clear FIN BAD
          go_wp2_with (go_at_call 66; refine (CD.out _).mono ?_; rintro e w' ⟨rfl, rfl⟩)
          go_round
          case rel => exact ⟨k + 1, by omega, by go_num, HF⟩
          case measure => simp [intOf]; omega
        | false =>
          have HF := Lib.hid (BAD.out rfl)
          clear FIN BAD
          go_wp2_with (go_at_call 66; refine (CD.out _).mono ?_; rintro e w' ⟨rfl, rfl⟩)
          go_ret
          exact ⟨by rw [HF.out]; rfl, rfl⟩
      · have HY : Hid (R = true) := by show _ = _; rw [HR.out]; exact all_at.2 (fun j h => HA.out j h (by omega))
        go_wp2_with fail
        go_ret
        exact ⟨by rw [HY.out]; rfl, rfl⟩

/-- sort.SearchStrings of keys that ascend. -/
theorem search_any (k : ByteArray) (ks : List ByteArray) (kv : Value) (w : World) (h : Ss w kv ks) (hA : Asc ks) (hlen : ks.length ≤ 1099511627776) :
    Calls Tryz.prog 58 #[kv, .string k] w fun e w' => e = .returned (.int .i64 (low k ks : Nat)) ∧ Below w.heap.size w w' := by
  obtain ⟨ao, c, rfl, hk⟩ := h.key
  cases hks : ks with
  | nil =>
    rw [show low k [] = 0 from rfl]
    exact Tryz.sort_SearchStrings_none ao c k w
  | cons a l =>
    rw [← hks]
    have h0 : 0 < ks.length := by rw [hks]; simp
    obtain ⟨b, off, rfl, hb, _, _⟩ := hk 0 h0
    have hget : ∀ i (hi : i < ks.length), ks.toArray[i]! = ks[i] := fun i hi => by rw [getElem!_pos _ i (by simpa using hi)]; simp
    have hS := Tryz.sort_SearchStrings b off c ks.toArray k w (fun i hi => by
      have hi' : i < ks.length := by simpa using hi
      obtain ⟨b', off', e, _, hcell, _⟩ := hk i hi'
      cases e
      rw [hcell, hget i hi']) hb (by simp; omega) (fun i j hij hj hi => by
      have hj' : j < ks.length := by simpa using hj
      rw [hget i (by omega)] at hi
      rw [hget j hj']
      have hi2 : kl ks[i] k = false := by simpa [kl] using hi
      have hj2 : kl ks[j] k = false := by
        by_cases e : i = j
        · subst e; exact hi2
        · cases hx : kl ks[j] k with
          | false => rfl
          | true => have := kl_trans (List.pairwise_iff_getElem.1 hA i j (by omega) hj' (by omega)) hx; rw [hi2] at this; cases this
      show (!kl ks[j] k) = true
      rw [hj2]; rfl)
    rw [show ks.toArray.size = ks.length by simp] at hS
    refine hS.mono fun e w' ⟨h1, h2⟩ => ⟨?_, h2⟩
    rw [h1]
    simp [low, kl]

theorem below_drewN {w w1 : World} {B : Nat} (h : Below B w w1) (n : Nat) : Below B w (w1.drewN n) := h.trans ⟨rfl, rfl, rfl, Nat.le_refl _, fun _ _ => rfl⟩
set_option maxHeartbeats 2000000 in
theorem find_any (X : V) (cs : List Value) (k : ByteArray) (w : World) (h : VAt w X cs) (hA : Asc X.kys) (hlen : X.kys.length ≤ 1099511627776) :
    Calls Tryz.prog 38 #[.agg cs.toArray, .string k] w fun e w' => e = .returned (.tuple #[.int .i64 (low k X.kys : Nat), .bool (hit k X.kys)]) ∧ Below w.heap.size w w' := by
  obtain ⟨ia, ic, ka, kc, rfl, _, _, _, hss, _⟩ := h.opened
  obtain ⟨_, _, hsl, hkey⟩ := Ss.key hss
  simp only [Value.slice.injEq] at hsl
  obtain ⟨rfl, _, rfl⟩ := hsl
  have HK := Lib.hid hkey
  have CS := Lib.hid (fun w' (hb : Below w.heap.size w w') => search_any k X.kys _ w' (hss.below hb) hA hlen)
  rw [vcs_arr]
  have HB0 : Hid (Below w.heap.size w (w.alloc (.cells (sixA X ia ic ka kc) 29))) := (Below.refl w.heap.size w).alloc (Nat.le_refl _) _
  unfold sixA at HB0
  generalize X.its = is at *
  generalize X.kys = ks at *
  generalize X.kd = xk at *
  generalize X.bo = xb at *
  generalize X.nu = xn at *
  generalize X.tx = xt at *
  have hll := low_le k ks
  have HH : Hid (hit k ks = decide (ks[low k ks]? = some k)) := rfl
  generalize low k ks = L at *
  generalize hit k ks = T at *
  clear h hss hkey hA
  go_enter Tryz.func38, Tryz.ntmps38
  go_wp2_with fail
  refine (CS.out _ HB0.out).mono ?_
  rintro e w1 ⟨rfl, hb1⟩
  have hbk : w1.heap[w.heap.size]? = some (.cells #[.int .i64 xk, .bool xb, .int .i64 xn, .string xt, .slice ia is.length ic, .slice ka ks.length kc] 29 (0, 0)) := (hb1.block _ (by simp)).trans (heap_alloc_new _ _)
  have HB1 : Hid (Below w.heap.size w w1) := HB0.out.trans (hb1.mono (by simp))
  have x5 : w1.cell? ⟨w.heap.size, 5, none⟩ = some (.slice ka ks.length kc) := cellT hbk rfl
  clear hb1 hbk CS HB0
  by_cases hL : L < ks.length
  · obtain ⟨kb, ko, rfl, hkb, hcell, hsz⟩ := HK.out L hL
    have y1 : w1.cell? ⟨kb, ko + L, none⟩ = some (.string ks[L]) := (HB1.out.cell (p := ⟨kb, ko + L, none⟩) hkb).trans hcell
    have q : decide ((L : Int) < (ks.length : Int)) = true := decide_eq_true (by omega)
    have q' : decide (L < ks.length) = true := decide_eq_true hL
    have HT : Hid (T = (ks[L].toList == k.toList)) := by
      show _ = _
      rw [HH.out, List.getElem?_eq_getElem hL]
      by_cases e : ks[L] = k
      · rw [e]; simp
      · rw [decide_eq_false (by simpa using e)]
        symm
        rw [beq_eq_false_iff_ne]
        intro e2
        apply e
        rw [ByteArray.toList_eq, ByteArray.toList_eq] at e2
        have : ks[L].data = k.data := Array.toList_inj.1 e2
        cases hx : ks[L]; cases k; rw [hx] at this; simp at this; rw [this]
    clear hcell hsz HH HK
    go_wp2_with fail
    go_quiet (fail)
    go_wp2_with fail
    go_ret2
    exact ⟨by rw [HT.out]; rfl, below_drewN HB1.out _⟩
  · have q : decide ((L : Int) < (ks.length : Int)) = false := decide_eq_false (by omega)
    have q' : decide (L < ks.length) = false := decide_eq_false hL
    have HT : Hid (T = false) := by
      show _ = _
      rw [HH.out, List.getElem?_eq_none (by omega)]; rfl
    clear HH HK
    go_wp2_with fail
    go_quiet (fail)
    go_wp2_with fail
    go_ret2
    exact ⟨by rw [HT.out]; rfl, below_drewN HB1.out _⟩
end Go.Proofs.YtejnoedlfbglcaaGreatDoor
