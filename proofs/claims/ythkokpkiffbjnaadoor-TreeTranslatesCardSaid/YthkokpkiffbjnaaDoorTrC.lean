/- tree: languagesFit and filesFault: what they let pass. Conditions: strings of at most maxLen bytes; the key of at most 1000; the library's variable MaxLen holds an integer. -/
import Derived.Test.YthkokpkiffbjnaaDoorTrB
namespace Mh
open Go Go.RowKit
set_option linter.unusedVariables false
/-- A language as it must be. -/
def LangAt (L : List ByteArray) (i : Nat) (h : i < L.length) : Prop := 1 ≤ L[i].size ∧ L[i].size ≤ 8 ∧ letsL L[i].data.toList = true ∧ ∀ j (hj : j < i), L[j]'(by omega) ≠ L[i]
def LangsFit (L : List ByteArray) : Prop := 1 ≤ L.length ∧ L.length ≤ 8 ∧ ∀ i (h : i < L.length), LangAt L i h
end Mh
namespace Go.Proofs.YthkokpkiffbjnaaDoor
open Go.RowKit Mh
set_option linter.unusedVariables false
def FileAt (kind : Int) (key : ByteArray) (F : List ByteArray) (i : Nat) (h : i < F.length) : Prop :=
  kind = 1 ∧ pathB F[i].data.toList = true ∧ Lib.hasPrefix F[i].data.toList (key ++ ⟨#[47]⟩).data.toList = true ∧ ∀ h0 : 0 < i, kl (F[i - 1]'(by omega)) F[i] = true
def FilesOk (kind : Int) (key : ByteArray) (F : List ByteArray) : Prop := ∀ i (h : i < F.length), FileAt kind key F i h
set_option maxHeartbeats 4000000 in
theorem languagesFit_any (L : List ByteArray) (v : Value) (w : World) (h : Ss w v L) : Calls Tryd.prog 10 #[v] w fun e w' => ∃ r : Bool, e = .returned (.bool r) ∧ (r = true ↔ LangsFit L) ∧ Below w.heap.size w w' := by
  obtain ⟨ao, c, rfl, hm, hat⟩ := h.get
  have HAT := Lib.hid hat
  have HT := Lib.hid (fun (s : ByteArray) (hs : s.size ≤ 1099511627776) w' => trim_any s hs w')
  unfold letsB lets at HT
  unfold maxLen at hm
  clear hat h
  by_cases hl0 : L.length < 1
  · have HN : Hid (¬ LangsFit L) := fun h => by have := h.1; omega
    have hz : L.length = 0 := by omega
    go_enter Tryd.func10, Tryd.ntmps10
    go_wp2_with fail
    go_ret
    exact ⟨false, rfl, ⟨fun h => (by cases h), fun h => absurd h HN.out⟩, Below.refl _ _⟩
  by_cases hl8 : 8 < L.length
  · have HN : Hid (¬ LangsFit L) := fun h => by have := h.2.1; omega
    have hd1 : decide ((L.length : Int) < 1) = false := decide_eq_false (by omega)
    have hd2 : decide ((8 : Int) < L.length) = true := decide_eq_true (by omega)
    go_enter Tryd.func10, Tryd.ntmps10
    go_wp2_with fail
    go_ret
    exact ⟨false, rfl, ⟨fun h => (by cases h), fun h => absurd h HN.out⟩, Below.refl _ _⟩
  have hd1 : decide ((L.length : Int) < 1) = false := decide_eq_false (by omega)
  have hd2 : decide ((8 : Int) < L.length) = false := decide_eq_false (by omega)
  go_enter Tryd.func10, Tryd.ntmps10
  go_wp2_with fail
  go_loopw [17] (fun i wr => ∃ k : Nat, k ≤ L.length ∧ i = .int .i64 k ∧ Hid (∀ j (hj : j < L.length), j < k → LangAt L j hj) ∧ Hid (Below w.heap.size w wr)) (fun i wr => L.length - (intOf i).toNat)
  case atStart => exact ⟨0, Nat.zero_le _, rfl, fun j hj h => by omega, Below.refl _ _⟩
  case round =>
    obtain ⟨k, hk, rfl, HO, HB⟩ := hrel
    obtain ⟨wo, rfl⟩ : ∃ wo : World, wo = wr := ⟨_, rfl⟩
    by_cases hkl : k < L.length
    · obtain ⟨b, off, rfl, h1, h2, h3, h4, h5⟩ := HAT.out k hkl
      have h4' := (HB.out.cell (p := ⟨b, off + k, none⟩) h3).trans h4
      unfold maxLen at h2 h5
      have NO : Hid (∀ P : Prop, (LangAt L k hkl → P) → (LangsFit L → P)) := fun P f h => f (h.2.2 k hkl)
      by_cases hs1 : L[k].size < 1
      · have HN : Hid (¬ LangsFit L) := NO.out _ fun h => by have := h.1; omega
        have hz : L[k].size = 0 := by omega
        go_wp2_with fail
        go_ret
        exact ⟨false, rfl, ⟨fun h => (by cases h), fun h => absurd h HN.out⟩, HB.out⟩
      have hd3 : decide ((L[k].size : Int) < 1) = false := decide_eq_false (by omega)
      by_cases hs8 : 8 < L[k].size
      · have HN : Hid (¬ LangsFit L) := NO.out _ fun h => by have := h.2.1; omega
        have hd4 : decide ((8 : Int) < L[k].size) = true := decide_eq_true (by omega)
        go_wp2_with fail
        go_ret
        exact ⟨false, rfl, ⟨fun h => (by cases h), fun h => absurd h HN.out⟩, HB.out⟩
      have hd4 : decide ((8 : Int) < L[k].size) = false := decide_eq_false (by omega)
      have HTK := Lib.hid (HT.out L[k] (by omega) wo)
      cases hlet : letsL L[k].data.toList with
      | false =>
        have HN : Hid (¬ LangsFit L) := NO.out _ fun h => by have := h.2.2.1; rw [hlet] at this; cases this
        go_wp2_with fail
        refine HTK.out.mono ?_
        rintro e w2 ⟨u, rfl, hu, _, hb2⟩
        have hue : u.toList.isEmpty = false := by
          rw [ByteArray.toList_eq]
          cases q : u.data.toList with
          | nil => have := hu.1 q; rw [hlet] at this; cases this
          | cons x y => rfl
        have HB2 := Lib.hid (HB.out.trans (hb2.mono HB.out.size))
        clear hlet hu hb2
        go_wp2_with fail
        go_ret
        exact ⟨false, rfl, ⟨fun h => (by cases h), fun h => absurd h HN.out⟩, HB2.out⟩
      | true =>
        have HLT := Lib.hid hlet
        have HSZ : Hid (1 ≤ L[k].size ∧ L[k].size ≤ 8) := by show _ ∧ _; omega
        go_wp2_with fail
        refine HTK.out.mono ?_
        rintro e w2 ⟨u, rfl, hu, _, hb2⟩
        have hue : u.toList.isEmpty = true := by
          rw [ByteArray.toList_eq, hu.2 hlet]; rfl
        have HB2 := Lib.hid (HB.out.trans (hb2.mono HB.out.size))
        have hkc : (k : Int) ≤ (c : Int) := by omega
        clear hlet hu hb2
        go_wp2_with fail
        go_loopw [39] (fun i wr => ∃ q : Nat, q ≤ k ∧ i = .int .i64 q ∧ Hid (∀ j (hj : j < q) (hj2 : j < L.length), L[j] ≠ L[k]) ∧ w2 = wr) (fun i wr => k - (intOf i).toNat)
        case atStart => exact ⟨0, Nat.zero_le _, rfl, fun j hj h => by omega, rfl⟩
        case round =>
          obtain ⟨q, hq, rfl, HQ, hww⟩ := hrel
          subst hww
          by_cases hqk : q < k
          · have hql : q < L.length := by omega
            obtain ⟨b', off', hbo, _, _, _, h4q, h5q⟩ := HAT.out q hql
            simp only [Option.some.injEq, Addr.mk.injEq, and_true] at hbo
            obtain ⟨rfl, rfl⟩ := hbo
            have h4q' := (HB2.out.cell (p := ⟨b, off + q, none⟩) h3).trans h4q
            unfold maxLen at h5q
            by_cases e : L[q] = L[k]
            · have hqe : (L[k].toList == L[q].toList) = true := by rw [eqB]; exact decide_eq_true e.symm
              have HN : Hid (¬ LangsFit L) := NO.out _ fun h => h.2.2.2 q hqk e
              clear e
              go_wp2_with fail
              go_ret
              exact ⟨false, rfl, ⟨fun h => (by cases h), fun h => absurd h HN.out⟩, HB2.out⟩
            · have hqe : (L[k].toList == L[q].toList) = false := by rw [eqB]; exact decide_eq_false fun x => e x.symm
              have HE : Hid (L[q] ≠ L[k]) := e
              clear e
              go_wp2_with fail
              go_roundw
              case rel => exact ⟨q + 1, by omega, by go_num, fun j hj hj2 => (by by_cases e : j = q; · subst e; exact HE.out
                                                                                 · exact HQ.out j (by omega) hj2), by first | rfl | trivial⟩
              case measure => simp [intOf]; omega
          · have HA : Hid (∀ j (hj : j < L.length), j < k + 1 → LangAt L j hj) := fun j hj h => by
              by_cases e : j = k
              · subst e; exact ⟨HSZ.out.1, HSZ.out.2, HLT.out, fun i hi => HQ.out i (by omega) (by omega)⟩
              · exact HO.out j hj (by omega)
            go_wp2_with fail
            go_roundw
            case rel => exact ⟨k + 1, by omega, by go_num, HA, HB2⟩
            case measure => simp [intOf]; omega
    · have HY : Hid (LangsFit L) := ⟨by omega, by omega, fun i hi => HO.out i hi (by omega)⟩
      go_wp2_with fail
      go_ret
      exact ⟨true, rfl, ⟨fun _ => HY.out, fun _ => rfl⟩, HB.out⟩
end Go.Proofs.YthkokpkiffbjnaaDoor
