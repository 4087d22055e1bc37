/- tree: position, rootOf, cutLast, isAddress, oneMore, and the plain words for them. Conditions: strings of at most maxLen bytes; the library's variable MaxLen holds an integer. -/
import Derived.Test.YthkokpkiffbjnaaDoorTrA
import Derived.Test.YthkokpkiffbjnaaDoorVAt
import Derived.Test.YthkokpkiffbjnaaDoorPath
import Derived.Test.YthkokpkiffbjnaaDoorKeJ
import Derived.Outline
import Derived.Deep.CutRange
import Derived.BigQuiet
namespace Mh
open Go Go.RowKit
set_option linter.unusedVariables false
/-- Where a string stands in a list, or -1. -/
def posL (L : List ByteArray) (s : ByteArray) : Int := match L.findIdx? (fun x => decide (x = s)) with
  | some i => (i : Int)
  | none => -1
theorem posL_at {L : List ByteArray} {s : ByteArray} {i : Nat} (hi : i < L.length) (h : L[i] = s) (hb : ∀ j (hj : j < L.length), j < i → L[j] ≠ s) : posL L s = i := by
  have : L.findIdx? (fun x => decide (x = s)) = some i := by
    rw [List.findIdx?_eq_some_iff_getElem]
    exact ⟨hi, by simp [h], fun j hj => by simp [hb j (by omega) hj]⟩
  unfold posL; rw [this]
theorem posL_none {L : List ByteArray} {s : ByteArray} (hb : ∀ j (hj : j < L.length), L[j] ≠ s) : posL L s = -1 := by
  have : L.findIdx? (fun x => decide (x = s)) = none := by
    rw [List.findIdx?_eq_none_iff]
    intro x hx
    obtain ⟨j, hj, rfl⟩ := List.mem_iff_getElem.1 hx
    simp [hb j hj]
  unfold posL; rw [this]
theorem posL_range (L : List ByteArray) (s : ByteArray) : -1 ≤ posL L s ∧ posL L s < L.length := by
  unfold posL
  split
  · rename_i i h
    rw [List.findIdx?_eq_some_iff_getElem] at h
    obtain ⟨h, _⟩ := h
    omega
  · omega
theorem eqB (a b : ByteArray) : (a.toList == b.toList) = decide (a = b) := by
  rw [ByteArray.toList_eq, ByteArray.toList_eq]
  by_cases h : a = b
  · subst h; simp
  · rw [decide_eq_false h, beq_eq_false_iff_ne]
    intro e
    apply h
    cases a; cases b
    simpa [Array.toList_inj] using e
theorem eqC (s : ByteArray) (l : List UInt8) : (s.toList == l) = decide (s = ⟨l.toArray⟩) := by
  have := eqB s ⟨l.toArray⟩
  rw [ByteArray.toList_eq ⟨l.toArray⟩] at this
  simpa using this
def slash : ByteArray := ⟨#[47]⟩
def rootL (L : List ByteArray) (s : ByteArray) : ByteArray := if L[0]? = some s then slash else slash ++ s ++ slash
/-- The directory of a path. -/
def dirL (s : ByteArray) : ByteArray := if Lib.lastIndexByte s 47 < 0 then ⟨#[]⟩ else s.extract 0 (Lib.lastIndexByte s 47).toNat
def lastL (s : ByteArray) : ByteArray := if Lib.lastIndexByte s 47 < 0 then s else s.extract ((Lib.lastIndexByte s 47).toNat + 1) s.size
def oneMoreB (a b : ByteArray) : Bool := Lib.hasPrefix b.data.toList a.data.toList && decide (a.size < b.size) && (Lib.countByte (b.extract a.size b.size).data.toList 47 == 1)
theorem Ss.get {w : World} {v : Value} {l : List ByteArray} (h : Ss w v l) : ∃ ao c, v = .slice ao l.length c ∧ l.length ≤ maxLen ∧ ∀ i (hi : i < l.length), ∃ b off, ao = some ⟨b, off, none⟩ ∧ l.length ≤ c ∧ c ≤ maxLen ∧ b < w.heap.size ∧ w.cell? ⟨b, off + i, none⟩ = some (.string l[i]) ∧ l[i].size ≤ maxLen := by
  obtain ⟨ao, c, rfl, hm, hc⟩ := h.1.shp
  refine ⟨ao, c, rfl, hm, fun i hi => ?_⟩
  obtain ⟨b, off, h1, h2, h3, h4, h5⟩ := hc (by omega)
  exact ⟨b, off, h1, h2, h3, h4, h5 i _ (by rw [List.getElem?_map, List.getElem?_eq_getElem hi]; rfl), h.2 _ (List.getElem_mem hi)⟩
end Mh
namespace Go.Proofs.YthkokpkiffbjnaaDoor
open Go.RowKit Mh
set_option linter.unusedVariables false
def addrB (s : ByteArray) : Bool := if s = slash then true else if h : 2 < s.size then (s[0] == 47) && (s[s.size - 1] == 47) && pathB (s.extract 1 (s.size - 1)).data.toList else false
set_option maxHeartbeats 4000000 in
theorem position_any (L : List ByteArray) (v : Value) (s : ByteArray) (w : World) (h : Ss w v L) : Calls Tryd.prog 18 #[v, .string s] w fun e w' => e = .returned (.int .i64 (posL L s)) ∧ w' = w := by
  obtain ⟨ao, c, rfl, hm, hat⟩ := h.get
  have HAT := Lib.hid hat
  unfold maxLen at hm
  clear hat h
  go_enter Tryd.func18, Tryd.ntmps18
  go_wp2_with fail
  go_loopw [9] (fun i wr => ∃ k : Nat, k ≤ L.length ∧ i = .int .i64 k ∧ Hid (∀ j (hj : j < L.length), j < k → L[j] ≠ s) ∧ w = wr) (fun i wr => L.length - (intOf i).toNat)
  case atStart => exact ⟨0, Nat.zero_le _, rfl, fun j hj h => by omega, rfl⟩
  case round =>
    obtain ⟨k, hk, rfl, HO, hw⟩ := hrel
    subst hw
    by_cases hkl : k < L.length
    · obtain ⟨b, off, rfl, h1, h2, h3, h4, h5⟩ := HAT.out k hkl
      unfold maxLen at h2 h5
      by_cases e : L[k] = s
      · have hq : (s.toList == L[k].toList) = true := by rw [eqB]; exact decide_eq_true e.symm
        have HR : Hid (posL L s = k) := posL_at hkl e HO.out
        clear e
        go_wp2_with fail
        go_ret
        exact ⟨by rw [HR.out]; rfl, rfl⟩
      · have hq : (s.toList == L[k].toList) = false := by rw [eqB]; exact decide_eq_false fun x => e x.symm
        have HE := Lib.hid e
        clear e
        go_wp2_with fail
        go_roundw
        case rel => exact ⟨k + 1, by omega, by go_num, fun j hj h => (by by_cases q : j = k; · subst q; exact HE.out
                                                                         · exact HO.out j hj (by omega)), by first | rfl | trivial⟩
        case measure => simp [intOf]; omega
    · have HR : Hid (posL L s = -1) := posL_none fun j hj => HO.out j hj (by omega)
      go_wp2_with fail
      go_ret
      exact ⟨by rw [HR.out]; rfl, rfl⟩
set_option maxHeartbeats 4000000 in
theorem rootOf_any (L : List ByteArray) (v : Value) (s : ByteArray) (w : World) (h : Ss w v L) (hL : 0 < L.length) (hs : s.size ≤ 100) : Calls Tryd.prog 20 #[v, .string s] w fun e w' => e = .returned (.string (rootL L s)) ∧ w' = w := by
  obtain ⟨ao, c, rfl, hm, hat⟩ := h.get
  obtain ⟨b, off, rfl, h1, h2, h3, h4, h5⟩ := hat 0 hL
  rw [Nat.add_zero] at h4
  have h0 : L[0]? = some L[0] := List.getElem?_eq_getElem hL
  unfold maxLen at hm h2 h5
  clear hat h
  by_cases e : L[0] = s
  · have hq : (s.toList == L[0].toList) = true := by rw [eqB]; exact decide_eq_true e.symm
    have HR : Hid (rootL L s = ⟨#[47]⟩) := by show _ = _; unfold rootL; rw [h0, if_pos (by rw [e])]; rfl
    clear e h0
    go_enter Tryd.func20, Tryd.ntmps20
    go_wp2_with fail
    go_ret
    exact ⟨by rw [HR.out]; rfl, rfl⟩
  · have hq : (s.toList == L[0].toList) = false := by rw [eqB]; exact decide_eq_false fun x => e x.symm
    have HR : Hid (rootL L s = ⟨#[47]⟩ ++ s ++ ⟨#[47]⟩) := by show _ = _; unfold rootL; rw [h0, if_neg (fun x => e (by simpa using x))]; rfl
    clear e h0
    go_enter Tryd.func20, Tryd.ntmps20
    go_wp2_with fail
    go_ret
    exact ⟨by rw [HR.out]; rfl, rfl⟩
set_option maxHeartbeats 4000000 in
theorem cutLast_any (s : ByteArray) (w : World) (hs : s.size ≤ 1099511627776) : Calls Tryd.prog 23 #[.string s] w fun e w' => e = .returned (.tuple #[.string (dirL s), .string (lastL s)]) ∧ ∃ q, w' = w.drewN q := by
  have HC := Lib.hid (Tryd.strings_LastIndexByte s 47 (by omega) w)
  have hsp : Lib.lastIndexByte s 47 = -1 ∨ ∃ i : Nat, i < s.size ∧ Lib.lastIndexByte s 47 = i := by
    rcases Lib.lastIdx_spec s 47 s.size with ⟨h, _⟩ | ⟨i, h, h2, _⟩
    · exact .inl h
    · exact .inr ⟨i, h, by unfold Lib.lastIndexByte; exact h2⟩
  rcases hsp with h | ⟨i, hi, h⟩
  · rw [h] at HC
    have HD : Hid (dirL s = ⟨#[]⟩ ∧ lastL s = s) := by unfold dirL lastL; rw [h, if_pos (by decide), if_pos (by decide)]; exact ⟨rfl, rfl⟩
    clear h
    go_enter Tryd.func23, Tryd.ntmps23
    go_wp2_with fail
    refine HC.out.mono ?_
    rintro e w' ⟨rfl, rfl⟩
    go_wp2_with fail
    refine bodyPost_ret (v := .tuple #[.string ⟨#[]⟩, .string s]) (by simp [results, Tryd.results23, go_sem]) rfl ⟨by rw [HD.out.1, HD.out.2], 0, rfl⟩
  · rw [h] at HC
    have HD : Hid (dirL s = s.extract 0 i ∧ lastL s = s.extract (i + 1) s.size) := by unfold dirL lastL; rw [h, if_neg (by omega), if_neg (by omega)]; exact ⟨rfl, rfl⟩
    clear h
    have h1 : (i : Int) ≤ s.size := by omega
    have h2 : (i : Int) + 1 ≤ s.size := by omega
    go_enter Tryd.func23, Tryd.ntmps23
    go_wp2_with fail
    refine HC.out.mono ?_
    rintro e w' ⟨rfl, rfl⟩
    go_upto_region 4 with fail
    go_quiet (fail)
    go_wp2_with fail
    refine bodyPost_ret (v := .tuple #[.string (s.extract 0 i), .string (s.extract (i + 1) s.size)]) (by simp [results, Tryd.results23, go_sem]) rfl ⟨by rw [HD.out.1, HD.out.2], _, rfl⟩
theorem u8_47 (x : UInt8) : ((x.toNat : Int) == 47) = (x == 47) := by
  by_cases h : x = 47
  · subst h; rfl
  · rw [beq_eq_false_iff_ne.2 h, beq_eq_false_iff_ne]
    intro e
    have e2 : x.toNat = (47 : UInt8).toNat := by show _ = 47; omega
    exact h (UInt8.toNat_inj.1 e2)
set_option maxHeartbeats 4000000 in
theorem isAddress_any (s : ByteArray) (w : World) (hs : s.size ≤ maxLen) (hml : ML 0 w) : Calls Tryd.prog 19 #[.string s] w fun e w' => e = .returned (.bool (addrB s)) ∧ Below w.heap.size w w' := by
  have hs' : s.size ≤ 9223372036854775807 := hs
  by_cases e : s = slash
  · have hq : (s.toList == [47]) = true := by rw [eqC]; exact decide_eq_true e
    have HR : Hid (addrB s = true) := by show _ = _; unfold addrB; rw [if_pos e]
    clear e
    go_enter Tryd.func19, Tryd.ntmps19
    go_wp2_with fail
    go_ret
    exact ⟨by rw [HR.out]; rfl, Below.refl _ _⟩
  have hq : (s.toList == [47]) = false := by rw [eqC]; exact decide_eq_false e
  rcases Nat.lt_or_ge 2 s.size with h2 | h2
  rotate_left
  · have HR : Hid (addrB s = false) := by show _ = _; unfold addrB; rw [if_neg e, dif_neg (by omega)]
    have hd : decide ((2 : Int) < s.size) = false := decide_eq_false (by omega)
    have hd2 : ¬ (2 : Int) < s.size := by omega
    clear e h2
    go_enter Tryd.func19, Tryd.ntmps19
    go_wp2_with fail
    go_ret
    exact ⟨by rw [HR.out]; rfl, Below.refl _ _⟩
  have hd : decide ((2 : Int) < s.size) = true := decide_eq_true (by omega)
  have h0 : 0 < s.size := by omega
  obtain ⟨n, hn⟩ : ∃ n, s.size = n + 1 := ⟨s.size - 1, by omega⟩
  have hnn : (s.size : Int) - 1 = n := by omega
  have hnl : n < s.size := by omega
  have hn1 : (1 : Int) ≤ (n : Int) := by omega
  have hn2 : (n : Int) ≤ s.size := by omega
  have HR : Hid (addrB s = ((s[0] == 47) && (s[n] == 47) && pathB (s.extract 1 n).data.toList)) := by
    show _ = _
    unfold addrB
    rw [if_neg e, dif_pos h2]
    have : s.size - 1 = n := by omega
    simp only [this]
  have HP := Lib.hid (tpath_any (s.extract 1 n) w (by rw [ByteArray.size_extract]; unfold maxLen; omega) hml)
  generalize pathB (s.extract 1 n).data.toList = pb at HP HR
  have h47 := u8_47 s[0]
  have h47n := u8_47 s[n]
  clear hn hs hml
  cases c0 : (s[0] == 47) with
  | false =>
    rw [c0] at HR h47
    clear e h2 c0
    go_enter Tryd.func19, Tryd.ntmps19
    go_wp2_with fail
    go_ret
    exact ⟨by rw [HR.out]; rfl, Below.refl _ _⟩
  | true =>
    cases cn : (s[n] == 47) with
    | false =>
      rw [c0, cn] at HR
      rw [c0] at h47
      rw [cn] at h47n
      clear e h2 c0 cn
      go_enter Tryd.func19, Tryd.ntmps19
      go_wp2_with fail
      go_ret
      exact ⟨by rw [HR.out]; rfl, Below.refl _ _⟩
    | true =>
      rw [c0, cn] at HR
      rw [c0] at h47
      rw [cn] at h47n
      clear e h2 c0 cn
      go_enter Tryd.func19, Tryd.ntmps19
      go_wp2_with fail
      refine HP.out.mono ?_
      rintro e w2 ⟨rfl, hb⟩
      go_wp2_with fail
      go_ret
      exact ⟨by rw [HR.out]; cases pb <;> rfl, hb⟩
set_option maxHeartbeats 4000000 in
theorem oneMore_any (a b : ByteArray) (w : World) (ha : a.size ≤ 1099511627776) (hb : b.size ≤ 1099511627776) : Calls Tryd.prog 24 #[.string a, .string b] w fun e w' => e = .returned (.bool (oneMoreB a b)) ∧ w' = w := by
  have HP := Lib.hid (Tryd.strings_HasPrefix b a w)
  have HC := Lib.hid (Tryd.strings_Count_one (b.extract a.size b.size) 47 w)
  have HR : Hid (oneMoreB a b = (Lib.hasPrefix b.data.toList a.data.toList && decide (a.size < b.size) && (Lib.countByte (b.extract a.size b.size).data.toList 47 == 1))) := rfl
  cases c0 : Lib.hasPrefix b.data.toList a.data.toList with
  | false =>
    rw [c0] at HR HP
    clear c0
    go_enter Tryd.func24, Tryd.ntmps24
    go_wp2_with fail
    refine HP.out.mono ?_
    rintro e w2 ⟨rfl, rfl⟩
    go_wp2_with fail
    go_ret
    exact ⟨by rw [HR.out]; rfl, rfl⟩
  | true =>
    rw [c0] at HR HP
    clear c0
    by_cases hl : a.size < b.size
    · rw [decide_eq_true hl] at HR
      have hd : decide ((a.size : Int) < b.size) = true := decide_eq_true (by omega)
      have hle : (a.size : Int) ≤ b.size := by omega
      generalize hcn : Lib.countByte (b.extract a.size b.size).data.toList 47 = cn at *
      clear hcn
      by_cases h1 : cn = 1
      · subst h1
        go_enter Tryd.func24, Tryd.ntmps24
        go_wp2_with fail
        refine HP.out.mono ?_
        rintro e w2 ⟨rfl, rfl⟩
        go_wp2_with fail
        refine HC.out.mono ?_
        rintro e w3 ⟨rfl, rfl⟩
        go_wp2_with fail
        go_ret
        exact ⟨by rw [HR.out]; rfl, rfl⟩
      · have hq : ((cn : Int) == 1) = false := by rw [beq_eq_false_iff_ne]; omega
        have hq2 : (cn == 1) = false := by rw [beq_eq_false_iff_ne]; exact h1
        rw [hq2] at HR
        clear hq2 h1
        go_enter Tryd.func24, Tryd.ntmps24
        go_wp2_with fail
        refine HP.out.mono ?_
        rintro e w2 ⟨rfl, rfl⟩
        go_wp2_with fail
        refine HC.out.mono ?_
        rintro e w3 ⟨rfl, rfl⟩
        go_wp2_with fail
        go_ret
        exact ⟨by rw [HR.out]; rfl, rfl⟩
    · rw [decide_eq_false hl] at HR
      have hd : decide ((a.size : Int) < b.size) = false := decide_eq_false (by omega)
      have hd2 : ¬ (a.size : Int) < b.size := by omega
      clear hl
      go_enter Tryd.func24, Tryd.ntmps24
      go_wp2_with fail
      refine HP.out.mono ?_
      rintro e w2 ⟨rfl, rfl⟩
      go_wp2_with fail
      go_ret
      exact ⟨by rw [HR.out]; rfl, rfl⟩
end Go.Proofs.YthkokpkiffbjnaaDoor
