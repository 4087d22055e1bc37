/- lang.isWordOf, wayForm, pieceForm. Conditions: strings' sizes. -/
import Derived.Test.YtdolpehcfifecaaDoorMci
import Derived.Test.YtdolpehcfifecaaDoorMgX
import Derived.Deep.Cut
namespace Mh
open Go Go.RowKit
set_option linter.unusedVariables false
theorem mall_at' (s : ByteArray) (f : UInt8 → Bool) : s.data.toList.all f = true ↔ ∀ j, ∀ h : j < s.size, f s[j] = true := by
  rw [List.all_eq_true]
  constructor
  · intro h j hj
    have e : s.data.toList[j]? = some s[j] := by
      rw [List.getElem?_eq_getElem (by simpa using hj)]; congr 1
    exact h _ (List.mem_of_getElem? e)
  · intro h x hx
    obtain ⟨i, hi, rfl⟩ := List.mem_iff_getElem.1 hx
    have := h i (by simpa using hi)
    simpa [ByteArray.getElem_eq_getElem_data] using this
theorem empty_iff (s : ByteArray) : s.toList.isEmpty = decide (s.size = 0) := by
  rw [ByteArray.toList_eq]
  have h : s.data.toList.length = s.size := by simp
  cases hc : s.data.toList with
  | nil => rw [hc] at h; simp at h; simp [← h]
  | cons a l => rw [hc] at h; simp at h; simp [← h]
theorem waysFm_cons (k : Int) (w : Wy) (l : List Wy) : waysFm k (w :: l) = (wayFm k w (decide (l = [])) && waysFm k l) := by
  cases l with
  | nil => simp [waysFm]
  | cons y l => simp [waysFm]
end Mh
namespace Go.Proofs.YtdolpehcfifecaaDoor
open Go.RowKit Mh
set_option linter.unusedVariables false
set_option maxHeartbeats 4000000 in
theorem gisWordOf_any (s : ByteArray) (w : World) (hs : s.size ≤ maxLen) : Calls Tryd.prog 65 #[.string s] w fun e w' => e = .returned (.bool (wordOf s)) ∧ w = w' := by
  unfold maxLen at hs
  have HAL := Lib.hid (mall_at' s mwordB)
  have HN : Hid (wordOf s = (s.data.toList.all mwordB && decide (s.size ≠ 0) && decide (s ≠ otherW))) := rfl
  obtain ⟨R, hR⟩ : ∃ R, R = wordOf s := ⟨_, rfl⟩
  rw [← hR] at HN ⊢
  clear hR
  go_enter Tryd.func65, Tryd.ntmps65
  go_wp2_with fail
  go_loop [3] (fun i => ∃ k : Nat, k ≤ s.size ∧ i = .int .i64 k ∧ Hid (∀ j (h : j < s.size), j < k → mwordB s[j] = true)) (fun i => s.size - (intOf i).toNat)
  case atStart => exact ⟨0, Nat.zero_le _, rfl, fun j h hj => by omega⟩
  case round =>
    obtain ⟨k, hk, rfl, HA⟩ := hrel
    by_cases hlt : k < s.size
    · have HC := Lib.hid (fun w' => mword_any s[k] w')
      cases hb : mwordB s[k] with
      | true =>
        rw [hb] at HC
        have HST : Hid (∀ j (h : j < s.size), j < k + 1 → mwordB s[j] = true) := by
          intro j h hj
          by_cases e : j = k
          · subst e; exact hb
          · exact HA.out j h (by omega)
        clear hb
        go_wp2_with (go_at_call 59; refine (HC.out _).mono ?_; rintro e w' ⟨rfl, rfl⟩)
        go_round
        case rel => exact ⟨k + 1, by omega, by go_num, HST⟩
        case measure => simp [intOf]; omega
      | false =>
        rw [hb] at HC
        have HR : Hid (R = false) := by
          show _ = _
          rw [HN.out, show s.data.toList.all mwordB = false from Bool.eq_false_iff.2 (fun hall => by have := HAL.out.1 hall k hlt; rw [hb] at this; cases this)]
          rfl
        clear hb
        go_wp2_with (go_at_call 59; refine (HC.out _).mono ?_; rintro e w' ⟨rfl, rfl⟩)
        go_ret
        exact ⟨by rw [HR.out]; rfl, rfl⟩
    · have hall : s.data.toList.all mwordB = true := HAL.out.2 (fun j h => HA.out j h (by omega))
      have HN2 : Hid (R = (decide (s.size ≠ 0) && decide (s ≠ otherW))) := by show _ = _; rw [HN.out, hall, Bool.true_and]
      clear hall HN
      have he := empty_iff s
      by_cases h0 : s.size = 0
      · rw [decide_eq_true h0] at he
        have HR : Hid (R = false) := by show _ = _; rw [HN2.out, decide_eq_false (fun h => h h0)]; rfl
        clear h0
        go_wp2_with fail
        go_ret
        exact ⟨by rw [HR.out]; rfl, rfl⟩
      · rw [decide_eq_false h0] at he
        have HN3 : Hid (R = decide (s ≠ otherW)) := by show _ = _; rw [HN2.out, decide_eq_true h0]; rfl
        clear HN2 h0
        by_cases ho : s = otherW
        · have HR : Hid (R = false) := by show _ = _; rw [HN3.out]; exact decide_eq_false (fun h => h ho)
          have q : (s.toList == [111, 116, 104, 101, 114]) = true := by rw [beq_iff_eq, ByteArray.toList_eq, ho]; rfl
          clear ho
          go_wp2_with fail
          go_ret
          exact ⟨by rw [HR.out]; rfl, rfl⟩
        · have HR : Hid (R = true) := by show _ = _; rw [HN3.out]; exact decide_eq_true ho
          have q : (s.toList == [111, 116, 104, 101, 114]) = false := by
            rw [beq_eq_false_iff_ne, ByteArray.toList_eq]
            intro e
            apply ho
            have : s = ⟨s.data.toList.toArray⟩ := by simp
            rw [this, e]; rfl
          clear ho
          go_wp2_with fail
          go_ret
          exact ⟨by rw [HR.out]; rfl, rfl⟩
set_option maxRecDepth 100000 in
set_option maxHeartbeats 4000000 in
theorem gwayForm_any (kd : Int) (wd : ByteArray) (ex fm : Int) (a : Option Addr) (n c : Nat) (last : Bool) (w : World) (hs : wd.size ≤ maxLen) :
    Calls Tryd.prog 57 #[.int .i64 kd, .agg #[.string wd, .int .i64 ex, .int .i64 fm, .slice a n c], .bool last] w fun e w' => e = .returned (.bool (wayFm kd (.mk wd ex fm []) last)) ∧ Below w.heap.size w w' := by
  have HO := Lib.hid (fun w => gother_any kd (.mk wd ex fm []) (.slice a n c) w ⟨_, _, _, rfl⟩)
  have HW := Lib.hid (fun w => gisWordOf_any wd w hs)
  change Hid (∀ w, Calls Tryd.prog 53 #[.int .i64 kd, .agg #[.string wd, .int .i64 ex, .int .i64 fm, .slice a n c]] w fun e w' => e = .returned (.bool (isOther kd (.mk wd ex fm []))) ∧ Below w.heap.size w w') at HO
  have HR : Hid (wayFm kd (.mk wd ex fm []) last = (decide (isOther kd (.mk wd ex fm []) = last) && (if kd = 2 then decide (ex = 0) && decide (fm = 0) && (last || wordOf wd) else decide (wd.size = 0) && decide (-1 ≤ fm) && decide (fm ≤ 7) && (decide (fm = -1) || decide (ex = 0))))) := rfl
  generalize isOther kd (.mk wd ex fm []) = o at HO HR
  obtain ⟨R, hR⟩ : ∃ R, R = wayFm kd (.mk wd ex fm []) last := ⟨_, rfl⟩
  rw [← hR] at HR ⊢
  clear hR
  have HB : Hid (Below w.heap.size w (w.alloc (.cells #[.string wd, .int .i64 ex, .int .i64 fm, .slice a n c] 73))) := (Below.refl _ w).alloc (Nat.le_refl _) _
  have he := empty_iff wd
  by_cases hl : o = last
  · subst hl
    have q0 : (o != o) = false := by cases o <;> rfl
    rw [decide_eq_true rfl, Bool.true_and] at HR
    by_cases hk : kd = 2
    · have qk : (kd == 2) = true := by rw [beq_iff_eq]; exact hk
      rw [if_pos hk] at HR
      clear hk he
      by_cases hx : ex = 0
      · have qx : (ex == 0) = true := by rw [beq_iff_eq]; exact hx
        rw [decide_eq_true hx, Bool.true_and] at HR
        clear hx
        by_cases hf : fm = 0
        · have qf : (fm == 0) = true := by rw [beq_iff_eq]; exact hf
          rw [decide_eq_true hf, Bool.true_and] at HR
          clear hf
          cases o with
          | true =>
            have HF : Hid (R = true) := by show _ = _; rw [HR.out]; rfl
            clear HR
            go_enter Tryd.func57, Tryd.ntmps57
            go_wp2_with (first | (go_at_call 53; refine (HO.out _).mono ?_; rintro e w2 ⟨rfl, hb2⟩; have HB2 : Hid (Below w.heap.size w w2) := HB.out.trans (hb2.mono HB.out.size); obtain ⟨z0, z1, z2, z3, z4⟩ := four_of_block ((hb2.block w.heap.size (by simp)).trans (heap_alloc_new _ _)); clear hb2) | (go_at_call 65; refine (HW.out _).mono ?_; rintro e w3 ⟨rfl, rfl⟩))
            go_ret
            exact ⟨by rw [HF.out]; rfl, HB2.out⟩
          | false =>
            have HF : Hid (R = wordOf wd) := by show _ = _; rw [HR.out]; rfl
            clear HR
            go_enter Tryd.func57, Tryd.ntmps57
            go_wp2_with (first | (go_at_call 53; refine (HO.out _).mono ?_; rintro e w2 ⟨rfl, hb2⟩; have HB2 : Hid (Below w.heap.size w w2) := HB.out.trans (hb2.mono HB.out.size); obtain ⟨z0, z1, z2, z3, z4⟩ := four_of_block ((hb2.block w.heap.size (by simp)).trans (heap_alloc_new _ _)); clear hb2) | (go_at_call 65; refine (HW.out _).mono ?_; rintro e w3 ⟨rfl, rfl⟩))
            go_ret
            exact ⟨by rw [HF.out]; rfl, HB2.out⟩
        · have qf : (fm == 0) = false := by rw [beq_eq_false_iff_ne]; exact hf
          have HF : Hid (R = false) := by show _ = _; rw [HR.out, decide_eq_false hf]; rfl
          clear HR hf
          cases o
          all_goals
            go_enter Tryd.func57, Tryd.ntmps57
            go_wp2_with (first | (go_at_call 53; refine (HO.out _).mono ?_; rintro e w2 ⟨rfl, hb2⟩; have HB2 : Hid (Below w.heap.size w w2) := HB.out.trans (hb2.mono HB.out.size); obtain ⟨z0, z1, z2, z3, z4⟩ := four_of_block ((hb2.block w.heap.size (by simp)).trans (heap_alloc_new _ _)); clear hb2) | (go_at_call 65; refine (HW.out _).mono ?_; rintro e w3 ⟨rfl, rfl⟩))
            go_ret
            exact ⟨by rw [HF.out]; rfl, HB2.out⟩
      · have qx : (ex == 0) = false := by rw [beq_eq_false_iff_ne]; exact hx
        have HF : Hid (R = false) := by show _ = _; rw [HR.out, decide_eq_false hx]; rfl
        clear HR hx
        cases o
        all_goals
          go_enter Tryd.func57, Tryd.ntmps57
          go_wp2_with (first | (go_at_call 53; refine (HO.out _).mono ?_; rintro e w2 ⟨rfl, hb2⟩; have HB2 : Hid (Below w.heap.size w w2) := HB.out.trans (hb2.mono HB.out.size); obtain ⟨z0, z1, z2, z3, z4⟩ := four_of_block ((hb2.block w.heap.size (by simp)).trans (heap_alloc_new _ _)); clear hb2) | (go_at_call 65; refine (HW.out _).mono ?_; rintro e w3 ⟨rfl, rfl⟩))
          go_ret
          exact ⟨by rw [HF.out]; rfl, HB2.out⟩
    · have qk : (kd == 2) = false := by rw [beq_eq_false_iff_ne]; exact hk
      rw [if_neg hk] at HR
      clear hk
      by_cases hw : wd.size = 0
      · rw [decide_eq_true hw] at HR he
        rw [Bool.true_and] at HR
        clear hw
        by_cases h1 : -1 ≤ fm
        · have q1 : decide ((-1 : Int) ≤ fm) = true := decide_eq_true h1
          rw [q1, Bool.true_and] at HR
          by_cases h7 : fm ≤ 7
          · have q7 : decide (fm ≤ 7) = true := decide_eq_true h7
            rw [q7, Bool.true_and] at HR
            by_cases hm : fm = -1
            · have qm : (fm == -1) = true := by rw [beq_iff_eq]; exact hm
              have HF : Hid (R = true) := by show _ = _; rw [HR.out, decide_eq_true hm]; rfl
              clear HR hm h1 h7
              go_enter Tryd.func57, Tryd.ntmps57
              go_wp2_with (first | (go_at_call 53; refine (HO.out _).mono ?_; rintro e w2 ⟨rfl, hb2⟩; have HB2 : Hid (Below w.heap.size w w2) := HB.out.trans (hb2.mono HB.out.size); obtain ⟨z0, z1, z2, z3, z4⟩ := four_of_block ((hb2.block w.heap.size (by simp)).trans (heap_alloc_new _ _)); clear hb2) | (go_at_call 65; refine (HW.out _).mono ?_; rintro e w3 ⟨rfl, rfl⟩))
              go_ret
              exact ⟨by rw [HF.out]; rfl, HB2.out⟩
            · have qm : (fm == -1) = false := by rw [beq_eq_false_iff_ne]; exact hm
              rw [decide_eq_false hm, Bool.false_or] at HR
              have HF : Hid (R = (ex == 0)) := by show _ = _; rw [HR.out, Bool.eq_iff_iff]; simp
              clear HR hm h1 h7
              go_enter Tryd.func57, Tryd.ntmps57
              go_wp2_with (first | (go_at_call 53; refine (HO.out _).mono ?_; rintro e w2 ⟨rfl, hb2⟩; have HB2 : Hid (Below w.heap.size w w2) := HB.out.trans (hb2.mono HB.out.size); obtain ⟨z0, z1, z2, z3, z4⟩ := four_of_block ((hb2.block w.heap.size (by simp)).trans (heap_alloc_new _ _)); clear hb2) | (go_at_call 65; refine (HW.out _).mono ?_; rintro e w3 ⟨rfl, rfl⟩))
              go_ret
              exact ⟨by rw [HF.out]; rfl, HB2.out⟩
          · have q7 : decide (fm ≤ 7) = false := decide_eq_false h7
            have HF : Hid (R = false) := by show _ = _; rw [HR.out, q7]; rfl
            clear HR h1 h7
            go_enter Tryd.func57, Tryd.ntmps57
            go_wp2_with (first | (go_at_call 53; refine (HO.out _).mono ?_; rintro e w2 ⟨rfl, hb2⟩; have HB2 : Hid (Below w.heap.size w w2) := HB.out.trans (hb2.mono HB.out.size); obtain ⟨z0, z1, z2, z3, z4⟩ := four_of_block ((hb2.block w.heap.size (by simp)).trans (heap_alloc_new _ _)); clear hb2) | (go_at_call 65; refine (HW.out _).mono ?_; rintro e w3 ⟨rfl, rfl⟩))
            go_ret
            exact ⟨by rw [HF.out]; rfl, HB2.out⟩
        · have q1 : decide ((-1 : Int) ≤ fm) = false := decide_eq_false h1
          have HF : Hid (R = false) := by show _ = _; rw [HR.out, q1]; rfl
          clear HR h1
          go_enter Tryd.func57, Tryd.ntmps57
          go_wp2_with (first | (go_at_call 53; refine (HO.out _).mono ?_; rintro e w2 ⟨rfl, hb2⟩; have HB2 : Hid (Below w.heap.size w w2) := HB.out.trans (hb2.mono HB.out.size); obtain ⟨z0, z1, z2, z3, z4⟩ := four_of_block ((hb2.block w.heap.size (by simp)).trans (heap_alloc_new _ _)); clear hb2) | (go_at_call 65; refine (HW.out _).mono ?_; rintro e w3 ⟨rfl, rfl⟩))
          go_ret
          exact ⟨by rw [HF.out]; rfl, HB2.out⟩
      · rw [decide_eq_false hw] at HR he
        have HF : Hid (R = false) := by show _ = _; rw [HR.out]; rfl
        clear HR hw
        go_enter Tryd.func57, Tryd.ntmps57
        go_wp2_with (first | (go_at_call 53; refine (HO.out _).mono ?_; rintro e w2 ⟨rfl, hb2⟩; have HB2 : Hid (Below w.heap.size w w2) := HB.out.trans (hb2.mono HB.out.size); obtain ⟨z0, z1, z2, z3, z4⟩ := four_of_block ((hb2.block w.heap.size (by simp)).trans (heap_alloc_new _ _)); clear hb2) | (go_at_call 65; refine (HW.out _).mono ?_; rintro e w3 ⟨rfl, rfl⟩))
        go_ret
        exact ⟨by rw [HF.out]; rfl, HB2.out⟩
  · have HF : Hid (R = false) := by show _ = _; rw [HR.out, decide_eq_false hl]; rfl
    clear HR he
    cases o <;> cases last
    all_goals first
      | exact absurd rfl hl
      | (clear hl
         go_enter Tryd.func57, Tryd.ntmps57
         go_wp2_with (first | (go_at_call 53; refine (HO.out _).mono ?_; rintro e w2 ⟨rfl, hb2⟩; have HB2 : Hid (Below w.heap.size w w2) := HB.out.trans (hb2.mono HB.out.size); obtain ⟨z0, z1, z2, z3, z4⟩ := four_of_block ((hb2.block w.heap.size (by simp)).trans (heap_alloc_new _ _)); clear hb2) | (go_at_call 65; refine (HW.out _).mono ?_; rintro e w3 ⟨rfl, rfl⟩))
         go_ret
         exact ⟨by rw [HF.out]; rfl, HB2.out⟩)
theorem three_of_block {w : World} {g : Nat} {T : TypeId} {a b c : Value} (h : w.heap[g]? = some (.cells #[a, b, c] T (0, 0))) :
    w.cell? ⟨g, 0, none⟩ = some a ∧ w.cell? ⟨g, 1, none⟩ = some b ∧ w.cell? ⟨g, 2, none⟩ = some c ∧ ∀ j, w.frozen? ⟨g, j, none⟩ = false :=
  ⟨cellT h rfl, cellT h rfl, cellT h rfl, fun _ => frozenT h⟩
theorem gkey_any (s : ByteArray) (w : World) (hs : s.size ≤ maxLen) : Calls Tryd.prog 49 #[.string s] w fun e w' => e = .returned (.bool (isKeyL s.data.toList)) ∧ w = w' := misKey_any s w hs
set_option maxRecDepth 100000 in
set_option maxHeartbeats 8000000 in
theorem gpieceForm_any (kd : Int) (tx : ByteArray) (ws : List Wy) (xa : Option Addr) (xc : Nat) (cnt : Bool) (W0 w : World) (hb0 : Below W0.heap.size W0 w) (hws : WsIn W0 (.slice xa ws.length xc) ws) (ht : tx.size ≤ maxLen) :
    Calls Tryd.prog 45 #[.agg #[.int .i64 kd, .string tx, .slice xa ws.length xc], .bool cnt] w fun e w' => e = .returned (.bool (pieceFm cnt (.mk kd tx ws))) ∧ Below w.heap.size w w' := by
  have HR : Hid (pieceFm cnt (.mk kd tx ws) = if kd = 0 then decide (tx.size ≠ 0) && ws.isEmpty
    else if kd = 1 then isKeyL tx.data.toList && ws.isEmpty
    else if kd = 4 then cnt && decide (tx.size = 0) && ws.isEmpty
    else if kd = 2 ∨ kd = 3 then isKeyL tx.data.toList && !ws.isEmpty && !(decide (kd = 2) && decide (ws.length = 1)) && waysFm kd ws
    else false) := rfl
  obtain ⟨R, hR⟩ : ∃ R, R = pieceFm cnt (.mk kd tx ws) := ⟨_, rfl⟩
  rw [← hR] at HR ⊢
  clear hR
  have HKEY := Lib.hid (fun w => gkey_any tx w ht)
  have HB : Hid (Below w.heap.size w (w.alloc (.cells #[.int .i64 kd, .string tx, .slice xa ws.length xc] 66))) := (Below.refl _ w).alloc (Nat.le_refl _) _
  have he := empty_iff tx
  have hem : ((ws.length : Int) == 0) = ws.isEmpty := by cases ws with
    | nil => rfl
    | cons a l => simp; omega
  by_cases k0 : kd = 0
  · subst k0
    rw [if_pos rfl] at HR
    by_cases hz : tx.size = 0
    · rw [decide_eq_true hz] at he
      have HF : Hid (R = false) := by show _ = _; rw [HR.out, decide_eq_false (fun h => h hz)]; rfl
      clear HR hz hws hb0 ht hem
      go_enter Tryd.func45, Tryd.ntmps45
      go_wp2_with fail
      go_ret
      exact ⟨by rw [HF.out]; rfl, HB.out⟩
    · rw [decide_eq_false hz] at he
      have HF : Hid (R = ws.isEmpty) := by show _ = _; rw [HR.out, decide_eq_true hz]; rfl
      generalize ws.isEmpty = E at HF hem
      clear HR hz hws hb0 ht
      go_enter Tryd.func45, Tryd.ntmps45
      go_wp2_with fail
      go_ret
      exact ⟨by rw [HF.out]; rfl, HB.out⟩
  rw [if_neg k0] at HR
  have q0 : (kd == 0) = false := by rw [beq_eq_false_iff_ne]; exact k0
  by_cases k1 : kd = 1
  · subst k1
    rw [if_pos rfl] at HR
    obtain ⟨K, hK⟩ : ∃ K, K = isKeyL tx.data.toList := ⟨_, rfl⟩
    rw [← hK] at HR HKEY
    generalize ws.isEmpty = E at HR hem
    clear hK hws hb0 ht he q0 k0
    cases K with
    | false =>
      have HF : Hid (R = false) := HR
      go_enter Tryd.func45, Tryd.ntmps45
      go_wp2_with (go_at_call 49; refine (HKEY.out _).mono ?_; rintro e w3 ⟨rfl, rfl⟩)
      go_ret
      exact ⟨by rw [HF.out]; rfl, HB.out⟩
    | true =>
      have HF : Hid (R = E) := HR
      go_enter Tryd.func45, Tryd.ntmps45
      go_wp2_with (go_at_call 49; refine (HKEY.out _).mono ?_; rintro e w3 ⟨rfl, rfl⟩)
      go_ret
      exact ⟨by rw [HF.out]; rfl, HB.out⟩
  rw [if_neg k1] at HR
  have q1 : (kd == 1) = false := by rw [beq_eq_false_iff_ne]; exact k1
  by_cases k4 : kd = 4
  · subst k4
    rw [if_pos rfl] at HR
    generalize ws.isEmpty = E at HR hem
    clear hws hb0 ht q0 k0 q1 k1
    rw [← he] at HR
    obtain ⟨Z, hZ⟩ : ∃ Z, tx.toList.isEmpty = Z := ⟨_, rfl⟩
    rw [hZ] at HR
    clear he
    cases cnt with
    | false =>
      have HF : Hid (R = false) := by show _ = _; rw [HR.out]; rfl
      go_enter Tryd.func45, Tryd.ntmps45
      go_wp2_with fail
      go_ret
      exact ⟨by rw [HF.out]; rfl, HB.out⟩
    | true =>
      rw [Bool.true_and] at HR
      cases Z with
      | false =>
        have HF : Hid (R = false) := HR
        go_enter Tryd.func45, Tryd.ntmps45
        go_wp2_with fail
        go_ret
        exact ⟨by rw [HF.out]; rfl, HB.out⟩
      | true =>
        have HF : Hid (R = E) := HR
        go_enter Tryd.func45, Tryd.ntmps45
        go_wp2_with fail
        go_ret
        exact ⟨by rw [HF.out]; rfl, HB.out⟩
  rw [if_neg k4] at HR
  have q4 : (kd == 4) = false := by rw [beq_eq_false_iff_ne]; exact k4
  by_cases k23 : kd = 2 ∨ kd = 3
  · rw [if_pos k23] at HR
    obtain ⟨hwl, hwk⟩ := ws_item hws
    have HWK := Lib.hid hwk
    unfold maxLen at hwl
    have HB0 := Lib.hid hb0
    obtain ⟨K, hK⟩ : ∃ K, K = isKeyL tx.data.toList := ⟨_, rfl⟩
    rw [← hK] at HR HKEY
    have hbox : (w.alloc (.cells #[.int .i64 kd, .string tx, .slice xa ws.length xc] 66)).heap[w.heap.size]? = some (.cells #[.int .i64 kd, .string tx, .slice xa ws.length xc] 66 (0, 0)) := heap_alloc_new _ _
    have HBOX := Lib.hid hbox
    have hone : ((ws.length : Int) == 1) = decide (ws.length = 1) := by rw [Bool.eq_iff_iff]; simp; omega
    have q2 : (kd == 2) = decide (kd = 2) := by rw [Bool.eq_iff_iff]; simp
    have q3 : kd ≠ 2 → (kd == 3) = true := fun h => by rw [beq_iff_eq]; exact k23.resolve_left h
    obtain ⟨b2, hb2⟩ : ∃ b2, b2 = decide (kd = 2) := ⟨_, rfl⟩
    obtain ⟨b1, hb1⟩ : ∃ b1, b1 = decide (ws.length = 1) := ⟨_, rfl⟩
    obtain ⟨E, hE⟩ : ∃ E, E = ws.isEmpty := ⟨_, rfl⟩
    rw [← hb2] at HR q2
    rw [← hb1] at HR hone
    rw [← hE] at HR hem
    have hq3 : b2 = false → (kd == 3) = true := fun h => q3 (by rw [hb2] at h; exact of_decide_eq_false h)
    have HE0 : Hid (E = false → 1 ≤ ws.length) := fun h => by rw [hE] at h; cases ws with
      | nil => cases h
      | cons a l => simp
    clear hK hws hb0 ht he k0 k1 k4 k23 hwk hbox q3 hb2 hb1 hE
    cases K with
    | false =>
      have HF : Hid (R = false) := HR
      clear HR
      cases b2
      all_goals (try have hq3' := hq3 rfl); clear hq3
      all_goals
        go_enter Tryd.func45, Tryd.ntmps45
        go_wp2_with (go_at_call 49; refine (HKEY.out _).mono ?_; rintro e w3 ⟨rfl, rfl⟩)
        go_ret
        exact ⟨by rw [HF.out]; rfl, HB.out⟩
    | true =>
      rw [Bool.true_and] at HR
      cases E with
      | true =>
        have HF : Hid (R = false) := HR
        clear HR
        cases b2
        all_goals (try have hq3' := hq3 rfl); clear hq3
        all_goals
          go_enter Tryd.func45, Tryd.ntmps45
          go_wp2_with (go_at_call 49; refine (HKEY.out _).mono ?_; rintro e w3 ⟨rfl, rfl⟩)
          go_ret
          exact ⟨by rw [HF.out]; rfl, HB.out⟩
      | false =>
        have hl1 := HE0.out rfl
        rw [Bool.not_false, Bool.true_and] at HR
        have HLOOP : Hid ((b2 && b1) = false → R = waysFm kd (ws.drop 0)) := fun h => by rw [HR.out, h, List.drop_zero]; rfl
        have HF0 : Hid ((b2 && b1) = true → R = false) := fun h => by rw [HR.out, h]; rfl
        clear HR
        cases b2
        · have hq3' := hq3 rfl
          clear hq3
          have HI0 := Lib.hid (HLOOP.out rfl)
          clear HLOOP HF0 hone b1
          go_enter Tryd.func45, Tryd.ntmps45
          go_wp2_with (go_at_call 49; refine (HKEY.out _).mono ?_; rintro e w3 ⟨rfl, rfl⟩)
          go_loopw [72] (fun i wr => ∃ (j : Nat), j ≤ ws.length ∧ i = .int .i64 j ∧ Hid (R = waysFm kd (ws.drop j)) ∧ Hid (Below (w.heap.size + 1) (w.alloc (.cells #[.int .i64 kd, .string tx, .slice xa ws.length xc] 66)) wr)) (fun i _ => ws.length - (intOf i).toNat)
          case atStart => exact ⟨0, by omega, rfl, HI0, Below.refl _ _⟩
          case round =>
            clear HI0
            obtain ⟨j, hj, rfl, HJ, HB2⟩ := hrel
            have hz2 : w.heap.size + 1 ≤ wr.heap.size := by have := HB2.out.size; simp at this; exact this
            have HBW : Hid (Below w.heap.size w wr) := HB.out.trans (HB2.out.mono (Nat.le_succ _))
            by_cases hjl : j < ws.length
            · obtain ⟨wd, ex, fm, qs, b3, off2, ya, yc, rfl, hlt2, hdw, hsz2, hps, hwd, _, _, hcc2⟩ := HWK.out j hjl
              obtain ⟨d0, d1, d2, d3⟩ := hcc2.later (HB0.out.trans (HBW.out.mono HB0.out.size)) hlt2
              obtain ⟨g0, g1, g2, g3⟩ := three_of_block ((HB2.out.block w.heap.size (Nat.lt_succ_self _)).trans HBOX.out)
              have hJ := HJ.out
              rw [hdw, waysFm_cons] at hJ
              have hnil : decide (ws.drop (j + 1) = []) = decide (j + 1 = ws.length) := by
                rw [decide_eq_decide, List.drop_eq_nil_iff]; omega
              rw [hnil] at hJ
              obtain ⟨lb, hlb⟩ : ∃ lb, lb = decide (j + 1 = ws.length) := ⟨_, rfl⟩
              rw [← hlb] at hJ
              have hlast : ((j : Int) == (ws.length : Int) - 1) = lb := by rw [hlb, Bool.eq_iff_iff]; simp; omega
              have hfm : wayFm kd (.mk wd ex fm qs) lb = wayFm kd (.mk wd ex fm []) lb := rfl
              rw [hfm] at hJ
              have HCALL := Lib.hid (fun w => gwayForm_any kd wd ex fm ya qs.length yc lb w hwd)
              generalize wayFm kd (.mk wd ex fm []) lb = t at hJ HCALL
              have HBn := Lib.hid (HB2.out.alloc hz2 (.cells #[.string wd, .int .i64 ex, .int .i64 fm, .slice ya qs.length yc] 73))
              have HJ2 := Lib.hid hJ
              have hltW : w.heap.size < wr.heap.size := by omega
              have hne : wr.heap.size ≠ w.heap.size := by omega
              have hne2 : w.heap.size ≠ wr.heap.size := by omega
              clear hJ HJ hcc2 hps hlt2 hdw hsz2 hnil hlb hfm hwd
              go_wp2_with fail
              refine (HCALL.out _).mono ?_
              rintro e w2 ⟨rfl, hb2⟩
              have HB3 := Lib.hid (HBn.out.trans (hb2.mono (by simp; omega)))
              clear hb2
              cases t with
              | false =>
                have HF : Hid (R = false) := HJ2.out
                go_wp2_with fail
                go_ret
                exact ⟨by rw [HF.out]; rfl, HB.out.trans (HB3.out.mono (Nat.le_succ _))⟩
              | true =>
                have HJ3 : Hid (R = waysFm kd (ws.drop (j + 1))) := HJ2.out
                go_wp2_with fail
                go_roundw
                case rel => exact ⟨j + 1, by omega, by go_num, HJ3, HB3⟩
                case measure => simp [intOf]; omega
            · have HF : Hid (R = true) := by
                have := HJ.out
                rw [List.drop_eq_nil_of_le (by omega), waysFm] at this
                exact this
              go_wp2_with fail
              go_ret
              exact ⟨by rw [HF.out]; rfl, HBW.out⟩
        · clear hq3
          cases b1
          · have HI0 := Lib.hid (HLOOP.out rfl)
            clear HLOOP HF0
            go_enter Tryd.func45, Tryd.ntmps45
            go_wp2_with (go_at_call 49; refine (HKEY.out _).mono ?_; rintro e w3 ⟨rfl, rfl⟩)
            go_loopw [72] (fun i wr => ∃ (j : Nat), j ≤ ws.length ∧ i = .int .i64 j ∧ Hid (R = waysFm kd (ws.drop j)) ∧ Hid (Below (w.heap.size + 1) (w.alloc (.cells #[.int .i64 kd, .string tx, .slice xa ws.length xc] 66)) wr)) (fun i _ => ws.length - (intOf i).toNat)
            case atStart => exact ⟨0, by omega, rfl, HI0, Below.refl _ _⟩
            case round =>
              clear HI0
              obtain ⟨j, hj, rfl, HJ, HB2⟩ := hrel
              have hz2 : w.heap.size + 1 ≤ wr.heap.size := by have := HB2.out.size; simp at this; exact this
              have HBW : Hid (Below w.heap.size w wr) := HB.out.trans (HB2.out.mono (Nat.le_succ _))
              by_cases hjl : j < ws.length
              · obtain ⟨wd, ex, fm, qs, b3, off2, ya, yc, rfl, hlt2, hdw, hsz2, hps, hwd, _, _, hcc2⟩ := HWK.out j hjl
                obtain ⟨d0, d1, d2, d3⟩ := hcc2.later (HB0.out.trans (HBW.out.mono HB0.out.size)) hlt2
                obtain ⟨g0, g1, g2, g3⟩ := three_of_block ((HB2.out.block w.heap.size (Nat.lt_succ_self _)).trans HBOX.out)
                have hJ := HJ.out
                rw [hdw, waysFm_cons] at hJ
                have hnil : decide (ws.drop (j + 1) = []) = decide (j + 1 = ws.length) := by
                  rw [decide_eq_decide, List.drop_eq_nil_iff]; omega
                rw [hnil] at hJ
                obtain ⟨lb, hlb⟩ : ∃ lb, lb = decide (j + 1 = ws.length) := ⟨_, rfl⟩
                rw [← hlb] at hJ
                have hlast : ((j : Int) == (ws.length : Int) - 1) = lb := by rw [hlb, Bool.eq_iff_iff]; simp; omega
                have hfm : wayFm kd (.mk wd ex fm qs) lb = wayFm kd (.mk wd ex fm []) lb := rfl
                rw [hfm] at hJ
                have HCALL := Lib.hid (fun w => gwayForm_any kd wd ex fm ya qs.length yc lb w hwd)
                generalize wayFm kd (.mk wd ex fm []) lb = t at hJ HCALL
                have HBn := Lib.hid (HB2.out.alloc hz2 (.cells #[.string wd, .int .i64 ex, .int .i64 fm, .slice ya qs.length yc] 73))
                have HJ2 := Lib.hid hJ
                have hltW : w.heap.size < wr.heap.size := by omega
                have hne : wr.heap.size ≠ w.heap.size := by omega
                have hne2 : w.heap.size ≠ wr.heap.size := by omega
                clear hJ HJ hcc2 hps hlt2 hdw hsz2 hnil hlb hfm hwd
                go_wp2_with fail
                refine (HCALL.out _).mono ?_
                rintro e w2 ⟨rfl, hb2⟩
                have HB3 := Lib.hid (HBn.out.trans (hb2.mono (by simp; omega)))
                clear hb2
                cases t with
                | false =>
                  have HF : Hid (R = false) := HJ2.out
                  go_wp2_with fail
                  go_ret
                  exact ⟨by rw [HF.out]; rfl, HB.out.trans (HB3.out.mono (Nat.le_succ _))⟩
                | true =>
                  have HJ3 : Hid (R = waysFm kd (ws.drop (j + 1))) := HJ2.out
                  go_wp2_with fail
                  go_roundw
                  case rel => exact ⟨j + 1, by omega, by go_num, HJ3, HB3⟩
                  case measure => simp [intOf]; omega
              · have HF : Hid (R = true) := by
                  have := HJ.out
                  rw [List.drop_eq_nil_of_le (by omega), waysFm] at this
                  exact this
                go_wp2_with fail
                go_ret
                exact ⟨by rw [HF.out]; rfl, HBW.out⟩
          · have HF : Hid (R = false) := HF0.out rfl
            go_enter Tryd.func45, Tryd.ntmps45
            go_wp2_with (go_at_call 49; refine (HKEY.out _).mono ?_; rintro e w3 ⟨rfl, rfl⟩)
            go_ret
            exact ⟨by rw [HF.out]; rfl, HB.out⟩
  · have HF : Hid (R = false) := by show _ = _; rw [HR.out, if_neg k23]
    have q2 : (kd == 2) = false := by rw [beq_eq_false_iff_ne]; exact fun h => k23 (.inl h)
    have q3 : (kd == 3) = false := by rw [beq_eq_false_iff_ne]; exact fun h => k23 (.inr h)
    clear HR k23 hws hb0 ht hem he k0 k1 k4
    go_enter Tryd.func45, Tryd.ntmps45
    go_wp2_with fail
    go_ret
    exact ⟨by rw [HF.out]; rfl, HB.out⟩
end Go.Proofs.YtdolpehcfifecaaDoor
