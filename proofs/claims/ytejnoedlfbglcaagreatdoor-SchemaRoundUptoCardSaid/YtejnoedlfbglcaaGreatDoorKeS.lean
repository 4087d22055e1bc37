/- conf.steps: the steps of a route. Conditions: the cell of MaxLen. -/
import Derived.Test.YtejnoedlfbglcaaGreatDoorKeK
import Derived.Test.YtejnoedlfbglcaaGreatDoorKeP6
import Derived.Test.YtejnoedlfbglcaaGreatDoorApSl
namespace Go.Proofs.YtejnoedlfbglcaaGreatDoor
open Go.RowKit Mh
set_option linter.unusedVariables false

theorem infoStep : (Tryz.prog.info? 106).map (fun i => (i.zero, i.size, i.bytes)) = some (some (.agg #[.string ⟨#[]⟩, .int .i64 0, .bool false]), 3, 32) := by kernel_rfl
theorem _root_.Mh.own_below' {w w' : World} {base e k : Nat} {v : Value} {n : Nat} {xs : List Value} (h : w.ownsRow base e k v n xs) (hb : Below w.heap.size w w') : w'.ownsRow base e k v n xs := by
  refine ⟨h.1, ?_⟩
  rcases h.2 with h2 | ⟨g, cap, cur, rfl, hbg, hg, h4⟩
  · exact .inl h2
  · exact .inr ⟨g, cap, cur, rfl, hbg, (hb.block g (Array.getElem?_eq_some_iff.1 hg).1).trans hg, h4⟩
theorem _root_.Mh.Sl.lit' (w : World) (cs : List Value) (e k : Nat) (hk : cs.length = k) : Sl k (w.alloc (.cells cs.toArray e)) (.slice (some ⟨w.heap.size, 0, none⟩) 1 1) 1 cs := by
  refine ⟨by omega, .inr ⟨w.heap.size, 0, 1, rfl, by omega, by omega, by unfold maxLen; omega, by simp, fun i u hu => ?_⟩⟩
  rw [Nat.zero_add, cell_of_row _ _ _ _ _ _ (heap_alloc_new w _)]
  simpa using hu
structure StepIn (ps : List ByteArray) (W1 wr : World) (j : Nat) (v : Value) (l : List St) : Prop where
  le : j ≤ ps.length
  st : stepsL (ps.take j) = some l
  own : wr.ownsRow W1.heap.size 106 3 v j (l.flatMap stc)
  below : Below W1.heap.size W1 wr
theorem StepIn.len {ps : List ByteArray} {W1 wr : World} {j : Nat} {v : Value} {l : List St} (h : StepIn ps W1 wr j v l) : l.length = j := by
  have := (stepsL_take _ _ h.st).1
  rw [List.length_take] at this
  have := h.le
  omega
theorem StepIn.next {ps : List ByteArray} {W1 wr w3 : World} {j : Nat} {v v' : Value} {l : List St} {s : St} {ob : Obj} (h : StepIn ps W1 wr j v l) (hj : j < ps.length) (hs : stepB ps[j] = some s)
    (hown : w3.ownsRow W1.heap.size 106 3 v' (j + 1) (l.flatMap stc ++ stc s)) (hgr : (wr.alloc ob).grownBy w3 v.ownBlock) : StepIn ps W1 w3 (j + 1) v' (l ++ [s]) := by
  refine ⟨by omega, stepsL_next ps j hj l s h.st hs, by rw [stcs_snoc]; exact hown, ?_⟩
  have hz := h.below.size
  exact (h.below.alloc (by omega) ob).grown hgr (by simp; omega) fun k hk => (h.own.lt k hk).1
theorem StepIn.on {ps : List ByteArray} {W1 wr w2 : World} {j : Nat} {v : Value} {l : List St} (h : StepIn ps W1 wr j v l) (hb : Below wr.heap.size wr w2) : StepIn ps W1 w2 j v l :=
  ⟨h.le, h.st, own_below' h.own hb, h.below.trans (hb.mono h.below.size)⟩
theorem StepIn.fail {ps : List ByteArray} {W1 wr : World} {j : Nat} {v : Value} {l : List St} (h : StepIn ps W1 wr j v l) (hj : j < ps.length) (hs : stepB ps[j] = none) : stepsL ps = none := stepsL_fail ps j hj hs
/-- The ways a part can be no number. -/
theorem num_ways (p : ByteArray) (h : isNumL p.data.toList = false) : p.size = 0 ∨ ∃ h0 : 0 < p.size, 4 < p.size ∨ (p.size ≤ 4 ∧ (isIntL p.data.toList = false ∨ (isIntL p.data.toList = true ∧ ((p[0]'h0).toNat = 45 ∨ ((p[0]'h0).toNat = 48 ∧ 1 < p.size))))) := by
  have hsz : p.data.toList.length = p.size := by simp
  by_cases h0 : p.size = 0
  · exact .inl h0
  · refine .inr ⟨by omega, ?_⟩
    by_cases h4 : 4 < p.size
    · exact .inl h4
    · refine .inr ⟨by omega, ?_⟩
      cases hi : isIntL p.data.toList with
      | false => exact .inl rfl
      | true =>
        refine .inr ⟨rfl, ?_⟩
        have h00 : 0 < p.data.toList.length := by omega
        have hc : p.data.toList[0] = p[0]'(by omega) := by simp; rfl
        cases hl : p.data.toList with
        | nil => rw [hl] at h00; simp at h00
        | cons c r =>
          have hc' : p[0]'(by omega) = c := by rw [← hc]; simp [hl]
          rw [hl] at h hi hsz
          simp only [isNumL, hi, Bool.true_and] at h
          simp only [List.length_cons] at hsz
          rw [decide_eq_true (show r.length < 4 by omega), Bool.true_and] at h
          rw [hc']
          simp only [Bool.and_eq_false_iff, Bool.not_eq_false', decide_eq_true_eq, Bool.and_eq_true, Bool.not_eq_true', List.isEmpty_eq_false_iff] at h
          rcases h with h | ⟨h1, h2⟩
          · exact .inl h
          · refine .inr ⟨h1, ?_⟩
            have := List.length_pos_iff.2 h2
            omega
theorem num_way (p : ByteArray) (h : isNumL p.data.toList = true) : ∃ h0 : 0 < p.size, p.size ≤ 4 ∧ isIntL p.data.toList = true ∧ (p[0]'h0).toNat ≠ 45 ∧ ((p[0]'h0).toNat = 48 → p.size = 1) := by
  have hsz : p.data.toList.length = p.size := by simp
  cases hl : p.data.toList with
  | nil => rw [hl] at h; cases h
  | cons c r =>
    have h0 : 0 < p.size := by rw [← hsz, hl]; simp
    have hc : p.data.toList[0]'(by rw [hl]; simp) = p[0]'h0 := by simp; rfl
    have hc' : p[0]'h0 = c := by rw [← hc]; simp [hl]
    rw [hl] at h hsz
    simp only [isNumL, Bool.and_eq_true, decide_eq_true_eq, Bool.not_eq_true', decide_eq_false_iff_not, Bool.and_eq_false_iff, Bool.not_eq_false', List.isEmpty_iff] at h
    simp only [List.length_cons] at hsz
    refine ⟨h0, by omega, h.2.1, by rw [hc']; exact h.2.2.1, ?_⟩
    rw [hc']
    intro h48
    rcases h.2.2.2 with h | h
    · exact absurd h48 h
    · rw [h] at hsz; simp at hsz; omega
set_option maxRecDepth 100000 in
set_option maxHeartbeats 8000000 in
theorem steps_loop (r : ByteArray) (w : World) (m : Int) (hm : w.cell? ⟨1, 0, none⟩ = some (.int .i64 m)) (h0 : r.size ≠ 0) (h4 : r.size ≤ 400) :
    Calls Tryz.prog 55 #[.string r, .bool false] w fun e w' => ∃ v, e = .returned (.tuple #[v, .bool (stepsB r).isSome]) ∧ StAt w' v ((stepsB r).getD []) ∧ Below w.heap.size w w' := by
  have hln := splitB_len 46 r
  have hcn : Lib.countB r ⟨#[46]⟩ ≤ r.size := Lib.countB_le ⟨#[46]⟩ (Nat.le_refl 1) _ r (Nat.le_refl _)
  have hsz : ∀ p ∈ Lib.splitB ⟨#[46]⟩ 0 (Lib.countB r ⟨#[46]⟩) r, p.size ≤ r.size := split_size 46 r
  have HSP := Lib.hid (Tryz.strings_Split r ⟨#[46]⟩ m w (by omega) hm (Nat.le_refl 1))
  have HR : Hid (stepsB r = stepsL (Lib.splitB ⟨#[46]⟩ 0 (Lib.countB r ⟨#[46]⟩) r)) := by show _ = _; unfold stepsB; rw [if_neg (by omega), if_neg h0]; rfl
  have he := empty_not h0
  have hd : decide (400 < (r.size : Int)) = false := decide_eq_false (by omega)
  obtain ⟨ti, hti, ht0, ht1, ht2⟩ := info_parts infoStep
  generalize hps : Lib.splitB ⟨#[46]⟩ 0 (Lib.countB r ⟨#[46]⟩) r = ps at *
  generalize Lib.countB r ⟨#[46]⟩ = n at *
  have HL := Lib.hid hln
  have hn : n ≤ 400 := by omega
  have HZ : Hid (∀ p ∈ ps, p.size ≤ 400) := fun p hp => by have := hsz p hp; omega
  clear hln hsz hps hm hcn h0
  go_enter Tryz.func55, Tryz.ntmps55
  go_wp2_with fail
  refine HSP.out.mono ?_
  rintro e w1 ⟨rfl, rfl⟩
  have HC : Hid (∀ k (h : k < ps.length), (w.alloc (.cells (ps.map Value.string).toArray 9)).cell? ⟨w.heap.size, k, none⟩ = some (.string ps[k])) := by
    intro k h
    rw [cell_of_row _ _ _ _ _ _ (heap_alloc_new w _)]
    simp [h]
  have H0 : Hid (StepIn ps (w.alloc (.cells (ps.map Value.string).toArray 9)) (w.alloc (.cells (ps.map Value.string).toArray 9)) 0 (.slice none 0 0) []) := ⟨by omega, rfl, World.ownsRow_nil _ _ _ _, Below.refl _ _⟩
  clear HSP
  go_wp2_with fail
  go_loopw [6, 19] (fun v i wr => ∃ (j : Nat) (l : List St), i = .int .i64 j ∧ Hid (StepIn ps (w.alloc (.cells (ps.map Value.string).toArray 9)) wr j v l)) (fun _ i _ => ps.length - (intOf i).toNat)
  case atStart => exact ⟨0, [], rfl, H0⟩
  case round =>
    obtain ⟨j, l, rfl, HI⟩ := hrel
    obtain ⟨va, vc, rfl⟩ := ownsRow_form HI.out.own
    have hle := HI.out.le
    have hlen := HL.out
    by_cases hj : j < n + 1
    · have hjl : j < ps.length := by omega
      have hc := (HI.out.below.cell (p := ⟨w.heap.size, j, none⟩) (by simp)).trans (HC.out j hjl)
      have hp4 := HZ.out ps[j] (List.getElem_mem hjl)
      have HP : Hid (∀ s, stepB ps[j] = some s → ∀ (w2 : World), Below wr.heap.size wr w2 → ∀ (ob : Obj) (v' : Value) (w3 : World), w3.ownsRow (w.alloc (.cells (ps.map Value.string).toArray 9)).heap.size 106 3 v' (j + 1) (l.flatMap stc ++ stc s) → (w2.alloc ob).grownBy w3 (Value.slice va j vc).ownBlock → StepIn ps (w.alloc (.cells (ps.map Value.string).toArray 9)) w3 (j + 1) v' (l ++ [s])) := fun s hs w2 hb2 ob v' w3 h1 h2 => (HI.out.on hb2).next hjl hs h1 h2
      have HF : Hid (stepB ps[j] = none → stepsL ps = none) := fun h => HI.out.fail hjl h
      generalize ps[j] = p at *
      have hpm : p.size ≤ maxLen := by unfold maxLen; omega
      cases hk : isKeyL p.data.toList with
      | true =>
        have HS := Lib.hid (step_key hk)
        have HROW := Lib.hid (HI.out.own.alloc (.cells (stc ⟨p, 0⟩).toArray 106))
        have HNEW := Lib.hid (Sl.lit' wr (stc ⟨p, 0⟩) 106 3 rfl)
        have HSZ : Hid ((w.alloc (.cells (ps.map Value.string).toArray 9)).heap.size ≤ (wr.alloc (.cells (stc ⟨p, 0⟩).toArray 106)).heap.size) := by have := HI.out.below.size; show _ ≤ _; simp at this ⊢; omega
        go_wp2_with (first | (go_at_call 48; refine (isKey_any _ _ hpm).mono ?_; rintro e w' ⟨rfl, rfl⟩) | (at_builtin; refine wpList_append_sl _ rfl _ _ 95 rfl (w.alloc (.cells (ps.map Value.string).toArray 9)).heap.size 106 ti (.agg #[.string ⟨#[]⟩, .int .i64 0, .bool false]) 3 32 Tryz.underlying95 hti ht0 ht1 ht2 rfl (by decide) (.slice va j vc) j _ rfl HROW.out _ 1 _ rfl HNEW.out (by simp [stc, Value.oneCell']) (by unfold maxLen; omega) (by omega) HSZ.out ?_; intro v3 w3 hown3 hgr3 hat3))
        have HI2 := Lib.hid (HP.out _ HS.out _ (Below.refl _ _) _ _ _ hown3 hgr3)
        clear hown3 hgr3 hat3 HROW HNEW HP HF
        go_roundw
        case rel => exact ⟨j + 1, _, by go_num, HI2⟩
        case measure => simp [intOf]; omega
      | false =>
        cases hnum : isNumL p.data.toList with
        | false =>
          have HN : Hid (stepsB r = none) := HR.out.trans (HF.out (step_none hk hnum))
          rcases num_ways p hnum with h0 | ⟨h0, h0 | ⟨h1, h0 | ⟨h2, h0 | ⟨h3, h0⟩⟩⟩⟩
          · have hpe := empty_of h0
            clear hnum HP HF
            go_wp2_with (first | (go_at_call 48; refine (isKey_any _ _ hpm).mono ?_; rintro e w' ⟨rfl, rfl⟩) | (go_at_call 77; refine (isInteger_any _ _ hpm).mono ?_; rintro e w' ⟨rfl, rfl⟩))
            go_ret2
            exact ⟨_, by rw [HN.out]; rfl, by rw [HN.out]; exact StAt.nil _ _ _, (Below.refl w.heap.size w).alloc (Nat.le_refl _) _ |>.trans (HI.out.below.mono (by simp))⟩

          · have hpe := empty_not (t := p) (by omega)
            have hp4' : decide (4 < (p.size : Int)) = true := decide_eq_true (by omega)
            clear hnum HP HF
            go_wp2_with (first | (go_at_call 48; refine (isKey_any _ _ hpm).mono ?_; rintro e w' ⟨rfl, rfl⟩) | (go_at_call 77; refine (isInteger_any _ _ hpm).mono ?_; rintro e w' ⟨rfl, rfl⟩))
            go_ret2
            exact ⟨_, by rw [HN.out]; rfl, by rw [HN.out]; exact StAt.nil _ _ _, (Below.refl w.heap.size w).alloc (Nat.le_refl _) _ |>.trans (HI.out.below.mono (by simp))⟩

          · have hpe := empty_not (t := p) (by omega)
            have hp4' : decide (4 < (p.size : Int)) = false := decide_eq_false (by omega)
            clear hnum HP HF
            go_wp2_with (first | (go_at_call 48; refine (isKey_any _ _ hpm).mono ?_; rintro e w' ⟨rfl, rfl⟩) | (go_at_call 77; refine (isInteger_any _ _ hpm).mono ?_; rintro e w' ⟨rfl, rfl⟩))
            go_ret2
            exact ⟨_, by rw [HN.out]; rfl, by rw [HN.out]; exact StAt.nil _ _ _, (Below.refl w.heap.size w).alloc (Nat.le_refl _) _ |>.trans (HI.out.below.mono (by simp))⟩

          · have hpe := empty_not (t := p) (by omega)
            have hp4' : decide (4 < (p.size : Int)) = false := decide_eq_false (by omega)
            have q45 : (((p[0]'(by assumption)).toNat : Int) == 45) = true := by rw [h0]; rfl
            clear hnum HP HF
            go_wp2_with (first | (go_at_call 48; refine (isKey_any _ _ hpm).mono ?_; rintro e w' ⟨rfl, rfl⟩) | (go_at_call 77; refine (isInteger_any _ _ hpm).mono ?_; rintro e w' ⟨rfl, rfl⟩))
            go_ret2
            exact ⟨_, by rw [HN.out]; rfl, by rw [HN.out]; exact StAt.nil _ _ _, (Below.refl w.heap.size w).alloc (Nat.le_refl _) _ |>.trans (HI.out.below.mono (by simp))⟩

          · have hpe := empty_not (t := p) (by omega)
            have hp4' : decide (4 < (p.size : Int)) = false := decide_eq_false (by omega)
            have q45 : (((p[0]'(by assumption)).toNat : Int) == 45) = false := by rw [h3]; rfl
            have q48 : (((p[0]'(by assumption)).toNat : Int) == 48) = true := by rw [h3]; rfl
            have hne : (p.toList == [48]) = false := by
              rw [beq_eq_false_iff_ne, ByteArray.toList_eq]
              intro hp
              have : p.data.toList.length = p.size := by simp
              rw [hp] at this
              simp at this
              omega
            clear hnum HP HF
            go_wp2_with (first | (go_at_call 48; refine (isKey_any _ _ hpm).mono ?_; rintro e w' ⟨rfl, rfl⟩) | (go_at_call 77; refine (isInteger_any _ _ hpm).mono ?_; rintro e w' ⟨rfl, rfl⟩))
            go_ret2
            exact ⟨_, by rw [HN.out]; rfl, by rw [HN.out]; exact StAt.nil _ _ _, (Below.refl w.heap.size w).alloc (Nat.le_refl _) _ |>.trans (HI.out.below.mono (by simp))⟩
        | true =>
          obtain ⟨nn, hat, hn1, hst⟩ := step_num hk hnum
          have HS := Lib.hid hst
          obtain ⟨h0, h3, h5, h6, h7⟩ := num_way p hnum
          have HAT := Lib.hid (fun w => Tryz.strconv_Atoi p nn (by omega) hat w)
          have hpe := empty_not (t := p) (by omega)
          have hp4' : decide (4 < (p.size : Int)) = false := decide_eq_false (by omega)
          have q45 : (((p[0]'(by assumption)).toNat : Int) == 45) = false := by rw [beq_eq_false_iff_ne]; omega
          have q48 : (((p[0]'(by assumption)).toNat : Int) == 48) = false ∨ ((((p[0]'(by assumption)).toNat : Int) == 48) = true ∧ (p.toList == [48]) = true) := by
            by_cases h48 : (p[0]'(by assumption)).toNat = 48
            · refine .inr ⟨by rw [h48]; rfl, ?_⟩
              have h1 := h7 h48
              rw [beq_iff_eq, ByteArray.toList_eq]
              have hl : p.data.toList.length = 1 := by rw [← h1]; simp
              have hc : p.data.toList[0]'(by omega) = p[0]'(by assumption) := by simp; rfl
              match hp : p.data.toList, hl with
              | [c], _ =>
                have : c = p[0]'(by assumption) := by rw [← hc]; simp [hp]
                rw [this]
                exact congrArg (fun x => [x]) (UInt8.toNat_inj.1 (by rw [h48]; rfl))
            · exact .inl (by rw [beq_eq_false_iff_ne]; omega)
          clear hnum h7 HF
          rcases q48 with q48 | ⟨q48, q49⟩
          all_goals
            go_wp2_with (first | (go_at_call 48; refine (isKey_any _ _ hpm).mono ?_; rintro e w' ⟨rfl, rfl⟩) | (go_at_call 77; refine (isInteger_any _ _ hpm).mono ?_; rintro e w' ⟨rfl, rfl⟩))
            refine (HAT.out _).mono ?_
            rintro e w2 ⟨rfl, t, hw2⟩
            have HB2 : Hid (Below wr.heap.size wr w2) := by show Below _ _ _; rw [hw2]; exact Go.Joins.below_bytesWorld _ _ _ _ (Nat.le_refl _)
            have HROW := Lib.hid ((own_below' HI.out.own HB2.out).alloc (.cells (stc ⟨⟨#[]⟩, nn⟩).toArray 106))
            have HNEW := Lib.hid (Sl.lit' w2 (stc ⟨⟨#[]⟩, nn⟩) 106 3 rfl)
            have HSZ : Hid ((w.alloc (.cells (ps.map Value.string).toArray 9)).heap.size ≤ (w2.alloc (.cells (stc ⟨⟨#[]⟩, nn⟩).toArray 106)).heap.size) := by have := HI.out.below.size; have := HB2.out.size; show _ ≤ _; simp at *; omega
            clear hw2 HAT
            go_wp2_with (at_builtin; refine wpList_append_sl _ rfl _ _ 95 rfl (w.alloc (.cells (ps.map Value.string).toArray 9)).heap.size 106 ti (.agg #[.string ⟨#[]⟩, .int .i64 0, .bool false]) 3 32 Tryz.underlying95 hti ht0 ht1 ht2 rfl (by decide) (.slice va j vc) j _ rfl HROW.out _ 1 _ rfl HNEW.out (by simp [stc, Value.oneCell']) (by unfold maxLen; omega) (by omega) HSZ.out ?_; intro v3 w3 hown3 hgr3 hat3)
            have HI2 := Lib.hid (HP.out _ HS.out _ HB2.out _ _ _ hown3 hgr3)
            clear hown3 hgr3 hat3 HROW HNEW HP
            go_roundw
            case rel => exact ⟨j + 1, _, by go_num, HI2⟩
            case measure => simp [intOf]; omega
    · obtain rfl : j = ps.length := by omega
      have HQ : Hid (stepsB r = some l) := by
        show _ = _
        rw [HR.out, ← HI.out.st, List.take_length]
      have HS := Lib.hid (Sl.of_own HI.out.own (by decide))
      have HLL := Lib.hid HI.out.len
      go_wp2_with fail
      go_ret2
      exact ⟨_, by rw [HQ.out]; rfl, by rw [HQ.out]; show Sl _ _ _ _ _; rw [Option.getD_some, HLL.out]; exact HS.out, (Below.refl w.heap.size w).alloc (Nat.le_refl _) _ |>.trans (HI.out.below.mono (by simp))⟩
theorem steps_any (r : ByteArray) (w : World) (m : Int) (hm : w.cell? ⟨1, 0, none⟩ = some (.int .i64 m)) (hr : r.size ≤ maxLen) :
    Calls Tryz.prog 55 #[.string r, .bool false] w fun e w' => ∃ v, e = .returned (.tuple #[v, .bool (stepsB r).isSome]) ∧ StAt w' v ((stepsB r).getD []) ∧ Below w.heap.size w w' := by
  unfold maxLen at hr
  by_cases h4 : 400 < r.size
  · have hd : decide (400 < (r.size : Int)) = true := decide_eq_true (by omega)
    have H : Hid (stepsB r = none) := by show _ = _; unfold stepsB; rw [if_pos h4]
    clear h4
    go_enter Tryz.func55, Tryz.ntmps55
    go_wp2_with fail
    go_ret2
    exact ⟨_, by rw [H.out]; rfl, by rw [H.out]; exact StAt.nil _ _ _, Below.refl _ _⟩
  by_cases h0 : r.size = 0
  · have he := empty_of h0
    have hd : decide (400 < (r.size : Int)) = false := decide_eq_false (by omega)
    have H : Hid (stepsB r = some []) := by show _ = _; unfold stepsB; rw [if_neg h4, if_pos h0]
    clear h4 h0
    go_enter Tryz.func55, Tryz.ntmps55
    go_wp2_with fail
    go_ret2
    exact ⟨_, by rw [H.out]; rfl, by rw [H.out]; exact StAt.nil _ _ _, Below.refl _ _⟩
  exact steps_loop r w m hm h0 (by omega)
end Go.Proofs.YtejnoedlfbglcaaGreatDoor
