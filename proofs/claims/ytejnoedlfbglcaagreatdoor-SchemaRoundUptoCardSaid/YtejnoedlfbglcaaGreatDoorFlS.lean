/- conf.steps with stars. Conditions: the cell of MaxLen. -/
import Derived.Test.YtejnoedlfbglcaaGreatDoorKeS
import Derived.Test.YtejnoedlfbglcaaGreatDoorFlPl
namespace Go.Proofs.YtejnoedlfbglcaaGreatDoor
open Go.RowKit Mh
set_option linter.unusedVariables false

def stcS (s : St) : List Value := if s.star = true then [.string ⟨#[]⟩, .int .i64 0, .bool true] else stc s
theorem stcS_len (s : St) : (stcS s).length = 3 := by unfold stcS; split <;> rfl
def StAtS (w : World) (v : Value) (l : List St) : Prop := Sl 3 w v l.length (l.flatMap stcS)
theorem stcsS_plain : ∀ l : List St, (∀ s ∈ l, s.star = false) → l.flatMap stcS = l.flatMap stc := by
  intro l
  induction l with
  | nil => intro _; rfl
  | cons a l ih =>
    intro h
    rw [List.flatMap_cons, List.flatMap_cons, ih (fun s hs => h s (by simp [hs]))]
    congr 1
    unfold stcS
    rw [h a (by simp)]; rfl
theorem StAtS.plain {w : World} {v : Value} {l : List St} (h : StAtS w v l) (hl : ∀ s ∈ l, s.star = false) : StAt w v l := by
  unfold StAtS at h
  rw [stcsS_plain l hl] at h
  exact h
theorem StAtS.nil (w : World) (a : Option Addr) (c : Nat) : StAtS w (.slice a 0 c) [] := ⟨rfl, .inl ⟨rfl, a, c, rfl⟩⟩
theorem stcsS_snoc (l : List St) (s : St) : (l ++ [s]).flatMap stcS = l.flatMap stcS ++ stcS s := by simp
theorem stepS_none {p : ByteArray} (hp : p ≠ starKey) (h : stepB p = none) : stepS p = none := by unfold stepS; rw [if_neg hp, h]
theorem stepsS_parts {r : ByteArray} (h4 : ¬ 400 < r.size) (h0 : ¬ r.size = 0) : stepsS r = stepsG stepS (partsB r) := by unfold stepsS; rw [if_neg h4, if_neg h0]
structure StarIn (ps : List ByteArray) (W1 wr : World) (j : Nat) (v : Value) (l : List St) : Prop where
  le : j ≤ ps.length
  st : stepsG stepS (ps.take j) = some l
  own : wr.ownsRow W1.heap.size 106 3 v j (l.flatMap stcS)
  below : Below W1.heap.size W1 wr
theorem StarIn.len {ps : List ByteArray} {W1 wr : World} {j : Nat} {v : Value} {l : List St} (h : StarIn ps W1 wr j v l) : l.length = j := by
  have := (stepsG_len _ _ _ h.st)
  rw [List.length_take] at this
  have := h.le
  omega
theorem StarIn.next {ps : List ByteArray} {W1 wr w3 : World} {j : Nat} {v v' : Value} {l : List St} {s : St} {ob : Obj} (h : StarIn ps W1 wr j v l) (hj : j < ps.length) (hs : stepS ps[j] = some s)
    (hown : w3.ownsRow W1.heap.size 106 3 v' (j + 1) (l.flatMap stcS ++ stcS s)) (hgr : (wr.alloc ob).grownBy w3 v.ownBlock) : StarIn ps W1 w3 (j + 1) v' (l ++ [s]) := by
  refine ⟨by omega, stepsG_next stepS ps j hj l s h.st hs, by rw [stcsS_snoc]; exact hown, ?_⟩
  have hz := h.below.size
  exact (h.below.alloc (by omega) ob).grown hgr (by simp; omega) fun k hk => (h.own.lt k hk).1
theorem StarIn.on {ps : List ByteArray} {W1 wr w2 : World} {j : Nat} {v : Value} {l : List St} (h : StarIn ps W1 wr j v l) (hb : Below wr.heap.size wr w2) : StarIn ps W1 w2 j v l :=
  ⟨h.le, h.st, own_below' h.own hb, h.below.trans (hb.mono h.below.size)⟩
theorem StarIn.fail {ps : List ByteArray} {W1 wr : World} {j : Nat} {v : Value} {l : List St} (h : StarIn ps W1 wr j v l) (hj : j < ps.length) (hs : stepS ps[j] = none) : stepsG stepS ps = none := stepsG_fail stepS ps j hj hs
set_option maxRecDepth 100000 in
set_option maxHeartbeats 8000000 in
theorem star_loop (r : ByteArray) (w : World) (m : Int) (hm : w.cell? ⟨1, 0, none⟩ = some (.int .i64 m)) (h0 : r.size ≠ 0) (h4 : r.size ≤ 400) :
    Calls Tryz.prog 55 #[.string r, .bool true] w fun e w' => ∃ v, e = .returned (.tuple #[v, .bool (stepsS r).isSome]) ∧ StAtS w' v ((stepsS r).getD []) ∧ Below w.heap.size w w' := by
  have hln := splitB_len 46 r
  have hcn : Lib.countB r ⟨#[46]⟩ ≤ r.size := Lib.countB_le ⟨#[46]⟩ (Nat.le_refl 1) _ r (Nat.le_refl _)
  have hsz : ∀ p ∈ Lib.splitB ⟨#[46]⟩ 0 (Lib.countB r ⟨#[46]⟩) r, p.size ≤ r.size := split_size 46 r
  have HSP := Lib.hid (Tryz.strings_Split r ⟨#[46]⟩ m w (by omega) hm (Nat.le_refl 1))
  have HR : Hid (stepsS r = stepsG stepS (Lib.splitB ⟨#[46]⟩ 0 (Lib.countB r ⟨#[46]⟩) r)) := by show _ = _; unfold stepsS; rw [if_neg (by omega), if_neg h0]; rfl
  have he := empty_not h0
  have hd : decide (400 < (r.size : Int)) = false := decide_eq_false (by omega)
  obtain ⟨ti, hti, ht0, ht1, ht2⟩ := info_parts infoStep
  generalize hps : Lib.splitB ⟨#[46]⟩ 0 (Lib.countB r ⟨#[46]⟩) r = ps at *
  generalize Lib.countB r ⟨#[46]⟩ = n at *
  have HL := Lib.hid hln
  have hn : n ≤ 400 := by omega
  have HZ : Hid (∀ p ∈ ps, p.size ≤ 400) := fun p hp => by have := hsz p hp; omega
  clear hln hsz hps hm hcn h0
  go_enter Tryz.func55, Tryz.ntmps55
  go_wp2_with fail
  refine HSP.out.mono ?_
  rintro e w1 ⟨rfl, rfl⟩
  have HC : Hid (∀ k (h : k < ps.length), (w.alloc (.cells (ps.map Value.string).toArray 9)).cell? ⟨w.heap.size, k, none⟩ = some (.string ps[k])) := by
    intro k h
    rw [cell_of_row _ _ _ _ _ _ (heap_alloc_new w _)]
    simp [h]
  have H0 : Hid (StarIn ps (w.alloc (.cells (ps.map Value.string).toArray 9)) (w.alloc (.cells (ps.map Value.string).toArray 9)) 0 (.slice none 0 0) []) := ⟨by omega, rfl, World.ownsRow_nil _ _ _ _, Below.refl _ _⟩
  clear HSP
  go_wp2_with fail
  go_loopw [6, 19] (fun v i wr => ∃ (j : Nat) (l : List St), i = .int .i64 j ∧ Hid (StarIn ps (w.alloc (.cells (ps.map Value.string).toArray 9)) wr j v l)) (fun _ i _ => ps.length - (intOf i).toNat)
  case atStart => exact ⟨0, [], rfl, H0⟩
  case round =>
    obtain ⟨j, l, rfl, HI⟩ := hrel
    obtain ⟨va, vc, rfl⟩ := ownsRow_form HI.out.own
    have hle := HI.out.le
    have hlen := HL.out
    by_cases hj : j < n + 1
    · have hjl : j < ps.length := by omega
      have hc := (HI.out.below.cell (p := ⟨w.heap.size, j, none⟩) (by simp)).trans (HC.out j hjl)
      have hp4 := HZ.out ps[j] (List.getElem_mem hjl)
      have HP : Hid (∀ s, stepS ps[j] = some s → ∀ cs, stcS s = cs → ∀ (w2 : World), Below wr.heap.size wr w2 → ∀ (ob : Obj) (v' : Value) (w3 : World), w3.ownsRow (w.alloc (.cells (ps.map Value.string).toArray 9)).heap.size 106 3 v' (j + 1) (l.flatMap stcS ++ cs) → (w2.alloc ob).grownBy w3 (Value.slice va j vc).ownBlock → StarIn ps (w.alloc (.cells (ps.map Value.string).toArray 9)) w3 (j + 1) v' (l ++ [s])) := fun s hs cs hcs w2 hb2 ob v' w3 h1 h2 => (HI.out.on hb2).next hjl hs (by rw [hcs]; exact h1) h2
      have HF : Hid (stepS ps[j] = none → stepsG stepS ps = none) := fun h => HI.out.fail hjl h
      generalize ps[j] = p at *
      have hpm : p.size ≤ maxLen := by unfold maxLen; omega
      cases hk : isKeyL p.data.toList with
      | true =>
        have HS := Lib.hid (stepS_B (step_key hk))
        have HCS : Hid (stcS ⟨p, 0⟩ = stc ⟨p, 0⟩) := by show _ = _; unfold stcS; rw [stepB_nostar (step_key hk)]; rfl
        have HROW := Lib.hid (HI.out.own.alloc (.cells (stc ⟨p, 0⟩).toArray 106))
        have HNEW := Lib.hid (Sl.lit' wr (stc ⟨p, 0⟩) 106 3 rfl)
        have HSZ : Hid ((w.alloc (.cells (ps.map Value.string).toArray 9)).heap.size ≤ (wr.alloc (.cells (stc ⟨p, 0⟩).toArray 106)).heap.size) := by have := HI.out.below.size; show _ ≤ _; simp at this ⊢; omega
        go_wp2_with (first | (go_at_call 48; refine (isKey_any _ _ hpm).mono ?_; rintro e w' ⟨rfl, rfl⟩) | (at_builtin; refine wpList_append_sl _ rfl _ _ 95 rfl (w.alloc (.cells (ps.map Value.string).toArray 9)).heap.size 106 ti (.agg #[.string ⟨#[]⟩, .int .i64 0, .bool false]) 3 32 Tryz.underlying95 hti ht0 ht1 ht2 rfl (by decide) (.slice va j vc) j _ rfl HROW.out _ 1 _ rfl HNEW.out (by simp [stc, Value.oneCell']) (by unfold maxLen; omega) (by omega) HSZ.out ?_; intro v3 w3 hown3 hgr3 hat3))
        have HI2 := Lib.hid (HP.out _ HS.out _ HCS.out _ (Below.refl _ _) _ _ _ hown3 hgr3)
        clear hown3 hgr3 hat3 HROW HNEW HP HF
        go_roundw
        case rel => exact ⟨j + 1, _, by go_num, HI2⟩
        case measure => simp [intOf]; omega
      | false =>
        by_cases hps : p = starKey
        · have hq : (p.toList == [42]) = true := by rw [beq_iff_eq, ByteArray.toList_eq, hps]; rfl
          have HS : Hid (stepS p = some ⟨starKey, 0⟩) := by show _ = _; unfold stepS; rw [if_pos hps]
          have HCS : Hid (stcS ⟨starKey, 0⟩ = [.string ⟨#[]⟩, .int .i64 0, .bool true]) := by show _ = _; unfold stcS; rw [if_pos (show St.star ⟨starKey, 0⟩ = true by decide)]
          have HROW := Lib.hid (HI.out.own.alloc (.cells #[.string ⟨#[]⟩, .int .i64 0, .bool true] 106))
          have HNEW := Lib.hid (Sl.lit' wr [.string ⟨#[]⟩, .int .i64 0, .bool true] 106 3 rfl)
          have HSZ : Hid ((w.alloc (.cells (ps.map Value.string).toArray 9)).heap.size ≤ (wr.alloc (.cells #[.string ⟨#[]⟩, .int .i64 0, .bool true] 106)).heap.size) := by have := HI.out.below.size; show _ ≤ _; simp at this ⊢; omega
          clear hps
          go_wp2_with (first | (go_at_call 48; refine (isKey_any _ _ hpm).mono ?_; rintro e w' ⟨rfl, rfl⟩) | (at_builtin; refine wpList_append_sl _ rfl _ _ 95 rfl (w.alloc (.cells (ps.map Value.string).toArray 9)).heap.size 106 ti (.agg #[.string ⟨#[]⟩, .int .i64 0, .bool false]) 3 32 Tryz.underlying95 hti ht0 ht1 ht2 rfl (by decide) (.slice va j vc) j _ rfl HROW.out _ 1 _ rfl HNEW.out (by simp [Value.oneCell']) (by unfold maxLen; omega) (by omega) HSZ.out ?_; intro v3 w3 hown3 hgr3 hat3))
          have HI2 := Lib.hid (HP.out _ HS.out _ HCS.out _ (Below.refl _ _) _ _ _ hown3 hgr3)
          clear hown3 hgr3 hat3 HROW HNEW HP HF
          go_roundw
          case rel => exact ⟨j + 1, _, by go_num, HI2⟩
          case measure => simp [intOf]; omega
        have hq : (p.toList == [42]) = false := by
          rw [beq_eq_false_iff_ne, ByteArray.toList_eq]
          intro e
          exact hps (by rw [← bz_eq p, e]; rfl)
        cases hnum : isNumL p.data.toList with
        | false =>
          have HN : Hid (stepsS r = none) := HR.out.trans (HF.out (stepS_none hps (step_none hk hnum)))
          rcases num_ways p hnum with h0 | ⟨h0, h0 | ⟨h1, h0 | ⟨h2, h0 | ⟨h3, h0⟩⟩⟩⟩
          · have hpe := empty_of h0
            clear hnum HP HF
            go_wp2_with (first | (go_at_call 48; refine (isKey_any _ _ hpm).mono ?_; rintro e w' ⟨rfl, rfl⟩) | (go_at_call 77; refine (isInteger_any _ _ hpm).mono ?_; rintro e w' ⟨rfl, rfl⟩))
            go_ret2
            exact ⟨_, by rw [HN.out]; rfl, by rw [HN.out]; exact StAtS.nil _ _ _, (Below.refl w.heap.size w).alloc (Nat.le_refl _) _ |>.trans (HI.out.below.mono (by simp))⟩

          · have hpe := empty_not (t := p) (by omega)
            have hp4' : decide (4 < (p.size : Int)) = true := decide_eq_true (by omega)
            clear hnum HP HF
            go_wp2_with (first | (go_at_call 48; refine (isKey_any _ _ hpm).mono ?_; rintro e w' ⟨rfl, rfl⟩) | (go_at_call 77; refine (isInteger_any _ _ hpm).mono ?_; rintro e w' ⟨rfl, rfl⟩))
            go_ret2
            exact ⟨_, by rw [HN.out]; rfl, by rw [HN.out]; exact StAtS.nil _ _ _, (Below.refl w.heap.size w).alloc (Nat.le_refl _) _ |>.trans (HI.out.below.mono (by simp))⟩

          · have hpe := empty_not (t := p) (by omega)
            have hp4' : decide (4 < (p.size : Int)) = false := decide_eq_false (by omega)
            clear hnum HP HF
            go_wp2_with (first | (go_at_call 48; refine (isKey_any _ _ hpm).mono ?_; rintro e w' ⟨rfl, rfl⟩) | (go_at_call 77; refine (isInteger_any _ _ hpm).mono ?_; rintro e w' ⟨rfl, rfl⟩))
            go_ret2
            exact ⟨_, by rw [HN.out]; rfl, by rw [HN.out]; exact StAtS.nil _ _ _, (Below.refl w.heap.size w).alloc (Nat.le_refl _) _ |>.trans (HI.out.below.mono (by simp))⟩

          · have hpe := empty_not (t := p) (by omega)
            have hp4' : decide (4 < (p.size : Int)) = false := decide_eq_false (by omega)
            have q45 : (((p[0]'(by assumption)).toNat : Int) == 45) = true := by rw [h0]; rfl
            clear hnum HP HF
            go_wp2_with (first | (go_at_call 48; refine (isKey_any _ _ hpm).mono ?_; rintro e w' ⟨rfl, rfl⟩) | (go_at_call 77; refine (isInteger_any _ _ hpm).mono ?_; rintro e w' ⟨rfl, rfl⟩))
            go_ret2
            exact ⟨_, by rw [HN.out]; rfl, by rw [HN.out]; exact StAtS.nil _ _ _, (Below.refl w.heap.size w).alloc (Nat.le_refl _) _ |>.trans (HI.out.below.mono (by simp))⟩

          · have hpe := empty_not (t := p) (by omega)
            have hp4' : decide (4 < (p.size : Int)) = false := decide_eq_false (by omega)
            have q45 : (((p[0]'(by assumption)).toNat : Int) == 45) = false := by rw [h3]; rfl
            have q48 : (((p[0]'(by assumption)).toNat : Int) == 48) = true := by rw [h3]; rfl
            have hne : (p.toList == [48]) = false := by
              rw [beq_eq_false_iff_ne, ByteArray.toList_eq]
              intro hp
              have : p.data.toList.length = p.size := by simp
              rw [hp] at this
              simp at this
              omega
            clear hnum HP HF
            go_wp2_with (first | (go_at_call 48; refine (isKey_any _ _ hpm).mono ?_; rintro e w' ⟨rfl, rfl⟩) | (go_at_call 77; refine (isInteger_any _ _ hpm).mono ?_; rintro e w' ⟨rfl, rfl⟩))
            go_ret2
            exact ⟨_, by rw [HN.out]; rfl, by rw [HN.out]; exact StAtS.nil _ _ _, (Below.refl w.heap.size w).alloc (Nat.le_refl _) _ |>.trans (HI.out.below.mono (by simp))⟩
        | true =>
          obtain ⟨nn, hat, hn1, hst⟩ := step_num hk hnum
          have HS := Lib.hid (stepS_B hst)
          have HCS : Hid (stcS ⟨⟨#[]⟩, nn⟩ = stc ⟨⟨#[]⟩, nn⟩) := by show _ = _; unfold stcS; rw [stepB_nostar hst]; rfl
          obtain ⟨h0, h3, h5, h6, h7⟩ := num_way p hnum
          have HAT := Lib.hid (fun w => Tryz.strconv_Atoi p nn (by omega) hat w)
          have hpe := empty_not (t := p) (by omega)
          have hp4' : decide (4 < (p.size : Int)) = false := decide_eq_false (by omega)
          have q45 : (((p[0]'(by assumption)).toNat : Int) == 45) = false := by rw [beq_eq_false_iff_ne]; omega
          have q48 : (((p[0]'(by assumption)).toNat : Int) == 48) = false ∨ ((((p[0]'(by assumption)).toNat : Int) == 48) = true ∧ (p.toList == [48]) = true) := by
            by_cases h48 : (p[0]'(by assumption)).toNat = 48
            · refine .inr ⟨by rw [h48]; rfl, ?_⟩
              have h1 := h7 h48
              rw [beq_iff_eq, ByteArray.toList_eq]
              have hl : p.data.toList.length = 1 := by rw [← h1]; simp
              have hc : p.data.toList[0]'(by omega) = p[0]'(by assumption) := by simp; rfl
              match hp : p.data.toList, hl with
              | [c], _ =>
                have : c = p[0]'(by assumption) := by rw [← hc]; simp [hp]
                rw [this]
                exact congrArg (fun x => [x]) (UInt8.toNat_inj.1 (by rw [h48]; rfl))
            · exact .inl (by rw [beq_eq_false_iff_ne]; omega)
          clear hnum h7 HF
          rcases q48 with q48 | ⟨q48, q49⟩
          all_goals
            go_wp2_with (first | (go_at_call 48; refine (isKey_any _ _ hpm).mono ?_; rintro e w' ⟨rfl, rfl⟩) | (go_at_call 77; refine (isInteger_any _ _ hpm).mono ?_; rintro e w' ⟨rfl, rfl⟩))
            refine (HAT.out _).mono ?_
            rintro e w2 ⟨rfl, t, hw2⟩
            have HB2 : Hid (Below wr.heap.size wr w2) := by show Below _ _ _; rw [hw2]; exact Go.Joins.below_bytesWorld _ _ _ _ (Nat.le_refl _)
            have HROW := Lib.hid ((own_below' HI.out.own HB2.out).alloc (.cells (stc ⟨⟨#[]⟩, nn⟩).toArray 106))
            have HNEW := Lib.hid (Sl.lit' w2 (stc ⟨⟨#[]⟩, nn⟩) 106 3 rfl)
            have HSZ : Hid ((w.alloc (.cells (ps.map Value.string).toArray 9)).heap.size ≤ (w2.alloc (.cells (stc ⟨⟨#[]⟩, nn⟩).toArray 106)).heap.size) := by have := HI.out.below.size; have := HB2.out.size; show _ ≤ _; simp at *; omega
            clear hw2 HAT
            go_wp2_with (at_builtin; refine wpList_append_sl _ rfl _ _ 95 rfl (w.alloc (.cells (ps.map Value.string).toArray 9)).heap.size 106 ti (.agg #[.string ⟨#[]⟩, .int .i64 0, .bool false]) 3 32 Tryz.underlying95 hti ht0 ht1 ht2 rfl (by decide) (.slice va j vc) j _ rfl HROW.out _ 1 _ rfl HNEW.out (by simp [stc, Value.oneCell']) (by unfold maxLen; omega) (by omega) HSZ.out ?_; intro v3 w3 hown3 hgr3 hat3)
            have HI2 := Lib.hid (HP.out _ HS.out _ HCS.out _ HB2.out _ _ _ hown3 hgr3)
            clear hown3 hgr3 hat3 HROW HNEW HP
            go_roundw
            case rel => exact ⟨j + 1, _, by go_num, HI2⟩
            case measure => simp [intOf]; omega
    · obtain rfl : j = ps.length := by omega
      have HQ : Hid (stepsS r = some l) := by
        show _ = _
        rw [HR.out, ← HI.out.st, List.take_length]
      have HS := Lib.hid (Sl.of_own HI.out.own (by decide))
      have HLL := Lib.hid HI.out.len
      go_wp2_with fail
      go_ret2
      exact ⟨_, by rw [HQ.out]; rfl, by rw [HQ.out]; show Sl _ _ _ _ _; rw [Option.getD_some, HLL.out]; exact HS.out, (Below.refl w.heap.size w).alloc (Nat.le_refl _) _ |>.trans (HI.out.below.mono (by simp))⟩
theorem star_any (r : ByteArray) (w : World) (m : Int) (hm : w.cell? ⟨1, 0, none⟩ = some (.int .i64 m)) (hr : r.size ≤ maxLen) :
    Calls Tryz.prog 55 #[.string r, .bool true] w fun e w' => ∃ v, e = .returned (.tuple #[v, .bool (stepsS r).isSome]) ∧ StAtS w' v ((stepsS r).getD []) ∧ Below w.heap.size w w' := by
  unfold maxLen at hr
  by_cases h4 : 400 < r.size
  · have hd : decide (400 < (r.size : Int)) = true := decide_eq_true (by omega)
    have H : Hid (stepsS r = none) := by show _ = _; unfold stepsS; rw [if_pos h4]
    clear h4
    go_enter Tryz.func55, Tryz.ntmps55
    go_wp2_with fail
    go_ret2
    exact ⟨_, by rw [H.out]; rfl, by rw [H.out]; exact StAtS.nil _ _ _, Below.refl _ _⟩
  by_cases h0 : r.size = 0
  · have he := empty_of h0
    have hd : decide (400 < (r.size : Int)) = false := decide_eq_false (by omega)
    have H : Hid (stepsS r = some []) := by show _ = _; unfold stepsS; rw [if_neg h4, if_pos h0]
    clear h4 h0
    go_enter Tryz.func55, Tryz.ntmps55
    go_wp2_with fail
    go_ret2
    exact ⟨_, by rw [H.out]; rfl, by rw [H.out]; exact StAtS.nil _ _ _, Below.refl _ _⟩
  exact star_loop r w m hm h0 (by omega)
end Go.Proofs.YtejnoedlfbglcaaGreatDoor
