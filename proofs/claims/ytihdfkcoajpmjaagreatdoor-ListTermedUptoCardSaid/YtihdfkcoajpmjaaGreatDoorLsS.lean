/- list.steps: the steps of a route, as a function of the route alone. Conditions: none but the string's size. -/
import Derived.Test.YtihdfkcoajpmjaaGreatDoorLsG
import Derived.Test.YtihdfkcoajpmjaaGreatDoorLsP
import Derived.Maps.AppendAt
namespace Mh
open Go Go.RowKit
set_option linter.unusedVariables false
/-- The number of a part: each byte a digit, at most four. -/
def lsNum : List UInt8 → Nat → Nat → Option Nat
  | [], _, n => some n
  | c :: r, k, n => if digB c = true ∧ k ≤ 3 then lsNum r (k + 1) (10 * n + (c.toNat - 48)) else none
def lsPart (p : ByteArray) : Option St :=
  if isKeyL p.data.toList = true then some ⟨p, 0⟩
  else match lsNum p.data.toList 0 0 with
    | none => none
    | some n => if p.size = 0 ∨ (p.data.toList.head? = some 48 ∧ p.data.toList ≠ [48]) then none else some ⟨⟨#[]⟩, n⟩
/-- The steps from position r.size + 1 - m on, where a part has begun at f. -/
def lsGo (r : ByteArray) : Nat → Nat → List St → Option (List St)
  | 0, _, acc => some acc
  | m + 1, f, acc => if r.size - m < r.size ∧ r.data.toList[r.size - m]? ≠ some 46 then lsGo r m f acc
    else match lsPart (r.extract f (r.size - m)) with
      | none => none
      | some s => lsGo r m (r.size - m + 1) (acc ++ [s])
def lsSteps (r : ByteArray) : Option (List St) := if 400 < r.size then none else if r.size = 0 then some [] else lsGo r (r.size + 1) 0 []
theorem lsGo_pass {r : ByteArray} {j f : Nat} {acc : List St} (hj : j < r.size) (h : r[j] ≠ 46) : lsGo r (r.size + 1 - j) f acc = lsGo r (r.size + 1 - (j + 1)) f acc := by
  obtain ⟨m, hm⟩ : ∃ m, m = r.size - j := ⟨_, rfl⟩
  rw [show r.size + 1 - j = m + 1 by omega, show r.size + 1 - (j + 1) = m by omega, lsGo, if_pos]
  rw [show r.size - m = j by omega]
  refine ⟨hj, fun e => h ?_⟩
  rw [List.getElem?_eq_getElem (by simpa using hj)] at e
  have := Option.some.inj e
  rw [← this]; simp; rfl
theorem lsGo_part {r : ByteArray} {j f : Nat} {acc : List St} (hj : j ≤ r.size) (h : ∀ hj : j < r.size, r[j] = 46) : lsGo r (r.size + 1 - j) f acc = match lsPart (r.extract f j) with
      | none => none
      | some s => lsGo r (r.size + 1 - (j + 1)) (j + 1) (acc ++ [s]) := by
  obtain ⟨m, hm⟩ : ∃ m, m = r.size - j := ⟨_, rfl⟩
  rw [show r.size + 1 - j = m + 1 by omega, show r.size + 1 - (j + 1) = m by omega, lsGo, if_neg]
  · rw [show r.size - m = j by omega]
  · rw [show r.size - m = j by omega]
    rintro ⟨h1, h2⟩
    apply h2
    rw [List.getElem?_eq_getElem (by simpa using h1)]
    congr 1
    have := h h1
    rw [← this]; simp; rfl
theorem lsNum_step {p : ByteArray} {k n : Nat} (hk : k < p.size) : lsNum (p.data.toList.drop k) k n = if digB p[k] = true ∧ k ≤ 3 then lsNum (p.data.toList.drop (k + 1)) (k + 1) (10 * n + (p[k].toNat - 48)) else none := by
  have hl : k < p.data.toList.length := by simpa using hk
  rw [List.drop_eq_getElem_cons hl, lsNum]
  have : p.data.toList[k] = p[k] := by simp; rfl
  rw [this]
theorem lsNum_end {p : ByteArray} {n : Nat} : lsNum (p.data.toList.drop p.size) p.size n = some n := by
  rw [List.drop_eq_nil_of_le (by simp)]; rfl
/-- The cells of a step. -/
def lst (s : St) : List Value := [.string s.key, .int .i64 s.num]
def SuAt (w : World) (v : Value) (l : List St) : Prop := Sl 2 w v l.length (l.flatMap lst)
theorem SuAt.nil (w : World) : SuAt w (.slice none 0 0) [] := ⟨by simp, .inl ⟨rfl, _, _, rfl⟩⟩
end Mh
namespace Go.Proofs.YtihdfkcoajpmjaaGreatDoor
open Go.RowKit Mh
set_option linter.unusedVariables false
theorem infoLsStep : (Tryz.prog.info? 73).map (fun i => (i.zero, i.size, i.bytes)) = some (some (.agg #[.string ⟨#[]⟩, .int .i64 0]), 2, 24) := by kernel_rfl
theorem step_cells (w : World) (x0 x1 : Value) (t : TypeId) : ∀ j u, [x0, x1][j]? = some u → (w.alloc (.cells #[x0, x1] t)).cell? ((⟨w.heap.size, 0, none⟩ : Addr).add j) = some u := by
  intro j u hu
  rcases j with _ | _ | j
  · exact cellT (heap_alloc_new w _) hu
  · exact cellT (heap_alloc_new w _) hu
  · simp at hu
def StpP (r : ByteArray) (w : World) (e : Ending) (w' : World) : Prop := ∃ v, e = .returned (.tuple #[v, .bool (lsSteps r).isSome]) ∧ SuAt w' v ((lsSteps r).getD []) ∧ Below w.heap.size w w'
/-- Where the loop stands. -/
structure SuIn (r : ByteArray) (w wr : World) (j f : Nat) (v : Value) (acc : List St) : Prop where
  go : lsGo r (r.size + 1 - j) f acc = lsGo r (r.size + 1) 0 []
  own : wr.ownsRow w.heap.size 73 2 v acc.length (acc.flatMap lst)
  below : Below w.heap.size w wr
  len : acc.length ≤ j
set_option maxRecDepth 100000 in
set_option maxHeartbeats 8000000 in
theorem lsteps_any (r : ByteArray) (w : World) (hr : r.size ≤ maxLen) : Calls Tryz.prog 20 #[.string r] w (StpP r w) := by
  unfold maxLen at hr
  by_cases h4 : 400 < r.size
  · have H : Hid (lsSteps r = none) := by show _ = _; unfold lsSteps; rw [if_pos h4]
    have q : decide ((400 : Int) < (r.size : Int)) = true := decide_eq_true (by omega)
    have q' : decide (400 < r.size) = true := decide_eq_true h4
    clear h4
    go_enter Tryz.func20, Tryz.ntmps20
    go_wp2_with fail
    go_ret2
    exact ⟨_, by rw [H.out]; rfl, by rw [H.out]; exact SuAt.nil _, Below.refl _ _⟩
  have q : decide ((400 : Int) < (r.size : Int)) = false := decide_eq_false (by omega)
  have q' : decide (400 < r.size) = false := decide_eq_false h4
  by_cases h0 : r.size = 0
  · have H : Hid (lsSteps r = some []) := by show _ = _; unfold lsSteps; rw [if_neg h4, if_pos h0]
    have he := empty_of h0
    clear h4 h0
    go_enter Tryz.func20, Tryz.ntmps20
    go_wp2_with fail
    go_ret2
    exact ⟨_, by rw [H.out]; rfl, by rw [H.out]; exact SuAt.nil _, Below.refl _ _⟩
  have HR : Hid (lsSteps r = lsGo r (r.size + 1) 0 []) := by show _ = _; unfold lsSteps; rw [if_neg h4, if_neg h0]
  have he := empty_not h0
  have hr4 : r.size ≤ 400 := by omega
  have H0 : Hid (SuIn r w w 0 0 (.slice none 0 0) []) := ⟨rfl, World.ownsRow_nil _ _ _ _, Below.refl _ _, Nat.le_refl _⟩
  obtain ⟨ti, hti, ht0, ht1, ht2⟩ := info_parts infoLsStep
  clear h4 h0 hr
  go_enter Tryz.func20, Tryz.ntmps20
  go_wp2_with fail
  go_loopw [4, 5, 6] (fun v f i wr => ∃ (j f' : Nat) (acc : List St), i = .int .i64 j ∧ f = .int .i64 f' ∧ f' ≤ j ∧ j ≤ r.size + 1 ∧ Hid (SuIn r w wr j f' v acc)) (fun _ _ i _ => r.size + 1 - (intOf i).toNat)
  case atStart => exact ⟨0, 0, [], rfl, rfl, Nat.le_refl _, by omega, H0⟩
  case round =>
    clear H0 q q' he
    obtain ⟨j, f, acc, rfl, rfl, hfj, hj, HI⟩ := hrel
    obtain ⟨va, vc, hv⟩ := ownsRow_form HI.out.own
    subst hv
    have hlen := HI.out.len
    by_cases hje : j ≤ r.size
    · -- a byte, or the end
      by_cases hp : ∃ hjl : j < r.size, r[j] ≠ 46
      · obtain ⟨hjl, hne⟩ := hp
        have HI2 : Hid (SuIn r w wr (j + 1) f (.slice va acc.length vc) acc) := ⟨(lsGo_pass hjl hne).symm.trans HI.out.go, HI.out.own, HI.out.below, by omega⟩
        have qn : ((r[j].toNat : Int) != 46) = true := by
          rw [bne_iff_ne]
          intro e
          exact hne (UInt8.toNat_inj.1 (by show r[j].toNat = 46; omega))
        clear hne
        go_wp2_with fail
        go_roundw
        case rel => exact ⟨j + 1, f, acc, by go_num, rfl, by omega, by omega, HI2⟩
        case measure => simp [intOf]; omega
      · have hend : ∀ hjl : j < r.size, r[j] = 46 := fun hjl => by
          by_cases e : r[j] = 46
          · exact e
          · exact absurd ⟨hjl, e⟩ hp
        have HG : Hid (lsGo r (r.size + 1) 0 [] = match lsPart (r.extract f j) with
          | none => none
          | some s => lsGo r (r.size + 1 - (j + 1)) (j + 1) (acc ++ [s])) := HI.out.go.symm.trans (lsGo_part hje hend)
        have HEND := Lib.hid hend
        have hpz : (r.extract f j).size = j - f := by rw [ByteArray.size_extract]; omega
        have hpz4 : (r.extract f j).size ≤ 400 := by omega
        have HIS := Lib.hid (fun w' => lisKey_any (r.extract f j) w' (by unfold maxLen; omega))
        have HPD : Hid (lsPart (r.extract f j) = if isKeyL (r.extract f j).data.toList = true then some ⟨r.extract f j, 0⟩
          else match lsNum (r.extract f j).data.toList 0 0 with
            | none => none
            | some n => if (r.extract f j).size = 0 ∨ ((r.extract f j).data.toList.head? = some 48 ∧ (r.extract f j).data.toList ≠ [48]) then none else some ⟨⟨#[]⟩, n⟩) := rfl
        have HNX : Hid (∀ s, lsPart (r.extract f j) = some s → ∀ (ob : Obj) (v' : Value) (w' : World), w'.ownsRow w.heap.size 73 2 v' (acc.length + 1) (acc.flatMap lst ++ lst s) → (wr.alloc ob).grownBy w' (Value.slice va acc.length vc).ownBlock → SuIn r w w' (j + 1) (j + 1) v' (acc ++ [s])) := fun s hs ob v' w' hown hgr => by
          refine ⟨?_, ?_, ?_, ?_⟩
          · have := HG.out; rw [hs] at this; exact this.symm
          · rw [List.length_append, List.flatMap_append]; simpa using hown
          · have hz := HI.out.below.size
            exact (HI.out.below.alloc (by omega) ob).grown hgr (by simp; omega) fun k hk => (HI.out.own.lt k hk).1
          · rw [List.length_append]; simp; omega
        have HNO : Hid (lsPart (r.extract f j) = none → lsSteps r = none) := fun h => by
          rw [HR.out]; have := HG.out; rw [h] at this; exact this
        have HROW := Lib.hid (fun ob => HI.out.own.alloc ob)
        have HBW := Lib.hid HI.out.below
        have hzw : w.heap.size ≤ wr.heap.size := HI.out.below.size
        clear HG hend hp HI
        -- S1
        cases hk : isKeyL (r.extract f j).data.toList with
        | true =>
          have HS : Hid (lsPart (r.extract f j) = some ⟨r.extract f j, 0⟩) := by have := HPD.out; rw [if_pos hk] at this; exact this
          rw [hk] at HIS
          have HX := Lib.hid (HNX.out _ HS.out)
          unfold lst at HX
          clear HPD HNX HNO hk HS hpz
          by_cases hjl : j < r.size
          · have qe : ((r[j].toNat : Int) != 46) = false := by rw [HEND.out hjl]; rfl
            clear HEND
            go_wp2_with (first | (go_at_call 38; refine (HIS.out _).mono ?_; rintro e w' ⟨rfl, rfl⟩) | (at_builtin; go_loud (refine wpList_append_own_at _ rfl _ _ 56 rfl w.heap.size 73 ti (.agg #[.string ⟨#[]⟩, .int .i64 0]) 2 24 Tryz.underlying56 hti ht0 ht1 ht2 rfl (by decide) _ _ _ rfl (HROW.out _) ⟨wr.heap.size, 0, none⟩ 1 1 [.string (r.extract f j), .int .i64 0] rfl rfl (step_cells _ _ _ _) (by simp [Value.oneCell']) (by unfold maxLen; omega) (by omega) (by simp; omega) ?_); intro v' w' hown' hgr hnil hat; have HI3 := Lib.hid (HX.out _ _ _ hown' hgr); clear hown' hgr hnil hat))
            go_roundw
            case rel => exact ⟨j + 1, j + 1, _, by go_num, by go_num, by omega, by omega, HI3⟩
            case measure => simp [intOf]; omega
          · clear HEND
            go_wp2_with (first | (go_at_call 38; refine (HIS.out _).mono ?_; rintro e w' ⟨rfl, rfl⟩) | (at_builtin; go_loud (refine wpList_append_own_at _ rfl _ _ 56 rfl w.heap.size 73 ti (.agg #[.string ⟨#[]⟩, .int .i64 0]) 2 24 Tryz.underlying56 hti ht0 ht1 ht2 rfl (by decide) _ _ _ rfl (HROW.out _) ⟨wr.heap.size, 0, none⟩ 1 1 [.string (r.extract f j), .int .i64 0] rfl rfl (step_cells _ _ _ _) (by simp [Value.oneCell']) (by unfold maxLen; omega) (by omega) (by simp; omega) ?_); intro v' w' hown' hgr hnil hat; have HI3 := Lib.hid (HX.out _ _ _ hown' hgr); clear hown' hgr hnil hat))
            go_roundw
            case rel => exact ⟨j + 1, j + 1, _, by go_num, by go_num, by omega, by omega, HI3⟩
            case measure => simp [intOf]; omega
        | false =>
          have HPN : Hid (lsPart (r.extract f j) = match lsNum (r.extract f j).data.toList 0 0 with
            | none => none
            | some n => if (r.extract f j).size = 0 ∨ ((r.extract f j).data.toList.head? = some 48 ∧ (r.extract f j).data.toList ≠ [48]) then none else some ⟨⟨#[]⟩, n⟩) := by have := HPD.out; rw [if_neg (by rw [hk]; decide)] at this; exact this
          rw [hk] at HIS
          have HBE : Hid (lsNum (r.extract f j).data.toList 0 0 = none → lsSteps r = none) := fun h => HNO.out (by rw [HPN.out, h])
          have HBD : Hid (∀ n, lsNum (r.extract f j).data.toList 0 0 = some n → ((r.extract f j).size = 0 ∨ ((r.extract f j).data.toList.head? = some 48 ∧ (r.extract f j).data.toList ≠ [48])) → lsSteps r = none) := fun n h g => HNO.out (by rw [HPN.out, h]; exact if_pos g)
          have HGD : Hid (∀ n, lsNum (r.extract f j).data.toList 0 0 = some n → ¬ ((r.extract f j).size = 0 ∨ ((r.extract f j).data.toList.head? = some 48 ∧ (r.extract f j).data.toList ≠ [48])) → lsPart (r.extract f j) = some ⟨⟨#[]⟩, n⟩) := fun n h g => by rw [HPN.out, h]; exact if_neg g
          have HS0 : Hid (lsNum ((r.extract f j).data.toList.drop 0) 0 0 = lsNum (r.extract f j).data.toList 0 0) := rfl
          clear HPD HNO hk HPN
          have qe : (j < r.size ∧ ∃ hjl : j < r.size, ((r[j].toNat : Int) != 46) = false) ∨ ¬ j < r.size := by
            by_cases hjl : j < r.size
            · exact .inl ⟨hjl, hjl, by rw [HEND.out hjl]; rfl⟩
            · exact .inr hjl
          clear HEND
          rcases qe with ⟨hjl, _, qe⟩ | hjl
          all_goals
            go_wp2_with (go_at_call 38; refine (HIS.out _).mono ?_; rintro e w' ⟨rfl, rfl⟩)
            go_loopw [8, 9] (fun x y wx => ∃ (k n : Nat), y = .int .i64 k ∧ x = .int .i64 n ∧ k ≤ (r.extract f j).size ∧ k ≤ 4 ∧ n < 10 ^ k ∧ wx = wr ∧ Hid (lsNum ((r.extract f j).data.toList.drop k) k n = lsNum (r.extract f j).data.toList 0 0)) (fun _ y _ => (r.extract f j).size - (intOf y).toNat)
            case atStart => exact ⟨0, 0, rfl, rfl, Nat.zero_le _, by omega, by decide, rfl, HS0⟩
            case round =>
              clear HS0 HIS
              obtain ⟨k, n, rfl, rfl, hk, hk4, hn, rfl, HL⟩ := hrel
              by_cases hkl : k < (r.extract f j).size
              · have HD := Lib.hid (fun w' => ldigit_any (r.extract f j)[k] w')
                have HST := Lib.hid (HL.out.symm.trans (lsNum_step hkl))
                cases hd : digB (r.extract f j)[k] with
                | false =>
                  have HN := Lib.hid (HBE.out (by rw [HST.out, if_neg (by rw [hd]; simp)]))
                  rw [hd] at HD
                  clear hd HST HBE HBD HGD HNX HL
                  go_wp2_with (go_at_call 39; refine (HD.out _).mono ?_; rintro e w' ⟨rfl, rfl⟩)
                  go_ret2
                  exact ⟨_, by rw [HN.out]; rfl, by rw [HN.out]; exact SuAt.nil _, HBW.out⟩
                | true =>
                  rw [hd] at HD
                  have hd2 : 48 ≤ (r.extract f j)[k].toNat ∧ (r.extract f j)[k].toNat ≤ 57 := of_decide_eq_true hd
                  by_cases hk3 : k ≤ 3
                  · have HS1 : Hid (lsNum ((r.extract f j).data.toList.drop (k + 1)) (k + 1) (10 * n + ((r.extract f j)[k].toNat - 48)) = lsNum (r.extract f j).data.toList 0 0) := by
                      have := HST.out; rw [if_pos ⟨hd, hk3⟩] at this; exact this.symm
                    have hn2 : 10 * n + ((r.extract f j)[k].toNat - 48) < 10 ^ (k + 1) := by rw [Nat.pow_succ]; omega
                    have hn9 : n < 1000 := Nat.lt_of_lt_of_le hn (Nat.pow_le_pow_right (by decide) hk3 : 10 ^ k ≤ 10 ^ 3)
                    have q3 : decide ((3 : Int) < (k : Int)) = false := decide_eq_false (by omega)
                    have q3' : decide (3 < k) = false := decide_eq_false (by omega)
                    have hcast : 10 * (n : Int) + (((r.extract f j)[k].toNat : Int) - 48) = ((10 * n + ((r.extract f j)[k].toNat - 48) : Nat) : Int) := by omega
                    have HN2 := Lib.hid hn2
                    have HCA := Lib.hid hcast
                    clear hd HST HBE HBD HGD HNX HL hn hn2 hcast
                    go_wp2_with (go_at_call 39; refine (HD.out _).mono ?_; rintro e w' ⟨rfl, rfl⟩)
                    go_roundw
                    case rel => exact ⟨k + 1, _, by go_num, by rw [← HCA.out], by omega, by omega, HN2.out, (by first | rfl | trivial), HS1⟩
                    case measure => simp [intOf]; omega
                  · have HN := Lib.hid (HBE.out (by rw [HST.out, if_neg (by rintro ⟨_, h⟩; exact hk3 h)]))
                    have q3 : decide ((3 : Int) < (k : Int)) = true := decide_eq_true (by omega)
                    have q3' : decide (3 < k) = true := decide_eq_true (by omega)
                    clear hd HST HBE HBD HGD HNX HL hn
                    go_wp2_with (go_at_call 39; refine (HD.out _).mono ?_; rintro e w' ⟨rfl, rfl⟩)
                    go_ret2
                    exact ⟨_, by rw [HN.out]; rfl, by rw [HN.out]; exact SuAt.nil _, HBW.out⟩
              · have hke : k = (r.extract f j).size := by omega
                have HE : Hid (lsNum (r.extract f j).data.toList 0 0 = some n) := by
                  have := HL.out; rw [hke, lsNum_end] at this; exact this.symm
                have hn9 : n < 10000 := Nat.lt_of_lt_of_le hn (Nat.pow_le_pow_right (by decide) hk4 : 10 ^ k ≤ 10 ^ 4)
                have HB2 := Lib.hid (HBD.out n HE.out)
                have HG2 := Lib.hid (HGD.out n HE.out)
                clear HL HBE HBD HGD hke hn
                by_cases hz : (r.extract f j).size = 0
                · have HN := Lib.hid (HB2.out (.inl hz))
                  have hpe := empty_of hz
                  clear HB2 HG2 HNX
                  go_wp2_with fail
                  go_ret2
                  exact ⟨_, by rw [HN.out]; rfl, by rw [HN.out]; exact SuAt.nil _, HBW.out⟩
                have hpe := empty_not hz
                have hz0 : 0 < (r.extract f j).size := by omega
                have hh : (r.extract f j).data.toList.head? = some ((r.extract f j)[0]'hz0) := by
                  rw [List.head?_eq_getElem?, List.getElem?_eq_getElem (by rw [Array.length_toList]; exact hz0)]
                  congr 1
                by_cases h48 : (r.extract f j)[0]'hz0 = 48
                · have q48 : ((((r.extract f j)[0]'hz0).toNat : Int) == 48) = true := by rw [h48]; rfl
                  by_cases h1 : (r.extract f j).data.toList = [48]
                  · have HX := Lib.hid (HNX.out _ (HG2.out (by rintro (h | h); exact hz h; exact h.2 h1)))
                    have q49 : ((r.extract f j).toList == [48]) = true := by rw [ByteArray.toList_eq, h1]; rfl
                    unfold lst at HX
                    clear HB2 HG2 HNX hh h48 h1 hz
                    go_wp2_with (at_builtin; go_loud (refine wpList_append_own_at _ rfl _ _ 56 rfl w.heap.size 73 ti (.agg #[.string ⟨#[]⟩, .int .i64 0]) 2 24 Tryz.underlying56 hti ht0 ht1 ht2 rfl (by decide) _ _ _ rfl (HROW.out _) ⟨wr.heap.size, 0, none⟩ 1 1 [.string ⟨#[]⟩, .int .i64 n] rfl rfl (step_cells _ _ _ _) (by simp [Value.oneCell']) (by unfold maxLen; omega) (by omega) (by simp; omega) ?_); intro v' w' hown' hgr hnil hat; have HI3 := Lib.hid (HX.out _ _ _ hown' hgr); clear hown' hgr hnil hat)
                    go_roundw
                    case rel => exact ⟨j + 1, j + 1, _, by go_num, by go_num, by omega, by omega, HI3⟩
                    case measure => simp [intOf]; omega
                  · have HN := Lib.hid (HB2.out (.inr ⟨by rw [hh, h48], h1⟩))
                    have q49 : ((r.extract f j).toList == [48]) = false := by rw [beq_eq_false_iff_ne, ByteArray.toList_eq]; exact h1
                    clear HB2 HG2 HNX hh h48 h1 hz
                    go_wp2_with fail
                    go_ret2
                    exact ⟨_, by rw [HN.out]; rfl, by rw [HN.out]; exact SuAt.nil _, HBW.out⟩
                · have q48 : ((((r.extract f j)[0]'hz0).toNat : Int) == 48) = false := by
                    rw [beq_eq_false_iff_ne]
                    intro e
                    exact h48 (UInt8.toNat_inj.1 (by show _ = 48; omega))
                  have HX := Lib.hid (HNX.out _ (HG2.out (by rintro (h | h); exact hz h; exact h48 (by rw [hh] at h; exact Option.some.inj h.1))))
                  unfold lst at HX
                  clear HB2 HG2 HNX hh h48 hz
                  go_wp2_with (at_builtin; go_loud (refine wpList_append_own_at _ rfl _ _ 56 rfl w.heap.size 73 ti (.agg #[.string ⟨#[]⟩, .int .i64 0]) 2 24 Tryz.underlying56 hti ht0 ht1 ht2 rfl (by decide) _ _ _ rfl (HROW.out _) ⟨wr.heap.size, 0, none⟩ 1 1 [.string ⟨#[]⟩, .int .i64 n] rfl rfl (step_cells _ _ _ _) (by simp [Value.oneCell']) (by unfold maxLen; omega) (by omega) (by simp; omega) ?_); intro v' w' hown' hgr hnil hat; have HI3 := Lib.hid (HX.out _ _ _ hown' hgr); clear hown' hgr hnil hat)
                  go_roundw
                  case rel => exact ⟨j + 1, j + 1, _, by go_num, by go_num, by omega, by omega, HI3⟩
                  case measure => simp [intOf]; omega
        -- E1
    · have HQ : Hid (lsSteps r = some acc) := by
        show _ = _
        rw [HR.out, ← HI.out.go, show r.size + 1 - j = 0 by omega]; rfl
      have HS := Lib.hid (Sl.of_own HI.out.own (by decide))
      have HBW := Lib.hid HI.out.below
      clear HI
      go_wp2_with fail
      go_ret2
      exact ⟨_, by rw [HQ.out]; rfl, by rw [HQ.out]; exact HS.out, HBW.out⟩
end Go.Proofs.YtihdfkcoajpmjaaGreatDoor
