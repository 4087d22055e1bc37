/- asset.idle. Conditions: where the tokens lie; how many there are. -/
import Derived.Test.YtckinhebbhflgaaTkN
import Derived.Laws.MakeOwn
namespace Go.Proofs.Ytckinhebbhflgaa
open Go.RowKit Mh
set_option linter.unusedVariables false

/-- For each token whether it is idle. -/
def idleL : List Tk → List Bool
  | [] => []
  | t :: l => (if t.kind = 4 then false else am t [59] && ends l) :: idleL l
theorem idleL_len : ∀ l, (idleL l).length = l.length
  | [] => rfl
  | t :: l => by simp [idleL, idleL_len l]
theorem idleL_drop : ∀ (l : List Tk) (k : Nat) (h : k < l.length), (idleL l).drop k = (if l[k].kind = 4 then false else am l[k] [59] && ends (l.drop (k + 1))) :: (idleL l).drop (k + 1)
  | [], k, h => by simp at h
  | t :: l, 0, _ => rfl
  | t :: l, k + 1, h => by
    have := idleL_drop l k (by simpa using h)
    simp only [idleL, List.drop_succ_cons, List.getElem_cons_succ]
    exact this
theorem ends_drop (l : List Tk) (k : Nat) (h : k < l.length) : ends (l.drop k) = if l[k].kind = 4 then ends (l.drop (k + 1)) else if am l[k] [59] then ends (l.drop (k + 1)) else am l[k] [125] := by
  rw [List.drop_eq_getElem_cons h, ends]
/-- What idle's row holds when the tokens from m on are done. -/
def idRow (l : List Tk) (m : Nat) : List Value := List.replicate m (.bool false) ++ ((idleL l).drop m).map Value.bool
theorem idRow_len (l : List Tk) (m : Nat) (h : m ≤ l.length) : (idRow l m).length = l.length := by simp [idRow, idleL_len]; omega
theorem idRow_same (l : List Tk) (k : Nat) (h : k < l.length) (hb : (if l[k].kind = 4 then false else am l[k] [59] && ends (l.drop (k + 1))) = false) : idRow l (k + 1) = idRow l k := by
  unfold idRow
  rw [idleL_drop l k h, hb, List.replicate_succ', List.append_assoc]
  rfl
theorem idRow_set (l : List Tk) (k : Nat) (h : k < l.length) (b : Bool) (hb : (if l[k].kind = 4 then false else am l[k] [59] && ends (l.drop (k + 1))) = b) : (idRow l (k + 1)).set k (.bool b) = idRow l k := by
  unfold idRow
  rw [idleL_drop l k h, hb, List.replicate_succ', List.append_assoc, List.set_append_right _ _ (by simp)]
  simp
theorem boolInfo : (Try.prog.info? 4).map (fun i => (i.zero, i.size, i.bytes)) = some (some (.bool false), 1, 1) := by kernel_rfl
theorem made_one (z : Value) (n : Nat) : madeCells #[z] n = (List.replicate n z).toArray := by
  apply Array.ext
  · simp [madeCells]
  · intro i h1 h2
    simp [madeCells, Nat.mod_one]
set_option maxRecDepth 100000 in
set_option maxHeartbeats 4000000 in
theorem idle_any (l : List Tk) (v : Value) (w : World) (h : Sl 2 w v l.length (rowsT l)) (hn : l.length ≤ 1000000) :
    Calls Try.prog 30 #[v] w fun e w' => e = .returned (.slice (some ⟨w.heap.size, 0, none⟩) l.length l.length) ∧ w'.heap[w.heap.size]? = some (.cells (idRow l 0).toArray 4 (0, 0)) ∧ Below w.heap.size w w' := by
  obtain ⟨bi, hbi, hbz0, hbz1, hbz2⟩ := info_parts boolInfo
  obtain ⟨ao, c, rfl, hk⟩ := tok_at h
  have HK := Lib.hid hk
  have hmk : ∀ w : World, (Instr.makeSlice 68 (.int .i64 (l.length : Int)) (.int .i64 (l.length : Int))).run Try.prog w = .ok (.slice (some ⟨w.heap.size, 0, none⟩) l.length l.length) (w.alloc (.cells (idRow l l.length).toArray 4)) := by
    intro w
    rw [run_makeSlice (P := Try.prog) w 68 4 bi (.bool false) Try.underlying68 hbi hbz0 .i64 .i64 (l.length : Int) (l.length : Int) (by omega) (by omega) (by rw [hbz1]; omega) (by rw [hbz2]; omega) (by omega)]
    have e : madeCells (Value.bool false).cells ((l.length : Int).toNat * bi.size) = (idRow l l.length).toArray := by
      rw [hbz1]
      unfold idRow
      rw [List.drop_eq_nil_of_le (by rw [idleL_len]; exact Nat.le_refl _), Int.toNat_natCast, Nat.mul_one, List.map_nil, List.append_nil]
      exact made_one _ _
    rw [e, Int.toNat_natCast]
  clear h hk
  go_enter Try.func30, Try.ntmps30
  go_wp2_with fail
  go_loopw [4, 5] (fun x i wr => ∃ (m : Nat) (z : Int), m ≤ l.length ∧ z = (m : Int) - 1 ∧ i = .int .i64 z ∧ x = .bool (ends (l.drop m)) ∧ Hid (wr.heap[w.heap.size]? = some (.cells (idRow l m).toArray 4 (0, 0))) ∧ Hid (Below w.heap.size w wr)) (fun _ i _ => (intOf i + 1).toNat)
  case atStart => exact ⟨l.length, _, Nat.le_refl _, rfl, rfl, by rw [List.drop_eq_nil_of_le (Nat.le_refl _)]; rfl, heap_alloc_new _ _, (Below.refl _ w).alloc (Nat.le_refl _) _⟩
  case round =>
    obtain ⟨m, z, hm, hz, rfl, rfl, HG, HB⟩ := hrel
    have hwr : w.heap.size < wr.heap.size := (Array.getElem?_eq_some_iff.1 HG.out).1
    cases m with
    | zero =>
      obtain rfl : z = -1 := by omega
      clear hz
      have q : decide ((0 : Int) ≤ -1) = false := by decide
      go_wp2_with fail
      go_ret
      exact ⟨rfl, HG.out, HB.out⟩
    | succ k =>
      obtain rfl : z = (k : Int) := by omega
      clear hz
      have hkl : k < l.length := by omega
      obtain ⟨b, off, rfl, hlt, c0, c1⟩ := HK.out k hkl
      have d0 := (HB.out.cell (p := ⟨b, off + k * 2, none⟩) hlt).trans c0
      have d1 := (HB.out.cell (p := ⟨b, off + k * 2 + 1, none⟩) hlt).trans c1
      have HE := Lib.hid (ends_drop l k hkl)
      have HS := Lib.hid (idRow_same l k hkl)
      have HT := Lib.hid (fun b => idRow_set l k hkl b)
      have HA1 := Lib.hid (fun w' => among_any l[k].kind ⟨l[k].text.toArray⟩ ⟨#[59]⟩ w')
      have HA2 := Lib.hid (fun w' => among_any l[k].kind ⟨l[k].text.toArray⟩ ⟨#[125]⟩ w')
      have e1 : am ⟨l[k].kind, (⟨l[k].text.toArray⟩ : ByteArray).data.toList⟩ (⟨#[59]⟩ : ByteArray).data.toList = am l[k] [59] := by simp
      have e2 : am ⟨l[k].kind, (⟨l[k].text.toArray⟩ : ByteArray).data.toList⟩ (⟨#[125]⟩ : ByteArray).data.toList = am l[k] [125] := by simp
      rw [e1] at HA1
      rw [e2] at HA2
      have HLN : Hid ((idRow l (k + 1)).length = l.length) := idRow_len l _ hm
      have HF : Hid ((idRow l (k + 1))[k]? = some (.bool false)) := by
        show _ = _
        unfold idRow
        rw [List.getElem?_append_left (by simp)]
        simp
      clear e1 e2 c0 c1
      obtain ⟨K, hK⟩ : ∃ K, K = l[k].kind := ⟨_, rfl⟩
      obtain ⟨S, hS⟩ : ∃ S : ByteArray, S = ⟨l[k].text.toArray⟩ := ⟨_, rfl⟩
      rw [← hK] at d0 HE HS HT HA1 HA2
      rw [← hS] at d1 HA1 HA2
      generalize am l[k] [59] = A1 at *
      generalize am l[k] [125] = A2 at *
      generalize ends (l.drop (k + 1)) = E1 at *
      clear hK hS
      obtain ⟨W, hW⟩ : ∃ W, W = wr.alloc (.cells #[.int .i64 K, .string S] 33) := ⟨_, rfl⟩
      have HBW : Hid (Below w.heap.size w W) := by show Below _ _ _; rw [hW]; exact HB.out.alloc (Nat.le_of_lt hwr) _
      have HGW : Hid (W.heap[w.heap.size]? = some (.cells (idRow l (k + 1)).toArray 4 (0, 0))) := by show _ = _; rw [hW]; exact (heap_alloc_old _ _ hwr).trans HG.out
      have HPW : Hid (W.heap[wr.heap.size]? = some (.cells #[.int .i64 K, .string S] 33 (0, 0))) := by show _ = _; rw [hW]; exact heap_alloc_new _ _
      have hz1 : wr.heap.size < W.heap.size := by rw [hW]; simp
      have p0 : W.cell? ⟨wr.heap.size, 0, none⟩ = some (.int .i64 K) := cellT HPW.out rfl
      have p1 : W.cell? ⟨wr.heap.size, 1, none⟩ = some (.string S) := cellT HPW.out rfl
      by_cases h4 : K = 4
      · have q : (K == 4) = true := by simpa using h4
        have HE2 : Hid (ends (l.drop k) = E1) := by show _ = _; rw [HE.out, if_pos h4]
        have HS2 : Hid (idRow l (k + 1) = idRow l k) := HS.out (by rw [if_pos h4])
        have hKK : K = 4 := h4
        subst hKK
        clear h4 q
        go_wp2_with fail
        rw [← hW]
        clear hW
        go_wp2_with fail
        go_roundw
        case rel => exact ⟨k, _, by omega, rfl, rfl, by rw [HE2.out], by show _ = _; rw [← HS2.out]; exact HGW.out, HBW⟩
        case measure => simp [intOf] <;> omega
      · have q : (K == 4) = false := beq_eq_false_iff_ne.2 h4
        cases A1 with
        | true =>
          have HE2 : Hid (ends (l.drop k) = E1) := by show _ = _; rw [HE.out, if_neg h4, if_pos rfl]
          have HT2 : Hid ((idRow l (k + 1)).set k (.bool E1) = idRow l k) := HT.out E1 (by rw [if_neg h4]; rfl)
          clear h4
          go_wp2_with fail
          rw [← hW]
          refine (HA1.out W).mono ?_
          rintro e w2 ⟨rfl, hb2⟩
          have HG2 : Hid (w2.heap[w.heap.size]? = some (.cells (idRow l (k + 1)).toArray 4 (0, 0))) := (hb2.block w.heap.size (Nat.lt_trans hwr hz1)).trans HGW.out
          have HB2 : Hid (Below w.heap.size w w2) := HBW.out.trans (hb2.mono HBW.out.size)
          have g0 : w2.cell? ⟨w.heap.size, k, none⟩ = some (.bool false) := cellT HG2.out (by rw [List.getElem?_toArray]; exact HF.out)
          have f0 : w2.frozen? ⟨w.heap.size, k, none⟩ = false := frozenT HG2.out
          clear hW hb2
          go_wp2_with fail
          go_roundw
          case rel =>
            refine ⟨k, _, by omega, rfl, rfl, by rw [HE2.out], ?_, HB2.out.setCell (Nat.le_refl _) _⟩
            show _ = _
            rw [heap_setCell_same _ _ k _ _ _ HG2.out, ← HT2.out]
            simp
          case measure => simp [intOf] <;> omega
        | false =>
          have HE2 : Hid (ends (l.drop k) = A2) := by show _ = _; rw [HE.out, if_neg h4, if_neg (by decide)]
          have HS2 : Hid (idRow l (k + 1) = idRow l k) := HS.out (by rw [if_neg h4]; rfl)
          clear h4
          go_wp2_with fail
          rw [← hW]
          refine (HA1.out W).mono ?_
          rintro e w2 ⟨rfl, hb2⟩
          have HG2 : Hid (w2.heap[w.heap.size]? = some (.cells (idRow l (k + 1)).toArray 4 (0, 0))) := (hb2.block w.heap.size (Nat.lt_trans hwr hz1)).trans HGW.out
          have HB2 : Hid (Below w.heap.size w w2) := HBW.out.trans (hb2.mono HBW.out.size)
          have HP2 : Hid (w2.heap[wr.heap.size]? = some (.cells #[.int .i64 K, .string S] 33 (0, 0))) := (hb2.block wr.heap.size hz1).trans HPW.out
          have r0 : w2.cell? ⟨wr.heap.size, 0, none⟩ = some (.int .i64 K) := cellT HP2.out rfl
          have r1 : w2.cell? ⟨wr.heap.size, 1, none⟩ = some (.string S) := cellT HP2.out rfl
          have hz2 : w.heap.size < w2.heap.size := Nat.lt_of_lt_of_le (Nat.lt_trans hwr hz1) hb2.size
          clear hW hb2
          go_wp2_with fail
          refine (HA2.out w2).mono ?_
          rintro e w3 ⟨rfl, hb3⟩
          have HG3 : Hid (w3.heap[w.heap.size]? = some (.cells (idRow l (k + 1)).toArray 4 (0, 0))) := (hb3.block w.heap.size hz2).trans HG2.out
          have HB3 : Hid (Below w.heap.size w w3) := HB2.out.trans (hb3.mono HB2.out.size)
          clear hb3
          go_wp2_with fail
          go_roundw
          case rel => exact ⟨k, _, by omega, rfl, rfl, by rw [HE2.out], by show _ = _; rw [← HS2.out]; exact HG3.out, HB3⟩
          case measure => simp [intOf] <;> omega
end Go.Proofs.Ytckinhebbhflgaa
