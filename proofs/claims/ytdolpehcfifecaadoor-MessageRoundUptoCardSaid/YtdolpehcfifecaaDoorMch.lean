/- Messages in memory, piece by piece; lang.piecesDeep, piecesMany. Conditions: sums below 10^9. -/
import Derived.Test.YtdolpehcfifecaaDoorProg
import Derived.Test.YtdolpehcfifecaaDoorMgM
import Derived.Test.YtdolpehcfifecaaDoorMcg
import Derived.Outline
namespace Mh
open Go Go.RowKit
set_option linter.unusedVariables false
def PsIn (w : World) (v : Value) (ps : List Pc) : Prop := ∃ rows : List Value, Sl 3 w v ps.length rows ∧ PcsAt w ps rows
def WsIn (w : World) (v : Value) (ws : List Wy) : Prop := ∃ rows : List Value, Sl 4 w v ws.length rows ∧ WysAt w ws rows
theorem PsIn.keep {w w' : World} {v : Value} {ps : List Pc} (h : PsIn w v ps) (hb : Below w.heap.size w w') : PsIn w' v ps := by
  obtain ⟨rows, h1, h2⟩ := h
  exact ⟨rows, h1.keeps (Keeps.below hb), h2.keeps (Keeps.below hb)⟩
theorem WsIn.keep {w w' : World} {v : Value} {ws : List Wy} (h : WsIn w v ws) (hb : Below w.heap.size w w') : WsIn w' v ws := by
  obtain ⟨rows, h1, h2⟩ := h
  exact ⟨rows, h1.keeps (Keeps.below hb), h2.keeps (Keeps.below hb)⟩
theorem sl_cells {k n : Nat} {w : World} {v : Value} {rows : List Value} (h : Sl k w v n rows) :
    ∃ ao c, v = .slice ao n c ∧ n ≤ maxLen ∧ ∀ i, i < n → ∃ b off, ao = some ⟨b, off, none⟩ ∧ b < w.heap.size ∧ ∀ q u, rows[q]? = some u → w.cell? ⟨b, off + q, none⟩ = some u := by
  rcases h.2 with ⟨rfl, a, c, rfl⟩ | ⟨b, off, c, rfl, hn, hc, hm, hlt, hcell⟩
  · exact ⟨a, c, rfl, Nat.zero_le _, fun i hi => by omega⟩
  · exact ⟨_, c, rfl, by omega, fun i hi => ⟨b, off, rfl, hlt, hcell⟩⟩
/-- The cells of one piece of a message. -/
def PcC (w : World) (b o : Nat) (kd : Int) (tx : ByteArray) (n : Nat) (xa : Option Addr) (xc : Nat) : Prop :=
  w.cell? ⟨b, o, none⟩ = some (.int .i64 kd) ∧ w.cell? ⟨b, o + 1, none⟩ = some (.string tx) ∧ w.cell? ⟨b, o + 2, none⟩ = some (.slice xa n xc)
/-- The cells of one way of a piece. -/
def WyC (w : World) (b o : Nat) (wd : ByteArray) (ex fm : Int) (n : Nat) (xa : Option Addr) (xc : Nat) : Prop :=
  w.cell? ⟨b, o, none⟩ = some (.string wd) ∧ w.cell? ⟨b, o + 1, none⟩ = some (.int .i64 ex) ∧ w.cell? ⟨b, o + 2, none⟩ = some (.int .i64 fm) ∧ w.cell? ⟨b, o + 3, none⟩ = some (.slice xa n xc)
theorem PcC.later {w w' : World} {b o n : Nat} {kd : Int} {tx : ByteArray} {xa : Option Addr} {xc : Nat} (h : PcC w b o kd tx n xa xc) (hb : Below w.heap.size w w') (hlt : b < w.heap.size) : PcC w' b o kd tx n xa xc :=
  ⟨(hb.cell (p := ⟨b, _, none⟩) hlt).trans h.1, (hb.cell (p := ⟨b, _, none⟩) hlt).trans h.2.1, (hb.cell (p := ⟨b, _, none⟩) hlt).trans h.2.2⟩
theorem WyC.later {w w' : World} {b o n : Nat} {wd : ByteArray} {ex fm : Int} {xa : Option Addr} {xc : Nat} (h : WyC w b o wd ex fm n xa xc) (hb : Below w.heap.size w w') (hlt : b < w.heap.size) : WyC w' b o wd ex fm n xa xc :=
  ⟨(hb.cell (p := ⟨b, _, none⟩) hlt).trans h.1, (hb.cell (p := ⟨b, _, none⟩) hlt).trans h.2.1, (hb.cell (p := ⟨b, _, none⟩) hlt).trans h.2.2.1, (hb.cell (p := ⟨b, _, none⟩) hlt).trans h.2.2.2⟩
theorem PsIn.item {w : World} {v : Value} {ps : List Pc} (h : PsIn w v ps) :
    ∃ ao c, v = .slice ao ps.length c ∧ ps.length ≤ maxLen ∧ ∀ k, k < ps.length → ∃ kd tx ws b off xa xc, ao = some ⟨b, off, none⟩ ∧ b < w.heap.size ∧ ps.drop k = .mk kd tx ws :: ps.drop (k + 1) ∧ sizeOf ws < sizeOf ps ∧ WsIn w (.slice xa ws.length xc) ws ∧ tx.size ≤ maxLen ∧ (Lit.int .i64 kd).wf = true ∧ PcC w b (off + k * 3) kd tx ws.length xa xc := by
  obtain ⟨rows, hS, hP⟩ := h
  obtain ⟨ao, c, rfl, hm, hs⟩ := sl_cells hS
  refine ⟨ao, c, rfl, hm, fun k hk => ?_⟩
  obtain ⟨b, off, rfl, hlt, hc⟩ := hs k hk
  obtain ⟨c', h1, h2⟩ := PcsAt.get hP k hk
  have hd := List.drop_eq_getElem_cons hk
  have hsz := List.sizeOf_lt_of_mem (List.getElem_mem hk)
  generalize ps[k] = X at h1 h2 hd hsz
  obtain ⟨kd, tx, ws⟩ := X
  obtain ⟨xa, xc, r2, rfl, hk1, hk2, hk3, hk4⟩ := h1.opened
  refine ⟨kd, tx, ws, b, off, xa, xc, rfl, hlt, hd, ?_, ⟨r2, hk3, hk4⟩, hk2, hk1, hc _ _ (h2 0 (by omega)), ?_, ?_⟩
  · simp only [Pc.mk.sizeOf_spec] at hsz; omega
  · rw [Nat.add_assoc]; exact hc _ _ (h2 1 (by omega))
  · rw [Nat.add_assoc]; exact hc _ _ (h2 2 (by omega))
theorem WsIn.item {w : World} {v : Value} {ws : List Wy} (h : WsIn w v ws) :
    ∃ ao c, v = .slice ao ws.length c ∧ ws.length ≤ maxLen ∧ ∀ k, k < ws.length → ∃ wd ex fm qs b off xa xc, ao = some ⟨b, off, none⟩ ∧ b < w.heap.size ∧ ws.drop k = .mk wd ex fm qs :: ws.drop (k + 1) ∧ sizeOf qs < sizeOf ws ∧ PsIn w (.slice xa qs.length xc) qs ∧ wd.size ≤ maxLen ∧ (Lit.int .i64 ex).wf = true ∧ (Lit.int .i64 fm).wf = true ∧ WyC w b (off + k * 4) wd ex fm qs.length xa xc := by
  obtain ⟨rows, hS, hP⟩ := h
  obtain ⟨ao, c, rfl, hm, hs⟩ := sl_cells hS
  refine ⟨ao, c, rfl, hm, fun k hk => ?_⟩
  obtain ⟨b, off, rfl, hlt, hc⟩ := hs k hk
  obtain ⟨c', h1, h2⟩ := WysAt.get hP k hk
  have hd := List.drop_eq_getElem_cons hk
  have hsz := List.sizeOf_lt_of_mem (List.getElem_mem hk)
  generalize ws[k] = X at h1 h2 hd hsz
  obtain ⟨wd, ex, fm, qs⟩ := X
  obtain ⟨xa, xc, r2, rfl, hk1, hk2, hk3, hk4, hk5⟩ := h1.opened
  refine ⟨wd, ex, fm, qs, b, off, xa, xc, rfl, hlt, hd, ?_, ⟨r2, hk4, hk5⟩, hk1, hk2, hk3, hc _ _ (h2 0 (by omega)), ?_, ?_, ?_⟩
  · simp only [Wy.mk.sizeOf_spec] at hsz; omega
  · rw [Nat.add_assoc]; exact hc _ _ (h2 1 (by omega))
  · rw [Nat.add_assoc]; exact hc _ _ (h2 2 (by omega))
  · rw [Nat.add_assoc]; exact hc _ _ (h2 3 (by omega))
theorem ws_item {w : World} {ws : List Wy} {xa : Option Addr} {xc : Nat} (h : WsIn w (.slice xa ws.length xc) ws) :
    ws.length ≤ maxLen ∧ ∀ k, k < ws.length → ∃ wd ex fm qs b off ya yc, xa = some ⟨b, off, none⟩ ∧ b < w.heap.size ∧ ws.drop k = .mk wd ex fm qs :: ws.drop (k + 1) ∧ sizeOf qs < sizeOf ws ∧ PsIn w (.slice ya qs.length yc) qs ∧ wd.size ≤ maxLen ∧ (Lit.int .i64 ex).wf = true ∧ (Lit.int .i64 fm).wf = true ∧ WyC w b (off + k * 4) wd ex fm qs.length ya yc := by
  obtain ⟨ao, c, he, hl, hk⟩ := h.item
  injection he with e1 e2 e3
  subst e1
  exact ⟨hl, hk⟩
theorem deep_mono (ps : List Pc) : ∀ k, deepPs (ps.drop k) ≤ deepPs ps := by
  induction ps with
  | nil => intro k; simp
  | cons p l ih =>
    intro k
    cases k with
    | zero => exact Nat.le_refl _
    | succ k => have := ih k; obtain ⟨a, b, c⟩ := p; rw [List.drop_succ_cons, deepPs]; omega
theorem deepW_mono (ws : List Wy) : ∀ k, deepWs (ws.drop k) ≤ deepWs ws := by
  induction ws with
  | nil => intro k; simp
  | cons p l ih =>
    intro k
    cases k with
    | zero => exact Nat.le_refl _
    | succ k => have := ih k; obtain ⟨a, b, c, d⟩ := p; rw [List.drop_succ_cons, deepWs]; omega
theorem many_mono (ps : List Pc) : ∀ k, manyPs (ps.drop k) ≤ manyPs ps := by
  induction ps with
  | nil => intro k; simp
  | cons p l ih =>
    intro k
    cases k with
    | zero => exact Nat.le_refl _
    | succ k => have := ih k; obtain ⟨a, b, c⟩ := p; rw [List.drop_succ_cons, manyPs]; omega
theorem manyW_mono (ws : List Wy) : ∀ k, manyWs (ws.drop k) ≤ manyWs ws := by
  induction ws with
  | nil => intro k; simp
  | cons p l ih =>
    intro k
    cases k with
    | zero => exact Nat.le_refl _
    | succ k => have := ih k; obtain ⟨a, b, c, d⟩ := p; rw [List.drop_succ_cons, manyWs]; omega
end Mh
namespace Go.Proofs.YtdolpehcfifecaaDoor
open Go.RowKit Mh
set_option linter.unusedVariables false
set_option maxHeartbeats 2000000 in
theorem gdeep_any : ∀ (M : Nat) (ps : List Pc), SizeOf.sizeOf ps < M → deepPs ps ≤ 1000000000 → ∀ (v : Value) (w : World), PsIn w v ps →
    Calls Tryd.prog 26 #[v] w fun e w' => e = .returned (.int .i64 (deepPs ps + 1 : Nat)) ∧ Below w.heap.size w w' := by
  intro M
  induction M with
  | zero => intro X h; omega
  | succ M ih =>
    intro ps hX hD v w h
    obtain ⟨ao, c, rfl, hlen, hk⟩ := h.item
    have HK := Lib.hid hk
    unfold maxLen at hlen
    have HIH : Hid (∀ qs : List Pc, SizeOf.sizeOf qs < SizeOf.sizeOf ps → deepPs qs ≤ 1000000000 → ∀ (v : Value) (w : World), PsIn w v qs → Calls Tryd.prog 26 #[v] w fun e w' => e = .returned (.int .i64 (deepPs qs + 1 : Nat)) ∧ Below w.heap.size w w') := by
      intro qs hq
      exact ih _ (by omega)
    obtain ⟨R, hR⟩ : ∃ R, R = deepPs ps := ⟨_, rfl⟩
    have HM : Hid (∀ k, deepPs (ps.drop k) ≤ 1000000000) := fun k => by have := deep_mono ps k; omega
    rw [← hR] at hD ⊢
    have HR := Lib.hid hR
    have HB0 : Hid (Below w.heap.size w w) := Below.refl _ _
    clear h hk ih hX hR
    go_enter Tryd.func26, Tryd.ntmps26
    go_wp2_with fail
    go_loopw [3, 10] (fun x i wr => ∃ (k n : Nat), k ≤ ps.length ∧ i = .int .i64 k ∧ x = .int .i64 n ∧ Hid (max n (deepPs (ps.drop k)) = R) ∧ Hid (Below w.heap.size w wr)) (fun _ i _ => ps.length - (intOf i).toNat)
    case atStart => exact ⟨0, 0, by omega, rfl, rfl, by show _ = _; rw [List.drop_zero, HR.out]; exact Nat.zero_max _, HB0⟩
    case round =>
      obtain ⟨k, n, hk, rfl, rfl, HI, HB⟩ := hrel
      by_cases hkl : k < ps.length
      · obtain ⟨kd, tx, ws, b, off, xa, xc, rfl, hlt, hdr, hsz, hws, _, _, hcc⟩ := HK.out k hkl
        obtain ⟨c0, c1, c2⟩ := hcc.later HB.out hlt
        have hI := HI.out
        have hm := HM.out k
        rw [hdr, deepPs] at hI hm
        have HI1 : Hid (max (max n (deepWs (ws.drop 0))) (deepPs (ps.drop (k + 1))) = R) := by show _ = _; rw [List.drop_zero, ← hI]; omega
        obtain ⟨hwl, hwk⟩ := ws_item hws
        have HWK := Lib.hid hwk
        unfold maxLen at hwl
        have HWM : Hid (∀ j, deepWs (ws.drop j) ≤ 1000000000) := fun j => by have := deepW_mono ws j; omega
        have HSZ := Lib.hid hsz
        have HBn : Hid (Below w.heap.size w (wr.alloc (.cells #[.int .i64 kd, .string tx, .slice xa ws.length xc] 66))) := HB.out.alloc HB.out.size _
        clear hdr hI HI hcc hws hwk hlt hsz hm
        obtain ⟨wo, rfl⟩ : ∃ wo : World, wo = wr := ⟨_, rfl⟩
        go_wp2_with fail
        go_loopw [3, 17] (fun x i wr => ∃ (j m : Nat), j ≤ ws.length ∧ i = .int .i64 j ∧ x = .int .i64 m ∧ Hid (max (max m (deepWs (ws.drop j))) (deepPs (ps.drop (k + 1))) = R) ∧ Hid (Below w.heap.size w wr)) (fun _ i _ => ws.length - (intOf i).toNat)
        case atStart => exact ⟨0, n, by omega, rfl, rfl, HI1, HBn⟩
        case round =>
          clear c0 c1 c2 HI1 HBn
          obtain ⟨j, m, hj, rfl, rfl, HJ, HB2⟩ := hrel
          by_cases hjl : j < ws.length
          · obtain ⟨wd, ex, fm, qs, b2, off2, ya, yc, rfl, hlt2, hdw, hsz2, hps, _, _, _, hcc2⟩ := HWK.out j hjl
            have hB02 : Below w.heap.size w wr := HB2.out
            obtain ⟨d0, d1, d2, d3⟩ := hcc2.later hB02 hlt2
            have hJ := HJ.out
            have hm2 := HWM.out j
            rw [hdw, deepWs] at hJ hm2
            have hBn2 : Below w.heap.size w (wr.alloc (.cells #[.string wd, .int .i64 ex, .int .i64 fm, .slice ya qs.length yc] 73)) := HB2.out.alloc HB2.out.size _
            have HBn2 := Lib.hid hBn2
            have HCALL := Lib.hid (HIH.out qs (by have := HSZ.out; omega) (by omega) _ _ (hps.keep hBn2))
            obtain ⟨t, ht⟩ : ∃ t, t = deepPs qs + 1 := ⟨_, rfl⟩
            rw [← ht] at hJ hm2 HCALL
            have HJ2 : Hid (max (max (max m t) (deepWs (ws.drop (j + 1)))) (deepPs (ps.drop (k + 1))) = R) := by show _ = _; rw [← hJ]; omega
            have hmt : max (m : Int) (t : Int) = ((max m t : Nat) : Int) := by omega
            clear hJ HJ hcc2 hps hBn2 ht hlt2 hdw hsz2 hm2 hB02
            go_wp2_with fail
            refine HCALL.out.mono ?_
            rintro e w2 ⟨rfl, hb2⟩
            have HB3 : Hid (Below w.heap.size w w2) := HBn2.out.trans (hb2.mono HBn2.out.size)
            clear hb2
            go_wp2_with fail
            go_roundw
            case rel => exact ⟨j + 1, max m t, by omega, by go_num, by first | rfl | (rw [hmt]), HJ2, HB3⟩
            case measure => simp [intOf]; omega
          · have HI2 : Hid (max m (deepPs (ps.drop (k + 1))) = R) := by
              have := HJ.out
              rw [List.drop_eq_nil_of_le (by omega)] at this
              rw [deepWs, Nat.max_zero] at this
              exact this
            go_wp2_with fail
            go_roundw
            case rel => exact ⟨k + 1, m, by omega, by go_num, by first | rfl | go_num, HI2, HB2⟩
            case measure => simp [intOf]; omega
      · have HF : Hid (n = R) := by
          have := HI.out
          rw [List.drop_eq_nil_of_le (by omega), deepPs, Nat.max_zero] at this
          exact this
        obtain rfl := HF.out
        go_wp2_with fail
        go_ret
        exact ⟨by go_num, HB.out⟩
end Go.Proofs.YtdolpehcfifecaaDoor
