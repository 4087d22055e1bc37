/- (*parser).value: what it reads. Conditions: what list and entries read. -/
import Derived.Test.YtejnoedlfbglcaaGreatDoorPsK
import Derived.Deep.CutBlock
namespace Go.Proofs.YtejnoedlfbglcaaGreatDoor
open Go.RowKit Mh
set_option linter.unusedVariables false

/-- What entries reads. -/
def EntOk (d : Nat) : Prop := ∀ (brace : Bool) (Q T : Nat) (s : ByteArray) (q : Ps) (tok : Tk) (k : Nat) (w : World), PsAt Q T s q w → q.e = 0 → q.i ≤ s.size → TkOf s q tok → q.vs = (k : Int) → k ≤ 1000 → s.size ≤ 1000000000 → EvAt w → 3 < Q →
  Calls Tryz.prog 31 #[.pointer (some ⟨Q, 0, none⟩), .int .i64 (endI brace), .int .i64 (8 - (d : Int))] w (ValP T s (entriesF (valueF d) brace ((s.data.toList.drop q.i).length + 1) tok (s.data.toList.drop q.i) k (.mk 6 false 0 ⟨#[]⟩ [] [])) Q w)
/-- Behind an error entries reads nothing. -/
def EntNo : Prop := ∀ (L e : Int) (Q T : Nat) (s : ByteArray) (q : Ps) (w : World), PsAt Q T s q w → q.e ≠ 0 → 0 ≤ q.at_ → q.at_ ≤ s.size → Calls Tryz.prog 31 #[.pointer (some ⟨Q, 0, none⟩), .int .i64 e, .int .i64 L] w (ValP T s none Q w)
/-- What the token itself gives: a leaf, or nothing yet; none: an error. -/
def tokV : Tk → Option V
  | .fin => none
  | .word w => wordF w
  | .text t => if 5000 < t.length then none else some (.mk 3 false 0 ⟨t.toArray⟩ [] [])
  | .sign c => if c.toNat = 91 ∨ c.toNat = 123 then some V.nil else none
theorem valueF_none {d : Nat} {tok : Tk} {r : List UInt8} {k : Nat} (h : tokV tok = none ∨ d = 0 ∨ 1000 < k + 1) : valueF d tok r k = none := by
  cases d with
  | zero => rfl
  | succ d =>
    unfold valueF
    by_cases hk : 1000 < k + 1
    · rw [if_pos hk]
    · rw [if_neg hk]
      rcases h with h | h | h
      · cases tok with
        | fin => rfl
        | word w => simp only [tokV] at h; simp only [h]
        | text t =>
          simp only [tokV] at h
          simp only
          split at h
          · rename_i h1; rw [if_pos h1]
          · cases h
        | sign c =>
          simp only [tokV] at h
          simp only
          split at h
          · cases h
          · rename_i h1
            rw [if_neg (fun e => h1 (.inl e)), if_neg (fun e => h1 (.inr e))]
      · cases h
      · exact absurd h hk
theorem valueF_leaf {d : Nat} {tok : Tk} {r : List UInt8} {k : Nat} {v : V} (h : tokV tok = some v) (hs : ∀ c, tok ≠ .sign c) (hk : k + 1 ≤ 1000) : valueF (d + 1) tok r k = some (v, r, k + 1) := by
  unfold valueF
  rw [if_neg (by omega)]
  cases tok with
  | fin => cases h
  | word w => simp only [tokV] at h; simp only [h]
  | text t =>
    simp only [tokV] at h
    simp only
    split at h
    · cases h
    · rename_i h1; rw [if_neg h1]; cases h; rfl
  | sign c => exact absurd rfl (hs c)
theorem valueF_list {d : Nat} {c : UInt8} {r : List UInt8} {k : Nat} (h : c.toNat = 91) (hk : k + 1 ≤ 1000) : valueF (d + 1) (.sign c) r k = (listF (valueF d) (r.length + 1) r (k + 1) []).map listV := by
  unfold valueF
  rw [if_neg (by omega)]
  simp only
  rw [if_pos h]
  cases listF (valueF d) (r.length + 1) r (k + 1) [] with
  | none => rfl
  | some p => rfl
theorem valueF_ent {d : Nat} {c : UInt8} {r : List UInt8} {k : Nat} (h : c.toNat = 123) (hk : k + 1 ≤ 1000) : valueF (d + 1) (.sign c) r k = (match nextF false false r with
    | none => none
    | some (t, r2) => entriesF (valueF d) true (r2.length + 1) t r2 (k + 1) (.mk 6 false 0 ⟨#[]⟩ [] [])) := by
  conv => lhs; unfold valueF
  rw [if_neg (by omega)]
  simp only
  rw [if_neg (by omega), if_pos h]
  cases nextF false false r with
  | none => rfl
  | some p => rfl
/-- The leaf's cells. -/
def lfC (k : Int) (b : Bool) (n : Int) (t : ByteArray) : Array Value := #[.int .i64 k, .bool b, .int .i64 n, .string t, .slice none 0 0, .slice none 0 0]
structure VuIn (Q T : Nat) (s : ByteArray) (q0 q : Ps) (w wr : World) (k : Int) (b : Bool) (n : Int) (t : ByteArray) : Prop where
  p : PsAt Q T s q wr
  kept : Kept [Q] w wr
  b0 : wr.heap[w.heap.size]? = some box0
  tk : wr.heap[w.heap.size + 1]? = some (.cells #[.int .i64 q0.k, .int .i64 q0.ta, .string q0.tx] 67 (0, 0))
  vb : wr.heap[w.heap.size + 2]? = some (.cells (lfC k b n t) 29 (0, 0))
  wf : (0 ≤ k ∧ k ≤ 6) ∧ (-9223372036854775808 ≤ n ∧ n ≤ 9223372036854775807) ∧ t.size ≤ maxLen
  size : w.heap.size + 3 ≤ wr.heap.size
theorem oldS_le {w w' : World} (h : w.heap.size ≤ w'.heap.size) : ∀ k, oldS w' k = false → oldS w k = false := fun k hk => oldS_ge _ _ (by unfold oldS at hk; have := of_decide_eq_false hk; omega)
theorem wf_i64 {n : Int} (h : -9223372036854775808 ≤ n ∧ n ≤ 9223372036854775807) : (Lit.int .i64 n).wf = true := by
  simp [Lit.wf]
  exact ⟨h.1, h.2⟩
theorem VuIn.on {Q T : Nat} {s : ByteArray} {q0 q q' : Ps} {w wr w2 : World} {k : Int} {b : Bool} {n : Int} {t : ByteArray} (h : VuIn Q T s q0 q w wr k b n t) (hQ : Q < w.heap.size) (hp : PsAt Q T s q' w2) (hk : Kept [Q] wr w2) : VuIn Q T s q0 q' w w2 k b n t := by
  have hz := h.size
  have hn : ∀ k, w.heap.size ≤ k → k ∉ [Q] := fun k hk hm => by simp at hm; omega
  exact ⟨hp, h.kept.trans hk, (hk.block _ (by omega) (hn _ (by omega))).trans h.b0, (hk.block _ (by omega) (hn _ (by omega))).trans h.tk, (hk.block _ (by omega) (hn _ (by omega))).trans h.vb, h.wf, Nat.le_trans hz hk.size⟩
theorem VuIn.put {Q T : Nat} {s : ByteArray} {q0 q : Ps} {w wr : World} {k : Int} {b : Bool} {n : Int} {t : ByteArray} (h : VuIn Q T s q0 q w wr k b n t) (hQ : Q < w.heap.size) (k' : Int) (b' : Bool) (n' : Int) (t' : ByteArray) (hwf : (0 ≤ k' ∧ k' ≤ 6) ∧ (-9223372036854775808 ≤ n' ∧ n' ≤ 9223372036854775807) ∧ t'.size ≤ maxLen) :
    VuIn Q T s q0 q w (put6 wr (w.heap.size + 2) (.int .i64 k') (.bool b') (.int .i64 n') (.string t') (.slice none 0 0) (.slice none 0 0)) k' b' n' t' := by
  have hz := h.size
  refine ⟨(put6_other (by omega)).trans h.p, ?_, (put6_other (by omega)).trans h.b0, (put6_other (by omega)).trans h.tk, put6_at rfl h.vb, hwf, by rw [put6_size]; exact hz⟩
  unfold put6
  exact (((((h.kept.setNew _ _ (by omega) _).setNew _ _ (by omega) _).setNew _ _ (by omega) _).setNew _ _ (by omega) _).setNew _ _ (by omega) _).setNew _ _ (by omega) _
theorem VuIn.more {Q T : Nat} {s : ByteArray} {q0 q : Ps} {w wr : World} {k : Int} {b : Bool} {n : Int} {t : ByteArray} (h : VuIn Q T s q0 q w wr k b n t) (hQ : Q < w.heap.size) (v : Int) : VuIn Q T s q0 { q with vs := v } w (wr.setCell ⟨Q, 7, none⟩ (.int .i64 v)) k b n t := by
  refine h.on hQ ?_ ((Kept.refl _ _).set Q 7 (by simp) _)
  have hp := h.p
  unfold PsAt at hp ⊢
  rw [heap_setCell_same _ _ 7 _ _ _ hp]; rfl
/-- The leaf goes into the result. -/
theorem VuIn.done {Q T : Nat} {s : ByteArray} {q0 q : Ps} {w wr : World} {k : Int} {b : Bool} {n : Int} {t : ByteArray} (h : VuIn Q T s q0 q w wr k b n t) (hQ : Q < w.heap.size) :
    PsAt Q T s q (put6 wr w.heap.size (.int .i64 k) (.bool b) (.int .i64 n) (.string t) (.slice none 0 0) (.slice none 0 0)) ∧ Kept [Q] w (put6 wr w.heap.size (.int .i64 k) (.bool b) (.int .i64 n) (.string t) (.slice none 0 0) (.slice none 0 0)) ∧
    VAt (veil (oldS w) (put6 wr w.heap.size (.int .i64 k) (.bool b) (.int .i64 n) (.string t) (.slice none 0 0) (.slice none 0 0))) (.mk k b n t [] []) [.int .i64 k, .bool b, .int .i64 n, .string t, .slice none 0 0, .slice none 0 0] := by
  have hz := h.size
  refine ⟨(put6_other (by omega)).trans h.p, ?_, ?_⟩
  · unfold put6
    exact (((((h.kept.setNew _ _ (Nat.le_refl _) _).setNew _ _ (Nat.le_refl _) _).setNew _ _ (Nat.le_refl _) _).setNew _ _ (Nat.le_refl _) _).setNew _ _ (Nat.le_refl _) _).setNew _ _ (Nat.le_refl _) _
  · exact VAt.made (X := .mk k b n t [] []) (wf_i64 ⟨by show _ ≤ k; have := h.wf.1; omega, by show k ≤ _; have := h.wf.1; omega⟩) (wf_i64 h.wf.2.1) h.wf.2.2 ⟨⟨rfl, .inl ⟨rfl, none, 0, rfl⟩⟩, by simp [V.kys]⟩ (rows := []) ⟨rfl, .inl ⟨rfl, none, 0, rfl⟩⟩ (by simp [VsAt, V.its])
theorem VuIn.fin {Q T : Nat} {s : ByteArray} {q0 q q4 : Ps} {w w3 w4 : World} {k : Int} {b : Bool} {n : Int} {t : ByteArray} {X : V} {xa xk : Option Addr} {xc xkc : Nat} (h : VuIn Q T s q0 q w w3 k b n t) (hQ : Q < w.heap.size) (hp : PsAt Q T s q4 w4) (hk : Kept [Q] w3 w4) (hX : VAt (veil (oldS w3) w4) X (vcs X xa xc xk xkc)) :
    (put6 w4 w.heap.size (.int .i64 X.kd) (.bool X.bo) (.int .i64 X.nu) (.string X.tx) (.slice xa X.its.length xc) (.slice xk X.kys.length xkc)).heap[w.heap.size]? = some (.cells #[.int .i64 X.kd, .bool X.bo, .int .i64 X.nu, .string X.tx, .slice xa X.its.length xc, .slice xk X.kys.length xkc] 29 (0, 0)) ∧
    PsAt Q T s q4 (put6 w4 w.heap.size (.int .i64 X.kd) (.bool X.bo) (.int .i64 X.nu) (.string X.tx) (.slice xa X.its.length xc) (.slice xk X.kys.length xkc)) ∧ Kept [Q] w (put6 w4 w.heap.size (.int .i64 X.kd) (.bool X.bo) (.int .i64 X.nu) (.string X.tx) (.slice xa X.its.length xc) (.slice xk X.kys.length xkc)) ∧
    VAt (veil (oldS w) (put6 w4 w.heap.size (.int .i64 X.kd) (.bool X.bo) (.int .i64 X.nu) (.string X.tx) (.slice xa X.its.length xc) (.slice xk X.kys.length xkc))) X (vcs X xa xc xk xkc) := by
  have h4 := h.on hQ hp hk
  have hz := h.size
  refine ⟨put6_at rfl (by have := h4.b0; unfold box0 at this; exact this), (put6_other (by omega)).trans hp, ?_, hX.keeps (Keeps.veils (by rw [put6_size]; exact Nat.le_refl _) fun j hj hs => ?_)⟩
  · unfold put6
    exact (((((h4.kept.setNew _ _ (Nat.le_refl _) _).setNew _ _ (Nat.le_refl _) _).setNew _ _ (Nat.le_refl _) _).setNew _ _ (Nat.le_refl _) _).setNew _ _ (Nat.le_refl _) _).setNew _ _ (Nat.le_refl _) _
  · unfold oldS at hs
    have hs := of_decide_eq_false hs
    exact ⟨oldS_ge _ _ (by omega), put6_other (by omega)⟩
/-- What the switch over the token has found. -/
def SwP (tok : Tk) (e : Int) (k : Int) (b : Bool) (n : Int) (t : ByteArray) : Prop := match tokV tok with
  | some v => e = 0 ∧ v = .mk k b n t [] []
  | none => e ≠ 0
set_option maxRecDepth 100000 in
set_option maxHeartbeats 4000000 in
theorem value_any (d : Nat) (hd : d ≤ 7) (HLE : ∀ d', d = d' + 1 → ListOk d' ∧ EntOk d') (HEN : EntNo) : ValueOk d := by
  intro Q T s q tok k w hp he hi htk hvs hk hs hev hQ2
  have hQ : Q < w.heap.size := (Array.getElem?_eq_some_iff.1 hp).1
  have h3 := hev.size
  have HEV := Lib.hid hev
  have HP := Lib.hid hp
  have HE := Lib.hid he
  have HVS := Lib.hid hvs
  have HT := Lib.hid htk
  have HHLE := Lib.hid HLE
  have HHEN := Lib.hid HEN
  obtain ⟨L, hL⟩ : ∃ L : Int, L = 9 - (d : Int) := ⟨_, rfl⟩
  rw [← hL]
  have HL := Lib.hid hL
  have hL1 : 2 ≤ L := by omega
  have hL2 : L ≤ 9 := by omega
  have H0 : Hid (VuIn Q T s q q w (((w.alloc box0).alloc (.cells #[.int .i64 q.k, .int .i64 q.ta, .string q.tx] 67)).alloc (.cells (lfC 0 false 0 ⟨#[]⟩) 29)) 0 false 0 ⟨#[]⟩) := by
    refine ⟨(heap_alloc_old _ _ (by simp; omega)).trans ((heap_alloc_old _ _ (by simp; omega)).trans ((heap_alloc_old _ _ (by omega)).trans HP.out)), (((Kept.refl _ _).alloc _).alloc _).alloc _, (heap_alloc_old _ _ (by simp; omega)).trans ((heap_alloc_old _ _ (by simp)).trans (heap_alloc_new _ _)), (heap_alloc_old _ _ (by simp)).trans (heap_new_at (by simp)), heap_new_at (by simp), ⟨by omega, by omega, Nat.zero_le _⟩, by simp⟩
  obtain ⟨c0, c1, c2, c3, c4, c5, c6, c7, fz⟩ := hp.cells
  unfold box0 lfC at H0
  have hta := htk.2.2.1
  have HTA := Lib.hid hta
  clear hp he hvs htk hev hL HLE HEN
  go_enter Tryz.func50, Tryz.ntmps50
  go_upto_block 0 with fail
  rw [show w.heap.size + 1 + 1 = w.heap.size + 2 from rfl]
  generalize World.alloc _ _ = w1 at H0 ⊢
  clear c0 c1 c2 c3 c4 c5 c6 c7 fz
  go_cut [7] from 16 to 35 (fun s7 wx => ∃ (e0 k0 : Int) (b0 : Bool) (n0 : Int) (t0 : ByteArray), s7 = .int .i64 e0 ∧ Hid (VuIn Q T s q q w wx k0 b0 n0 t0) ∧ Hid (SwP tok e0 k0 b0 n0 t0))
  case first =>
    have htb := H0.out.tk
    have hvb := H0.out.vb
    unfold lfC at hvb
    have t0 : w1.cell? ⟨w.heap.size + 1, 0, none⟩ = some (.int .i64 q.k) := cellT htb rfl
    have t1 : w1.cell? ⟨w.heap.size + 1, 1, none⟩ = some (.int .i64 q.ta) := cellT htb rfl
    have t2 : w1.cell? ⟨w.heap.size + 1, 2, none⟩ = some (.string q.tx) := cellT htb rfl
    obtain ⟨f0, f1, f2, f3, f4, f5⟩ := six_open hvb
    obtain ⟨b0, b1, b2, b3, b4, b5⟩ := six_of_block hvb
    clear htb hvb
    have hqk := HT.out.1
    cases tok with
    | fin =>
      have q1 : (q.k == 1) = false := by rw [hqk]; rfl
      have q2 : (q.k == 2) = false := by rw [hqk]; rfl
      have q3 : (q.k == 91) = false := by rw [hqk]; rfl
      have q4 : (q.k == 123) = false := by rw [hqk]; rfl
      clear hqk
      go_wp2_with fail
      go_meet
      exact ⟨8, 0, false, 0, ⟨#[]⟩, rfl, H0, by show (8 : Int) ≠ 0; decide⟩
    | word u =>
      have q1 : (q.k == 1) = true := by rw [hqk]; rfl
      have hsz : q.tx.size ≤ 1000000000 := Nat.le_trans HT.out.2.2.2.2 hs
      have htx : q.tx.data.toList = u := by rw [HT.out.2.1]; rfl
      have HW := Lib.hid (wordValue_any q.tx hsz w1 (HEV.out.kept H0.out.kept hQ2))
      rw [htx] at HW
      clear hqk htx hsz
      go_wp2_with fail
      refine HW.out.mono ?_
      rintro e w2 ⟨k0, b0, n0, z, rfl, hb, hk0, hn0, hz⟩
      have H2 := Lib.hid (H0.out.on hQ ((hb.block Q (by have := H0.out.size; omega)).trans H0.out.p) (Kept.of_below hb))
      have HZ := Lib.hid (And.intro hk0 (And.intro hn0 hz))
      have hvb := H2.out.vb
      unfold lfC at hvb
      obtain ⟨f0, f1, f2, f3, f4, f5⟩ := six_open hvb
      obtain ⟨b0', b1', b2', b3', b4', b5'⟩ := six_of_block hvb
      clear hb hvb hk0 hn0 hz
      unfold leafC
      go_wp2_with fail
      have H3 := Lib.hid (H2.out.put hQ k0 b0 n0 ⟨#[]⟩ ⟨HZ.out.1, HZ.out.2.1, Nat.zero_le _⟩)
      unfold put6 at H3
      go_meet
      refine ⟨z, k0, b0, n0, ⟨#[]⟩, rfl, H3, ?_⟩
      have h := HZ.out.2.2
      show SwP _ _ _ _ _ _
      unfold SwP tokV
      simp only
      cases hw : wordF u with
      | none => rw [hw] at h; exact h
      | some v => rw [hw] at h; exact h
    | text u =>
      have q1 : (q.k == 1) = false := by rw [hqk]; rfl
      have q2 : (q.k == 2) = true := by rw [hqk]; rfl
      have htx : q.tx = ⟨u.toArray⟩ := HT.out.2.1
      have hul : q.tx.size = u.length := by rw [htx]; exact tkT_len u
      have hsz : q.tx.size ≤ 1000000000 := Nat.le_trans HT.out.2.2.2.2 hs
      have HTX := Lib.hid htx
      have H3 := Lib.hid (H0.out.put hQ 3 false 0 q.tx ⟨by omega, by omega, by unfold maxLen; omega⟩)
      unfold put6 at H3
      by_cases h5 : 5000 < q.tx.size
      · have h5' : (5000 : Int) < q.tx.size := by omega
        have HNO : Hid (tokV (.text u) = none) := by show tokV (.text u) = none; unfold tokV; simp only; rw [if_pos (by omega)]
        clear hqk htx hul h5
        go_wp2_with fail
        go_meet
        exact ⟨4, 3, false, 0, q.tx, rfl, H3, by show SwP _ _ _ _ _ _; unfold SwP; rw [HNO.out]; exact (show (4 : Int) ≠ 0 by decide)⟩
      · have h5' : ¬ (5000 : Int) < q.tx.size := by omega
        have HNO : Hid (tokV (.text u) = some (.mk 3 false 0 q.tx [] [])) := by show tokV (.text u) = _; unfold tokV; simp only; rw [if_neg (by omega), htx]
        clear hqk htx hul h5
        go_wp2_with fail
        go_meet
        exact ⟨0, 3, false, 0, q.tx, rfl, H3, by show SwP _ _ _ _ _ _; unfold SwP; rw [HNO.out]; exact ⟨rfl, rfl⟩⟩
    | sign c =>
      have hc := HT.out.2.2.2.1
      have hc10 : 10 ≤ c.toNat := hc
      have hqc : q.k = c.toNat := hqk
      have q1 : (q.k == 1) = false := by rw [beq_eq_false_iff_ne]; omega
      have q2 : (q.k == 2) = false := by rw [beq_eq_false_iff_ne]; omega
      clear hc hqk
      by_cases h91 : c.toNat = 91
      · have q3 : (q.k == 91) = true := by rw [beq_iff_eq]; omega
        have HNO : Hid (tokV (.sign c) = some V.nil) := by show tokV (.sign c) = _; unfold tokV; simp only; rw [if_pos (.inl h91)]
        clear hqc h91
        go_wp2_with fail
        go_meet
        exact ⟨0, 0, false, 0, ⟨#[]⟩, rfl, H0, by show SwP _ _ _ _ _ _; unfold SwP; rw [HNO.out]; exact ⟨rfl, rfl⟩⟩
      have q3 : (q.k == 91) = false := by rw [beq_eq_false_iff_ne]; omega
      by_cases h123 : c.toNat = 123
      · have q4 : (q.k == 123) = true := by rw [beq_iff_eq]; omega
        have HNO : Hid (tokV (.sign c) = some V.nil) := by show tokV (.sign c) = _; unfold tokV; simp only; rw [if_pos (.inr h123)]
        clear hqc h91 h123
        go_wp2_with fail
        go_meet
        exact ⟨0, 0, false, 0, ⟨#[]⟩, rfl, H0, by show SwP _ _ _ _ _ _; unfold SwP; rw [HNO.out]; exact ⟨rfl, rfl⟩⟩
      · have q4 : (q.k == 123) = false := by rw [beq_eq_false_iff_ne]; omega
        have HNO : Hid (tokV (.sign c) = none) := by show tokV (.sign c) = _; unfold tokV; simp only; rw [if_neg (by omega)]
        clear hqc h91 h123
        go_wp2_with fail
        go_meet
        exact ⟨8, 0, false, 0, ⟨#[]⟩, rfl, H0, by show SwP _ _ _ _ _ _; unfold SwP; rw [HNO.out]; exact (show (8 : Int) ≠ 0 by decide)⟩
  case rest =>
    obtain ⟨e0, k0, b0, n0, t0, rfl, H1, HSW⟩ := hcut
    clear H0
    generalize wc = w2 at H1 ⊢
    obtain ⟨c0, c1, c2, c3, c4, c5, c6, c7, fz⟩ := H1.out.p.cells
    rw [HVS.out] at c7
    go_upto_block 1 with fail
    have H2 := Lib.hid (H1.out.more hQ ((k : Int) + 1))
    clear c0 c1 c2 c3 c4 c5 c6 c7 fz
    generalize World.setCell _ _ _ = w3 at H2 ⊢
    obtain ⟨c0, c1, c2, c3, c4, c5, c6, c7, fz⟩ := H2.out.p.cells
    dsimp only at c7
    go_cut [7] from 43 to 54 (fun s7 wx => ∃ e1 : Int, s7 = .int .i64 e1 ∧ w3 = wx ∧ Hid ((e1 ≠ 0 ∧ valueF d tok (s.data.toList.drop q.i) k = none) ∨ (e1 = 0 ∧ (∃ d', d = d' + 1) ∧ k + 1 ≤ 1000 ∧ tokV tok = some (.mk k0 b0 n0 t0 [] []))))
    case first =>
      by_cases he0 : e0 = 0
      · have be : (e0 != 0) = false := by rw [bne_eq_false_iff_eq]; exact he0
        have HTV : Hid (tokV tok = some (.mk k0 b0 n0 t0 [] [])) := by
          have h := HSW.out
          unfold SwP at h
          cases hv : tokV tok with
          | none => rw [hv] at h; exact absurd he0 h
          | some v => rw [hv] at h; rw [h.2]; rfl
        have HE0 := Lib.hid he0
        clear he0
        by_cases h8 : 8 < L
        · have HNO : Hid (valueF d tok (s.data.toList.drop q.i) k = none) := valueF_none (.inr (.inl (by have := HL.out; omega)))
          go_wp2_with fail
          go_meet
          exact ⟨13, rfl, rfl, .inl ⟨by decide, HNO.out⟩⟩
        · by_cases h1000 : (1000 : Int) < (k : Int) + 1
          · have HNO : Hid (valueF d tok (s.data.toList.drop q.i) k = none) := valueF_none (.inr (.inr (by omega)))
            go_wp2_with fail
            go_meet
            exact ⟨4, rfl, rfl, .inl ⟨by decide, HNO.out⟩⟩
          · have HYES : Hid ((∃ d', d = d' + 1) ∧ k + 1 ≤ 1000) := ⟨⟨d - 1, by have := HL.out; omega⟩, by omega⟩
            go_wp2_with fail
            go_meet
            exact ⟨e0, rfl, rfl, .inr ⟨HE0.out, HYES.out.1, HYES.out.2, HTV.out⟩⟩
      · have be : (e0 != 0) = true := by rw [bne_iff_ne]; exact he0
        have HE0 := Lib.hid he0
        have HNO : Hid (valueF d tok (s.data.toList.drop q.i) k = none) := by
          refine valueF_none (.inl ?_)
          have h := HSW.out
          unfold SwP at h
          cases hv : tokV tok with
          | none => rfl
          | some v => rw [hv] at h; exact absurd h.1 he0
        clear he0
        go_wp2_with fail
        go_meet
        exact ⟨e0, rfl, rfl, .inl ⟨HE0.out, HNO.out⟩⟩
    case rest =>
      obtain ⟨e1, rfl, hww, HAN⟩ := hcut
      obtain rfl : w3 = wc := hww
      clear HSW H1
      have hb0 := H2.out.b0
      have hvb := H2.out.vb
      unfold box0 at hb0
      unfold lfC at hvb
      obtain ⟨d0, d1, d2, d3, d4, d5⟩ := six_of_block hb0
      obtain ⟨f0, f1, f2, f3, f4, f5⟩ := six_open hb0
      obtain ⟨v0, v1, v2, v3, v4, v5⟩ := six_of_block hvb
      clear hb0 hvb
      have htb := H2.out.tk
      have y0 : w3.cell? ⟨w.heap.size + 1, 0, none⟩ = some (.int .i64 q.k) := cellT htb rfl
      have y1 : w3.cell? ⟨w.heap.size + 1, 1, none⟩ = some (.int .i64 q.ta) := cellT htb rfl
      clear htb
      by_cases he1 : e1 = 0
      · have be : (e1 != 0) = false := by rw [bne_eq_false_iff_eq]; exact he1
        have HGO : Hid ((∃ d', d = d' + 1) ∧ k + 1 ≤ 1000 ∧ tokV tok = some (.mk k0 b0 n0 t0 [] [])) := by
          rcases HAN.out with ⟨h, _⟩ | ⟨_, h⟩
          · exact absurd he1 h
          · exact h
        clear he1 HAN
        obtain ⟨⟨d', hd'⟩, hk1, htv⟩ := HGO.out
        have hqk := HT.out.1
        have hLd : (8 : Int) - (d' : Int) = L := by have := HL.out; omega
        clear HGO
        cases tok with
        | fin => cases htv
        | word u =>
          have q3 : (q.k == 91) = false := by rw [hqk]; rfl
          have q4 : (q.k == 123) = false := by rw [hqk]; rfl
          have HFO := Lib.hid (valueF_leaf (d := d') (r := s.data.toList.drop q.i) htv (by simp) hk1)
          clear hqk htv hLd
          go_wp2_with fail
          have hfin := H2.out.done hQ
          have hput := put6_at (a := .int .i64 k0) (b := .bool b0) (c := .int .i64 n0) (d := .string t0) (e := .slice none 0 0) (f := .slice none 0 0) rfl (by have := H2.out.b0; unfold box0 at this; exact this)
          unfold put6 at hfin hput
          generalize hwf : World.setCell _ _ _ = wf at hfin hput ⊢
          clear hwf f0 f1 f2 f3 f4 f5 d0 d1 d2 d3 d4 d5 v0 v1 v2 v3 v4 v5
          obtain ⟨s0, s1, s2, s3, s4, s5⟩ := six_of_block hput
          exact bodyPost_ret (v := .agg #[.int .i64 k0, .bool b0, .int .i64 n0, .string t0, .slice none 0 0, .slice none 0 0]) (by simp [results, Tryz.results50, go_sem, s0, s1, s2, s3, s4, s5] <;> rfl) rfl ⟨_, _, [.int .i64 k0, .bool b0, .int .i64 n0, .string t0, .slice none 0 0, .slice none 0 0], rfl, hfin.1, hfin.2.1, hfin.2.2, by rw [HFO.out]; exact ⟨HE.out, hi, rfl, by show ((k : Int) + 1) = ((k + 1 : Nat) : Int); omega, rfl⟩⟩
        | text u =>
          have q3 : (q.k == 91) = false := by rw [hqk]; rfl
          have q4 : (q.k == 123) = false := by rw [hqk]; rfl
          have HFO := Lib.hid (valueF_leaf (d := d') (r := s.data.toList.drop q.i) htv (by simp) hk1)
          clear hqk htv hLd
          go_wp2_with fail
          have hfin := H2.out.done hQ
          have hput := put6_at (a := .int .i64 k0) (b := .bool b0) (c := .int .i64 n0) (d := .string t0) (e := .slice none 0 0) (f := .slice none 0 0) rfl (by have := H2.out.b0; unfold box0 at this; exact this)
          unfold put6 at hfin hput
          generalize hwf : World.setCell _ _ _ = wf at hfin hput ⊢
          clear hwf f0 f1 f2 f3 f4 f5 d0 d1 d2 d3 d4 d5 v0 v1 v2 v3 v4 v5
          obtain ⟨s0, s1, s2, s3, s4, s5⟩ := six_of_block hput
          exact bodyPost_ret (v := .agg #[.int .i64 k0, .bool b0, .int .i64 n0, .string t0, .slice none 0 0, .slice none 0 0]) (by simp [results, Tryz.results50, go_sem, s0, s1, s2, s3, s4, s5] <;> rfl) rfl ⟨_, _, [.int .i64 k0, .bool b0, .int .i64 n0, .string t0, .slice none 0 0, .slice none 0 0], rfl, hfin.1, hfin.2.1, hfin.2.2, by rw [HFO.out]; exact ⟨HE.out, hi, rfl, by show ((k : Int) + 1) = ((k + 1 : Nat) : Int); omega, rfl⟩⟩
        | sign c =>
          by_cases h91 : c.toNat = 91
          · have q3 : (q.k == 91) = true := by rw [hqk]; show ((c.toNat : Int) == 91) = true; rw [beq_iff_eq]; omega
            have HFO := Lib.hid (valueF_list (d := d') (r := s.data.toList.drop q.i) h91 hk1)
            have HC := Lib.hid ((HHLE.out d' hd').1 Q T s _ (k + 1) w3 H2.out.p HE.out hi (by show ((k : Int) + 1) = ((k + 1 : Nat) : Int); omega) hk1 hs (HEV.out.kept H2.out.kept hQ2) hQ2)
            rw [hLd] at HC
            clear hqk htv h91 hLd
            go_wp2_with fail
            refine HC.out.mono ?_
            rintro e w4 ⟨q4, X, cs, rfl, hp4, hk4, hx4, ha4⟩
            obtain ⟨xa, xc, xk, xkc, rfl, _⟩ := hx4.opened
            rw [vcs_arr]
            have H4 := Lib.hid (And.intro hp4 (And.intro hk4 (And.intro hx4 ha4)))
            have H5 := Lib.hid (H2.out.on hQ hp4 hk4)
            clear hp4 hk4 hx4 ha4 d0 d1 d2 d3 d4 d5 f0 f1 f2 f3 f4 f5 v0 v1 v2 v3 v4 v5 y0 y1 c0 c1 c2 c3 c4 c5 c6 c7
            have hb0 := H5.out.b0
            have hvb := H5.out.vb
            unfold box0 at hb0
            unfold lfC at hvb
            obtain ⟨d0, d1, d2, d3, d4, d5⟩ := six_of_block hb0
            obtain ⟨f0, f1, f2, f3, f4, f5⟩ := six_open hb0
            obtain ⟨v0, v1, v2, v3, v4, v5⟩ := six_of_block hvb
            clear hb0 hvb
            go_wp2_with fail
            have hfin := H2.out.fin hQ H4.out.1 H4.out.2.1 H4.out.2.2.1
            unfold put6 at hfin
            generalize hwf : World.setCell _ _ _ = wf at hfin ⊢
            clear hwf f0 f1 f2 f3 f4 f5 d0 d1 d2 d3 d4 d5 v0 v1 v2 v3 v4 v5
            obtain ⟨s0, s1, s2, s3, s4, s5⟩ := six_of_block hfin.1
            exact bodyPost_ret (v := .agg #[.int .i64 X.kd, .bool X.bo, .int .i64 X.nu, .string X.tx, .slice xa X.its.length xc, .slice xk X.kys.length xkc]) (by simp [results, Tryz.results50, go_sem, s0, s1, s2, s3, s4, s5] <;> rfl) rfl ⟨q4, X, vcs X xa xc xk xkc, by rw [vcs_arr], hfin.2.1, hfin.2.2.1, hfin.2.2.2, by rw [hd', HFO.out]; exact H4.out.2.2.2⟩
          · have h123 : c.toNat = 123 := by
              simp only [tokV] at htv
              split at htv
              · omega
              · cases htv
            have q3 : (q.k == 91) = false := by rw [hqk]; show ((c.toNat : Int) == 91) = false; rw [beq_eq_false_iff_ne]; omega
            have q4 : (q.k == 123) = true := by rw [hqk]; show ((c.toNat : Int) == 123) = true; rw [beq_iff_eq]; omega
            have HFO := Lib.hid (valueF_ent (d := d') (r := s.data.toList.drop q.i) h123 hk1)
            have HN := Lib.hid (next_at Q T s _ false w3 H2.out.p HE.out hi hs)
            have HLD := Lib.hid hLd
            have HDD := Lib.hid hd'
            clear hqk htv h91 h123 hLd hd'
            go_wp2_with fail
            refine HN.out.mono ?_
            rintro e w5 ⟨q5, rfl, H6⟩
            clear HN
            go_wp2_with fail
            cases hnx : nextF false false (s.data.toList.drop q.i) with
            | none =>
              obtain ⟨g1, g2, g3, g4⟩ := H6.out.2.2.bad hnx
              have HFN : Hid (valueF (d' + 1) (.sign c) (s.data.toList.drop q.i) k = none) := by show _ = _; rw [HFO.out, hnx]
              have HC := Lib.hid (HHEN.out L 125 Q T s q5 w5 H6.out.1 g1 g3 g4)
              have HK5 := Lib.hid H6.out.2.1
              clear hnx g1 g2 g3 g4 H6 HFO
              refine HC.out.mono ?_
              rintro e w4 ⟨q4, X, cs, rfl, hp4, hk4, hx4, ha4⟩
              obtain ⟨xa, xc, xk, xkc, rfl, _⟩ := hx4.opened
              rw [vcs_arr]
              have hx4 := hx4.keeps (Keeps.less _ (oldS_le HK5.out.size))
              have hk4 := HK5.out.trans hk4
              have H4 := Lib.hid (And.intro hp4 (And.intro hk4 (And.intro hx4 ha4)))
              have H5 := Lib.hid (H2.out.on hQ hp4 hk4)
              clear hp4 hk4 hx4 ha4 d0 d1 d2 d3 d4 d5 f0 f1 f2 f3 f4 f5 v0 v1 v2 v3 v4 v5 y0 y1 c0 c1 c2 c3 c4 c5 c6 c7
              have hb0 := H5.out.b0
              have hvb := H5.out.vb
              unfold box0 at hb0
              unfold lfC at hvb
              obtain ⟨d0, d1, d2, d3, d4, d5⟩ := six_of_block hb0
              obtain ⟨f0, f1, f2, f3, f4, f5⟩ := six_open hb0
              obtain ⟨v0, v1, v2, v3, v4, v5⟩ := six_of_block hvb
              clear hb0 hvb
              go_wp2_with fail
              have hfin := H2.out.fin hQ H4.out.1 H4.out.2.1 H4.out.2.2.1
              unfold put6 at hfin
              generalize hwf : World.setCell _ _ _ = wf at hfin ⊢
              clear hwf f0 f1 f2 f3 f4 f5 d0 d1 d2 d3 d4 d5 v0 v1 v2 v3 v4 v5
              obtain ⟨s0, s1, s2, s3, s4, s5⟩ := six_of_block hfin.1
              exact bodyPost_ret (v := .agg #[.int .i64 X.kd, .bool X.bo, .int .i64 X.nu, .string X.tx, .slice xa X.its.length xc, .slice xk X.kys.length xkc]) (by simp [results, Tryz.results50, go_sem, s0, s1, s2, s3, s4, s5] <;> rfl) rfl ⟨q4, X, vcs X xa xc xk xkc, by rw [vcs_arr], hfin.2.1, hfin.2.2.1, hfin.2.2.2, by rw [HDD.out, HFN.out]; exact H4.out.2.2.2⟩
            | some p =>
              obtain ⟨t5, r5⟩ := p
              obtain ⟨g1, g2, g3, g4, g5⟩ := H6.out.2.2.ok (by rw [drop_len]; omega) hnx
              have HFN : Hid (valueF (d' + 1) (.sign c) (s.data.toList.drop q.i) k = entriesF (valueF d') true ((s.data.toList.drop q5.i).length + 1) t5 (s.data.toList.drop q5.i) (k + 1) (.mk 6 false 0 ⟨#[]⟩ [] [])) := by show _ = _; rw [HFO.out, hnx, g5]
              have HC := Lib.hid ((HHLE.out d' HDD.out).2 true Q T s q5 t5 (k + 1) w5 H6.out.1 g1 g3 g4 (g2.trans (by show ((k : Int) + 1) = ((k + 1 : Nat) : Int); omega)) hk1 hs ((HEV.out.kept H2.out.kept hQ2).kept H6.out.2.1 hQ2) hQ2)
              rw [HLD.out] at HC
              have HK5 := Lib.hid H6.out.2.1
              clear hnx g1 g2 g3 g4 g5 H6 HFO
              refine HC.out.mono ?_
              rintro e w4 ⟨q4, X, cs, rfl, hp4, hk4, hx4, ha4⟩
              obtain ⟨xa, xc, xk, xkc, rfl, _⟩ := hx4.opened
              rw [vcs_arr]
              have hx4 := hx4.keeps (Keeps.less _ (oldS_le HK5.out.size))
              have hk4 := HK5.out.trans hk4
              have H4 := Lib.hid (And.intro hp4 (And.intro hk4 (And.intro hx4 ha4)))
              have H5 := Lib.hid (H2.out.on hQ hp4 hk4)
              clear hp4 hk4 hx4 ha4 d0 d1 d2 d3 d4 d5 f0 f1 f2 f3 f4 f5 v0 v1 v2 v3 v4 v5 y0 y1 c0 c1 c2 c3 c4 c5 c6 c7
              have hb0 := H5.out.b0
              have hvb := H5.out.vb
              unfold box0 at hb0
              unfold lfC at hvb
              obtain ⟨d0, d1, d2, d3, d4, d5⟩ := six_of_block hb0
              obtain ⟨f0, f1, f2, f3, f4, f5⟩ := six_open hb0
              obtain ⟨v0, v1, v2, v3, v4, v5⟩ := six_of_block hvb
              clear hb0 hvb
              go_wp2_with fail
              have hfin := H2.out.fin hQ H4.out.1 H4.out.2.1 H4.out.2.2.1
              unfold put6 at hfin
              generalize hwf : World.setCell _ _ _ = wf at hfin ⊢
              clear hwf f0 f1 f2 f3 f4 f5 d0 d1 d2 d3 d4 d5 v0 v1 v2 v3 v4 v5
              obtain ⟨s0, s1, s2, s3, s4, s5⟩ := six_of_block hfin.1
              exact bodyPost_ret (v := .agg #[.int .i64 X.kd, .bool X.bo, .int .i64 X.nu, .string X.tx, .slice xa X.its.length xc, .slice xk X.kys.length xkc]) (by simp [results, Tryz.results50, go_sem, s0, s1, s2, s3, s4, s5] <;> rfl) rfl ⟨q4, X, vcs X xa xc xk xkc, by rw [vcs_arr], hfin.2.1, hfin.2.2.1, hfin.2.2.2, by rw [HDD.out, HFN.out]; exact H4.out.2.2.2⟩
      · have be : (e1 != 0) = true := by rw [bne_iff_ne]; exact he1
        have HNO : Hid (valueF d tok (s.data.toList.drop q.i) k = none) := by
          rcases HAN.out with ⟨_, h⟩ | ⟨h, _⟩
          · exact h
          · exact absurd h he1
        have HE1 := Lib.hid he1
        have HF := Lib.hid (fail_any Q T s _ q.ta e1 w3.drew H2.out.p)
        rw [if_pos HE.out] at HF
        clear he1 HAN c0 c1 c2 c3 c4 c5 c6 c7
        go_wp2_with fail
        go_still_tail 6, (by kernel_rfl)
        go_wp2_with fail
        refine HF.out.mono ?_
        rintro e w4 ⟨rfl, hp4, hk4⟩
        have H4 := Lib.hid (H2.out.on hQ hp4 ((Kept.refl [Q] w3).drew.trans hk4))
        clear hp4 hk4 HF d0 d1 d2 d3 d4 d5 f0 f1 f2 f3 f4 f5 v0 v1 v2 v3 v4 v5 y0 y1
        have hb0 := H4.out.b0
        have hvb := H4.out.vb
        unfold box0 at hb0
        unfold lfC at hvb
        obtain ⟨d0, d1, d2, d3, d4, d5⟩ := six_of_block hb0
        obtain ⟨f0, f1, f2, f3, f4, f5⟩ := six_open hb0
        obtain ⟨v0, v1, v2, v3, v4, v5⟩ := six_of_block hvb
        clear hb0 hvb
        go_wp2_with fail
        have hfin := H4.out.done hQ
        have hput := put6_at (a := .int .i64 k0) (b := .bool b0) (c := .int .i64 n0) (d := .string t0) (e := .slice none 0 0) (f := .slice none 0 0) rfl (by have := H4.out.b0; unfold box0 at this; exact this)
        unfold put6 at hfin hput
        generalize hwf : World.setCell _ _ _ = wf at hfin hput ⊢
        clear hwf f0 f1 f2 f3 f4 f5 d0 d1 d2 d3 d4 d5 v0 v1 v2 v3 v4 v5
        obtain ⟨s0, s1, s2, s3, s4, s5⟩ := six_of_block hput
        exact bodyPost_ret (v := .agg #[.int .i64 k0, .bool b0, .int .i64 n0, .string t0, .slice none 0 0, .slice none 0 0]) (by simp [results, Tryz.results50, go_sem, s0, s1, s2, s3, s4, s5] <;> rfl) rfl ⟨_, _, [.int .i64 k0, .bool b0, .int .i64 n0, .string t0, .slice none 0 0, .slice none 0 0], rfl, hfin.1, hfin.2.1, hfin.2.2, by rw [HNO.out]; exact ⟨HE1.out, HTA.out⟩⟩
end Go.Proofs.YtejnoedlfbglcaaGreatDoor
