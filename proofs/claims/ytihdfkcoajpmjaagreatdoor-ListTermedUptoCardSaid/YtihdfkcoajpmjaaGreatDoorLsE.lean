/- list.valueFault: whether a value by itself can be in an item. Conditions: at most 1048576 items. -/
import Derived.Test.YtihdfkcoajpmjaaGreatDoorLsF
import Derived.Laws.MakeOwn
namespace Mh
open Go Go.RowKit
set_option linter.unusedVariables false
def nil6 : List Value := [.int .i64 0, .bool false, .int .i64 0, .string ⟨#[]⟩, .slice none 0 0, .slice none 0 0]
def nilRows (n : Nat) : List Value := (List.replicate n nil6).flatten
theorem nilRows_len (n : Nat) : (nilRows n).length = n * 6 := by
  unfold nilRows
  induction n with
  | zero => rfl
  | succ n ih => rw [List.replicate_succ, List.flatten_cons, List.length_append, ih]; show 6 + n * 6 = _; omega
theorem nilRows_get : ∀ (n i : Nat) (h : i < n * 6), (nilRows n)[i]? = nil6[i % 6]? := by
  intro n
  induction n with
  | zero => intro i h; omega
  | succ n ih =>
    intro i h
    unfold nilRows
    rw [List.replicate_succ, List.flatten_cons]
    by_cases h6 : i < 6
    · rw [List.getElem?_append_left h6, Nat.mod_eq_of_lt h6]
    · rw [List.getElem?_append_right (by show 6 ≤ i; omega)]
      show (nilRows n)[i - 6]? = _
      rw [ih (i - 6) (by omega)]
      congr 1
      omega
theorem made_nil (n : Nat) : madeCells #[.int .i64 0, .bool false, .int .i64 0, .string ⟨#[]⟩, .slice none 0 0, .slice none 0 0] (n * 6) = (nilRows n).toArray := by
  apply Array.ext
  · rw [size_madeCells, List.size_toArray, nilRows_len]
  · intro i h1 h2
    rw [size_madeCells] at h1
    have h3 := nilRows_get n i h1
    rw [List.getElem?_eq_getElem (by rw [nilRows_len]; exact h1), List.getElem?_eq_getElem (show i % 6 < nil6.length by show i % 6 < 6; omega)] at h3
    have h4 := Option.some.inj h3
    rw [show (nilRows n).toArray[i] = (nilRows n)[i]'(by rw [nilRows_len]; exact h1) from List.getElem_toArray _, h4]
    have hm : i % 6 < 6 := Nat.mod_lt _ (by decide)
    simp only [madeCells, Array.getElem_map, Array.getElem_range]
    show (#[Value.int .i64 0, .bool false, .int .i64 0, .string ⟨#[]⟩, .slice none 0 0, .slice none 0 0] : Array Value)[i % 6]! = _
    clear h1 h2 h3 h4
    have h7 : ∀ q (hq : q < 6), (#[Value.int .i64 0, .bool false, .int .i64 0, .string ⟨#[]⟩, .slice none 0 0, .slice none 0 0] : Array Value)[q]! = nil6[q]'hq := fun q hq => by
      match q, hq with
      | 0, _ => rfl
      | 1, _ => rfl
      | 2, _ => rfl
      | 3, _ => rfl
      | 4, _ => rfl
      | 5, _ => rfl
    exact h7 _ hm
theorem Sl.none (k : Nat) (w : World) : Sl k w (.slice none 0 0) 0 [] := ⟨by simp, .inl ⟨rfl, _, _, rfl⟩⟩
theorem VAt.nil (w : World) : VAt w V.nil nil6 := by
  unfold V.nil VAt
  refine ⟨_, _, rfl, by decide, by decide, Nat.zero_le _, ⟨Sl.none 1 w, by simp⟩, [], Sl.none 6 w, by unfold VsAt; rfl⟩
theorem VsAt.nils (w : World) : ∀ n, VsAt w (List.replicate n V.nil) (nilRows n) := by
  intro n
  induction n with
  | zero => unfold nilRows VsAt; rfl
  | succ n ih =>
    rw [List.replicate_succ]
    unfold VsAt
    exact ⟨nil6, nilRows n, rfl, rfl, VAt.nil w, ih⟩
theorem VAt.its {w w' : World} {X : V} {ia ic ka kc} (h : VAt w X (vcs X ia ic ka kc)) (hb : Below w.heap.size w w') (k' : Int) (hk : (Lit.int .i64 k').wf = true) {is' : List V} {iv' : Value} {rows' : List Value} (hS : Sl 6 w' iv' is'.length rows') (hT : VsAt w' is' rows') :
    VAt w' (X.withIts k' is') [.int .i64 k', .bool X.bo, .int .i64 X.nu, .string X.tx, iv', .slice ka X.kys.length kc] := by
  have h := h.keep hb
  obtain ⟨k, b, n, t, is, ks⟩ := X
  unfold V.withIts
  unfold VAt at h ⊢
  obtain ⟨iv, kv, e, h1, h2, h3, h4, _⟩ := h
  simp only [vcs, List.cons.injEq, and_true] at e
  obtain ⟨_, _, _, _, _, e6⟩ := e
  exact ⟨iv', _, rfl, hk, h2, h3, by rw [← e6] at h4; exact h4, rows', hS, hT⟩
theorem VAt.wfk {w : World} {X : V} {cs : List Value} (h : VAt w X cs) : (Lit.int .i64 X.kd).wf = true := by
  obtain ⟨k, b, n, t, is, ks⟩ := X
  unfold VAt at h
  obtain ⟨_, _, _, h1, _⟩ := h
  exact h1
end Mh
namespace Go.Proofs.YtihdfkcoajpmjaaGreatDoor
open Go.RowKit Mh
set_option linter.unusedVariables false
theorem infoValueL : (Tryz.prog.info? 35).map (fun i => (i.zero, i.size, i.bytes)) = some (some (.agg #[.int .i64 0, .bool false, .int .i64 0, .string ⟨#[]⟩, .slice none 0 0, .slice none 0 0]), 6, 88) := by kernel_rfl
theorem make_nils (n : Nat) (hn : n ≤ 1048576) (w : World) : (Instr.makeSlice 22 (.int .i64 (n : Int)) (.int .i64 (n : Int))).run Tryz.prog w = .ok (.slice (some ⟨w.heap.size, 0, none⟩) n n) (w.alloc (.cells (nilRows n).toArray 35)) := by
  obtain ⟨bi, hbi, hz0, hz1, hz2⟩ := info_parts infoValueL
  rw [run_makeSlice (P := Tryz.prog) w 22 35 bi _ Tryz.underlying22 hbi hz0 .i64 .i64 (n : Int) (n : Int) (by omega) (by omega) (by rw [hz1]; omega) (by rw [hz2]; omega) (by omega)]
  have e : madeCells (Value.agg #[.int .i64 0, .bool false, .int .i64 0, .string ⟨#[]⟩, .slice none 0 0, .slice none 0 0]).cells ((n : Int).toNat * bi.size) = (nilRows n).toArray := by
    rw [hz1, Int.toNat_natCast]
    exact made_nil n
  rw [e, Int.toNat_natCast]
theorem nils_at (g n : Nat) (hn : n ≤ 1048576) (w' : World) (hb : w'.heap[g]? = some (.cells (nilRows n).toArray 35 (0, 0))) : Sl 6 w' (.slice (some ⟨g, 0, none⟩) n n) (List.replicate n V.nil).length (nilRows n) := by
  rw [List.length_replicate]
  by_cases h0 : n = 0
  · subst h0; exact ⟨rfl, .inl ⟨rfl, _, _, rfl⟩⟩
  · refine ⟨nilRows_len n, .inr ⟨g, 0, n, rfl, by omega, Nat.le_refl _, by unfold maxLen; omega, (Array.getElem?_eq_some_iff.1 hb).1, fun i u hu => ?_⟩⟩
    rw [Nat.zero_add, cell_of_row _ _ _ _ _ _ hb]
    simpa using hu
theorem new_at {w : World} {o : Obj} {k : Nat} (h : k = w.heap.size) : (w.alloc o).heap[k]? = some o := by subst h; exact heap_alloc_new _ _
set_option maxHeartbeats 8000000 in
set_option maxRecDepth 100000 in
theorem lvalueFault_any (X : V) (hn : X.its.length ≤ 1048576) (cs : List Value) (w : World) (h : VAt w X cs) :
    Calls Tryz.prog 80 #[.agg cs.toArray] w fun e w' => ∃ r : Int, e = .returned (.int .i64 r) ∧ (r = 0 ↔ X.lf1) ∧ Below w.heap.size w w' := by
  have CT := Lib.hid (fun w' (hb : Below w.heap.size w w') => ltableFault_any X cs w' (h.keep hb))
  have CX := Lib.hid (fun w' (hb : Below w.heap.size w w') => check_all X cs w' (h.keep hb))
  obtain ⟨ia, ic, ka, kc, rfl, hil, _⟩ := h.opened
  have CI := Lib.hid (fun (k' : Int) (hk : (Lit.int .i64 k').wf = true) (is' : List V) (iv' : Value) (rows' : List Value) w' (hb : Below w.heap.size w w') (hS : Sl 6 w' iv' is'.length rows') (hT : VsAt w' is' rows') => check_all _ _ w' (h.its hb k' hk hS hT))
  have HWF := Lib.hid h.wfk
  obtain ⟨G, hG⟩ : ∃ G : Prop, G ↔ X.lf1 := ⟨_, Iff.rfl⟩
  suffices H : Calls Tryz.prog 80 #[.agg (vcs X ia ic ka kc).toArray] w fun e w' => ∃ r : Int, e = .returned (.int .i64 r) ∧ (r = 0 ↔ G) ∧ Below w.heap.size w w' from
    H.mono fun e w' ⟨r, h1, h2, h3⟩ => ⟨r, h1, h2.trans hG, h3⟩
  unfold V.lf1 at hG
  have HG := Lib.hid hG
  have HB : Hid (Below w.heap.size w (w.alloc (.cells (sixA X ia ic ka kc) 35))) := (Below.refl w.heap.size w).alloc (Nat.le_refl _) _
  unfold sixA at HB
  have HB2 : Hid (∀ o : Obj, Below w.heap.size w ((w.alloc (.cells (sixA X ia ic ka kc) 35)).alloc o)) := fun o => ((Below.refl w.heap.size w).alloc (Nat.le_refl _) _).alloc (by simp) o
  unfold sixA at HB2
  have HB3 : Hid (∀ o o' : Obj, Below w.heap.size w (((w.alloc (.cells (sixA X ia ic ka kc) 35)).alloc o).alloc o')) := fun o o' => (((Below.refl w.heap.size w).alloc (Nat.le_refl _) _).alloc (by simp) o).alloc (by simp; omega) o'
  unfold sixA at HB3
  rw [vcs_arr] at CT CX
  rw [vcs_arr]
  clear hG h
  generalize X.tabOk = GT at *
  generalize hW : X.withIts = W at *
  generalize hO : X.okw = OX at *
  clear hW hO
  generalize X.its.length = il at *
  generalize X.kys.length = kl at *
  generalize X.kd = xk at *
  generalize X.bo = xb at *
  generalize X.nu = xn at *
  generalize X.tx = xt at *
  clear hil
  by_cases h0 : xk < 0
  · have HN : Hid (¬ G) := fun g => by have := (HG.out.1 g).1.1; omega
    have q : decide (xk < 0) = true := decide_eq_true h0
    clear h0
    go_enter Tryz.func80, Tryz.ntmps80
    go_wp2_with fail
    go_ret
    exact ⟨10, rfl, ⟨fun h => absurd h (by decide), fun g => absurd g HN.out⟩, HB.out⟩
  by_cases h8 : 8 < xk
  · have HN : Hid (¬ G) := fun g => by have := (HG.out.1 g).1.2; omega
    have q : decide (xk < 0) = false := decide_eq_false h0
    have q8 : decide (8 < xk) = true := decide_eq_true h8
    clear h0 h8
    go_enter Tryz.func80, Tryz.ntmps80
    go_wp2_with fail
    go_ret
    exact ⟨10, rfl, ⟨fun h => absurd h (by decide), fun g => absurd g HN.out⟩, HB.out⟩
  have q : decide (xk < 0) = false := decide_eq_false h0
  have q8 : decide (8 < xk) = false := decide_eq_false h8
  by_cases h78 : xk = 7 ∨ xk = 8
  · -- Safe or Fact
    have HG2 : Hid (G ↔ il = 0 ∧ (W 3 []).okw) := HG.out.trans (by rw [if_pos h78]; exact ⟨fun g => g.2, fun g => ⟨⟨by omega, by omega⟩, g⟩⟩)
    have q7 : (xk == 7) = true ∨ ((xk == 7) = false ∧ (xk == 8) = true) := by
      rcases h78 with e | e <;> subst e
      · exact .inl rfl
      · exact .inr ⟨rfl, rfl⟩
    have CC := Lib.hid (fun w' hb => CI.out 3 (by decide) [] (.slice none 0 0) [] w' hb (Sl.none 6 w') (by unfold VsAt; rfl))
    clear HG h0 h8 h78 CI CX CT HWF
    by_cases hi0 : il = 0
    · have HG3 : Hid (G ↔ (W 3 []).okw) := HG2.out.trans ⟨fun g => g.2, fun g => ⟨hi0, g⟩⟩
      subst hi0
      clear HG2
      rcases q7 with q7 | ⟨q7, q7'⟩
      all_goals
        go_enter Tryz.func80, Tryz.ntmps80
        go_wp2_with fail
        refine (CC.out _ (HB2.out _)).mono ?_
        rintro e w1 ⟨r, rfl, hr, hb1⟩
        have HR : Hid (r = 0 ↔ G) := hr.trans HG3.out.symm
        have HB3 : Hid (Below w.heap.size w w1) := (HB2.out _).trans (hb1.mono (HB2.out _).size)
        clear hr hb1
        go_wp2_with fail
        go_ret
        exact ⟨r, rfl, HR.out, HB3.out⟩
    · have HN : Hid (¬ G) := fun g => hi0 (HG2.out.1 g).1
      have qi : decide ((0 : Int) < (il : Int)) = true := decide_eq_true (by omega)
      have qi' : decide (0 < il) = true := decide_eq_true (by omega)
      clear HG2 hi0
      rcases q7 with q7 | ⟨q7, q7'⟩
      all_goals
        go_enter Tryz.func80, Tryz.ntmps80
        go_wp2_with fail
        go_ret
        exact ⟨1, rfl, ⟨fun h => absurd h (by decide), fun g => absurd g HN.out⟩, HB2.out _⟩
  have q7 : (xk == 7) = false := by rw [beq_eq_false_iff_ne]; omega
  have q7' : (xk == 8) = false := by rw [beq_eq_false_iff_ne]; omega
  by_cases h5 : xk = 5
  · have HG2 : Hid (G ↔ (W 5 []).okw) := HG.out.trans (by rw [if_neg h78, if_pos h5]; subst h5; exact ⟨fun g => g.2, fun g => ⟨⟨by omega, by omega⟩, g⟩⟩)
    have CC := Lib.hid (fun w' hb => CI.out 5 (by decide) [] (.slice none 0 0) [] w' hb (Sl.none 6 w') (by unfold VsAt; rfl))
    subst h5
    clear HG h0 h8 h78 CI CX CT HWF
    go_enter Tryz.func80, Tryz.ntmps80
    go_wp2_with fail
    refine (CC.out _ (HB2.out _)).mono ?_
    rintro e w1 ⟨r, rfl, hr, hb1⟩
    have HR : Hid (r = 0 ↔ G) := hr.trans HG2.out.symm
    have HB3 : Hid (Below w.heap.size w w1) := (HB2.out _).trans (hb1.mono (HB2.out _).size)
    clear hr hb1
    go_wp2_with fail
    go_ret
    exact ⟨r, rfl, HR.out, HB3.out⟩
  have q5 : (xk == 5) = false := by rw [beq_eq_false_iff_ne]; omega
  by_cases h6 : xk = 6
  · have HG2 : Hid (G ↔ if 999 < il then GT else (W 6 (List.replicate il V.nil)).okw) := HG.out.trans (by rw [if_neg h78, if_neg h5, if_pos h6]; subst h6; exact ⟨fun g => g.2, fun g => ⟨⟨by omega, by omega⟩, g⟩⟩)
    have hmk := fun w' => make_nils il hn w'
    subst h6
    clear HG h0 h8 h78 h5 CX HWF
    by_cases h9 : 999 < il
    · have q9 : decide ((999 : Int) < (il : Int)) = true := decide_eq_true (by omega)
      have q9' : decide (999 < il) = true := decide_eq_true h9
      have HG3 : Hid (G ↔ GT) := HG2.out.trans (by rw [if_pos h9])
      clear HG2 h9 CI
      go_enter Tryz.func80, Tryz.ntmps80
      go_wp2_with fail
      refine (CT.out _ (HB3.out _ _)).mono ?_
      rintro e w1 ⟨r, rfl, hr, hb1⟩
      have HR : Hid (r = 0 ↔ G) := hr.trans HG3.out.symm
      have HB4 : Hid (Below w.heap.size w w1) := (HB3.out _ _).trans (hb1.mono (HB3.out _ _).size)
      clear hr hb1
      go_wp2_with fail
      go_ret
      exact ⟨r, rfl, HR.out, HB4.out⟩
    · have q9 : decide ((999 : Int) < (il : Int)) = false := decide_eq_false (by omega)
      have q9' : decide (999 < il) = false := decide_eq_false h9
      have HG3 : Hid (G ↔ (W 6 (List.replicate il V.nil)).okw) := HG2.out.trans (by rw [if_neg h9])
      have CC := Lib.hid (fun w' g hb hblk => CI.out 6 (by decide) (List.replicate il V.nil) _ (nilRows il) w' hb (nils_at g il hn w' hblk) (VsAt.nils w' il))
      clear HG2 h9 CT CI
      go_enter Tryz.func80, Tryz.ntmps80
      go_wp2_with fail
      refine (CC.out _ (w.heap.size + 1 + 1) (HB3.out _ _) (new_at (by simp))).mono ?_
      rintro e w1 ⟨r, rfl, hr, hb1⟩
      have HR : Hid (r = 0 ↔ G) := hr.trans HG3.out.symm
      have HB4 : Hid (Below w.heap.size w w1) := (HB3.out _ _).trans (hb1.mono (HB3.out _ _).size)
      clear hr hb1
      go_wp2_with fail
      go_ret
      exact ⟨r, rfl, HR.out, HB4.out⟩
  · have HG2 : Hid (G ↔ il = 0 ∧ OX) := HG.out.trans (by rw [if_neg h78, if_neg h5, if_neg h6]; exact ⟨fun g => g.2, fun g => ⟨⟨by omega, by omega⟩, g⟩⟩)
    have q6 : (xk == 6) = false := by rw [beq_eq_false_iff_ne]; exact h6
    clear HG h0 h8 h78 h5 h6 CI CT HWF
    by_cases hi0 : il = 0
    · have HG3 : Hid (G ↔ OX) := HG2.out.trans ⟨fun g => g.2, fun g => ⟨hi0, g⟩⟩
      subst hi0
      clear HG2
      go_enter Tryz.func80, Tryz.ntmps80
      go_wp2_with fail
      refine (CX.out _ (HB2.out _)).mono ?_
      rintro e w1 ⟨r, rfl, hr, hb1⟩
      have HR : Hid (r = 0 ↔ G) := hr.trans HG3.out.symm
      have HB3 : Hid (Below w.heap.size w w1) := (HB2.out _).trans (hb1.mono (HB2.out _).size)
      clear hr hb1
      go_wp2_with fail
      go_ret
      exact ⟨r, rfl, HR.out, HB3.out⟩
    · have HN : Hid (¬ G) := fun g => hi0 (HG2.out.1 g).1
      have qi : decide ((0 : Int) < (il : Int)) = true := decide_eq_true (by omega)
      have qi' : decide (0 < il) = true := decide_eq_true (by omega)
      clear HG2 hi0
      go_enter Tryz.func80, Tryz.ntmps80
      go_wp2_with fail
      go_ret
      exact ⟨1, rfl, ⟨fun h => absurd h (by decide), fun g => absurd g HN.out⟩, HB2.out _⟩
end Go.Proofs.YtihdfkcoajpmjaaGreatDoor
