/- strings.Replacer at mark.Unescape's ten strings: made, built once (sync.Once). Conditions: the strings in memory. -/
import Derived.Test.YtoalbfffojpnmaaDoorUnE
import Derived.Test.YtoalbfffojpnmaaDoorSl
import Derived.Test.YtoalbfffojpnmaaDoorApRd
import Derived.Deep.AppendLies
namespace Go.Proofs.YtoalbfffojpnmaaDoor
open Go.RowKit Mh
set_option linter.unusedVariables false

theorem infoStr : (Tryd.prog.info? 9).map (fun i => (i.zero, i.size, i.bytes)) = some (some (.string ⟨#[]⟩), 1, 16) := by kernel_rfl
theorem Sub.keep {b0 : Nat} {W W1 : World} (sm : ∀ b, b0 ≤ b → b < W.heap.size → W1.heap[b]? = W.heap[b]?) {n1 : Nat} : ∀ {k : Nat}, Sub b0 W n1 k → Sub b0 W1 n1 k
  | 0, _ => trivial
  | 1, h => by
    obtain ⟨h1, q, h2, h3, h4⟩ := h
    exact ⟨h1, q, h2, (sm _ h1 h3.lt).trans h3, (sm _ h2 h4.lt).trans h4⟩
  | k + 2, h => by
    obtain ⟨h1, T1, row, h2, h3, h4, h5⟩ := h
    refine ⟨h1, T1, row, h2, (sm _ h1 h3.lt).trans h3, (sm _ h2 (Array.getElem?_eq_some_iff.1 h4).1).trans h4, h5.len, fun e he => ?_, h5.rest⟩
    obtain ⟨b, hb, g1, q, g2, g3, g4⟩ := h5.at_ e he
    exact ⟨b, hb, g1, q, g2, (sm _ g1 g3.lt).trans g3, (sm _ g2 g4.lt).trans g4⟩
theorem Tr.keep {b0 : Nat} {W W1 : World} {r k : Nat} (h : Tr b0 W r k) (sm : ∀ b, b0 ≤ b → b < W.heap.size → W1.heap[b]? = W.heap[b]?) : Tr b0 W1 r k := by
  obtain ⟨⟨T0, hT0, hr, n1, ht, hs⟩, hlo⟩ := h
  exact ⟨⟨T0, hT0, (sm _ hlo (Array.getElem?_eq_some_iff.1 hr).1).trans hr, n1, (sm _ hT0 (Array.getElem?_eq_some_iff.1 ht).1).trans ht, Sub.keep sm hs⟩, hlo⟩
theorem Tr.lower {a b0 : Nat} {W : World} {r k : Nat} (h : Tr b0 W r k) (hab : a ≤ b0) : Tr a W r k := by
  obtain ⟨⟨T0, hT0, hr, n1, ht, hs⟩, hlo⟩ := h
  refine ⟨⟨T0, by omega, hr, n1, ht, ?_⟩, by omega⟩
  match k, hs with
  | 0, _ => trivial
  | 1, h => obtain ⟨h1, q, h2, h3, h4⟩ := h; exact ⟨by omega, q, by omega, h3, h4⟩
  | k + 2, h =>
    obtain ⟨h1, T1, row, h2, h3, h4, h5⟩ := h
    refine ⟨by omega, T1, row, by omega, h3, h4, h5.len, fun e he => ?_, h5.rest⟩
    obtain ⟨b, hb, g1, q, g2, g3, g4⟩ := h5.at_ e he
    exact ⟨b, hb, by omega, q, by omega, g3, g4⟩
set_option maxRecDepth 100000 in
set_option maxHeartbeats 4000000 in
theorem build_any (R q oc : Nat) (w : World) (h4 : w.cell? ⟨R, 4, none⟩ = some (.slice (some ⟨q, 0, none⟩) 10 oc)) (hq : ∀ i (h : i < 10), w.cell? ⟨q, i, none⟩ = some (.string (unL[i]'h))) :
    Calls Tryd.prog 48 #[.pointer (some ⟨R, 0, none⟩)] w fun e w' => ∃ B, e = .returned (.iface 91 (.pointer (some ⟨B, 0, none⟩))) ∧ Hid (Tr w.heap.size w' B 5) ∧ Below w.heap.size w w' := by
  have HM := Lib.hid (make_any q oc w hq)
  have c0 : w.cell? ⟨q, 0, none⟩ = some (.string ⟨#[38, 97, 109, 112, 59]⟩) := hq 0 (by omega)
  clear hq
  go_enter Tryd.func48, Tryd.ntmps48
  go_wp2_with fail
  go_loopw [4, 5] (fun b i wr => wr = w ∧ b = .bool true ∧ i = .int .i64 0) (fun _ i _ => 10 - (intOf i).toNat)
  case atStart => exact ⟨rfl, rfl, rfl⟩
  case round =>
    obtain ⟨rfl, rfl, rfl⟩ := hrel
    go_wp2_with (go_at_call 55; refine HM.out.mono ?_; rintro e w1 ⟨B, rfl, hT, hb⟩)
    unfold ptr
    go_wp2_with fail
    go_ret
    exact ⟨B, rfl, hT, hb⟩
/-- What a replacer's first use leaves. -/
structure Once (R : Nat) (w w' : World) : Prop where
  bsr : ∃ B, Tr w.heap.size w' B 5 ∧ w'.cell? ⟨R, 3, none⟩ = some (.iface 91 (.pointer (some ⟨B, 0, none⟩)))
  kept : Kept [R] w w'
  c0 : w'.cell? ⟨R, 0, none⟩ = w.cell? ⟨R, 0, none⟩
  c1 : w'.cell? ⟨R, 1, none⟩ = w.cell? ⟨R, 1, none⟩
  f : ∀ i, w'.frozen? ⟨R, i, none⟩ = w.frozen? ⟨R, i, none⟩
set_option maxRecDepth 100000 in
set_option maxHeartbeats 4000000 in
theorem buildOnce_any (R q oc : Nat) (w : World) (x3 : Value) (h3 : w.cell? ⟨R, 3, none⟩ = some x3) (h4 : w.cell? ⟨R, 4, none⟩ = some (.slice (some ⟨q, 0, none⟩) 10 oc)) (hq : ∀ i (h : i < 10), w.cell? ⟨q, i, none⟩ = some (.string (unL[i]'h)))
    (f3 : w.frozen? ⟨R, 3, none⟩ = false) (f4 : w.frozen? ⟨R, 4, none⟩ = false) :
    Calls Tryd.prog 40 #[.pointer (some ⟨R, 0, none⟩)] w fun e w' => e = .returned (.tuple #[]) ∧ Hid (Once R w w') := by
  have HC := Lib.hid (build_any R q oc w h4 hq)
  have hR : R < w.heap.size := World.block_lt_of_cell? w _ h3
  have HK : Hid (∀ w1, Below w.heap.size w w1 → w1.cell? ⟨R, 3, none⟩ = some x3 ∧ w1.cell? ⟨R, 4, none⟩ = some (.slice (some ⟨q, 0, none⟩) 10 oc) ∧ w1.frozen? ⟨R, 3, none⟩ = false ∧ w1.frozen? ⟨R, 4, none⟩ = false) := fun w1 hb =>
    ⟨(hb.cell (p := ⟨R, 3, none⟩) hR).trans h3, (hb.cell (p := ⟨R, 4, none⟩) hR).trans h4, (hb.frozen (p := ⟨R, 3, none⟩) hR).trans f3, (hb.frozen (p := ⟨R, 4, none⟩) hR).trans f4⟩
  clear h3 h4 hq f3 f4
  go_enter Tryd.func40, Tryd.ntmps40
  go_wp2_with (go_at_call 48; refine HC.out.mono ?_; rintro e w1 ⟨B, rfl, hT, hb⟩; have HB1 := Lib.hid hb; clear hb; obtain ⟨z3, z4, y3, y4⟩ := HK.out _ HB1.out)
  all_goals go_end0
  all_goals refine ⟨rfl, ?_⟩
  all_goals exact ⟨⟨B, hT.out.keep (fun b h1 _ => by rw [heap_setCell_other _ _ _ _ (by show b ≠ R; omega), heap_setCell_other _ _ _ _ (by show b ≠ R; omega)]), (cell_other_off _ _ _ _ _ (by omega)).trans (World.cell?_setCell_same _ _ _ z3)⟩,
    ((Kept.of_below HB1.out).set R 3 (by simp) _).set R 4 (by simp) _, (cell_other_off _ _ _ _ _ (by omega)).trans ((cell_other_off _ _ _ _ _ (by omega)).trans (HB1.out.cell (p := ⟨R, 0, none⟩) hR)),
    (cell_other_off _ _ _ _ _ (by omega)).trans ((cell_other_off _ _ _ _ _ (by omega)).trans (HB1.out.cell (p := ⟨R, 1, none⟩) hR)), fun i => by rw [World.frozen?_setCell, World.frozen?_setCell]; exact HB1.out.frozen (p := ⟨R, i, none⟩) hR⟩
/-- What the first use leaves, from outside. -/
structure Used (R : Nat) (w w' : World) : Prop where
  bsr : ∃ B, Tr w.heap.size w' B 5 ∧ w'.cell? ⟨R, 3, none⟩ = some (.iface 91 (.pointer (some ⟨B, 0, none⟩)))
  kept : Kept [R] w w'
theorem Once.used {R : Nat} {w w2 : World} {u : Value} (h : Once R (w.setCell ⟨R, 1, none⟩ u) w2) (hR : R < w.heap.size) (x y : Value) : Used R w ((w2.drew.setCell ⟨R, 0, none⟩ x).setCell ⟨R, 1, none⟩ y) := by
  have hs : (w.setCell ⟨R, 1, none⟩ u).heap.size = w.heap.size := by simp
  obtain ⟨B, hb, h3⟩ := h.bsr
  rw [hs] at hb
  refine ⟨⟨B, hb.keep (fun b h1 _ => ?_), ?_⟩, ?_⟩
  · rw [heap_setCell_other _ _ _ _ (by show b ≠ R; omega), heap_setCell_other _ _ _ _ (by show b ≠ R; omega)]; rfl
  · exact (cell_other_off _ _ _ _ _ (by omega)).trans ((cell_other_off _ _ _ _ _ (by omega)).trans h3)
  · exact (((((Kept.refl [R] w).set R 1 (by simp) u).trans h.kept).drew).set R 0 (by simp) x).set R 1 (by simp) y
set_option maxRecDepth 100000 in
set_option maxHeartbeats 4000000 in
theorem slow_any (R q oc : Nat) (w : World) (x3 : Value) (h0 : w.cell? ⟨R, 0, none⟩ = some (.int .u32 0)) (h1 : w.cell? ⟨R, 1, none⟩ = some (.int .i32 0)) (h3 : w.cell? ⟨R, 3, none⟩ = some x3) (h4 : w.cell? ⟨R, 4, none⟩ = some (.slice (some ⟨q, 0, none⟩) 10 oc))
    (hq : ∀ i (h : i < 10), w.cell? ⟨q, i, none⟩ = some (.string (unL[i]'h))) (hqR : q ≠ R) (hf : ∀ i, w.frozen? ⟨R, i, none⟩ = false) :
    Calls Tryd.prog 47 #[.pointer (some ⟨R, 0, none⟩), .func (.func 40) #[.pointer (some ⟨R, 0, none⟩)] #[]] w fun e w' => e = .returned (.tuple #[]) ∧ Hid (Used R w w') := by
  have hR : R < w.heap.size := World.block_lt_of_cell? w _ h3
  have h01 : (w.setCell ⟨R, 1, none⟩ (.int .i32 1)).cell? ⟨R, 0, none⟩ = some (.int .u32 0) := (cell_other_off _ _ _ _ _ (by omega)).trans h0
  have HL := Lib.hid (load_not ⟨R, 0, none⟩ (w.setCell ⟨R, 1, none⟩ (.int .i32 1)) h01)
  have hnot : ∀ (x : Bool) (w : World), (Op.unary .not (.bool x)).run Tryd.prog w = .ok (.bool (!x)) w := fun _ _ => rfl
  have HB := Lib.hid (buildOnce_any R q oc (w.setCell ⟨R, 1, none⟩ (.int .i32 1)) x3 ((cell_other_off _ _ _ _ _ (by omega)).trans h3) ((cell_other_off _ _ _ _ _ (by omega)).trans h4) (fun i h => (cell_far_set _ _ _ _ _ _ (fun e => hqR e.symm)).trans (hq i h)) (by rw [World.frozen?_setCell]; exact hf 3) (by rw [World.frozen?_setCell]; exact hf 4))
  have f1 := hf 1
  have HF := Lib.hid (fun w2 (ho : Once R (w.setCell ⟨R, 1, none⟩ (.int .i32 1)) w2) => show w2.cell? ⟨R, 0, none⟩ = some (.int .u32 0) ∧ w2.cell? ⟨R, 1, none⟩ = some (.int .i32 1) ∧ (∀ i, w2.frozen? ⟨R, i, none⟩ = false) from
    ⟨ho.c0.trans h01, ho.c1.trans (World.cell?_setCell_same _ _ _ h1), fun i => by rw [ho.f i, World.frozen?_setCell]; exact hf i⟩)
  clear h3 h4 hq h0 hf
  go_enter_defers Tryd.func47, Tryd.ntmps47
  go_wp2_with (first | (go_at_call 51; refine (lock_free ⟨R, 1, none⟩ _ h1 f1).mono ?_; rintro e w' ⟨rfl, rfl⟩) | (go_at_call 46; refine HL.out.mono ?_; rintro e w' ⟨rfl, rfl⟩) | (go_at_call 40; refine HB.out.mono ?_; rintro e w2 ⟨rfl, ho⟩; obtain ⟨d0, d1, df⟩ := HF.out _ ho.out))
  refine leaves_cons (f := 53) (args := #[.pointer (some ⟨R, 0, none⟩), .bool true]) (by simp) (by simp [go_sem]) ?_
  refine (store_deferred ⟨R, 0, none⟩ (.int .u32 0) .returning _ d0 (df 0)).mono ?_
  rintro e u' w'' ⟨rfl, rfl, rfl⟩
  refine leaves_cons (f := 52) (args := #[.pointer (some ⟨R, 1, none⟩)]) (by simp [settle]) (by simp [go_sem]) ?_
  refine (unlock_deferred ⟨R, 1, none⟩ _ (w2.drew.setCell ⟨R, 0, none⟩ (.int .u32 1)) ((cell_other_off w2.drew R 0 1 _ (by omega)).trans d1) ((World.frozen?_setCell w2.drew _ _ _).trans (df 1))).mono ?_
  rintro e u' w'' ⟨rfl, rfl, rfl⟩
  have hu := Lib.hid (ho.out.used hR (.int .u32 1) (.int .i32 0))
  simp [Leaves, settle, results, Tryd.results47]
  exact hu
set_option maxRecDepth 100000 in
set_option maxHeartbeats 4000000 in
theorem do_any (R q oc : Nat) (w : World) (x3 : Value) (h0 : w.cell? ⟨R, 0, none⟩ = some (.int .u32 0)) (h1 : w.cell? ⟨R, 1, none⟩ = some (.int .i32 0)) (h3 : w.cell? ⟨R, 3, none⟩ = some x3) (h4 : w.cell? ⟨R, 4, none⟩ = some (.slice (some ⟨q, 0, none⟩) 10 oc))
    (hq : ∀ i (h : i < 10), w.cell? ⟨q, i, none⟩ = some (.string (unL[i]'h))) (hqR : q ≠ R) (hf : ∀ i, w.frozen? ⟨R, i, none⟩ = false) :
    Calls Tryd.prog 39 #[.pointer (some ⟨R, 0, none⟩), .func (.func 40) #[.pointer (some ⟨R, 0, none⟩)] #[]] w fun e w' => e = .returned (.tuple #[]) ∧ Hid (Used R w w') := by
  have HL := Lib.hid (load_not ⟨R, 0, none⟩ w h0)
  have hnot : ∀ (x : Bool) (w : World), (Op.unary .not (.bool x)).run Tryd.prog w = .ok (.bool (!x)) w := fun _ _ => rfl
  have HS := Lib.hid (slow_any R q oc w x3 h0 h1 h3 h4 hq hqR hf)
  clear h0 h1 h3 h4 hq hf
  go_enter Tryd.func39, Tryd.ntmps39
  go_wp2_with (first | (go_at_call 46; refine HL.out.mono ?_; rintro e w' ⟨rfl, rfl⟩) | (go_at_call 47; refine HS.out.mono ?_; rintro e w2 ⟨rfl, ho⟩))
  all_goals go_end0
  all_goals exact ⟨rfl, ho⟩
end Go.Proofs.YtoalbfffojpnmaaDoor
namespace Go.Proofs.YtoalbfffojpnmaaDoor
open Go.RowKit Mh
set_option linter.unusedVariables false

structure Rpl (b0 : Nat) (W : World) (R : Nat) : Prop where
  c0 : W.cell? ⟨R, 0, none⟩ = some (.int .u32 0)
  c1 : W.cell? ⟨R, 1, none⟩ = some (.int .i32 0)
  c3 : W.cell? ⟨R, 3, none⟩ = some Value.nilIface
  f : ∀ i, W.frozen? ⟨R, i, none⟩ = false
  lo : b0 ≤ R
  c4 : ∃ q c, W.cell? ⟨R, 4, none⟩ = some (.slice (some ⟨q, 0, none⟩) 10 c) ∧ q ≠ R ∧ ∀ i (h : i < 10), W.cell? ⟨q, i, none⟩ = some (.string (unL[i]'h))
theorem Rpl.mk_ {w W : World} {v : Value} (hown : W.ownsRow w.heap.size 9 1 v 10 (unL.map Value.string)) (hl : w.heap.size ≤ W.heap.size) : Rpl w.heap.size (W.alloc (.cells #[.int .u32 0, .int .i32 0, .int .u32 0, Value.nilIface, v] 76)) W.heap.size := by
  have hb := heap_alloc_new W (.cells #[.int .u32 0, .int .i32 0, .int .u32 0, Value.nilIface, v] 76)
  refine ⟨cellT hb rfl, cellT hb rfl, cellT hb rfl, fun i => frozenT hb, hl, ?_⟩
  rcases hown.2 with ⟨_, e⟩ | ⟨g, c, cur, rfl, hg, hh, _, _, _, ht⟩
  · simp at e
  · have hlt := (Array.getElem?_eq_some_iff.1 hh).1
    refine ⟨g, c, cellT hb rfl, by omega, fun i hi => ?_⟩
    rw [World.cell?_alloc_lt _ _ _ hlt, cell_of_row _ _ _ _ _ _ hh]
    have : (cur.toList.take (10 * 1))[i]? = some (Value.string (unL[i]'hi)) := by rw [ht, List.getElem?_map, List.getElem?_eq_getElem hi]; rfl
    rw [List.getElem?_take, if_pos (by omega)] at this
    simpa using this
set_option maxRecDepth 100000 in
set_option maxHeartbeats 4000000 in
theorem new_any (u : Value) (w : World) (h : Sl 1 w u 10 (unL.map Value.string)) :
    Calls Tryd.prog 30 #[u] w fun e w' => ∃ R, e = .returned (.pointer (some ⟨R, 0, none⟩)) ∧ Hid (Rpl w.heap.size w' R) ∧ Below w.heap.size w w' := by
  obtain ⟨si, hsi, hs0, hs1, hs2⟩ := info_parts infoStr
  obtain ⟨ua, uc, rfl⟩ : ∃ ua uc, u = .slice ua 10 uc := by
    rcases h.2 with ⟨e, _⟩ | ⟨b, o, c, e, _⟩
    · cases e
    · exact ⟨_, _, e⟩
  have HS := Lib.hid h
  clear h
  go_enter Tryd.func30, Tryd.ntmps30
  go_wp2_with (at_builtin; refine wpList_append_sl _ rfl _ _ 47 rfl w.heap.size 9 si (.string ⟨#[]⟩) 1 16 Tryd.underlying47 hsi hs0 hs1 hs2 rfl (by decide) (.slice none 0 0) 0 [] rfl (World.ownsRow_nil _ _ _ _) _ 10 _ rfl HS.out (by simp [unL, Value.oneCell']) (by unfold maxLen; omega) (by omega) (Nat.le_refl _) ?_; intro v3 w3 hown3 hgr3 hat3; obtain ⟨a3, c3, rfl⟩ := ownsRow_form hown3)
  have hb3 : Below w.heap.size w w3 := (Below.refl _ w).grown hgr3 (Nat.le_refl _) (fun k e => by cases e)
  go_ret
  exact ⟨_, rfl, Rpl.mk_ (by simpa using hown3) hb3.size, hb3.alloc hb3.size _⟩
end Go.Proofs.YtoalbfffojpnmaaDoor
