/- (*strings.trieNode).add at the nodes that mark.Unescape's replacer makes: an empty node, a node with a table. Conditions: the nodes in memory. -/
import Derived.Test.YtoalbfffojpnmaaDoorOnc
import Derived.BigQuiet
import Derived.Deep.RegionWith
namespace Go.Proofs.YtoalbfffojpnmaaDoor
open Go.RowKit Mh
set_option linter.unusedVariables false

/-- A trie's node. -/
def Nd (w : World) (b : Nat) (v : ByteArray) (p : Int) (pf : ByteArray) (nx tb : Value) : Prop := w.heap[b]? = some (.cells #[.string v, .int .i64 p, .string pf, nx, tb] 113 (0, 0))
def ptr (b : Nat) : Value := .pointer (some ⟨b, 0, none⟩)
theorem Nd.lt {w : World} {b : Nat} {v pf : ByteArray} {p : Int} {nx tb : Value} (h : Nd w b v p pf nx tb) : b < w.heap.size := (Array.getElem?_eq_some_iff.1 h).1
theorem Nd.cells {w : World} {b : Nat} {v pf : ByteArray} {p : Int} {nx tb : Value} (h : Nd w b v p pf nx tb) :
    w.cell? ⟨b, 0, none⟩ = some (.string v) ∧ w.cell? ⟨b, 1, none⟩ = some (.int .i64 p) ∧ w.cell? ⟨b, 2, none⟩ = some (.string pf) ∧ w.cell? ⟨b, 3, none⟩ = some nx ∧ w.cell? ⟨b, 4, none⟩ = some tb ∧ (∀ i, w.frozen? ⟨b, i, none⟩ = false) :=
  ⟨cellT h rfl, cellT h rfl, cellT h rfl, cellT h rfl, cellT h rfl, fun i => frozenT h⟩
theorem Nd.kept {w w' : World} {b : Nat} {v pf : ByteArray} {p : Int} {nx tb : Value} {S : List Nat} (h : Nd w b v p pf nx tb) (k : Kept S w w') (hb : b ∉ S) : Nd w' b v p pf nx tb :=
  (k.block b h.lt hb).trans h
theorem Nd.set0 {w : World} {b : Nat} {v u pf : ByteArray} {p : Int} {nx tb : Value} (h : Nd w b v p pf nx tb) : Nd (w.setCell ⟨b, 0, none⟩ (.string u)) b u p pf nx tb := by
  unfold Nd; rw [heap_setCell_same _ _ 0 _ _ _ h]; rfl
theorem Nd.set1 {w : World} {b : Nat} {v pf : ByteArray} {p q : Int} {nx tb : Value} (h : Nd w b v p pf nx tb) : Nd (w.setCell ⟨b, 1, none⟩ (.int .i64 q)) b v q pf nx tb := by
  unfold Nd; rw [heap_setCell_same _ _ 1 _ _ _ h]; rfl
theorem Nd.set2 {w : World} {b : Nat} {v u pf : ByteArray} {p : Int} {nx tb : Value} (h : Nd w b v p pf nx tb) : Nd (w.setCell ⟨b, 2, none⟩ (.string u)) b v p u nx tb := by
  unfold Nd; rw [heap_setCell_same _ _ 2 _ _ _ h]; rfl
theorem Nd.set3 {w : World} {b : Nat} {v pf : ByteArray} {p : Int} {nx u tb : Value} (h : Nd w b v p pf nx tb) : Nd (w.setCell ⟨b, 3, none⟩ u) b v p pf u tb := by
  unfold Nd; rw [heap_setCell_same _ _ 3 _ _ _ h]; rfl
theorem Nd.set4 {w : World} {b : Nat} {v pf : ByteArray} {p : Int} {nx u tb : Value} (h : Nd w b v p pf nx tb) : Nd (w.setCell ⟨b, 4, none⟩ u) b v p pf nx u := by
  unfold Nd; rw [heap_setCell_same _ _ 4 _ _ _ h]; rfl
def nilP : Value := .pointer none
def nilT : Value := .slice none 0 0
-- S1
set_option maxRecDepth 100000 in
set_option maxHeartbeats 4000000 in
theorem add_leaf (b : Nat) (val : ByteArray) (pri : Int) (rv : Value) (w : World) (h : Nd w b ⟨#[]⟩ 0 ⟨#[]⟩ nilP nilT) :
    Calls Tryd.prog 61 #[ptr b, .string ⟨#[]⟩, .string val, .int .i64 pri, rv] w fun e w' => e = .returned (.tuple #[]) ∧ Hid (Nd w' b val pri ⟨#[]⟩ nilP nilT) ∧ Kept [b] w w' ∧ w'.heap.size = w.heap.size := by
  obtain ⟨c0, c1, c2, c3, c4, hf⟩ := h.cells
  have f0 := hf 0
  have f1 := hf 1
  have H := Lib.hid h
  have HK : Hid (Kept [b] w ((w.setCell ⟨b, 0, none⟩ (.string val)).setCell ⟨b, 1, none⟩ (.int .i64 pri))) := ((Kept.refl _ w).set b 0 (by simp) _).set b 1 (by simp) _
  have HN : Hid (Nd ((w.setCell ⟨b, 0, none⟩ (.string val)).setCell ⟨b, 1, none⟩ (.int .i64 pri)) b val pri ⟨#[]⟩ nilP nilT) := h.set0.set1
  clear h hf
  unfold ptr nilP nilT at *
  go_enter Tryd.func61, Tryd.ntmps61
  go_wp2_with fail
  all_goals first | go_end0 | refine bodyPost_ret (results_none rfl _ _ _) rfl ?_
  exact ⟨rfl, HN, HK.out, by simp⟩
-- E1
-- S2
theorem nil_tab (w : World) : (binOp .neq 111 (.slice none 0 0) (.slice none 0 0)).run Tryd.prog w = .ok (.bool false) w := by kernel_rfl
theorem some_tab (w : World) (T : Nat) : (binOp .neq 111 (.slice (some ⟨T, 0, none⟩) 14 14) (.slice none 0 0)).run Tryd.prog w = .ok (.bool true) w := by kernel_rfl
set_option maxRecDepth 100000 in
set_option maxHeartbeats 4000000 in
theorem add_fresh (b : Nat) (key val : ByteArray) (pri : Int) (rv : Value) (w : World) (hk : key.toList.isEmpty = false) (h : Nd w b ⟨#[]⟩ 0 ⟨#[]⟩ nilP nilT) :
    Calls Tryd.prog 61 #[ptr b, .string key, .string val, .int .i64 pri, rv] w fun e w' => e = .returned (.tuple #[]) ∧ Hid (∃ q, w.heap.size ≤ q ∧ Nd w' b ⟨#[]⟩ 0 key (ptr q) nilT ∧ Nd w' q val pri ⟨#[]⟩ nilP nilT) ∧ Kept [b] w w' := by
  obtain ⟨c0, c1, c2, c3, c4, hf⟩ := h.cells
  have f2 := hf 2
  have f3 := hf 3
  have hlt := h.lt
  have HW : Hid (∀ ob, ob = .cells #[.string ⟨#[]⟩, .int .i64 0, .string ⟨#[]⟩, nilP, nilT] 113 (0, 0) → Nd (((w.setCell ⟨b, 2, none⟩ (.string key)).setCell ⟨b, 3, none⟩ (ptr w.heap.size)).alloc ob) w.heap.size ⟨#[]⟩ 0 ⟨#[]⟩ nilP nilT ∧ Nd (((w.setCell ⟨b, 2, none⟩ (.string key)).setCell ⟨b, 3, none⟩ (ptr w.heap.size)).alloc ob) b ⟨#[]⟩ 0 key (ptr w.heap.size) nilT ∧ Kept [b] w (((w.setCell ⟨b, 2, none⟩ (.string key)).setCell ⟨b, 3, none⟩ (ptr w.heap.size)).alloc ob)) := by
    rintro _ rfl
    exact ⟨heap_new_at (by simp), (heap_alloc_old _ _ (by simpa using hlt)).trans h.set2.set3, (((Kept.refl [b] w).set b 2 (by simp) _).set b 3 (by simp) _).alloc _⟩
  have hnt := nil_tab
  have HL := Lib.hid (fun w1 b (h : Nd w1 b ⟨#[]⟩ 0 ⟨#[]⟩ nilP nilT) => add_leaf b val pri rv w1 h)
  have H := Lib.hid h
  clear h hf
  unfold ptr nilP nilT at *
  go_enter Tryd.func61, Tryd.ntmps61
  go_wp2_with (go_at_call 61; obtain ⟨n1, n2, k1⟩ := HW.out _ rfl; refine (HL.out _ _ n1).mono ?_; rintro e w' ⟨rfl, HN, hk2, hs⟩)
  go_end0
  refine ⟨rfl, ⟨_, Nat.le_refl _, n2.kept hk2 (by simp; omega), HN.out⟩, k1.call hk2 (fun k hk => by simp at hk; omega)⟩
-- E2
-- S3
theorem ne_of_size {s : ByteArray} (h : 0 < s.size) : s.toList.isEmpty = false := by
  cases e : s.toList.isEmpty with
  | false => rfl
  | true =>
    rw [List.isEmpty_iff] at e
    exfalso
    have h2 : s.data.toList.length = s.size := by rw [Array.length_toList]; rfl
    have h3 : s.toList = s.data.toList := by rw [ByteArray.toList_eq]
    rw [← h3, e] at h2
    simp at h2
    omega
/-- Worlds that differ in what they draw alone. -/
structure Same (w w1 : World) : Prop where
  heap : w1.heap = w.heap
  os : w1.os = w.os
  tape : w1.tape = w.tape
  output : w1.output = w.output
theorem Same.refl (w : World) : Same w w := ⟨rfl, rfl, rfl, rfl⟩
theorem Same.drew {w w1 : World} (h : Same w w1) : Same w w1.drew := ⟨h.heap, h.os, h.tape, h.output⟩
theorem Same.drewN {w w1 : World} (h : Same w w1) (n : Nat) : Same w (w1.drewN n) := ⟨h.heap, h.os, h.tape, h.output⟩
theorem Same.cell {w w1 : World} (h : Same w w1) (a : Addr) : w1.cell? a = w.cell? a := by unfold World.cell?; rw [h.heap]
theorem Same.frozen {w w1 : World} (h : Same w w1) (a : Addr) : w1.frozen? a = w.frozen? a := by unfold World.frozen?; rw [h.heap]
theorem Same.kept {w w1 : World} (h : Same w w1) (S : List Nat) : Kept S w w1 := ⟨h.os, h.tape, h.output, by rw [h.heap]; exact Nat.le_refl _, fun k _ _ => by rw [h.heap]⟩
/-- What is behind a string's first byte. -/
def restB (s : ByteArray) : ByteArray := s.extract 1 s.size
set_option maxRecDepth 100000 in
set_option maxHeartbeats 4000000 in
/-- A table's node whose slot holds a node: the rest of the key goes to that. -/
theorem add_some (b T b2 r m : Nat) (key val : ByteArray) (pri : Int) (w : World) (hk : 0 < key.size) (h2 : w.cell? ⟨b, 2, none⟩ = some (.string ⟨#[]⟩)) (h4 : w.cell? ⟨b, 4, none⟩ = some (.slice (some ⟨T, 0, none⟩) 14 14))
    (hm : w.cell? ⟨r, 6 + (key[0]'hk).toNat, none⟩ = some (.int .u8 m)) (hm14 : m < 14) (hT : w.cell? ⟨T, m, none⟩ = some (ptr b2)) {Q : Ending → World → Prop}
    (H : Hid (∀ w1, Same w w1 → Calls Tryd.prog 61 #[ptr b2, .string (restB key), .string val, .int .i64 pri, ptr r] w1 Q)) (hQ : ∀ e w', Q e w' → e = .returned (.tuple #[])) :
    Calls Tryd.prog 61 #[ptr b, .string key, .string val, .int .i64 pri, ptr r] w Q := by
  have hst := some_tab
  have h256 : (key[0]'hk).toNat < 256 := UInt8.toNat_lt _
  have hm2 : (m : Int) < 14 := by omega
  have hk0 : key.toList.isEmpty = false := ne_of_size hk
  have hks : (0 : Int) < key.size := by omega
  unfold ptr at *
  go_enter Tryd.func61, Tryd.ntmps61
  go_wp2_with fail
  go_quiet (fail)
  go_wp2_with fail
  have HS : Hid (Same w (w.drewN nq)) := (Same.refl w).drewN nq
  generalize w.drewN nq = w1 at *
  rw [← HS.out.cell] at h4 hT
  go_region_with (go_at_call 61; refine (H.out _ (by first | exact HS.out | exact HS.out.drew | exact HS.out.drewN _)).mono ?_; rintro e w' hq; obtain rfl := hQ _ _ hq)
  all_goals (go_end0; exact hq)
-- E3
-- S4
theorem info_ok : True := trivial
set_option maxRecDepth 100000 in
set_option maxHeartbeats 4000000 in
/-- A table's node whose slot holds none: a new node is put there. -/
theorem add_nil (b T r m : Nat) (row : List Value) (key val : ByteArray) (pri : Int) (w : World) (hk : 0 < key.size) (hkr : (restB key).toList.isEmpty = false) (h2 : w.cell? ⟨b, 2, none⟩ = some (.string ⟨#[]⟩)) (h4 : w.cell? ⟨b, 4, none⟩ = some (.slice (some ⟨T, 0, none⟩) 14 14))
    (hm : w.cell? ⟨r, 6 + (key[0]'hk).toNat, none⟩ = some (.int .u8 m)) (hm14 : m < 14) (hrow : w.heap[T]? = some (.cells row.toArray 110 (0, 0))) (hT : row[m]? = some nilP) (hbT : b ≠ T) :
    Calls Tryd.prog 61 #[ptr b, .string key, .string val, .int .i64 pri, ptr r] w fun e w' => e = .returned (.tuple #[]) ∧ Hid (∃ n q, w.heap.size ≤ n ∧ w.heap.size ≤ q ∧ Nd w' n ⟨#[]⟩ 0 (restB key) (ptr q) nilT ∧ Nd w' q val pri ⟨#[]⟩ nilP nilT ∧ w'.heap[T]? = some (.cells (row.set m (ptr n)).toArray 110 (0, 0))) ∧ Kept [T] w w' := by
  have hst := some_tab
  have h256 : (key[0]'hk).toNat < 256 := UInt8.toNat_lt _
  have hm2 : (m : Int) < 14 := by omega
  have hk0 : key.toList.isEmpty = false := ne_of_size hk
  have hks : (0 : Int) < key.size := by omega
  have hTl : T < w.heap.size := (Array.getElem?_eq_some_iff.1 hrow).1
  have hTc : w.cell? ⟨T, m, none⟩ = some nilP := cellT hrow (by simpa using hT)
  have hTf : w.frozen? ⟨T, m, none⟩ = false := frozenT hrow
  have hb : b < w.heap.size := World.block_lt_of_cell? w _ h2
  have HF := Lib.hid (fun w1 b (h : Nd w1 b ⟨#[]⟩ 0 ⟨#[]⟩ nilP nilT) => add_fresh b (restB key) val pri (ptr r) w1 hkr h)
  have H4 := Lib.hid h4
  have HR := Lib.hid hrow
  clear hrow hT hkr
  unfold nilP ptr at *
  go_enter Tryd.func61, Tryd.ntmps61
  go_wp2_with fail
  go_quiet (fail)
  have HS : Hid (Same w (w.drewN nq)) := (Same.refl w).drewN nq
  generalize w.drewN nq = w1 at *
  rw [← HS.out.cell] at h4
  have hsz : w1.heap.size = w.heap.size := by rw [HS.out.heap]
  have z1 : ∀ ob, (w1.alloc ob).cell? ⟨T, m, none⟩ = some (.pointer none) := fun ob => by rw [World.cell?_alloc_lt _ _ _ (by rw [hsz]; exact hTl), HS.out.cell]; exact hTc
  have z2 : ∀ ob, (w1.alloc ob).frozen? ⟨T, m, none⟩ = false := fun ob => by rw [World.frozen?_alloc_past _ _ _ (by rw [hsz]; exact hTl), HS.out.frozen]; exact hTf
  rw [← HS.out.cell] at hTc
  have HW : Hid (∀ W2, W2 = (w1.setCell ⟨T, m, none⟩ (ptr w.heap.size)).alloc (.cells #[.string ⟨#[]⟩, .int .i64 0, .string ⟨#[]⟩, nilP, nilT] 113 (0, 0)) → Nd W2 w.heap.size ⟨#[]⟩ 0 ⟨#[]⟩ nilP nilT ∧ W2.heap[T]? = some (.cells (row.set m (ptr w.heap.size)).toArray 110 (0, 0)) ∧ Kept [T] w W2 ∧ W2.cell? ⟨b, 4, none⟩ = some (.slice (some ⟨T, 0, none⟩) 14 14) ∧ W2.cell? ⟨T, m, none⟩ = some (ptr w.heap.size)) := by
    rintro W2 rfl
    refine ⟨heap_new_at (by simp [hsz]), ?_, ((((HS.out.kept [T]).set T m (by simp) _).alloc _)), ?_, ?_⟩
    · rw [heap_alloc_old _ _ (by simp; omega), heap_setCell_same _ _ m _ _ _ ((by rw [HS.out.heap]; exact HR.out))]
      simp
    · rw [World.cell?_alloc_lt _ _ _ (by simp; omega), cell_far_set _ _ _ _ _ _ (fun e => hbT e.symm)]; exact h4
    · rw [World.cell?_alloc_lt _ _ _ (by simp; omega), World.cell?_setCell_same _ _ _ hTc]
  unfold nilP ptr at HW
  go_wp2_with fail
  obtain ⟨W2, hW2⟩ : ∃ W2, W2 = (w1.setCell ⟨T, m, none⟩ (.pointer (some ⟨w.heap.size, 0, none⟩))).alloc (.cells #[.string ⟨#[]⟩, .int .i64 0, .string ⟨#[]⟩, .pointer none, .slice none 0 0] 113 (0, 0)) := ⟨_, rfl⟩
  obtain ⟨n1, n2, n3, n4, n5⟩ := HW.out _ hW2
  rw [← hW2]
  have hsW : w.heap.size < W2.heap.size := Nd.lt n1
  have N1 := Lib.hid n1
  have N2 := Lib.hid n2
  have N3 := Lib.hid n3
  clear hW2 HW n1 n2 n3 z1 z2 hTc h4 h2 hm HS
  have HS : Hid (Same W2 W2) := Same.refl W2
  go_region_with (go_at_call 61; refine (HF.out _ w.heap.size (by first | exact N1.out | exact N1.out.kept (HS.out.drew.kept []) (by simp) | exact N1.out.kept ((HS.out.drewN _).kept []) (by simp))).mono ?_; rintro e w' ⟨rfl, HN, hk⟩)
  all_goals
    go_end0
    obtain ⟨q, hq, nb, nq⟩ := HN.out
    have hk2 : Kept [w.heap.size] W2 w' := (by first | exact hk | exact (HS.out.drew.kept _).trans hk | exact ((HS.out.drewN _).kept _).trans hk)
    have hs2 := hk2.size
    exact ⟨rfl, ⟨w.heap.size, q, Nat.le_refl _, by first | omega | (simp at hq; omega), nb, nq, (hk2.block T (by omega) (by simp; omega)).trans N2.out⟩, N3.out.call hk2 (fun k hk => by simp at hk; omega)⟩
-- E4
-- S5
def amp4 : ByteArray := ⟨#[97, 109, 112, 59]⟩
def mp3 : ByteArray := ⟨#[109, 112, 59]⟩
def lt3 : ByteArray := ⟨#[108, 116, 59]⟩
def t2 : ByteArray := ⟨#[116, 59]⟩
structure SplitA (w W : World) (b q n3 n4 T : Nat) (row : List Value) : Prop where
  nb : Nd W b ⟨#[]⟩ 0 ⟨#[97, 109, 112, 59]⟩ (.pointer (some ⟨q, 0, none⟩)) (.slice (some ⟨T, 0, none⟩) 14 14)
  n3 : Nd W n3 ⟨#[]⟩ 0 ⟨#[109, 112, 59]⟩ (.pointer (some ⟨q, 0, none⟩)) (.slice none 0 0)
  n4 : Nd W n4 ⟨#[]⟩ 0 ⟨#[]⟩ (.pointer none) (.slice none 0 0)
  t : W.heap[T]? = some (.cells row.toArray 110 (0, 0))
  kept : Kept [b] w W
  size : T < W.heap.size
theorem Nd.ne_tab {w : World} {n T : Nat} {v pf : ByteArray} {p : Int} {nx tb : Value} {row : Array Value} (h : Nd w n v p pf nx tb) (ht : w.heap[T]? = some (.cells row 110 (0, 0))) : n ≠ T := by
  rintro rfl
  unfold Nd at h
  rw [h] at ht
  simp at ht
theorem Nd.other {w : World} {n T : Nat} {v pf : ByteArray} {p : Int} {nx tb : Value} (h : Nd w n v p pf nx tb) (hn : n ≠ T) (j : Nat) (u : Value) : Nd (w.setCell ⟨T, j, none⟩ u).drew n v p pf nx tb :=
  (heap_setCell_other w ⟨T, j, none⟩ n u hn).trans h
theorem SplitA.put {w W : World} {b q n3 n4 T : Nat} {row : List Value} (h : SplitA w W b q n3 n4 T row) (hT : w.heap.size ≤ T) (j : Nat) (u : Value) : SplitA w (W.setCell ⟨T, j, none⟩ u).drew b q n3 n4 T (row.set j u) := by
  refine ⟨h.nb.other (h.nb.ne_tab h.t) _ _, h.n3.other (h.n3.ne_tab h.t) _ _, h.n4.other (h.n4.ne_tab h.t) _ _, ?_, (h.kept.setNew T j hT u).drew, ?_⟩
  · show (W.setCell ⟨T, j, none⟩ u).heap[T]? = _
    rw [heap_setCell_same _ _ j _ _ _ h.t]
    simp
  · show T < (W.setCell ⟨T, j, none⟩ u).heap.size
    simpa using h.size
theorem mk14 (w : World) : (Instr.makeSlice 111 (.int .i64 14) (.int .i64 14)).run Tryd.prog w = .ok (.slice (some ⟨w.heap.size, 0, none⟩) 14 14) (w.alloc (.cells (List.replicate 14 nilP).toArray 110)) := by kernel_rfl
set_option maxRecDepth 100000 in
set_option maxHeartbeats 4000000 in
/-- A node with a prefix of which the key has no byte: a table is put there. -/
theorem add_split (b q r : Nat) (val : ByteArray) (pri : Int) (w : World) (h : Nd w b ⟨#[]⟩ 0 amp4 (ptr q) nilT) (h5 : w.cell? ⟨r, 5, none⟩ = some (.int .i64 14)) (h97 : w.cell? ⟨r, 103, none⟩ = some (.int .u8 5)) (h108 : w.cell? ⟨r, 114, none⟩ = some (.int .u8 7)) (hbr : b ≠ r) :
    Calls Tryd.prog 61 #[ptr b, .string lt3, .string val, .int .i64 pri, ptr r] w fun e w' => e = .returned (.tuple #[]) ∧ Hid (∃ n3 n4 q4 T1, w.heap.size ≤ n3 ∧ w.heap.size ≤ n4 ∧ w.heap.size ≤ q4 ∧ w.heap.size ≤ T1 ∧ Nd w' b ⟨#[]⟩ 0 ⟨#[]⟩ nilP (.slice (some ⟨T1, 0, none⟩) 14 14) ∧ Nd w' n3 ⟨#[]⟩ 0 mp3 (ptr q) nilT ∧ Nd w' n4 ⟨#[]⟩ 0 t2 (ptr q4) nilT ∧ Nd w' q4 val pri ⟨#[]⟩ nilP nilT ∧ w'.heap[T1]? = some (.cells (((List.replicate 14 nilP).set 5 (ptr n3)).set 7 (ptr n4)).toArray 110 (0, 0))) ∧ Kept [b] w w' := by
  have hmk := mk14
  have hst := some_tab
  have hnt := nil_tab
  obtain ⟨c0, c1, c2, c3, c4, hf⟩ := h.cells
  have f2 := hf 2
  have f3 := hf 3
  have f4 := hf 4
  have HF := Lib.hid (fun w1 b (h : Nd w1 b ⟨#[]⟩ 0 ⟨#[]⟩ nilP nilT) => add_fresh b t2 val pri (ptr r) w1 (ne_of_size (by decide)) h)
  have H := Lib.hid h
  clear h
  unfold nilP nilT ptr amp4 lt3 mp3 at *
  go_enter Tryd.func61, Tryd.ntmps61
  go_wp2_with fail
  go_loopw [10] (fun i wr => i = .int .i64 0 ∧ wr = w) (fun i wr => 0)
  case atStart => exact ⟨rfl, rfl⟩
  case round =>
    obtain ⟨rfl, rfl⟩ := hrel
    go_wp2_with fail
    go_quiet (fail)
    go_wp2_with fail
    have HS : Hid (Same wr (wr.drewN nq)) := (Same.refl wr).drewN nq
    have HC : Hid (∀ w2, Same wr w2 → w2.cell? ⟨b, 2, none⟩ = some (.string ⟨#[97, 109, 112, 59]⟩) ∧ w2.cell? ⟨b, 3, none⟩ = some (.pointer (some ⟨q, 0, none⟩))) := fun w2 h => ⟨(h.cell _).trans c2, (h.cell _).trans c3⟩
    generalize wr.drewN nq = w1 at *
    obtain ⟨x2, x3⟩ := HC.out _ HS.out
    go_cut [11] from 90 to 100 (fun v wx => v = .pointer (some ⟨wr.heap.size, 0, none⟩) ∧ Hid (Nd wx wr.heap.size ⟨#[]⟩ 0 ⟨#[109, 112, 59]⟩ (.pointer (some ⟨q, 0, none⟩)) (.slice none 0 0) ∧ Kept [] wr wx ∧ wx.heap.size = wr.heap.size + 1))
    case first =>
      have HN : Hid (∀ w2, w2 = (w1.alloc (.cells #[.string ⟨#[]⟩, .int .i64 0, .string ((⟨#[97, 109, 112, 59]⟩ : ByteArray).extract 1 4), .pointer (some ⟨q, 0, none⟩), .slice none 0 0] 113 (0, 0))).drew → Nd w2 wr.heap.size ⟨#[]⟩ 0 ⟨#[109, 112, 59]⟩ (.pointer (some ⟨q, 0, none⟩)) (.slice none 0 0) ∧ Kept [] wr w2 ∧ w2.heap.size = wr.heap.size + 1) := by
        have e4 : (⟨#[97, 109, 112, 59]⟩ : ByteArray).extract 1 4 = ⟨#[109, 112, 59]⟩ := by rfl
        rw [e4]
        rintro w2 rfl
        exact ⟨heap_new_at (by rw [HS.out.heap]), ((HS.out.kept []).alloc _).drew, by simp [HS.out.heap]⟩
      have hsz : w1.heap.size = wr.heap.size := by rw [HS.out.heap]
      go_region
      all_goals
        go_wp2_with fail
        go_meet
        exact ⟨rfl, HN.out _ rfl⟩
    case rest =>
    obtain ⟨rfl, HX⟩ := hcut
    have hbw : b < wr.heap.size := World.block_lt_of_cell? wr _ c0
    have hrw : r < wr.heap.size := World.block_lt_of_cell? wr _ h5
    have y5 : wc.cell? ⟨r, 5, none⟩ = some (.int .i64 14) := (World.cell?_of_block (w := wr) (a := ⟨r, 5, none⟩) (HX.out.2.1.block r hrw (by simp))).trans h5
    obtain ⟨y0, y1, y2, y3, y4, yf⟩ := (H.out.kept HX.out.2.1 (by simp)).cells
    have yf4 := yf 4
    clear yf h5 x2 x3 HC f2 f3 f4 hf c0 c1 c2 c3 c4
    obtain ⟨N3, K3, S3⟩ := HX.out
    have z4 : ∀ ob ob2, ((wc.alloc ob).alloc ob2).cell? ⟨b, 4, none⟩ = some (.slice none 0 0) := fun ob ob2 => by rw [World.cell?_alloc_lt _ _ _ (by simp; omega), World.cell?_alloc_lt _ _ _ (by first | omega | (simp; omega))]; exact y4
    have z5 : ∀ ob ob2, ((wc.alloc ob).alloc ob2).frozen? ⟨b, 4, none⟩ = false := fun ob ob2 => by rw [World.frozen?_alloc_past _ _ _ (by simp; omega), World.frozen?_alloc_past _ _ _ (by first | omega | (simp; omega))]; exact yf4
    have z6 : ∀ ob, (wc.alloc ob).cell? ⟨r, 5, none⟩ = some (.int .i64 14) := fun ob => by rw [World.cell?_alloc_lt _ _ _ (by first | omega | (simp; omega))]; exact y5
    have HW : Hid (∀ W3, W3 = ((wc.alloc (.cells #[.string ⟨#[]⟩, .int .i64 0, .string ⟨#[]⟩, .pointer none, .slice none 0 0] 113)).alloc (.cells #[.pointer none, .pointer none, .pointer none, .pointer none, .pointer none, .pointer none, .pointer none, .pointer none, .pointer none, .pointer none, .pointer none, .pointer none, .pointer none, .pointer none] 110)).setCell ⟨b, 4, none⟩ (.slice (some ⟨wr.heap.size + 1 + 1, 0, none⟩) 14 14) → SplitA wr W3 b q wr.heap.size (wr.heap.size + 1) (wr.heap.size + 1 + 1) (List.replicate 14 (.pointer none))) := by
      rintro W3 rfl
      have k3 : Kept [b] wr (((wc.alloc (.cells #[.string ⟨#[]⟩, .int .i64 0, .string ⟨#[]⟩, .pointer none, .slice none 0 0] 113)).alloc (.cells #[.pointer none, .pointer none, .pointer none, .pointer none, .pointer none, .pointer none, .pointer none, .pointer none, .pointer none, .pointer none, .pointer none, .pointer none, .pointer none, .pointer none] 110)).setCell ⟨b, 4, none⟩ (.slice (some ⟨wr.heap.size + 1 + 1, 0, none⟩) 14 14)) := (((K3.weaken (by simp)).alloc _).alloc _).set b 4 (by simp) _
      refine ⟨?_, ?_, ?_, ?_, k3, by simp [S3]⟩
      · exact Nd.set4 ((heap_alloc_old _ _ (by simp; omega)).trans ((heap_alloc_old _ _ (by omega)).trans (H.out.kept K3 (by simp))))
      · exact (heap_setCell_other _ _ _ _ (by show wr.heap.size ≠ b; omega)).trans ((heap_alloc_old _ _ (by simp; omega)).trans ((heap_alloc_old _ _ (by omega)).trans N3))
      · exact (heap_setCell_other _ _ _ _ (by show wr.heap.size + 1 ≠ b; omega)).trans ((heap_alloc_old _ _ (by simp; omega)).trans (heap_new_at S3))
      · exact (heap_setCell_other _ _ _ _ (by show wr.heap.size + 1 + 1 ≠ b; omega)).trans (heap_new_at (by simp [S3]))
    clear N3 H
    go_wp2_with fail
    obtain ⟨W3, hW3⟩ : ∃ W3, W3 = ((wc.alloc (.cells #[.string ⟨#[]⟩, .int .i64 0, .string ⟨#[]⟩, .pointer none, .slice none 0 0] 113)).alloc (.cells #[.pointer none, .pointer none, .pointer none, .pointer none, .pointer none, .pointer none, .pointer none, .pointer none, .pointer none, .pointer none, .pointer none, .pointer none, .pointer none, .pointer none] 110)).setCell ⟨b, 4, none⟩ (.slice (some ⟨wr.heap.size + 1 + 1, 0, none⟩) 14 14) := ⟨_, rfl⟩
    have HA := Lib.hid (HW.out _ hW3)
    rw [← hW3]
    clear hW3 HW z4 z5 z6 y0 y1 y2 y3 y4 y5 yf4
    have HR : Hid (∀ W, Kept [b] wr W → W.cell? ⟨r, 103, none⟩ = some (.int .u8 5) ∧ W.cell? ⟨r, 114, none⟩ = some (.int .u8 7)) := fun W k =>
      ⟨(World.cell?_of_block (w := wr) (a := ⟨r, 103, none⟩) (k.block r hrw (by simpa using fun e => hbr e.symm))).trans h97, (World.cell?_of_block (w := wr) (a := ⟨r, 114, none⟩) (k.block r hrw (by simpa using fun e => hbr e.symm))).trans h108⟩
    clear h97 h108
    go_cut [] from 110 to 125 (fun wx => Hid (SplitA wr wx b q wr.heap.size (wr.heap.size + 1) (wr.heap.size + 1 + 1) ((List.replicate 14 (.pointer none)).set 5 (.pointer (some ⟨wr.heap.size, 0, none⟩)))))
    case first =>
      have x1 := cellT HA.out.t (show (List.replicate 14 (Value.pointer none)).toArray[5]? = some (.pointer none) from rfl)
      have x1f := frozenT HA.out.t (i := 5)
      obtain ⟨y0, y1, y2, y3, y4, yf⟩ := HA.out.nb.cells
      obtain ⟨r1, r2⟩ := HR.out _ HA.out.kept
      clear yf y0 y1 y3 r2
      have e97 : ((⟨#[97, 109, 112, 59]⟩ : ByteArray)[0]'(by decide)).toNat = 97 := rfl
      have HN := Lib.hid (HA.out.put (by omega) 5 (.pointer (some ⟨wr.heap.size, 0, none⟩)))
      go_region
      all_goals
        go_wp2_with fail
        go_meet
        exact HN
    case rest =>
    clear HA
    have HA := hcut
    clear hcut
    rename_i hk
    refine hk _ _ ?_
    clear hk
    go_step
    go_cut [] from 126 to 138 (fun wx => Hid (SplitA wr wx b q wr.heap.size (wr.heap.size + 1) (wr.heap.size + 1 + 1) (((List.replicate 14 (.pointer none)).set 5 (.pointer (some ⟨wr.heap.size, 0, none⟩))).set 7 (.pointer (some ⟨wr.heap.size + 1, 0, none⟩)))))
    case first =>
      have x1 := cellT HA.out.t (show ((List.replicate 14 (Value.pointer none)).set 5 (.pointer (some ⟨wr.heap.size, 0, none⟩))).toArray[7]? = some (.pointer none) from rfl)
      have x1f := frozenT HA.out.t (i := 7)
      obtain ⟨y0, y1, y2, y3, y4, yf⟩ := HA.out.nb.cells
      obtain ⟨r1, r2⟩ := HR.out _ HA.out.kept
      clear yf y0 y1 y3 r1
      have e97 : ((⟨#[108, 116, 59]⟩ : ByteArray)[0]'(by decide)).toNat = 108 := rfl
      have HN := Lib.hid (HA.out.put (by omega) 7 (.pointer (some ⟨wr.heap.size + 1, 0, none⟩)))
      go_region
      all_goals
        go_wp2_with fail
        go_meet
        exact HN
    case rest =>
    rename_i hk _ _
    clear HA
    have HA := hcut
    clear hcut
    obtain ⟨y0, y1, y2, y3, y4, yf⟩ := HA.out.nb.cells
    have yf2 := yf 2
    have yf3 := yf 3
    have HF3 : Hid (∀ w1 b, Nd w1 b ⟨#[]⟩ 0 ⟨#[]⟩ (.pointer none) (.slice none 0 0) → Calls Tryd.prog 61 #[.pointer (some ⟨b, 0, none⟩), .string ((⟨#[108, 116, 59]⟩ : ByteArray).extract 1 3), .string val, .int .i64 pri, .pointer (some ⟨r, 0, none⟩)] w1 fun e w' => e = .returned (.tuple #[]) ∧ Hid (∃ q, w1.heap.size ≤ q ∧ Nd w' b ⟨#[]⟩ 0 t2 (.pointer (some ⟨q, 0, none⟩)) (.slice none 0 0) ∧ Nd w' q val pri ⟨#[]⟩ (.pointer none) (.slice none 0 0)) ∧ Kept [b] w1 w') := HF.out
    clear yf HF y0 y1 y4
    have n4b : wr.heap.size + 1 ≠ b := by omega
    have n3b : wr.heap.size ≠ b := by omega
    have ntb : wr.heap.size + 1 + 1 ≠ b := by omega
    have HW : Hid (∀ W, W = (wc.setCell ⟨b, 2, none⟩ (.string ⟨#[]⟩)).setCell ⟨b, 3, none⟩ (.pointer none) → Nd W b ⟨#[]⟩ 0 ⟨#[]⟩ (.pointer none) (.slice (some ⟨wr.heap.size + 1 + 1, 0, none⟩) 14 14) ∧ Nd W wr.heap.size ⟨#[]⟩ 0 ⟨#[109, 112, 59]⟩ (.pointer (some ⟨q, 0, none⟩)) (.slice none 0 0) ∧ Nd W (wr.heap.size + 1) ⟨#[]⟩ 0 ⟨#[]⟩ (.pointer none) (.slice none 0 0) ∧ W.heap[wr.heap.size + 1 + 1]? = some (.cells (((List.replicate 14 (.pointer none)).set 5 (.pointer (some ⟨wr.heap.size, 0, none⟩))).set 7 (.pointer (some ⟨wr.heap.size + 1, 0, none⟩))).toArray 110 (0, 0)) ∧ Kept [b] wr W ∧ wr.heap.size + 1 + 1 < W.heap.size) := by
      rintro W rfl
      refine ⟨HA.out.nb.set2.set3, ?_, ?_, ?_, (HA.out.kept.set b 2 (by simp) _).set b 3 (by simp) _, by simpa using HA.out.size⟩
      · exact (heap_setCell_other _ _ _ _ n3b).trans ((heap_setCell_other _ _ _ _ n3b).trans HA.out.n3)
      · exact (heap_setCell_other _ _ _ _ n4b).trans ((heap_setCell_other _ _ _ _ n4b).trans HA.out.n4)
      · exact (heap_setCell_other _ _ _ _ ntb).trans ((heap_setCell_other _ _ _ _ ntb).trans HA.out.t)
    have hne4 : wr.heap.size + 1 ≠ wr.heap.size + 1 + 1 := by omega
    go_wp2_with (go_at_call 61; obtain ⟨m1, m2, m3, m4, m5, m6⟩ := HW.out _ rfl; refine (HF3.out _ (wr.heap.size + 1) m3).mono ?_; rintro e w' ⟨rfl, HN, hk2⟩)
    go_end0
    obtain ⟨q4, hq4, u1, u2⟩ := HN.out
    have hs2 := hk2.size
    exact ⟨rfl, ⟨wr.heap.size, wr.heap.size + 1, q4, wr.heap.size + 1 + 1, by omega, by omega, by omega, by omega, m1.kept hk2 (by simpa using fun e => n4b e.symm), m2.kept hk2 (by simp), u1, u2, (hk2.block _ m6 (by simp)).trans m4⟩, m5.call hk2 (fun k hk => by simp at hk; omega)⟩
-- E5
end Go.Proofs.YtoalbfffojpnmaaDoor
