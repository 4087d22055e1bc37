/- (differ).diff of any two values. No conditions but those stated. · conf.Diff: what it returns. Conditions: at most 2^20 values in each; the values lie in memory. -/
import Derived.Test.YtekknckdeedjnaaGreatDoorMdJ
import Derived.Test.YtekknckdeedjnaaGreatDoorKeY
namespace Go.Proofs.YtekknckdeedjnaaGreatDoor
open Go.RowKit Mh
set_option linter.unusedVariables false

theorem diff_any : ∀ (N : Nat) (a b : V), SizeOf.sizeOf a < N → a.good → b.good → a.nodes ≤ 1000 → b.nodes ≤ 1000 → ∀ (r : ByteArray) (D : Nat) (gv ov : Value) (G O : List Chg) (rg ro cs ds : List Value) (w : World), DfAt w D gv ov G O rg ro →
    VAt (veil (dfS D gv ov) w) a cs → VAt (veil (dfS D gv ov) w) b ds → r.size + 100 * a.lev ≤ 1000000 → G.length + a.nodes ≤ 4000 → O.length + b.nodes ≤ 4000 →
    Calls Tryz.prog 16 #[.pointer (some ⟨D, 0, none⟩), .agg cs.toArray, .agg ds.toArray, .string r] w (DiffOk a b N r D gv ov G O w) := by
  intro N
  induction N with
  | zero => intro a b h; omega
  | succ N ih =>
    intro a b hN ga gb na nb r D gv ov G O rg ro cs ds w hd ha hb hr hG hO
    by_cases h0 : V.cmp a b = 0
    · exact diff_same N a b r D gv ov G O rg ro cs ds w hd ha hb h0
    · by_cases h6 : a.kd = 6 ∧ b.kd = 6
      · exact diff_tab N a b r D gv ov G O rg ro cs ds w hd ha hb h0 ⟨ga, h6.1⟩ ⟨gb, h6.2⟩ na nb hr hG hO (fun x y hx => ih x y (by omega))
      · exact diff_leaf N a b r D gv ov G O rg ro cs ds w hd ha hb h0 h6 ⟨gb, by omega⟩ (by unfold maxLen; omega) (by omega)
end Go.Proofs.YtekknckdeedjnaaGreatDoor
namespace Go.Proofs.YtekknckdeedjnaaGreatDoor
open Go.RowKit Mh
set_option linter.unusedVariables false

theorem _root_.Mh.ChRows.append {w : World} {l m : List Chg} {rl rm : List Value} (h : ChRows w l rl) (hl : rl.length = l.length * 8) (k : ChRows w m rm) : ChRows w (l ++ m) (rl ++ rm) := by
  intro i hi
  rw [List.length_append] at hi
  by_cases hj : i < l.length
  · obtain ⟨ja, jc, ka', kc', h1, h2⟩ := h i hj
    rw [List.getElem_append_left hj]
    exact ⟨ja, jc, ka', kc', h1, fun j hj8 => by rw [List.getElem?_append_left (by omega)]; exact h2 j hj8⟩
  · obtain ⟨ja, jc, ka', kc', h1, h2⟩ := k (i - l.length) (by omega)
    rw [List.getElem_append_right (by omega)]
    refine ⟨ja, jc, ka', kc', h1, fun j hj8 => ?_⟩
    rw [List.getElem?_append_right (by omega), ← h2 j hj8]
    congr 1
    omega
theorem _root_.Mh.ChRows.ones {w : World} {l : List Chg} {rows : List Value} (h : ChRows w l rows) (hl : rows.length = l.length * 8) : ∀ u ∈ rows, u.oneCell' = true := by
  intro u hu
  obtain ⟨i, hi, rfl⟩ := List.mem_iff_getElem.1 hu
  obtain ⟨ia, ic, ka, kc, _, h2⟩ := h (i / 8) (by omega)
  have h3 := h2 (i % 8) (by omega)
  rw [show i / 8 * 8 + i % 8 = i by omega, List.getElem?_eq_getElem hi] at h3
  exact chc_ones _ _ _ _ _ _ (List.mem_of_getElem? h3.symm)
/-- The two rows of a differ as one. -/
theorem DfAt.joined {w w2 : World} {D : Nat} {gv ov v' : Value} {G O : List Chg} {rg ro : List Value} (h : DfAt w D gv ov G O rg ro) (hown : w2.ownsRow (D + 1) 56 8 v' (G.length + O.length) (rg ++ ro)) (hg : w.grownBy w2 gv.ownBlock) : ChsAt w2 v' (G ++ O) ∧ Below D w w2 := by
  have hD := h.hi
  have hb : Below D w w2 := (Below.refl D w).grown hg (by omega) (fun k hk => by have := h.og.lt k hk; omega)
  have hk : Keeps (veil (dfS D gv ov) w) (veil (dfS D gv ov) w2) := Keeps.veils hb.size fun k hk hs => ⟨hs, hg.block k hk (fun e => (dfS_false.1 hs).2.1 e.symm)⟩
  exact ⟨⟨rg ++ ro, by rw [List.length_append]; exact Sl.of_own hown (by omega), ((h.dg.append h.og.1 h.dr).keeps hk).keeps (Keeps.bare _ _)⟩, hb⟩
/-- What Diff returns. -/
def DiffXOk (X Y : V) (w : World) (e : Ending) (w' : World) : Prop :=
  ∃ (v : Value) (c : Int), e = .returned (.tuple #[v, .int .i64 c]) ∧ Below w.heap.size w w' ∧
    ((c ≠ 0 ∧ v = .slice none 0 0) ∨ (c = 0 ∧ X.okc ∧ Y.okc ∧ ChsAt w' v (((diffP (SizeOf.sizeOf X + 1) X Y).1 ++ (diffP (SizeOf.sizeOf X + 1) X Y).2).map Mh.Op.chg)))
/-- What stands in Diff. -/
structure DiffXIn (X Y : V) (w : World) (xa : Option Addr) (xc : Nat) (xk : Option Addr) (xkc : Nat) (ya : Option Addr) (yc : Nat) (yk : Option Addr) (ykc : Nat) (W : World) : Prop where
  bx : W.heap[w.heap.size]? = some (box6 X xa xc xk xkc)
  by_ : W.heap[w.heap.size + 1]? = some (box6 Y ya yc yk ykc)
  ba : W.heap[w.heap.size + 2]? = some (box12 X Y xa xc xk xkc ya yc yk ykc)
  below : Below w.heap.size w W
  size : w.heap.size + 3 ≤ W.heap.size
theorem DiffXIn.on {X Y : V} {w W W' : World} {xa xk ya yk : Option Addr} {xc xkc yc ykc : Nat} (h : DiffXIn X Y w xa xc xk xkc ya yc yk ykc W) (hb : Below W.heap.size W W') : DiffXIn X Y w xa xc xk xkc ya yc yk ykc W' := by
  have hz := h.size
  exact ⟨(hb.block _ (by omega)).trans h.bx, (hb.block _ (by omega)).trans h.by_, (hb.block _ (by omega)).trans h.ba, h.below.trans (hb.mono h.below.size), Nat.le_trans hz hb.size⟩
theorem diffx_start (X Y : V) (w : World) (xa xk ya yk : Option Addr) (xc xkc yc ykc : Nat) :
    DiffXIn X Y w xa xc xk xkc ya yc yk ykc (((w.alloc (box6 X xa xc xk xkc)).alloc (box6 Y ya yc yk ykc)).alloc (box12 X Y xa xc xk xkc ya yc yk ykc)) := by
  refine ⟨?_, ?_, heap_new_at (by simp), (((Below.refl w.heap.size w).alloc (Nat.le_refl _) _).alloc (by simp) _).alloc (by simp <;> omega) _, by simp⟩
  · rw [heap_alloc_old _ _ (by simp <;> omega), heap_alloc_old _ _ (by simp)]; exact heap_alloc_new _ _
  · rw [heap_alloc_old _ _ (by simp)]; exact heap_new_at (by simp)
/-- An empty differ. -/
theorem df_new (W : World) : DfAt (W.alloc (.cells #[.slice none 0 0, .slice none 0 0] 53)) W.heap.size (.slice none 0 0) (.slice none 0 0) [] [] [] [] :=
  ⟨heap_alloc_new _ _, World.ownsRow_nil _ _ _ _, World.ownsRow_nil _ _ _ _, fun k h => by simp [Value.ownBlock] at h, ChRows.nil _, ChRows.nil _⟩
theorem df_keeps {w W W2 : World} (hb : Below w.heap.size w W) (h2 : Below W.heap.size W W2) : Keeps w (veil (dfS W.heap.size (.slice none 0 0) (.slice none 0 0)) W2) := by
  have hz := hb.size
  exact Keeps.veil (hb.trans (h2.mono hz)).size fun k hk => ⟨by rw [dfS_false]; exact ⟨by omega, by simp [Value.ownBlock], by simp [Value.ownBlock]⟩, (hb.trans (h2.mono hz)).block k hk⟩
set_option maxRecDepth 100000 in
set_option maxHeartbeats 8000000 in
theorem diffX_any (X Y : V) (cs ds : List Value) (w : World) (hX : VAt w X cs) (hY : VAt w Y ds) (nX : X.nodes ≤ 2097152) (nY : Y.nodes ≤ 2097152) :
    Calls Tryz.prog 7 #[.agg cs.toArray, .agg ds.toArray] w (DiffXOk X Y w) := by
  have C1 := Lib.hid (fun w' (hb : Below w.heap.size w w') => check_any X (by omega) cs w' (hX.keep hb))
  have C2 := Lib.hid (fun w' (hb : Below w.heap.size w w') => check_any Y (by omega) ds w' (hY.keep hb))
  have C3 := Lib.hid (fun (ox : X.okc) (oy : Y.okc) W (hb : Below w.heap.size w W) => diff_any (SizeOf.sizeOf X + 1) X Y (Nat.lt_succ_self _) ox.2.2 oy.2.2 ox.nodes oy.nodes ⟨#[]⟩ W.heap.size (.slice none 0 0) (.slice none 0 0) [] [] [] [] cs ds _ (df_new W) (hX.keeps (df_keeps hb ((Below.refl _ W).alloc (Nat.le_refl _) _))) (hY.keeps (df_keeps hb ((Below.refl _ W).alloc (Nat.le_refl _) _))) (by have := ox.2.1; show 0 + _ ≤ _; omega) (by have := ox.nodes; show 0 + _ ≤ _; omega) (by have := oy.nodes; show 0 + _ ≤ _; omega))
  obtain ⟨xa, xc, xk, xkc, rfl, _⟩ := hX.opened
  obtain ⟨ya, yc, yk, ykc, rfl, _⟩ := hY.opened
  obtain ⟨ci, hci, hc0, hc1, hc2⟩ := info_parts infoChange
  rw [vcs_arr] at C1 C2
  simp only [vcs_arr] at C3
  rw [vcs_arr, vcs_arr]
  have HI := Lib.hid (diffx_start X Y w xa xk ya yk xc xkc yc ykc)
  unfold box6 box12 at HI
  clear hX hY nX nY
  go_enter Tryz.func7, Tryz.ntmps7
  go_wp2_with fail
  go_loopw [14] (fun i wr => ∃ (j : Nat), i = .int .i64 j ∧ Hid (j ≤ 2 ∧ (0 < j → X.okc) ∧ (1 < j → Y.okc)) ∧ Hid (DiffXIn X Y w xa xc xk xkc ya yc yk ykc wr)) (fun i _ => 2 - (intOf i).toNat)
  case atStart => exact ⟨0, rfl, ⟨by omega, fun h => by omega, fun h => by omega⟩, HI⟩
  case round =>
    clear HI
    obtain ⟨j, rfl, HJ, HI⟩ := hrel
    rcases (show j = 0 ∨ j = 1 ∨ j = 2 by have := HJ.out.1; omega) with rfl | rfl | rfl
    · have HBA := Lib.hid HI.out.ba
      unfold box12 at HBA
      have q0 : wr.cell? ⟨w.heap.size + 2, 0, none⟩ = _ := cellT HBA.out rfl
      have q1 : wr.cell? ⟨w.heap.size + 2, 1, none⟩ = _ := cellT HBA.out rfl
      have q2 : wr.cell? ⟨w.heap.size + 2, 2, none⟩ = _ := cellT HBA.out rfl
      have q3 : wr.cell? ⟨w.heap.size + 2, 3, none⟩ = _ := cellT HBA.out rfl
      have q4 : wr.cell? ⟨w.heap.size + 2, 4, none⟩ = _ := cellT HBA.out rfl
      have q5 : wr.cell? ⟨w.heap.size + 2, 5, none⟩ = _ := cellT HBA.out rfl
      have HBW : Hid (Below wr.heap.size wr (wr.alloc (.cells #[.int .i64 X.kd, .bool X.bo, .int .i64 X.nu, .string X.tx, .slice xa X.its.length xc, .slice xk X.kys.length xkc] 25))) := (Below.refl _ wr).alloc (Nat.le_refl _) _
      have hzr := HI.out.size
      clear C3 C2
      go_wp2_with fail
      refine (C1.out _ (HI.out.below.trans (HBW.out.mono HI.out.below.size))).mono ?_
      rintro e w1 ⟨c, rfl, hc, hb1⟩
      have HI1 := Lib.hid (HI.out.on (HBW.out.trans (hb1.mono HBW.out.size)))
      have HCC := Lib.hid hc
      clear hb1 HI HBW HBA q0 q1 q2 q3 q4 q5 C1 hc
      by_cases hc0 : c = 0
      · subst hc0
        have HJ2 : Hid (1 ≤ 2 ∧ (0 < 1 → X.okc) ∧ (1 < 1 → Y.okc)) := ⟨by omega, fun _ => HCC.out.1 rfl, fun h => by omega⟩
        go_wp2_with fail
        go_roundw
        case rel => exact ⟨1, by go_num, HJ2, HI1⟩
        case measure => simp [intOf]
      · have hq : (c != 0) = true := by rw [bne_iff_ne]; exact hc0
        have HC0 := Lib.hid hc0
        clear hc0
        go_wp2_with fail
        refine bodyPost_ret (v := .tuple #[.slice none 0 0, .int .i64 c]) (by simp [results, Tryz.results7, go_sem]) rfl ⟨_, c, rfl, HI1.out.below, .inl ⟨HC0.out, rfl⟩⟩
    · have HBA := Lib.hid HI.out.ba
      unfold box12 at HBA
      have q0 : wr.cell? ⟨w.heap.size + 2, 6, none⟩ = _ := cellT HBA.out rfl
      have q1 : wr.cell? ⟨w.heap.size + 2, 7, none⟩ = _ := cellT HBA.out rfl
      have q2 : wr.cell? ⟨w.heap.size + 2, 8, none⟩ = _ := cellT HBA.out rfl
      have q3 : wr.cell? ⟨w.heap.size + 2, 9, none⟩ = _ := cellT HBA.out rfl
      have q4 : wr.cell? ⟨w.heap.size + 2, 10, none⟩ = _ := cellT HBA.out rfl
      have q5 : wr.cell? ⟨w.heap.size + 2, 11, none⟩ = _ := cellT HBA.out rfl
      have HBW : Hid (Below wr.heap.size wr (wr.alloc (.cells #[.int .i64 Y.kd, .bool Y.bo, .int .i64 Y.nu, .string Y.tx, .slice ya Y.its.length yc, .slice yk Y.kys.length ykc] 25))) := (Below.refl _ wr).alloc (Nat.le_refl _) _
      have hzr := HI.out.size
      clear C3 C1
      go_wp2_with fail
      refine (C2.out _ (HI.out.below.trans (HBW.out.mono HI.out.below.size))).mono ?_
      rintro e w1 ⟨c, rfl, hc, hb1⟩
      have HI1 := Lib.hid (HI.out.on (HBW.out.trans (hb1.mono HBW.out.size)))
      have HCC := Lib.hid hc
      clear hb1 HI HBW HBA q0 q1 q2 q3 q4 q5 C2 hc
      by_cases hc0 : c = 0
      · subst hc0
        have HJ2 : Hid (2 ≤ 2 ∧ (0 < 2 → X.okc) ∧ (1 < 2 → Y.okc)) := ⟨by omega, fun _ => HJ.out.2.1 (by omega), fun _ => HCC.out.1 rfl⟩
        go_wp2_with fail
        go_roundw
        case rel => exact ⟨2, by go_num, HJ2, HI1⟩
        case measure => simp [intOf]
      · have hq : (c != 0) = true := by rw [bne_iff_ne]; exact hc0
        have HC0 := Lib.hid hc0
        clear hc0
        go_wp2_with fail
        refine bodyPost_ret (v := .tuple #[.slice none 0 0, .int .i64 c]) (by simp [results, Tryz.results7, go_sem]) rfl ⟨_, c, rfl, HI1.out.below, .inl ⟨HC0.out, rfl⟩⟩
    · have HXO : Hid X.okc := HJ.out.2.1 (by omega)
      have HYO : Hid Y.okc := HJ.out.2.2 (by omega)
      clear HJ C1 C2
      have hzr := HI.out.size
      have C31 := Lib.hid (C3.out HXO.out HYO.out wr HI.out.below)
      have HIA := Lib.hid (HI.out.on ((Below.refl _ wr).alloc (Nat.le_refl _) (.cells #[.slice none 0 0, .slice none 0 0] 53)))
      have hbx := HIA.out.bx
      have hby := HIA.out.by_
      unfold box6 at hbx hby
      obtain ⟨x0, x1, x2, x3, x4, x5⟩ := six_of_block hbx
      obtain ⟨y0, y1, y2, y3, y4, y5⟩ := six_of_block hby
      clear C3 hbx hby
      go_wp2_with fail
      refine C31.out.mono ?_
      rintro e w2 ⟨rfl, gv, ov, rg, ro, hd, hf⟩
      have HS1 := Lib.hid (diff_wsum (SizeOf.sizeOf X + 1) X Y HXO.out.2.2 HYO.out.2.2)
      have hl1 := wsum_len (diffP (SizeOf.sizeOf X + 1) X Y).1
      have hl2 := wsum_len (diffP (SizeOf.sizeOf X + 1) X Y).2
      have hgz : ((diffP (SizeOf.sizeOf X + 1) X Y).1.map Mh.Op.chg).length ≤ 1000 := by rw [List.length_map]; have := HS1.out.1; have := HXO.out.nodes; omega
      have hoz : ((diffP (SizeOf.sizeOf X + 1) X Y).2.map Mh.Op.chg).length ≤ 1000 := by rw [List.length_map]; have := HS1.out.2; have := HYO.out.nodes; omega
      have HD : Hid (DfAt w2 wr.heap.size gv ov ((diffP (SizeOf.sizeOf X + 1) X Y).1.map Mh.Op.chg) ((diffP (SizeOf.sizeOf X + 1) X Y).2.map Mh.Op.chg) rg ro) := hd
      have HMA : Hid (((diffP (SizeOf.sizeOf X + 1) X Y).1 ++ (diffP (SizeOf.sizeOf X + 1) X Y).2).map Mh.Op.chg = (diffP (SizeOf.sizeOf X + 1) X Y).1.map Mh.Op.chg ++ (diffP (SizeOf.sizeOf X + 1) X Y).2.map Mh.Op.chg) := List.map_append
      have HBD := Lib.hid ((HI.out.below.trans (((Below.refl _ wr).alloc (Nat.le_refl _) (.cells #[.slice none 0 0, .slice none 0 0] 53)).mono HI.out.below.size)).trans (hf.below.mono HI.out.below.size))
      have hwr : w.heap.size ≤ wr.heap.size := HI.out.below.size
      clear hd hf hl1 hl2 HS1 x0 x1 x2 x3 x4 x5 y0 y1 y2 y3 y4 y5 HIA C31 HI
      generalize (diffP (SizeOf.sizeOf X + 1) X Y).1.map Mh.Op.chg = G at *
      generalize (diffP (SizeOf.sizeOf X + 1) X Y).2.map Mh.Op.chg = O at *
      obtain ⟨ga, gc, rfl⟩ := ownsRow_form HD.out.og
      obtain ⟨oa, oc, rfl⟩ := ownsRow_form HD.out.oo
      have HDD := Lib.hid (HD.out.on (Below.refl _ w2).drew)
      have hbd := HDD.out.bd
      have d0 : w2.drew.cell? ⟨wr.heap.size, 0, none⟩ = some (.slice ga G.length gc) := cellT hbd rfl
      have d1 : w2.drew.cell? ⟨wr.heap.size, 1, none⟩ = some (.slice oa O.length oc) := cellT hbd rfl
      have HSO := Lib.hid (Sl.of_own HDD.out.oo (by omega))
      have HON := Lib.hid (HDD.out.dr.ones HDD.out.oo.1)
      have hD6 : wr.heap.size + 1 ≤ w2.drew.heap.size := HDD.out.hi
      clear HD hbd
      go_upto_region 10 with fail
      go_region_law (refine step_append_sl _ rfl _ _ 27 rfl (wr.heap.size + 1) 56 ci (.agg #[.string ⟨#[]⟩, .int .i64 0, .bool false, .int .i64 0, .string ⟨#[]⟩, .slice none 0 0, .slice none 0 0, .bool false]) 8 112 Tryz.underlying27 hci hc0 hc1 hc2 rfl (by decide) (.slice ga G.length gc) G.length _ rfl HDD.out.og (.slice oa O.length oc) O.length _ rfl HSO.out HON.out (by unfold maxLen; omega) (by omega) hD6 ?_; intro v9 w9 hown9 hgr9 hat9; have HJN := Lib.hid (HDD.out.joined hown9 hgr9); obtain ⟨a9, c9, rfl⟩ := ownsRow_form hown9)
      all_goals
        clear hown9 hgr9 hat9 d0 d1
        go_wp2_with fail
        refine bodyPost_ret (v := .tuple #[.slice a9 (G.length + O.length) c9, .int .i64 0]) (by simp [results, Tryz.results7, go_sem]) rfl ⟨_, 0, rfl, HBD.out.drew.trans (HJN.out.2.mono hwr), .inr ⟨rfl, HXO.out, HYO.out, by rw [HMA.out]; exact HJN.out.1⟩⟩
end Go.Proofs.YtekknckdeedjnaaGreatDoor
