/- conf.get: what lies at the end of steps. Conditions: the value is right and of at most 1000 values. -/
import Derived.Test.YtekknckdeedjnaaGreatDoorKeM
import Derived.Test.YtekknckdeedjnaaGreatDoorKeVm
import Derived.Test.YtekknckdeedjnaaGreatDoorVeil
namespace Go.Proofs.YtekknckdeedjnaaGreatDoor
open Go.RowKit Mh
set_option linter.unusedVariables false

theorem six_of_block {w : World} {g : Nat} {T : TypeId} {a b c d e f : Value} (h : w.heap[g]? = some (.cells #[a, b, c, d, e, f] T (0, 0))) :
    w.cell? ⟨g, 0, none⟩ = some a ∧ w.cell? ⟨g, 1, none⟩ = some b ∧ w.cell? ⟨g, 2, none⟩ = some c ∧ w.cell? ⟨g, 3, none⟩ = some d ∧ w.cell? ⟨g, 4, none⟩ = some e ∧ w.cell? ⟨g, 5, none⟩ = some f :=
  ⟨cellT h rfl, cellT h rfl, cellT h rfl, cellT h rfl, cellT h rfl, cellT h rfl⟩
theorem six_open {w : World} {g : Nat} {T : TypeId} {a b c d e f : Value} (h : w.heap[g]? = some (.cells #[a, b, c, d, e, f] T (0, 0))) :
    w.frozen? ⟨g, 0, none⟩ = false ∧ w.frozen? ⟨g, 1, none⟩ = false ∧ w.frozen? ⟨g, 2, none⟩ = false ∧ w.frozen? ⟨g, 3, none⟩ = false ∧ w.frozen? ⟨g, 4, none⟩ = false ∧ w.frozen? ⟨g, 5, none⟩ = false :=
  ⟨frozenT h, frozenT h, frozenT h, frozenT h, frozenT h, frozenT h⟩
theorem put6_other {w : World} {g k : Nat} {a b c d e f : Value} (h : k ≠ g) : (put6 w g a b c d e f).heap[k]? = w.heap[k]? := by
  unfold put6
  rw [heap_setCell_other _ _ _ _ h, heap_setCell_other _ _ _ _ h, heap_setCell_other _ _ _ _ h, heap_setCell_other _ _ _ _ h, heap_setCell_other _ _ _ _ h, heap_setCell_other _ _ _ _ h]
theorem put6_size {w : World} {g : Nat} {a b c d e f : Value} : (put6 w g a b c d e f).heap.size = w.heap.size := by simp [put6]


/-- The block of a box, six cells of a value. -/
def box6 (X : V) (ia : Option Addr) (ic : Nat) (ka : Option Addr) (kc : Nat) : Obj := .cells #[.int .i64 X.kd, .bool X.bo, .int .i64 X.nu, .string X.tx, .slice ia X.its.length ic, .slice ka X.kys.length kc] 25 (0, 0)
def box0 : Obj := .cells #[.int .i64 0, .bool false, .int .i64 0, .string ⟨#[]⟩, .slice none 0 0, .slice none 0 0] 25 (0, 0)
/-- What stands in get's loop. -/
structure GetIn (X : V) (l : List St) (w wr : World) (j : Nat) (Y : V) (ya : Option Addr) (yc : Nat) (yk : Option Addr) (ykc : Nat) : Prop where
  le : j ≤ l.length
  same : getV X l = getV Y (l.drop j)
  mid : Y.mid
  at_ : VAt (veil (fun k => decide (k = w.heap.size ∨ k = w.heap.size + 1)) wr) Y (vcs Y ya yc yk ykc)
  bx : wr.heap[w.heap.size]? = some (box6 Y ya yc yk ykc)
  b0 : wr.heap[w.heap.size + 1]? = some box0
  below : Below w.heap.size w wr
  size : w.heap.size + 2 ≤ wr.heap.size
set_option maxHeartbeats 4000000 in
theorem get_any (X : V) (cs : List Value) (v : Value) (l : List St) (w : World) (hX : X.mid) (h : VAt w X cs) (hl : StAt w v l) (hlen : l.length ≤ 1099511627776) :
    Calls Tryz.prog 24 #[.agg cs.toArray, v] w fun e w' => ∃ ds : List Value, e = .returned (.tuple #[.agg ds.toArray, .bool (getV X l).isSome]) ∧ VAt w' ((getV X l).getD V.nil) ds ∧ Below w.heap.size w w' := by
  have CF := Lib.hid (fun (S : Nat → Bool) (Y : V) (es : List Value) (s : St) (w' : World) (hY : VAt (veil S w') Y es) (hm : Y.mid) => follow_veil S Y es s w' hY (good_facts hm.1).1 (good_facts hm.1).2.1 (by have := hm.len; omega))
  obtain ⟨ia, ic, ka, kc, rfl, _⟩ := h.opened
  obtain ⟨la, lc, rfl, _, hcell⟩ := hl.item
  have HC := Lib.hid hcell
  have H0 : GetIn X l w ((w.alloc (box6 X ia ic ka kc)).alloc box0) 0 X ia ic ka kc := by
    refine ⟨by omega, by simp, hX, h.keeps (Keeps.veil (by simp; omega) fun k hk => ⟨by simp; omega, ?_⟩), ?_, ?_, ((Below.refl w.heap.size w).alloc (Nat.le_refl _) _).alloc (by simp) _, by simp⟩
    · rw [heap_alloc_old _ _ (by simp; omega), heap_alloc_old _ _ hk]
    · rw [heap_alloc_old _ _ (by simp), heap_alloc_new]
    · exact heap_new_at (by simp)
  have HI := Lib.hid H0
  unfold box6 box0 at HI
  rw [vcs_arr]
  clear hcell hl h H0
  go_enter Tryz.func24, Tryz.ntmps24
  go_wp2_with fail
  go_loopw [11] (fun i wr => ∃ (j : Nat) (Y : V) (ya : Option Addr) (yc : Nat) (yk : Option Addr) (ykc : Nat), i = .int .i64 j ∧ Hid (GetIn X l w wr j Y ya yc yk ykc)) (fun i _ => l.length - (intOf i).toNat)
  case atStart => exact ⟨0, X, ia, ic, ka, kc, rfl, HI⟩
  case round =>
    obtain ⟨j, Y, ya, yc, yk, ykc, rfl, HI⟩ := hrel
    have hle := HI.out.le
    have hbx := HI.out.bx
    unfold box6 at hbx
    obtain ⟨r0, r1, r2, r3, r4, r5⟩ := six_of_block hbx
    have hlt : w.heap.size < wr.heap.size := by have := HI.out.size; omega
    by_cases hj : j < l.length
    · obtain ⟨b, off, rfl, h1, h2, h3, h4⟩ := HC.out (by omega)
      obtain ⟨c0, c1, c2⟩ := h4 j hj
      have d0 := (HI.out.below.cell (p := ⟨b, off + j * 3, none⟩) h3).trans c0
      have d1 := (HI.out.below.cell (p := ⟨b, off + j * 3 + 1, none⟩) h3).trans c1
      have d2 := (HI.out.below.cell (p := ⟨b, off + j * 3 + 2, none⟩) h3).trans c2
      have HBn : Hid (Below wr.heap.size wr (wr.alloc (.cells #[.string l[j].key, .int .i64 l[j].num, .bool false] 94))) := (Below.refl _ wr).alloc (Nat.le_refl _) _
      obtain ⟨q0, q1, q2, q3, q4, q5⟩ := six_of_block ((heap_alloc_old wr (.cells #[.string l[j].key, .int .i64 l[j].num, .bool false] 94) hlt).trans hbx)
      clear c0 c1 c2 h1 h2 h4 hbx
      have HC1 := Lib.hid (CF.out (fun k => decide (k = w.heap.size ∨ k = w.heap.size + 1)) Y (vcs Y ya yc yk ykc) l[j] (wr.alloc (.cells #[.string l[j].key, .int .i64 l[j].num, .bool false] 94)) (HI.out.at_.keeps (Keeps.belows HBn.out)) HI.out.mid)
      rw [vcs_arr] at HC1
      go_wp2_with fail
      refine HC1.out.mono ?_
      rintro e w2 ⟨ds, rfl, hds, hb2⟩
      have hlt2 : w.heap.size + 1 < wr.heap.size := by have := HI.out.size; omega
      have hZ : w2.heap[w.heap.size]? = some (box6 Y ya yc yk ykc) := (hb2.block _ (by simp; omega)).trans ((heap_alloc_old _ _ hlt).trans HI.out.bx)
      have hz0 : w2.heap[w.heap.size + 1]? = some box0 := (hb2.block _ (by simp; omega)).trans ((heap_alloc_old _ _ hlt2).trans HI.out.b0)
      have HB2 : Hid (Below w.heap.size w w2) := HI.out.below.trans ((HBn.out.trans (hb2.mono (by simp))).mono (by omega))
      have hz2 : wr.heap.size ≤ w2.heap.size := by have := hb2.size; simp at this; omega
      cases hf : followV Y l[j] with
      | none =>
        rw [hf] at hds
        generalize (none : Option V).getD V.nil = Z at hds
        obtain ⟨za, zc, zk, zkc, rfl, _⟩ := hds.opened
        unfold box6 at hZ
        unfold box0 at hz0
        obtain ⟨f0, f1, f2, f3, f4, f5⟩ := six_open hZ
        obtain ⟨s0, s1, s2, s3, s4, s5⟩ := six_of_block hZ
        have hput := put6_at (a := .int .i64 Z.kd) (b := .bool Z.bo) (c := .int .i64 Z.nu) (d := .string Z.tx) (e := .slice za Z.its.length zc) (f := .slice zk Z.kys.length zkc) rfl hZ
        have HBE := Lib.hid (put6_below (a := .int .i64 Z.kd) (b := .bool Z.bo) (c := .int .i64 Z.nu) (d := .string Z.tx) (e := .slice za Z.its.length zc) (f := .slice zk Z.kys.length zkc) HB2.out (Nat.le_refl w.heap.size))
        have HZ0 := Lib.hid ((put6_other (w := w2) (a := .int .i64 Z.kd) (b := .bool Z.bo) (c := .int .i64 Z.nu) (d := .string Z.tx) (e := .slice za Z.its.length zc) (f := .slice zk Z.kys.length zkc) (by omega : w.heap.size + 1 ≠ w.heap.size)).trans hz0)
        unfold put6 at HBE HZ0
        have HG : Hid (getV X l = none) := by
          show _ = _
          rw [HI.out.same, List.drop_eq_getElem_cons hj]
          unfold getV
          rw [hf]
        rw [vcs_arr]
        clear hput hZ hz0 hb2 hds q0 q1 q2 q3 q4 q5 d0 d1 d2 HBn HC1 hf r0 r1 r2 r3 r4 r5
        iterate 24 (first | go_values | go_skip | go_guarded | go_step | go_upon | go_simp)
        generalize hwf : World.setCell _ _ _ = wf at HBE HZ0 ⊢
        clear hwf s0 s1 s2 s3 s4 s5 f0 f1 f2 f3 f4 f5
        obtain ⟨g0, g1, g2, g3, g4, g5⟩ := six_open HZ0.out
        obtain ⟨t0, t1, t2, t3, t4, t5⟩ := six_of_block HZ0.out
        go_wp2_with fail
        have hput := put6_at (a := .int .i64 0) (b := .bool false) (c := .int .i64 0) (d := .string ⟨#[]⟩) (e := .slice none 0 0) (f := .slice none 0 0) rfl HZ0.out
        have hbel := put6_below (a := .int .i64 0) (b := .bool false) (c := .int .i64 0) (d := .string ⟨#[]⟩) (e := .slice none 0 0) (f := .slice none 0 0) HBE.out (Nat.le_succ w.heap.size)
        unfold put6 at hput hbel
        generalize hwf : World.setCell _ _ _ = wf' at hput hbel ⊢
        clear hwf g0 g1 g2 g3 g4 g5 t0 t1 t2 t3 t4 t5
        obtain ⟨s0, s1, s2, s3, s4, s5⟩ := six_of_block hput
        refine bodyPost_ret (v := .tuple #[.agg zv.toArray, .bool false]) (by simp [results, Tryz.results24, go_sem, zv, s0, s1, s2, s3, s4, s5] <;> rfl) rfl ⟨_, by rw [HG.out]; rfl, by rw [HG.out]; exact zv_at wf', hbel⟩
      | some Z =>
        rw [hf, Option.getD_some] at hds
        obtain ⟨za, zc, zk, zkc, rfl, _⟩ := hds.opened
        have HDS := Lib.hid hds
        unfold box6 at hZ
        obtain ⟨f0, f1, f2, f3, f4, f5⟩ := six_open hZ
        obtain ⟨s0, s1, s2, s3, s4, s5⟩ := six_of_block hZ
        have HZ := Lib.hid hZ
        have HN : Hid (GetIn X l w (put6 w2 w.heap.size (.int .i64 Z.kd) (.bool Z.bo) (.int .i64 Z.nu) (.string Z.tx) (.slice za Z.its.length zc) (.slice zk Z.kys.length zkc)) (j + 1) Z za zc zk zkc) := by
          refine ⟨by omega, ?_, HI.out.mid.follow hf, HDS.out.keeps (Keeps.veils (by rw [put6_size]; exact Nat.le_refl _) fun k hk hs => ⟨hs, put6_other (by simp at hs; omega)⟩), ?_, ?_, put6_below HB2.out (Nat.le_refl _), by rw [put6_size]; omega⟩
          · rw [HI.out.same, List.drop_eq_getElem_cons hj]
            conv => lhs; unfold getV
            rw [hf]
          · exact put6_at rfl HZ.out
          · rw [put6_other (by omega)]; exact hz0
        rw [vcs_arr]
        clear hZ hz0 hb2 hds q0 q1 q2 q3 q4 q5 d0 d1 d2 HBn HC1 hf r0 r1 r2 r3 r4 r5
        go_wp2_with fail
        go_roundw
        case rel => exact ⟨j + 1, Z, za, zc, zk, zkc, by go_num, HN⟩
        case measure => simp [intOf]; omega
    · have HG : Hid (getV X l = some Y) := by
        show _ = _
        rw [HI.out.same, List.drop_eq_nil_of_le (by omega)]; rfl
      have HZ := Lib.hid HI.out.b0
      unfold box0 at HZ
      obtain ⟨f0, f1, f2, f3, f4, f5⟩ := six_open HZ.out
      obtain ⟨s0, s1, s2, s3, s4, s5⟩ := six_of_block HZ.out
      go_wp2_with fail
      have hput := put6_at (a := .int .i64 Y.kd) (b := .bool Y.bo) (c := .int .i64 Y.nu) (d := .string Y.tx) (e := .slice ya Y.its.length yc) (f := .slice yk Y.kys.length ykc) rfl HZ.out
      have hbel := put6_below (a := .int .i64 Y.kd) (b := .bool Y.bo) (c := .int .i64 Y.nu) (d := .string Y.tx) (e := .slice ya Y.its.length yc) (f := .slice yk Y.kys.length ykc) HI.out.below (Nat.le_succ w.heap.size)
      have hat : VAt (put6 wr (w.heap.size + 1) (.int .i64 Y.kd) (.bool Y.bo) (.int .i64 Y.nu) (.string Y.tx) (.slice ya Y.its.length yc) (.slice yk Y.kys.length ykc)) Y (vcs Y ya yc yk ykc) :=
        (HI.out.at_.keeps (Keeps.veils (S' := fun _ => false) (by rw [put6_size]; exact Nat.le_refl _) fun k hk hs => ⟨rfl, put6_other (by simp at hs; omega)⟩)).keeps (Keeps.bare _ _)
      unfold put6 at hput hbel hat
      generalize hwf : World.setCell _ _ _ = wf at hput hbel hat ⊢
      clear hwf f0 f1 f2 f3 f4 f5 s0 s1 s2 s3 s4 s5 r0 r1 r2 r3 r4 r5
      obtain ⟨s0, s1, s2, s3, s4, s5⟩ := six_of_block hput
      refine bodyPost_ret (v := .tuple #[.agg (vcs Y ya yc yk ykc).toArray, .bool true]) (by simp [results, Tryz.results24, go_sem, vcs, s0, s1, s2, s3, s4, s5] <;> rfl) rfl ⟨_, by rw [HG.out]; rfl, by rw [HG.out]; exact hat, hbel⟩
end Go.Proofs.YtekknckdeedjnaaGreatDoor
