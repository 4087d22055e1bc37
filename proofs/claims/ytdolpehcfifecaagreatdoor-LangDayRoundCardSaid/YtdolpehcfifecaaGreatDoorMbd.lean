/- lang.ReadMessage of any string. Conditions: the variable strconv.ErrRange holds an error. -/
import Derived.Test.YtdolpehcfifecaaGreatDoorMbc
namespace Go.Proofs.YtdolpehcfifecaaGreatDoor
open Go.RowKit Mh
set_option linter.unusedVariables false
theorem msg_all : ∀ k d : Nat, d + k = 12 → 1 ≤ d → MsgOk d := by
  intro k
  induction k with
  | zero => intro d h1 h2; exact gmessage_any d h2 (by omega) (gbraces_any d h2 (by omega) (fun h => by omega))
  | succ k ih => intro d h1 h2; exact gmessage_any d h2 (by omega) (gbraces_any d h2 (by omega) (fun _ => ih (d + 1) (by omega) (by omega)))
/-- What ReadMessage leaves. -/
def RmR (R : Int × Int × List Pc) (w : World) (en : Ending) (w' : World) : Prop := ∃ (v : Value) (rows : List Value), en = .returned (.tuple #[.agg #[v], .int .i64 R.2.1, .int .i64 R.1]) ∧ Below w.heap.size w w' ∧
  Sl 3 (veil (bel w.heap.size) w') v R.2.2.length rows ∧ PcsAt (veil (bel w.heap.size) w') R.2.2 rows
theorem RmR.mk' {R : Int × Int × List Pc} {w w' : World} {v : Value} {rows : List Value} {a e : Int} {ps : List Pc} (h : R = (e, a, ps)) (hb : Below w.heap.size w w') (h1 : Sl 3 (veil (bel w.heap.size) w') v ps.length rows) (h2 : PcsAt (veil (bel w.heap.size) w') ps rows) :
    RmR R w (.returned (.tuple #[.agg #[v], .int .i64 a, .int .i64 e])) w' := by
  subst h; exact ⟨v, rows, rfl, hb, h1, h2⟩
set_option maxRecDepth 100000 in
set_option maxHeartbeats 8000000 in
theorem readMessage_any (s : ByteArray) (hs : s.size ≤ maxLen) (w : World) (hev : EvAt w) : Calls Tryz.prog 7 #[.string s] w (RmR (readM s) w) := by
  have hes := hev.size
  have HEV := Lib.hid hev
  unfold maxLen at hs
  clear hev
  by_cases hl : 2000 < s.size
  · have q : (2000 : Int) < s.size := by omega
    have HR : Hid (readM s = (4, 0, [])) := by show _ = _; unfold readM; rw [if_pos hl]
    clear hl
    generalize readM s = R at HR ⊢
    have HB := Lib.hid ((Below.refl _ w).alloc (Nat.le_refl _) (.cells #[.slice none 0 0] 38))
    have c0 : (w.alloc (.cells #[.slice none 0 0] 38)).cell? ⟨w.heap.size, 0, none⟩ = some (.slice none 0 0) := cellT (heap_alloc_new _ _) rfl
    go_enter Tryz.func7, Tryz.ntmps7
    go_wp2_with fail
    exact bodyPost_ret (v := .tuple #[.agg #[.slice none 0 0], .int .i64 0, .int .i64 4]) (by simp [results, Tryz.results7, go_sem, c0]) rfl (RmR.mk' HR.out HB.out (Sl.nil _ _ _ _) (PcsAt.nil _))
  · have q : ¬ (2000 : Int) < s.size := by omega
    have hs2 : s.size ≤ 2000 := by omega
    obtain ⟨r, hr⟩ : ∃ r, r = mloop s 1 false ⟨0, 0, 0, 0⟩ [] [] := ⟨_, rfl⟩
    have HR : Hid (readM s = if r.1.e ≠ 0 then (r.1.e, r.1.a, []) else (0, 0, r.2)) := by show _ = _; unfold readM; rw [if_neg hl, hr]
    have HM0 : Hid (MsAt (w.heap.size + 1) 54 s ⟨0, 0, 0, 0⟩ ((w.alloc (.cells #[.slice none 0 0] 38)).alloc (.cells #[.string s, .int .i64 0, .int .i64 0, .int .i64 0, .int .i64 0] 54))) := heap_new_at (by simp)
    have HB : Hid (Below w.heap.size w ((w.alloc (.cells #[.slice none 0 0] 38)).alloc (.cells #[.string s, .int .i64 0, .int .i64 0, .int .i64 0, .int .i64 0] 54))) := ((Below.refl _ _).alloc (Nat.le_refl _) _).alloc (by simp) _
    have HR0 : Hid (((w.alloc (.cells #[.slice none 0 0] 38)).alloc (.cells #[.string s, .int .i64 0, .int .i64 0, .int .i64 0, .int .i64 0] 54)).heap[w.heap.size]? = some (.cells #[.slice none 0 0] 38 (0, 0))) := (heap_alloc_old _ _ (by simp)).trans (heap_alloc_new _ _)
    have HC := Lib.hid (msg_all 11 1 rfl (by omega) (w.heap.size + 1) 54 s ⟨0, 0, 0, 0⟩ false _ HM0.out (Nat.zero_le _) (Nat.le_refl _) (by omega) (HEV.out.keep HB.out hes) (by omega))
    rw [← hr] at HC
    have HSZ : Hid (((w.alloc (.cells #[.slice none 0 0] 38)).alloc (.cells #[.string s, .int .i64 0, .int .i64 0, .int .i64 0, .int .i64 0] 54)).heap.size = w.heap.size + 2) := by show _ = _; simp
    clear hl hr
    generalize readM s = R at HR ⊢
    go_enter Tryz.func7, Tryz.ntmps7
    go_wp2_with fail
    refine HC.out.mono ?_
    rintro e w2 ⟨v, rows, rfl, hp2, hk2, hsl, hpc⟩
    obtain ⟨xa, xc, rfl⟩ := sl_form hsl
    have hz2 := hk2.size
    rw [HSZ.out] at hz2
    have HB2 : Hid (Below w.heap.size w w2) := HB.out.trans (hk2.below (by rw [HSZ.out]; omega) (by simp))
    have HR2 := Lib.hid ((hk2.block w.heap.size (by rw [HSZ.out]; omega) (by simp)).trans HR0.out)
    obtain ⟨c0, c1, c2, c3, c4, fz⟩ := hp2.cells
    have HP2 := Lib.hid hp2
    have HS2 := Lib.hid (And.intro hsl hpc)
    rw [HSZ.out] at HS2
    have d0 : w2.cell? ⟨w.heap.size, 0, none⟩ = some (.slice none 0 0) := cellT HR2.out rfl
    have f0 : w2.frozen? ⟨w.heap.size, 0, none⟩ = false := frozenT HR2.out
    clear hp2 hk2 hsl hpc HC HM0 HB HR0 HSZ
    by_cases he : r.1.e = 0
    · have be : (r.1.e != 0) = false := by rw [bne_eq_false_iff_eq]; exact he
      have HR : Hid (R = (0, 0, r.2)) := by show _ = _; rw [HR.out, if_neg (by rw [he]; simp)]
      clear he
      go_wp2_with fail
      have hset := heap_setCell_same w2 w.heap.size 0 _ _ (.slice xa r.2.length xc) HR2.out
      have hbel : Below w.heap.size w (w2.setCell ⟨w.heap.size, 0, none⟩ (.slice xa r.2.length xc)) := HB2.out.setCell (Nat.le_refl _) _
      have hK : Keeps (veil (bel (w.heap.size + 2)) w2) (veil (bel w.heap.size) (w2.setCell ⟨w.heap.size, 0, none⟩ (.slice xa r.2.length xc))) := Keeps.veils (by simp) fun k hk hs => by
        rw [bel_false] at hs
        exact ⟨by rw [bel_false]; omega, heap_setCell_other _ _ _ _ (by show k ≠ w.heap.size; omega)⟩
      generalize hwf : World.setCell _ _ _ = wf at hset hbel hK ⊢
      clear hwf c0 c1 c2 c3 c4 fz d0 f0
      have s0 : wf.cell? ⟨w.heap.size, 0, none⟩ = some (.slice xa r.2.length xc) := cellT hset rfl
      exact bodyPost_ret (v := .tuple #[.agg #[.slice xa r.2.length xc], .int .i64 0, .int .i64 0]) (by simp [results, Tryz.results7, go_sem, s0]) rfl (RmR.mk' HR.out hbel (HS2.out.1.keeps hK) (HS2.out.2.keeps hK))
    · have be : (r.1.e != 0) = true := by rw [bne_iff_ne]; exact he
      have HR : Hid (R = (r.1.e, r.1.a, [])) := by show _ = _; rw [HR.out, if_pos he]
      clear he
      go_wp2_with fail
      go_region
      all_goals
        go_wp2_with fail
        have hset : ((w2.setCell ⟨w.heap.size, 0, none⟩ (.slice none 0 0)).drew).heap[w.heap.size]? = some (.cells #[.slice none 0 0] 38 (0, 0)) := heap_setCell_same w2 w.heap.size 0 _ _ (.slice none 0 0) HR2.out
        have hbel : Below w.heap.size w (w2.setCell ⟨w.heap.size, 0, none⟩ (.slice none 0 0)).drew := (HB2.out.setCell (Nat.le_refl _) _).drew
        generalize hwf : World.drew _ = wf at hset hbel ⊢
        clear hwf c0 c1 c2 c3 c4 fz d0 f0
        have s0 : wf.cell? ⟨w.heap.size, 0, none⟩ = some (.slice none 0 0) := cellT hset rfl
        exact bodyPost_ret (v := .tuple #[.agg #[.slice none 0 0], .int .i64 r.1.a, .int .i64 r.1.e]) (by simp [results, Tryz.results7, go_sem, s0]) rfl (RmR.mk' HR.out hbel (Sl.nil _ _ _ _) (PcsAt.nil _))
end Go.Proofs.YtdolpehcfifecaaGreatDoor
