/- conf.set along any steps. Conditions: the value is right and of at most 1000 values; at most 401 steps; keys of at most maxLen bytes. · conf.Set: what it returns. Conditions: at most 2^20 values in all; the cell of MaxLen. -/
import Derived.Test.YtekknckdeedjnaaGreatDoorKeDa
import Derived.Test.YtekknckdeedjnaaGreatDoorKeDb
import Derived.Test.YtekknckdeedjnaaGreatDoorKeA
namespace Go.Proofs.YtekknckdeedjnaaGreatDoor
open Go.RowKit Mh
set_option linter.unusedVariables false
theorem set_any : ∀ (l : List St), l.length ≤ 402 → (∀ s ∈ l, s.key.size ≤ maxLen) → ∀ (S : Nat → Bool) (X Y : V) (cs ds : List Value) (v : Value) (w : World), (∀ k, w.heap.size ≤ k → S k = false) → VAt (veil S w) X cs → VAt (veil S w) Y ds → StAt w v l → X.mid →
    Calls Tryz.prog 20 #[.agg cs.toArray, v, .agg ds.toArray] w (SetOk S X l Y w) := by
  intro l
  induction l with
  | nil => intro _ _ S X Y cs ds v w _ hX hY hv _; exact set_nil S X Y cs ds v w hX hY hv
  | cons s l ih =>
    intro hlen hk S X Y cs ds v w hS hX hY hv hm
    simp only [List.length_cons] at hlen
    have HIH := Lib.hid (fun (S : Nat → Bool) (X : V) (cs ds : List Value) (v : Value) (w : World) h1 h2 h3 h4 h5 => ih (by omega) (fun x hx => hk x (by simp [hx])) S X Y cs ds v w h1 h2 h3 h4 h5)
    cases h0 : s.k0 with
    | false => exact set_tab S X Y s l cs ds v w hS hX hY hv hm (hk s (by simp)) (by omega) h0 HIH
    | true => exact set_lst S X Y s l cs ds v w hS hX hY hv hm (hk s (by simp)) (by omega) h0 HIH
end Go.Proofs.YtekknckdeedjnaaGreatDoor
namespace Go.Proofs.YtekknckdeedjnaaGreatDoor
open Go.RowKit Mh
set_option linter.unusedVariables false

theorem steps_keys : ∀ (ps : List ByteArray) (l : List St), stepsL ps = some l → (∀ p ∈ ps, p.size ≤ maxLen) → ∀ s ∈ l, s.key.size ≤ maxLen := by
  intro ps
  induction ps with
  | nil => intro l h _ s hs; simp only [stepsL, Option.some.injEq] at h; subst h; simp at hs
  | cons p ps ih =>
    intro l h hp s hs
    unfold stepsL at h
    cases hb : stepB p with
    | none => rw [hb] at h; cases h
    | some t =>
      rw [hb] at h
      cases hr : stepsL ps with
      | none => rw [hr] at h; cases h
      | some r =>
        rw [hr] at h
        simp only [Option.some.injEq] at h
        subst h
        rcases List.mem_cons.1 hs with rfl | hs
        · unfold stepB at hb
          split at hb
          · simp only [Option.some.injEq] at hb; subst hb; exact hp p (by simp)
          · split at hb
            · simp only [Option.some.injEq] at hb; subst hb; exact Nat.zero_le _
            · cases hb
        · exact ih r hr (fun q hq => hp q (by simp [hq])) s hs
theorem stepsB_keys {r : ByteArray} {l : List St} (h : stepsB r = some l) : ∀ s ∈ l, s.key.size ≤ maxLen := by
  unfold stepsB at h
  split at h
  · cases h
  split at h
  · cases h; simp
  · rename_i h4 _
    refine steps_keys _ l h fun p hp => ?_
    have := split_size 46 r p hp
    unfold maxLen; omega
/-- What Set returns. -/
def SetXOk (X : V) (r : ByteArray) (Y : V) (w : World) (e : Ending) (w' : World) : Prop :=
  ∃ (ds : List Value) (c : Int), e = .returned (.tuple #[.agg ds.toArray, .int .i64 c]) ∧ Below w.heap.size w w' ∧
    ((c ≠ 0 ∧ ds = zv) ∨ (c = 0 ∧ ∃ l s, stepsB r = some l ∧ X.okc ∧ Y.okc ∧ setV X l Y = some s ∧ s.okc ∧ VAt (veil (fun k => decide (k < w.heap.size)) w') s ds))
/-- Two values in a built slice. -/
def box12 (X Y : V) (xa : Option Addr) (xc : Nat) (xk : Option Addr) (xkc : Nat) (ya : Option Addr) (yc : Nat) (yk : Option Addr) (ykc : Nat) : Obj :=
  .cells #[.int .i64 X.kd, .bool X.bo, .int .i64 X.nu, .string X.tx, .slice xa X.its.length xc, .slice xk X.kys.length xkc, .int .i64 Y.kd, .bool Y.bo, .int .i64 Y.nu, .string Y.tx, .slice ya Y.its.length yc, .slice yk Y.kys.length ykc] 25 (0, 0)
/-- What stands in Set. -/
structure SetXIn (X Y : V) (w : World) (xa : Option Addr) (xc : Nat) (xk : Option Addr) (xkc : Nat) (ya : Option Addr) (yc : Nat) (yk : Option Addr) (ykc : Nat) (W : World) : Prop where
  bx : W.heap[w.heap.size]? = some (box6 X xa xc xk xkc)
  by_ : W.heap[w.heap.size + 1]? = some (box6 Y ya yc yk ykc)
  b0 : W.heap[w.heap.size + 2]? = some box0
  ba : W.heap[w.heap.size + 3]? = some (box12 X Y xa xc xk xkc ya yc yk ykc)
  below : Below w.heap.size w W
  size : w.heap.size + 4 ≤ W.heap.size
theorem SetXIn.on {X Y : V} {w W W' : World} {xa xk ya yk : Option Addr} {xc xkc yc ykc : Nat} (h : SetXIn X Y w xa xc xk xkc ya yc yk ykc W) (hb : Below W.heap.size W W') : SetXIn X Y w xa xc xk xkc ya yc yk ykc W' := by
  have hz := h.size
  exact ⟨(hb.block _ (by omega)).trans h.bx, (hb.block _ (by omega)).trans h.by_, (hb.block _ (by omega)).trans h.b0, (hb.block _ (by omega)).trans h.ba, h.below.trans (hb.mono h.below.size), Nat.le_trans hz hb.size⟩
theorem SetXIn.zero {X Y : V} {w W : World} {xa xk ya yk : Option Addr} {xc xkc yc ykc : Nat} (h : SetXIn X Y w xa xc xk xkc ya yc yk ykc W) {a b c d e f : Value} : Below w.heap.size w (put6 W (w.heap.size + 2) a b c d e f) := put6_below h.below (by omega)
theorem setx_start (X Y : V) (w : World) (xa xk ya yk : Option Addr) (xc xkc yc ykc : Nat) :
    SetXIn X Y w xa xc xk xkc ya yc yk ykc ((((w.alloc (box6 X xa xc xk xkc)).alloc (box6 Y ya yc yk ykc)).alloc box0).alloc (box12 X Y xa xc xk xkc ya yc yk ykc)) := by
  refine ⟨?_, ?_, ?_, heap_new_at (by simp), ((((Below.refl w.heap.size w).alloc (Nat.le_refl _) _).alloc (by simp) _).alloc (by simp <;> omega) _).alloc (by simp <;> omega) _, by simp⟩
  · rw [heap_alloc_old _ _ (by simp <;> omega), heap_alloc_old _ _ (by simp <;> omega), heap_alloc_old _ _ (by simp)]; exact heap_alloc_new _ _
  · rw [heap_alloc_old _ _ (by simp <;> omega), heap_alloc_old _ _ (by simp)]; exact heap_new_at (by simp)
  · rw [heap_alloc_old _ _ (by simp)]; exact heap_new_at (by simp)
set_option maxRecDepth 100000 in
set_option maxHeartbeats 8000000 in
theorem setX_any (X Y : V) (cs ds : List Value) (r : ByteArray) (w : World) (m : Int) (hm : w.cell? ⟨1, 0, none⟩ = some (.int .i64 m)) (hr : r.size ≤ maxLen) (hX : VAt w X cs) (hY : VAt w Y ds) (nX : X.nodes ≤ 2097152) (nY : Y.nodes ≤ 2097152) :
    Calls Tryz.prog 25 #[.agg cs.toArray, .string r, .agg ds.toArray] w (SetXOk X r Y w) := by
  have C1 := Lib.hid (fun w' (hb : Below w.heap.size w w') => check_any X (by omega) cs w' (hX.keep hb))
  have C2 := Lib.hid (fun w' (hb : Below w.heap.size w w') => check_any Y (by omega) ds w' (hY.keep hb))
  have C3 := Lib.hid (fun w' (hb : Below w.heap.size w w') => steps_any r w' m ((hb.cell (World.block_lt_of_cell? w _ hm)).trans hm) hr)
  have C4 := Lib.hid (fun (l : List St) (hl : stepsB r = some l) (hok : X.okc) w' v (hb : Below w.heap.size w w') (hv : StAt w' v l) => set_any l (by have := steps_len hl; omega) (stepsB_keys hl) (fun _ => false) X Y cs ds v w' (fun _ _ => rfl) ((hX.keep hb).keeps (Keeps.veil (Nat.le_refl _) fun k _ => ⟨rfl, rfl⟩)) ((hY.keep hb).keeps (Keeps.veil (Nat.le_refl _) fun k _ => ⟨rfl, rfl⟩)) hv hok.mid)
  have C5 : Hid (∀ (l : List St) (hl : stepsB r = some l) (s : V) (hs : setV X l Y = some s) es w' (hes : VAt w' s es), Calls Tryz.prog 15 #[.agg es.toArray] w' fun e w'' => ∃ c : Int, e = .returned (.int .i64 c) ∧ (c = 0 ↔ s.okc) ∧ Below w'.heap.size w' w'') := by
    intro l hl s hs es w' hes
    refine check_any s ?_ es w' hes
    have h1 := set_nodes l X Y s hs
    have h2 := steps_len hl
    have h3 : (l.length + 1) * (X.nodes + 1) ≤ 402 * 2097153 := Nat.mul_le_mul (by omega) (by omega)
    omega
  have C6 := Lib.hid (fun (s : V) (hok : s.okc) es w' (hes : VAt w' s es) => clone_any _ s (Nat.lt_succ_self _) hok.mid es w' hes)
  obtain ⟨xa, xc, xk, xkc, rfl, _⟩ := hX.opened
  obtain ⟨ya, yc, yk, ykc, rfl, _⟩ := hY.opened
  rw [vcs_arr] at C1 C2
  simp only [vcs_arr] at C4
  rw [vcs_arr, vcs_arr]
  have HI := Lib.hid (setx_start X Y w xa xk ya yk xc xkc yc ykc)
  unfold box6 box0 box12 at HI
  clear hX hY hm nX nY hr
  go_enter Tryz.func25, Tryz.ntmps25
  go_wp2_with fail
  go_loopw [19] (fun i wr => ∃ (j : Nat), i = .int .i64 j ∧ Hid (j ≤ 2 ∧ (0 < j → X.okc) ∧ (1 < j → Y.okc)) ∧ Hid (SetXIn X Y w xa xc xk xkc ya yc yk ykc wr)) (fun i _ => 2 - (intOf i).toNat)
  case atStart => exact ⟨0, rfl, ⟨by omega, fun h => by omega, fun h => by omega⟩, HI⟩
  case round =>
    clear HI
    obtain ⟨j, rfl, HJ, HI⟩ := hrel
    rcases (show j = 0 ∨ j = 1 ∨ j = 2 by have := HJ.out.1; omega) with rfl | rfl | rfl
    · have HBA := Lib.hid HI.out.ba
      unfold box12 at HBA
      have q0 : wr.cell? ⟨w.heap.size + 3, 0, none⟩ = _ := cellT HBA.out rfl
      have q1 : wr.cell? ⟨w.heap.size + 3, 1, none⟩ = _ := cellT HBA.out rfl
      have q2 : wr.cell? ⟨w.heap.size + 3, 2, none⟩ = _ := cellT HBA.out rfl
      have q3 : wr.cell? ⟨w.heap.size + 3, 3, none⟩ = _ := cellT HBA.out rfl
      have q4 : wr.cell? ⟨w.heap.size + 3, 4, none⟩ = _ := cellT HBA.out rfl
      have q5 : wr.cell? ⟨w.heap.size + 3, 5, none⟩ = _ := cellT HBA.out rfl
      have HBW : Hid (Below wr.heap.size wr (wr.alloc (.cells #[.int .i64 X.kd, .bool X.bo, .int .i64 X.nu, .string X.tx, .slice xa X.its.length xc, .slice xk X.kys.length xkc] 25))) := (Below.refl _ wr).alloc (Nat.le_refl _) _
      have hzr := HI.out.size
      clear C3 C4 C5 C6 C2
      go_wp2_with fail
      refine (C1.out _ (HI.out.below.trans (HBW.out.mono HI.out.below.size))).mono ?_
      rintro e w1 ⟨c, rfl, hc, hb1⟩
      have HI1 := Lib.hid (HI.out.on (HBW.out.trans (hb1.mono HBW.out.size)))
      have HCC := Lib.hid hc
      clear hb1 HI HBW HBA q0 q1 q2 q3 q4 q5 C1 hc
      by_cases hc0 : c = 0
      · subst hc0
        have HJ2 : Hid (1 ≤ 2 ∧ (0 < 1 → X.okc) ∧ (1 < 1 → Y.okc)) := ⟨by omega, fun _ => HCC.out.1 rfl, fun h => by omega⟩
        go_wp2_with fail
        go_roundw
        case rel => exact ⟨1, by go_num, HJ2, HI1⟩
        case measure => simp [intOf]
      · have hq : (c != 0) = true := by rw [bne_iff_ne]; exact hc0
        have HC0 := Lib.hid hc0
        have hb0 := HI1.out.b0
        unfold box0 at hb0
        obtain ⟨g0, g1, g2, g3, g4, g5⟩ := six_open hb0
        obtain ⟨t0, t1, t2, t3, t4, t5⟩ := six_of_block hb0
        have HPT := Lib.hid (put6_at (a := .int .i64 0) (b := .bool false) (c := .int .i64 0) (d := .string ⟨#[]⟩) (e := .slice none 0 0) (f := .slice none 0 0) rfl hb0)
        have HBL := Lib.hid (HI1.out.zero (a := .int .i64 0) (b := .bool false) (c := .int .i64 0) (d := .string ⟨#[]⟩) (e := .slice none 0 0) (f := .slice none 0 0))
        unfold put6 at HPT HBL
        clear hc0 hb0
        go_wp2_with fail
        generalize hwf : World.setCell _ _ _ = wf at HPT HBL ⊢
        clear hwf g0 g1 g2 g3 g4 g5 t0 t1 t2 t3 t4 t5
        obtain ⟨s0, s1, s2, s3, s4, s5⟩ := six_of_block HPT.out
        refine bodyPost_ret (v := .tuple #[.agg zv.toArray, .int .i64 c]) (by simp [results, Tryz.results25, go_sem, zv, s0, s1, s2, s3, s4, s5] <;> rfl) rfl ⟨_, c, rfl, HBL.out, .inl ⟨HC0.out, rfl⟩⟩
    · have HBA := Lib.hid HI.out.ba
      unfold box12 at HBA
      have q0 : wr.cell? ⟨w.heap.size + 3, 6, none⟩ = _ := cellT HBA.out rfl
      have q1 : wr.cell? ⟨w.heap.size + 3, 7, none⟩ = _ := cellT HBA.out rfl
      have q2 : wr.cell? ⟨w.heap.size + 3, 8, none⟩ = _ := cellT HBA.out rfl
      have q3 : wr.cell? ⟨w.heap.size + 3, 9, none⟩ = _ := cellT HBA.out rfl
      have q4 : wr.cell? ⟨w.heap.size + 3, 10, none⟩ = _ := cellT HBA.out rfl
      have q5 : wr.cell? ⟨w.heap.size + 3, 11, none⟩ = _ := cellT HBA.out rfl
      have HBW : Hid (Below wr.heap.size wr (wr.alloc (.cells #[.int .i64 Y.kd, .bool Y.bo, .int .i64 Y.nu, .string Y.tx, .slice ya Y.its.length yc, .slice yk Y.kys.length ykc] 25))) := (Below.refl _ wr).alloc (Nat.le_refl _) _
      have hzr := HI.out.size
      clear C3 C4 C5 C6 C1
      go_wp2_with fail
      refine (C2.out _ (HI.out.below.trans (HBW.out.mono HI.out.below.size))).mono ?_
      rintro e w1 ⟨c, rfl, hc, hb1⟩
      have HI1 := Lib.hid (HI.out.on (HBW.out.trans (hb1.mono HBW.out.size)))
      have HCC := Lib.hid hc
      clear hb1 HI HBW HBA q0 q1 q2 q3 q4 q5 C2 hc
      by_cases hc0 : c = 0
      · subst hc0
        have HJ2 : Hid (2 ≤ 2 ∧ (0 < 2 → X.okc) ∧ (1 < 2 → Y.okc)) := ⟨by omega, fun _ => HJ.out.2.1 (by omega), fun _ => HCC.out.1 rfl⟩
        go_wp2_with fail
        go_roundw
        case rel => exact ⟨2, by go_num, HJ2, HI1⟩
        case measure => simp [intOf]
      · have hq : (c != 0) = true := by rw [bne_iff_ne]; exact hc0
        have HC0 := Lib.hid hc0
        have hb0 := HI1.out.b0
        unfold box0 at hb0
        obtain ⟨g0, g1, g2, g3, g4, g5⟩ := six_open hb0
        obtain ⟨t0, t1, t2, t3, t4, t5⟩ := six_of_block hb0
        have HPT := Lib.hid (put6_at (a := .int .i64 0) (b := .bool false) (c := .int .i64 0) (d := .string ⟨#[]⟩) (e := .slice none 0 0) (f := .slice none 0 0) rfl hb0)
        have HBL := Lib.hid (HI1.out.zero (a := .int .i64 0) (b := .bool false) (c := .int .i64 0) (d := .string ⟨#[]⟩) (e := .slice none 0 0) (f := .slice none 0 0))
        unfold put6 at HPT HBL
        clear hc0 hb0
        go_wp2_with fail
        generalize hwf : World.setCell _ _ _ = wf at HPT HBL ⊢
        clear hwf g0 g1 g2 g3 g4 g5 t0 t1 t2 t3 t4 t5
        obtain ⟨s0, s1, s2, s3, s4, s5⟩ := six_of_block HPT.out
        refine bodyPost_ret (v := .tuple #[.agg zv.toArray, .int .i64 c]) (by simp [results, Tryz.results25, go_sem, zv, s0, s1, s2, s3, s4, s5] <;> rfl) rfl ⟨_, c, rfl, HBL.out, .inl ⟨HC0.out, rfl⟩⟩
    · have HXO : Hid X.okc := HJ.out.2.1 (by omega)
      have HYO : Hid Y.okc := HJ.out.2.2 (by omega)
      clear HJ C1 C2
      have hzr := HI.out.size
      have C31 := Lib.hid (C3.out wr HI.out.below)
      clear C3
      cases hst : stepsB r with
      | none =>
        rw [hst] at C31
        simp only [Option.isSome_none, Option.getD_none] at C31
        clear C4 C5 C6 hst HXO HYO
        go_wp2_with fail
        refine C31.out.mono ?_
        rintro e w1 ⟨v, rfl, hv, hb1⟩
        have HI1 := Lib.hid (HI.out.on hb1)
        clear hv hb1 HI C31
        have hb0 := HI1.out.b0
        unfold box0 at hb0
        obtain ⟨g0, g1, g2, g3, g4, g5⟩ := six_open hb0
        obtain ⟨t0, t1, t2, t3, t4, t5⟩ := six_of_block hb0
        have HPT := Lib.hid (put6_at (a := .int .i64 0) (b := .bool false) (c := .int .i64 0) (d := .string ⟨#[]⟩) (e := .slice none 0 0) (f := .slice none 0 0) rfl hb0)
        have HBL := Lib.hid (HI1.out.zero (a := .int .i64 0) (b := .bool false) (c := .int .i64 0) (d := .string ⟨#[]⟩) (e := .slice none 0 0) (f := .slice none 0 0))
        unfold put6 at HPT HBL
        clear hb0
        go_wp2_with fail
        generalize hwf : World.setCell _ _ _ = wf at HPT HBL ⊢
        clear hwf g0 g1 g2 g3 g4 g5 t0 t1 t2 t3 t4 t5
        obtain ⟨s0, s1, s2, s3, s4, s5⟩ := six_of_block HPT.out
        refine bodyPost_ret (v := .tuple #[.agg zv.toArray, .int .i64 3]) (by simp [results, Tryz.results25, go_sem, zv, s0, s1, s2, s3, s4, s5] <;> rfl) rfl ⟨_, 3, rfl, HBL.out, .inl ⟨by decide, rfl⟩⟩
      | some l =>
        rw [hst] at C31
        simp only [Option.isSome_some, Option.getD_some] at C31
        have HST := Lib.hid hst
        clear hst
        go_wp2_with fail
        refine C31.out.mono ?_
        rintro e w1 ⟨v, rfl, hv, hb1⟩
        have HI1 := Lib.hid (HI.out.on hb1)
        have C41 := Lib.hid (C4.out l HST.out HXO.out w1 v HI1.out.below hv)
        have hbx := HI1.out.bx
        have hby := HI1.out.by_
        unfold box6 at hbx hby
        obtain ⟨x0, x1, x2, x3, x4, x5⟩ := six_of_block hbx
        obtain ⟨y0, y1, y2, y3, y4, y5⟩ := six_of_block hby
        clear hv hb1 HI C31 C4 hbx hby
        go_wp2_with fail
        refine C41.out.mono ?_
        rintro e w2 ⟨ds, c, rfl, hb2, hc, hd⟩
        have hd2 := hd.keeps (Keeps.bare _ _)
        obtain ⟨da, dc, dk, dkc, rfl, _⟩ := hd2.opened
        have HI2 := Lib.hid (HI1.out.on hb2)
        rw [vcs_arr]
        by_cases hc0 : c = 0
        · obtain ⟨s, hs⟩ := Option.isSome_iff_exists.1 (hc.1 hc0)
          subst hc0
          rw [hs, Option.getD_some] at hd2
          rw [hs, Option.getD_some]
          have hB3 : Below w2.heap.size w2 (w2.alloc (box6 s da dc dk dkc)) := (Below.refl _ w2).alloc (Nat.le_refl _) _
          have HI3 := Lib.hid (HI2.out.on hB3)
          have HD3 := Lib.hid (hd2.keep hB3)
          have C51 := Lib.hid (C5.out l HST.out s hs _ _ HD3.out)
          have HBS : Hid ((w2.alloc (box6 s da dc dk dkc)).heap[w2.heap.size]? = some (box6 s da dc dk dkc)) := heap_alloc_new _ _
          have HSV := Lib.hid hs
          have hz2 := HI2.out.size
          rw [vcs_arr] at C51
          unfold box6 at HI3 HD3 C51 HBS
          clear hs hb2 hc hd hd2 hB3 HI1 HI2 C41 C5 x0 x1 x2 x3 x4 x5 y0 y1 y2 y3 y4 y5
          go_wp2_with fail
          refine C51.out.mono ?_
          rintro e w4 ⟨c, rfl, hc, hb4⟩
          have HI4 := Lib.hid (HI3.out.on hb4)
          have HCC := Lib.hid hc
          have HD4 := Lib.hid (HD3.out.keep hb4)
          have HBS4 := Lib.hid ((hb4.block w2.heap.size (by simp)).trans HBS.out)
          clear hc hb4 HI3 HD3 HBS C51
          by_cases hc0 : c = 0
          · subst hc0
            have HSO : Hid s.okc := HCC.out.1 rfl
            have C61 := Lib.hid (C6.out s HSO.out _ _ HD4.out)
            rw [vcs_arr] at C61
            obtain ⟨x0, x1, x2, x3, x4, x5⟩ := six_of_block HBS4.out
            clear C6 HD4 HCC HBS4
            go_wp2_with fail
            refine C61.out.mono ?_
            rintro e w5 ⟨es, rfl, hes, hb5⟩
            obtain ⟨ea, ec, ek, ekc, rfl, _⟩ := hes.opened
            have HI5 := Lib.hid (HI4.out.on hb5)
            have HES := Lib.hid hes
            have hz4 := HI4.out.size
            rw [vcs_arr]
            have hb0 := HI5.out.b0
            unfold box0 at hb0
            obtain ⟨g0, g1, g2, g3, g4, g5⟩ := six_open hb0
            obtain ⟨t0, t1, t2, t3, t4, t5⟩ := six_of_block hb0
            have HPT := Lib.hid (put6_at (a := .int .i64 s.kd) (b := .bool s.bo) (c := .int .i64 s.nu) (d := .string s.tx) (e := .slice ea s.its.length ec) (f := .slice ek s.kys.length ekc) rfl hb0)
            have HBL := Lib.hid (HI5.out.zero (a := .int .i64 s.kd) (b := .bool s.bo) (c := .int .i64 s.nu) (d := .string s.tx) (e := .slice ea s.its.length ec) (f := .slice ek s.kys.length ekc))
            have HAT : Hid (VAt (veil (fun k => decide (k < w.heap.size)) (put6 w5 (w.heap.size + 2) (.int .i64 s.kd) (.bool s.bo) (.int .i64 s.nu) (.string s.tx) (.slice ea s.its.length ec) (.slice ek s.kys.length ekc))) s (vcs s ea ec ek ekc)) :=
              HES.out.keeps (Keeps.veils (S' := fun k => decide (k < w.heap.size)) (by rw [put6_size]; exact Nat.le_refl _) fun k hk hs => by simp at hs; exact ⟨by simp; omega, put6_other (by omega)⟩)
            unfold put6 at HPT HBL HAT
            clear hb0 hes hb5 x0 x1 x2 x3 x4 x5 HI4 HI5 HES C61
            go_wp2_with fail
            generalize hwf : World.setCell _ _ _ = wf at HPT HBL HAT ⊢
            clear hwf g0 g1 g2 g3 g4 g5 t0 t1 t2 t3 t4 t5
            obtain ⟨s0, s1, s2, s3, s4, s5⟩ := six_of_block HPT.out
            refine bodyPost_ret (v := .tuple #[.agg (vcs s ea ec ek ekc).toArray, .int .i64 0]) (by simp [results, Tryz.results25, go_sem, vcs, s0, s1, s2, s3, s4, s5] <;> rfl) rfl ⟨_, 0, rfl, HBL.out, .inr ⟨rfl, l, s, HST.out, HXO.out, HYO.out, HSV.out, HSO.out, HAT.out⟩⟩
          · have hq : (c != 0) = true := by rw [bne_iff_ne]; exact hc0
            have HC0 := Lib.hid hc0
            clear hc0 HD4 HBS4 HCC
            have hb0 := HI4.out.b0
            unfold box0 at hb0
            obtain ⟨g0, g1, g2, g3, g4, g5⟩ := six_open hb0
            obtain ⟨t0, t1, t2, t3, t4, t5⟩ := six_of_block hb0
            have HPT := Lib.hid (put6_at (a := .int .i64 0) (b := .bool false) (c := .int .i64 0) (d := .string ⟨#[]⟩) (e := .slice none 0 0) (f := .slice none 0 0) rfl hb0)
            have HBL := Lib.hid (HI4.out.zero (a := .int .i64 0) (b := .bool false) (c := .int .i64 0) (d := .string ⟨#[]⟩) (e := .slice none 0 0) (f := .slice none 0 0))
            unfold put6 at HPT HBL
            clear hb0
            go_wp2_with fail
            generalize hwf : World.setCell _ _ _ = wf at HPT HBL ⊢
            clear hwf g0 g1 g2 g3 g4 g5 t0 t1 t2 t3 t4 t5
            obtain ⟨s0, s1, s2, s3, s4, s5⟩ := six_of_block HPT.out
            refine bodyPost_ret (v := .tuple #[.agg zv.toArray, .int .i64 c]) (by simp [results, Tryz.results25, go_sem, zv, s0, s1, s2, s3, s4, s5] <;> rfl) rfl ⟨_, c, rfl, HBL.out, .inl ⟨HC0.out, rfl⟩⟩
        · have hq : (c != 0) = true := by rw [bne_iff_ne]; exact hc0
          have hq2 : (c == 0) = false := by rw [beq_eq_false_iff_ne]; exact hc0
          have HC0 := Lib.hid hc0
          have HI3 := Lib.hid (HI2.out.on ((Below.refl _ w2).alloc (Nat.le_refl _) (box6 ((setV X l Y).getD V.nil) da dc dk dkc)))
          unfold box6 at HI3
          have hz2 := HI2.out.size
          clear hc0 hc hd hd2 hb2 HI1 HI2 C41 C5 C6 x0 x1 x2 x3 x4 x5 y0 y1 y2 y3 y4 y5
          generalize (setV X l Y).getD V.nil = Z at *
          have hb0 := HI3.out.b0
          unfold box0 at hb0
          obtain ⟨g0, g1, g2, g3, g4, g5⟩ := six_open hb0
          obtain ⟨t0, t1, t2, t3, t4, t5⟩ := six_of_block hb0
          have HPT := Lib.hid (put6_at (a := .int .i64 0) (b := .bool false) (c := .int .i64 0) (d := .string ⟨#[]⟩) (e := .slice none 0 0) (f := .slice none 0 0) rfl hb0)
          have HBL := Lib.hid (HI3.out.zero (a := .int .i64 0) (b := .bool false) (c := .int .i64 0) (d := .string ⟨#[]⟩) (e := .slice none 0 0) (f := .slice none 0 0))
          unfold put6 at HPT HBL
          clear hb0
          go_wp2_with fail
          generalize hwf : World.setCell _ _ _ = wf at HPT HBL ⊢
          clear hwf g0 g1 g2 g3 g4 g5 t0 t1 t2 t3 t4 t5
          obtain ⟨s0, s1, s2, s3, s4, s5⟩ := six_of_block HPT.out
          refine bodyPost_ret (v := .tuple #[.agg zv.toArray, .int .i64 c]) (by simp [results, Tryz.results25, go_sem, zv, s0, s1, s2, s3, s4, s5] <;> rfl) rfl ⟨_, c, rfl, HBL.out, .inl ⟨HC0.out, rfl⟩⟩
end Go.Proofs.YtekknckdeedjnaaGreatDoor
