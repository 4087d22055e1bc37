/- conf.Apply: a difference applied. Conditions: as stated; the cell of MaxLen. -/
import Derived.Test.YtekknckdeedjnaaGreatDoorMdD
import Derived.Test.YtekknckdeedjnaaGreatDoorMdE
import Derived.Test.YtekknckdeedjnaaGreatDoorKeY
namespace Go.Proofs.YtekknckdeedjnaaGreatDoor
open Go.RowKit Mh
set_option linter.unusedVariables false

/-- What Apply asks of a change. -/
structure _root_.Mh.Op.fit (o : Mh.Op) : Prop where
  ok : o.ok
  deep : o.path.length ≤ 8
  gone : o.val = none → o.path ≠ []
  val : ∀ y, o.val = some y → y.okc
theorem op_fine {o : Mh.Op} (h : o.fit) : o.chg.fine (o.path.map kst) := by
  refine ⟨route_steps o.path h.ok.1 (by have := h.deep; omega), ?_, ?_⟩
  · show (o.val.getD V.nil).okc
    cases hv : o.val with
    | none => exact nil_okc
    | some y => exact h.val y hv
  · intro hg
    have hn : o.val = none := by
      have : o.val.isNone = true := hg
      simpa using this
    refine ⟨by show o.val.getD V.nil = V.nil; rw [hn]; rfl, ?_⟩
    have := h.gone hn
    simpa using this
def apS (w : World) (k : Nat) : Bool := decide (k = w.heap.size ∨ k = w.heap.size + 1)
structure ApIn (a b : V) (ops : List Mh.Op) (w wr : World) (j : Nat) (Y : V) (ya : Option Addr) (yc : Nat) (yk : Option Addr) (ykc : Nat) : Prop where
  le : j ≤ ops.length
  rest : appAll Y (ops.drop j) = some b
  good : Y.good
  nodes : Y.nodes + wsum (ops.drop j) ≤ 4000
  at_ : VAt (veil (apS w) wr) Y (vcs Y ya yc yk ykc)
  bx : wr.heap[w.heap.size]? = some (box6 Y ya yc yk ykc)
  b0 : wr.heap[w.heap.size + 1]? = some box0
  below : Below w.heap.size w wr
  size : w.heap.size + 2 ≤ wr.heap.size
theorem ApIn.on {a b : V} {ops : List Mh.Op} {w wr w2 : World} {j : Nat} {Y : V} {ya yk : Option Addr} {yc ykc : Nat} (h : ApIn a b ops w wr j Y ya yc yk ykc) (hb : Below wr.heap.size wr w2) : ApIn a b ops w w2 j Y ya yc yk ykc := by
  have hz := h.size
  exact ⟨h.le, h.rest, h.good, h.nodes, h.at_.keeps (Keeps.belows hb), (hb.block _ (by omega)).trans h.bx, (hb.block _ (by omega)).trans h.b0, h.below.trans (hb.mono h.below.size), Nat.le_trans hz hb.size⟩
theorem ApIn.step {a b : V} {ops : List Mh.Op} {w wr : World} {j : Nat} {Y : V} {ya yk : Option Addr} {yc ykc : Nat} (h : ApIn a b ops w wr j Y ya yc yk ykc) (hj : j < ops.length) (hok : ops[j].ok) :
    ∃ Z, app1 Y ops[j].path ops[j].val = some Z ∧ ∀ (w2 : World) (za zk : Option Addr) (zc zkc : Nat), Below wr.heap.size wr w2 → VAt (veil (apS w) w2) Z (vcs Z za zc zk zkc) →
      ApIn a b ops w (put6 w2 w.heap.size (.int .i64 Z.kd) (.bool Z.bo) (.int .i64 Z.nu) (.string Z.tx) (.slice za Z.its.length zc) (.slice zk Z.kys.length zkc)) (j + 1) Z za zc zk zkc := by
  have hr := h.rest
  rw [List.drop_eq_getElem_cons hj] at hr
  simp only [appAll] at hr
  cases ha : app1 Y ops[j].path ops[j].val with
  | none => rw [ha] at hr; cases hr
  | some Z =>
    rw [ha, Option.bind_some] at hr
    refine ⟨Z, rfl, fun w2 za zk zc zkc hb hZ => ?_⟩
    have hz := h.size
    have h2 := h.on hb
    have hg := app1_good _ _ _ _ h.good hok.1 hok.2 ha
    have hn : Z.nodes ≤ Y.nodes + ops[j].w := by
      refine Nat.le_trans (app1_nodes _ _ _ _ h.good ha) (Nat.add_le_add_left ?_ _)
      unfold Mh.Op.w
      cases ops[j].val with
      | none => exact Nat.zero_le _
      | some y => exact Nat.le_refl _
    have hw : wsum (ops.drop j) = ops[j].w + wsum (ops.drop (j + 1)) := by rw [List.drop_eq_getElem_cons hj]; unfold wsum; rw [List.map_cons, List.sum_cons]
    have hnn := h.nodes
    refine ⟨hj, hr, hg, ?_, hZ.keeps (Keeps.veils (by rw [put6_size]; exact Nat.le_refl _) fun q hq hs => ⟨hs, put6_other (by simp [apS] at hs; omega)⟩), put6_at rfl h2.bx, ?_, put6_below h2.below (Nat.le_refl _), by rw [put6_size]; exact h2.size⟩
    · omega
    · rw [put6_other (by omega)]; exact h2.b0
set_option maxRecDepth 100000 in
set_option maxHeartbeats 16000000 in
theorem apply_any (a b : V) (ops : List Mh.Op) (cs : List Value) (v : Value) (w : World) (m : Int) (hm : w.cell? ⟨1, 0, none⟩ = some (.int .i64 m)) (hX : VAt w a cs) (hc : ChsAt w v (ops.map Mh.Op.chg)) (ha : a.okc) (hb : b.okc) (hops : ∀ o ∈ ops, o.fit)
    (hall : appAll a ops = some b) (hsum : a.nodes + wsum ops ≤ 4000) :
    Calls Tryz.prog 8 #[.agg cs.toArray, v] w fun e w' => ∃ ds : List Value, e = .returned (.tuple #[.agg ds.toArray, .int .i64 0]) ∧ VAt w' b ds ∧ Below w.heap.size w w' := by
  have HML : Hid (∀ w', Below w.heap.size w w' → w'.cell? ⟨1, 0, none⟩ = some (.int .i64 m)) := fun w' hb => (hb.cell (World.block_lt_of_cell? w _ hm)).trans hm
  have C1 := Lib.hid (fun w' (hb : Below w.heap.size w w') => check_any a (by have := ha.nodes; omega) cs w' (hX.keep hb))
  have HXC := Lib.hid hX
  obtain ⟨xa, xc, xk, xkc, rfl, _⟩ := hX.opened
  obtain ⟨ao, ac, rfl, hlm, hch⟩ := hc.change
  have HC : Hid (∀ k (h : k < ops.length), ∃ b off ia ic ka kc, ao = some ⟨b, off, none⟩ ∧ b < w.heap.size ∧ ChIn w ops[k].chg ia ic ka kc ∧ ∀ q (hq : q < 8), w.cell? ⟨b, off + k * 8 + q, none⟩ = some ((chc ops[k].chg ia ic ka kc)[q]'hq)) := fun k h => by
    obtain ⟨b, off, ia, ic, ka, kc, h1, h2, h3, h4⟩ := hch k (by simpa using h)
    have e : (ops.map Mh.Op.chg)[k]'(by simpa using h) = ops[k].chg := by simp
    refine ⟨b, off, ia, ic, ka, kc, h1, h2, by rw [← e]; exact h3, fun q hq => ?_⟩
    rw [h4 q hq]
    simp only [e]
    try rfl
  have hlen : (ops.map Mh.Op.chg).length = ops.length := List.length_map _
  rw [hlen] at hlm ⊢
  clear hlen
  have HOPS := Lib.hid hops
  have HA := Lib.hid ha
  have HBO := Lib.hid hb
  have HALL := Lib.hid hall
  have HSUM := Lib.hid hsum
  rw [vcs_arr] at C1
  rw [vcs_arr]
  have HB0 : Hid (Below w.heap.size w ((w.alloc (box6 a xa xc xk xkc)).alloc box0)) := ((Below.refl w.heap.size w).alloc (Nat.le_refl _) _).alloc (by simp) _
  have HX0 : Hid (((w.alloc (box6 a xa xc xk xkc)).alloc box0).heap[w.heap.size]? = some (box6 a xa xc xk xkc)) := (heap_alloc_old _ _ (by simp)).trans (heap_alloc_new _ _)
  have HZ0 : Hid (((w.alloc (box6 a xa xc xk xkc)).alloc box0).heap[w.heap.size + 1]? = some box0) := heap_new_at (by simp)
  unfold box6 box0 at HB0 HX0 HZ0
  unfold maxLen at hlm
  clear hch hops ha hb hall hsum hX hc hm
  go_enter Tryz.func8, Tryz.ntmps8
  go_wp2_with fail
  refine (C1.out _ HB0.out).mono ?_
  rintro e w1 ⟨c, rfl, hc, hb1⟩
  obtain rfl : c = 0 := hc.2 HA.out
  have hz1 : w.heap.size + 2 ≤ w1.heap.size := by have := hb1.size; simp at this; omega
  have HB1 : Hid (Below w.heap.size w w1) := HB0.out.trans (hb1.mono (by simp <;> omega))
  have HX1 := Lib.hid ((hb1.block _ (by simp <;> omega)).trans HX0.out)
  have HZ1 := Lib.hid ((hb1.block _ (by simp <;> omega)).trans HZ0.out)
  clear hc hb1 HB0 HX0 HZ0 C1
  go_wp2_with fail
  go_loopw [24] (fun i wr => ∃ j : Nat, i = .int .i64 j ∧ Hid (j ≤ ops.length ∧ Below w1.heap.size w1 wr)) (fun i _ => ops.length - (intOf i).toNat)
  case atStart => exact ⟨0, rfl, ⟨Nat.zero_le _, Below.refl _ _⟩⟩
  case round =>
    obtain ⟨j, rfl, HJ⟩ := hrel
    have hjl := HJ.out.1
    have hzr := HJ.out.2.size
    by_cases hj : j < ops.length
    · have HBW : Hid (Below w.heap.size w wr) := HB1.out.trans (HJ.out.2.mono HB1.out.size)
      obtain ⟨bb, off, ia, ic, ka, kc, rfl, hlt, hcd, hcl⟩ := HC.out j hj
      obtain ⟨y0, y1, y2, y3, y4, y5, y6, y7⟩ := eight_later HBW.out hlt hcl
      have hfin := op_fine (HOPS.out ops[j] (List.getElem_mem hj))
      have hB2 : Below wr.heap.size wr (wr.alloc (box8 ops[j].chg ia ic ka kc)) := (Below.refl _ wr).alloc (Nat.le_refl _) _
      have HB2 := Lib.hid (HJ.out.2.trans (hB2.mono HJ.out.2.size))
      have HBW2 := Lib.hid (HBW.out.trans (hB2.mono HBW.out.size))
      have CF := Lib.hid (chFault_ok ops[j].chg _ ia ka ic kc _ m (HML.out _ HBW2.out) (hcd.keeps (Keeps.below HBW2.out)) hfin)
      rw [chc_arr] at CF
      clear hlt hcd hcl hB2 hfin HC HBW HOPS
      generalize ops[j].chg = c at *
      unfold box8 at HB2 HBW2 CF
      go_wp2_with fail
      refine CF.out.mono ?_
      rintro e w3 ⟨rfl, hb3⟩
      have HJ2 : Hid (j + 1 ≤ ops.length ∧ Below w1.heap.size w1 w3) := ⟨hj, HB2.out.trans (hb3.mono HB2.out.size)⟩
      clear hb3 HB2 HBW2 CF y0 y1 y2 y3 y4 y5 y6 y7
      go_wp2_with fail
      go_roundw
      case rel => exact ⟨j + 1, by go_num, HJ2⟩
      case measure => simp [intOf]; omega
    · obtain rfl : j = ops.length := by omega
      have HB2 : Hid (Below w.heap.size w wr) := HB1.out.trans (HJ.out.2.mono HB1.out.size)
      have HI0 : Hid (ApIn a b ops w wr 0 a xa xc xk xkc) := by
        refine ⟨Nat.zero_le _, HALL.out, HA.out.2.2, HSUM.out, HXC.out.keeps (Keeps.veil HB2.out.size fun k hk => ⟨by simp [apS]; omega, HB2.out.block k hk⟩), (HJ.out.2.block _ (by omega)).trans HX1.out, (HJ.out.2.block _ (by omega)).trans HZ1.out, HB2.out, by omega⟩
      clear HJ HX1 HZ1 HB1 HXC HB2 HALL HSUM HA
      obtain ⟨wo, rfl⟩ : ∃ wo : World, wo = wr := ⟨_, rfl⟩
      go_wp2_with fail
      go_loopw [37] (fun i wr => ∃ (j : Nat) (Y : V) (ya : Option Addr) (yc : Nat) (yk : Option Addr) (ykc : Nat), i = .int .i64 j ∧ Hid (ApIn a b ops w wr j Y ya yc yk ykc)) (fun i _ => ops.length - (intOf i).toNat)
      case atStart => exact ⟨0, a, xa, xc, xk, xkc, rfl, HI0⟩
      case round =>
        clear HI0
        obtain ⟨j, Y, ya, yc, yk, ykc, rfl, HI⟩ := hrel
        have hle := HI.out.le
        have hz := HI.out.size
        by_cases hj : j < ops.length
        · obtain ⟨bb, off, ia, ic, ka, kc, rfl, hlt, hcd, hcl⟩ := HC.out j hj
          obtain ⟨y0, y1, y2, y3, y4, y5, y6, y7⟩ := eight_later HI.out.below hlt hcl
          have HFIT := Lib.hid (HOPS.out ops[j] (List.getElem_mem hj))
          obtain ⟨Z, hZ, hstep⟩ := HI.out.step hj HFIT.out.ok
          have HSTEP := Lib.hid hstep
          have HZ := Lib.hid hZ
          have HCD := Lib.hid hcd
          generalize ops[j] = o at *
          have hB2 : Below wr.heap.size wr (wr.alloc (box8 o.chg ia ic ka kc)) := (Below.refl _ wr).alloc (Nat.le_refl _) _
          have HB2 := Lib.hid hB2
          have HI2 := Lib.hid (HI.out.on hB2)
          have HX2 : Hid ((wr.alloc (box8 o.chg ia ic ka kc)).heap[wr.heap.size]? = some (box8 o.chg ia ic ka kc)) := heap_alloc_new _ _
          have CS := Lib.hid (steps_any o.chg.route _ m (HML.out _ HI2.out.below) hcd.rt)
          have hstp := (op_fine HFIT.out).steps
          rw [hstp] at CS
          simp only [Option.isSome_some, Option.getD_some] at CS
          unfold box8 at HB2 HI2 HX2 CS
          clear hlt hcl hB2 hstep hZ hcd hstp HC HOPS
          obtain ⟨p, val⟩ := o
          go_wp2_with fail
          refine CS.out.mono ?_
          rintro e w3 ⟨sv, rfl, hv, hb3⟩
          have HV := Lib.hid hv
          obtain ⟨la, lc, rfl, -, -⟩ := hv.item
          have hz3 : wr.heap.size + 1 ≤ w3.heap.size := by have := hb3.size; simp at this; omega
          have HB3 : Hid (Below wr.heap.size wr w3) := HB2.out.trans (hb3.mono (by simp))
          have HI3 := Lib.hid (HI2.out.on hb3)
          have HX3 := Lib.hid ((hb3.block _ (by simp)).trans HX2.out)
          clear hv hb3 HI2 HX2 HB2 CS y0 y1 y2 y3 y4 y5 y6 y7 HI
          obtain ⟨y0, y1, y2, y3, y4, y5, y6, y7⟩ := eight_of_block HX3.out
          have hbx := HI3.out.bx
          unfold box6 at hbx
          obtain ⟨x0, x1, x2, x3, x4, x5⟩ := six_of_block hbx
          have HSF : Hid (∀ k, w3.heap.size ≤ k → apS w k = false) := fun k hk => by simp [apS]; omega
          have hvl := HV.out
          rw [show (List.map kst p).length = p.length from List.length_map _] at hvl
          have HVL := Lib.hid hvl
          clear hvl HV
          cases val with
          | none =>
            have hne : p ≠ [] := HFIT.out.gone rfl
            have CR := Lib.hid (rem_any p hne (by have := HFIT.out.deep; simp only at this; omega) HFIT.out.ok.1 Y Z HI3.out.good (by have := HI3.out.nodes; omega) HZ.out (apS w) _ _ w3 HSF.out HI3.out.at_ HVL.out)
            have z7 : w3.cell? ⟨wr.heap.size, 7, none⟩ = some (.bool true) := y7
            rw [vcs_arr] at CR
            clear hbx hne y7
            go_wp2_with fail
            refine CR.out.mono ?_
            rintro e w4 ⟨ds, rfl, hb4, hat4⟩
            clear x0 x1 x2 x3 x4 x5
            obtain ⟨za, zc, zk, zkc, rfl, _⟩ := hat4.opened
            have HI4 := Lib.hid (HI3.out.on hb4)
            have HIN := Lib.hid (HSTEP.out w4 za zk zc zkc (HB3.out.trans (hb4.mono HB3.out.size)) hat4)
            rw [vcs_arr]
            have hbx := HI4.out.bx
            unfold box6 at hbx HIN
            unfold put6 at HIN
            obtain ⟨g0, g1, g2, g3, g4, g5⟩ := six_open hbx
            obtain ⟨x0, x1, x2, x3, x4, x5⟩ := six_of_block hbx
            clear hbx hb4 hat4 HI3 HI4 HSTEP HB3 HX3 y0 y1 y2 y3 y4 y5 y6 z7 CR
            go_wp2_with fail
            generalize hwf : World.setCell _ _ _ = wf at HIN ⊢
            clear hwf g0 g1 g2 g3 g4 g5 x0 x1 x2 x3 x4 x5
            go_roundw
            case rel => exact ⟨j + 1, Z, za, zc, zk, zkc, by go_num, HIN⟩
            case measure => simp [intOf]; omega
          | some y =>
            have hset := set_app1 p Y Z y HFIT.out.ok.1 HZ.out
            have hkz : ∀ s ∈ p.map kst, s.key.size ≤ maxLen := fun s hs => by
              obtain ⟨k, hk, rfl⟩ := List.mem_map.1 hs
              have := (key_facts (HFIT.out.ok.1 k hk)).2.1
              have e : k.data.toList.length = k.size := by simp
              show k.size ≤ maxLen
              unfold maxLen; omega
            have hyv : VAt (veil (apS w) w3) y (vcs y ia ic ka kc) := HCD.out.dv.keeps (Keeps.veil HI3.out.below.size fun k hk => ⟨by simp [apS]; omega, HI3.out.below.block k hk⟩)
            have CT := Lib.hid (set_any (p.map kst) (by have := HFIT.out.deep; simp at this ⊢; omega) hkz (apS w) Y y _ _ _ w3 HSF.out HI3.out.at_ hyv HVL.out ⟨HI3.out.good, by have := HI3.out.nodes; omega⟩)
            unfold SetOk at CT
            rw [hset] at CT
            simp only [Option.isSome_some, iff_true, Option.getD_some] at CT
            have z7 : w3.cell? ⟨wr.heap.size, 7, none⟩ = some (.bool false) := y7
            have z1 : w3.cell? ⟨wr.heap.size, 1, none⟩ = some (.int .i64 y.kd) := y1
            have z2 : w3.cell? ⟨wr.heap.size, 2, none⟩ = some (.bool y.bo) := y2
            have z3 : w3.cell? ⟨wr.heap.size, 3, none⟩ = some (.int .i64 y.nu) := y3
            have z4 : w3.cell? ⟨wr.heap.size, 4, none⟩ = some (.string y.tx) := y4
            have z5 : w3.cell? ⟨wr.heap.size, 5, none⟩ = some (.slice ia y.its.length ic) := y5
            have z6 : w3.cell? ⟨wr.heap.size, 6, none⟩ = some (.slice ka y.kys.length kc) := y6
            rw [vcs_arr, vcs_arr] at CT
            clear hbx y1 y2 y3 y4 y5 y6 y7 hset hkz hyv
            go_wp2_with fail
            refine CT.out.mono ?_
            rintro e w4 ⟨ds, c, rfl, hb4, rfl, hat4⟩
            clear x0 x1 x2 x3 x4 x5
            obtain ⟨za, zc, zk, zkc, rfl, _⟩ := hat4.opened
            have HI4 := Lib.hid (HI3.out.on hb4)
            have HIN := Lib.hid (HSTEP.out w4 za zk zc zkc (HB3.out.trans (hb4.mono HB3.out.size)) hat4)
            rw [vcs_arr]
            have hbx := HI4.out.bx
            unfold box6 at hbx HIN
            unfold put6 at HIN
            obtain ⟨g0, g1, g2, g3, g4, g5⟩ := six_open hbx
            obtain ⟨x0, x1, x2, x3, x4, x5⟩ := six_of_block hbx
            clear hbx hb4 hat4 HI3 HI4 HSTEP HB3 HX3 y0 z1 z2 z3 z4 z5 z6 z7 CT
            go_wp2_with fail
            generalize hwf : World.setCell _ _ _ = wf at HIN ⊢
            clear hwf g0 g1 g2 g3 g4 g5 x0 x1 x2 x3 x4 x5
            go_roundw
            case rel => exact ⟨j + 1, Z, za, zc, zk, zkc, by go_num, HIN⟩
            case measure => simp [intOf]; omega
        · obtain rfl : j = ops.length := by omega
          have hYb : Y = b := by have := HI.out.rest; rw [List.drop_length] at this; exact Option.some.inj this
          subst hYb
          have C2 := Lib.hid (check_any Y (by have := HBO.out.nodes; omega) _ wr (HI.out.at_.keeps (Keeps.bare _ _)))
          have CL := Lib.hid (fun w' (hb : Below wr.heap.size wr w') => clone_any _ Y (Nat.lt_succ_self _) HBO.out.mid _ w' ((HI.out.at_.keeps (Keeps.bare _ _)).keep hb))
          have hbx := HI.out.bx
          unfold box6 at hbx
          obtain ⟨x0, x1, x2, x3, x4, x5⟩ := six_of_block hbx
          rw [vcs_arr] at C2 CL
          clear HC HOPS HML hbx
          go_wp2_with fail
          refine C2.out.mono ?_
          rintro e w4 ⟨c, rfl, hc, hb4⟩
          obtain rfl : c = 0 := hc.2 HBO.out
          have HI4 := Lib.hid (HI.out.on hb4)
          have CL4 := Lib.hid (CL.out w4 hb4)
          have hbx := HI4.out.bx
          unfold box6 at hbx
          clear hc hb4 x0 x1 x2 x3 x4 x5 C2 CL HI
          obtain ⟨x0, x1, x2, x3, x4, x5⟩ := six_of_block hbx
          clear hbx
          go_wp2_with fail
          refine CL4.out.mono ?_
          rintro e w5 ⟨es, rfl, hes, hb5⟩
          obtain ⟨ea, ec, ek, ekc, rfl, _⟩ := hes.opened
          have HI5 := Lib.hid (HI4.out.on hb5)
          have hz4 := HI4.out.size
          rw [vcs_arr]
          have hb0 := HI5.out.b0
          unfold box0 at hb0
          obtain ⟨g0, g1, g2, g3, g4, g5⟩ := six_open hb0
          obtain ⟨t0, t1, t2, t3, t4, t5⟩ := six_of_block hb0
          have HPT := Lib.hid (put6_at (a := .int .i64 Y.kd) (b := .bool Y.bo) (c := .int .i64 Y.nu) (d := .string Y.tx) (e := .slice ea Y.its.length ec) (f := .slice ek Y.kys.length ekc) rfl hb0)
          have HBL := Lib.hid (put6_below (a := .int .i64 Y.kd) (b := .bool Y.bo) (c := .int .i64 Y.nu) (d := .string Y.tx) (e := .slice ea Y.its.length ec) (f := .slice ek Y.kys.length ekc) HI5.out.below (show w.heap.size ≤ w.heap.size + 1 by omega))
          have HAT : Hid (VAt (put6 w5 (w.heap.size + 1) (.int .i64 Y.kd) (.bool Y.bo) (.int .i64 Y.nu) (.string Y.tx) (.slice ea Y.its.length ec) (.slice ek Y.kys.length ekc)) Y (vcs Y ea ec ek ekc)) :=
            (hes.keeps (Keeps.veils (S' := fun _ => false) (by rw [put6_size]; exact Nat.le_refl _) fun k hk hs => ⟨rfl, put6_other (by simp at hs; omega)⟩)).keeps (Keeps.bare _ _)
          unfold put6 at HPT HBL HAT
          clear hb0 hes hb5 x0 x1 x2 x3 x4 x5 HI5 HI4 CL4
          go_wp2_with fail
          generalize hwf : World.setCell _ _ _ = wf at HPT HBL HAT ⊢
          clear hwf g0 g1 g2 g3 g4 g5 t0 t1 t2 t3 t4 t5
          obtain ⟨s0, s1, s2, s3, s4, s5⟩ := six_of_block HPT.out
          refine bodyPost_ret (v := .tuple #[.agg (vcs Y ea ec ek ekc).toArray, .int .i64 0]) (by simp [results, Tryz.results8, go_sem, vcs, s0, s1, s2, s3, s4, s5] <;> rfl) rfl ⟨_, rfl, HAT.out, HBL.out⟩
end Go.Proofs.YtekknckdeedjnaaGreatDoor
