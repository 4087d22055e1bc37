/- conf.SchemaValue: it writes a right schema as a value. Conditions: how many values the defaults have and how many strings; the cells of MaxLen and kindNames. -/
import Derived.Test.YtejnoedlfbglcaaGreatDoorScB
import Derived.Deep.CutRange
namespace Go.Proofs.YtejnoedlfbglcaaGreatDoor
open Go.RowKit Mh
set_option linter.unusedVariables false

/-- What SchemaValue returns. -/
def SvRes (fs : List Mh.Fd) (sb : Bool) (w : World) (e : Ending) (w' : World) : Prop :=
  ∃ (c : Int) (ds : List Value), e = .returned (.tuple #[.agg ds.toArray, .int .i64 c]) ∧ Below w.heap.size w w' ∧ ((c ≠ 0 ∧ ds = zv) ∨ (c = 0 ∧ fdsOk fs ∧ (schemaV fs sb).okc ∧ VAt w' (schemaV fs sb) ds)) ∧ (fdsOk fs → (schemaV fs sb).okc → c = 0)
set_option maxRecDepth 100000 in
set_option maxHeartbeats 16000000 in
theorem schemaValue_any (fs : List Mh.Fd) (fv : Value) (sb : Bool) (w : World) (m : Int) (hm : w.cell? ⟨1, 0, none⟩ = some (.int .i64 m)) (hK : KNames w) (hF : FsAt w fv fs) (hn : ∀ f ∈ fs, f.dv.nodes ≤ 2097152 ∧ f.one.length ≤ 2097152) :
    Calls Tryz.prog 8 #[.agg #[fv, .bool sb]] w (SvRes fs sb w) := by
  have C1 := Lib.hid (fun w' (hb : Below w.heap.size w w') => checkSchema_any fs fv sb w' m ((hb.cell (World.block_lt_of_cell? w _ hm)).trans hm) (hF.keep hb) (fun f hf => by have := (hn f hf).1; omega))
  have HKN : Hid (∀ w', Below w.heap.size w w' → KNames w') := fun w' hb => hK.keep hb
  have HN := Lib.hid hn
  have HNN := Lib.hid hn
  obtain ⟨ao, ac, rfl, hlm, hfield⟩ := hF.field
  have HC := Lib.hid hfield
  have HB0 : Hid (Below w.heap.size w ((w.alloc (.cells #[.slice ao fs.length ac, .bool sb] 24)).alloc box0)) := ((Below.refl w.heap.size w).alloc (Nat.le_refl _) _).alloc (by simp) _
  have HS0 : Hid (((w.alloc (.cells #[.slice ao fs.length ac, .bool sb] 24)).alloc box0).heap[w.heap.size]? = some (.cells #[.slice ao fs.length ac, .bool sb] 24)) := (heap_alloc_old _ _ (by simp)).trans (heap_alloc_new _ _)
  have HZ0 : Hid (((w.alloc (.cells #[.slice ao fs.length ac, .bool sb] 24)).alloc box0).heap[w.heap.size + 1]? = some box0) := heap_new_at (by simp)
  unfold maxLen at hlm
  unfold box0 at HB0 HS0 HZ0
  clear hF hm hK hn hfield
  go_enter Tryz.func8, Tryz.ntmps8
  go_wp2_with fail
  refine (C1.out _ HB0.out).mono ?_
  rintro e w1 ⟨c, rfl, hc, hb1⟩
  have HS1 := Lib.hid ((hb1.block _ (by simp <;> omega)).trans HS0.out)
  have HZ1 := Lib.hid ((hb1.block _ (by simp)).trans HZ0.out)
  have HB1 : Hid (Below w.heap.size w w1) := HB0.out.trans (hb1.mono (by simp <;> omega))
  have hz1 : w.heap.size + 2 ≤ w1.heap.size := by have := hb1.size; simp at this; omega
  clear hb1 HS0 HZ0 HB0 C1
  by_cases hc0 : c = 0
  · subst hc0
    have HFO : Hid (fdsOk fs) := hc.1 rfl
    have h100 := HFO.out.1
    have HI0 : Hid (SvIn fs ao ac sb w w1.heap.size (w1.alloc (.cells #[.int .i64 5, .bool false, .int .i64 0, .string ⟨#[]⟩, .slice none 0 0, .slice none 0 0] 29)) 0 (.slice none 0 0) []) :=
      ⟨Nat.zero_le _, World.ownsRow_nil _ _ _ _, by simp [VsAt], (heap_alloc_old _ _ (by omega)).trans HS1.out, (heap_alloc_old _ _ (by omega)).trans HZ1.out, heap_alloc_new _ _, HB1.out.alloc (by omega) _, hz1, by simp⟩
    have HMS : Hid (w1.cell? ⟨w.heap.size, 0, none⟩ = some (.slice ao fs.length ac)) := cellT HS1.out rfl
    obtain ⟨F, hF⟩ : ∃ F, F = w1.heap.size := ⟨_, rfl⟩
    have q0 : (w1.alloc (.cells #[.int .i64 5, .bool false, .int .i64 0, .string ⟨#[]⟩, .slice none 0 0, .slice none 0 0] 29)).cell? ⟨w.heap.size, 0, none⟩ = some (.slice ao fs.length ac) := cellT HI0.out.bs rfl
    obtain ⟨vi, hvi, hv0, hv1, hv2⟩ := info_parts infoValue
    clear hc HS1 HZ1 HB1
    go_wp2_with fail
    go_loopw [24] (fun i wr => ∃ (j : Nat) (v : Value) (rows : List Value), i = .int .i64 j ∧ Hid (SvIn fs ao ac sb w w1.heap.size wr j v rows)) (fun i _ => fs.length - (intOf i).toNat)
    case atStart => exact ⟨0, _, [], rfl, HI0⟩
    case round =>
      clear HI0 q0 HMS
      rw [← hF] at hrel ⊢
      clear hF
      obtain ⟨j, v, rows, rfl, HI⟩ := hrel
      obtain ⟨va, vc, rfl⟩ := ownsRow_form HI.out.own
      have hle := HI.out.le
      by_cases hj : j < fs.length
      · obtain ⟨bb, off, oa, oc, ia, ic, ka, kc, rfl, hlt, hfd, hcl⟩ := HC.out j hj
        obtain ⟨y0, y1, y2, y3, y4, y5, y6, y7, y8, y9, y10, y11, y12⟩ := thirteen_later HI.out.below hlt hcl
        have HOK := Lib.hid (HFO.out.2 j hj).1
        have HNJ := Lib.hid (HN.out fs[j] (List.getElem_mem hj))
        have HJN : Hid (∀ (W w3 : World) (T : Nat) (v' : Value) (ds : List Value) (ob : Obj), Below wr.heap.size wr W → VAt (veil (rdS wr.heap.size T) W) (fieldV fs[j]) ds → wr.heap.size < T → w3.ownsRow (F + 1) 29 6 v' (j + 1) (rows ++ ds) → (W.alloc ob).grownBy w3 (Value.slice va j vc).ownBlock → (v'.ownBlock = (Value.slice va j vc).ownBlock ∨ v'.ownBlock = some (W.alloc ob).heap.size) → SvIn fs (some ⟨bb, off, none⟩) ac sb w F (w3.setCell ⟨F, 4, none⟩ v') (j + 1) v' (rows ++ ds)) :=
          fun W w3 T v' ds ob h1 h2 h3 h4 h5 h6 => HI.out.next hj h1 h2 h3 h4 h5 h6
        have HFD := Lib.hid hfd
        have HBW := Lib.hid HI.out.below
        generalize fs[j] = f at *
        have HKR : Hid (f.kind = -1 ∨ (0 ≤ f.kind ∧ f.kind ≤ 6)) := by obtain ⟨l, _, _, h, _⟩ := HOK.out; exact h
        have hrt := hfd.rt
        clear hlt hcl hfd HC HN HFO
        go_wp2_with fail
        refine (str_on f.route _).mono ?_
        rintro e wa ⟨rfl, hba⟩
        have HBA := Lib.hid hba
        have CPN : Hid (Calls Tryz.prog 17 #[.agg #[.int .i64 6, .bool false, .int .i64 0, .string ⟨#[]⟩, .slice none 0 0, .slice none 0 0], .string ⟨#[114, 111, 117, 116, 101]⟩, .agg #[.int .i64 3, .bool false, .int .i64 0, .string f.route, .slice none 0 0, .slice none 0 0]] wa fun e w' => ∃ (ya : Option Addr) (yc : Nat) (yk : Option Addr) (ykc : Nat),
            e = .returned (.agg #[.int .i64 (fv1 f).kd, .bool (fv1 f).bo, .int .i64 (fv1 f).nu, .string (fv1 f).tx, .slice ya (fv1 f).its.length yc, .slice yk (fv1 f).kys.length ykc]) ∧ Hid (VAt (veil (fun k => decide (k ≤ wr.heap.size)) w') (fv1 f) (vcs (fv1 f) ya yc yk ykc)) ∧ Hid (Below wa.heap.size wa w')) :=
          put_new (fun k => decide (k ≤ wr.heap.size)) (.mk 6 false 0 ⟨#[]⟩ [] []) (strV f.route) none 0 none 0 _ qRoute wa (fun k hk => by have := HBA.out.size; simp at this; simp; omega) (leaf_at 6 false 0 _ (by decide) (by decide) (Nat.zero_le _) _) (leaf_at 3 false 0 _ (by decide) (by decide) hrt _) fv0_top rfl (by decide)
        clear hba
        go_wp2_with fail
        refine CPN.out.mono ?_
        rintro e wb ⟨xa, xc, xk, xkc, rfl, hY, hbb⟩
        have HR : Hid (RdIn f oa oc ia ic ka kc wr wb.heap.size (wb.alloc (box6 (fv1 f) xa xc xk xkc)) (fv1 f) xa xc xk xkc) := RdIn.start (by unfold box13; rw [fcs_arr]; exact HBA.out.trans (hbb.out.mono HBA.out.size)) hY
        unfold box6 at HR
        clear hY hbb CPN HBA
        go_upto_region 9 with fail
        obtain ⟨T, hT⟩ : ∃ T, T = wb.heap.size := ⟨_, rfl⟩
        rw [← hT] at HR ⊢
        obtain ⟨W, hW⟩ : ∃ W, W = wb.alloc (.cells #[.int .i64 (fv1 f).kd, .bool (fv1 f).bo, .int .i64 (fv1 f).nu, .string (fv1 f).tx, .slice xa (fv1 f).its.length xc, .slice xk (fv1 f).kys.length xkc] 29) := ⟨_, rfl⟩
        rw [← hW] at HR ⊢
        clear hT hW wb wa
        go_cut [] from 33 to 38 (fun wx => ∃ (xa : Option Addr) (xc : Nat) (xk : Option Addr) (xkc : Nat), Hid (RdIn f oa oc ia ic ka kc wr T wx (fv2 f) xa xc xk xkc))
        case first =>
          have HT : Hid (∀ w', Hid (Below W.heap.size W w') → ((w'.cell? ⟨T, 0, none⟩ = some (.int .i64 (fv1 f).kd) ∧ w'.cell? ⟨T, 1, none⟩ = some (.bool (fv1 f).bo) ∧ w'.cell? ⟨T, 2, none⟩ = some (.int .i64 (fv1 f).nu) ∧ w'.cell? ⟨T, 3, none⟩ = some (.string (fv1 f).tx) ∧ w'.cell? ⟨T, 4, none⟩ = some (.slice xa (fv1 f).its.length xc) ∧ w'.cell? ⟨T, 5, none⟩ = some (.slice xk (fv1 f).kys.length xkc)) ∧ w'.frozen? ⟨T, 0, none⟩ = false ∧ w'.frozen? ⟨T, 1, none⟩ = false ∧ w'.frozen? ⟨T, 2, none⟩ = false ∧ w'.frozen? ⟨T, 3, none⟩ = false ∧ w'.frozen? ⟨T, 4, none⟩ = false ∧ w'.frozen? ⟨T, 5, none⟩ = false) ∧ w'.cell? ⟨wr.heap.size, 0, none⟩ = some (.string f.route) ∧ w'.cell? ⟨wr.heap.size, 1, none⟩ = some (.int .i64 f.kind) ∧ w'.cell? ⟨wr.heap.size, 2, none⟩ = some (.bool f.need) ∧ w'.cell? ⟨wr.heap.size, 3, none⟩ = some (.bool f.bnd) ∧ w'.cell? ⟨wr.heap.size, 4, none⟩ = some (.int .i64 f.mn) ∧ w'.cell? ⟨wr.heap.size, 5, none⟩ = some (.int .i64 f.mx) ∧ w'.cell? ⟨wr.heap.size, 6, none⟩ = some (.slice oa f.one.length oc) ∧ w'.cell? ⟨wr.heap.size, 7, none⟩ = some (.int .i64 f.dv.kd) ∧ w'.cell? ⟨wr.heap.size, 8, none⟩ = some (.bool f.dv.bo) ∧ w'.cell? ⟨wr.heap.size, 9, none⟩ = some (.int .i64 f.dv.nu) ∧ w'.cell? ⟨wr.heap.size, 10, none⟩ = some (.string f.dv.tx) ∧ w'.cell? ⟨wr.heap.size, 11, none⟩ = some (.slice ia f.dv.its.length ic) ∧ w'.cell? ⟨wr.heap.size, 12, none⟩ = some (.slice ka f.dv.kys.length kc)) := by
            intro w' h
            have g := HR.out.on h.out
            have hfb := g.fb
            unfold box13 at hfb
            rw [fcs_arr] at hfb
            exact ⟨g.cells, thirteen_of_block hfb⟩
          obtain ⟨⟨⟨r0, r1, r2, r3, r4, r5⟩, f0, f1, f2, f3, f4, f5⟩, z0, z1, z2, z3, z4, z5, z6, z7, z8, z9, z10, z11, z12⟩ := HT.out W (Below.refl _ _)
          have HQ0 : Hid (Below W.heap.size W W.drew) := (Below.refl _ _).drew
          have CN : Hid (∀ w0, Hid (Below W.heap.size W w0) → Calls Tryz.prog 19 #[.int .i64 f.kind] w0 fun e w' => e = .returned (.string (knameI f.kind)) ∧ Hid (Below W.heap.size W w') ∧ Hid (∀ X cs, VAt (veil (rdS wr.heap.size T) w0) X cs → VAt (veil (rdS wr.heap.size T) w') X cs)) := fun w0 h0 => calls_on h0.out (kindName_on f.kind HKR.out w0 (HKN.out w0 (HBW.out.trans ((HR.out.old.trans (h0.out.mono HR.out.old.size)).mono HBW.out.size))))
          have CS : Hid (∀ w0, Hid (Below W.heap.size W w0) → Calls Tryz.prog 18 #[.string (knameI f.kind)] w0 fun e w' => e = .returned (.agg #[.int .i64 3, .bool false, .int .i64 0, .string (knameI f.kind), .slice none 0 0, .slice none 0 0]) ∧ Hid (Below W.heap.size W w') ∧ Hid (∀ X cs, VAt (veil (rdS wr.heap.size T) w0) X cs → VAt (veil (rdS wr.heap.size T) w') X cs)) := fun w0 h0 => calls_on h0.out (str_on _ w0)
          have CP : Hid (∀ w0, Hid (Below W.heap.size W w0) → Calls Tryz.prog 17 #[.agg #[.int .i64 (fv1 f).kd, .bool (fv1 f).bo, .int .i64 (fv1 f).nu, .string (fv1 f).tx, .slice xa (fv1 f).its.length xc, .slice xk (fv1 f).kys.length xkc], .string ⟨#[107, 105, 110, 100]⟩, .agg #[.int .i64 3, .bool false, .int .i64 0, .string (knameI f.kind), .slice none 0 0, .slice none 0 0]] w0 fun e w' => ∃ (ya : Option Addr) (yc : Nat) (yk : Option Addr) (ykc : Nat), e = .returned (.agg #[.int .i64 (fv2 f).kd, .bool (fv2 f).bo, .int .i64 (fv2 f).nu, .string (fv2 f).tx, .slice ya (fv2 f).its.length yc, .slice yk (fv2 f).kys.length ykc]) ∧ Hid (RdIn f oa oc ia ic ka kc wr T (put6 w' T (.int .i64 (fv2 f).kd) (.bool (fv2 f).bo) (.int .i64 (fv2 f).nu) (.string (fv2 f).tx) (.slice ya (fv2 f).its.length yc) (.slice yk (fv2 f).kys.length ykc)) (fv2 f) ya yc yk ykc) ∧ (w'.cell? ⟨T, 0, none⟩ = some (.int .i64 (fv1 f).kd) ∧ w'.cell? ⟨T, 1, none⟩ = some (.bool (fv1 f).bo) ∧ w'.cell? ⟨T, 2, none⟩ = some (.int .i64 (fv1 f).nu) ∧ w'.cell? ⟨T, 3, none⟩ = some (.string (fv1 f).tx) ∧ w'.cell? ⟨T, 4, none⟩ = some (.slice xa (fv1 f).its.length xc) ∧ w'.cell? ⟨T, 5, none⟩ = some (.slice xk (fv1 f).kys.length xkc)) ∧ w'.frozen? ⟨T, 0, none⟩ = false ∧ w'.frozen? ⟨T, 1, none⟩ = false ∧ w'.frozen? ⟨T, 2, none⟩ = false ∧ w'.frozen? ⟨T, 3, none⟩ = false ∧ w'.frozen? ⟨T, 4, none⟩ = false ∧ w'.frozen? ⟨T, 5, none⟩ = false) := fun w0 h0 => put_on HR.out (fv_kd f).1 (fv1_top f) qKind (by decide) (strV (knameI f.kind)) _ w0 h0.out (leaf_at 3 false 0 _ (by decide) (by decide) (Nat.le_trans (knameI_le _ HKR.out) (by decide)) _)
          unfold put6 at CP
          clear HR HNJ HJN
          go_region_law (first | (go_simp; go_at_call 19; (with_reducible refine (CN.out _ (by assumption)).mono ?_); rintro e w' ⟨rfl, HQ, HV⟩; obtain ⟨⟨⟨r0, r1, r2, r3, r4, r5⟩, f0, f1, f2, f3, f4, f5⟩, z0, z1, z2, z3, z4, z5, z6, z7, z8, z9, z10, z11, z12⟩ := HT.out _ HQ) | (go_simp; go_at_call 18; (with_reducible refine (CS.out _ (by assumption)).mono ?_); rintro e w' ⟨rfl, HQ, HV⟩; obtain ⟨⟨⟨r0, r1, r2, r3, r4, r5⟩, f0, f1, f2, f3, f4, f5⟩, z0, z1, z2, z3, z4, z5, z6, z7, z8, z9, z10, z11, z12⟩ := HT.out _ HQ) | (go_simp; go_at_call 17; (with_reducible refine (CP.out _ (by assumption)).mono ?_); rintro e w' ⟨ya, yc, yk, ykc, rfl, HP, ⟨r0, r1, r2, r3, r4, r5⟩, f0, f1, f2, f3, f4, f5⟩))
          all_goals
            clear HT CP
            go_wp2_with fail
            go_meet
            exact ⟨ya, yc, yk, ykc, HP⟩
        case rest =>
        clear HR
        obtain ⟨xa, xc, xk, xkc, HR⟩ := hcut
        obtain ⟨W, hW⟩ : ∃ W, W = wc := ⟨_, rfl⟩
        rw [← hW] at HR ⊢
        clear hW wc
        go_upto_region 10 with fail
        go_cut [] from 39 to 43 (fun wx => ∃ (xa : Option Addr) (xc : Nat) (xk : Option Addr) (xkc : Nat), Hid (RdIn f oa oc ia ic ka kc wr T wx (fv3 f) xa xc xk xkc))
        case first =>
          have HT : Hid (∀ w', Hid (Below W.heap.size W w') → ((w'.cell? ⟨T, 0, none⟩ = some (.int .i64 (fv2 f).kd) ∧ w'.cell? ⟨T, 1, none⟩ = some (.bool (fv2 f).bo) ∧ w'.cell? ⟨T, 2, none⟩ = some (.int .i64 (fv2 f).nu) ∧ w'.cell? ⟨T, 3, none⟩ = some (.string (fv2 f).tx) ∧ w'.cell? ⟨T, 4, none⟩ = some (.slice xa (fv2 f).its.length xc) ∧ w'.cell? ⟨T, 5, none⟩ = some (.slice xk (fv2 f).kys.length xkc)) ∧ w'.frozen? ⟨T, 0, none⟩ = false ∧ w'.frozen? ⟨T, 1, none⟩ = false ∧ w'.frozen? ⟨T, 2, none⟩ = false ∧ w'.frozen? ⟨T, 3, none⟩ = false ∧ w'.frozen? ⟨T, 4, none⟩ = false ∧ w'.frozen? ⟨T, 5, none⟩ = false) ∧ w'.cell? ⟨wr.heap.size, 0, none⟩ = some (.string f.route) ∧ w'.cell? ⟨wr.heap.size, 1, none⟩ = some (.int .i64 f.kind) ∧ w'.cell? ⟨wr.heap.size, 2, none⟩ = some (.bool f.need) ∧ w'.cell? ⟨wr.heap.size, 3, none⟩ = some (.bool f.bnd) ∧ w'.cell? ⟨wr.heap.size, 4, none⟩ = some (.int .i64 f.mn) ∧ w'.cell? ⟨wr.heap.size, 5, none⟩ = some (.int .i64 f.mx) ∧ w'.cell? ⟨wr.heap.size, 6, none⟩ = some (.slice oa f.one.length oc) ∧ w'.cell? ⟨wr.heap.size, 7, none⟩ = some (.int .i64 f.dv.kd) ∧ w'.cell? ⟨wr.heap.size, 8, none⟩ = some (.bool f.dv.bo) ∧ w'.cell? ⟨wr.heap.size, 9, none⟩ = some (.int .i64 f.dv.nu) ∧ w'.cell? ⟨wr.heap.size, 10, none⟩ = some (.string f.dv.tx) ∧ w'.cell? ⟨wr.heap.size, 11, none⟩ = some (.slice ia f.dv.its.length ic) ∧ w'.cell? ⟨wr.heap.size, 12, none⟩ = some (.slice ka f.dv.kys.length kc)) := by
            intro w' h
            have g := HR.out.on h.out
            have hfb := g.fb
            unfold box13 at hfb
            rw [fcs_arr] at hfb
            exact ⟨g.cells, thirteen_of_block hfb⟩
          obtain ⟨⟨⟨r0, r1, r2, r3, r4, r5⟩, f0, f1, f2, f3, f4, f5⟩, z0, z1, z2, z3, z4, z5, z6, z7, z8, z9, z10, z11, z12⟩ := HT.out W (Below.refl _ _)
          have HQ0 : Hid (Below W.heap.size W W.drew) := (Below.refl _ _).drew
          have CY : Hid (∀ w0, Hid (Below W.heap.size W w0) → Calls Tryz.prog 20 #[.bool f.need] w0 fun e w' => e = .returned (.agg #[.int .i64 1, .bool f.need, .int .i64 0, .string ⟨#[]⟩, .slice none 0 0, .slice none 0 0]) ∧ Hid (Below W.heap.size W w') ∧ Hid (∀ X cs, VAt (veil (rdS wr.heap.size T) w0) X cs → VAt (veil (rdS wr.heap.size T) w') X cs)) := fun w0 h0 => calls_on h0.out (yes_on _ w0)
          have CP : Hid (∀ w0, Hid (Below W.heap.size W w0) → Calls Tryz.prog 17 #[.agg #[.int .i64 (fv2 f).kd, .bool (fv2 f).bo, .int .i64 (fv2 f).nu, .string (fv2 f).tx, .slice xa (fv2 f).its.length xc, .slice xk (fv2 f).kys.length xkc], .string ⟨#[110, 101, 101, 100]⟩, .agg #[.int .i64 1, .bool f.need, .int .i64 0, .string ⟨#[]⟩, .slice none 0 0, .slice none 0 0]] w0 fun e w' => ∃ (ya : Option Addr) (yc : Nat) (yk : Option Addr) (ykc : Nat), e = .returned (.agg #[.int .i64 (fv3 f).kd, .bool (fv3 f).bo, .int .i64 (fv3 f).nu, .string (fv3 f).tx, .slice ya (fv3 f).its.length yc, .slice yk (fv3 f).kys.length ykc]) ∧ Hid (RdIn f oa oc ia ic ka kc wr T (put6 w' T (.int .i64 (fv3 f).kd) (.bool (fv3 f).bo) (.int .i64 (fv3 f).nu) (.string (fv3 f).tx) (.slice ya (fv3 f).its.length yc) (.slice yk (fv3 f).kys.length ykc)) (fv3 f) ya yc yk ykc) ∧ (w'.cell? ⟨T, 0, none⟩ = some (.int .i64 (fv2 f).kd) ∧ w'.cell? ⟨T, 1, none⟩ = some (.bool (fv2 f).bo) ∧ w'.cell? ⟨T, 2, none⟩ = some (.int .i64 (fv2 f).nu) ∧ w'.cell? ⟨T, 3, none⟩ = some (.string (fv2 f).tx) ∧ w'.cell? ⟨T, 4, none⟩ = some (.slice xa (fv2 f).its.length xc) ∧ w'.cell? ⟨T, 5, none⟩ = some (.slice xk (fv2 f).kys.length xkc)) ∧ w'.frozen? ⟨T, 0, none⟩ = false ∧ w'.frozen? ⟨T, 1, none⟩ = false ∧ w'.frozen? ⟨T, 2, none⟩ = false ∧ w'.frozen? ⟨T, 3, none⟩ = false ∧ w'.frozen? ⟨T, 4, none⟩ = false ∧ w'.frozen? ⟨T, 5, none⟩ = false) := fun w0 h0 => put_on HR.out (fv_kd f).2.1 (fv2_top f) qNeed (by decide) (yesV f.need) _ w0 h0.out (leaf_at 1 _ 0 _ (by decide) (by decide) (Nat.zero_le _) _)
          unfold put6 at CP
          clear HR HNJ HJN
          go_region_law (first | (go_simp; go_at_call 20; (with_reducible refine (CY.out _ (by assumption)).mono ?_); rintro e w' ⟨rfl, HQ, HV⟩; obtain ⟨⟨⟨r0, r1, r2, r3, r4, r5⟩, f0, f1, f2, f3, f4, f5⟩, z0, z1, z2, z3, z4, z5, z6, z7, z8, z9, z10, z11, z12⟩ := HT.out _ HQ) | (go_simp; go_at_call 17; (with_reducible refine (CP.out _ (by assumption)).mono ?_); rintro e w' ⟨ya, yc, yk, ykc, rfl, HP, ⟨r0, r1, r2, r3, r4, r5⟩, f0, f1, f2, f3, f4, f5⟩))
          all_goals
            clear HT CP
            go_wp2_with fail
            go_meet
            exact ⟨ya, yc, yk, ykc, HP⟩
        case rest =>
        clear HR
        obtain ⟨xa, xc, xk, xkc, HR⟩ := hcut
        obtain ⟨W, hW⟩ : ∃ W, W = wc := ⟨_, rfl⟩
        rw [← hW] at HR ⊢
        clear hW wc
        have hfb := HR.out.fb
        unfold box13 at hfb
        rw [fcs_arr] at hfb
        obtain ⟨z0, z1, z2, z3, z4, z5, z6, z7, z8, z9, z10, z11, z12⟩ := thirteen_of_block hfb
        clear hfb
        obtain ⟨bn, hbn⟩ : ∃ bn, bn = f.bnd := ⟨_, rfl⟩
        rw [← hbn] at z3
        have HBN := Lib.hid hbn
        clear hbn
        go_upto_if 45 with fail
        clear z0  z1  z2  z3  z4  z5  z6  z7  z8  z9  z10  z11  z12
        go_cut [] from 45 to 54 (fun wx => ∃ (xa : Option Addr) (xc : Nat) (xk : Option Addr) (xkc : Nat), Hid (RdIn f oa oc ia ic ka kc wr T wx (fv4 f) xa xc xk xkc))
        case first =>
          cases bn with
          | false =>
            have HR4 : Hid (RdIn f oa oc ia ic ka kc wr T W (fv4 f) xa xc xk xkc) := by rw [show fv4 f = fv3 f by unfold fv4; rw [← HBN.out]; rfl]; exact HR
            clear HR HNJ HJN
            go_wp2_with fail
            go_meet
            exact ⟨xa, xc, xk, xkc, HR4⟩
          | true =>
            have HE4 : Hid (fv4 f = fv4b f) := by show _ = _; unfold fv4; rw [← HBN.out]; rfl
            have HT : Hid (∀ w', Hid (Below W.heap.size W w') → ((w'.cell? ⟨T, 0, none⟩ = some (.int .i64 (fv3 f).kd) ∧ w'.cell? ⟨T, 1, none⟩ = some (.bool (fv3 f).bo) ∧ w'.cell? ⟨T, 2, none⟩ = some (.int .i64 (fv3 f).nu) ∧ w'.cell? ⟨T, 3, none⟩ = some (.string (fv3 f).tx) ∧ w'.cell? ⟨T, 4, none⟩ = some (.slice xa (fv3 f).its.length xc) ∧ w'.cell? ⟨T, 5, none⟩ = some (.slice xk (fv3 f).kys.length xkc)) ∧ w'.frozen? ⟨T, 0, none⟩ = false ∧ w'.frozen? ⟨T, 1, none⟩ = false ∧ w'.frozen? ⟨T, 2, none⟩ = false ∧ w'.frozen? ⟨T, 3, none⟩ = false ∧ w'.frozen? ⟨T, 4, none⟩ = false ∧ w'.frozen? ⟨T, 5, none⟩ = false) ∧ w'.cell? ⟨wr.heap.size, 0, none⟩ = some (.string f.route) ∧ w'.cell? ⟨wr.heap.size, 1, none⟩ = some (.int .i64 f.kind) ∧ w'.cell? ⟨wr.heap.size, 2, none⟩ = some (.bool f.need) ∧ w'.cell? ⟨wr.heap.size, 3, none⟩ = some (.bool f.bnd) ∧ w'.cell? ⟨wr.heap.size, 4, none⟩ = some (.int .i64 f.mn) ∧ w'.cell? ⟨wr.heap.size, 5, none⟩ = some (.int .i64 f.mx) ∧ w'.cell? ⟨wr.heap.size, 6, none⟩ = some (.slice oa f.one.length oc) ∧ w'.cell? ⟨wr.heap.size, 7, none⟩ = some (.int .i64 f.dv.kd) ∧ w'.cell? ⟨wr.heap.size, 8, none⟩ = some (.bool f.dv.bo) ∧ w'.cell? ⟨wr.heap.size, 9, none⟩ = some (.int .i64 f.dv.nu) ∧ w'.cell? ⟨wr.heap.size, 10, none⟩ = some (.string f.dv.tx) ∧ w'.cell? ⟨wr.heap.size, 11, none⟩ = some (.slice ia f.dv.its.length ic) ∧ w'.cell? ⟨wr.heap.size, 12, none⟩ = some (.slice ka f.dv.kys.length kc)) := by
              intro w' h
              have g := HR.out.on h.out
              have hfb := g.fb
              unfold box13 at hfb
              rw [fcs_arr] at hfb
              exact ⟨g.cells, thirteen_of_block hfb⟩
            obtain ⟨⟨⟨r0, r1, r2, r3, r4, r5⟩, f0, f1, f2, f3, f4, f5⟩, z0, z1, z2, z3, z4, z5, z6, z7, z8, z9, z10, z11, z12⟩ := HT.out W (Below.refl _ _)
            have HQ0 : Hid (Below W.heap.size W W.drew) := (Below.refl _ _).drew
            have CW : Hid (∀ (n : Int) w0, Hid (Below W.heap.size W w0) → Calls Tryz.prog 21 #[.int .i64 n] w0 fun e w' => e = .returned (.agg #[.int .i64 2, .bool false, .int .i64 n, .string ⟨#[]⟩, .slice none 0 0, .slice none 0 0]) ∧ Hid (Below W.heap.size W w') ∧ Hid (∀ X cs, VAt (veil (rdS wr.heap.size T) w0) X cs → VAt (veil (rdS wr.heap.size T) w') X cs)) := fun n w0 h0 => calls_on h0.out (whole_on n w0)
            have CP1 : Hid (∀ w0, Hid (Below W.heap.size W w0) → Calls Tryz.prog 17 #[.agg #[.int .i64 (fv3 f).kd, .bool (fv3 f).bo, .int .i64 (fv3 f).nu, .string (fv3 f).tx, .slice xa (fv3 f).its.length xc, .slice xk (fv3 f).kys.length xkc], .string ⟨#[109, 97, 120]⟩, .agg #[.int .i64 2, .bool false, .int .i64 f.mx, .string ⟨#[]⟩, .slice none 0 0, .slice none 0 0]] w0 fun e w' => ∃ (ya : Option Addr) (yc : Nat) (yk : Option Addr) (ykc : Nat), e = .returned (.agg #[.int .i64 (fv4a f).kd, .bool (fv4a f).bo, .int .i64 (fv4a f).nu, .string (fv4a f).tx, .slice ya (fv4a f).its.length yc, .slice yk (fv4a f).kys.length ykc]) ∧ Hid (VAt (veil (rdS wr.heap.size T) w') (fv4a f) (vcs (fv4a f) ya yc yk ykc)) ∧ Hid (Below W.heap.size W w')) := fun w0 h0 => (put_new (rdS wr.heap.size T) (fv3 f) (wholeV f.mx) xa xc xk xkc _ qMax w0 (fun k hk => by have h1 := HR.out.lo; have h2 := HR.out.hi; have h3 := h0.out.size; simp [rdS]; omega) (HR.out.on h0.out).at_ (leaf_at 2 false f.mx _ (by decide) HFD.out.mx (Nat.zero_le _) _) (fv3_top f) (fv_kd f).2.2.1 (by decide)).mono fun e w' h => by obtain ⟨ya, yc, yk, ykc, h1, h2, h3⟩ := h; exact ⟨ya, yc, yk, ykc, h1, h2, h0.out.trans (h3.out.mono h0.out.size)⟩
            have CP2 : Hid (∀ w0 (ya : Option Addr) (yc : Nat) (yk : Option Addr) (ykc : Nat), Hid (Below W.heap.size W w0) → Hid (VAt (veil (rdS wr.heap.size T) w0) (fv4a f) (vcs (fv4a f) ya yc yk ykc)) → Calls Tryz.prog 17 #[.agg #[.int .i64 (fv4a f).kd, .bool (fv4a f).bo, .int .i64 (fv4a f).nu, .string (fv4a f).tx, .slice ya (fv4a f).its.length yc, .slice yk (fv4a f).kys.length ykc], .string ⟨#[109, 105, 110]⟩, .agg #[.int .i64 2, .bool false, .int .i64 f.mn, .string ⟨#[]⟩, .slice none 0 0, .slice none 0 0]] w0 fun e w' => ∃ (ya : Option Addr) (yc : Nat) (yk : Option Addr) (ykc : Nat), e = .returned (.agg #[.int .i64 (fv4b f).kd, .bool (fv4b f).bo, .int .i64 (fv4b f).nu, .string (fv4b f).tx, .slice ya (fv4b f).its.length yc, .slice yk (fv4b f).kys.length ykc]) ∧ Hid (RdIn f oa oc ia ic ka kc wr T (put6 w' T (.int .i64 (fv4b f).kd) (.bool (fv4b f).bo) (.int .i64 (fv4b f).nu) (.string (fv4b f).tx) (.slice ya (fv4b f).its.length yc) (.slice yk (fv4b f).kys.length ykc)) (fv4b f) ya yc yk ykc) ∧ (w'.cell? ⟨T, 0, none⟩ = some (.int .i64 (fv3 f).kd) ∧ w'.cell? ⟨T, 1, none⟩ = some (.bool (fv3 f).bo) ∧ w'.cell? ⟨T, 2, none⟩ = some (.int .i64 (fv3 f).nu) ∧ w'.cell? ⟨T, 3, none⟩ = some (.string (fv3 f).tx) ∧ w'.cell? ⟨T, 4, none⟩ = some (.slice xa (fv3 f).its.length xc) ∧ w'.cell? ⟨T, 5, none⟩ = some (.slice xk (fv3 f).kys.length xkc)) ∧ w'.frozen? ⟨T, 0, none⟩ = false ∧ w'.frozen? ⟨T, 1, none⟩ = false ∧ w'.frozen? ⟨T, 2, none⟩ = false ∧ w'.frozen? ⟨T, 3, none⟩ = false ∧ w'.frozen? ⟨T, 4, none⟩ = false ∧ w'.frozen? ⟨T, 5, none⟩ = false) := fun w0 ya yc yk ykc h0 hv => (put_new (rdS wr.heap.size T) (fv4a f) (wholeV f.mn) ya yc yk ykc _ qMin w0 (fun k hk => by have h1 := HR.out.lo; have h2 := HR.out.hi; have h3 := h0.out.size; simp [rdS]; omega) hv.out (leaf_at 2 false f.mn _ (by decide) HFD.out.mn (Nat.zero_le _) _) (fv4a_top f) (fv_kd f).2.2.2.1 (by decide)).mono fun e w' h => by obtain ⟨ba, bc, bk, bkc, h1, h2, h3⟩ := h; have h4 := h0.out.trans (h3.out.mono h0.out.size); exact ⟨ba, bc, bk, bkc, h1, HR.out.store h4 h2, (HR.out.on h4).cells⟩
            unfold put6 at CP2
            clear HR HNJ HJN
            go_wp2_with fail
            go_region_law (first | (go_simp; go_at_call 21; (with_reducible refine (CW.out _ _ (by assumption)).mono ?_); rintro e w' ⟨rfl, HQ, HV⟩; obtain ⟨⟨⟨r0, r1, r2, r3, r4, r5⟩, f0, f1, f2, f3, f4, f5⟩, z0, z1, z2, z3, z4, z5, z6, z7, z8, z9, z10, z11, z12⟩ := HT.out _ HQ; (try have HV2 := Lib.hid (HV.out _ _ (Hid.out (by assumption))))) | (go_simp; go_at_call 17; (with_reducible refine (CP1.out _ (by assumption)).mono ?_); rintro e w' ⟨ya, yc, yk, ykc, rfl, HV1, HQ⟩; obtain ⟨⟨⟨r0, r1, r2, r3, r4, r5⟩, f0, f1, f2, f3, f4, f5⟩, z0, z1, z2, z3, z4, z5, z6, z7, z8, z9, z10, z11, z12⟩ := HT.out _ HQ) | (go_simp; go_at_call 17; (with_reducible refine (CP2.out _ _ _ _ _ (by assumption) (by assumption)).mono ?_); rintro e w' ⟨ba, bc, bk, bkc, rfl, HP, ⟨r0, r1, r2, r3, r4, r5⟩, f0, f1, f2, f3, f4, f5⟩))
            all_goals
              clear HT CP1 CP2 CW
              go_wp2_with fail
              go_meet
              rw [HE4.out]
              exact ⟨ba, bc, bk, bkc, HP⟩
        case rest =>
        clear HR
        obtain ⟨xa, xc, xk, xkc, HR⟩ := hcut
        obtain ⟨W, hW⟩ : ∃ W, W = wc := ⟨_, rfl⟩
        rw [← hW] at HR ⊢
        clear hW wc
        have hfb := HR.out.fb
        unfold box13 at hfb
        rw [fcs_arr] at hfb
        obtain ⟨z0, z1, z2, z3, z4, z5, z6, z7, z8, z9, z10, z11, z12⟩ := thirteen_of_block hfb
        clear hfb
        obtain ⟨b0, hb0⟩ : ∃ b0, decide (0 < f.one.length) = b0 := ⟨_, rfl⟩
        have hb1 : decide (0 < (f.one.length : Int)) = b0 := by rw [← hb0]; simp
        have HB0 := Lib.hid hb0
        go_upto_if 58 with fail
        clear hb0 hb1
        go_cut [9, 11] from 58 to 77 (fun v9 v11 wx => ∃ (xa : Option Addr) (xc : Nat) (xk : Option Addr) (xkc : Nat), Hid (RdIn f oa oc ia ic ka kc wr T wx (fv5 f) xa xc xk xkc))
        case first =>
          cases b0
          · have ho : f.one = [] := by have := of_decide_eq_false HB0.out; exact List.length_eq_zero_iff.1 (by omega)
            have HR5 : Hid (RdIn f oa oc ia ic ka kc wr T W (fv5 f) xa xc xk xkc) := by rw [show fv5 f = fv4 f by unfold fv5; rw [if_pos ho]]; exact HR
            clear HR HNJ HJN ho
            go_wp2_with fail
            go_meet
            exact ⟨xa, xc, xk, xkc, HR5⟩
          · have ho : ¬ f.one = [] := List.length_pos_iff.1 (of_decide_eq_true HB0.out)
            have HE5 : Hid (fv5 f = fv5b f) := by show _ = _; unfold fv5; rw [if_neg ho]
            have hol := HNJ.out.2
            clear ho HJN
            obtain ⟨wo, rfl⟩ : ∃ wo : World, wo = wr := ⟨_, rfl⟩
            have HI0 : Hid (OnIn f.one W 0 (.slice none 0 0) (W.alloc (.cells #[.int .i64 5, .bool false, .int .i64 0, .string ⟨#[]⟩, .slice none 0 0, .slice none 0 0] 29))) := ⟨Nat.zero_le _, World.ownsRow_nil _ _ _ _, heap_alloc_new _ _, below_alloc1 _ _⟩
            have q6 : (W.alloc (.cells #[.int .i64 5, .bool false, .int .i64 0, .string ⟨#[]⟩, .slice none 0 0, .slice none 0 0] 29)).cell? ⟨wo.heap.size, 6, none⟩ = some (.slice oa f.one.length oc) := by
              have g := (HR.out.on (below_alloc1 W (.cells #[.int .i64 5, .bool false, .int .i64 0, .string ⟨#[]⟩, .slice none 0 0, .slice none 0 0] 29))).fb
              unfold box13 at g
              rw [fcs_arr] at g
              exact (thirteen_of_block g).2.2.2.2.2.2.1
            obtain ⟨_, _, he, _, hone⟩ := Sl.shp HFD.out.one.1
            cases he
            have HONE := Lib.hid hone
            have HSZ := Lib.hid HFD.out.one.2
            have hWs : wo.heap.size < W.heap.size := Nat.lt_trans HR.out.lo HR.out.hi
            clear hone z0  z1  z2  z3  z4  z5  z6  z7  z8  z9  z10  z11  z12
            go_wp2_with fail
            go_loopw [63] (fun i wi => ∃ (i' : Nat) (v9 : Value), i = .int .i64 i' ∧ Hid (OnIn f.one W i' v9 wi)) (fun i _ => f.one.length - (intOf i).toNat)
            case atStart => exact ⟨0, _, rfl, HI0⟩
            case round =>
              clear HI0 q6
              obtain ⟨i, v9, rfl, HO⟩ := hrel
              obtain ⟨na, nc, rfl⟩ := ownsRow_form HO.out.own
              have hil := HO.out.le
              have hihi := HO.out.hi
              have hHW : Below w.heap.size w wr := HBW.out.trans ((HR.out.old.trans (HO.out.below.mono HR.out.old.size)).mono HBW.out.size)
              by_cases hi : i < f.one.length
              · obtain ⟨ob, oo, rfl, _, _, hlt, hcl⟩ := HONE.out (by omega)
                have c0 : wr.cell? ⟨ob, oo + i, none⟩ = some (.string f.one[i]) := (hHW.cell (p := ⟨ob, oo + i, none⟩) hlt).trans (hcl i (.string f.one[i]) (by simp [hi]))
                have hsz : f.one[i].size ≤ maxLen := HSZ.out _ (List.getElem_mem hi)
                have HON : Hid (∀ (w2 w3 : World) (v' : Value) (obj : Obj), Below wr.heap.size wr w2 → w3.ownsRow (W.heap.size + 1) 29 6 v' (i + 1) (strRows (f.one.take i) ++ vcs (strV f.one[i]) none 0 none 0) → (w2.alloc obj).grownBy w3 (Value.slice na i nc).ownBlock → (v'.ownBlock = (Value.slice na i nc).ownBlock ∨ v'.ownBlock = some (w2.alloc obj).heap.size) → OnIn f.one W (i + 1) v' (w3.setCell ⟨W.heap.size, 4, none⟩ v')) := fun w2 w3 v' obj h1 h2 h3 h4 => HO.out.next hi h1 h2 h3 h4
                clear hlt hcl HONE HSZ hHW
                generalize f.one[i] = s9 at *
                have b4 : wr.cell? ⟨W.heap.size, 4, none⟩ = some (.slice na i nc) := cellT HO.out.b9 rfl
                have HT9 : Hid (∀ w', Below wr.heap.size wr w' → w'.cell? ⟨W.heap.size, 4, none⟩ = some (.slice na i nc)) := fun w' h => (h.cell (p := ⟨W.heap.size, 4, none⟩) hihi).trans b4
                have CS : Hid (∀ w0, Hid (Below wr.heap.size wr w0) → Calls Tryz.prog 18 #[.string s9] w0 fun e w' => e = .returned (.agg #[.int .i64 3, .bool false, .int .i64 0, .string s9, .slice none 0 0, .slice none 0 0]) ∧ Hid (Below wr.heap.size wr w') ∧ w'.cell? ⟨W.heap.size, 4, none⟩ = some (.slice na i nc) ∧ (w'.alloc (.cells #[.int .i64 3, .bool false, .int .i64 0, .string s9, .slice none 0 0, .slice none 0 0] 29)).cell? ⟨W.heap.size, 4, none⟩ = some (.slice na i nc) ∧ Hid ((w'.alloc (.cells #[.int .i64 3, .bool false, .int .i64 0, .string s9, .slice none 0 0, .slice none 0 0] 29)).ownsRow (W.heap.size + 1) 29 6 (.slice na i nc) i (strRows (f.one.take i))) ∧ Hid (Sl 6 (w'.alloc (.cells #[.int .i64 3, .bool false, .int .i64 0, .string s9, .slice none 0 0, .slice none 0 0] 29)) (.slice (some ⟨w'.heap.size, 0, none⟩) 1 1) 1 (vcs (strV s9) none 0 none 0)) ∧ Hid (W.heap.size + 1 ≤ (w'.alloc (.cells #[.int .i64 3, .bool false, .int .i64 0, .string s9, .slice none 0 0, .slice none 0 0] 29)).heap.size)) := fun w0 h0 => (str_on s9 w0).mono fun e w' h => by
                  have hb := h0.out.trans (h.2.mono h0.out.size)
                  have hb2 := hb.alloc hb.size (.cells #[.int .i64 3, .bool false, .int .i64 0, .string s9, .slice none 0 0, .slice none 0 0] 29)
                  exact ⟨h.1, hb, HT9.out w' hb, HT9.out _ hb2, own_below HO.out.own hb2, Sl.lit w' _ 29 6 rfl, by show _ ≤ _; have := hb2.size; omega⟩
                have HQ0 : Hid (Below wr.heap.size wr wr.drew) := (Below.refl _ _).drew
                have HKW : Hid (∀ (w' w3 : World) (v' : Value), Below wr.heap.size wr w' → (w'.alloc (.cells #[.int .i64 3, .bool false, .int .i64 0, .string s9, .slice none 0 0, .slice none 0 0] 29)).grownBy w3 (Value.slice na i nc).ownBlock → w3.cell? ⟨W.heap.size, 4, none⟩ = some (.slice na i nc) ∧ w3.frozen? ⟨W.heap.size, 4, none⟩ = false) := by
                  intro w' w3 v' hb hg
                  have hb2 := hb.alloc hb.size (.cells #[.int .i64 3, .bool false, .int .i64 0, .string s9, .slice none 0 0, .slice none 0 0] 29)
                  have hne : some W.heap.size ≠ (Value.slice na i nc).ownBlock := fun e => by have := (HO.out.own.lt _ e.symm).1; omega
                  have h3 := (hg.block _ (by have := hb2.size; omega) hne).trans ((hb2.block _ hihi).trans HO.out.b9)
                  exact ⟨cellT h3 rfl, frozenT h3⟩
                go_wp2_with fail
                go_region_law (first | (go_simp; go_at_call 18; (with_reducible refine (CS.out _ (by assumption)).mono ?_); rintro e w' ⟨rfl, HQ, c4, d4, HROW, HNEW, HBS⟩) | (refine step_append_sl _ rfl _ _ 26 rfl (W.heap.size + 1) 29 vi (.agg #[.int .i64 0, .bool false, .int .i64 0, .string ⟨#[]⟩, .slice none 0 0, .slice none 0 0]) 6 88 Tryz.underlying26 hvi hv0 hv1 hv2 rfl (by decide) (.slice na i nc) i _ rfl HROW.out _ 1 _ rfl HNEW.out (six_ones _ _ _ _ _) (by unfold maxLen; omega) (by omega) HBS.out ?_; intro v3 w3 hown3 hgr3 hat3; obtain ⟨a3, c3, rfl⟩ := ownsRow_form hown3; obtain ⟨g4, g5⟩ := HKW.out _ _ (.slice a3 (i + 1) c3) HQ.out hgr3; have HO2 := Lib.hid (HON.out _ _ _ _ HQ.out hown3 hgr3 hat3)))
                all_goals
                  clear HROW HNEW hown3 hgr3 hat3 HKW HT9 HON CS
                  go_wp2_with fail
                  go_roundw
                  case rel => exact ⟨i + 1, _, by go_num, HO2⟩
                  case measure => simp [intOf]; omega
              · obtain rfl : i = f.one.length := by omega
                have hHR := HR.out.on HO.out.below
                have HTB := Lib.hid HO.out.b9
                have hcs := hHR.cells
                obtain ⟨⟨r0, r1, r2, r3, r4, r5⟩, f0, f1, f2, f3, f4, f5⟩ := hcs
                obtain ⟨t0, t1, t2, t3, t4, t5⟩ := six_of_block HTB.out
                have CP : Hid (Calls Tryz.prog 17 #[.agg #[.int .i64 (fv4 f).kd, .bool (fv4 f).bo, .int .i64 (fv4 f).nu, .string (fv4 f).tx, .slice xa (fv4 f).its.length xc, .slice xk (fv4 f).kys.length xkc], .string ⟨#[111, 110, 101, 111, 102]⟩, .agg #[.int .i64 5, .bool false, .int .i64 0, .string ⟨#[]⟩, .slice na f.one.length nc, .slice none 0 0]] wr fun e w' => ∃ (ya : Option Addr) (yc : Nat) (yk : Option Addr) (ykc : Nat), e = .returned (.agg #[.int .i64 (fv5b f).kd, .bool (fv5b f).bo, .int .i64 (fv5b f).nu, .string (fv5b f).tx, .slice ya (fv5b f).its.length yc, .slice yk (fv5b f).kys.length ykc]) ∧ Hid (RdIn f oa oc ia ic ka kc wo T (put6 w' T (.int .i64 (fv5b f).kd) (.bool (fv5b f).bo) (.int .i64 (fv5b f).nu) (.string (fv5b f).tx) (.slice ya (fv5b f).its.length yc) (.slice yk (fv5b f).kys.length ykc)) (fv5b f) ya yc yk ykc) ∧ (w'.cell? ⟨T, 0, none⟩ = some (.int .i64 (fv4 f).kd) ∧ w'.cell? ⟨T, 1, none⟩ = some (.bool (fv4 f).bo) ∧ w'.cell? ⟨T, 2, none⟩ = some (.int .i64 (fv4 f).nu) ∧ w'.cell? ⟨T, 3, none⟩ = some (.string (fv4 f).tx) ∧ w'.cell? ⟨T, 4, none⟩ = some (.slice xa (fv4 f).its.length xc) ∧ w'.cell? ⟨T, 5, none⟩ = some (.slice xk (fv4 f).kys.length xkc)) ∧ w'.frozen? ⟨T, 0, none⟩ = false ∧ w'.frozen? ⟨T, 1, none⟩ = false ∧ w'.frozen? ⟨T, 2, none⟩ = false ∧ w'.frozen? ⟨T, 3, none⟩ = false ∧ w'.frozen? ⟨T, 4, none⟩ = false ∧ w'.frozen? ⟨T, 5, none⟩ = false) := by
                  have hv := HO.out.value HSZ.out (rdS wo.heap.size T) (fun b hb => by have := HR.out.hi; simp [rdS]; omega)
                  have := put_on HR.out (fv_kd f).2.2.2.2.1 (fv4_top f) qOneof (by decide) (listV (f.one.map strV)) _ wr HO.out.below hv
                  simp only [vcs, listV, V.kd, V.bo, V.nu, V.tx, V.its, V.kys, List.length_map, List.length_nil] at this
                  exact this
                unfold put6 at CP
                clear HO HTB hHR HONE HSZ hHW
                go_wp2_with fail
                refine CP.out.mono ?_
                rintro e w' ⟨ya, yc, yk, ykc, rfl, HP, ⟨r0, r1, r2, r3, r4, r5⟩, f0, f1, f2, f3, f4, f5⟩
                clear CP
                go_wp2_with fail
                go_meet
                rw [HE5.out]
                exact ⟨ya, yc, yk, ykc, HP⟩
        case rest =>
        clear HR
        obtain ⟨xa, xc, xk, xkc, HR⟩ := hcut
        obtain ⟨W, hW⟩ : ∃ W, W = wc := ⟨_, rfl⟩
        rw [← hW] at HR ⊢
        clear hW wc
        have hfb := HR.out.fb
        unfold box13 at hfb
        rw [fcs_arr] at hfb
        obtain ⟨z0, z1, z2, z3, z4, z5, z6, z7, z8, z9, z10, z11, z12⟩ := thirteen_of_block hfb
        clear hfb
        obtain ⟨b0, hb0⟩ : ∃ b0, (f.dv.kd != 0) = b0 := ⟨_, rfl⟩
        have HB0 := Lib.hid hb0
        go_upto_if 81 with fail
        clear hb0 z0  z1  z2  z3  z4  z5  z6  z7  z8  z9  z10  z11  z12
        go_cut [] from 81 to 86 (fun wx => ∃ (xa : Option Addr) (xc : Nat) (xk : Option Addr) (xkc : Nat), Hid (RdIn f oa oc ia ic ka kc wr T wx (fieldV f) xa xc xk xkc))
        case first =>
          cases b0
          · have hd : f.dv.kd = 0 := by have := HB0.out; simpa using this
            have HR6 : Hid (RdIn f oa oc ia ic ka kc wr T W (fieldV f) xa xc xk xkc) := by rw [show fieldV f = fv5 f by unfold fieldV; rw [if_pos hd]]; exact HR
            clear HR HNJ HJN hd
            go_wp2_with fail
            go_meet
            exact ⟨xa, xc, xk, xkc, HR6⟩
          · have hd : ¬ f.dv.kd = 0 := by have := HB0.out; simpa using this
            have HE6 : Hid (fieldV f = fieldVb f) := by show _ = _; unfold fieldV; rw [if_neg hd]
            have HDO : Hid f.dv.okc := by obtain ⟨l, _, _, _, _, _, _, _, h, _⟩ := HOK.out; exact h
            clear hd
            have HT : Hid (∀ w', Hid (Below W.heap.size W w') → ((w'.cell? ⟨T, 0, none⟩ = some (.int .i64 (fv5 f).kd) ∧ w'.cell? ⟨T, 1, none⟩ = some (.bool (fv5 f).bo) ∧ w'.cell? ⟨T, 2, none⟩ = some (.int .i64 (fv5 f).nu) ∧ w'.cell? ⟨T, 3, none⟩ = some (.string (fv5 f).tx) ∧ w'.cell? ⟨T, 4, none⟩ = some (.slice xa (fv5 f).its.length xc) ∧ w'.cell? ⟨T, 5, none⟩ = some (.slice xk (fv5 f).kys.length xkc)) ∧ w'.frozen? ⟨T, 0, none⟩ = false ∧ w'.frozen? ⟨T, 1, none⟩ = false ∧ w'.frozen? ⟨T, 2, none⟩ = false ∧ w'.frozen? ⟨T, 3, none⟩ = false ∧ w'.frozen? ⟨T, 4, none⟩ = false ∧ w'.frozen? ⟨T, 5, none⟩ = false) ∧ w'.cell? ⟨wr.heap.size, 0, none⟩ = some (.string f.route) ∧ w'.cell? ⟨wr.heap.size, 1, none⟩ = some (.int .i64 f.kind) ∧ w'.cell? ⟨wr.heap.size, 2, none⟩ = some (.bool f.need) ∧ w'.cell? ⟨wr.heap.size, 3, none⟩ = some (.bool f.bnd) ∧ w'.cell? ⟨wr.heap.size, 4, none⟩ = some (.int .i64 f.mn) ∧ w'.cell? ⟨wr.heap.size, 5, none⟩ = some (.int .i64 f.mx) ∧ w'.cell? ⟨wr.heap.size, 6, none⟩ = some (.slice oa f.one.length oc) ∧ w'.cell? ⟨wr.heap.size, 7, none⟩ = some (.int .i64 f.dv.kd) ∧ w'.cell? ⟨wr.heap.size, 8, none⟩ = some (.bool f.dv.bo) ∧ w'.cell? ⟨wr.heap.size, 9, none⟩ = some (.int .i64 f.dv.nu) ∧ w'.cell? ⟨wr.heap.size, 10, none⟩ = some (.string f.dv.tx) ∧ w'.cell? ⟨wr.heap.size, 11, none⟩ = some (.slice ia f.dv.its.length ic) ∧ w'.cell? ⟨wr.heap.size, 12, none⟩ = some (.slice ka f.dv.kys.length kc)) := by
              intro w' h
              have g := HR.out.on h.out
              have hfb := g.fb
              unfold box13 at hfb
              rw [fcs_arr] at hfb
              exact ⟨g.cells, thirteen_of_block hfb⟩
            obtain ⟨⟨⟨r0, r1, r2, r3, r4, r5⟩, f0, f1, f2, f3, f4, f5⟩, z0, z1, z2, z3, z4, z5, z6, z7, z8, z9, z10, z11, z12⟩ := HT.out W (Below.refl _ _)
            have HQ0 : Hid (Below W.heap.size W W.drew) := (Below.refl _ _).drew
            have CC : Hid (∀ w0, Hid (Below W.heap.size W w0) → Calls Tryz.prog 22 #[.agg #[.int .i64 f.dv.kd, .bool f.dv.bo, .int .i64 f.dv.nu, .string f.dv.tx, .slice ia f.dv.its.length ic, .slice ka f.dv.kys.length kc]] w0 fun e w' => ∃ (da : Option Addr) (dc : Nat) (dk : Option Addr) (dkc : Nat), e = .returned (.agg #[.int .i64 f.dv.kd, .bool f.dv.bo, .int .i64 f.dv.nu, .string f.dv.tx, .slice da f.dv.its.length dc, .slice dk f.dv.kys.length dkc]) ∧ Hid (Below W.heap.size W w') ∧ Hid (VAt (veil (rdS wr.heap.size T) w') f.dv (vcs f.dv da dc dk dkc))) := fun w0 h0 => (clone_any _ f.dv (Nat.lt_succ_self _) HDO.out.mid (vcs f.dv ia ic ka kc) w0 (HFD.out.dv.keep (HBW.out.trans ((HR.out.old.trans (h0.out.mono HR.out.old.size)).mono HBW.out.size)))).mono fun e w' h => by
              obtain ⟨ds, rfl, hds, hb⟩ := h
              obtain ⟨da, dc, dk, dkc, rfl, _⟩ := hds.opened
              refine ⟨da, dc, dk, dkc, by rw [vcs_arr], h0.out.trans (hb.mono h0.out.size), hds.keeps (Keeps.less w' fun k hk => ?_)⟩
              have h1 := HR.out.lo
              have h2 := HR.out.hi
              have h3 := h0.out.size
              simp at hk
              simp [rdS]; omega
            have CP : Hid (∀ w0 (da : Option Addr) (dc : Nat) (dk : Option Addr) (dkc : Nat), Hid (Below W.heap.size W w0) → Hid (VAt (veil (rdS wr.heap.size T) w0) f.dv (vcs f.dv da dc dk dkc)) → Calls Tryz.prog 17 #[.agg #[.int .i64 (fv5 f).kd, .bool (fv5 f).bo, .int .i64 (fv5 f).nu, .string (fv5 f).tx, .slice xa (fv5 f).its.length xc, .slice xk (fv5 f).kys.length xkc], .string ⟨#[100, 101, 102, 97, 117, 108, 116]⟩, .agg #[.int .i64 f.dv.kd, .bool f.dv.bo, .int .i64 f.dv.nu, .string f.dv.tx, .slice da f.dv.its.length dc, .slice dk f.dv.kys.length dkc]] w0 fun e w' => ∃ (ya : Option Addr) (yc : Nat) (yk : Option Addr) (ykc : Nat), e = .returned (.agg #[.int .i64 (fieldVb f).kd, .bool (fieldVb f).bo, .int .i64 (fieldVb f).nu, .string (fieldVb f).tx, .slice ya (fieldVb f).its.length yc, .slice yk (fieldVb f).kys.length ykc]) ∧ Hid (RdIn f oa oc ia ic ka kc wr T (put6 w' T (.int .i64 (fieldVb f).kd) (.bool (fieldVb f).bo) (.int .i64 (fieldVb f).nu) (.string (fieldVb f).tx) (.slice ya (fieldVb f).its.length yc) (.slice yk (fieldVb f).kys.length ykc)) (fieldVb f) ya yc yk ykc) ∧ (w'.cell? ⟨T, 0, none⟩ = some (.int .i64 (fv5 f).kd) ∧ w'.cell? ⟨T, 1, none⟩ = some (.bool (fv5 f).bo) ∧ w'.cell? ⟨T, 2, none⟩ = some (.int .i64 (fv5 f).nu) ∧ w'.cell? ⟨T, 3, none⟩ = some (.string (fv5 f).tx) ∧ w'.cell? ⟨T, 4, none⟩ = some (.slice xa (fv5 f).its.length xc) ∧ w'.cell? ⟨T, 5, none⟩ = some (.slice xk (fv5 f).kys.length xkc)) ∧ w'.frozen? ⟨T, 0, none⟩ = false ∧ w'.frozen? ⟨T, 1, none⟩ = false ∧ w'.frozen? ⟨T, 2, none⟩ = false ∧ w'.frozen? ⟨T, 3, none⟩ = false ∧ w'.frozen? ⟨T, 4, none⟩ = false ∧ w'.frozen? ⟨T, 5, none⟩ = false) := fun w0 da dc dk dkc h0 hv => put_on HR.out (fv_kd f).2.2.2.2.2.1 (fv5_top f) qDefault (by decide) f.dv (vcs f.dv da dc dk dkc) w0 h0.out hv.out
            unfold put6 at CP
            clear HR HNJ HJN
            go_wp2_with fail
            go_region_law (first | (go_simp; go_at_call 22; (with_reducible refine (CC.out _ (by assumption)).mono ?_); rintro e w' ⟨da, dc, dk, dkc, rfl, HQ, HDV⟩; obtain ⟨⟨⟨r0, r1, r2, r3, r4, r5⟩, f0, f1, f2, f3, f4, f5⟩, z0, z1, z2, z3, z4, z5, z6, z7, z8, z9, z10, z11, z12⟩ := HT.out _ HQ) | (go_simp; go_at_call 17; (with_reducible refine (CP.out _ _ _ _ _ (by assumption) (by assumption)).mono ?_); rintro e w' ⟨ya, yc, yk, ykc, rfl, HP, ⟨r0, r1, r2, r3, r4, r5⟩, f0, f1, f2, f3, f4, f5⟩))
            all_goals
              clear HT CP CC
              go_wp2_with fail
              go_meet
              rw [HE6.out]
              exact ⟨ya, yc, yk, ykc, HP⟩
        case rest =>
        clear HR
        obtain ⟨xa, xc, xk, xkc, HR⟩ := hcut
        obtain ⟨W, hW⟩ : ∃ W, W = wc := ⟨_, rfl⟩
        rw [← hW] at HR ⊢
        clear hW wc
        obtain ⟨⟨r0, r1, r2, r3, r4, r5⟩, _⟩ := HR.out.cells
        have hhi := HI.out.hi
        have hlo := HI.out.lo
        have hFW : W.heap[F]? = some (.cells #[.int .i64 5, .bool false, .int .i64 0, .string ⟨#[]⟩, .slice va j vc, .slice none 0 0] 29 (0, 0)) := (HR.out.old.block _ hhi).trans HI.out.bf
        have HFW := Lib.hid hFW
        have g4 : W.cell? ⟨F, 4, none⟩ = some (.slice va j vc) := cellT hFW rfl
        have HOW := Lib.hid ((own_below HI.out.own HR.out.old).alloc (.cells (vcs (fieldV f) xa xc xk xkc).toArray 29))
        have HNEW := Lib.hid (Sl.lit W (vcs (fieldV f) xa xc xk xkc) 29 6 rfl)
        have HJ2 : Hid (∀ (w3 : World) (v' : Value) (ob : Obj), w3.ownsRow (F + 1) 29 6 v' (j + 1) (rows ++ vcs (fieldV f) xa xc xk xkc) → (W.alloc ob).grownBy w3 (Value.slice va j vc).ownBlock → (v'.ownBlock = (Value.slice va j vc).ownBlock ∨ v'.ownBlock = some (W.alloc ob).heap.size) → SvIn fs (some ⟨bb, off, none⟩) ac sb w F (w3.setCell ⟨F, 4, none⟩ v') (j + 1) v' (rows ++ vcs (fieldV f) xa xc xk xkc)) := fun w3 v' ob h1 h2 h3 => HJN.out W w3 T v' _ ob HR.out.old HR.out.at_ HR.out.lo h1 h2 h3
        have HKF : Hid (∀ (w3 : World) (ob : Obj), (W.alloc ob).grownBy w3 (Value.slice va j vc).ownBlock → w3.cell? ⟨F, 4, none⟩ = some (.slice va j vc) ∧ w3.frozen? ⟨F, 4, none⟩ = false) := by
          intro w3 ob hg
          have hFW2 : F < W.heap.size := by have := HR.out.old.size; omega
          have hne : some F ≠ (Value.slice va j vc).ownBlock := fun e => by have := (HI.out.own.lt _ e.symm).1; omega
          have h3 := (hg.block _ (by simp; omega) hne).trans ((heap_alloc_old _ _ hFW2).trans HFW.out)
          exact ⟨cellT h3 rfl, frozenT h3⟩
        have hbs : F + 1 ≤ (W.alloc (.cells (vcs (fieldV f) xa xc xk xkc).toArray 29)).heap.size := by have := HR.out.old.size; simp; omega
        rw [vcs_arr] at HOW HNEW hbs
        clear HR HJN HI hFW HNJ
        go_wp2_with (at_builtin; refine wpList_append_sl _ rfl _ _ 26 rfl (F + 1) 29 vi (.agg #[.int .i64 0, .bool false, .int .i64 0, .string ⟨#[]⟩, .slice none 0 0, .slice none 0 0]) 6 88 Tryz.underlying26 hvi hv0 hv1 hv2 rfl (by decide) (.slice va j vc) j rows rfl HOW.out _ 1 _ rfl HNEW.out (six_ones _ _ _ _ _) (by unfold maxLen; omega) (by omega) hbs ?_; intro v3 w3 hown3 hgr3 hat3; obtain ⟨a3, c3, rfl⟩ := ownsRow_form hown3; obtain ⟨g4, g5⟩ := HKF.out _ _ hgr3)
        have HI2 := Lib.hid (HJ2.out _ _ _ hown3 hgr3 hat3)
        clear HOW HNEW hown3 hgr3 hat3 HJ2 HKF g4 g5
        go_roundw
        case rel => exact ⟨j + 1, _, _, by go_num, HI2⟩
        case measure => simp [intOf]; omega
      · obtain rfl : j = fs.length := by omega
        have HBW := Lib.hid HI.out.below
        have hhi := HI.out.hi
        have hlo := HI.out.lo
        have HVAL : Hid (VAt (veil (svS F) wr) (listV (fs.map fieldV)) (vcs (listV (fs.map fieldV)) va vc none 0)) := HI.out.value
        have HTF : Hid (∀ w', Hid (Below wr.heap.size wr w') → (w'.cell? ⟨F, 0, none⟩ = some (.int .i64 5) ∧ w'.cell? ⟨F, 1, none⟩ = some (.bool false) ∧ w'.cell? ⟨F, 2, none⟩ = some (.int .i64 0) ∧ w'.cell? ⟨F, 3, none⟩ = some (.string ⟨#[]⟩) ∧ w'.cell? ⟨F, 4, none⟩ = some (.slice va fs.length vc) ∧ w'.cell? ⟨F, 5, none⟩ = some (.slice none 0 0)) ∧ w'.cell? ⟨w.heap.size, 1, none⟩ = some (.bool sb)) := fun w' h => ⟨six_of_block ((h.out.block _ hhi).trans HI.out.bf), cellT ((h.out.block _ (by omega)).trans HI.out.bs) rfl⟩
        have HB0 := Lib.hid HI.out.b0
        obtain ⟨SV, hSV⟩ : ∃ SV, SV = schemaV fs sb := ⟨_, rfl⟩
        obtain ⟨S1, hS1⟩ : ∃ S1, S1 = putV (.mk 6 false 0 ⟨#[]⟩ [] []) qFields (listV (fs.map fieldV)) := ⟨_, rfl⟩
        have CP1 : Hid (∀ o w0, Hid (Reg F wr o w0) → Calls Tryz.prog 17 #[.agg #[.int .i64 6, .bool false, .int .i64 0, .string ⟨#[]⟩, .slice none 0 0, .slice none 0 0], .string ⟨#[102, 105, 101, 108, 100, 115]⟩, .agg #[.int .i64 5, .bool false, .int .i64 0, .string ⟨#[]⟩, .slice va fs.length vc, .slice none 0 0]] w0 fun e w' => ∃ (ya : Option Addr) (yc : Nat) (yk : Option Addr) (ykc : Nat), e = .returned (.agg #[.int .i64 S1.kd, .bool S1.bo, .int .i64 S1.nu, .string S1.tx, .slice ya S1.its.length yc, .slice yk S1.kys.length ykc]) ∧ Hid (VAt (veil (regS F o) w') S1 (vcs S1 ya yc yk ykc)) ∧ Hid (Reg F wr o w') ∧ ∀ T, o = some T → BoxZ w' T) := by
          intro o w0 h0
          have := put_new (regS F o) (.mk 6 false 0 ⟨#[]⟩ [] []) (listV (fs.map fieldV)) none 0 none 0 (vcs (listV (fs.map fieldV)) va vc none 0) qFields w0 (h0.out.free hhi) (leaf_at 6 false 0 _ (by decide) (by decide) (Nat.zero_le _) _) (h0.out.carry HVAL.out) fv0_top rfl (by decide)
          rw [← hS1] at this
          simp only [vcs, listV, V.kd, V.bo, V.nu, V.tx, V.its, V.kys, List.length_map, List.length_nil] at this
          refine this.mono fun e w' h => ?_
          obtain ⟨ya, yc, yk, ykc, h1, h2, h3⟩ := h
          exact ⟨ya, yc, yk, ykc, h1, h2, h0.out.on h3.out, (h0.out.on h3.out).cells⟩
        have CP2 : Hid (∀ o w0 (ya : Option Addr) (yc : Nat) (yk : Option Addr) (ykc : Nat), Hid (Reg F wr o w0) → Hid (VAt (veil (regS F o) w0) S1 (vcs S1 ya yc yk ykc)) → Calls Tryz.prog 17 #[.agg #[.int .i64 S1.kd, .bool S1.bo, .int .i64 S1.nu, .string S1.tx, .slice ya S1.its.length yc, .slice yk S1.kys.length ykc], .string ⟨#[115, 116, 114, 105, 99, 116]⟩, .agg #[.int .i64 1, .bool sb, .int .i64 0, .string ⟨#[]⟩, .slice none 0 0, .slice none 0 0]] w0 fun e w' => ∃ (ba : Option Addr) (bc : Nat) (bk : Option Addr) (bkc : Nat), e = .returned (.agg #[.int .i64 SV.kd, .bool SV.bo, .int .i64 SV.nu, .string SV.tx, .slice ba SV.its.length bc, .slice bk SV.kys.length bkc]) ∧ Hid (VAt (veil (regS F o) w') SV (vcs SV ba bc bk bkc)) ∧ Hid (Reg F wr o w') ∧ ∀ T, o = some T → BoxZ w' T) := by
          intro o w0 ya yc yk ykc h0 hv
          have := put_new (regS F o) S1 (yesV sb) ya yc yk ykc (vcs (yesV sb) none 0 none 0) qStrict w0 (h0.out.free hhi) hv.out (leaf_at 1 sb 0 _ (by decide) (by decide) (Nat.zero_le _) _) (by rw [hS1]; exact sv1_top _) (by rw [hS1]; rfl) (by decide)
          rw [show putV S1 qStrict (yesV sb) = SV by rw [hS1, hSV]; rfl] at this
          refine this.mono fun e w' h => ?_
          obtain ⟨ba, bc, bk, bkc, h1, h2, h3⟩ := h
          exact ⟨ba, bc, bk, bkc, h1, h2, h0.out.on h3.out, (h0.out.on h3.out).cells⟩
        have CY : Hid (∀ o w0, Hid (Reg F wr o w0) → Calls Tryz.prog 20 #[.bool sb] w0 fun e w' => e = .returned (.agg #[.int .i64 1, .bool sb, .int .i64 0, .string ⟨#[]⟩, .slice none 0 0, .slice none 0 0]) ∧ Hid (Reg F wr o w') ∧ Hid (∀ X cs, Hid (VAt (veil (regS F o) w0) X cs) → Hid (VAt (veil (regS F o) w') X cs)) ∧ ∀ T, o = some T → BoxZ w' T) := fun o w0 h0 => (yes_on sb w0).mono fun e w' h => ⟨h.1, h0.out.on h.2, fun X cs hX => hX.out.keeps (Keeps.belows h.2), (h0.out.on h.2).cells⟩
        obtain ⟨⟨r0, r1, r2, r3, r4, r5⟩, q1⟩ := HTF.out wr (Below.refl _ _)
        have HSV := Lib.hid hSV
        have HR0 : Hid (Reg F wr none wr.drew) := Reg.begin
        have HR1 : Hid (Reg F wr (some wr.heap.size) (wr.alloc (.cells #[.int .i64 0, .bool false, .int .i64 0, .string ⟨#[]⟩, .slice none 0 0, .slice none 0 0] 29)).drew) := Reg.begin1
        have HENT : Hid (∀ w', Hid (Reg F wr none w') → Hid (Reg F wr (some w'.heap.size) (w'.alloc (.cells #[.int .i64 0, .bool false, .int .i64 0, .string ⟨#[]⟩, .slice none 0 0, .slice none 0 0] 29)))) := fun w' h => h.out.enter
        have HENV : Hid (∀ w' X cs, Hid (VAt (veil (regS F none) w') X cs) → Hid (VAt (veil (regS F (some w'.heap.size)) (w'.alloc (.cells #[.int .i64 0, .bool false, .int .i64 0, .string ⟨#[]⟩, .slice none 0 0, .slice none 0 0] 29))) X cs)) := fun w' X cs h => carry_enter h.out
        have HS0 : Hid (∀ o w', Hid (Reg F wr o w') → w'.cell? ⟨F, 0, none⟩ = some (.int .i64 5) ∧ w'.cell? ⟨F, 1, none⟩ = some (.bool false) ∧ w'.cell? ⟨F, 2, none⟩ = some (.int .i64 0) ∧ w'.cell? ⟨F, 3, none⟩ = some (.string ⟨#[]⟩) ∧ w'.cell? ⟨F, 4, none⟩ = some (.slice va fs.length vc) ∧ w'.cell? ⟨F, 5, none⟩ = some (.slice none 0 0) ∧ w'.cell? ⟨w.heap.size, 1, none⟩ = some (.bool sb)) := fun o w' h => by
          obtain ⟨⟨a0, a1, a2, a3, a4, a5⟩, a6⟩ := HTF.out w' h.out.below
          exact ⟨a0, a1, a2, a3, a4, a5, a6⟩
        have HSP : Hid (∀ T w', Hid (Reg F wr (some T) w') → ∀ ba bc bk bkc, (put6 w' T (.int .i64 SV.kd) (.bool SV.bo) (.int .i64 SV.nu) (.string SV.tx) (.slice ba SV.its.length bc) (.slice bk SV.kys.length bkc)).cell? ⟨F, 0, none⟩ = some (.int .i64 5) ∧ (put6 w' T (.int .i64 SV.kd) (.bool SV.bo) (.int .i64 SV.nu) (.string SV.tx) (.slice ba SV.its.length bc) (.slice bk SV.kys.length bkc)).cell? ⟨F, 1, none⟩ = some (.bool false) ∧ (put6 w' T (.int .i64 SV.kd) (.bool SV.bo) (.int .i64 SV.nu) (.string SV.tx) (.slice ba SV.its.length bc) (.slice bk SV.kys.length bkc)).cell? ⟨F, 2, none⟩ = some (.int .i64 0) ∧ (put6 w' T (.int .i64 SV.kd) (.bool SV.bo) (.int .i64 SV.nu) (.string SV.tx) (.slice ba SV.its.length bc) (.slice bk SV.kys.length bkc)).cell? ⟨F, 3, none⟩ = some (.string ⟨#[]⟩) ∧ (put6 w' T (.int .i64 SV.kd) (.bool SV.bo) (.int .i64 SV.nu) (.string SV.tx) (.slice ba SV.its.length bc) (.slice bk SV.kys.length bkc)).cell? ⟨F, 4, none⟩ = some (.slice va fs.length vc) ∧ (put6 w' T (.int .i64 SV.kd) (.bool SV.bo) (.int .i64 SV.nu) (.string SV.tx) (.slice ba SV.its.length bc) (.slice bk SV.kys.length bkc)).cell? ⟨F, 5, none⟩ = some (.slice none 0 0) ∧ (put6 w' T (.int .i64 SV.kd) (.bool SV.bo) (.int .i64 SV.nu) (.string SV.tx) (.slice ba SV.its.length bc) (.slice bk SV.kys.length bkc)).cell? ⟨w.heap.size, 1, none⟩ = some (.bool sb)) := fun T w' h => by
          obtain ⟨⟨a0, a1, a2, a3, a4, a5⟩, a6⟩ := HTF.out _ (put6_below (a := .int .i64 SV.kd) (b := .bool SV.bo) (c := .int .i64 SV.nu) (d := .string SV.tx) (e := .slice none 0 0) (f := .slice none 0 0) h.out.below (h.out.box T rfl).1)
          exact fun ba bc bk bkc => by
            obtain ⟨⟨a0, a1, a2, a3, a4, a5⟩, a6⟩ := HTF.out _ (put6_below (a := .int .i64 SV.kd) (b := .bool SV.bo) (c := .int .i64 SV.nu) (d := .string SV.tx) (e := .slice ba SV.its.length bc) (f := .slice bk SV.kys.length bkc) h.out.below (h.out.box T rfl).1)
            exact ⟨a0, a1, a2, a3, a4, a5, a6⟩
        have HSN : Hid (∀ w' ob, Hid (Reg F wr none w') → (w'.alloc ob).cell? ⟨F, 0, none⟩ = some (.int .i64 5) ∧ (w'.alloc ob).cell? ⟨F, 1, none⟩ = some (.bool false) ∧ (w'.alloc ob).cell? ⟨F, 2, none⟩ = some (.int .i64 0) ∧ (w'.alloc ob).cell? ⟨F, 3, none⟩ = some (.string ⟨#[]⟩) ∧ (w'.alloc ob).cell? ⟨F, 4, none⟩ = some (.slice va fs.length vc) ∧ (w'.alloc ob).cell? ⟨F, 5, none⟩ = some (.slice none 0 0) ∧ (w'.alloc ob).cell? ⟨w.heap.size, 1, none⟩ = some (.bool sb)) := fun w' ob h => by
          obtain ⟨⟨a0, a1, a2, a3, a4, a5⟩, a6⟩ := HTF.out (w'.alloc ob) (h.out.below.alloc h.out.below.size _)
          exact ⟨a0, a1, a2, a3, a4, a5, a6⟩
        have HEND : Hid (∀ (w' : World) (ba : Option Addr) (bc : Nat) (bk : Option Addr) (bkc : Nat), Hid (VAt (veil (regS F none) w') SV (vcs SV ba bc bk bkc)) → Hid (Reg F wr none w') → Hid ((w'.alloc (.cells #[.int .i64 SV.kd, .bool SV.bo, .int .i64 SV.nu, .string SV.tx, .slice ba SV.its.length bc, .slice bk SV.kys.length bkc] 29)).heap[w'.heap.size]? = some (box6 SV ba bc bk bkc) ∧ VAt (veil (fun k => decide (k = w'.heap.size ∨ k ≤ F)) (w'.alloc (.cells #[.int .i64 SV.kd, .bool SV.bo, .int .i64 SV.nu, .string SV.tx, .slice ba SV.its.length bc, .slice bk SV.kys.length bkc] 29))) SV (vcs SV ba bc bk bkc) ∧ Below wr.heap.size wr (w'.alloc (.cells #[.int .i64 SV.kd, .bool SV.bo, .int .i64 SV.nu, .string SV.tx, .slice ba SV.its.length bc, .slice bk SV.kys.length bkc] 29)) ∧ wr.heap.size ≤ w'.heap.size)) := fun w' ba bc bk bkc h1 h2 => h2.out.end1 h1.out
        have HEND2 : Hid (∀ (w' : World) (T : Nat) (ba : Option Addr) (bc : Nat) (bk : Option Addr) (bkc : Nat), Hid (VAt (veil (regS F (some T)) w') SV (vcs SV ba bc bk bkc)) → Hid (Reg F wr (some T) w') → Hid ((put6 w' T (.int .i64 SV.kd) (.bool SV.bo) (.int .i64 SV.nu) (.string SV.tx) (.slice ba SV.its.length bc) (.slice bk SV.kys.length bkc)).heap[T]? = some (box6 SV ba bc bk bkc) ∧ VAt (veil (fun k => decide (k = T ∨ k ≤ F)) (put6 w' T (.int .i64 SV.kd) (.bool SV.bo) (.int .i64 SV.nu) (.string SV.tx) (.slice ba SV.its.length bc) (.slice bk SV.kys.length bkc))) SV (vcs SV ba bc bk bkc) ∧ Below wr.heap.size wr (put6 w' T (.int .i64 SV.kd) (.bool SV.bo) (.int .i64 SV.nu) (.string SV.tx) (.slice ba SV.its.length bc) (.slice bk SV.kys.length bkc)) ∧ wr.heap.size ≤ T)) := fun w' T ba bc bk bkc h1 h2 => h2.out.end2 h1.out
        unfold put6 at HEND2 HSP
        clear HI HVAL hSV hS1 HC HN HKN
        go_upto_region 25 with fail
        go_cut [12] from 94 to 100 (fun v12 wx => ∃ (T : Nat) (xa : Option Addr) (xc : Nat) (xk : Option Addr) (xkc : Nat), v12 = .pointer (some ⟨T, 0, none⟩) ∧ Hid (wx.heap[T]? = some (box6 SV xa xc xk xkc) ∧ VAt (veil (fun k => decide (k = T ∨ k ≤ F)) wx) SV (vcs SV xa xc xk xkc) ∧ Below wr.heap.size wr wx ∧ wr.heap.size ≤ T))
        case first =>
          clear r0 r1 r2 r3 r4 r5 q1
          go_region_held3 (fun w' => w'.cell? ⟨F, 0, none⟩ = some (.int .i64 5) ∧ w'.cell? ⟨F, 1, none⟩ = some (.bool false) ∧ w'.cell? ⟨F, 2, none⟩ = some (.int .i64 0) ∧ w'.cell? ⟨F, 3, none⟩ = some (.string ⟨#[]⟩) ∧ w'.cell? ⟨F, 4, none⟩ = some (.slice va fs.length vc) ∧ w'.cell? ⟨F, 5, none⟩ = some (.slice none 0 0) ∧ w'.cell? ⟨w.heap.size, 1, none⟩ = some (.bool sb)) (first | (with_reducible exact HS0.out _ _ (by assumption)) | (with_reducible exact HSN.out _ _ (by assumption)) | (with_reducible exact HSP.out _ _ (by assumption) _ _ _ _))
            (first | (go_at_call 20; (first | (with_reducible refine (CY.out _ _ (by assumption)).mono ?_) | (with_reducible refine (CY.out _ _ (HENT.out _ (by assumption))).mono ?_)); rintro e w' ⟨rfl, HQ, HV, HZ⟩; (try obtain ⟨⟨t0, t1, t2, t3, t4, t5⟩, g0, g1, g2, g3, g4, g5⟩ := HZ _ rfl); (try first | have HV2 := HV.out _ _ (by assumption) | have HV2 := HV.out _ _ (HENV.out _ _ _ (by assumption)))) | (go_at_call 17; (first | (with_reducible refine (CP1.out _ _ (by assumption)).mono ?_) | (with_reducible refine (CP1.out _ _ (HENT.out _ (by assumption))).mono ?_)); rintro e w' ⟨ya, yc, yk, ykc, rfl, HV1, HQ, HZ⟩; (try obtain ⟨⟨t0, t1, t2, t3, t4, t5⟩, g0, g1, g2, g3, g4, g5⟩ := HZ _ rfl)) | (go_at_call 17; (first | (with_reducible refine (CP2.out _ _ _ _ _ _ (by assumption) (by assumption)).mono ?_) | (with_reducible refine (CP2.out _ _ _ _ _ _ (HENT.out _ (by assumption)) (HENV.out _ _ _ (by assumption))).mono ?_)); rintro e w' ⟨ba, bc, bk, bkc, rfl, HVF, HQF, HZ⟩; (try obtain ⟨⟨t0, t1, t2, t3, t4, t5⟩, g0, g1, g2, g3, g4, g5⟩ := HZ _ rfl)))
          all_goals
            first
            | (have HE := HEND.out _ _ _ _ _ HVF HQF
               clear HTF CP1 CP2 CY HEND HEND2 HVF HQF HS0 HSP HSN HENT HENV
               go_wp2_with fail
               go_meet
               exact ⟨_, ba, bc, bk, bkc, rfl, HE⟩)
            | (have HE := HEND2.out _ _ _ _ _ _ HVF HQF
               clear HTF CP1 CP2 CY HEND HEND2 HVF HQF HS0 HSP HSN HENT HENV
               go_wp2_with fail
               go_meet
               exact ⟨_, ba, bc, bk, bkc, rfl, HE⟩)
        case rest =>
        clear HTF CP1 CP2 CY HEND HEND2 HS0 HSP HSN HENT HENV HR0 HR1 r0 r1 r2 r3 r4 r5 q1
        obtain ⟨T, xa, xc, xk, xkc, rfl, HE⟩ := hcut
        have hbx := HE.out.1
        unfold box6 at hbx
        obtain ⟨r0, r1, r2, r3, r4, r5⟩ := six_of_block hbx
        have HCK : Hid (Calls Tryz.prog 13 #[.agg #[.int .i64 SV.kd, .bool SV.bo, .int .i64 SV.nu, .string SV.tx, .slice xa SV.its.length xc, .slice xk SV.kys.length xkc]] wc fun e w' => ∃ c : Int, e = .returned (.int .i64 c) ∧ (c = 0 ↔ SV.okc) ∧ Below wc.heap.size wc w') := check_any SV (by rw [HSV.out]; exact schemaV_nodes fs sb HFO.out.1 HNN.out) _ wc (HE.out.2.1.keeps (Keeps.bare _ _))
        have HBX := Lib.hid hbx
        have HBC : Hid (Below w.heap.size w wc) := HBW.out.trans (HE.out.2.2.1.mono HBW.out.size)
        have hTs : T < wc.heap.size := (Array.getElem?_eq_some_iff.1 hbx).1
        have HZC : Hid (wc.heap[w.heap.size + 1]? = some box0) := (HE.out.2.2.1.block _ (by omega)).trans HB0.out
        clear hbx HB0
        go_wp2_with fail
        refine HCK.out.mono ?_
        rintro e w5 ⟨c, rfl, hc, hb5⟩
        have HB5 : Hid (Below w.heap.size w w5) := HBC.out.trans (hb5.mono HBC.out.size)
        have HX5 := Lib.hid ((hb5.block _ hTs).trans HBX.out)
        have HZ5 := Lib.hid ((hb5.block _ (by have := HE.out.2.2.2; omega)).trans HZC.out)
        have HV5 := Lib.hid (HE.out.2.1.keeps (Keeps.belows hb5))
        have HCC := Lib.hid hc
        unfold box0 at HZ5
        clear r0 r1 r2 r3 r4 r5 HCK hb5 HBX HZC HE HBC
        obtain ⟨r0, r1, r2, r3, r4, r5⟩ := six_of_block HX5.out
        obtain ⟨t0, t1, t2, t3, t4, t5⟩ := six_of_block HZ5.out
        obtain ⟨g0, g1, g2, g3, g4, g5⟩ := six_open HZ5.out
        by_cases hc0 : c = 0
        · subst hc0
          clear hc
          go_wp2_with fail
          have hput := put6_at (a := .int .i64 SV.kd) (b := .bool SV.bo) (c := .int .i64 SV.nu) (d := .string SV.tx) (e := .slice xa SV.its.length xc) (f := .slice xk SV.kys.length xkc) rfl HZ5.out
          have hbel := put6_below (a := .int .i64 SV.kd) (b := .bool SV.bo) (c := .int .i64 SV.nu) (d := .string SV.tx) (e := .slice xa SV.its.length xc) (f := .slice xk SV.kys.length xkc) HB5.out (by omega : w.heap.size ≤ w.heap.size + 1)
          have hat : VAt (put6 w5 (w.heap.size + 1) (.int .i64 SV.kd) (.bool SV.bo) (.int .i64 SV.nu) (.string SV.tx) (.slice xa SV.its.length xc) (.slice xk SV.kys.length xkc)) SV (vcs SV xa xc xk xkc) := (HV5.out.keeps (Keeps.veils (S' := fun _ => false) (by rw [put6_size]; exact Nat.le_refl _) fun k hk hs => ⟨rfl, put6_other (by simp at hs; omega)⟩)).keeps (Keeps.bare _ _)
          unfold put6 at hput hbel hat
          generalize hwf : World.setCell _ _ _ = wf at hput hbel hat ⊢
          clear hwf g0 g1 g2 g3 g4 g5 t0 t1 t2 t3 t4 t5 r0 r1 r2 r3 r4 r5
          obtain ⟨s0, s1, s2, s3, s4, s5⟩ := six_of_block hput
          refine bodyPost_ret (v := .tuple #[.agg (vcs SV xa xc xk xkc).toArray, .int .i64 0]) (by simp [results, Tryz.results8, go_sem, vcs, s0, s1, s2, s3, s4, s5] <;> rfl) rfl ⟨0, _, rfl, hbel, .inr ⟨rfl, HFO.out, by rw [← HSV.out]; exact HCC.out.1 (by trivial), by rw [← HSV.out]; exact hat⟩, fun _ _ => rfl⟩
        · have hq : (c != 0) = true := by rw [bne_iff_ne]; exact hc0
          have HC0 := Lib.hid hc0
          clear hc hc0
          go_wp2_with fail
          have hput := put6_at (a := .int .i64 0) (b := .bool false) (c := .int .i64 0) (d := .string ⟨#[]⟩) (e := .slice none 0 0) (f := .slice none 0 0) rfl HZ5.out
          have hbel := put6_below (a := .int .i64 0) (b := .bool false) (c := .int .i64 0) (d := .string ⟨#[]⟩) (e := .slice none 0 0) (f := .slice none 0 0) HB5.out (by omega : w.heap.size ≤ w.heap.size + 1)
          unfold put6 at hput hbel
          generalize hwf : World.setCell _ _ _ = wf at hput hbel ⊢
          clear hwf g0 g1 g2 g3 g4 g5 t0 t1 t2 t3 t4 t5 r0 r1 r2 r3 r4 r5
          obtain ⟨s0, s1, s2, s3, s4, s5⟩ := six_of_block hput
          refine bodyPost_ret (v := .tuple #[.agg zv.toArray, .int .i64 c]) (by simp [results, Tryz.results8, go_sem, zv, s0, s1, s2, s3, s4, s5] <;> rfl) rfl ⟨c, zv, rfl, hbel, .inl ⟨HC0.out, rfl⟩, fun _ h => absurd (HCC.out.2 (by rw [HSV.out]; exact h)) HC0.out⟩
  · have hq : (c != 0) = true := by rw [bne_iff_ne]; exact hc0
    have HC0 := Lib.hid hc0
    have HCC := Lib.hid hc
    have HZ := HZ1
    unfold box0 at HZ
    obtain ⟨t0, t1, t2, t3, t4, t5⟩ := six_of_block HZ.out
    obtain ⟨g0, g1, g2, g3, g4, g5⟩ := six_open HZ.out
    clear hc hc0
    go_wp2_with fail
    have hput := put6_at (a := .int .i64 0) (b := .bool false) (c := .int .i64 0) (d := .string ⟨#[]⟩) (e := .slice none 0 0) (f := .slice none 0 0) rfl HZ.out
    have hbel := put6_below (a := .int .i64 0) (b := .bool false) (c := .int .i64 0) (d := .string ⟨#[]⟩) (e := .slice none 0 0) (f := .slice none 0 0) HB1.out (by omega : w.heap.size ≤ w.heap.size + 1)
    unfold put6 at hput hbel
    generalize hwf : World.setCell _ _ _ = wf at hput hbel ⊢
    clear hwf g0 g1 g2 g3 g4 g5 t0 t1 t2 t3 t4 t5
    obtain ⟨s0, s1, s2, s3, s4, s5⟩ := six_of_block hput
    refine bodyPost_ret (v := .tuple #[.agg zv.toArray, .int .i64 c]) (by simp [results, Tryz.results8, go_sem, zv, s0, s1, s2, s3, s4, s5] <;> rfl) rfl ⟨c, zv, rfl, hbel, .inl ⟨HC0.out, rfl⟩, fun h _ => absurd (HCC.out.2 h) HC0.out⟩
end Go.Proofs.YtejnoedlfbglcaaGreatDoor
