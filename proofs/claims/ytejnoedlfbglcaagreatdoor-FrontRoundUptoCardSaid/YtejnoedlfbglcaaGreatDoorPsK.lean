/- (*parser).list, the walk. Conditions: what value reads one level deeper. -/
import Derived.Test.YtejnoedlfbglcaaGreatDoorPsI
import Derived.IntWalk
namespace Go.Proofs.YtejnoedlfbglcaaGreatDoor
open Go.RowKit Mh
set_option linter.unusedVariables false

def listBox (v : Value) : Obj := .cells #[.int .i64 5, .bool false, .int .i64 0, .string ⟨#[]⟩, v, .slice none 0 0] 29 (0, 0)
theorem EvAt.kept {w w' : World} {Q : Nat} (h : EvAt w) (hk : Kept [Q] w w') (hQ : 3 < Q) : EvAt w' := by
  have h3 := h.size
  obtain ⟨tp, p, h⟩ := h
  refine ⟨tp, p, ?_⟩
  rw [World.cell?_of_block (a := ⟨3, 0, none⟩) (hk.block 3 (by omega) (by simp; omega))]
  exact h
theorem next_at (Q T : Nat) (s : ByteArray) (q : Ps) (lines : Bool) (w : World) (h : PsAt Q T s q w) (he : q.e = 0) (hi : q.i ≤ s.size) (hs : s.size ≤ 1000000000) :
    Calls Tryz.prog 30 #[.pointer (some ⟨Q, 0, none⟩), .bool lines] w fun en w' => ∃ q', en = .returned (.tuple #[]) ∧ Hid (PsAt Q T s q' w' ∧ Kept [Q] w w' ∧ Scan s q q' (nextF lines false (s.data.toList.drop q.i))) :=
  (next_any Q T s q lines w h he hi hs).mono fun en w' ⟨e, q', hh⟩ => ⟨q', e, hh⟩
theorem LiIn.cells {Q T : Nat} {s : ByteArray} {w wr : World} {q : Ps} {va : Option Addr} {vc : Nat} {xs : List V} {rows : List Value} (h : LiIn Q T s w wr q (.slice va xs.length vc) xs rows) :
    (wr.cell? ⟨w.heap.size + 1, 0, none⟩ = some (.int .i64 5) ∧ wr.cell? ⟨w.heap.size + 1, 1, none⟩ = some (.bool false) ∧ wr.cell? ⟨w.heap.size + 1, 2, none⟩ = some (.int .i64 0) ∧ wr.cell? ⟨w.heap.size + 1, 3, none⟩ = some (.string ⟨#[]⟩) ∧ wr.cell? ⟨w.heap.size + 1, 4, none⟩ = some (.slice va xs.length vc) ∧ wr.cell? ⟨w.heap.size + 1, 5, none⟩ = some (.slice none 0 0)) := six_of_block h.bx
theorem LiIn.box_on {Q T : Nat} {s : ByteArray} {w wr w3 : World} {q : Ps} {v : Value} {xs : List V} {rows : List Value} (h : LiIn Q T s w wr q v xs rows) (ob : Obj) (hg : (wr.alloc ob).grownBy w3 v.ownBlock) :
    w3.heap[w.heap.size + 1]? = some (.cells #[.int .i64 5, .bool false, .int .i64 0, .string ⟨#[]⟩, v, .slice none 0 0] 29 (0, 0)) := by
  have hz := h.size
  refine (hg.block _ (by simp; omega) (fun e => ?_)).trans ((heap_alloc_old _ _ (by omega)).trans h.bx)
  have := (h.own.lt _ e.symm).1
  omega
theorem LiIn.done {Q T : Nat} {s : ByteArray} {w wr : World} {q : Ps} {v : Value} {xs : List V} {rows : List Value} (h : LiIn Q T s w wr q v xs rows) (hQ : Q < w.heap.size) :
    PsAt Q T s q (put6 wr w.heap.size (.int .i64 5) (.bool false) (.int .i64 0) (.string ⟨#[]⟩) v (.slice none 0 0)) ∧ Kept [Q] w (put6 wr w.heap.size (.int .i64 5) (.bool false) (.int .i64 0) (.string ⟨#[]⟩) v (.slice none 0 0)) ∧
    VAt (veil (oldS w) (put6 wr w.heap.size (.int .i64 5) (.bool false) (.int .i64 0) (.string ⟨#[]⟩) v (.slice none 0 0))) (.mk 5 false 0 ⟨#[]⟩ xs []) [.int .i64 5, .bool false, .int .i64 0, .string ⟨#[]⟩, v, .slice none 0 0] := by
  have hz := h.size
  refine ⟨(put6_other (by omega)).trans h.p, ?_, ?_⟩
  · unfold put6
    exact (((((h.kept.setNew _ _ (Nat.le_refl _) _).setNew _ _ (Nat.le_refl _) _).setNew _ _ (Nat.le_refl _) _).setNew _ _ (Nat.le_refl _) _).setNew _ _ (Nat.le_refl _) _).setNew _ _ (Nat.le_refl _) _
  · have hK : Keeps (veil (own1 (lowS w 2) v) wr) (veil (oldS w) (put6 wr w.heap.size (.int .i64 5) (.bool false) (.int .i64 0) (.string ⟨#[]⟩) v (.slice none 0 0))) := by
      refine Keeps.veils (by rw [put6_size]; exact Nat.le_refl _) fun k hk hs => ?_
      have h1 := (own1_false.1 hs).1
      simp [lowS] at h1
      exact ⟨oldS_ge _ _ (by omega), put6_other (by omega)⟩
    refine VAt.made (X := .mk 5 false 0 ⟨#[]⟩ xs []) rfl rfl (Nat.zero_le _) ⟨⟨rfl, .inl ⟨rfl, none, 0, rfl⟩⟩, by simp [V.kys]⟩ (Sl.of_own_veil (own_put6Low h.own (by omega)) (by decide) fun b hb => oldS_ge _ _ (by omega)) (h.at_.keeps hK)
set_option maxRecDepth 100000 in
set_option maxHeartbeats 2000000 in
theorem list_any (d : Nat) (hd : d ≤ 7) (HV0 : ValueOk d) : ListOk d := by
  intro Q T s q k w hp he hi hvs hk hs hev hQ2
  have HV := Lib.hid (HV0 Q T s)
  have hQ : Q < w.heap.size := (Array.getElem?_eq_some_iff.1 hp).1
  have h3 := hev.size
  have HEV := Lib.hid hev
  have HP := Lib.hid hp
  have HE := Lib.hid he
  have HVS := Lib.hid hvs
  have H0 : Hid (LiIn Q T s w ((w.alloc box0).alloc (listBox (.slice none 0 0))) q (.slice none 0 0) [] []) := by
    refine ⟨(heap_alloc_old _ _ (by simp; omega)).trans ((heap_alloc_old _ _ (by omega)).trans HP.out), ((Kept.refl _ _).alloc _).alloc _, World.ownsRow_nil _ _ _ _, by simp [VsAt], heap_new_at (by simp), (heap_alloc_old _ _ (by simp)).trans (heap_alloc_new _ _), by simp⟩
  have HN0 := Lib.hid (next_at Q T s q true _ H0.out.p he hi hs)
  have HO : Hid (∀ q', Scan s q q' (nextF true false (s.data.toList.drop q.i)) → LiSt d s (listF (valueF d) ((s.data.toList.drop q.i).length + 1) (s.data.toList.drop q.i) k []) q' []) := fun q' h => LiSt.next h hvs hk (by simp) (by rw [drop_len]; omega) rfl
  generalize ho : listF (valueF d) ((s.data.toList.drop q.i).length + 1) (s.data.toList.drop q.i) k [] = o at *
  unfold box0 listBox at HN0 H0
  clear HV0 hp he hvs ho hev
  obtain ⟨L, hL⟩ : ∃ L : Int, L = 8 - (d : Int) := ⟨_, rfl⟩
  have hL9 : (9 : Int) - d = L + 1 := by omega
  have hL1 : 1 ≤ L := by omega
  have hL2 : L ≤ 8 := by omega
  rw [← hL]
  rw [hL9] at HV
  clear hL hL9
  have hwr : IntKind.i64.wrap (L + 1) = L + 1 := IntWalk.i64_in _ (by omega)
  obtain ⟨vi, hvi, hv0, hv1, hv2⟩ := info_parts infoValue
  go_enter Tryz.func68, Tryz.ntmps68
  go_wp2_with (go_at_call 30; refine HN0.out.mono ?_; rintro e w1 ⟨q1, rfl, H1⟩)
  have HI0 := Lib.hid (H0.out.on hQ H1.out.1 H1.out.2.1)
  have HS0 := Lib.hid (HO.out _ H1.out.2.2)
  clear H0 H1 HN0 HO
  go_loopw [] (fun wr => ∃ (q1 : Ps) (v : Value) (xs : List V) (rows : List Value), Hid (LiIn Q T s w wr q1 v xs rows) ∧ Hid (LiSt d s o q1 xs)) (fun wr => muW Q s wr)
  case atStart => exact ⟨q1, .slice none 0 0, [], [], HI0, HS0⟩
  case round =>
    clear HI0 HS0
    obtain ⟨q1, v, xs, rows, HI, HS⟩ := hrel
    obtain ⟨va, vc, rfl⟩ := ownsRow_form HI.out.own
    obtain ⟨c0, c1, c2, c3, c4, c5, c6, c7, fz⟩ := HI.out.p.cells
    have HMU := Lib.hid HI.out.p.mu
    by_cases he : q1.e = 0
    · have be : (q1.e == 0) = true := by rw [he]; rfl
      have HE1 := Lib.hid he
      rcases HS.out with ⟨h, _⟩ | ⟨_, tok, n, k1, htk, hi1, hvs1, hk1, hx1, hn1, ho1⟩
      · exact absurd he h
      cases hsh : tok.shut with
      | true =>
        have b93 : (q1.k != 93) = false := by
          have := tk_shut htk.2.2.2.1
          rw [hsh] at this
          rw [bne_eq_false_iff_eq, htk.1]
          exact (beq_iff_eq.1 this.symm)
        have HFO : Hid (o = some (xs, s.data.toList.drop q1.i, k1)) := by
          show _ = _
          rw [ho1]
          unfold listG
          rw [if_pos hsh]
        have HE1 := Lib.hid he
        have HV1 := Lib.hid hvs1
        clear he hsh htk ho1 hvs1
        have hb0 := HI.out.b0
        unfold box0 at hb0
        obtain ⟨d0, d1, d2, d3, d4, d5⟩ := six_of_block hb0
        obtain ⟨f0, f1, f2, f3, f4, f5⟩ := six_open hb0
        obtain ⟨b0, b1, b2, b3, b4, b5⟩ := HI.out.cells
        clear hb0
        go_wp2_with fail
        have hfin := HI.out.done hQ
        have hput := put6_at (a := .int .i64 5) (b := .bool false) (c := .int .i64 0) (d := .string ⟨#[]⟩) (e := .slice va xs.length vc) (f := .slice none 0 0) rfl (by have := HI.out.b0; unfold box0 at this; exact this)
        unfold put6 at hfin hput
        generalize hwf : World.setCell _ _ _ = wf at hfin hput ⊢
        clear hwf f0 f1 f2 f3 f4 f5 d0 d1 d2 d3 d4 d5 b0 b1 b2 b3 b4 b5
        obtain ⟨s0, s1, s2, s3, s4, s5⟩ := six_of_block hput
        exact bodyPost_ret (v := .agg #[.int .i64 5, .bool false, .int .i64 0, .string ⟨#[]⟩, .slice va xs.length vc, .slice none 0 0]) (by simp [results, Tryz.results68, go_sem, s0, s1, s2, s3, s4, s5] <;> rfl) rfl ⟨q1, _, [.int .i64 5, .bool false, .int .i64 0, .string ⟨#[]⟩, .slice va xs.length vc, .slice none 0 0], rfl, hfin.1, hfin.2.1, hfin.2.2, by rw [HFO.out]; exact ⟨HE1.out, hi1, rfl, HV1.out, rfl⟩⟩
      | false =>
        have b93 : (q1.k != 93) = true := by
          have := tk_shut htk.2.2.2.1
          rw [hsh] at this
          rw [bne_iff_ne, htk.1]
          exact (beq_eq_false_iff_ne.1 this.symm)
        obtain ⟨b0, b1, b2, b3, b4, b5⟩ := HI.out.cells
        have HB := Lib.hid HI.out.bx
        have HCB := Lib.hid (HV.out q1 tok k1 wr.drew HI.out.p he hi1 htk hvs1 hk1 hs ((HEV.out.kept HI.out.kept hQ2).kept (Kept.refl _ _).drew hQ2) hQ2)
        have HT := Lib.hid htk
        have HO1 := Lib.hid ho1
        have HVS1 := Lib.hid hvs1
        clear he hsh htk ho1 hvs1
        go_wp2_with fail
        have hxs := hx1
        go_cut [] from 30 to 39 (fun wx => ∃ (q2 : Ps) (X : V) (ys : List V) (v : Value) (rows' : List Value), Hid (ys = xs ++ [X]) ∧ Hid (LiIn Q T s w wx q2 v ys rows') ∧ Hid (Answer s q2 X (valueF d tok (s.data.toList.drop q1.i) k1)))
        case first =>
          go_region_law (first | (refine step_append_sl _ rfl _ _ 26 rfl (w.heap.size + 2) 29 vi (.agg #[.int .i64 0, .bool false, .int .i64 0, .string ⟨#[]⟩, .slice none 0 0, .slice none 0 0]) 6 88 Tryz.underlying26 hvi hv0 hv1 hv2 rfl (by decide) (.slice va xs.length vc) xs.length rows rfl HROW.out _ 1 _ rfl HNEW.out (six_ones _ _ _ _ _) (by unfold maxLen; omega) (by omega) HZ2.out ?_; intro v3 w3 hown3 hgr3 hat3; obtain ⟨a3, c3, rfl⟩ := ownsRow_form hown3; have hb3 := HB3.out _ hgr3; obtain ⟨b0, b1, b2, b3, b4, b5⟩ := six_of_block hb3; obtain ⟨e0, e1, e2, e3, e4, e5⟩ := six_open hb3; clear hb3; have H3 := Lib.hid (And.intro hown3 (And.intro hgr3 hat3)); clear hown3 hgr3 hat3) | (go_simp; go_at_call 50; (with_reducible refine HCB.out.mono ?_); rintro e w2 ⟨q2, X, cs, rfl, hp2, hk2, hx2, ha2⟩; obtain ⟨xa, xc, xk, xkc, rfl, _⟩ := hx2.opened; rw [vcs_arr]; have hk2 := (Kept.refl [Q] wr).drew.trans hk2; have HL2 := Lib.hid (HI.out.on hQ hp2 hk2); have hz2 : w.heap.size + 1 < w2.heap.size := HL2.out.size; have H2 := Lib.hid (And.intro hp2 (And.intro hk2 (And.intro hx2 ha2))); have HROW := Lib.hid (HL2.out.own.alloc (.cells (vcs X xa xc xk xkc).toArray 29)); have HNEW := Lib.hid (Sl.lit w2 (vcs X xa xc xk xkc) 29 6 rfl); rw [vcs_arr] at HROW HNEW; have HZ2 : Hid (w.heap.size + 2 ≤ (w2.alloc (.cells (vcs X xa xc xk xkc).toArray 29)).heap.size) := Nat.le_trans HL2.out.size (by simp); rw [vcs_arr] at HZ2; have HB3 := Lib.hid (fun w3 h => HL2.out.box_on (.cells (vcs X xa xc xk xkc).toArray 29) (w3 := w3) h); rw [vcs_arr] at HB3; obtain ⟨b0, b1, b2, b3, b4, b5⟩ := HL2.out.cells; obtain ⟨e0, e1, e2, e3, e4, e5⟩ := six_open HL2.out.bx; clear hp2 hk2 hx2 ha2))
          all_goals (have HF := Lib.hid (HI.out.more hQ H2.out.1 H2.out.2.1 H2.out.2.2.1 H3.out.1 H3.out.2.1 H3.out.2.2); go_wp2_with fail; go_meet; exact ⟨q2, X, _, _, _, Lib.hid rfl, HF, H2.out.2.2.2⟩)
        case rest =>
          clear HCB b0 b1 b2 b3 b4 b5 c0 c1 c2 c3 c4 c5 c6 c7 fz
          obtain ⟨q2, X, ys, v, rows', HY, HI2, HA⟩ := hcut
          obtain ⟨va2, vc2, rfl⟩ := ownsRow_form HI2.out.own
          obtain ⟨c0, c1, c2, c3, c4, c5, c6, c7, fz⟩ := HI2.out.p.cells
          have hyl : ys.length ≤ xs.length + 1 := by rw [HY.out]; simp
          by_cases he2 : q2.e = 0
          · have be2 : (q2.e != 0) = false := by rw [bne_eq_false_iff_eq]; exact he2
            have HNX : Hid (tok ≠ .fin ∧ ∃ k3 : Nat, q2.i ≤ s.size ∧ q1.i ≤ q2.i ∧ q2.vs = (k3 : Int) ∧ k1 < k3 ∧ k3 ≤ 1000 ∧ s.size - q2.i + 1 ≤ n ∧ o = listF (valueF d) n (s.data.toList.drop q2.i) k3 ys) := by
              have h1 := HA.out
              have h2 := HO1.out
              cases hv : valueF d tok (s.data.toList.drop q1.i) k1 with
              | none => rw [hv] at h1; exact absurd he2 h1.1
              | some p =>
                obtain ⟨x, r3, k3⟩ := p
                rw [hv] at h1
                obtain ⟨g1, g2, g3, g4, rfl⟩ := h1
                obtain ⟨t1, t2, t3, t4, t5⟩ := takes_value d _ _ _ _ _ _ hv
                rw [← g3, drop_len, drop_len] at t3
                have hn := hn1 t1
                refine ⟨t1, k3, g2, by omega, g4, t4, t5, by omega, ?_⟩
                rw [h2]
                simp only [listG]
                rw [if_neg (by rw [t2]; simp), hv, g3, HY.out]
            clear HA HO1
            obtain ⟨hnf, k3, hi2, hi12, hvs2, hk12, hk3, hn3, ho3⟩ := HNX.out
            have HN := Lib.hid (next_at Q T s q2 true wc HI2.out.p he2 hi2 hs)
            have HE2 := Lib.hid he2
            have HV2 := Lib.hid hvs2
            have HO3 := Lib.hid ho3
            clear hvs2 ho3 he2 HNX
            go_wp2_with (go_at_call 30; refine HN.out.mono ?_; rintro e w4 ⟨q4, rfl, H4⟩)
            have HI4 := Lib.hid (HI2.out.on hQ H4.out.1 H4.out.2.1)
            have HS4 : Hid (LiSt d s o q4 ys) := LiSt.next H4.out.2.2 HV2.out hk3 (by omega) hn3 HO3.out
            have HM : Hid (muP s q4 < muP s q1) := H4.out.2.2.mu hi12 HE1.out hi2 (fun e => hnf ((tk_fin HT.out.2.2.2.1).1 (HT.out.1.symm.trans e)))
            go_roundw
            case rel => exact ⟨q4, _, ys, rows', HI4, HS4⟩
            case measure => rw [HMU.out, HI4.out.p.mu]; exact HM.out
          · have be2 : (q2.e != 0) = true := by rw [bne_iff_ne]; exact he2
            have HNO : Hid (o = none ∧ 0 ≤ q2.at_ ∧ q2.at_ ≤ s.size) := by
              have h1 := HA.out
              have h2 := HO1.out
              have hs93 : tok.shut = false := by rw [tk_shut HT.out.2.2.2.1, beq_eq_false_iff_ne, ← HT.out.1]; rw [bne_iff_ne] at b93; exact b93
              cases hv : valueF d tok (s.data.toList.drop q1.i) k1 with
              | none =>
                rw [hv] at h1
                refine ⟨?_, h1.2⟩
                rw [h2]
                simp only [listG]
                rw [if_neg (by rw [hs93]; simp), hv]
              | some p =>
                obtain ⟨x, r3, k3⟩ := p
                rw [hv] at h1
                exact absurd h1.1 he2
            have HE2 := Lib.hid he2
            clear HA HO1 he2
            have hb0 := HI2.out.b0
            unfold box0 at hb0
            obtain ⟨d0, d1, d2, d3, d4, d5⟩ := six_of_block hb0
            obtain ⟨f0, f1, f2, f3, f4, f5⟩ := six_open hb0
            obtain ⟨b0, b1, b2, b3, b4, b5⟩ := HI2.out.cells
            clear hb0
            go_wp2_with fail
            have hfin := HI2.out.done hQ
            have hput := put6_at (a := .int .i64 5) (b := .bool false) (c := .int .i64 0) (d := .string ⟨#[]⟩) (e := .slice va2 ys.length vc2) (f := .slice none 0 0) rfl (by have := HI2.out.b0; unfold box0 at this; exact this)
            unfold put6 at hfin hput
            generalize hwf : World.setCell _ _ _ = wf at hfin hput ⊢
            clear hwf f0 f1 f2 f3 f4 f5 d0 d1 d2 d3 d4 d5 b0 b1 b2 b3 b4 b5
            obtain ⟨s0, s1, s2, s3, s4, s5⟩ := six_of_block hput
            exact bodyPost_ret (v := .agg #[.int .i64 5, .bool false, .int .i64 0, .string ⟨#[]⟩, .slice va2 ys.length vc2, .slice none 0 0]) (by simp [results, Tryz.results68, go_sem, s0, s1, s2, s3, s4, s5] <;> rfl) rfl ⟨q2, _, [.int .i64 5, .bool false, .int .i64 0, .string ⟨#[]⟩, .slice va2 ys.length vc2, .slice none 0 0], rfl, hfin.1, hfin.2.1, hfin.2.2, by rw [HNO.out.1]; exact ⟨HE2.out, HNO.out.2⟩⟩
    · have be : (q1.e == 0) = false := beq_false_of_ne he
      have HE1 := Lib.hid he
      have HNO : Hid (o = none ∧ 0 ≤ q1.at_ ∧ q1.at_ ≤ s.size) := by
        rcases HS.out with ⟨_, h⟩ | ⟨h, _⟩
        · exact h
        · exact absurd h HE1.out
      clear he
      have hb0 := HI.out.b0
      unfold box0 at hb0
      obtain ⟨d0, d1, d2, d3, d4, d5⟩ := six_of_block hb0
      obtain ⟨f0, f1, f2, f3, f4, f5⟩ := six_open hb0
      obtain ⟨b0, b1, b2, b3, b4, b5⟩ := HI.out.cells
      clear hb0
      go_wp2_with fail
      have hfin := HI.out.done hQ
      have hput := put6_at (a := .int .i64 5) (b := .bool false) (c := .int .i64 0) (d := .string ⟨#[]⟩) (e := .slice va xs.length vc) (f := .slice none 0 0) rfl (by have := HI.out.b0; unfold box0 at this; exact this)
      unfold put6 at hfin hput
      generalize hwf : World.setCell _ _ _ = wf at hfin hput ⊢
      clear hwf f0 f1 f2 f3 f4 f5 d0 d1 d2 d3 d4 d5 b0 b1 b2 b3 b4 b5
      obtain ⟨s0, s1, s2, s3, s4, s5⟩ := six_of_block hput
      exact bodyPost_ret (v := .agg #[.int .i64 5, .bool false, .int .i64 0, .string ⟨#[]⟩, .slice va xs.length vc, .slice none 0 0]) (by simp [results, Tryz.results68, go_sem, s0, s1, s2, s3, s4, s5] <;> rfl) rfl ⟨q1, _, [.int .i64 5, .bool false, .int .i64 0, .string ⟨#[]⟩, .slice va xs.length vc, .slice none 0 0], rfl, hfin.1, hfin.2.1, hfin.2.2, by rw [HNO.out.1]; exact ⟨HE1.out, HNO.out.2⟩⟩
end Go.Proofs.YtejnoedlfbglcaaGreatDoor
