/- asset.smaller over a row of tokens without neighbouring blanks. Conditions: where the tokens lie; how many there are. -/
import Derived.Test.YtckinhebbhflgaaTkM
import Derived.Maps.AppendAt
namespace Go.Proofs.Ytckinhebbhflgaa
open Go.RowKit Go.Shelf Mh
set_option linter.unusedVariables false
attribute [local go_sem] Oper.semAt_some

theorem singles_any (ao : Option Addr) (n c : Nat) (w : World) :
    Calls Try.prog 29 #[.slice ao n c] w fun e w' => e = .returned (.func (.func 37) #[] #[.pointer (some ⟨w.heap.size, 0, none⟩)]) ∧ w' = w.alloc (.cells #[.slice ao n c] 27) := by
  go_enter Try.func29, Try.ntmps29
  go_wp2
  go_ret
  exact ⟨rfl, rfl⟩
theorem TokB.below {n₀ : Nat} {A B : World} {ao : Option Addr} {L : List Tk} (h : TokB n₀ A ao L) (hb : Below n₀ A B) : TokB n₀ B ao L := fun k hk => by
  obtain ⟨b, off, h1, h2, h3, h4⟩ := h k hk
  exact ⟨b, off, h1, h2, (hb.cell (p := ⟨b, off + k * 2, none⟩) h2).trans h3, (hb.cell (p := ⟨b, off + k * 2 + 1, none⟩) h2).trans h4⟩
theorem singles_stops (Bs n₀ : Nat) (ao : Option Addr) (c : Nat) (L : List Tk) (hL : L.length ≤ 1000000) (hnb : NoBB L) (w : World) (hBs : Boxed w Bs 27 (.slice ao L.length c)) (hn₀ : n₀ ≤ w.heap.size) (hT : TokB n₀ w ao L) (n : Nat) (hn : 1 ≤ n) :
    SeqStopsK Fence.wide n Try.prog 37 #[.pointer (some ⟨Bs, 0, none⟩)] (fun x : Tk => #[.agg #[.int .i64 x.kind, .string ⟨x.text.toArray⟩]]) (KpS n₀ Bs) (fun ys => ys = L) (fun pre => pre <+: L) L.length w := fun l J Jx W hW hJ _ hY h0 =>
  singles1_in Fence.wide n trivial rfl hn l Bs n₀ ao c L hL hnb J Jx (fun s W o h => hJ s W _ none h (World.grownBy_alloc W o none) (fun r e => by cases e)) hY W ((hW.block Bs hBs.lt).trans hBs) (Nat.le_trans hn₀ hW.size) (hT.below (hW.mono hn₀)) h0
theorem kps_b {n₀ Bs : Nat} {w : World} (h : n₀ ≤ w.heap.size) (hb : Bs < w.heap.size) (W : World) (l : Nat) (o o' : Obj) (hl : w.heap.size ≤ l) (ho : W.heap[l]? = some o) (hc : o.isCells = false) (hw : o.isWalk = false) : KpS n₀ Bs W (W.putObj l o') :=
  ⟨belowK_b h W l o o' hl ho hc hw, fun u hu => hu.kept (grownBy_putObj' W l o') (fun e => by cases e; omega)⟩
theorem own_below {w w' : World} {base e k : Nat} {v : Value} {n : Nat} {xs : List Value} (h : w.ownsRow base e k v n xs) (hb : Below w.heap.size w w') : w'.ownsRow base e k v n xs := by
  refine ⟨h.1, ?_⟩
  rcases h.2 with h2 | ⟨g, cap, cur, rfl, hbg, hg, h4⟩
  · exact .inl h2
  · exact .inr ⟨g, cap, cur, rfl, hbg, (hb.block g (Array.getElem?_eq_some_iff.1 hg).1).trans hg, h4⟩
theorem prevT_succ (L : List Tk) (k : Nat) (h : k < L.length) : prevT L (k + 1) = some L[k] := by
  unfold prevT
  rw [if_neg (by omega), Nat.add_sub_cancel, List.getElem?_eq_getElem h]
theorem sm_keep {kind : Int} {L O R : List Tk} {k : Nat} (h : k < L.length) (hk : keep kind (prevT L k) L[k] (L.drop (k + 1)) = true) (he : O ++ sm kind (prevT L k) (L.drop k) = R) : (O ++ [L[k]]) ++ sm kind (prevT L (k + 1)) (L.drop (k + 1)) = R := by
  rw [← he, List.drop_eq_getElem_cons h, sm, if_pos hk, prevT_succ L k h, List.append_assoc]
  rfl
theorem sm_drop {kind : Int} {L O R : List Tk} {k : Nat} (h : k < L.length) (hk : keep kind (prevT L k) L[k] (L.drop (k + 1)) = false) (he : O ++ sm kind (prevT L k) (L.drop k) = R) : O ++ sm kind (prevT L (k + 1)) (L.drop (k + 1)) = R := by
  rw [← he, List.drop_eq_getElem_cons h, sm, if_neg (by rw [hk]; decide), prevT_succ L k h]
theorem keep_blank {kind : Int} {L : List Tk} {k : Nat} (h : k < L.length) (h4 : L[k].kind = 4) : keep kind (prevT L k) L[k] (L.drop (k + 1)) = needd kind (prevT L k) L[k + 1]? := by
  unfold keep
  rw [if_pos h4, List.head?_drop]
theorem keep_other {kind : Int} {L : List Tk} {k : Nat} (h : k < L.length) (h4 : L[k].kind ≠ 4) : keep kind (prevT L k) L[k] (L.drop (k + 1)) = !(decide (kind = 1) && (if L[k].kind = 4 then false else am L[k] [59] && ends (L.drop (k + 1)))) := by
  unfold keep
  rw [if_neg h4, if_neg h4, Bool.and_assoc]
theorem idRow_at (L : List Tk) (k : Nat) (h : k < L.length) : (idRow L 0)[k]? = some (.bool (if L[k].kind = 4 then false else am L[k] [59] && ends (L.drop (k + 1)))) := by
  unfold idRow
  rw [List.replicate_zero, List.nil_append, List.drop_zero, List.getElem?_map]
  have := idleL_drop L k h
  have h2 := congrArg (fun l => l[0]?) this
  simp only [List.getElem?_drop, List.getElem?_cons_zero, Nat.add_zero] at h2
  rw [h2]
  rfl
set_option maxRecDepth 100000 in
set_option maxHeartbeats 8000000 in
theorem smaller_any (kind : Int) (L : List Tk) (v : Value) (w : World) (h : Sl 2 w v L.length (rowsT L)) (hL : L.length ≤ 1000000) (hnb : NoBB L) :
    Calls Try.prog 13 #[.int .i64 kind, v] w fun e w' => ∃ v', e = .returned v' ∧ Sl 2 w' v' (sm kind none L).length (rowsT (sm kind none L)) ∧ Below w.heap.size w w' := by
  obtain ⟨i0, hi, iz0, iz1, iz2⟩ := info_token
  obtain ⟨ao, c, rfl, hk⟩ := tok_at h
  have HT : Hid (TokB w.heap.size w ao L) := hk
  have HNB := Lib.hid hnb
  clear h hk hnb
  refine (callsIn_wide (n := 6)).1 ?_
  refine callsIn_of_wp_marks Try.func13 rfl trivial ?_
  simp only [Try.ntmps13, List.size_toArray, List.length_cons, List.length_nil, Nat.reduceAdd, Nat.reduceSub, Array.replicate_succ, Array.replicate_zero, List.push_toArray, List.append_toArray, List.nil_append, List.cons_append]
  refine wpIn_wide.2 ?_
  go_wp2_with (go_at_call 29; refine (singles_any _ _ _ _).mono ?_; rintro e w' ⟨rfl, rfl⟩)
  have bS := (Boxed.new w 27 (.slice none 0 0)).alloc (.cells #[.slice ao L.length c] 27)
  have bL := Boxed.new (w.alloc (.cells #[.slice none 0 0] 27)) 27 (.slice ao L.length c)
  simp only [World.size_alloc] at bL
  have hB0 : Below w.heap.size w ((w.alloc (.cells #[.slice none 0 0] 27)).alloc (.cells #[.slice ao L.length c] 27)) := ((Below.refl _ w).alloc (Nat.le_refl _) _).alloc (by simp) _
  have hsz : ((w.alloc (.cells #[.slice none 0 0] 27)).alloc (.cells #[.slice ao L.length c] 27)).heap.size = w.heap.size + 2 := by simp
  obtain ⟨W0, hW0⟩ : ∃ W0, (w.alloc (.cells #[.slice none 0 0] 27)).alloc (.cells #[.slice ao L.length c] 27) = W0 := ⟨_, rfl⟩
  rw [hW0] at bS bL hB0 hsz ⊢
  clear hW0
  refine (wpIn_wide (n := 6)).1 ?_
  refine wpIn_rangeFunc_ownH rfl (by decide) (gf := 37) (lb := #[.pointer (some ⟨w.heap.size + 1, 0, none⟩)]) rfl trivial (enters_of Try.func37 (by kernel_rfl) rfl)
    (singles_stops (w.heap.size + 1) w.heap.size ao c L hL HNB.out W0 bL (by omega) (HT.out.below hB0) (6 - 1) (by decide)) (fun h k => KpS.trans h k) (kps_b (by omega) (by omega)) (Below.refl _ _) (fun _ => rfl)
    (fun pre W => ((∃ v', Boxed W w.heap.size 27 v' ∧ W.ownsRow w.heap.size 33 2 v' pre.length (rowsT pre) ∧ True) ∧ Boxed W (w.heap.size + 1) 27 (.slice ao L.length c)) ∧ Below w.heap.size w W)
    (fun _ _ _ => False)
    (OwnFrom.and (OwnFrom.and (Own.from (holdsRow_own w.heap.size w.heap.size 27 33 2 (fun pre : List Tk => pre.length) (fun pre => rowsT pre) (fun _ _ => True)) _) (Own.from (boxed_own _ _ _) _)) (ownFrom_below (Nat.le_refl _) (by omega)))
    (fun _ _ _ _ _ hs _ _ => hs)
    ⟨⟨⟨_, bS, World.ownsRow_nil _ _ _ _, trivial⟩, bL⟩, hB0⟩
    (fun x a' W => ∃ Bx, w.heap.size + 1 < Bx ∧ W.heap[Bx]? = some (.cells #[.int .i64 x.kind, .string ⟨x.text.toArray⟩] 33 (0, 0)) ∧ a' = { tmps := #[.int .i64 kind, .slice ao L.length c, undef, undef, .slice none 0 0, .pointer (some ⟨w.heap.size, 0, none⟩), .pointer (some ⟨Bx, 0, none⟩), undef, undef, undef, undef, .slice ao L.length c, .func (.func 37) #[] #[.pointer (some ⟨w.heap.size + 1, 0, none⟩)], .agg #[.int .i64 x.kind, .string ⟨x.text.toArray⟩], undef, undef, undef, undef, undef, undef, undef, undef, undef, undef, undef, undef, undef, undef, undef, undef, undef, undef, undef, undef, undef, undef, undef, undef, undef, undef, undef, undef, undef, undef, undef, undef, undef, undef, undef, undef, undef, undef, undef], defers := [] })
    (fun x a' _ X Y row hs hg hr => by
      obtain ⟨Bx, h1, h2, h3⟩ := hs
      refine ⟨Bx, h1, (hg.block Bx (Array.getElem?_eq_some_iff.1 h2).1 (fun e => ?_)).trans h2, h3⟩
      obtain ⟨_, o, ho, hc⟩ := hr Bx e.symm
      rw [h2] at ho
      cases ho
      cases hc)
    ?assign ?body ?done ?stop
  case assign =>
    rintro l pre x W K ⟨⟨⟨v', hv, hrow, _⟩, hbl⟩, hB⟩ hK
    have hlt := hbl.lt
    have hH := fun (a' : Act) => hK a' (W.alloc (.cells #[.int .i64 x.kind, .string ⟨x.text.toArray⟩] 33)) ((KeepsOthers.alloc _ _).from _) ⟨(Below.refl _ W).alloc hB.size _, fun u hu => hu.alloc _⟩ ⟨⟨⟨v', hv.alloc _, hrow.alloc _, trivial⟩, hbl.alloc _⟩, hB.alloc hB.size _⟩ 
    have HH := Lib.hid hH
    clear hK hH hv hrow hbl
    gi_wp2
    exact HH.out _ ⟨W.heap.size, hlt, heap_alloc_new _ _, rfl⟩
  case body =>
    rintro l pre x a' W hl ⟨r, hr⟩ ⟨⟨⟨v', hv, hrow, _⟩, hbl⟩, hB⟩ ⟨Bx, hBx, hX, rfl⟩ hlt
    have hc := hv.cell
    have x0 : W.cell? ⟨Bx, 0, none⟩ = some (.int .i64 x.kind) := cellT hX rfl
    have x1 : W.cell? ⟨Bx, 1, none⟩ = some (.string ⟨x.text.toArray⟩) := cellT hX rfl
    have HBL := Lib.hid hbl
    have HRW := Lib.hid hrow
    have HV := Lib.hid hv
    have HX := Lib.hid hX
    have HR := Lib.hid hr
    have HB := Lib.hid hB
    have hzw := hB.size
    clear hbl hX hr
    obtain ⟨sa, s2, rfl⟩ := ownsRow_form hrow
    clear hrow hv hB
    gi_wp2_with (gi_at_builtin; refine wpListIn_append_own _ rfl _ _ 27 rfl w.heap.size 33 i0 (.agg #[.int .i64 0, .string ⟨#[]⟩]) 2 24 Try.underlying27 hi iz0 iz1 iz2 rfl (by decide) _ _ _ rfl (HRW.out.alloc _) ⟨W.heap.size, 0, none⟩ 1 1 [.int .i64 x.kind, .string ⟨x.text.toArray⟩] rfl rfl (two_cells _ _ _ _) (by simp [Value.oneCell']) (by unfold maxLen; omega) (by omega) (by simp; omega) ?_; intro v2 w1 hown' hgrow _; obtain ⟨g', cap', rfl⟩ := ownsRow_succ hown'; obtain ⟨hv1, hv2, hr2, hk2, hb2⟩ := HV.out.appended (by decide) HRW.out hzw (Nat.le_refl _) hown' hgrow; have hc1 := hv1.cell; have hf1 := hv1.frozen)
    have hbs : ∀ u, Boxed W (w.heap.size + 1) 27 u → Boxed (w1.setCell ⟨w.heap.size, 0, none⟩ (.slice (some ⟨g', 0, none⟩) (pre.length + 1) cap')) (w.heap.size + 1) 27 u := fun u hu => ((hu.alloc _).kept hgrow (hu.not_row (by decide) HRW.out)).other (by omega) _
    exact ⟨hk2.from _, ⟨hb2, hbs⟩, ⟨⟨_, hv2, by rw [List.length_append, rowsT_snoc]; exact hr2, trivial⟩, hbs _ HBL.out⟩, HB.out.trans hb2⟩
  case done =>
    rintro D ys W hD hys ⟨⟨⟨v', hv, hrow, _⟩, _⟩, hB⟩ hK
    rw [hys] at hrow
    clear hys
    have hc := hv.cell
    have hA : w.heap.size < W.heap.size := hv.lt
    have HSl : Hid (Sl 2 W v' L.length (rowsT L)) := Sl.of_own hrow (by decide)
    have HID := Lib.hid (idle_any L v' W HSl.out hL)
    have HV := Lib.hid hv
    have HB := Lib.hid hB
    have HKD := Lib.hid hK
    have hDW : D < W.heap.size := (Array.getElem?_eq_some_iff.1 hK).1
    obtain ⟨sa, s2, rfl⟩ := ownsRow_form hrow
    clear hv hrow hB hK
    go_wp2_with fail
    refine HID.out.mono ?_
    rintro e W1 ⟨rfl, hG1, hb1⟩
    have hc1 : W1.cell? ⟨w.heap.size, 0, none⟩ = some (.slice sa L.length s2) := (hb1.cell (p := ⟨w.heap.size, 0, none⟩) hA).trans hc
    have HS1 : Hid (Sl 2 W1 (.slice sa L.length s2) L.length (rowsT L)) := HSl.out.below hb1
    have HB1 : Hid (Below w.heap.size w W1) := HB.out.trans (hb1.mono (Nat.le_of_lt hA))
    have HK1 : Hid (W1.heap[D]? = some (.deferred (some []))) := (hb1.block D hDW).trans HKD.out
    have HG1 := Lib.hid hG1
    have hW1 : W.heap.size < W1.heap.size := (Array.getElem?_eq_some_iff.1 hG1).1
    obtain ⟨G, hG⟩ : ∃ G, G = W.heap.size := ⟨_, rfl⟩
    rw [← hG] at HG1 hW1 ⊢
    have HGG := Lib.hid hG
    clear hb1 hG1 hc hG
    go_wp2_with fail
    obtain ⟨_, _, hsl, hk⟩ := tok_at HS1.out
    injection hsl with e1 e2 e3
    subst e1 e3
    have HTK := Lib.hid hk
    have hDA : w.heap.size ≤ D := by omega
    have hDW1 : D < W1.heap.size := by have := HGG.out; omega
    have hAW1 : w.heap.size < W1.heap.size := by omega
    clear e2 hk
    go_loopw [7, 22] (fun x i wr => ∃ (k : Nat) (O : List Tk), k ≤ L.length ∧ i = .int .i64 k ∧ O.length ≤ k ∧ wr.ownsRow W1.heap.size 33 2 x O.length (rowsT O) ∧ Hid (O ++ sm kind (prevT L k) (L.drop k) = sm kind none L) ∧ Hid (Below W1.heap.size W1 wr)) (fun _ i _ => L.length - (intOf i).toNat)
    case atStart => exact ⟨0, [], Nat.zero_le _, rfl, Nat.zero_le _, World.ownsRow_nil _ _ _ _, rfl, Below.refl _ _⟩
    case round =>
      obtain ⟨k, O, hkl, rfl, hOk, hown, HSM, HBR⟩ := hrel
      have hzr := HBR.out.size
      obtain ⟨xo, xc, rfl⟩ := ownsRow_form hown
      have HOW := Lib.hid hown
      by_cases hlt : k < L.length
      · obtain ⟨b, off, hao, hbl, c0, c1⟩ := HTK.out k hlt
        subst hao
        have d0 := (HBR.out.cell (p := ⟨b, off + k * 2, none⟩) hbl).trans c0
        have d1 := (HBR.out.cell (p := ⟨b, off + k * 2 + 1, none⟩) hbl).trans c1
        have xA : wr.cell? ⟨w.heap.size, 0, none⟩ = some (.slice (some ⟨b, off, none⟩) L.length s2) := (HBR.out.cell (p := ⟨w.heap.size, 0, none⟩) hAW1).trans hc1
        obtain ⟨WB, hWB⟩ : ∃ WB, WB = (if L[k].kind = 4 then false else am L[k] [59] && ends (L.drop (k + 1))) := ⟨_, rfl⟩
        have HGR : Hid (wr.heap[G]? = some (.cells (idRow L 0).toArray 4 (0, 0))) := (HBR.out.block G hW1).trans HG1.out
        have HID0 : Hid ((idRow L 0).toArray[k]? = some (.bool WB)) := by show _ = _; rw [List.getElem?_toArray, idRow_at L k hlt, hWB]
        have HKO := Lib.hid (fun h4 => keep_other (kind := kind) hlt h4)
        have HKB := Lib.hid (fun h4 => keep_blank (kind := kind) hlt h4)
        have HWW := Lib.hid hWB
        rw [← hWB] at HKO
        obtain ⟨W2, hW2⟩ : ∃ W2, W2 = wr.alloc (.cells #[.int .i64 L[k].kind, .string ⟨L[k].text.toArray⟩] 33) := ⟨_, rfl⟩
        have HP2 : Hid (W2.heap[wr.heap.size]? = some (.cells #[.int .i64 L[k].kind, .string ⟨L[k].text.toArray⟩] 33 (0, 0))) := by show _ = _; rw [hW2]; exact heap_alloc_new _ _
        have HB2 : Hid (Below W1.heap.size W1 W2) := by show Below _ _ _; rw [hW2]; exact HBR.out.alloc hzr _
        have HO2 : Hid (W2.ownsRow W1.heap.size 33 2 (.slice xo O.length xc) O.length (rowsT O)) := by show World.ownsRow _ _ _ _ _ _ _; rw [hW2]; exact hown.alloc _
        have HG2 : Hid (W2.heap[G]? = some (.cells (idRow L 0).toArray 4 (0, 0))) := by show _ = _; rw [hW2]; exact (heap_alloc_old _ _ (by omega)).trans HGR.out
        have xA2 : W2.cell? ⟨w.heap.size, 0, none⟩ = some (.slice (some ⟨b, off, none⟩) L.length s2) := (HB2.out.cell (p := ⟨w.heap.size, 0, none⟩) hAW1).trans hc1
        have hz2 : wr.heap.size < W2.heap.size := by rw [hW2]; simp
        have HND := Lib.hid (needed_any kind L _ k hlt W2 (HS1.out.below (HB2.out)) hL)
        have HNV := Lib.hid (show needd kind (prevT L k) L[k + 1]? = needd kind (prevT L k) L[k + 1]? from rfl)
        obtain ⟨K, hK⟩ : ∃ K, K = L[k].kind := ⟨_, rfl⟩
        obtain ⟨S, hS⟩ : ∃ S : ByteArray, S = ⟨L[k].text.toArray⟩ := ⟨_, rfl⟩
        rw [← hK] at d0 hW2 HP2
        rw [← hS] at d1 hW2 HP2
        have p0 : W2.cell? ⟨wr.heap.size, 0, none⟩ = some (.int .i64 K) := cellT HP2.out rfl
        have p1 : W2.cell? ⟨wr.heap.size, 1, none⟩ = some (.string S) := cellT HP2.out rfl
        have w2k : W2.cell? ⟨G, k, none⟩ = some (.bool WB) := cellT HG2.out HID0.out
        have wrk : wr.cell? ⟨G, k, none⟩ = some (.bool WB) := cellT HGR.out HID0.out
        have hGwr : G < wr.heap.size := by omega
        have hAwr : w.heap.size < wr.heap.size := by omega
        have qk : (k : Int) < (L.length : Int) := by omega
        have q0 : (0 : Int) ≤ (k : Int) := by omega
        have HK := Lib.hid hK
        have HS := Lib.hid hS
        clear c0 c1 hown hS hWB
        obtain ⟨N, hN⟩ : ∃ N, N = needd kind (prevT L k) L[k + 1]? := ⟨_, rfl⟩
        rw [← hN] at HND HKB
        clear hN HNV
        by_cases h4 : K = 4
        · have q4 : (K == 4) = true := by simpa using h4
          have HKV : Hid (keep kind (prevT L k) L[k] (L.drop (k + 1)) = N) := HKB.out (by rw [← hK]; exact h4)
          have hWBf : WB = false := by rw [HWW.out, if_pos (by rw [← hK]; exact h4)]
          subst hWBf
          clear hK
          cases N with
          | false =>
            have HSTEP : Hid (O ++ sm kind (prevT L (k + 1)) (L.drop (k + 1)) = sm kind none L) := sm_drop hlt HKV.out HSM.out
            have hKs := Lib.hid h4
            clear h4
            go_wp2_with fail
            rw [← hW2]
            clear hW2
            refine HND.out.mono ?_
            rintro e w3 ⟨rfl, hb3⟩
            have HB3 : Hid (Below W1.heap.size W1 w3) := HB2.out.trans (hb3.mono HB2.out.size)
            have hown3 := own_below HO2.out hb3
            clear hb3
            go_wp2_with fail
            go_roundw
            case rel => exact ⟨k + 1, O, by omega, by go_num, by omega, hown3, HSTEP, HB3⟩
            case measure => simp [intOf]; omega
          | true =>
            have HSTEP : Hid ((O ++ [L[k]]) ++ sm kind (prevT L (k + 1)) (L.drop (k + 1)) = sm kind none L) := sm_keep hlt HKV.out HSM.out
            have hKs := Lib.hid h4
            clear h4
            go_wp2_with fail
            rw [← hW2]
            clear hW2
            refine HND.out.mono ?_
            rintro e w3 ⟨rfl, hb3⟩
            have HBX : Hid (Below W1.heap.size W1 w3) := HB2.out.trans (hb3.mono HB2.out.size)
            have HOWN := Lib.hid (own_below HO2.out hb3)
            have hZx := HBX.out.size
            have HP3 : Hid (w3.heap[wr.heap.size]? = some (.cells #[.int .i64 K, .string S] 33 (0, 0))) := (hb3.block _ hz2).trans HP2.out
            have r0 : w3.cell? ⟨wr.heap.size, 0, none⟩ = some (.int .i64 K) := cellT HP3.out rfl
            have r1 : w3.cell? ⟨wr.heap.size, 1, none⟩ = some (.string S) := cellT HP3.out rfl
            have r2 : w3.cell? ⟨G, k, none⟩ = some (.bool false) := cellT ((hb3.block G (by omega)).trans HG2.out) HID0.out
            clear hb3
            by_cases hk1 : kind = 1
            · have q1 : (kind == 1) = true := by simpa using hk1
              have HK1 := Lib.hid hk1
              clear hk1
              have HWB : Hid (Below W1.heap.size W1 (w3.alloc (.cells #[.int .i64 K, .string S] 33))) := HBX.out.alloc hZx _
              go_wp2_with (at_builtin; go_loud (refine wpList_append_own_at _ rfl _ _ 27 rfl W1.heap.size 33 i0 (.agg #[.int .i64 0, .string ⟨#[]⟩]) 2 24 Try.underlying27 hi iz0 iz1 iz2 rfl (by decide) _ _ _ rfl (HOWN.out.alloc _) ⟨w3.heap.size, 0, none⟩ 1 1 [.int .i64 K, .string S] rfl rfl (two_cells _ _ _ _) (by simp [Value.oneCell']) (by unfold maxLen; omega) (by omega) (Nat.le_trans hZx (by simp)) ?_); intro v3 w4 hown' hgr hnil hat)
              have HB4 : Hid (Below W1.heap.size W1 w4) := HWB.out.trans (below_grown (HOWN.out.alloc _) hgr (Nat.le_trans hZx (by simp)))
              have hown4 : w4.ownsRow W1.heap.size 33 2 v3 (O ++ [L[k]]).length (rowsT (O ++ [L[k]])) := by
                rw [List.length_append, rowsT_snoc]
                have h5 := hown'
                rw [HK.out, HS.out] at h5
                exact h5
              clear hown' hgr hnil hat
              go_roundw
              case rel => exact ⟨k + 1, O ++ [L[k]], by omega, by go_num, by simp only [List.length_append, List.length_cons, List.length_nil]; omega, hown4, HSTEP, HB4⟩
              case measure => simp [intOf]; omega
            · have q1 : (kind == 1) = false := beq_eq_false_iff_ne.2 hk1
              have HK1 := Lib.hid hk1
              clear hk1
              have HWB : Hid (Below W1.heap.size W1 (w3.alloc (.cells #[.int .i64 K, .string S] 33))) := HBX.out.alloc hZx _
              go_wp2_with (at_builtin; go_loud (refine wpList_append_own_at _ rfl _ _ 27 rfl W1.heap.size 33 i0 (.agg #[.int .i64 0, .string ⟨#[]⟩]) 2 24 Try.underlying27 hi iz0 iz1 iz2 rfl (by decide) _ _ _ rfl (HOWN.out.alloc _) ⟨w3.heap.size, 0, none⟩ 1 1 [.int .i64 K, .string S] rfl rfl (two_cells _ _ _ _) (by simp [Value.oneCell']) (by unfold maxLen; omega) (by omega) (Nat.le_trans hZx (by simp)) ?_); intro v3 w4 hown' hgr hnil hat)
              have HB4 : Hid (Below W1.heap.size W1 w4) := HWB.out.trans (below_grown (HOWN.out.alloc _) hgr (Nat.le_trans hZx (by simp)))
              have hown4 : w4.ownsRow W1.heap.size 33 2 v3 (O ++ [L[k]]).length (rowsT (O ++ [L[k]])) := by
                rw [List.length_append, rowsT_snoc]
                have h5 := hown'
                rw [HK.out, HS.out] at h5
                exact h5
              clear hown' hgr hnil hat
              go_roundw
              case rel => exact ⟨k + 1, O ++ [L[k]], by omega, by go_num, by simp only [List.length_append, List.length_cons, List.length_nil]; omega, hown4, HSTEP, HB4⟩
              case measure => simp [intOf]; omega
        · have q4 : (K == 4) = false := beq_eq_false_iff_ne.2 h4
          have HKV : Hid (keep kind (prevT L k) L[k] (L.drop (k + 1)) = !(decide (kind = 1) && WB)) := HKO.out (by rw [← hK]; exact h4)
          have HBX : Hid (Below W1.heap.size W1 W2) := HB2.out
          have HOWN := HO2
          have hZx := HBX.out.size
          clear hK h4
          by_cases hk1 : kind = 1
          · have q1 : (kind == 1) = true := by simpa using hk1
            cases WB with
            | true =>
              have HSTEP : Hid (O ++ sm kind (prevT L (k + 1)) (L.drop (k + 1)) = sm kind none L) := sm_drop hlt (by rw [HKV.out, decide_eq_true hk1]; rfl) HSM.out
              have HK1 := Lib.hid hk1
              clear hk1
              go_wp2_with fail
              rw [← hW2]
              clear hW2
              go_wp2_with fail
              go_roundw
              case rel => exact ⟨k + 1, O, by omega, by go_num, by omega, HOWN.out, HSTEP, HBX⟩
              case measure => simp [intOf]; omega
            | false =>
              have HSTEP : Hid ((O ++ [L[k]]) ++ sm kind (prevT L (k + 1)) (L.drop (k + 1)) = sm kind none L) := sm_keep hlt (by rw [HKV.out]; simp) HSM.out
              have HK1 := Lib.hid hk1
              clear hk1
              subst hW2
              have HOWN2 := Lib.hid (HOWN.out.alloc (.cells #[.int .i64 K, .string S] 33))
              have HWB : Hid (Below W1.heap.size W1 ((wr.alloc (.cells #[.int .i64 K, .string S] 33)).alloc (.cells #[.int .i64 K, .string S] 33))) := HBX.out.alloc hZx _
              clear p0 p1 w2k xA2 hz2
              go_wp2_with (at_builtin; go_loud (refine wpList_append_own_at _ rfl _ _ 27 rfl W1.heap.size 33 i0 (.agg #[.int .i64 0, .string ⟨#[]⟩]) 2 24 Try.underlying27 hi iz0 iz1 iz2 rfl (by decide) _ _ _ rfl HOWN2.out ⟨wr.heap.size + 1, 0, none⟩ 1 1 [.int .i64 K, .string S] rfl rfl (by have := two_cells (wr.alloc (.cells #[.int .i64 K, .string S] 33)) (.int .i64 K) (.string S) 33; rw [World.size_alloc] at this; exact this) (by simp [Value.oneCell']) (by unfold maxLen; omega) (by omega) (Nat.le_trans hZx (by simp)) ?_); intro v3 w4 hown' hgr hnil hat)
              have HB4 : Hid (Below W1.heap.size W1 w4) := HWB.out.trans (below_grown HOWN2.out hgr (Nat.le_trans hZx (by simp)))
              have hown4 : w4.ownsRow W1.heap.size 33 2 v3 (O ++ [L[k]]).length (rowsT (O ++ [L[k]])) := by
                rw [List.length_append, rowsT_snoc]
                have h5 := hown'
                rw [HK.out, HS.out] at h5
                exact h5
              clear hown' hgr hnil hat
              go_roundw
              case rel => exact ⟨k + 1, O ++ [L[k]], by omega, by go_num, by simp only [List.length_append, List.length_cons, List.length_nil]; omega, hown4, HSTEP, HB4⟩
              case measure => simp [intOf]; omega
          · have q1 : (kind == 1) = false := beq_eq_false_iff_ne.2 hk1
            have HSTEP : Hid ((O ++ [L[k]]) ++ sm kind (prevT L (k + 1)) (L.drop (k + 1)) = sm kind none L) := sm_keep hlt (by rw [HKV.out, decide_eq_false hk1]; rfl) HSM.out
            have HK1 := Lib.hid hk1
            clear hk1
            subst hW2
            have HOWN2 := Lib.hid (HOWN.out.alloc (.cells #[.int .i64 K, .string S] 33))
            have HWB : Hid (Below W1.heap.size W1 ((wr.alloc (.cells #[.int .i64 K, .string S] 33)).alloc (.cells #[.int .i64 K, .string S] 33))) := HBX.out.alloc hZx _
            clear p0 p1 w2k xA2 hz2
            go_wp2_with (at_builtin; go_loud (refine wpList_append_own_at _ rfl _ _ 27 rfl W1.heap.size 33 i0 (.agg #[.int .i64 0, .string ⟨#[]⟩]) 2 24 Try.underlying27 hi iz0 iz1 iz2 rfl (by decide) _ _ _ rfl HOWN2.out ⟨wr.heap.size + 1, 0, none⟩ 1 1 [.int .i64 K, .string S] rfl rfl (by have := two_cells (wr.alloc (.cells #[.int .i64 K, .string S] 33)) (.int .i64 K) (.string S) 33; rw [World.size_alloc] at this; exact this) (by simp [Value.oneCell']) (by unfold maxLen; omega) (by omega) (Nat.le_trans hZx (by simp)) ?_); intro v3 w4 hown' hgr hnil hat)
            have HB4 : Hid (Below W1.heap.size W1 w4) := HWB.out.trans (below_grown HOWN2.out hgr (Nat.le_trans hZx (by simp)))
            have hown4 : w4.ownsRow W1.heap.size 33 2 v3 (O ++ [L[k]]).length (rowsT (O ++ [L[k]])) := by
              rw [List.length_append, rowsT_snoc]
              have h5 := hown'
              rw [HK.out, HS.out] at h5
              exact h5
            clear hown' hgr hnil hat
            go_roundw
            case rel => exact ⟨k + 1, O ++ [L[k]], by omega, by go_num, by simp only [List.length_append, List.length_cons, List.length_nil]; omega, hown4, HSTEP, HB4⟩
            case measure => simp [intOf]; omega
      · obtain rfl : k = L.length := by omega
        have HR : Hid (O = sm kind none L) := by
          have := HSM.out
          rw [List.drop_eq_nil_of_le (Nat.le_refl _), sm, List.append_nil] at this
          exact this
        have hKr : wr.heap[D]? = some (.deferred (some [])) := (HBR.out.block D hDW1).trans HK1.out
        have HKr := Lib.hid hKr
        clear hKr hown
        go_wp2_with fail
        refine ⟨by simp, .inl ⟨_, _, rfl, run_takeDeferred HKr.out, ?_⟩⟩
        refine ⟨_, results_tmp rfl _ _ _, _, rfl, ?_, ?_⟩
        · rw [← HR.out]
          exact Sl.of_own (ownsRow_putObj HOW.out _ HKr.out rfl) (by decide)
        · exact (HB1.out.trans (HBR.out.mono (Nat.le_of_lt hAW1))).trans (belowK_b (w := w) (Nat.le_refl _) wr D _ _ hDA HKr.out rfl rfl)
  case stop =>
    rintro D c' pre W _ _ h _
    exact h.elim
end Go.Proofs.Ytckinhebbhflgaa
