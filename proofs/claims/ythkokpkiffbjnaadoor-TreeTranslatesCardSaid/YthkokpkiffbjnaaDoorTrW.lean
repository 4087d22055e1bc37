/- TreeTranslates: the walk. Conditions: strings of at most maxLen bytes; the library's variable MaxLen holds an integer. -/
import Derived.Test.YthkokpkiffbjnaaDoorTrJ
namespace Mh
open Go Go.RowKit
set_option linter.unusedVariables false
/-- Languages of the pages with numbers. -/
def LangsOf (l : List Pg) (ks : List Nat) (s : ByteArray) : Prop := ∃ k ∈ ks, (l[k]?).map Pg.lang = some s
theorem LangsOf_next {l : List Pg} {ks : List Nat} {n : Nat} (hn : n < ks.length) (hk : ks[n] < l.length) : LangsOf l (ks.take (n + 1)) = fun s => LangsOf l (ks.take n) s ∨ s = l[ks[n]].lang := by
  funext s
  apply propext
  unfold LangsOf
  rw [List.take_add_one, List.getElem?_eq_getElem hn]
  constructor
  · rintro ⟨k, hm, h⟩
    rcases List.mem_append.1 hm with hm | hm
    · exact .inl ⟨k, hm, h⟩
    · have : k = ks[n] := by simpa using hm
      subst this
      rw [List.getElem?_eq_getElem hk] at h
      exact .inr (Option.some.inj h).symm
  · rintro (⟨k, hm, h⟩ | rfl)
    · exact ⟨k, List.mem_append.2 (.inl hm), h⟩
    · exact ⟨ks[n], List.mem_append.2 (.inr (by simp)), by rw [List.getElem?_eq_getElem hk]; rfl⟩
theorem trsTo_lt {l : List Pg} {key : ByteArray} {n i j : Nat} (hi : i < (trsTo l key n).length) (hj : j < (trsTo l key n).length) (h : i < j) : (trsTo l key n)[i] < (trsTo l key n)[j] := by
  have hp : (trsTo l key n).Pairwise (· < ·) := by
    unfold trsTo
    exact List.Pairwise.filter _ (List.pairwise_lt_range)
  exact List.pairwise_iff_getElem.1 hp i j hi hj h
end Mh
namespace Go.Proofs.YthkokpkiffbjnaaDoor
open Go.RowKit Mh
open Go.WideMaps (KeyLaw ArrKey)
open Go.MapKept Go.ChangeMaps Go.WideElems Go.WideShapes
set_option linter.unusedVariables false
theorem setM_put {α : Type} {P : Program} {k t e : TypeId} {w : World} {b n : Nat} {key : α → Value} {A : α → Prop} (h : SetM P k w b n key A) (K : KeyLaw P k) (ht : P.underlying t = some (.map k e)) (hinj : ∀ x y, key x = key y → x = y) (hn : n < maxLen) (s : α) (hs : ∃ kl, keyOf P k (key s) = some kl) :
    ∃ w', (Instr.mapUpdate t (.map (some b)) (key s) (.bool true)).run P w = .ok () w' ∧ SetM P k w' b (n + 1) key (fun q => A q ∨ q = s) ∧ w.grownBy w' (some b) := by
  obtain ⟨f, hM, hA⟩ := h
  obtain ⟨kl, hkl⟩ := hs
  obtain ⟨w', h1, h3, h4⟩ := hM.put K ht hn hkl (.bool true)
  exact ⟨w', h1, ⟨_, h3, setM_upd hA hinj s⟩, h4⟩
/-- Two pages of one language have different translation keys. -/
theorem site_apart {L : List ByteArray} {l : List Pg} (hok : SiteOk L l) {i j : Nat} (hij : i < j) (hj : j < l.length) (hl : l[i].lang = l[j].lang) (hk : trk l[i] = trk l[j]) : False := by
  have g := (hok.2.2.2 j hj).2.2.2.2.2.1.2.2
  apply g
  refine ⟨l[i], List.mem_take_iff_getElem.2 ⟨i, by omega, rfl⟩, .inr ?_⟩
  unfold trk at hk
  rw [hl, hk]
set_option maxRecDepth 100000 in
set_option maxHeartbeats 4000000 in
theorem translates_walk (L : List ByteArray) (l : List Pg) (w : World) (la pa : Option Addr) (lc pc : Nat) (hL : Ss w (.slice la L.length lc) L) (hP : PsAt w (.slice pa l.length pc) l) (m : Int) (hml : w.cell? ⟨0, 0, none⟩ = some (.int .i64 m)) :
    Calls Tryd.prog 3 #[.agg #[.slice la L.length lc, .slice pa l.length pc]] w fun e w' => e = .returned (.bool true) ∧ Below w.heap.size w w' := by
  have hmz : 0 < w.heap.size := World.block_lt_of_cell? w _ hml
  have HA := Lib.hid (fun w' (hb : Below w.heap.size w w') => awakeTree_any m w' ((hb.cell hmz).trans hml))
  have HC := Lib.hid (fun w' (hb : Below w.heap.size w w') => checkSite_any L l w' la pa lc pc (hL.below hb) (hP.keep hb) m ((hb.cell hmz).trans hml))
  have HT := Lib.hid (fun (hok : SiteOk L l) i hi w' (hb : Below w.heap.size w w') => TTranslations_any L l hok i hi w' la pa lc pc (hL.below hb) (hP.keep hb) m ((hb.cell hmz).trans hml))
  obtain ⟨pa', pc', hv, hpm, hat⟩ := hP
  simp only [Value.slice.injEq, true_and] at hv
  obtain ⟨rfl, rfl⟩ := hv
  have HAT := Lib.hid hat
  have HB0 : Hid (Below w.heap.size w (w.alloc (.cells #[.slice la L.length lc, .slice pa l.length pc] 25))) := (Below.refl _ w).alloc (Nat.le_refl _) _
  have HX0 : Hid ((w.alloc (.cells #[.slice la L.length lc, .slice pa l.length pc] 25)).heap[w.heap.size]? = some (.cells #[.slice la L.length lc, .slice pa l.length pc] 25 (0, 0))) := heap_alloc_new _ _
  unfold maxLen at hpm
  clear hL hat hml
  go_enter Tryd.func3, Tryd.ntmps3
  go_wp2_with fail
  refine (HA.out _ HB0.out).mono ?_
  rintro e w1 ⟨rfl, hb1⟩
  have HX1 : Hid (w1.heap[w.heap.size]? = some (.cells #[.slice la L.length lc, .slice pa l.length pc] 25 (0, 0))) := (hb1.block _ (by simp)).trans HX0.out
  have HB1 : Hid (Below w.heap.size w w1) := HB0.out.trans (hb1.mono (by simp))
  have b0 := cellT HX1.out (i := 0) rfl
  have b1 := cellT HX1.out (i := 1) rfl
  clear hb1 HX0 HB0
  go_wp2_with fail
  refine (HC.out _ HB1.out).mono ?_
  rintro e w2 ⟨r, rfl, hr, hb2⟩
  have HX2 : Hid (w2.heap[w.heap.size]? = some (.cells #[.slice la L.length lc, .slice pa l.length pc] 25 (0, 0))) := (hb2.block _ (Array.getElem?_eq_some_iff.1 HX1.out).1).trans HX1.out
  have HB2 : Hid (Below w.heap.size w w2) := HB1.out.trans (hb2.mono HB1.out.size)
  have HR := Lib.hid hr
  clear hb2 hr b0 b1 HX1 HB1
  by_cases h0 : r = 0
  rotate_left
  · have hd : (r != 0) = true := by rw [bne_iff_ne]; exact h0
    clear h0
    go_wp2_with fail
    go_ret
    exact ⟨rfl, HB2.out⟩
  subst h0
  have HOK : Hid (SiteOk L l) := HR.out.1 rfl
  have hl15 : l.length ≤ 1500 := HOK.out.2.1
  clear HR
  have b0 := cellT HX2.out (i := 0) rfl
  have b1 := cellT HX2.out (i := 1) rfl
  have HZ2 : Hid (w.heap.size < w2.heap.size) := (Array.getElem?_eq_some_iff.1 HX2.out).1
  go_wp2_with fail
  clear b0 b1
  go_loopw [19] (fun i wr => ∃ k : Nat, k ≤ l.length ∧ i = .int .i64 k ∧ Hid (Below w2.heap.size w2 wr)) (fun i _ => l.length - (intOf i).toNat)
  case atStart => exact ⟨0, Nat.zero_le _, rfl, Below.refl _ _⟩
  case round =>
    as_aux_lemma =>
    obtain ⟨k, hk, rfl, HB⟩ := hrel
    obtain ⟨wo, rfl⟩ : ∃ wo : World, wo = wr := ⟨_, rfl⟩
    have HBo : Hid (Below w.heap.size w wo) := HB2.out.trans (HB.out.mono HB2.out.size)
    by_cases hkl : k < l.length
    rotate_left
    · go_wp2_with fail
      go_ret
      exact ⟨rfl, HBo.out⟩
    have HXo : Hid (wo.heap[w.heap.size]? = some (.cells #[.slice la L.length lc, .slice pa l.length pc] 25 (0, 0))) := (HB.out.block _ HZ2.out).trans HX2.out
    have b0 := cellT HXo.out (i := 0) rfl
    have b1 := cellT HXo.out (i := 1) rfl
    have HT1 := Lib.hid (HT.out HOK.out k hkl wo HBo.out)
    have HMEM : Hid (k ∈ trsTo l (trk l[k]) l.length) := trsTo_mem.2 ⟨hkl, by rw [List.getElem?_eq_getElem hkl]; rfl⟩
    have HKEY : Hid (∀ x ∈ trsTo l (trk l[k]) l.length, ∃ h : x < l.length, trk l[x] = trk l[k]) := fun x hx => by
      obtain ⟨h1, h2⟩ := trsTo_mem.1 hx
      rw [List.getElem?_eq_getElem h1] at h2
      exact ⟨h1, Option.some.inj h2⟩
    have HLT : Hid (∀ i j (hi : i < (trsTo l (trk l[k]) l.length).length) (hj : j < (trsTo l (trk l[k]) l.length).length), i < j → (trsTo l (trk l[k]) l.length)[i] < (trsTo l (trk l[k]) l.length)[j]) := fun i j hi hj h => trsTo_lt hi hj h
    have HTB : Hid (∀ x (hx : x < l.length), trk l[x] = trk l[k] → ∀ w', Below w.heap.size w w' → Calls Tryd.prog 6 #[.agg #[.slice la L.length lc, .slice pa l.length pc], .int .i64 (x : Int)] w' fun e w'' => ∃ v, e = .returned (.tuple #[v, .int .i64 0]) ∧ Sl 1 w'' v (trsTo l (trk l[k]) l.length).length (natsV (trsTo l (trk l[k]) l.length)) ∧ Below w'.heap.size w' w'') := fun x hx hk w' hb => by
      have := HT.out HOK.out x hx w' hb
      rw [hk] at this; exact this
    have hln := trsTo_len l (trk l[k]) l.length
    generalize trsTo l (trk l[k]) l.length = ks at *
    have hn0 : 0 < ks.length := List.length_pos_of_mem HMEM.out
    go_wp2_with fail
    refine HT1.out.mono ?_
    rintro e w3 ⟨v, rfl, hs, hb3⟩
    have HX3 : Hid (w3.heap[w.heap.size]? = some (.cells #[.slice la L.length lc, .slice pa l.length pc] 25 (0, 0))) := (hb3.block _ (Array.getElem?_eq_some_iff.1 HXo.out).1).trans HXo.out
    have HB3 : Hid (Below w2.heap.size w2 w3) := HB.out.trans (hb3.mono HB.out.size)
    have HS3 := Lib.hid hs
    clear hb3 hs b0 b1 HT1 HXo HBo HB
    have HCO := Lib.hid (contains_any ks k HMEM.out v w3 HS3.out)
    go_wp2_with fail
    refine HCO.out.mono ?_
    rintro e w4 ⟨rfl, rfl⟩
    obtain ⟨b, off, c, rfl, u1, u2, u3, u4⟩ := nats_at HS3.out hn0
    have HU4 := Lib.hid u4
    have HM0 : Hid (SetM Tryd.prog 9 (w4.alloc (.map #[] 0)) w4.heap.size 0 Value.string (LangsOf l (ks.take 0))) := by
      have h := SetM.made w4 Tryd.prog 9 Value.string
      have e : LangsOf l (ks.take 0) = fun _ => False := by
        funext s; apply propext
        exact ⟨fun ⟨k, hm, _⟩ => by simp at hm, fun h => h.elim⟩
      show SetM _ _ _ _ _ _ _
      rw [e]; exact h
    have HBM : Hid (Below w4.heap.size w4 (w4.alloc (.map #[] 0))) := (Below.refl _ _).alloc (Nat.le_refl _) _
    unfold maxLen at u2
    clear u4 HCO
    go_wp2_with (rw [run_makeMap])
    go_loopw [39] (fun i wr => ∃ n : Nat, n ≤ ks.length ∧ i = .int .i64 n ∧ Hid (SetM Tryd.prog 9 wr w4.heap.size n Value.string (LangsOf l (ks.take n))) ∧ Hid (Below w4.heap.size w4 wr)) (fun i _ => ks.length - (intOf i).toNat)
    case atStart => exact ⟨0, Nat.zero_le _, rfl, HM0, HBM⟩
    case round =>
      obtain ⟨n, hn, rfl, HM, HB⟩ := hrel
      clear HM0 HBM
      obtain ⟨wp, rfl⟩ : ∃ wp : World, wp = wr := ⟨_, rfl⟩
      have HBW : Hid (Below w.heap.size w wp) := HB2.out.trans ((HB3.out.trans (HB.out.mono HB3.out.size)).mono HB2.out.size)
      have hxl : w.heap.size < w4.heap.size := (Array.getElem?_eq_some_iff.1 HX3.out).1
      have HXP : Hid (wp.heap[w.heap.size]? = some (.cells #[.slice la L.length lc, .slice pa l.length pc] 25 (0, 0))) := (HB.out.block _ hxl).trans HX3.out
      have c0 := cellT HXP.out (i := 0) rfl
      have c1 := cellT HXP.out (i := 1) rfl
      by_cases hnl : n < ks.length
      · have v4 := (HB.out.cell (p := ⟨b, off + n, none⟩) u3).trans (HU4.out n hnl)
        obtain ⟨hxl2, hxk⟩ := HKEY.out ks[n] (List.getElem_mem hnl)
        have HTC := Lib.hid (HTB.out ks[n] hxl2 hxk wp HBW.out)
        obtain ⟨b', off', ia, ic, ka, kc, fa, fc, rfl, h1, h2, h3, h4, h5⟩ := HAT.out ks[n] hxl2
        have HLG := Lib.hid h4.lang
        have HY := Lib.hid (fun w' (hb : Below w.heap.size w w') => (thirteen hb h3 h5).2.2.1)
        have HNX := Lib.hid (LangsOf_next hnl hxl2)
        have HNO : Hid (¬ LangsOf l (ks.take n) l[ks[n]].lang) := fun ⟨x, hx, he⟩ => by
          obtain ⟨j, hj, rfl⟩ := List.mem_take_iff_getElem.1 hx
          have hj2 : j < ks.length := by omega
          obtain ⟨hy1, hy2⟩ := HKEY.out ks[j] (List.getElem_mem hj2)
          rw [List.getElem?_eq_getElem hy1] at he
          exact site_apart HOK.out (HLT.out j n hj2 hnl (by omega)) hxl2 (Option.some.inj he) (hy2.trans hxk.symm)
        have d0 : decide ((ks[n] : Int) < 0) = false := decide_eq_false (by omega)
        have d1 : decide ((l.length : Int) ≤ (ks[n] : Int)) = false := decide_eq_false (by omega)
        have d2 : decide (l.length ≤ ks[n]) = false := decide_eq_false (by omega)
        have hkb : (ks[n] : Int) < l.length := by omega
        unfold maxLen at h2
        clear h4 h5 HKEY HTB
        generalize l[ks[n]].lang = lg at *
        generalize ks[n] = x at *
        go_wp2_with fail
        refine HTC.out.mono ?_
        rintro e w5 ⟨v2, rfl, hs5, hb5⟩
        have HB5 : Hid (Below w4.heap.size w4 w5) := HB.out.trans (hb5.mono HB.out.size)
        have HBW5 : Hid (Below w.heap.size w w5) := HBW.out.trans (hb5.mono HBW.out.size)
        have HX5 : Hid (w5.heap[w.heap.size]? = some (.cells #[.slice la L.length lc, .slice (some ⟨b', off', none⟩) l.length pc] 25 (0, 0))) := (hb5.block _ (Array.getElem?_eq_some_iff.1 HXP.out).1).trans HXP.out
        have HM5 : Hid (SetM Tryd.prog 9 w5 w4.heap.size n Value.string (LangsOf l (ks.take n))) := HM.out.block (hb5.block _ HM.out.lt)
        have HEQ := Lib.hid (equal_any ks (.slice (some ⟨b, off, none⟩) ks.length c) v2 w5 hn0 (HS3.out.below HB5.out) hs5)
        clear hs5 hb5 c0 c1 v4 HTC HXP HBW HM
        have c0 := cellT HX5.out (i := 0) rfl
        have c1 := cellT HX5.out (i := 1) rfl
        go_wp2_with fail
        refine HEQ.out.mono ?_
        rintro e w6 ⟨rfl, q, rfl⟩
        have HBW6 : Hid (Below w.heap.size w (w5.drewN q)) := below_drewN HBW5.out q
        have HB6 : Hid (Below w4.heap.size w4 (w5.drewN q)) := below_drewN HB5.out q
        have HX6 : Hid ((w5.drewN q).heap[w.heap.size]? = some (.cells #[.slice la L.length lc, .slice (some ⟨b', off', none⟩) l.length pc] 25 (0, 0))) := HX5.out
        have HM6 : Hid (SetM Tryd.prog 9 (w5.drewN q) w4.heap.size n Value.string (LangsOf l (ks.take n))) := HM5.out.block rfl
        clear c0 c1 HX5 HBW5 HB5 HM5 HEQ
        generalize w5.drewN q = w7 at *
        have c0 := cellT HX6.out (i := 0) rfl
        have c1 := cellT HX6.out (i := 1) rfl
        have y2 := HY.out w7 HBW6.out
        have hrun := setM_look HM6.out key1_law Tryd.underlying33 (zBool _) lg (key1_of HLG.out) false ⟨fun h => (by cases h), fun h => absurd h HNO.out⟩
        obtain ⟨w8, hrun2, hM8, hg8⟩ := setM_put HM6.out key1_law Tryd.underlying33 (fun a b e => by cases e; rfl) (by unfold maxLen; omega) lg (key1_of HLG.out)
        have HM8 : Hid (SetM Tryd.prog 9 w8 w4.heap.size (n + 1) Value.string (LangsOf l (ks.take (n + 1)))) := by
          show SetM _ _ _ _ _ _ _
          rw [HNX.out]; exact hM8
        have HB8 : Hid (Below w4.heap.size w4 w8) := HB6.out.trans (below_of_grown hg8 (Nat.le_refl _) HB6.out.size)
        clear hM8 hg8
        go_wp2_with fail
        go_roundw
        case rel => exact ⟨n + 1, by omega, by go_num, HM8, HB8⟩
        case measure => simp [intOf]; omega
      · go_wp2_with fail
        go_roundw
        case rel => exact ⟨k + 1, by omega, by go_num, HB3.out.trans (HB.out.mono HB3.out.size)⟩
        case measure => simp [intOf]; omega
end Go.Proofs.YthkokpkiffbjnaaDoor
