/- tree's checker.page: which pages it lets pass. Conditions: at most 1500 pages; languages that fit; strings of at most maxLen bytes; the library's variable MaxLen holds an integer. -/
import Derived.Test.YthkokpkiffbjnaaDoorTrF
import Derived.Test.YthkokpkiffbjnaaDoorQtB
import Derived.Test.YthkokpkiffbjnaaDoorChk
import Derived.Deep.RegionHeld3
import Derived.Lib.Bytes2
namespace Mh
open Go Go.RowKit
set_option linter.unusedVariables false
theorem below_drewN {B : Nat} {w w' : World} (h : Below B w w') (n : Nat) : Below B w (w'.drewN n) := ⟨h.os, h.tape, h.output, h.size, h.block⟩
theorem emptyB (s : ByteArray) : s.toList.isEmpty = decide (s = ⟨#[]⟩) := by
  have h := eqC s []
  rw [show (⟨([] : List UInt8).toArray⟩ : ByteArray) = ⟨#[]⟩ from rfl] at h
  rw [← h]
  cases s.toList <;> rfl
def ordB (L : List ByteArray) (y x : Pg) : Prop := posL L y.lang < posL L x.lang ∨ (posL L y.lang = posL L x.lang ∧ kl y.addr x.addr = true)
end Mh
namespace Go.Proofs.YthkokpkiffbjnaaDoor
open Go.RowKit Mh
open Go.WideMaps (KeyLaw ArrKey)
set_option linter.unusedVariables false
def G1 (L : List ByteArray) (x : Pg) : Prop := 0 ≤ posL L x.lang
def G2 (x : Pg) : Prop := x.key = ⟨#[]⟩ ∨ pathB x.key.data.toList = true
def G3 (L : List ByteArray) (x : Pg) : Prop := addrB x.addr = true ∧ (x.key = ⟨#[]⟩ → x.addr = rootL L x.lang)
def G4 (L : List ByteArray) (l : List Pg) (i : Nat) (x : Pg) : Prop := ∀ y, 0 < i → l[i - 1]? = some y → ordB L y x
def G6 (l : List Pg) (i : Nat) (x : Pg) : Prop := ¬ A1 l i x.addr ∧ ¬ A3 l i (kwKey, x.lang, x.key) ∧ ¬ A3 l i (trKey, x.lang, trL x.set x.key)
def G7 (x : Pg) : Prop := 0 ≤ x.kind ∧ x.kind ≤ 2 ∧ (x.key = ⟨#[]⟩ → x.kind = 2)
def G8 (l : List Pg) (x : Pg) : Prop := x.key = ⟨#[]⟩ ∨ ∃ k y, secF l x.lang (dirL x.key) = some k ∧ l[k]? = some y ∧ oneMoreB y.addr x.addr = true
/-- A page as it must be, given those ahead of it. -/
def PageOk (L : List ByteArray) (l : List Pg) (i : Nat) (x : Pg) : Prop :=
  G1 L x ∧ G2 x ∧ G3 L x ∧ G4 L l i x ∧ x.set.okw ∧ G6 l i x ∧ G7 x ∧ G8 l x ∧ FilesOk x.kind x.key x.files
theorem five_open {w : World} {g : Nat} {T : TypeId} {c0 c1 c2 c3 c4 : Value} (h : w.heap[g]? = some (.cells #[c0, c1, c2, c3, c4] T (0, 0))) :
    w.cell? ⟨g, 0, none⟩ = some c0 ∧ w.cell? ⟨g, 1, none⟩ = some c1 ∧ w.cell? ⟨g, 2, none⟩ = some c2 ∧ w.cell? ⟨g, 3, none⟩ = some c3 ∧ w.cell? ⟨g, 4, none⟩ = some c4 :=
  ⟨cellT h rfl, cellT h rfl, cellT h rfl, cellT h rfl, cellT h rfl⟩
theorem three_open {w : World} {g : Nat} {T : TypeId} {c0 c1 c2 : Value} (h : w.heap[g]? = some (.cells #[c0, c1, c2] T (0, 0))) :
    w.cell? ⟨g, 0, none⟩ = some c0 ∧ w.cell? ⟨g, 1, none⟩ = some c1 ∧ w.cell? ⟨g, 2, none⟩ = some c2 := ⟨cellT h rfl, cellT h rfl, cellT h rfl⟩
theorem three_cold {w : World} {g : Nat} {T : TypeId} {c0 c1 c2 : Value} (h : w.heap[g]? = some (.cells #[c0, c1, c2] T (0, 0))) :
    w.frozen? ⟨g, 0, none⟩ = false ∧ w.frozen? ⟨g, 1, none⟩ = false ∧ w.frozen? ⟨g, 2, none⟩ = false := ⟨frozenT h, frozenT h, frozenT h⟩
theorem three_put {w : World} {g : Nat} {T : TypeId} {c0 c1 c2 a b c : Value} (h : w.heap[g]? = some (.cells #[c0, c1, c2] T (0, 0))) :
    (((w.setCell ⟨g, 0, none⟩ a).setCell ⟨g, 1, none⟩ b).setCell ⟨g, 2, none⟩ c).heap[g]? = some (.cells #[a, b, c] T (0, 0)) :=
  heap_setCell_same _ _ 2 _ _ _ (heap_setCell_same _ _ 1 _ _ _ (heap_setCell_same _ _ 0 _ _ _ h))
theorem trL_size {w : World} {X : V} {cs : List Value} {key : ByteArray} (h : VAt w X cs) (hk : key.size ≤ maxLen) : (trL X key).size ≤ maxLen := by
  unfold trL
  split
  · rename_i y hy
    unfold sttF at hy
    split at hy
    · split at hy
      · rename_i i _
        split at hy
        · rename_i z hz
          split at hy
          · cases hy
            obtain ⟨hi, rfl⟩ := List.getElem?_eq_some_iff.1 hz
            obtain ⟨ia, ic, ka, kc, rfl, hw6, hw7, htx, hks, rows, hrows, hits⟩ := h.opened
            obtain ⟨ao2, c2, hv2, hit⟩ := VsAt.item hrows hits
            obtain ⟨b2, off2, xa, xc, xka, xkc, _, hlt2, hx, hxc⟩ := hit i hi
            obtain ⟨_, _, _, _, _, _, _, h, _⟩ := hx.opened
            exact h
          · cases hy
        · cases hy
      · cases hy
    · cases hy
  · exact hk
theorem addr_len {s : ByteArray} (h : addrB s = true) : s.size ≤ 300 := by
  unfold addrB at h
  split at h
  · rename_i e; rw [e]; decide
  · split at h
    · rw [Bool.and_eq_true] at h
      have h2 := path_len h.2
      rw [Array.length_toList] at h2
      have h3 : (s.extract 1 (s.size - 1)).size ≤ 200 := h2
      rw [ByteArray.size_extract] at h3
      omega
    · cases h
theorem dirL_size (s : ByteArray) : (dirL s).size ≤ s.size := by
  unfold dirL
  split
  · exact Nat.zero_le _
  · rw [ByteArray.size_extract]; omega
theorem bytesLess_kl (a b : ByteArray) : Op.bytesLess a.toList b.toList = kl a b := by rw [Go.Proofs.bytesLess_eq, Lib.toList_data, Lib.toList_data]; rfl
set_option maxHeartbeats 4000000 in
theorem oneMore_all (a b : ByteArray) (w : World) (hb : b.size ≤ 1099511627776) : Calls Tryd.prog 24 #[.string a, .string b] w fun e w' => e = .returned (.bool (oneMoreB a b)) ∧ w' = w := by
  by_cases ha : a.size ≤ 1099511627776
  · exact oneMore_any a b w ha hb
  have HP := Lib.hid (Tryd.strings_HasPrefix b a w)
  have HR : Hid (oneMoreB a b = (Lib.hasPrefix b.data.toList a.data.toList && decide (a.size < b.size) && (Lib.countByte (b.extract a.size b.size).data.toList 47 == 1))) := rfl
  have c0 : Lib.hasPrefix b.data.toList a.data.toList = false := by
    cases h : Lib.hasPrefix b.data.toList a.data.toList with
    | false => rfl
    | true =>
      have := Lib.hasPrefix_le h
      rw [Array.length_toList, Array.length_toList] at this
      have h2 : a.size ≤ b.size := this
      omega
  rw [c0] at HR HP
  clear c0
  go_enter Tryd.func24, Tryd.ntmps24
  go_wp2_with fail
  refine HP.out.mono ?_
  rintro e w2 ⟨rfl, rfl⟩
  go_wp2_with fail
  go_ret
  exact ⟨by rw [HR.out]; rfl, rfl⟩
set_option maxRecDepth 100000 in
set_option maxHeartbeats 4000000 in
theorem page_any (L : List ByteArray) (hL : LangsFit L) (l : List Pg) (hl : l.length ≤ 1500) (W0 w : World) (C sb ab kb : Nat) (la pa : Option Addr) (lc pc i : Nat) (hi : i < l.length)
    (h : CkSt L l W0 w C sb ab kb la lc pa pc i) (m : Int) (hml : W0.cell? ⟨0, 0, none⟩ = some (.int .i64 m)) :
    Calls Tryd.prog 12 #[.pointer (some ⟨C, 0, none⟩), .int .i64 i] w fun e w' => ∃ r : Int, e = .returned (.int .i64 r) ∧ (r = 0 ↔ PageOk L l i l[i]) ∧ Below W0.heap.size W0 w' ∧ (r = 0 → CkSt L l W0 w' C sb ab kb la lc pa pc (i + 1)) := by
  have hmz : 0 < W0.heap.size := World.block_lt_of_cell? W0 _ hml
  have HM0 := Lib.hid hml
  have HML : Hid (∀ w', Below w.heap.size w w' → w'.cell? ⟨0, 0, none⟩ = some (.int .i64 m)) := fun w' hb => ((h.below.trans (hb.mono h.below.size)).cell hmz).trans hml
  obtain ⟨pa', pc', hv, hpm, hpat⟩ := h.pages
  simp only [Value.slice.injEq, true_and] at hv
  obtain ⟨rfl, rfl⟩ := hv
  have HPAT := Lib.hid hpat
  obtain ⟨b, off, ia, ic, ka, kc, fa, fc, rfl, q1, q2, q3, q4, q5⟩ := hpat i hi
  have HLG := Lib.hid (fun w' (hb : Below W0.heap.size W0 w') => h.langs.below hb)
  have HST := Lib.hid h
  have HPG := Lib.hid (fun w' (hb : Below W0.heap.size W0 w') => q4.keep hb)
  have HPOS := Lib.hid (fun (s : ByteArray) w' (hb : Below W0.heap.size W0 w') => position_any L _ s w' (h.langs.below hb))
  have HX0 := thirteen h.below q3 q5
  have HBW := Lib.hid h.below
  have hbl := h.blk
  have hCw : C < w.heap.size := (Array.getElem?_eq_some_iff.1 hbl).1
  have HBL := Lib.hid hbl
  obtain ⟨c0, c1, c2, c3, c4⟩ := five_open hbl
  obtain ⟨x0, x1, x2, x3, x4, x5, x6, x7, x8, x9, x10, x11, x12⟩ := HX0
  unfold maxLen at hpm q2
  have hb0 : (i : Int) < l.length := by omega
  clear hpat h hml hbl q4 q5
  generalize hx : l[i] = x at *
  have HXI := Lib.hid hx
  clear hx
  have HB1 : Below w.heap.size w (w.alloc (.cells #[.string x.path, .string x.key, .string x.lang, .string x.addr, .int .i64 x.kind, .int .i64 x.set.kd, .bool x.set.bo, .int .i64 x.set.nu, .string x.set.tx, .slice ia x.set.its.length ic, .slice ka x.set.kys.length kc, .string x.rest, .slice fa x.files.length fc] 39)) := (Below.refl _ w).alloc (Nat.le_refl _) _
  have HXB := Lib.hid (heap_alloc_new w (.cells #[.string x.path, .string x.key, .string x.lang, .string x.addr, .int .i64 x.kind, .int .i64 x.set.kd, .bool x.set.bo, .int .i64 x.set.nu, .string x.set.tx, .slice ia x.set.its.length ic, .slice ka x.set.kys.length kc, .string x.rest, .slice fa x.files.length fc] 39))
  have HBB1 := Lib.hid HB1
  have HP1 := Lib.hid (fun n => HPOS.out x.lang ((w.alloc (.cells #[.string x.path, .string x.key, .string x.lang, .string x.addr, .int .i64 x.kind, .int .i64 x.set.kd, .bool x.set.bo, .int .i64 x.set.nu, .string x.set.tx, .slice ia x.set.its.length ic, .slice ka x.set.kys.length kc, .string x.rest, .slice fa x.files.length fc] 39)).drewN n) (by have := HBW.out.trans (HB1.mono HBW.out.size); exact below_drewN this n))
  clear HB1
  have HG0 : Hid (PageOk L l i x ↔ G1 L x ∧ G2 x ∧ G3 L x ∧ G4 L l i x ∧ x.set.okw ∧ G6 l i x ∧ G7 x ∧ G8 l x ∧ FilesOk x.kind x.key x.files) := Iff.rfl
  go_enter Tryd.func12, Tryd.ntmps12
  go_upto_region 2 with fail
  go_cut [6] from 6 to 226 (fun s6 wx => s6 = .int .i64 (posL L x.lang) ∧ Hid (Below w.heap.size w wx) ∧ Hid (wx.heap[w.heap.size]? = some (.cells #[.string x.path, .string x.key, .string x.lang, .string x.addr, .int .i64 x.kind, .int .i64 x.set.kd, .bool x.set.bo, .int .i64 x.set.nu, .string x.set.tx, .slice ia x.set.its.length ic, .slice ka x.set.kys.length kc, .string x.rest, .slice fa x.files.length fc] 39 (0, 0))))
  case first =>
    as_aux_lemma =>
    obtain ⟨y0, y1, y2, y3, y4, y5, y6, y7, y8, y9, y10, y11, y12⟩ := pg_open HXB.out
    obtain ⟨d0, d1, d2, d3, d4⟩ := five_open ((HBB1.out.block _ hCw).trans HBL.out)
    go_quiet ((go_at_call 18; exact Calls.quiet_of_same (HP1.out _)))
    go_wp2_with fail
    go_meet
    exact ⟨rfl, below_drewN HBB1.out _, HXB.out⟩
    -- E1
  case rest =>
    as_aux_lemma =>
    obtain ⟨rfl, HB, HX⟩ := hcut
    clear c0 c1 c2 c3 c4 x0 x1 x2 x3 x4 x5 x6 x7 x8 x9 x10 x11 x12 HXB HBB1 HP1
    have HRNG := Lib.hid (posL_range L x.lang)
    have HG1 : Hid (G1 L x ↔ 0 ≤ posL L x.lang) := Iff.rfl
    generalize hP : posL L x.lang = P at *
    have HP := Lib.hid hP
    clear hP
    obtain ⟨d0, d1, d2, d3, d4⟩ := five_open ((HB.out.block _ hCw).trans HBL.out)
    obtain ⟨y0, y1, y2, y3, y4, y5, y6, y7, y8, y9, y10, y11, y12⟩ := pg_open HX.out
    have hzx : w.heap.size < wc.heap.size := (Array.getElem?_eq_some_iff.1 HX.out).1
    by_cases g1 : P < 0
    · have HN : Hid (¬ PageOk L l i x) := fun h => by have := HG1.out.1 (HG0.out.1 h).1; omega
      have hd : decide (P < 0) = true := decide_eq_true g1
      go_wp2_with fail
      go_ret
      exact ⟨12, rfl, ⟨fun h => absurd h (by decide), fun h => absurd h HN.out⟩, HBW.out.trans (HB.out.mono HBW.out.size), fun h => absurd h (by decide)⟩
    have hd1 : decide (P < 0) = false := decide_eq_false g1
    have HG2 : Hid (PageOk L l i x ↔ G2 x ∧ G3 L x ∧ G4 L l i x ∧ x.set.okw ∧ G6 l i x ∧ G7 x ∧ G8 l x ∧ FilesOk x.kind x.key x.files) := HG0.out.trans ⟨fun g => g.2, fun g => ⟨HG1.out.2 (by omega), g⟩⟩
    clear HG0 HG1
    have HPA := Lib.hid (tpath_any x.key wc (HPG.out W0 (Below.refl _ _)).key ⟨m, HML.out _ HB.out⟩)
    go_upto_region 5 with fail
    go_cut [35] from 7 to 226 (fun s35 wx => Hid (Below w.heap.size w wx) ∧ Hid (wx.heap[w.heap.size]? = some (.cells #[.string x.path, .string x.key, .string x.lang, .string x.addr, .int .i64 x.kind, .int .i64 x.set.kd, .bool x.set.bo, .int .i64 x.set.nu, .string x.set.tx, .slice ia x.set.its.length ic, .slice ka x.set.kys.length kc, .string x.rest, .slice fa x.files.length fc] 39 (0, 0))) ∧ ∃ r : Bool, s35 = .bool r ∧ Hid (r = true ↔ ¬ G2 x))
    case first =>
      as_aux_lemma =>
      -- S2
      cases hk0 : x.key.toList.isEmpty with
      | true =>
        have HE : Hid (G2 x) := .inl (by rw [emptyB] at hk0; exact of_decide_eq_true hk0)
        go_wp2_with fail
        go_meet
        exact ⟨HB, HX, false, rfl, ⟨fun h => (by cases h), fun h => absurd HE.out h⟩⟩
      | false =>
        have HE : Hid (G2 x ↔ pathB x.key.data.toList = true) := ⟨fun h => h.resolve_left (fun e => by rw [emptyB] at hk0; exact of_decide_eq_false hk0 e), fun h => .inr h⟩
        cases hpb : pathB x.key.data.toList with
        | true =>
          rw [hpb] at HPA HE
          go_wp2_with fail
          refine HPA.out.mono ?_
          rintro e w2 ⟨rfl, hb2⟩
          have HB2 := Lib.hid (HB.out.trans (hb2.mono HB.out.size))
          have HX2 := Lib.hid ((hb2.block _ hzx).trans HX.out)
          clear hb2
          go_wp2_with fail
          go_meet
          exact ⟨HB2, HX2, false, rfl, ⟨fun h => (by cases h), fun h => absurd (HE.out.2 (by first | rfl | trivial)) h⟩⟩
        | false =>
          rw [hpb] at HPA HE
          go_wp2_with fail
          refine HPA.out.mono ?_
          rintro e w2 ⟨rfl, hb2⟩
          have HB2 := Lib.hid (HB.out.trans (hb2.mono HB.out.size))
          have HX2 := Lib.hid ((hb2.block _ hzx).trans HX.out)
          clear hb2
          go_wp2_with fail
          go_meet
          exact ⟨HB2, HX2, true, rfl, ⟨fun _ h => (by have := HE.out.1 h; cases this), fun _ => rfl⟩⟩
      -- E2
    case rest =>
      as_aux_lemma =>
      obtain ⟨HB', HX', r2, rfl, HR2⟩ := hcut
      clear HB HX HPA d0 d1 d2 d3 d4 y0 y1 y2 y3 y4 y5 y6 y7 y8 y9 y10 y11 y12 hzx hd1
      cases r2 with
      | true =>
        have HN : Hid (¬ PageOk L l i x) := fun h => HR2.out.1 rfl (HG2.out.1 h).1
        go_wp2_with fail
        go_ret
        exact ⟨3, rfl, ⟨fun h => absurd h (by decide), fun h => absurd h HN.out⟩, HBW.out.trans (HB'.out.mono HBW.out.size), fun h => absurd h (by decide)⟩
      | false =>
        have HG2ok : Hid (G2 x) := by
          by_cases h : G2 x
          · exact h
          · have := HR2.out.2 h; cases this
        have HG3 : Hid (PageOk L l i x ↔ G3 L x ∧ G4 L l i x ∧ x.set.okw ∧ G6 l i x ∧ G7 x ∧ G8 l x ∧ FilesOk x.kind x.key x.files) := HG2.out.trans ⟨fun g => g.2, fun g => ⟨HG2ok.out, g⟩⟩
        clear HG2 HR2
        obtain ⟨d0, d1, d2, d3, d4⟩ := five_open ((HB'.out.block _ hCw).trans HBL.out)
        obtain ⟨y0, y1, y2, y3, y4, y5, y6, y7, y8, y9, y10, y11, y12⟩ := pg_open HX'.out
        have hzx : w.heap.size < wc.heap.size := (Array.getElem?_eq_some_iff.1 HX'.out).1
        have HAD := Lib.hid (fun w' (hb : Below w.heap.size w w') => isAddress_any x.addr w' (HPG.out W0 (Below.refl _ _)).addr ⟨m, HML.out _ hb⟩)
        have HRO := Lib.hid (fun w' (hb : Below w.heap.size w w') (hs : x.lang.size ≤ 100) => rootOf_any L _ x.lang w' (HLG.out _ (HBW.out.trans (hb.mono HBW.out.size))) (by have := hL.1; omega) hs)
        have hl8 : x.lang.size ≤ 100 := by
          have : posL L x.lang = P := HP.out
          unfold posL at this
          split at this
          · rename_i j hj
            rw [List.findIdx?_eq_some_iff_getElem] at hj
            obtain ⟨hj, he, _⟩ := hj
            have he' : L[j] = x.lang := of_decide_eq_true he
            have := (hL.2.2 j hj).2.1
            rw [he'] at this
            omega
          · omega
        have HL8 := Lib.hid hl8
        have HEND : Hid (∀ w', Below wc.heap.size wc w' → Below w.heap.size w w' ∧ w'.heap[w.heap.size]? = wc.heap[w.heap.size]?) := fun w' hb => ⟨HB'.out.trans (hb.mono HB'.out.size), hb.block _ hzx⟩
        clear hl8
        go_upto_region 7 with fail
        go_cut [45] from 7 to 226 (fun s45 wx => Hid (Below w.heap.size w wx) ∧ Hid (wx.heap[w.heap.size]? = wc.heap[w.heap.size]?) ∧ ∃ r : Bool, s45 = .bool r ∧ Hid (r = true ↔ ¬ G3 L x))
        case first =>
          as_aux_lemma =>
          -- S3
          have z0 := grown_cell d0
          have z1 := grown_cell y1
          have z2 := grown_cell y2
          have z3 := grown_cell y3
          cases hab : addrB x.addr with
          | false =>
            have HR : Hid (¬ G3 L x) := fun h => by have := h.1; rw [hab] at this; cases this
            rw [hab] at HAD
            clear hab
            refine wp_region_quietB (by kernel_rfl) (by kernel_rfl) ?_
            repeat (go_big_quiet_step ((go_at_call 19; exact quietB (HAD.out _ (HB'.out.trans (Below.mono (Subtype.property _) HB'.out.size))))))
            refine wpQuiet_nil ?_
            intro _ hw2
            obtain ⟨q, hw3⟩ := hw2
            subst hw3
            go_wp2_with fail
            go_meet
            exact ⟨(HEND.out _ q.2).1, (HEND.out _ q.2).2, true, rfl, ⟨fun _ => HR.out, fun _ => rfl⟩⟩
          | true =>
            have HA1 := Lib.hid hab
            rw [hab] at HAD
            clear hab
            cases hk0 : x.key.toList.isEmpty with
            | false =>
              have HR : Hid (G3 L x) := ⟨HA1.out, fun e => by rw [emptyB] at hk0; exact absurd e (of_decide_eq_false hk0)⟩
              refine wp_region_quietB (by kernel_rfl) (by kernel_rfl) ?_
              repeat (go_big_quiet_step ((go_at_call 19; exact quietB (HAD.out _ (HB'.out.trans (Below.mono (Subtype.property _) HB'.out.size))))))
              refine wpQuiet_nil ?_
              intro _ hw2
              obtain ⟨q, hw3⟩ := hw2
              subst hw3
              go_wp2_with fail
              go_meet
              exact ⟨(HEND.out _ q.2).1, (HEND.out _ q.2).2, false, rfl, ⟨fun h => (by cases h), fun h => absurd HR.out h⟩⟩
            | true =>
              have HR : Hid (G3 L x ↔ x.addr = rootL L x.lang) := ⟨fun h => h.2 (by rw [emptyB] at hk0; exact of_decide_eq_true hk0), fun h => ⟨HA1.out, fun _ => h⟩⟩
              generalize rootL L x.lang = RT at *
              cases hrt : (x.addr.toList == RT.toList) with
              | true =>
                have HR2 : Hid (G3 L x) := HR.out.2 (by rw [eqB] at hrt; exact of_decide_eq_true hrt)
                refine wp_region_quietB (by kernel_rfl) (by kernel_rfl) ?_
                repeat (go_big_quiet_step ((first | (go_at_call 19; exact quietB (HAD.out _ (HB'.out.trans (Below.mono (Subtype.property _) HB'.out.size)))) | (go_at_call 20; exact quietS (HRO.out _ (HB'.out.trans (Below.mono (Subtype.property _) HB'.out.size)) HL8.out)))))
                refine wpQuiet_nil ?_
                intro _ hw2
                obtain ⟨q, hw3⟩ := hw2
                subst hw3
                go_wp2_with fail
                go_meet
                exact ⟨(HEND.out _ q.2).1, (HEND.out _ q.2).2, false, rfl, ⟨fun h => (by cases h), fun h => absurd HR2.out h⟩⟩
              | false =>
                have HR2 : Hid (¬ G3 L x) := fun h => by rw [eqB] at hrt; exact of_decide_eq_false hrt (HR.out.1 h)
                refine wp_region_quietB (by kernel_rfl) (by kernel_rfl) ?_
                repeat (go_big_quiet_step ((first | (go_at_call 19; exact quietB (HAD.out _ (HB'.out.trans (Below.mono (Subtype.property _) HB'.out.size)))) | (go_at_call 20; exact quietS (HRO.out _ (HB'.out.trans (Below.mono (Subtype.property _) HB'.out.size)) HL8.out)))))
                refine wpQuiet_nil ?_
                intro _ hw2
                obtain ⟨q, hw3⟩ := hw2
                subst hw3
                go_wp2_with fail
                go_meet
                exact ⟨(HEND.out _ q.2).1, (HEND.out _ q.2).2, true, rfl, ⟨fun _ => HR2.out, fun _ => rfl⟩⟩
          -- E3
        case rest =>
          as_aux_lemma =>
          obtain ⟨HB4, HXE, r3, rfl, HR3⟩ := hcut
          have HX4 := Lib.hid (HXE.out.trans HX'.out)
          clear HXE HX' HB' d0 d1 d2 d3 d4 y0 y1 y2 y3 y4 y5 y6 y7 y8 y9 y10 y11 y12 hzx HAD HRO HEND
          cases r3 with
          | true =>
            have HN : Hid (¬ PageOk L l i x) := fun h => HR3.out.1 rfl (HG3.out.1 h).1
            go_wp2_with fail
            go_ret
            exact ⟨3, rfl, ⟨fun h => absurd h (by decide), fun h => absurd h HN.out⟩, HBW.out.trans (HB4.out.mono HBW.out.size), fun h => absurd h (by decide)⟩
          | false =>
            have HG3ok : Hid (G3 L x) := by
              by_cases h : G3 L x
              · exact h
              · have := HR3.out.2 h; cases this
            have HG4 : Hid (PageOk L l i x ↔ G4 L l i x ∧ x.set.okw ∧ G6 l i x ∧ G7 x ∧ G8 l x ∧ FilesOk x.kind x.key x.files) := HG3.out.trans ⟨fun g => g.2, fun g => ⟨HG3ok.out, g⟩⟩
            clear HG3 HR3
            obtain ⟨d0, d1, d2, d3, d4⟩ := five_open ((HB4.out.block _ hCw).trans HBL.out)
            obtain ⟨y0, y1, y2, y3, y4, y5, y6, y7, y8, y9, y10, y11, y12⟩ := pg_open HX4.out
            have HZX : Hid (w.heap.size < wc.heap.size) := (Array.getElem?_eq_some_iff.1 HX4.out).1
            go_upto_if 69 with fail
            go_cut [] from 7 to 226 (fun wx => Hid (Below w.heap.size w wx) ∧ Hid (wx.heap[w.heap.size]? = wc.heap[w.heap.size]?) ∧ Hid (G4 L l i x))
            case first =>
              as_aux_lemma =>
              -- S4
              by_cases hi0 : i = 0
              · subst hi0
                have HY : Hid (G4 L l 0 x) := fun y h => by omega
                go_wp2_with fail
                go_meet
                exact ⟨HB4, rfl, HY⟩
              · obtain ⟨j, rfl⟩ : ∃ j, i = j + 1 := ⟨i - 1, by omega⟩
                have hd0 : decide (0 < j + 1) = true := decide_eq_true (by omega)
                have hd2 : decide ((0 : Int) < ((j + 1 : Nat) : Int)) = true := decide_eq_true (by omega)
                have hsub : ((j + 1 : Nat) : Int) - 1 = ((j : Nat) : Int) := by omega
                have hjl : j < l.length := by omega
                have hjb : (j : Int) < l.length := by omega
                obtain ⟨b', off', ja, jc, jka, jkc, jfa, jfc, hbo, p1, p2, p3, p4, p5⟩ := HPAT.out j hjl
                simp only [Option.some.injEq, Addr.mk.injEq, and_true] at hbo
                obtain ⟨rfl, rfl⟩ := hbo
                obtain ⟨e0, e1, e2, e3, e4, e5, e6, e7, e8, e9, e10, e11, e12⟩ := thirteen (HBW.out.trans (HB4.out.mono HBW.out.size)) p3 p5
                have HYJ : Hid (l[j + 1 - 1]? = some l[j]) := by show _ = _; rw [Nat.add_sub_cancel]; exact List.getElem?_eq_getElem hjl
                clear p4 p5
                generalize l[j] = y at *
                have HO : Hid (G4 L l (j + 1) x ↔ ordB L y x) := ⟨fun h => h y (by omega) HYJ.out, fun h z _ hz => by rw [HYJ.out] at hz; cases hz; exact h⟩
                have hb5 : Below wc.heap.size wc (wc.alloc (.cells #[.string y.path, .string y.key, .string y.lang, .string y.addr, .int .i64 y.kind, .int .i64 y.set.kd, .bool y.set.bo, .int .i64 y.set.nu, .string y.set.tx, .slice ja y.set.its.length jc, .slice jka y.set.kys.length jkc, .string y.rest, .slice jfa y.files.length jfc] 39)) := (Below.refl _ wc).alloc (Nat.le_refl _) _
                have HB5 := Lib.hid (HB4.out.trans (hb5.mono HB4.out.size))
                have HXE5 := Lib.hid (hb5.block _ HZX.out)
                have HXY5 := Lib.hid (heap_alloc_new wc (.cells #[.string y.path, .string y.key, .string y.lang, .string y.addr, .int .i64 y.kind, .int .i64 y.set.kd, .bool y.set.bo, .int .i64 y.set.nu, .string y.set.tx, .slice ja y.set.its.length jc, .slice jka y.set.kys.length jkc, .string y.rest, .slice jfa y.files.length jfc] 39))
                clear hb5
                go_upto_region 11 with fail
                clear e0 e1 e2 e3 e4 e5 e6 e7 e8 e9 e10 e11 e12 d0 d1 d2 d3 d4 y0 y1 y2 y3 y4 y5 y6 y7 y8 y9 y10 y11 y12
                generalize hw5 : wc.alloc _ = w5 at HB5 HXE5 HXY5 ⊢
                clear hw5
                obtain ⟨d0, d1, d2, d3, d4⟩ := five_open ((HB5.out.block _ hCw).trans HBL.out)
                obtain ⟨x0, x1, x2, x3, x4, x5, x6, x7, x8, x9, x10, x11, x12⟩ := pg_open (HXE5.out.trans HX4.out)
                obtain ⟨y0, y1, y2, y3, y4, y5, y6, y7, y8, y9, y10, y11, y12⟩ := pg_open HXY5.out
                have z0 := grown_cell d0
                have z2 := grown_cell y2
                have HP2 := Lib.hid (fun w' hb => HPOS.out y.lang w' hb)
                have HPO : Hid (ordB L y x ↔ posL L y.lang < P ∨ (posL L y.lang = P ∧ kl y.addr x.addr = true)) := by unfold ordB; rw [HP.out]; exact Iff.rfl
                have HRM := Lib.hid (posL_range L y.lang)
                have hllen := hL.2.1
                have HLL := Lib.hid hllen
                generalize posL L y.lang = M at *
                refine wp_region_quietB (by kernel_rfl) (by kernel_rfl) ?_
                repeat (go_big_quiet_step ((go_at_call 18; exact quietS (HP2.out _ (HBW.out.trans (Below.mono (HB5.out.trans (Below.mono (Subtype.property _) HB5.out.size)) HBW.out.size))))))
                refine wpQuiet_nil ?_
                intro _ hw2
                obtain ⟨q, hw3⟩ := hw2
                subst hw3
                have hB6 : Below w.heap.size w q.1 := HB5.out.trans (Below.mono q.2 HB5.out.size)
                have hX6 : q.1.heap[w.heap.size]? = wc.heap[w.heap.size]? := (q.2.block _ (by have := (Array.getElem?_eq_some_iff.1 (HXE5.out.trans HX4.out)).1; exact this)).trans HXE5.out
                have x3' := grown_cell x3 q
                have y3' := grown_cell y3 q
                have HB6 := Lib.hid hB6
                have HX6 := Lib.hid hX6
                generalize hq : q.1 = w6 at *
                clear hq hB6 hX6 z0 z2 x0 x1 x2 x3 x4 x5 x6 x7 x8 x9 x10 x11 x12 y0 y1 y2 y3 y4 y5 y6 y7 y8 y9 y10 y11 y12 d0 d1 d2 d3 d4
                by_cases c1 : P < M
                · have hd1 : decide (P < M) = true := decide_eq_true c1
                  have HN : Hid (¬ PageOk L l (j + 1) x) := fun h => by
                    rcases HPO.out.1 (HO.out.1 (HG4.out.1 h).1) with g | g
                    · omega
                    · omega
                  clear c1
                  go_wp2_with fail
                  go_ret
                  exact ⟨5, rfl, ⟨fun h => absurd h (by decide), fun h => absurd h HN.out⟩, HBW.out.trans (HB6.out.mono HBW.out.size), fun h => absurd h (by decide)⟩
                have hd1 : decide (P < M) = false := decide_eq_false c1
                by_cases c2 : M = P
                rotate_left
                · have hd3 : (M == P) = false := by rw [beq_eq_false_iff_ne]; exact c2
                  have HY : Hid (G4 L l (j + 1) x) := HO.out.2 (HPO.out.2 (.inl (by omega)))
                  clear c1 c2
                  go_wp2_with fail
                  go_meet
                  exact ⟨HB6, HX6, HY⟩
                subst c2
                have hb7 := bytesLess_kl y.addr x.addr
                cases c3 : kl y.addr x.addr with
                | true =>
                  rw [c3] at hb7
                  have HY : Hid (G4 L l (j + 1) x) := HO.out.2 (HPO.out.2 (.inr ⟨rfl, c3⟩))
                  clear c1 c3
                  go_wp2_with fail
                  go_meet
                  exact ⟨HB6, HX6, HY⟩
                | false =>
                  rw [c3] at hb7
                  have HN : Hid (¬ PageOk L l (j + 1) x) := fun h => by
                    rcases HPO.out.1 (HO.out.1 (HG4.out.1 h).1) with g | g
                    · omega
                    · have := g.2; rw [c3] at this; cases this
                  clear c1 c3
                  go_wp2_with fail
                  go_ret
                  exact ⟨5, rfl, ⟨fun h => absurd h (by decide), fun h => absurd h HN.out⟩, HBW.out.trans (HB6.out.mono HBW.out.size), fun h => absurd h (by decide)⟩
              -- E4
            case rest =>
              as_aux_lemma =>
              obtain ⟨HB5, HXE5, HG4ok⟩ := hcut
              have HX5 := Lib.hid (HXE5.out.trans HX4.out)
              have HG5 : Hid (PageOk L l i x ↔ x.set.okw ∧ G6 l i x ∧ G7 x ∧ G8 l x ∧ FilesOk x.kind x.key x.files) := HG4.out.trans ⟨fun g => g.2, fun g => ⟨HG4ok.out, g⟩⟩
              clear HG4 HXE5 HX4 HB4 d0 d1 d2 d3 d4 y0 y1 y2 y3 y4 y5 y6 y7 y8 y9 y10 y11 y12 HZX
              obtain ⟨d0, d1, d2, d3, d4⟩ := five_open ((HB5.out.block _ hCw).trans HBL.out)
              obtain ⟨y0, y1, y2, y3, y4, y5, y6, y7, y8, y9, y10, y11, y12⟩ := pg_open HX5.out
              have HZX : Hid (w.heap.size < wc.heap.size) := (Array.getElem?_eq_some_iff.1 HX5.out).1
              have hmem : x ∈ l := by rw [← HXI.out]; exact List.getElem_mem hi
              have HCK := Lib.hid (check_all x.set _ wc ((HPG.out wc (HBW.out.trans (HB5.out.mono HBW.out.size))).set))
              rw [vcs_arr] at HCK
              have HTR : Hid (x.set.okw → ∀ w', Below w.heap.size w w' → Calls Tryd.prog 22 #[.agg #[.int .i64 x.set.kd, .bool x.set.bo, .int .i64 x.set.nu, .string x.set.tx, .slice ia x.set.its.length ic, .slice ka x.set.kys.length kc], .string x.key] w' fun e w'' => e = .returned (.string (trL x.set x.key)) ∧ Below w'.heap.size w' w'') := fun ho w' hb => by
                have := translation_any x.set x.key _ w' ((HPG.out w' (HBW.out.trans (hb.mono HBW.out.size))).set) (good_facts ho.2.2).2.1
                rw [vcs_arr] at this
                exact this
              clear hmem
              go_wp2_with fail
              refine HCK.out.mono ?_
              rintro e w6 ⟨r5, rfl, hr5, hb6⟩
              have HB6 := Lib.hid (HB5.out.trans (hb6.mono HB5.out.size))
              have HX6 := Lib.hid ((hb6.block _ HZX.out).trans HX5.out)
              have HR5 := Lib.hid hr5
              clear hb6 hr5 d0 d1 d2 d3 d4 y0 y1 y2 y3 y4 y5 y6 y7 y8 y9 y10 y11 y12 HCK
              by_cases hr0 : r5 = 0
              rotate_left
              · have hd : (r5 != 0) = true := by rw [bne_iff_ne]; exact hr0
                have HN : Hid (¬ PageOk L l i x) := fun h => hr0 (HR5.out.2 (HG5.out.1 h).1)
                have HR0 := Lib.hid hr0
                clear hr0
                go_wp2_with fail
                go_ret
                exact ⟨r5, rfl, ⟨fun h => absurd h HR0.out, fun h => absurd h HN.out⟩, HBW.out.trans (HB6.out.mono HBW.out.size), fun h => absurd h HR0.out⟩
              subst hr0
              have HOK : Hid (x.set.okw) := HR5.out.1 rfl
              have HT := Lib.hid (HTR.out HOK.out)
              have HG6 : Hid (PageOk L l i x ↔ G6 l i x ∧ G7 x ∧ G8 l x ∧ FilesOk x.kind x.key x.files) := HG5.out.trans ⟨fun g => g.2, fun g => ⟨HOK.out, g⟩⟩
              clear HG5 HR5 HTR HX5 HB5 HZX
              obtain ⟨y0, y1, y2, y3, y4, y5, y6, y7, y8, y9, y10, y11, y12⟩ := pg_open HX6.out
              have HZX : Hid (w.heap.size < w6.heap.size) := (Array.getElem?_eq_some_iff.1 HX6.out).1
              have hb7 : Below w6.heap.size w6 (w6.alloc (.cells #[.string ⟨#[107, 101, 121]⟩, .string x.lang, .string x.key] 60)) := (Below.refl _ w6).alloc (Nat.le_refl _) _
              have HK7 := Lib.hid (heap_alloc_new w6 (.cells #[.string ⟨#[107, 101, 121]⟩, .string x.lang, .string x.key] 60))
              have HB7 := Lib.hid (HB6.out.trans (hb7.mono HB6.out.size))
              have HX7 := Lib.hid ((hb7.block _ HZX.out).trans HX6.out)
              clear hb7
              go_upto_region 18 with fail
              generalize hw7 : w6.alloc _ = w7 at HK7 HB7 HX7 ⊢
              have H67 : Hid (w6.heap.size < w7.heap.size) := (Array.getElem?_eq_some_iff.1 HK7.out).1
              have HS6 := Lib.hid HB6.out.size
              clear hw7 HX6 HB6 HZX y0 y1 y2 y3 y4 y5 y6 y7 y8 y9 y10 y11 y12
              go_cut [11] from 12 to 226 (fun s11 wx => ∃ b : Nat, s11 = .pointer (some ⟨b, 0, none⟩) ∧ Hid (w7.heap.size ≤ b) ∧ Hid (Below w7.heap.size w7 wx) ∧ Hid (wx.heap[b]? = some (.cells #[.string ⟨#[116, 114, 97, 110, 115, 108, 97, 116, 105, 111, 110]⟩, .string x.lang, .string (trL x.set x.key)] 60 (0, 0))))
              case first =>
                as_aux_lemma =>
                -- S5
                have hd0 : Below w7.heap.size w7 w7.drew := (Below.refl _ _).drew
                have hd1 : Below w7.heap.size w7 (w7.alloc (.cells #[.string ⟨#[]⟩, .string ⟨#[]⟩, .string ⟨#[]⟩] 60)).drew := ((Below.refl _ _).alloc (Nat.le_refl _) _).drew
                have HS : Hid (∀ w', Below w7.heap.size w7 w' → (w'.cell? ⟨w.heap.size, 1, none⟩ = some (.string x.key) ∧ w'.cell? ⟨w.heap.size, 2, none⟩ = some (.string x.lang) ∧ w'.cell? ⟨w.heap.size, 5, none⟩ = some (.int .i64 x.set.kd) ∧ w'.cell? ⟨w.heap.size, 6, none⟩ = some (.bool x.set.bo) ∧ w'.cell? ⟨w.heap.size, 7, none⟩ = some (.int .i64 x.set.nu) ∧ w'.cell? ⟨w.heap.size, 8, none⟩ = some (.string x.set.tx) ∧ w'.cell? ⟨w.heap.size, 9, none⟩ = some (.slice ia x.set.its.length ic) ∧ w'.cell? ⟨w.heap.size, 10, none⟩ = some (.slice ka x.set.kys.length kc) ∧ Below w7.heap.size w7 w')) := fun w' hb => by
                  have hz : w.heap.size < w7.heap.size := (Array.getElem?_eq_some_iff.1 HX7.out).1
                  obtain ⟨y0, y1, y2, y3, y4, y5, y6, y7, y8, y9, y10, y11, y12⟩ := pg_open ((hb.block _ hz).trans HX7.out)
                  exact ⟨y1, y2, y5, y6, y7, y8, y9, y10, hb⟩
                generalize trL x.set x.key = TR at *
                have HG : Hid (∀ w', (w'.cell? ⟨w.heap.size, 1, none⟩ = some (.string x.key) ∧ w'.cell? ⟨w.heap.size, 2, none⟩ = some (.string x.lang) ∧ w'.cell? ⟨w.heap.size, 5, none⟩ = some (.int .i64 x.set.kd) ∧ w'.cell? ⟨w.heap.size, 6, none⟩ = some (.bool x.set.bo) ∧ w'.cell? ⟨w.heap.size, 7, none⟩ = some (.int .i64 x.set.nu) ∧ w'.cell? ⟨w.heap.size, 8, none⟩ = some (.string x.set.tx) ∧ w'.cell? ⟨w.heap.size, 9, none⟩ = some (.slice ia x.set.its.length ic) ∧ w'.cell? ⟨w.heap.size, 10, none⟩ = some (.slice ka x.set.kys.length kc) ∧ Below w7.heap.size w7 w') → Below w7.heap.size w7 w') := fun w' h => h.2.2.2.2.2.2.2.2
                have HSA : Hid (∀ w', Below w7.heap.size w7 w' → ∀ w'', w'' = w'.alloc (.cells #[.string ⟨#[116, 114, 97, 110, 115, 108, 97, 116, 105, 111, 110]⟩, .string x.lang, .string TR] 60) → (w''.cell? ⟨w.heap.size, 1, none⟩ = some (.string x.key) ∧ w''.cell? ⟨w.heap.size, 2, none⟩ = some (.string x.lang) ∧ w''.cell? ⟨w.heap.size, 5, none⟩ = some (.int .i64 x.set.kd) ∧ w''.cell? ⟨w.heap.size, 6, none⟩ = some (.bool x.set.bo) ∧ w''.cell? ⟨w.heap.size, 7, none⟩ = some (.int .i64 x.set.nu) ∧ w''.cell? ⟨w.heap.size, 8, none⟩ = some (.string x.set.tx) ∧ w''.cell? ⟨w.heap.size, 9, none⟩ = some (.slice ia x.set.its.length ic) ∧ w''.cell? ⟨w.heap.size, 10, none⟩ = some (.slice ka x.set.kys.length kc) ∧ Below w7.heap.size w7 w'')) := fun w' hb w'' e => by subst e; exact HS.out _ (hb.alloc hb.size _)
                have HSO : Hid (∀ w', Below w7.heap.size w7 w' → ∀ w'', w'' = w'.alloc (.cells #[.string ⟨#[]⟩, .string ⟨#[]⟩, .string ⟨#[]⟩] 60) → (w''.cell? ⟨w.heap.size, 1, none⟩ = some (.string x.key) ∧ w''.cell? ⟨w.heap.size, 2, none⟩ = some (.string x.lang) ∧ w''.cell? ⟨w.heap.size, 5, none⟩ = some (.int .i64 x.set.kd) ∧ w''.cell? ⟨w.heap.size, 6, none⟩ = some (.bool x.set.bo) ∧ w''.cell? ⟨w.heap.size, 7, none⟩ = some (.int .i64 x.set.nu) ∧ w''.cell? ⟨w.heap.size, 8, none⟩ = some (.string x.set.tx) ∧ w''.cell? ⟨w.heap.size, 9, none⟩ = some (.slice ia x.set.its.length ic) ∧ w''.cell? ⟨w.heap.size, 10, none⟩ = some (.slice ka x.set.kys.length kc) ∧ Below w7.heap.size w7 w'')) := fun w' hb w'' e => by subst e; exact HS.out _ (hb.alloc hb.size _)
                have HSB : Hid (∀ w', Below w7.heap.size w7 w' → Below w7.heap.size w7 (((w'.setCell ⟨w7.heap.size, 0, none⟩ (.string ⟨#[116, 114, 97, 110, 115, 108, 97, 116, 105, 111, 110]⟩)).setCell ⟨w7.heap.size, 1, none⟩ (.string x.lang)).setCell ⟨w7.heap.size, 2, none⟩ (.string TR))) := fun w' hb => ((hb.setCell (Nat.le_refl _) _).setCell (Nat.le_refl _) _).setCell (Nat.le_refl _) _
                have HZ : Hid (∀ w', Below (w7.alloc (.cells #[.string ⟨#[]⟩, .string ⟨#[]⟩, .string ⟨#[]⟩] 60)).drew.heap.size (w7.alloc (.cells #[.string ⟨#[]⟩, .string ⟨#[]⟩, .string ⟨#[]⟩] 60)).drew w' → (w'.heap[w7.heap.size]? = some (.cells #[.string ⟨#[]⟩, .string ⟨#[]⟩, .string ⟨#[]⟩] 60 (0, 0))) ∧ True) := fun w' hb => ⟨(hb.block _ (by show _ < (w7.heap.push _).size; simp)).trans (heapDrewM (heap_alloc_new _ _)), trivial⟩
                go_region_held3 (fun w' => w'.cell? ⟨w.heap.size, 1, none⟩ = some (.string x.key) ∧ w'.cell? ⟨w.heap.size, 2, none⟩ = some (.string x.lang) ∧ w'.cell? ⟨w.heap.size, 5, none⟩ = some (.int .i64 x.set.kd) ∧ w'.cell? ⟨w.heap.size, 6, none⟩ = some (.bool x.set.bo) ∧ w'.cell? ⟨w.heap.size, 7, none⟩ = some (.int .i64 x.set.nu) ∧ w'.cell? ⟨w.heap.size, 8, none⟩ = some (.string x.set.tx) ∧ w'.cell? ⟨w.heap.size, 9, none⟩ = some (.slice ia x.set.its.length ic) ∧ w'.cell? ⟨w.heap.size, 10, none⟩ = some (.slice ka x.set.kys.length kc) ∧ Below w7.heap.size w7 w') (first | (with_reducible exact HS.out _ (by assumption)) | (with_reducible exact HSA.out _ (by assumption) _ rfl) | (with_reducible exact HSO.out _ (by assumption) _ rfl) | (with_reducible exact HS.out _ (HSB.out _ (by assumption))))
                  (first | (go_at_call 22; refine (HT.out _ (HB7.out.trans (Below.mono (HG.out _ (by assumption)) HB7.out.size))).mono ?_; rintro e w8 ⟨rfl, hb8⟩; have hq : Below w7.heap.size w7 w8 := Below.trans (HG.out _ (by assumption)) (hb8.mono (HG.out _ (by assumption)).size); try (have hz9 := HZ.out _ hb8; obtain ⟨hz8, _⟩ := hz9; have t0 := three_open hz8; obtain ⟨t0, t1, t2⟩ := t0; have g0 := three_cold hz8; obtain ⟨g0, g1, g2⟩ := g0; have HZ8 := Lib.hid hz8; clear hz8)))
                all_goals
                  have HQ := Lib.hid hq
                  clear HS HG HSA HSO HZ HT hq hd0 hd1
                  go_wp2_with fail
                  go_meet
                  first
                  | exact ⟨_, rfl, HQ.out.size, HQ.out.alloc HQ.out.size _, heap_alloc_new _ _⟩
                  | exact ⟨_, rfl, Nat.le_refl _, HSB.out _ HQ.out, three_put HZ8.out⟩
                -- E5
              case rest =>
                as_aux_lemma =>
                obtain ⟨b2, rfl, HLE2, HB8, HK2⟩ := hcut
                have HBC : Hid (Below w.heap.size w wc) := HB7.out.trans (HB8.out.mono HB7.out.size)
                have HXC : Hid (wc.heap[w.heap.size]? = some (.cells #[.string x.path, .string x.key, .string x.lang, .string x.addr, .int .i64 x.kind, .int .i64 x.set.kd, .bool x.set.bo, .int .i64 x.set.nu, .string x.set.tx, .slice ia x.set.its.length ic, .slice ka x.set.kys.length kc, .string x.rest, .slice fa x.files.length fc] 39 (0, 0))) := (HB8.out.block _ (Array.getElem?_eq_some_iff.1 HX7.out).1).trans HX7.out
                have HK1 : Hid (wc.heap[w6.heap.size]? = some (.cells #[.string ⟨#[107, 101, 121]⟩, .string x.lang, .string x.key] 60 (0, 0))) := (HB8.out.block _ H67.out).trans HK7.out
                have HNK : Hid (w.heap.size ≤ w6.heap.size ∧ w.heap.size ≤ b2) := ⟨HS6.out, Nat.le_trans HB7.out.size HLE2.out⟩
                clear HB7 HX7 HK7 HB8 HT H67 HLE2 HS6
                have HSZ : Hid (x.addr.size ≤ maxLen ∧ x.lang.size ≤ maxLen ∧ x.key.size ≤ maxLen ∧ (trL x.set x.key).size ≤ maxLen) := by
                  have g := HPG.out _ (Below.refl _ W0)
                  exact ⟨g.addr, g.lang, g.key, trL_size g.set g.key⟩
                generalize hTR : trL x.set x.key = TR at HK2 HSZ
                have HTRE := Lib.hid hTR
                clear hTR
                obtain ⟨d0, d1, d2, d3, d4⟩ := five_open ((HBC.out.block _ hCw).trans HBL.out)
                obtain ⟨y0, y1, y2, y3, y4, y5, y6, y7, y8, y9, y10, y11, y12⟩ := pg_open HXC.out
                obtain ⟨k0, k1, k2⟩ := three_open HK1.out
                obtain ⟨j0, j1, j2⟩ := three_open HK2.out
                have HCS := Lib.hid (HST.out.on HBC.out)
                have HLA : Hid (∀ (r : Bool), (r = true ↔ A1 l i x.addr) → ∀ n, (Instr.lookup 33 (.map (some ab)) (.string x.addr) false).run Tryd.prog (wc.drewN n) = .ok (.bool r) (wc.drewN n)) := fun r hr n => setM_look (HCS.out.adr.block (w' := wc.drewN n) rfl) key1_law Tryd.underlying33 (zBool _) x.addr (key1_of HSZ.out.1) r hr
                have HLK : Hid (∀ (r : Bool), (r = true ↔ A3 l i (kwKey, x.lang, x.key)) → ∀ n, (Instr.lookup 46 (.map (some kb)) (.agg #[.string ⟨#[107, 101, 121]⟩, .string x.lang, .string x.key]) false).run Tryd.prog (wc.drewN n) = .ok (.bool r) (wc.drewN n)) := fun r hr n => setM_look (HCS.out.key.block (w' := wc.drewN n) rfl) key3_arr.law Tryd.underlying46 (zBool _) (kwKey, x.lang, x.key) (key3_of (show kwKey.size ≤ maxLen by decide) HSZ.out.2.1 HSZ.out.2.2.1) r hr
                have HLT : Hid (∀ (r : Bool), (r = true ↔ A3 l i (trKey, x.lang, TR)) → ∀ n, (Instr.lookup 46 (.map (some kb)) (.agg #[.string ⟨#[116, 114, 97, 110, 115, 108, 97, 116, 105, 111, 110]⟩, .string x.lang, .string TR]) false).run Tryd.prog (wc.drewN n) = .ok (.bool r) (wc.drewN n)) := fun r hr n => setM_look (HCS.out.key.block (w' := wc.drewN n) rfl) key3_arr.law Tryd.underlying46 (zBool _) (trKey, x.lang, TR) (key3_of (show trKey.size ≤ maxLen by decide) HSZ.out.2.1 HSZ.out.2.2.2) r hr
                go_upto_region 19 with fail
                by_cases a1 : A1 l i x.addr
                · have h1 := HLA.out true ⟨fun _ => a1, fun _ => rfl⟩
                  have HN : Hid (¬ PageOk L l i x) := fun h => (HG6.out.1 h).1.1 a1
                  clear a1
                  -- S6
                  go_quiet (fail)
                  go_wp2_with fail
                  go_ret
                  exact ⟨6, rfl, ⟨fun h => absurd h (by decide), fun h => absurd h HN.out⟩, HBW.out.trans ((below_drewN HBC.out _).mono HBW.out.size), fun h => absurd h (by decide)⟩
                  -- E6
                have h1 := HLA.out false ⟨fun h => (by cases h), fun h => absurd h a1⟩
                by_cases a2 : A3 l i (kwKey, x.lang, x.key)
                · have h2 := HLK.out true ⟨fun _ => a2, fun _ => rfl⟩
                  have HN : Hid (¬ PageOk L l i x) := fun h => (HG6.out.1 h).1.2.1 a2
                  clear a1 a2
                  -- S7
                  go_quiet (fail)
                  go_wp2_with fail
                  go_ret
                  exact ⟨6, rfl, ⟨fun h => absurd h (by decide), fun h => absurd h HN.out⟩, HBW.out.trans ((below_drewN HBC.out _).mono HBW.out.size), fun h => absurd h (by decide)⟩
                  -- E7
                have h2 := HLK.out false ⟨fun h => (by cases h), fun h => absurd h a2⟩
                by_cases a3 : A3 l i (trKey, x.lang, TR)
                · have h3 := HLT.out true ⟨fun _ => a3, fun _ => rfl⟩
                  have HN : Hid (¬ PageOk L l i x) := fun h => (HG6.out.1 h).1.2.2 (by rw [HTRE.out]; exact a3)
                  clear a1 a2 a3
                  -- S8
                  go_quiet (fail)
                  go_wp2_with fail
                  go_ret
                  exact ⟨6, rfl, ⟨fun h => absurd h (by decide), fun h => absurd h HN.out⟩, HBW.out.trans ((below_drewN HBC.out _).mono HBW.out.size), fun h => absurd h (by decide)⟩
                  -- E8
                have h3 := HLT.out false ⟨fun h => (by cases h), fun h => absurd h a3⟩
                have HG7 : Hid (PageOk L l i x ↔ G7 x ∧ G8 l x ∧ FilesOk x.kind x.key x.files) := HG6.out.trans ⟨fun g => g.2, fun g => ⟨⟨a1, a2, by rw [HTRE.out]; exact a3⟩, g⟩⟩
                clear HG6 a1 a2 a3
                go_quiet (fail)
                have HBD : Hid (Below w.heap.size w (wc.drewN nq)) := below_drewN HBC.out _
                have HXD : Hid ((wc.drewN nq).heap[w.heap.size]? = wc.heap[w.heap.size]?) := rfl
                have HKD : Hid ((wc.drewN nq).heap[w6.heap.size]? = some (.cells #[.string ⟨#[107, 101, 121]⟩, .string x.lang, .string x.key] 60 (0, 0)) ∧ (wc.drewN nq).heap[b2]? = some (.cells #[.string ⟨#[116, 114, 97, 110, 115, 108, 97, 116, 105, 111, 110]⟩, .string x.lang, .string TR] 60 (0, 0))) := ⟨HK1.out, HK2.out⟩
                generalize hwd : wc.drewN nq = wd at HBD HXD HKD ⊢
                clear hwd HLA HLK HLT HK1 HK2 HCS h1 h2 h3 d0 d1 d2 d3 d4 y0 y1 y2 y3 y4 y5 y6 y7 y8 y9 y10 y11 y12 k0 k1 k2 j0 j1 j2
                have HXW : Hid (wd.heap[w.heap.size]? = some (.cells #[.string x.path, .string x.key, .string x.lang, .string x.addr, .int .i64 x.kind, .int .i64 x.set.kd, .bool x.set.bo, .int .i64 x.set.nu, .string x.set.tx, .slice ia x.set.its.length ic, .slice ka x.set.kys.length kc, .string x.rest, .slice fa x.files.length fc] 39 (0, 0))) := HXD.out.trans HXC.out
                clear HXD HXC HBC
                obtain ⟨y0, y1, y2, y3, y4, y5, y6, y7, y8, y9, y10, y11, y12⟩ := pg_open HXW.out
                go_upto_region 21 with fail
                go_cut [145] from 12 to 226 (fun s145 wx => wx = wd ∧ ∃ r : Bool, s145 = .bool r ∧ Hid (r = true ↔ ¬ G7 x))
                case first =>
                  as_aux_lemma =>
                  -- S9
                  have HGG : Hid (G7 x ↔ 0 ≤ x.kind ∧ x.kind ≤ 2 ∧ (x.key = ⟨#[]⟩ → x.kind = 2)) := Iff.rfl
                  have HEM := Lib.hid (emptyB x.key)
                  generalize x.kind = KD at *
                  by_cases c0 : KD < 0
                  · have e0 : decide (KD < 0) = true := decide_eq_true c0
                    have HR : Hid (¬ G7 x) := fun h => by have := (HGG.out.1 h).1; omega
                    clear c0
                    go_wp2_with fail
                    go_meet
                    exact ⟨rfl, true, rfl, ⟨fun _ => HR.out, fun _ => rfl⟩⟩
                  have e0 : decide (KD < 0) = false := decide_eq_false c0
                  by_cases c1 : 2 < KD
                  · have e1 : decide (2 < KD) = true := decide_eq_true c1
                    have HR : Hid (¬ G7 x) := fun h => by have := (HGG.out.1 h).2.1; omega
                    clear c0 c1
                    go_wp2_with fail
                    go_meet
                    exact ⟨rfl, true, rfl, ⟨fun _ => HR.out, fun _ => rfl⟩⟩
                  have e1 : decide (2 < KD) = false := decide_eq_false c1
                  cases hk0 : x.key.toList.isEmpty with
                  | false =>
                    have HR : Hid (G7 x) := HGG.out.2 ⟨by omega, by omega, fun e => by have := HEM.out; rw [hk0] at this; exact absurd e (of_decide_eq_false this.symm)⟩
                    clear c0 c1
                    go_wp2_with fail
                    go_meet
                    exact ⟨rfl, false, rfl, ⟨fun h => (by cases h), fun h => absurd HR.out h⟩⟩
                  | true =>
                    have HE : Hid (x.key = ⟨#[]⟩) := (by have := HEM.out; rw [hk0] at this; exact of_decide_eq_true this.symm : x.key = ⟨#[]⟩)
                    by_cases c2 : KD = 2
                    · have e2 : (KD != 2) = false := by rw [c2]; rfl
                      have HR : Hid (G7 x) := HGG.out.2 ⟨by omega, by omega, fun e => c2⟩
                      clear c0 c1 c2
                      go_wp2_with fail
                      go_meet
                      exact ⟨rfl, false, rfl, ⟨fun h => (by cases h), fun h => absurd HR.out h⟩⟩
                    · have e2 : (KD != 2) = true := by rw [bne_iff_ne]; exact c2
                      have HR : Hid (¬ G7 x) := fun h => c2 ((HGG.out.1 h).2.2 HE.out)
                      clear c0 c1 c2
                      go_wp2_with fail
                      go_meet
                      exact ⟨rfl, true, rfl, ⟨fun _ => HR.out, fun _ => rfl⟩⟩
                  -- E9
                case rest =>
                  as_aux_lemma =>
                  obtain ⟨rfl, r7, rfl, HR7⟩ := hcut
                  cases r7 with
                  | true =>
                    have HN : Hid (¬ PageOk L l i x) := fun h => HR7.out.1 rfl (HG7.out.1 h).1
                    go_wp2_with fail
                    go_ret
                    exact ⟨1, rfl, ⟨fun h => absurd h (by decide), fun h => absurd h HN.out⟩, HBW.out.trans (HBD.out.mono HBW.out.size), fun h => absurd h (by decide)⟩
                  | false =>
                    have HG7ok : Hid (G7 x) := by
                      by_cases h : G7 x
                      · exact h
                      · have := HR7.out.2 h; cases this
                    have HG8 : Hid (PageOk L l i x ↔ G8 l x ∧ FilesOk x.kind x.key x.files) := HG7.out.trans ⟨fun g => g.2, fun g => ⟨HG7ok.out, g⟩⟩
                    clear HG7 HR7 HG7ok
                    go_upto_region 23 with fail
                    have HCS := Lib.hid ((HST.out.on HBD.out).on ((Below.refl wc.heap.size wc).drew))
                    obtain ⟨g1, g2, g3, v1, v2, v3, w1, w2, w3, w4, w5, w9, r1, r2, r3, r4, r5, r6, b1, b2', b3, b4, b5, b6, hsz, hCK⟩ := ck_store hl hi HCS.out HXI.out HTRE.out HSZ.out.1 HSZ.out.2.1 HSZ.out.2.2.1 HSZ.out.2.2.2
                    have HCK := Lib.hid hCK
                    have HSZ9 := Lib.hid hsz
                    have hsS : ∀ w', Besides wc.drew w' ab kb → (w'.cell? ⟨C, 2, none⟩ = some (.map (some sb)) ∧ w'.cell? ⟨C, 3, none⟩ = some (.map (some ab)) ∧ w'.cell? ⟨C, 4, none⟩ = some (.map (some kb)) ∧ w'.cell? ⟨w.heap.size, 3, none⟩ = some (.string x.addr) ∧ w'.cell? ⟨w6.heap.size, 0, none⟩ = some (.string ⟨#[107, 101, 121]⟩) ∧ w'.cell? ⟨w6.heap.size, 1, none⟩ = some (.string x.lang) ∧ w'.cell? ⟨w6.heap.size, 2, none⟩ = some (.string x.key) ∧ w'.cell? ⟨b2, 0, none⟩ = some (.string ⟨#[116, 114, 97, 110, 115, 108, 97, 116, 105, 111, 110]⟩) ∧ w'.cell? ⟨b2, 1, none⟩ = some (.string x.lang) ∧ w'.cell? ⟨b2, 2, none⟩ = some (.string TR)) := fun w' hb => by
                      have hlt1 : ab < w.heap.size := HST.out.adr.lt
                      have hlt2 : kb < w.heap.size := HST.out.key.lt
                      have hn := HNK.out
                      have hC := (hb C (Array.getElem?_eq_some_iff.1 HCS.out.blk).1 HCS.out.n1 HCS.out.n2).trans HCS.out.blk
                      have hX := (hb w.heap.size (Array.getElem?_eq_some_iff.1 HXW.out).1 (by omega) (by omega)).trans (heapDrewM HXW.out)
                      have hK1 := (hb w6.heap.size (Array.getElem?_eq_some_iff.1 HKD.out.1).1 (by omega) (by omega)).trans (heapDrewM HKD.out.1)
                      have hK2 := (hb b2 (Array.getElem?_eq_some_iff.1 HKD.out.2).1 (by omega) (by omega)).trans (heapDrewM HKD.out.2)
                      exact ⟨cellT hC rfl, cellT hC rfl, cellT hC rfl, cellT hX rfl, cellT hK1 rfl, cellT hK1 rfl, cellT hK1 rfl, cellT hK2 rfl, cellT hK2 rfl, cellT hK2 rfl⟩
                    have HS := Lib.hid hsS
                    have HT0 := Lib.hid (besides_refl wc.drew ab kb)
                    have HT1 := Lib.hid b1
                    have HT2 := Lib.hid b2'
                    have HT3 := Lib.hid b3
                    have HT4 := Lib.hid b4
                    have HT5 := Lib.hid b5
                    have HT6 := Lib.hid b6
                    clear hsS b1 b2' b3 b4 b5 b6 hCK hsz y0 y1 y2 y3 y4 y5 y6 y7 y8 y9 y10 y11 y12
                    go_region_held3 (fun w' => w'.cell? ⟨C, 2, none⟩ = some (.map (some sb)) ∧ w'.cell? ⟨C, 3, none⟩ = some (.map (some ab)) ∧ w'.cell? ⟨C, 4, none⟩ = some (.map (some kb)) ∧ w'.cell? ⟨w.heap.size, 3, none⟩ = some (.string x.addr) ∧ w'.cell? ⟨w6.heap.size, 0, none⟩ = some (.string ⟨#[107, 101, 121]⟩) ∧ w'.cell? ⟨w6.heap.size, 1, none⟩ = some (.string x.lang) ∧ w'.cell? ⟨w6.heap.size, 2, none⟩ = some (.string x.key) ∧ w'.cell? ⟨b2, 0, none⟩ = some (.string ⟨#[116, 114, 97, 110, 115, 108, 97, 116, 105, 111, 110]⟩) ∧ w'.cell? ⟨b2, 1, none⟩ = some (.string x.lang) ∧ w'.cell? ⟨b2, 2, none⟩ = some (.string TR)) (first | (with_reducible exact HS.out _ HT0.out) | (with_reducible exact HS.out _ HT1.out) | (with_reducible exact HS.out _ HT2.out) | (with_reducible exact HS.out _ HT3.out) | (with_reducible exact HS.out _ HT4.out) | (with_reducible exact HS.out _ HT5.out) | (with_reducible exact HS.out _ HT6.out)) (fail)
                    clear HT0 HT1 HT2 HT3 HT4 HT5 HS r1 r2 r3 r4 r5 r6
                    have HX9 : Hid (w9.heap[w.heap.size]? = some (.cells #[.string x.path, .string x.key, .string x.lang, .string x.addr, .int .i64 x.kind, .int .i64 x.set.kd, .bool x.set.bo, .int .i64 x.set.nu, .string x.set.tx, .slice ia x.set.its.length ic, .slice ka x.set.kys.length kc, .string x.rest, .slice fa x.files.length fc] 39 (0, 0))) := by
                      have hlt1 : ab < w.heap.size := HST.out.adr.lt
                      have hlt2 : kb < w.heap.size := HST.out.key.lt
                      exact (HT6.out w.heap.size (Array.getElem?_eq_some_iff.1 HXW.out).1 (by omega) (by omega)).trans (heapDrewM HXW.out)
                    have hkl : x.key.size ≤ 200 := by
                      rcases HG2ok.out with e | e
                      · rw [e]; decide
                      · have := path_len e; rw [Array.length_toList] at this; exact this
                    have HKL := Lib.hid hkl
                    clear hkl
                    have HAL : Hid (x.addr.size ≤ 300) := addr_len HG3ok.out.1
                    clear HT6 HXW HKD HBD HCS HNK HST HSZ9 HL8
                    obtain ⟨y0, y1, y2, y3, y4, y5, y6, y7, y8, y9, y10, y11, y12⟩ := pg_open HX9.out
                    obtain ⟨d0, d1, d2, d3, d4⟩ := five_open HCK.out.blk
                    have HLT9 : Hid (w.heap.size < w9.heap.size) := (Array.getElem?_eq_some_iff.1 HX9.out).1
                    go_upto_if 188 with fail
                    go_cut [] from 12 to 226 (fun wx => Hid (Below w9.heap.size w9 wx) ∧ Hid (G8 l x))
                    case first =>
                      as_aux_lemma =>
                      -- S10
                      have HEM := Lib.hid (emptyB x.key)
                      cases hk0 : x.key.toList.isEmpty with
                      | true =>
                        have HE : Hid (G8 l x) := .inl (by have := HEM.out; rw [hk0] at this; exact of_decide_eq_true this.symm)
                        go_wp2_with fail
                        go_meet
                        exact ⟨Below.refl _ _, HE⟩
                      | false =>
                        have HE : Hid (G8 l x ↔ ∃ k y, secF l x.lang (dirL x.key) = some k ∧ l[k]? = some y ∧ oneMoreB y.addr x.addr = true) := ⟨fun h => h.resolve_left (fun e => by have := HEM.out; rw [hk0] at this; exact of_decide_eq_false this.symm e), fun h => .inr h⟩
                        have HCL := Lib.hid (fun w' => cutLast_any x.key w' (Nat.le_trans HKL.out (by decide)))
                        have HDZ : Hid ((dirL x.key).size ≤ maxLen) := Nat.le_trans (dirL_size _) HSZ.out.2.2.1
                        generalize dirL x.key = D at *
                        generalize lastL x.key = La at *
                        go_wp2_with fail
                        refine (HCL.out _).mono ?_
                        rintro e w10 ⟨rfl, q, rfl⟩
                        have HLO := Lib.hid (fun n r hr => (HCK.out.sec.block (w' := (w9.drewN q).drewN n) rfl).look HSZ.out.2.1 HDZ.out (r := r) hr)
                        have y0' : ∀ j v, w9.cell? ⟨w.heap.size, j, none⟩ = some v → (w9.drewN q).cell? ⟨w.heap.size, j, none⟩ = some v := fun j v h => h
                        have z2 := y0' _ _ y2
                        have z3 := y0' _ _ y3
                        have c0 : ∀ j v, w9.cell? ⟨C, j, none⟩ = some v → (w9.drewN q).cell? ⟨C, j, none⟩ = some v := fun j v h => h
                        have e0 := c0 _ _ d0
                        have e1 := c0 _ _ d1
                        have e2 := c0 _ _ d2
                        have e3 := c0 _ _ d3
                        have e4 := c0 _ _ d4
                        have HB10 : Hid (Below w9.heap.size w9 (w9.drewN q)) := below_drewN (Below.refl _ _) _
                        clear y0' c0 y0 y1 y2 y3 y4 y5 y6 y7 y8 y9 y10 y11 y12 d0 d1 d2 d3 d4
                        generalize hw10 : w9.drewN q = w10 at *
                        clear hw10
                        cases hsec : secF l x.lang D with
                        | none =>
                          have hrun := fun n => HLO.out n none hsec
                          have HN : Hid (¬ PageOk L l i x) := fun h => by
                            obtain ⟨k, y, g1, _⟩ := HE.out.1 (HG8.out.1 h).1
                            rw [hsec] at g1; cases g1
                          clear hsec
                          simp only [Option.getD_none, Option.isSome_none] at hrun
                          go_upto_region 26 with fail
                          go_quiet (fail)
                          go_upto_region 27 with fail
                          go_quiet (fail)
                          go_wp2_with fail
                          go_ret
                          exact ⟨7, rfl, ⟨fun h => absurd h (by decide), fun h => absurd h HN.out⟩, HCK.out.below.trans ((below_drewN (below_drewN HB10.out _) _).mono HCK.out.below.size), fun h => absurd h (by decide)⟩
                        | some k =>
                          have hrun := fun n => HLO.out n (some k) hsec
                          simp only [Option.getD_some, Option.isSome_some] at hrun
                          have hkl : k < l.length := secF_lt hsec
                          have hkb : (k : Int) < l.length := by omega
                          obtain ⟨b', off', ja, jc, jka, jkc, jfa, jfc, hbo, p1, p2, p3, p4, p5⟩ := HPAT.out k hkl
                          simp only [Option.some.injEq, Addr.mk.injEq, and_true] at hbo
                          obtain ⟨rfl, rfl⟩ := hbo
                          have hyc : ∀ n, (w10.drewN n).cell? ⟨b, off + k * 13 + 3, none⟩ = some (.string l[k].addr) := fun n => (thirteen (below_drewN (HCK.out.below.trans (HB10.out.mono HCK.out.below.size)) n) p3 p5).2.2.2.1
                          have HHE : Hid (G8 l x ↔ oneMoreB l[k].addr x.addr = true) := HE.out.trans ⟨fun ⟨k', y, g1, g2, g3⟩ => by rw [hsec] at g1; cases g1; rw [List.getElem?_eq_getElem hkl] at g2; cases g2; exact g3, fun g => ⟨k, _, hsec, List.getElem?_eq_getElem hkl, g⟩⟩
                          have HOM := Lib.hid (fun w' => oneMore_all l[k].addr x.addr w' (Nat.le_trans HAL.out (by decide)))
                          clear hsec p4 p5 p2
                          generalize l[k].addr = ya at *
                          go_upto_region 26 with fail
                          go_quiet (fail)
                          have HYC := Lib.hid hyc
                          have HE10 := Lib.hid (And.intro (And.intro e0 (And.intro e1 (And.intro e2 (And.intro e3 e4)))) (And.intro z2 z3))
                          clear hyc e0 e1 e2 e3 e4 z2 z3 hrun
                          have HB11 : Hid (Below w9.heap.size w9 (w10.drewN nq)) := below_drewN HB10.out _
                          have hy := HYC.out nq
                          have hE : ∀ (a : Addr) v, w10.cell? a = some v → (w10.drewN nq).cell? a = some v := fun a v h => h
                          have e0 := hE _ _ HE10.out.1.1
                          have e1 := hE _ _ HE10.out.1.2.1
                          have z3 := hE _ _ HE10.out.2.2
                          clear hE HYC HE10
                          generalize hw11 : w10.drewN nq = w11 at *
                          clear hw11
                          cases hom : oneMoreB ya x.addr with
                          | true =>
                            rw [hom] at HOM HHE
                            have HR : Hid (G8 l x) := HHE.out.2 rfl
                            clear hom
                            go_upto_region 27 with fail
                            go_quiet ((go_at_call 24; exact Calls.quiet_of_same (HOM.out _)))
                            go_wp2_with fail
                            go_meet
                            exact ⟨below_drewN HB11.out _, HR⟩
                          | false =>
                            rw [hom] at HOM HHE
                            have HN : Hid (¬ PageOk L l i x) := fun h => by have := HHE.out.1 (HG8.out.1 h).1; cases this
                            clear hom
                            go_upto_region 27 with fail
                            go_quiet ((go_at_call 24; exact Calls.quiet_of_same (HOM.out _)))
                            go_wp2_with fail
                            go_ret
                            exact ⟨7, rfl, ⟨fun h => absurd h (by decide), fun h => absurd h HN.out⟩, HCK.out.below.trans ((below_drewN HB11.out _).mono HCK.out.below.size), fun h => absurd h (by decide)⟩
                      -- E10
                    case rest =>
                      as_aux_lemma =>
                      obtain ⟨HBC, HG8ok⟩ := hcut
                      have HXC : Hid (wc.heap[w.heap.size]? = some (.cells #[.string x.path, .string x.key, .string x.lang, .string x.addr, .int .i64 x.kind, .int .i64 x.set.kd, .bool x.set.bo, .int .i64 x.set.nu, .string x.set.tx, .slice ia x.set.its.length ic, .slice ka x.set.kys.length kc, .string x.rest, .slice fa x.files.length fc] 39 (0, 0))) := (HBC.out.block _ HLT9.out).trans HX9.out
                      have HB0 : Hid (Below W0.heap.size W0 wc) := HCK.out.below.trans (HBC.out.mono HCK.out.below.size)
                      have HFF : Hid (Calls Tryd.prog 25 #[.agg #[.string x.path, .string x.key, .string x.lang, .string x.addr, .int .i64 x.kind, .int .i64 x.set.kd, .bool x.set.bo, .int .i64 x.set.nu, .string x.set.tx, .slice ia x.set.its.length ic, .slice ka x.set.kys.length kc, .string x.rest, .slice fa x.files.length fc]] wc fun e w' => ∃ r : Int, e = .returned (.int .i64 r) ∧ (r = 0 ↔ FilesOk x.kind x.key x.files) ∧ Below wc.heap.size wc w') := filesFault_any x ia ka fa ic kc fc wc (HPG.out wc HB0.out) (Nat.le_trans HKL.out (by decide)) m ((HB0.out.cell hmz).trans HM0.out)
                      have HFIN : Hid (PageOk L l i x ↔ FilesOk x.kind x.key x.files) := HG8.out.trans ⟨fun g => g.2, fun g => ⟨HG8ok.out, g⟩⟩
                      clear y0 y1 y2 y3 y4 y5 y6 y7 y8 y9 y10 y11 y12 d0 d1 d2 d3 d4
                      obtain ⟨y0, y1, y2, y3, y4, y5, y6, y7, y8, y9, y10, y11, y12⟩ := pg_open HXC.out
                      go_wp2_with fail
                      refine HFF.out.mono ?_
                      rintro e w12 ⟨r, rfl, hr, hb12⟩
                      have HR := Lib.hid hr
                      have HB12 : Hid (Below w9.heap.size w9 w12) := HBC.out.trans (hb12.mono HBC.out.size)
                      clear hr hb12
                      go_wp2_with fail
                      go_ret
                      exact ⟨r, rfl, HR.out.trans HFIN.out.symm, HCK.out.below.trans (HB12.out.mono HCK.out.below.size), fun _ => HCK.out.on HB12.out⟩
end Go.Proofs.YthkokpkiffbjnaaDoor
