/- list.at: what a value has at the end of steps. Conditions: each table within has as many keys as items. -/
import Derived.Test.YtihdfkcoajpmjaaGreatDoorLsS
import Derived.Test.YtihdfkcoajpmjaaGreatDoorKeP6
import Derived.Deep.CutRange
namespace Mh
open Go Go.RowKit
set_option linter.unusedVariables false
theorem lsts_len : ∀ l : List St, (l.flatMap lst).length = l.length * 2 := by
  intro l
  induction l with
  | nil => rfl
  | cons a l ih => rw [List.flatMap_cons, List.length_append, ih, List.length_cons]; show 2 + _ = _; omega
theorem lsts_get : ∀ (l : List St) (i : Nat) (h : i < l.length) (j : Nat), j < 2 → (l.flatMap lst)[i * 2 + j]? = (lst l[i])[j]? := by
  intro l
  induction l with
  | nil => intro i h; simp at h
  | cons a l ih =>
    intro i h j hj
    rw [List.flatMap_cons]
    have ha : (lst a).length = 2 := rfl
    cases i with
    | zero => rw [List.getElem?_append_left (by omega)]; simp
    | succ i =>
      rw [List.getElem?_append_right (by omega), show (i + 1) * 2 + j - (lst a).length = i * 2 + j by omega]
      exact ih i (by simpa using h) j hj
theorem SuAt.below {w w' : World} {v : Value} {l : List St} (h : SuAt w v l) (hb : Below w.heap.size w w') : SuAt w' v l := Sl.below h hb
theorem SuAt.item {w : World} {v : Value} {l : List St} (h : SuAt w v l) :
    ∃ ao c, v = .slice ao l.length c ∧ l.length ≤ maxLen ∧ ∀ k (hk : k < l.length), ∃ b off, ao = some ⟨b, off, none⟩ ∧ l.length ≤ c ∧ c ≤ maxLen ∧ b < w.heap.size ∧
      w.cell? ⟨b, off + k * 2, none⟩ = some (.string l[k].key) ∧ w.cell? ⟨b, off + k * 2 + 1, none⟩ = some (.int .i64 l[k].num) := by
  obtain ⟨ao, c, rfl, hm, hs⟩ := Sl.shp h
  refine ⟨ao, c, rfl, hm, fun k hk => ?_⟩
  obtain ⟨b, off, rfl, h1, h2, h3, h4⟩ := hs (by omega)
  have g := fun j (hj : j < 2) => h4 (k * 2 + j) ((lst l[k])[j]'hj) ((lsts_get l k hk j hj).trans (List.getElem?_eq_getElem (l := lst l[k]) hj))
  exact ⟨b, off, rfl, h1, h2, h3, g 0 (by omega), by rw [Nat.add_assoc]; exact g 1 (by omega)⟩
theorem atL_step {X Y : V} {l : List St} {j : Nat} (hj : j < l.length) (h : atL X l = atL Y (l.drop j)) : atL X l = atL (Y.inL l[j]) (l.drop (j + 1)) := by
  rw [h, List.drop_eq_getElem_cons hj]; rfl
end Mh
namespace Go.Proofs.YtihdfkcoajpmjaaGreatDoor
open Go.RowKit Mh
set_option linter.unusedVariables false
/-- What stands in at's loop. -/
structure AtIn (X : V) (l : List St) (W0 w wr : World) (j : Nat) (Y : V) (ya : Option Addr) (yc : Nat) (yk : Option Addr) (ykc : Nat) : Prop where
  le : j ≤ l.length
  same : atL X l = atL Y (l.drop j)
  fit : Y.fit
  at_ : VAt W0 Y (vcs Y ya yc yk ykc)
  bx : wr.heap[w.heap.size]? = some (box6 Y ya yc yk ykc)
  b0 : wr.heap[w.heap.size + 1]? = some box0
  below : Below w.heap.size w wr
  size : w.heap.size + 2 ≤ wr.heap.size
theorem AtIn.next {X : V} {l : List St} {W0 w wr U : World} {j : Nat} {Y Z : V} {ya : Option Addr} {yc : Nat} {yk : Option Addr} {ykc : Nat} {za : Option Addr} {zc : Nat} {zk : Option Addr} {zkc : Nat}
    (h : AtIn X l W0 w wr j Y ya yc yk ykc) (hj : j < l.length) (hb : Below wr.heap.size wr U) (hZ : Y.inL l[j] = Z) (hz : VAt W0 Z (vcs Z za zc zk zkc)) :
    AtIn X l W0 w (put6 U w.heap.size (.int .i64 Z.kd) (.bool Z.bo) (.int .i64 Z.nu) (.string Z.tx) (.slice za Z.its.length zc) (.slice zk Z.kys.length zkc)) (j + 1) Z za zc zk zkc := by
  have hs := h.size
  subst hZ
  refine ⟨by omega, atL_step hj h.same, inL_fit h.fit _, hz, put6_at rfl ((hb.block _ (by omega)).trans h.bx), ?_, put6_below (h.below.trans (hb.mono (by omega))) (Nat.le_refl _), ?_⟩
  · rw [put6_other (by omega)]; exact (hb.block _ (by omega)).trans h.b0
  · rw [put6_size]; have := hb.size; omega
theorem VAt.nilv (w : World) : VAt w V.nil (vcs V.nil none 0 none 0) := zv_at w
theorem AtIn.nextNil {X : V} {l : List St} {W0 w wr U : World} {j : Nat} {Y : V} {ya : Option Addr} {yc : Nat} {yk : Option Addr} {ykc : Nat}
    (h : AtIn X l W0 w wr j Y ya yc yk ykc) (hj : j < l.length) (hb : Below wr.heap.size wr U) (hZ : Y.inL l[j] = V.nil) :
    AtIn X l W0 w (put6 U w.heap.size (.int .i64 0) (.bool false) (.int .i64 0) (.string ⟨#[]⟩) (.slice none 0 0) (.slice none 0 0)) (j + 1) V.nil none 0 none 0 :=
  h.next (Z := V.nil) (za := none) (zc := 0) (zk := none) (zkc := 0) hj hb hZ (VAt.nilv W0)
theorem pick0_at (w : World) (Y : V) (key : ByteArray) : VAt w (pickL Y key 0) (vcs (pickL Y key 0) none 0 none 0) := VAt.nilv w
theorem pick0_box (Y : V) (key : ByteArray) : box6 (pickL Y key 0) none 0 none 0 = .cells #[.int .i64 0, .bool false, .int .i64 0, .string ⟨#[]⟩, .slice none 0 0, .slice none 0 0] 35 (0, 0) := rfl
set_option maxRecDepth 100000 in
set_option maxHeartbeats 16000000 in
theorem lat_any (X : V) (cs : List Value) (v : Value) (l : List St) (W0 w : World) (hb0 : Below W0.heap.size W0 w) (hX : X.fit) (h : VAt W0 X cs) (hl : SuAt w v l) :
    Calls Tryz.prog 40 #[.agg cs.toArray, v] w fun e w' => ∃ ds : List Value, e = .returned (.agg ds.toArray) ∧ VAt W0 (atL X l) ds ∧ Below w.heap.size w w' := by
  obtain ⟨ia, ic, ka, kc, rfl, _⟩ := h.opened
  obtain ⟨la, lc, rfl, hlm, hcell⟩ := hl.item
  have HC := Lib.hid hcell
  have HB0 := Lib.hid hb0
  have H0 : AtIn X l W0 w ((w.alloc (box6 X ia ic ka kc)).alloc box0) 0 X ia ic ka kc := by
    refine ⟨by omega, by simp, hX, h, ?_, ?_, ((Below.refl w.heap.size w).alloc (Nat.le_refl _) _).alloc (by simp) _, by simp⟩
    · rw [heap_alloc_old _ _ (by simp), heap_alloc_new]
    · exact heap_new_at (by simp)
  have HI := Lib.hid H0
  unfold box6 box0 at HI
  unfold maxLen at hlm
  rw [vcs_arr]
  clear hcell hl h H0 hb0
  go_enter Tryz.func40, Tryz.ntmps40
  go_wp2_with fail
  go_loopw [12] (fun i wr => ∃ (j : Nat) (Y : V) (ya : Option Addr) (yc : Nat) (yk : Option Addr) (ykc : Nat), i = .int .i64 j ∧ Hid (AtIn X l W0 w wr j Y ya yc yk ykc)) (fun i _ => l.length - (intOf i).toNat)
  case atStart => exact ⟨0, X, ia, ic, ka, kc, rfl, HI⟩
  case round =>
    clear HI
    obtain ⟨j, Y, ya, yc, yk, ykc, rfl, HI⟩ := hrel
    have hle := HI.out.le
    have hbx := HI.out.bx
    unfold box6 at hbx
    have hlt : w.heap.size < wr.heap.size := by have := HI.out.size; omega
    by_cases hj : j < l.length
    · obtain ⟨wo, rfl⟩ : ∃ wo : World, wo = wr := ⟨_, rfl⟩
      -- S1
      obtain ⟨b, off, rfl, h1, h2, h3, c0, c1⟩ := HC.out j hj
      have d0 := (HI.out.below.cell (p := ⟨b, off + j * 2, none⟩) h3).trans c0
      have d1 := (HI.out.below.cell (p := ⟨b, off + j * 2 + 1, none⟩) h3).trans c1
      have HAT := Lib.hid HI.out.at_
      obtain ⟨_, _, _, _, evc, hil, hkl, _, hss, rows, hS, hT⟩ := HAT.out.opened
      simp only [vcs, List.cons.injEq, Value.slice.injEq, and_true, true_and] at evc
      obtain ⟨⟨rfl, rfl⟩, rfl, rfl⟩ := evc
      obtain ⟨_, _, hsl, hitem⟩ := VsAt.item hS hT
      simp only [Value.slice.injEq, true_and] at hsl
      obtain ⟨rfl, rfl⟩ := hsl
      obtain ⟨_, _, hsl, hkey⟩ := Ss.key hss
      simp only [Value.slice.injEq, true_and] at hsl
      obtain ⟨rfl, rfl⟩ := hsl
      have HIT := Lib.hid hitem
      have HKY := Lib.hid hkey
      have hfit := ((fit_iff Y).1 HI.out.fit).1
      have HBn : Hid (Below wo.heap.size wo ((wo.alloc (.cells #[.string l[j].key, .int .i64 l[j].num] 73)).alloc (.cells #[.int .i64 0, .bool false, .int .i64 0, .string ⟨#[]⟩, .slice none 0 0, .slice none 0 0] 35))) := ((Below.refl _ wo).alloc (Nat.le_refl _) _).alloc (by simp) _
      obtain ⟨q0, q1, q2, q3, q4, q5⟩ := six_of_block ((HBn.out.block _ hlt).trans hbx)
      obtain ⟨f0, f1, f2, f3, f4, f5⟩ := six_open ((HBn.out.block _ hlt).trans hbx)
      have HBX := Lib.hid hbx
      have HNX : Hid (∀ (U : World) (Z : V) (za : Option Addr) (zc : Nat) (zk : Option Addr) (zkc : Nat), Below wo.heap.size wo U → Y.inL l[j] = Z → VAt W0 Z (vcs Z za zc zk zkc) →
        AtIn X l W0 w (put6 U w.heap.size (.int .i64 Z.kd) (.bool Z.bo) (.int .i64 Z.nu) (.string Z.tx) (.slice za Z.its.length zc) (.slice zk Z.kys.length zkc)) (j + 1) Z za zc zk zkc) := fun U Z za zc zk zkc hb hZ hz => HI.out.next hj hb hZ hz
      have HBW := Lib.hid (HB0.out.trans (HI.out.below.mono HB0.out.size))
      have HIN : Hid (Y.inL l[j] = if l[j].k0 = false ∧ Y.kd = 6 then pickL Y l[j].key Y.kys.length
        else if l[j].k0 = true ∧ Y.kd = 5 ∧ l[j].num < Y.its.length then Y.its.getD l[j].num V.nil else V.nil) := rfl
      have HNB : Hid (∀ U, Below wo.heap.size wo U → Y.inL l[j] = V.nil → AtIn X l W0 w (put6 U w.heap.size (.int .i64 0) (.bool false) (.int .i64 0) (.string ⟨#[]⟩) (.slice none 0 0) (.slice none 0 0)) (j + 1) V.nil none 0 none 0) := fun U hb hZ => HI.out.nextNil hj hb hZ
      clear c0 c1 h3 hS hT hss hitem hkey hbx HI
      generalize l[j] = s at *
      unfold maxLen at hil hkl
      cases hk0 : s.k0 with
      | false =>
        have qe : s.key.toList.isEmpty = false := by
          apply empty_not
          intro e
          unfold St.k0 at hk0
          rw [e] at hk0; cases hk0
        by_cases h6 : Y.kd = 6
        · -- a key of a table
          have hfl := hfit h6
          have HZ : Hid (Y.inL s = pickL Y s.key Y.kys.length) := HIN.out.trans (if_pos ⟨hk0, h6⟩)
          have qk : (Y.kd == 6) = true := by rw [beq_iff_eq]; exact h6
          have qk5 : (Y.kd == 5) = false := by rw [beq_eq_false_iff_ne]; omega
          have HFL := Lib.hid hfl
          clear HIN HNB hk0 hfit h6 hfl
          have HS0 : Hid (∃ (za : Option Addr) (zc : Nat) (zk : Option Addr) (zkc : Nat), VAt W0 (pickL Y s.key 0) (vcs (pickL Y s.key 0) za zc zk zkc) ∧ ((wo.alloc (.cells #[.string s.key, .int .i64 s.num] 73)).alloc (.cells #[.int .i64 0, .bool false, .int .i64 0, .string ⟨#[]⟩, .slice none 0 0, .slice none 0 0] 35)).heap[wo.heap.size + 1]? = some (box6 (pickL Y s.key 0) za zc zk zkc)) := ⟨none, 0, none, 0, pick0_at W0 Y s.key, by rw [pick0_box]; exact heap_new_at (by simp)⟩
          have HS1 : Hid (((wo.alloc (.cells #[.string s.key, .int .i64 s.num] 73)).alloc (.cells #[.int .i64 0, .bool false, .int .i64 0, .string ⟨#[]⟩, .slice none 0 0, .slice none 0 0] 35)).heap[wo.heap.size]? = some (.cells #[.string s.key, .int .i64 s.num] 73 (0, 0))) := by show _ = _; rw [heap_alloc_old _ _ (by simp), heap_alloc_new]
          have HX0 : Hid (wo.heap.size + 2 ≤ ((wo.alloc (.cells #[.string s.key, .int .i64 s.num] 73)).alloc (.cells #[.int .i64 0, .bool false, .int .i64 0, .string ⟨#[]⟩, .slice none 0 0, .slice none 0 0] 35)).heap.size) := by show _ ≤ _; simp
          go_wp2_with fail
          go_loopw [29] (fun y wr => ∃ (i : Nat), y = .int .i64 i ∧ i ≤ Y.kys.length ∧ Hid (∃ (za : Option Addr) (zc : Nat) (zk : Option Addr) (zkc : Nat), VAt W0 (pickL Y s.key i) (vcs (pickL Y s.key i) za zc zk zkc) ∧ wr.heap[wo.heap.size + 1]? = some (box6 (pickL Y s.key i) za zc zk zkc)) ∧ Hid (wr.heap[wo.heap.size]? = some (.cells #[.string s.key, .int .i64 s.num] 73 (0, 0))) ∧ Hid (Below wo.heap.size wo wr) ∧ Hid (wo.heap.size + 2 ≤ wr.heap.size)) (fun y _ => Y.kys.length - (intOf y).toNat)
          case atStart => exact ⟨0, rfl, Nat.zero_le _, HS0, HS1, HBn, HX0⟩
          case round =>
            clear HS0 HS1 HBn HX0 q0 q1 q2 q3 q4 q5 f0 f1 f2 f3 f4 f5 d0 d1
            obtain ⟨i, rfl, hi, HP, HS, HB, HX⟩ := hrel
            obtain ⟨q0, q1, q2, q3, q4, q5⟩ := six_of_block ((HB.out.block _ hlt).trans HBX.out)
            have e0 : wr.cell? ⟨wo.heap.size, 0, none⟩ = some (.string s.key) := cellT HS.out rfl
            obtain ⟨za, zc, zk, zkc, hz, hzb⟩ := HP.out
            have HZB := Lib.hid hzb
            have HZ0 := Lib.hid hz
            unfold box6 at hzb
            obtain ⟨p0, p1, p2, p3, p4, p5⟩ := six_of_block hzb
            obtain ⟨g0, g1, g2, g3, g4, g5⟩ := six_open hzb
            by_cases hik : i < Y.kys.length
            · -- S2
              obtain ⟨kb, ko, rfl, hkb, hkc, hks⟩ := HKY.out i hik
              have y1 := ((HBW.out.trans (HB.out.mono HBW.out.size)).cell (p := ⟨kb, ko + i, none⟩) hkb).trans hkc
              have hii : i < Y.its.length := by have := HFL.out; omega
              obtain ⟨ib, io, ja, jc, na, nc, rfl, hib, hia, hic⟩ := HIT.out i hii
              obtain ⟨i0, i1, i2, i3, i4, i5⟩ := six_later (HBW.out.trans (HB.out.mono HBW.out.size)) hib hic
              have HIA := Lib.hid hia
              have HPS : Hid (pickL Y s.key (i + 1) = if Y.kys[i]? = some s.key then Y.its.getD i V.nil else pickL Y s.key i) := rfl
              have hki : Y.kys[i]? = some Y.kys[i] := List.getElem?_eq_getElem hik
              have hgi : Y.its.getD i V.nil = Y.its[i] := by rw [List.getD_eq_getElem?_getD, List.getElem?_eq_getElem hii]; rfl
              rw [hki, hgi] at HPS
              clear hkc hic hia hki hgi hz hzb HP
              by_cases he : Y.kys[i] = s.key
              · have HP2 : Hid (pickL Y s.key (i + 1) = Y.its[i]) := by have := HPS.out; rw [if_pos (by rw [he])] at this; exact this
                have qs : (Y.kys[i].toList == s.key.toList) = true := by rw [he]; simp
                clear HPS he HZ0
                generalize Y.its[i] = Z at *
                have HN1 : Hid (∃ (za : Option Addr) (zc : Nat) (zk : Option Addr) (zkc : Nat), VAt W0 (pickL Y s.key (i + 1)) (vcs (pickL Y s.key (i + 1)) za zc zk zkc) ∧ (put6 wr (wo.heap.size + 1) (.int .i64 Z.kd) (.bool Z.bo) (.int .i64 Z.nu) (.string Z.tx) (.slice ja Z.its.length jc) (.slice na Z.kys.length nc)).heap[wo.heap.size + 1]? = some (box6 (pickL Y s.key (i + 1)) za zc zk zkc)) := ⟨ja, jc, na, nc, by rw [HP2.out]; exact HIA.out, by rw [HP2.out]; exact put6_at rfl HZB.out⟩
                have HN2 : Hid ((put6 wr (wo.heap.size + 1) (.int .i64 Z.kd) (.bool Z.bo) (.int .i64 Z.nu) (.string Z.tx) (.slice ja Z.its.length jc) (.slice na Z.kys.length nc)).heap[wo.heap.size]? = some (.cells #[.string s.key, .int .i64 s.num] 73 (0, 0))) := (put6_other (by omega)).trans HS.out
                have HN3 := Lib.hid (put6_below (a := .int .i64 Z.kd) (b := .bool Z.bo) (c := .int .i64 Z.nu) (d := .string Z.tx) (e := .slice ja Z.its.length jc) (f := .slice na Z.kys.length nc) HB.out (Nat.le_succ wo.heap.size))
                have HN4 : Hid (wo.heap.size + 2 ≤ (put6 wr (wo.heap.size + 1) (.int .i64 Z.kd) (.bool Z.bo) (.int .i64 Z.nu) (.string Z.tx) (.slice ja Z.its.length jc) (.slice na Z.kys.length nc)).heap.size) := by show _ ≤ _; rw [put6_size]; exact HX.out
                clear HP2 HZB
                go_wp2_with fail
                go_roundw
                case rel => exact ⟨i + 1, by go_num, by omega, HN1, HN2, HN3, HN4⟩
                case measure => simp [intOf]; omega
              · have HP2 : Hid (pickL Y s.key (i + 1) = pickL Y s.key i) := by have := HPS.out; rw [if_neg (fun h => he (Option.some.inj h))] at this; exact this
                have qs : (Y.kys[i].toList == s.key.toList) = false := by
                  rw [beq_eq_false_iff_ne, ByteArray.toList_eq, ByteArray.toList_eq]
                  exact fun h => he (by cases hx : Y.kys[i]; cases hy : s.key; rw [hx, hy] at h; simpa [Array.toList_inj] using h)
                clear HPS he
                go_wp2_with fail
                go_roundw
                case rel => exact ⟨i + 1, by go_num, by omega, ⟨za, zc, zk, zkc, by rw [HP2.out]; exact HZ0.out, by rw [HP2.out]; exact HZB.out⟩, HS, HB, HX⟩
                case measure => simp [intOf]; omega
              -- E2
            · -- S3
              have hie : i = Y.kys.length := by omega
              subst hie
              have HN := Lib.hid (HNX.out wr _ za zc zk zkc HB.out HZ.out hz)
              obtain ⟨f0, f1, f2, f3, f4, f5⟩ := six_open ((HB.out.block _ hlt).trans HBX.out)
              generalize pickL Y s.key Y.kys.length = Z at *
              clear HP hz hzb HZ HZ0 HZB HNX HIT HKY HFL
              go_wp2_with fail
              go_roundw
              case rel => exact ⟨j + 1, Z, za, zc, zk, zkc, by go_num, HN⟩
              case measure => simp [intOf]; omega
              -- E3
        · -- S4
          have qk : (Y.kd == 6) = false := by rw [beq_eq_false_iff_ne]; exact h6
          have HN := Lib.hid (HNB.out _ HBn.out (HIN.out.trans (by rw [if_neg (fun h => h6 h.2), if_neg (fun h => by rw [hk0] at h; cases h.1)])))
          clear HIN HNB HNX hfit h6 hk0 HIT HKY
          obtain ⟨p0, p1, p2, p3, p4, p5⟩ := six_of_block (heap_new_at (w := wo.alloc (.cells #[.string s.key, .int .i64 s.num] 73)) (o := .cells #[.int .i64 0, .bool false, .int .i64 0, .string ⟨#[]⟩, .slice none 0 0, .slice none 0 0] 35) (k := wo.heap.size + 1) (by simp))
          go_upto_region 14 with fail
          generalize World.alloc (World.alloc wo _) _ = U at HN q0 q1 q2 q3 q4 q5 f0 f1 f2 f3 f4 f5 p0 p1 p2 p3 p4 p5 ⊢
          go_wp2_with fail
          go_roundw
          case rel => exact ⟨j + 1, V.nil, none, 0, none, 0, by go_num, HN⟩
          case measure => simp [intOf]; omega
          -- E4
      | true =>
        -- S5
        have qe : s.key.toList.isEmpty = true := by
          apply empty_of
          unfold St.k0 at hk0
          simpa using hk0
        by_cases h5 : Y.kd = 5
        · have qk : (Y.kd == 5) = true := by rw [beq_iff_eq]; exact h5
          by_cases hnl : s.num < Y.its.length
          · obtain ⟨ib, io, ja, jc, na, nc, rfl, hib, hia, hic⟩ := HIT.out s.num hnl
            obtain ⟨i0, i1, i2, i3, i4, i5⟩ := six_later (HBW.out.trans (HBn.out.mono HBW.out.size)) hib hic
            have HZ : Hid (Y.inL s = Y.its[s.num]) := HIN.out.trans (by rw [if_neg (fun h => by rw [hk0] at h; cases h.1), if_pos ⟨hk0, h5, hnl⟩, List.getD_eq_getElem?_getD, List.getElem?_eq_getElem hnl]; rfl)
            have qn : decide ((s.num : Int) < (Y.its.length : Int)) = true := decide_eq_true (by omega)
            have qn' : decide (s.num < Y.its.length) = true := decide_eq_true hnl
            have HIA := Lib.hid hia
            clear HIN HNB hfit h5 hk0 HKY hic hia
            have HN := Lib.hid (HNX.out ((wo.alloc (.cells #[.string s.key, .int .i64 s.num] 73)).alloc (.cells #[.int .i64 Y.its[s.num].kd, .bool Y.its[s.num].bo, .int .i64 Y.its[s.num].nu, .string Y.its[s.num].tx, .slice ja Y.its[s.num].its.length jc, .slice na Y.its[s.num].kys.length nc] 35)) _ ja jc na nc (((Below.refl _ wo).alloc (Nat.le_refl _) _).alloc (by simp) _) HZ.out HIA.out)
            clear HNX HZ HIA HIT
            go_upto_region 14 with fail
            have hbU : Below wo.heap.size wo ((wo.alloc (.cells #[.string s.key, .int .i64 s.num] 73)).alloc (.cells #[.int .i64 Y.its[s.num].kd, .bool Y.its[s.num].bo, .int .i64 Y.its[s.num].nu, .string Y.its[s.num].tx, .slice ja Y.its[s.num].its.length jc, .slice na Y.its[s.num].kys.length nc] 35)) := ((Below.refl _ wo).alloc (Nat.le_refl _) _).alloc (by simp) _
            obtain ⟨m0, m1, m2, m3, m4, m5⟩ := six_of_block ((hbU.block _ hlt).trans HBX.out)
            obtain ⟨n0, n1, n2, n3, n4, n5⟩ := six_open ((hbU.block _ hlt).trans HBX.out)
            obtain ⟨p0, p1, p2, p3, p4, p5⟩ := six_of_block (heap_new_at (w := wo.alloc (.cells #[.string s.key, .int .i64 s.num] 73)) (o := .cells #[.int .i64 Y.its[s.num].kd, .bool Y.its[s.num].bo, .int .i64 Y.its[s.num].nu, .string Y.its[s.num].tx, .slice ja Y.its[s.num].its.length jc, .slice na Y.its[s.num].kys.length nc] 35) (k := wo.heap.size + 1) (by simp))
            clear q0 q1 q2 q3 q4 q5 f0 f1 f2 f3 f4 f5 hbU HBn i0 i1 i2 i3 i4 i5
            generalize World.alloc (World.alloc wo _) _ = U at HN m0 m1 m2 m3 m4 m5 n0 n1 n2 n3 n4 n5 p0 p1 p2 p3 p4 p5 ⊢
            generalize Y.its[s.num] = Z at *
            go_wp2_with fail
            go_roundw
            case rel => exact ⟨j + 1, _, ja, jc, na, nc, by go_num, HN⟩
            case measure => simp [intOf]; omega
          · have qn : decide ((s.num : Int) < (Y.its.length : Int)) = false := decide_eq_false (by omega)
            have qn' : decide (s.num < Y.its.length) = false := decide_eq_false hnl
            have HN := Lib.hid (HNB.out _ HBn.out (HIN.out.trans (by rw [if_neg (fun h => by rw [hk0] at h; cases h.1), if_neg (fun h => hnl h.2.2)])))
            clear HIN HNB HNX hfit h5 hk0 HIT HKY hnl
            obtain ⟨p0, p1, p2, p3, p4, p5⟩ := six_of_block (heap_new_at (w := wo.alloc (.cells #[.string s.key, .int .i64 s.num] 73)) (o := .cells #[.int .i64 0, .bool false, .int .i64 0, .string ⟨#[]⟩, .slice none 0 0, .slice none 0 0] 35) (k := wo.heap.size + 1) (by simp))
            go_upto_region 14 with fail
            generalize World.alloc (World.alloc wo _) _ = U at HN q0 q1 q2 q3 q4 q5 f0 f1 f2 f3 f4 f5 p0 p1 p2 p3 p4 p5 ⊢
            go_wp2_with fail
            go_roundw
            case rel => exact ⟨j + 1, V.nil, none, 0, none, 0, by go_num, HN⟩
            case measure => simp [intOf]; omega
        · have qk : (Y.kd == 5) = false := by rw [beq_eq_false_iff_ne]; exact h5
          have HN := Lib.hid (HNB.out _ HBn.out (HIN.out.trans (by rw [if_neg (fun h => by rw [hk0] at h; cases h.1), if_neg (fun h => h5 h.2.1)])))
          clear HIN HNB HNX hfit h5 hk0 HIT HKY
          obtain ⟨p0, p1, p2, p3, p4, p5⟩ := six_of_block (heap_new_at (w := wo.alloc (.cells #[.string s.key, .int .i64 s.num] 73)) (o := .cells #[.int .i64 0, .bool false, .int .i64 0, .string ⟨#[]⟩, .slice none 0 0, .slice none 0 0] 35) (k := wo.heap.size + 1) (by simp))
          go_upto_region 14 with fail
          generalize World.alloc (World.alloc wo _) _ = U at HN q0 q1 q2 q3 q4 q5 f0 f1 f2 f3 f4 f5 p0 p1 p2 p3 p4 p5 ⊢
          go_wp2_with fail
          go_roundw
          case rel => exact ⟨j + 1, V.nil, none, 0, none, 0, by go_num, HN⟩
          case measure => simp [intOf]; omega
        -- E5
      -- E1
    · have HG : Hid (atL X l = Y) := by
        show _ = _
        rw [HI.out.same, List.drop_eq_nil_of_le (by omega)]; rfl
      obtain ⟨r0, r1, r2, r3, r4, r5⟩ := six_of_block hbx
      have HZ := Lib.hid HI.out.b0
      unfold box0 at HZ
      obtain ⟨f0, f1, f2, f3, f4, f5⟩ := six_open HZ.out
      obtain ⟨s0, s1, s2, s3, s4, s5⟩ := six_of_block HZ.out
      have HAT := Lib.hid HI.out.at_
      go_wp2_with fail
      have hput := put6_at (a := .int .i64 Y.kd) (b := .bool Y.bo) (c := .int .i64 Y.nu) (d := .string Y.tx) (e := .slice ya Y.its.length yc) (f := .slice yk Y.kys.length ykc) rfl HZ.out
      have hbel := put6_below (a := .int .i64 Y.kd) (b := .bool Y.bo) (c := .int .i64 Y.nu) (d := .string Y.tx) (e := .slice ya Y.its.length yc) (f := .slice yk Y.kys.length ykc) HI.out.below (Nat.le_succ w.heap.size)
      unfold put6 at hput hbel
      generalize hwf : World.setCell _ _ _ = wf at hput hbel ⊢
      clear hwf f0 f1 f2 f3 f4 f5 s0 s1 s2 s3 s4 s5 r0 r1 r2 r3 r4 r5
      obtain ⟨s0, s1, s2, s3, s4, s5⟩ := six_of_block hput
      refine bodyPost_ret (v := .agg (vcs Y ya yc yk ykc).toArray) (by simp [results, Tryz.results40, go_sem, vcs, s0, s1, s2, s3, s4, s5] <;> rfl) rfl ⟨_, rfl, by rw [HG.out]; exact HAT.out, hbel⟩
end Go.Proofs.YtihdfkcoajpmjaaGreatDoor
