/- conf.put: an item of a key put into a table. Conditions: the table is right and of at most 1000 values. -/
import Derived.Test.YtejnoedlfbglcaaGreatDoorKeW
import Derived.Deep.RegionLaw
import Derived.Deep.CutRange
import Derived.Deep.RegionHeld3
namespace Go.Proofs.YtejnoedlfbglcaaGreatDoor
open Go.RowKit Mh
set_option linter.unusedVariables false

theorem Sl.cap {k n c : Nat} {w : World} {a : Option Addr} {xs : List Value} (h : Sl k w (.slice a n c) n xs) : n ≤ c := by
  rcases h.2 with ⟨rfl, _⟩ | ⟨b, off, c', he, h1, h2, h3, h4, h5⟩
  · omega
  · simp only [Value.slice.injEq, true_and] at he
    omega
theorem Sl.head' {k n c : Nat} {w : World} {a : Option Addr} {xs : List Value} (h : Sl k w (.slice a n c) n xs) (m : Nat) (hm : m ≤ n) : Sl k w (.slice a m c) m (xs.take (m * k)) := by
  have h1 := h.head m hm
  by_cases h0 : m = 0
  · subst h0
    exact ⟨h1.1, .inl ⟨rfl, _, _, rfl⟩⟩
  · have hc := Sl.cap h
    rcases h.2 with ⟨rfl, _⟩ | ⟨b, off, c', he, _⟩
    · omega
    · simp only [Value.slice.injEq, true_and] at he
      obtain ⟨rfl, rfl⟩ := he
      unfold sliced at h1
      rw [if_neg (by omega), Option.map_some, Addr.add_lit, Nat.zero_mul, Nat.add_zero] at h1
      exact h1
theorem _root_.Mh.Sl.at_block {w : World} {g e k : Nat} {cs : List Value} (h : w.heap[g]? = some (.cells cs.toArray e (0, 0))) (hk : cs.length = k) : Sl k w (.slice (some ⟨g, 0, none⟩) 1 1) 1 cs := by
  refine ⟨by omega, .inr ⟨g, 0, 1, rfl, by omega, by omega, by unfold maxLen; omega, (Array.getElem?_eq_some_iff.1 h).1, fun i u hu => ?_⟩⟩
  rw [Nat.zero_add, cell_of_row _ _ _ _ _ _ h]
  simpa using hu
theorem rows_one : ∀ {w : World} {is : List V} {r : List Value}, VsAt w is r → ∀ u ∈ r, u.oneCell' = true := by
  intro w is
  induction is with
  | nil => intro r h; unfold VsAt at h; subst h; simp
  | cons x xs ih =>
    intro r h u hu
    unfold VsAt at h
    obtain ⟨c, r', rfl, hc, hx, hr⟩ := h
    rcases List.mem_append.1 hu with hu | hu
    · obtain ⟨_, _, _, _, rfl, _⟩ := hx.opened
      exact six_ones _ _ _ _ _ u hu
    · exact ih hr u hu
theorem rows_ones {w : World} {is : List V} {r : List Value} (h : VsAt w is r) (k : Nat) : ∀ u ∈ r.take k, u.oneCell' = true := fun u hu => rows_one h u (List.mem_of_mem_take hu)
theorem at_world {P : Program} {o : Oper} {a : Act} {K : Act → World → Prop} {Q : Exit → Act → World → Prop} {E c : Prop} [Decidable c] (W : World) (h : if c then Oper.wp P o a W K Q else E) : if c then Oper.wp P o a W K Q else E := h
theorem rows_onesD {w : World} {is : List V} {r : List Value} (h : VsAt w is r) (k : Nat) : ∀ u ∈ r.drop k, u.oneCell' = true := fun u hu => rows_one h u (List.mem_of_mem_drop hu)
theorem Sl.drew {k n : Nat} {w : World} {v : Value} {xs : List Value} (h : Sl k w v n xs) : Sl k w.drew v n xs := h.keeps (Keeps.below (Below.refl _ _).drew)
theorem putAt_le (k : ByteArray) (ks : List ByteArray) : putAt k ks ≤ ks.length := by
  unfold putAt
  cases hh : hit k ks with
  | false => simpa using low_le k ks
  | true =>
    have h1 : ks[low k ks]? = some k := of_decide_eq_true hh
    have := (List.getElem?_eq_some_iff.1 h1).1
    simp only [if_true]
    omega
theorem put_eq (T : V) (key : ByteArray) (X : V) : putV T key X = .mk 6 false 0 ⟨#[]⟩ (T.its.take (low key T.kys) ++ X :: T.its.drop (putAt key T.kys)) (T.kys.take (low key T.kys) ++ key :: T.kys.drop (putAt key T.kys)) := rfl
set_option maxRecDepth 100000 in
set_option maxHeartbeats 8000000 in
theorem put_top (S : Nat → Bool) (T X : V) (key : ByteArray) (tcs xcs : List Value) (w : World) (hS : ∀ k, w.heap.size ≤ k → S k = false) (hT : VAt (veil S w) T tcs) (hX : VAt (veil S w) X xcs) (hmid : T.top) (h6 : T.kd = 6) (hkey : key.size ≤ maxLen) :
    Calls Tryz.prog 17 #[.agg tcs.toArray, .string key, .agg xcs.toArray] w fun e w' => ∃ ds : List Value, e = .returned (.agg ds.toArray) ∧ VAt (veil S w') (putV T key X) ds ∧ Below w.heap.size w w' := by
  have CF := Lib.hid (fun w' (hb : Below w.heap.size w w') => find_any T tcs key w' ((hT.keeps (Keeps.bare S w)).keep hb) hmid.1 (by have := hmid.2.2.1; omega))
  obtain ⟨hil, hkl⟩ := hmid.2.2.1
  have HL := Lib.hid (hmid.2.1 h6)
  have hlow := low_le key T.kys
  obtain ⟨xa, xc, xk, xkc, rfl, _⟩ := hX.opened
  obtain ⟨ia, ic, ka, kc, rfl, _, _, _, hss, rows, hs6, hvs⟩ := hT.opened
  have H0 : ∀ w1, Below (w.heap.size + 3) (((w.alloc (box6 T ia ic ka kc)).alloc (box6 X xa xc xk xkc)).alloc box0) w1 → PutG S T X ia ic ka kc xa xc xk xkc rows w w1.heap.size (w1.alloc (.cells #[.int .i64 6, .bool false, .int .i64 0, .string ⟨#[]⟩, .slice none 0 0, .slice none 0 0] 29)) (.slice none 0 0) (.slice none 0 0) (.slice none 0 0) (.slice none 0 0) [] [] [] := by
    intro w1 hb1
    have hz := hb1.size
    simp at hz
    have hbb : Below w.heap.size w w1 := ((((Below.refl w.heap.size w).alloc (Nat.le_refl _) _).alloc (by simp) _).alloc (by simp <;> omega) _).trans (hb1.mono (by omega))
    have hK : Keeps (veil S w) (veil (putS S w w1.heap.size (.slice none 0 0) (.slice none 0 0)) (w1.alloc (.cells #[.int .i64 6, .bool false, .int .i64 0, .string ⟨#[]⟩, .slice none 0 0, .slice none 0 0] 29))) := by
      refine Keeps.veils (by simp; omega) fun k hk hs => ⟨?_, (heap_alloc_old _ _ (by omega)).trans (hbb.block k hk)⟩
      rw [putS_false]
      exact ⟨hs, by omega, by omega, by omega, by omega, by simp [Value.ownBlock], by simp [Value.ownBlock]⟩
    refine ⟨World.ownsRow_nil _ _ _ _, World.ownsRow_nil _ _ _ _, by simp [Value.ownBlock], by simp [Value.ownBlock], by simp [VsAt], heap_alloc_new _ _, ?_, ?_, ?_, hss.keeps hK, hs6.keeps hK, hvs.keeps hK, hX.keeps hK, hbb.alloc (by omega) _, by omega, by simp⟩
    · rw [heap_alloc_old _ _ (by omega), hb1.block _ (by omega), heap_alloc_old _ _ (by simp <;> omega), heap_alloc_old _ _ (by simp), heap_alloc_new]
    · rw [heap_alloc_old _ _ (by omega), hb1.block _ (by omega), heap_alloc_old _ _ (by simp), heap_new_at (by simp)]
    · rw [heap_alloc_old _ _ (by omega), hb1.block _ (by omega), heap_new_at (by simp)]
  have H0 := Lib.hid H0
  have HB0 : Hid (Below w.heap.size w (((w.alloc (box6 T ia ic ka kc)).alloc (box6 X xa xc xk xkc)).alloc box0)) := ((((Below.refl w.heap.size w).alloc (Nat.le_refl _) _).alloc (by simp) _).alloc (by simp <;> omega) _)
  rw [vcs_arr] at CF ⊢
  rw [vcs_arr]
  obtain ⟨vi, hvi, hv0, hv1, hv2⟩ := info_parts infoValue
  obtain ⟨si, hsi, hs0, hs1, hs2⟩ := info_parts infoStr
  have HS := Lib.hid hS
  have HM := Lib.hid hmid
  clear hss hs6 hvs hT hX hS h6 hmid
  go_enter Tryz.func17, Tryz.ntmps17
  go_wp2_with fail
  refine (CF.out _ HB0.out).mono ?_
  rintro e w1 ⟨rfl, hb1⟩
  have HG1 := Lib.hid (H0.out w1 (hb1.mono (by simp <;> omega)))
  have HPT := Lib.hid (put_eq T key X)
  have HKS : Hid (∀ {i j : Nat}, ∀ s ∈ T.kys.take i ++ [key] ++ T.kys.drop j, s.size ≤ maxLen) := by
    intro i j s hs
    rcases List.mem_append.1 hs with hs | hs
    · rcases List.mem_append.1 hs with hs | hs
      · have := HM.out.2.2.2 s (List.mem_of_mem_take hs); unfold maxLen; omega
      · simp only [List.mem_cons, List.not_mem_nil, or_false] at hs; rw [hs]; exact hkey
    · have := HM.out.2.2.2 s (List.mem_of_mem_drop hs); unfold maxLen; omega
  have HMP : Hid (∀ M, M = putAt key T.kys → M ≤ T.kys.length) := fun M h => by rw [h]; exact putAt_le key T.kys
  have HMF : Hid (hit key T.kys = false → ∀ M, M = putAt key T.kys → M = low key T.kys) := fun hB M h => by rw [h]; unfold putAt; rw [hB]; rfl
  have HMT : Hid (hit key T.kys = true → ∀ M, M = putAt key T.kys → M = low key T.kys + 1) := fun hB M h => by rw [h]; unfold putAt; rw [hB]; rfl
  generalize low key T.kys = L at *
  generalize hit key T.kys = B at *
  clear hb1 H0 CF
  go_wp2_with fail
  obtain ⟨O, hO⟩ : ∃ O, O = w1.heap.size := ⟨_, rfl⟩
  rw [← hO] at HG1 ⊢
  obtain ⟨W, hW⟩ : ∃ W, W = w1.alloc (.cells #[.int .i64 6, .bool false, .int .i64 0, .string ⟨#[]⟩, .slice none 0 0, .slice none 0 0] 29) := ⟨_, rfl⟩
  rw [← hW] at HG1 ⊢
  clear hW hO w1
  -- the keys before
  have HSL : Hid (Sl 1 W.drew (.slice ka L kc) L ((T.kys.take L).map Value.string)) := by
    have := Sl.drew ((Sl.head' HG1.out.tk.1 L hlow).keeps (Keeps.bare _ _))
    rw [Nat.mul_one] at this
    show Sl _ _ _ _ _
    rw [List.map_take]; exact this
  have hkc := Sl.cap HG1.out.tk.1
  have hic := Sl.cap HG1.out.ti
  have hLk : L ≤ kc := by omega
  have HGD := Lib.hid (HG1.out.on (Below.refl _ _).drew)
  have hbx := HG1.out.bx
  have hbt := HG1.out.bt
  unfold box6 at hbt
  have x5 : W.cell? ⟨O, 5, none⟩ = some (.slice none 0 0) := cellT hbx rfl
  have y5 : W.cell? ⟨w.heap.size, 5, none⟩ = some (.slice ka T.kys.length kc) := cellT hbt rfl
  clear hbx hbt HG1
  go_cut [] from 17 to 24 (fun wx => ∃ (a3 : Option Addr) (c3 : Nat), Hid (PutG S T X ia ic ka kc xa xc xk xkc rows w O wx (.slice a3 L c3) (.slice none 0 0) (.slice a3 L c3) (.slice none 0 0) (T.kys.take L) [] []))
  case first =>
    go_region_law (refine step_append_sl _ rfl _ _ 27 rfl (w.heap.size + 3) 9 si (.string ⟨#[]⟩) 1 16 Tryz.underlying27 hsi hs0 hs1 hs2 rfl (by decide) (.slice none 0 0) 0 [] rfl HGD.out.keys (.slice ka L kc) L _ rfl HSL.out (str_ones _) (by unfold maxLen; omega) (by omega) (Nat.le_trans HGD.out.lo (Nat.le_of_lt HGD.out.hi)) ?_; intro v3 w3 hown3 hgr3 hat3; obtain ⟨a3, c3, rfl⟩ := ownsRow_form hown3; have HG3 := Lib.hid (HGD.out.keysUp (kl' := T.kys.take L) hgr3 hat3 (by rw [List.length_take, Nat.min_eq_left hlow]; simpa using hown3)); have x5 : w3.cell? ⟨O, 5, none⟩ = some (.slice none 0 0) := cellT HG3.out.bx rfl; have f5 : w3.frozen? ⟨O, 5, none⟩ = false := frozenT HG3.out.bx)
    all_goals
      simp only [Nat.zero_add] at HG3
      have HG4 := Lib.hid (HG3.out.storeK (.slice a3 L c3))
      clear HG3 x5 f5 hown3 hgr3 hat3 HGD HSL y5
      go_wp2_with fail
      go_meet
      exact ⟨a3, c3, HG4⟩
  case rest =>
  clear x5 y5 HGD HSL
  obtain ⟨a3, c3, HG4⟩ := hcut
  go_wp2_with fail
  -- the items before
  have HIL : Hid (Sl 6 wc.drew (.slice ia L ic) L (rows.take (L * 6))) := Sl.drew ((Sl.head' HG4.out.ti L (by rw [← HL.out]; exact hlow)).keeps (Keeps.bare _ _))
  have HGD := Lib.hid (HG4.out.on (Below.refl _ _).drew)
  have hbx := HG4.out.bx
  have hbt := HG4.out.bt
  unfold box6 at hbt
  have x4 : wc.cell? ⟨O, 4, none⟩ = some (.slice none 0 0) := cellT hbx rfl
  have y4 : wc.cell? ⟨w.heap.size, 4, none⟩ = some (.slice ia T.its.length ic) := cellT hbt rfl
  have hLi : L ≤ ic := by have := HL.out; omega
  have hLn : L ≤ 3999 := by omega
  clear hbx hbt HG4
  go_cut [] from 25 to 32 (fun wx => ∃ (a5 : Option Addr) (c5 : Nat), Hid (PutG S T X ia ic ka kc xa xc xk xkc rows w O wx (.slice a3 L c3) (.slice a5 L c5) (.slice a3 L c3) (.slice a5 L c5) (T.kys.take L) (T.its.take L) (rows.take (L * 6))))
  case first =>
    go_region_law (refine step_append_sl _ rfl _ _ 26 rfl (w.heap.size + 3) 29 vi (.agg #[.int .i64 0, .bool false, .int .i64 0, .string ⟨#[]⟩, .slice none 0 0, .slice none 0 0]) 6 88 Tryz.underlying26 hvi hv0 hv1 hv2 rfl (by decide) (.slice none 0 0) 0 [] rfl HGD.out.items (.slice ia L ic) L _ rfl HIL.out (rows_ones HGD.out.tv _) (by unfold maxLen; omega) (by omega) (Nat.le_trans HGD.out.lo (Nat.le_of_lt HGD.out.hi)) ?_; intro v5 w5 hown5 hgr5 hat5; obtain ⟨a5, c5, rfl⟩ := ownsRow_form hown5; have HG5 := Lib.hid (HGD.out.itemsUp (il' := T.its.take L) (rows' := rows.take (L * 6)) hgr5 hat5 (by rw [List.length_take, Nat.min_eq_left (by rw [← HL.out]; exact hlow)]; simpa using hown5) (HGD.out.tv.take L)); have x4 : w5.cell? ⟨O, 4, none⟩ = some (.slice none 0 0) := cellT HG5.out.bx rfl; have f4 : w5.frozen? ⟨O, 4, none⟩ = false := frozenT HG5.out.bx)
    all_goals
      simp only [Nat.zero_add] at HG5
      have HG6 := Lib.hid (HG5.out.storeI (.slice a5 L c5))
      clear HG5 x4 f4 hown5 hgr5 hat5 HGD HIL y4
      go_wp2_with fail
      go_meet
      exact ⟨a5, c5, HG6⟩
  case rest =>
  clear x4 y4 HGD HIL hLi hLk
  obtain ⟨a5, c5, HG6⟩ := hcut
  go_wp2_with fail
  -- the key and the item
  have hkl2 : (T.kys.take L).length = L := by rw [List.length_take, Nat.min_eq_left hlow]
  have hil2 : (T.its.take L).length = L := by rw [List.length_take, Nat.min_eq_left (by rw [← HL.out]; exact hlow)]
  obtain ⟨WS, hWS⟩ : ∃ n, n = wc.heap.size := ⟨_, rfl⟩
  have HA1 := Lib.hid (HG6.out.on ((Below.refl _ wc).alloc (Nat.le_refl _) (.cells #[.string key] 9)).drew)
  have HA2 := Lib.hid (HG6.out.on (((Below.refl _ wc).alloc (Nat.le_refl _) (.cells #[.string key] 9)).alloc (by simp) (box6 X xa xc xk xkc)).drew)
  have HA3 := Lib.hid (HG6.out.on (((Below.refl _ wc).alloc (Nat.le_refl _) (box6 X xa xc xk xkc)).alloc (by simp) (.cells #[.string key] 9)).drew)
  have SK1 := Lib.hid (Sl.drew (Sl.lit wc [.string key] 9 1 rfl))
  have SK2 : Hid (Sl 1 ((wc.alloc (.cells #[.string key] 9)).alloc (box6 X xa xc xk xkc)).drew (.slice (some ⟨wc.heap.size, 0, none⟩) 1 1) 1 [.string key]) := Sl.drew (Sl.at_block ((heap_alloc_old _ _ (by simp)).trans (heap_new_at rfl)) rfl)
  have SK3 : Hid (Sl 1 ((wc.alloc (box6 X xa xc xk xkc)).alloc (.cells #[.string key] 9)).drew (.slice (some ⟨wc.heap.size + 1, 0, none⟩) 1 1) 1 [.string key]) := Sl.drew (Sl.at_block (heap_new_at (by simp)) rfl)
  have XB2 : Hid (((wc.alloc (.cells #[.string key] 9)).alloc (box6 X xa xc xk xkc)).drew.heap[wc.heap.size + 1]? = some (box6 X xa xc xk xkc)) := heap_new_at (w := wc.alloc (.cells #[.string key] 9)) (by simp)
  have XB3 : Hid (((wc.alloc (box6 X xa xc xk xkc)).alloc (.cells #[.string key] 9)).drew.heap[wc.heap.size]? = some (box6 X xa xc xk xkc)) := (heap_alloc_old (wc.alloc (box6 X xa xc xk xkc)) _ (by simp)).trans (heap_new_at rfl)
  have hOl := HG6.out.lo
  have hOh := HG6.out.hi
  have hbX := HG6.out.bX
  unfold box6 at hbX
  have o5 : wc.cell? ⟨O, 5, none⟩ = some (.slice a3 L c3) := cellT HG6.out.bx rfl
  have o4 : wc.cell? ⟨O, 4, none⟩ = some (.slice a5 L c5) := cellT HG6.out.bx rfl
  obtain ⟨p0, p1, p2, p3, p4, p5⟩ := six_of_block hbX
  have z1 : O ≠ wc.heap.size := by omega
  have z2 : wc.heap.size ≠ O := by omega
  have z3 : w.heap.size + 1 ≠ wc.heap.size := by omega
  have z4 : wc.heap.size ≠ w.heap.size + 1 := by omega
  have z5 : w.heap.size + 1 < wc.heap.size := by omega
  have z7 : w.heap.size + 1 ≠ O := by omega
  have z8 : O ≠ w.heap.size + 1 := by omega
  have hkg : ∀ k, Value.ownBlock (.slice a3 L c3) = some k → k < wc.heap.size := fun k e => (HG6.out.keys.lt k e).2
  have HKG := Lib.hid hkg
  clear hbX hkg hWS WS HG6
  unfold box6 at HA2 HA3 SK2 SK3 XB2 XB3
  go_cut [] from 33 to 44 (fun wx => ∃ (a9 : Option Addr) (c9 : Nat) (a8 : Option Addr) (c8 : Nat), Hid (PutG S T X ia ic ka kc xa xc xk xkc rows w O wx (.slice a9 (L + 1) c9) (.slice a8 (L + 1) c8) (.slice a9 (L + 1) c9) (.slice a8 (L + 1) c8) (T.kys.take L ++ [key]) (T.its.take L ++ [X]) (rows.take (L * 6) ++ vcs X xa xc xk xkc)))
  case first =>
    go_region_law (first | ((with_reducible refine at_world ((wc.alloc (.cells #[.string key] 9)).drew) ?_); refine step_append_sl _ rfl _ _ 27 rfl (w.heap.size + 3) 9 si (.string ⟨#[]⟩) 1 16 Tryz.underlying27 hsi hs0 hs1 hs2 rfl (by decide) (.slice a3 L c3) L _ rfl (HA1.out.own_k hkl2) (.slice (some ⟨wc.heap.size, 0, none⟩) 1 1) 1 _ rfl SK1.out (by simp [Value.oneCell']) (by unfold maxLen; omega) (by omega) (Nat.le_trans hOl (Nat.le_of_lt HA1.out.hi)) ?_; intro v9 w9 hown9 hgr9 hat9; obtain ⟨a9, c9, rfl⟩ := ownsRow_form hown9; have HG9 := Lib.hid (HA1.out.keysUp (kl' := T.kys.take L ++ [key]) hgr9 hat9 (by rw [List.length_append, hkl2, List.map_append]; exact hown9)); have hz9 := HG9.out.hi; have hy9 : w.heap.size + 1 < w9.heap.size := (by omega); have hb9 := HG9.out.bX; unfold box6 at hb9; obtain ⟨p0, p1, p2, p3, p4, p5⟩ := six_of_block hb9; have o4 : w9.cell? ⟨O, 4, none⟩ = some (.slice a5 L c5) := cellT HG9.out.bx rfl) | ((with_reducible refine at_world (((wc.alloc (.cells #[.string key] 9)).alloc (.cells #[.int .i64 X.kd, .bool X.bo, .int .i64 X.nu, .string X.tx, .slice xa X.its.length xc, .slice xk X.kys.length xkc] 29)).drew) ?_); refine step_append_sl _ rfl _ _ 27 rfl (w.heap.size + 3) 9 si (.string ⟨#[]⟩) 1 16 Tryz.underlying27 hsi hs0 hs1 hs2 rfl (by decide) (.slice a3 L c3) L _ rfl (HA2.out.own_k hkl2) (.slice (some ⟨wc.heap.size, 0, none⟩) 1 1) 1 _ rfl SK2.out (by simp [Value.oneCell']) (by unfold maxLen; omega) (by omega) (Nat.le_trans hOl (Nat.le_of_lt HA2.out.hi)) ?_; intro v9 w9 hown9 hgr9 hat9; obtain ⟨a9, c9, rfl⟩ := ownsRow_form hown9; have HG9 := Lib.hid (HA2.out.keysUp (kl' := T.kys.take L ++ [key]) hgr9 hat9 (by rw [List.length_append, hkl2, List.map_append]; exact hown9)); have hz9 := HG9.out.hi; have hy9 : w.heap.size + 1 < w9.heap.size := (by omega); have hb9 := HG9.out.bX; unfold box6 at hb9; obtain ⟨p0, p1, p2, p3, p4, p5⟩ := six_of_block hb9; have o4 : w9.cell? ⟨O, 4, none⟩ = some (.slice a5 L c5) := cellT HG9.out.bx rfl; have HXB := Lib.hid (Sl.at_block (cs := vcs X xa xc xk xkc) (k := 6) ((hgr9.block (wc.heap.size + 1) (by simp <;> omega) (fun e => by have := HKG.out _ e.symm; omega)).trans XB2.out) rfl)) | ((with_reducible refine at_world (((wc.alloc (.cells #[.int .i64 X.kd, .bool X.bo, .int .i64 X.nu, .string X.tx, .slice xa X.its.length xc, .slice xk X.kys.length xkc] 29)).alloc (.cells #[.string key] 9)).drew) ?_); refine step_append_sl _ rfl _ _ 27 rfl (w.heap.size + 3) 9 si (.string ⟨#[]⟩) 1 16 Tryz.underlying27 hsi hs0 hs1 hs2 rfl (by decide) (.slice a3 L c3) L _ rfl (HA3.out.own_k hkl2) (.slice (some ⟨wc.heap.size + 1, 0, none⟩) 1 1) 1 _ rfl SK3.out (by simp [Value.oneCell']) (by unfold maxLen; omega) (by omega) (Nat.le_trans hOl (Nat.le_of_lt HA3.out.hi)) ?_; intro v9 w9 hown9 hgr9 hat9; obtain ⟨a9, c9, rfl⟩ := ownsRow_form hown9; have HG9 := Lib.hid (HA3.out.keysUp (kl' := T.kys.take L ++ [key]) hgr9 hat9 (by rw [List.length_append, hkl2, List.map_append]; exact hown9)); have hz9 := HG9.out.hi; have hy9 : w.heap.size + 1 < w9.heap.size := (by omega); have hb9 := HG9.out.bX; unfold box6 at hb9; obtain ⟨p0, p1, p2, p3, p4, p5⟩ := six_of_block hb9; have o4 : w9.cell? ⟨O, 4, none⟩ = some (.slice a5 L c5) := cellT HG9.out.bx rfl; have HXB := Lib.hid (Sl.at_block (cs := vcs X xa xc xk xkc) (k := 6) ((hgr9.block (wc.heap.size) (by simp <;> omega) (fun e => by have := HKG.out _ e.symm; omega)).trans XB3.out) rfl)) | ((with_reducible refine at_world w9 ?_); refine step_append_sl _ rfl _ _ 26 rfl (w.heap.size + 3) 29 vi (.agg #[.int .i64 0, .bool false, .int .i64 0, .string ⟨#[]⟩, .slice none 0 0, .slice none 0 0]) 6 88 Tryz.underlying26 hvi hv0 hv1 hv2 rfl (by decide) (.slice a5 L c5) L _ rfl ((HG9.out).own_i hil2) (.slice (some ⟨_, 0, none⟩) 1 1) 1 _ rfl HXB.out (six_ones _ _ _ _ _) (by unfold maxLen; omega) (by omega) (Nat.le_trans hOl (Nat.le_of_lt (HG9.out).hi)) ?_; intro v8 w8 hown8 hgr8 hat8; obtain ⟨a8, c8, rfl⟩ := ownsRow_form hown8; have HG8 := Lib.hid ((HG9.out).itemsUp (il' := T.its.take L ++ [X]) hgr8 hat8 (by rw [List.length_append, hil2]; exact hown8) (HG9.out).more); have o4 : w8.cell? ⟨O, 4, none⟩ = some (.slice a5 L c5) := cellT HG8.out.bx rfl; have o5 : w8.cell? ⟨O, 5, none⟩ = some (.slice a3 L c3) := cellT HG8.out.bx rfl; have hb8 := HG8.out.bX; unfold box6 at hb8; obtain ⟨p0, p1, p2, p3, p4, p5⟩ := six_of_block hb8; have f4 : w8.frozen? ⟨O, 4, none⟩ = false := frozenT HG8.out.bx; have f5 : w8.frozen? ⟨O, 5, none⟩ = false := frozenT HG8.out.bx) | ((with_reducible refine at_world (w9.alloc (.cells #[.int .i64 X.kd, .bool X.bo, .int .i64 X.nu, .string X.tx, .slice xa X.its.length xc, .slice xk X.kys.length xkc] 29)) ?_); refine step_append_sl _ rfl _ _ 26 rfl (w.heap.size + 3) 29 vi (.agg #[.int .i64 0, .bool false, .int .i64 0, .string ⟨#[]⟩, .slice none 0 0, .slice none 0 0]) 6 88 Tryz.underlying26 hvi hv0 hv1 hv2 rfl (by decide) (.slice a5 L c5) L _ rfl ((HG9.out.on ((Below.refl _ w9).alloc (Nat.le_refl _) (box6 X xa xc xk xkc))).own_i hil2) (.slice (some ⟨w9.heap.size, 0, none⟩) 1 1) 1 _ rfl (Sl.lit w9 (vcs X xa xc xk xkc) 29 6 rfl) (six_ones _ _ _ _ _) (by unfold maxLen; omega) (by omega) (Nat.le_trans hOl (Nat.le_of_lt (HG9.out.on ((Below.refl _ w9).alloc (Nat.le_refl _) (box6 X xa xc xk xkc))).hi)) ?_; intro v8 w8 hown8 hgr8 hat8; obtain ⟨a8, c8, rfl⟩ := ownsRow_form hown8; have HG8 := Lib.hid ((HG9.out.on ((Below.refl _ w9).alloc (Nat.le_refl _) (box6 X xa xc xk xkc))).itemsUp (il' := T.its.take L ++ [X]) hgr8 hat8 (by rw [List.length_append, hil2]; exact hown8) (HG9.out.on ((Below.refl _ w9).alloc (Nat.le_refl _) (box6 X xa xc xk xkc))).more); have o4 : w8.cell? ⟨O, 4, none⟩ = some (.slice a5 L c5) := cellT HG8.out.bx rfl; have o5 : w8.cell? ⟨O, 5, none⟩ = some (.slice a3 L c3) := cellT HG8.out.bx rfl; have hb8 := HG8.out.bX; unfold box6 at hb8; obtain ⟨p0, p1, p2, p3, p4, p5⟩ := six_of_block hb8; have f4 : w8.frozen? ⟨O, 4, none⟩ = false := frozenT HG8.out.bx; have f5 : w8.frozen? ⟨O, 5, none⟩ = false := frozenT HG8.out.bx))
    all_goals
      have HG7 := Lib.hid ((HG8.out.storeK (.slice a9 (L + 1) c9)).storeI (.slice a8 (L + 1) c8))
      clear HG8 hown8 hgr8 hat8 HG9 hown9 hgr9 hat9 HA1 HA2 HA3 SK1 SK2 SK3 XB2 XB3 HKG hb8 hb9
      go_wp2_with fail
      go_meet
      exact ⟨a9, c9, a8, c8, HG7⟩
  case rest =>
  clear o4 o5 p0 p1 p2 p3 p4 p5 z1 z2 z3 z4 z5 z7 z8 HA1 HA2 HA3 SK1 SK2 SK3 XB2 XB3 HKG
  obtain ⟨a9, c9, a8, c8, HG7⟩ := hcut
  have hm1 : L + 1 ≤ 4000 := by omega
  obtain ⟨M, hM'⟩ : ∃ M, M = putAt key T.kys := ⟨_, rfl⟩
  have hM := Lib.hid hM'
  clear hM'
  have HM1 : Hid (M ≤ T.kys.length) := HMP.out M hM.out
  cases hB : B with
  | false =>
    have HM2 := Lib.hid (HMF.out hB M hM.out)
    go_wp2_with fail
    rw [show ((L : Nat) : Int) = ((M : Nat) : Int) by rw [HM2.out]]
    have hMk : M ≤ T.kys.length := HM1.out
    have hkl3 : (T.kys.take L ++ [key]).length = L + 1 := by rw [List.length_append, hkl2]; rfl
    have hil3 : (T.its.take L ++ [X]).length = L + 1 := by rw [List.length_append, hil2]; rfl
    have HSL : Hid (Sl 1 wc.drew (.slice (if kc = M then ka else Option.map (fun x => x.add M) ka) (T.kys.length - M) (kc - M)) (T.kys.length - M) ((T.kys.drop M).map Value.string)) := by
      have := Sl.drew ((HG7.out.tk.1.rest M hMk).keeps (Keeps.bare _ _))
      unfold sliced at this
      rw [Nat.mul_one] at this
      show Sl _ _ _ _ _
      rw [List.map_drop]; exact this
    have HGD := Lib.hid (HG7.out.on (Below.refl _ _).drew)
    have hbt := HG7.out.bt
    unfold box6 at hbt
    have x5 : wc.cell? ⟨O, 5, none⟩ = some (.slice a9 (L + 1) c9) := cellT HG7.out.bx rfl
    have y5 : wc.cell? ⟨w.heap.size, 5, none⟩ = some (.slice ka T.kys.length kc) := cellT hbt rfl
    clear hbt
    go_cut [] from 48 to 55 (fun wx => ∃ (b9 : Option Addr) (d9 : Nat), Hid (PutG S T X ia ic ka kc xa xc xk xkc rows w O wx (.slice b9 (L + 1 + (T.kys.length - M)) d9) (.slice a8 (L + 1) c8) (.slice b9 (L + 1 + (T.kys.length - M)) d9) (.slice a8 (L + 1) c8) (T.kys.take L ++ [key] ++ T.kys.drop M) (T.its.take L ++ [X]) (rows.take (L * 6) ++ vcs X xa xc xk xkc)))
    case first =>
      go_region_law (refine step_append_sl _ rfl _ _ 27 rfl (w.heap.size + 3) 9 si (.string ⟨#[]⟩) 1 16 Tryz.underlying27 hsi hs0 hs1 hs2 rfl (by decide) (.slice a9 (L + 1) c9) (L + 1) _ rfl (HGD.out.own_k hkl3) _ (T.kys.length - M) _ rfl HSL.out (str_ones _) (by unfold maxLen; omega) (by omega) (Nat.le_trans HGD.out.lo (Nat.le_of_lt HGD.out.hi)) ?_; intro v3 w3 hown3 hgr3 hat3; obtain ⟨a3', c3', rfl⟩ := ownsRow_form hown3; have HG3 := Lib.hid (HGD.out.keysUp (kl' := T.kys.take L ++ [key] ++ T.kys.drop M) hgr3 hat3 (by rw [List.length_append, hkl3, List.length_drop, List.map_append]; exact hown3)); have x5 : w3.cell? ⟨O, 5, none⟩ = some (.slice a9 (L + 1) c9) := cellT HG3.out.bx rfl; have f5 : w3.frozen? ⟨O, 5, none⟩ = false := frozenT HG3.out.bx)
      all_goals
        have HG4 := Lib.hid (HG3.out.storeK (.slice a3' (L + 1 + (T.kys.length - M)) c3'))
        clear HG3 x5 f5 hown3 hgr3 hat3 HGD HSL y5
        generalize (if kc = M then ka else Option.map (fun x => x.add M) ka) = KA
        go_wp2_with fail
        go_meet
        exact ⟨a3', c3', HG4⟩
    case rest =>
    clear x5 y5 HGD HSL
    obtain ⟨b9, d9, HG8⟩ := hcut
    go_wp2_with fail
    have hMi : M ≤ T.its.length := by rw [← HL.out]; exact hMk
    have HIL : Hid (Sl 6 wc.drew (.slice (if ic = M then ia else Option.map (fun x => x.add (M * 6)) ia) (T.its.length - M) (ic - M)) (T.its.length - M) (rows.drop (M * 6))) := by
      have := Sl.drew ((HG8.out.ti.rest M hMi).keeps (Keeps.bare _ _))
      unfold sliced at this
      exact this
    have HGD := Lib.hid (HG8.out.on (Below.refl _ _).drew)
    have hbt := HG8.out.bt
    unfold box6 at hbt
    have x4 : wc.cell? ⟨O, 4, none⟩ = some (.slice a8 (L + 1) c8) := cellT HG8.out.bx rfl
    have y4 : wc.cell? ⟨w.heap.size, 4, none⟩ = some (.slice ia T.its.length ic) := cellT hbt rfl
    clear hbt
    go_cut [] from 56 to 63 (fun wx => ∃ (b8 : Option Addr) (d8 : Nat), Hid (PutG S T X ia ic ka kc xa xc xk xkc rows w O wx (.slice b9 (L + 1 + (T.kys.length - M)) d9) (.slice b8 (L + 1 + (T.its.length - M)) d8) (.slice b9 (L + 1 + (T.kys.length - M)) d9) (.slice b8 (L + 1 + (T.its.length - M)) d8) (T.kys.take L ++ [key] ++ T.kys.drop M) (T.its.take L ++ [X] ++ T.its.drop M) (rows.take (L * 6) ++ vcs X xa xc xk xkc ++ rows.drop (M * 6))))
    case first =>
      go_region_law (refine step_append_sl _ rfl _ _ 26 rfl (w.heap.size + 3) 29 vi (.agg #[.int .i64 0, .bool false, .int .i64 0, .string ⟨#[]⟩, .slice none 0 0, .slice none 0 0]) 6 88 Tryz.underlying26 hvi hv0 hv1 hv2 rfl (by decide) (.slice a8 (L + 1) c8) (L + 1) _ rfl (HGD.out.own_i hil3) _ (T.its.length - M) _ rfl HIL.out (rows_onesD HGD.out.tv _) (by unfold maxLen; omega) (by omega) (Nat.le_trans HGD.out.lo (Nat.le_of_lt HGD.out.hi)) ?_; intro v5 w5 hown5 hgr5 hat5; obtain ⟨a5', c5', rfl⟩ := ownsRow_form hown5; have HG5 := Lib.hid (HGD.out.itemsUp (il' := T.its.take L ++ [X] ++ T.its.drop M) (rows' := rows.take (L * 6) ++ vcs X xa xc xk xkc ++ rows.drop (M * 6)) hgr5 hat5 (by rw [List.length_append, hil3, List.length_drop]; exact hown5) (VsAt.append HGD.out.at_ (HGD.out.tv.drop M))); have x4 : w5.cell? ⟨O, 4, none⟩ = some (.slice a8 (L + 1) c8) := cellT HG5.out.bx rfl; have f4 : w5.frozen? ⟨O, 4, none⟩ = false := frozenT HG5.out.bx)
      all_goals
        have HG6 := Lib.hid (HG5.out.storeI (.slice a5' (L + 1 + (T.its.length - M)) c5'))
        clear HG5 x4 f4 hown5 hgr5 hat5 HGD HIL y4
        generalize (if ic = M then ia else Option.map (fun x => x.add (M * 6)) ia) = KA
        go_wp2_with fail
        go_meet
        exact ⟨a5', c5', HG6⟩
    case rest =>
    clear x4 y4 HGD HIL
    obtain ⟨b8, d8, HG9⟩ := hcut
    obtain ⟨x0, x1, x2, x3, x4, x5⟩ := six_of_block HG9.out.bx
    have HZ := HG9.out.b0
    unfold box0 at HZ
    obtain ⟨t0, t1, t2, t3, t4, t5⟩ := six_of_block HZ
    obtain ⟨g0, g1, g2, g3, g4, g5⟩ := six_open HZ
    go_wp2_with fail
    have hput := put6_at (a := .int .i64 6) (b := .bool false) (c := .int .i64 0) (d := .string ⟨#[]⟩) (e := .slice b8 (L + 1 + (T.its.length - M)) d8) (f := .slice b9 (L + 1 + (T.kys.length - M)) d9) rfl HZ
    have hbel := put6_below (a := .int .i64 6) (b := .bool false) (c := .int .i64 0) (d := .string ⟨#[]⟩) (e := .slice b8 (L + 1 + (T.its.length - M)) d8) (f := .slice b9 (L + 1 + (T.kys.length - M)) d9) HG9.out.below (show w.heap.size ≤ w.heap.size + 2 by omega)
    have hat := HG9.out.done HS.out (fun s hs => HKS.out s hs) (.int .i64 6) (.bool false) (.int .i64 0) (.string ⟨#[]⟩) (.slice b8 (L + 1 + (T.its.length - M)) d8) (.slice b9 (L + 1 + (T.kys.length - M)) d9)
    unfold put6 at hput hbel hat
    generalize hwf : World.setCell _ _ _ = wf at hput hbel hat ⊢
    clear hwf g0 g1 g2 g3 g4 g5 t0 t1 t2 t3 t4 t5 x0 x1 x2 x3 x4 x5
    obtain ⟨s0, s1, s2, s3, s4, s5⟩ := six_of_block hput
    refine bodyPost_ret (v := .agg #[.int .i64 6, .bool false, .int .i64 0, .string ⟨#[]⟩, .slice b8 (L + 1 + (T.its.length - M)) d8, .slice b9 (L + 1 + (T.kys.length - M)) d9]) (by simp [results, Tryz.results17, go_sem, s0, s1, s2, s3, s4, s5] <;> rfl) rfl ⟨[.int .i64 6, .bool false, .int .i64 0, .string ⟨#[]⟩, .slice b8 (L + 1 + (T.its.length - M)) d8, .slice b9 (L + 1 + (T.kys.length - M)) d9], rfl, ?_, hbel⟩
    rw [HPT.out, ← hM.out]
    simpa using hat
  | true =>
    have HM2 := Lib.hid (HMT.out hB M hM.out)
    go_wp2_with fail
    rw [show ((L : Int) + 1) = ((M : Nat) : Int) by rw [HM2.out]; rfl]
    have hMk : M ≤ T.kys.length := HM1.out
    have hkl3 : (T.kys.take L ++ [key]).length = L + 1 := by rw [List.length_append, hkl2]; rfl
    have hil3 : (T.its.take L ++ [X]).length = L + 1 := by rw [List.length_append, hil2]; rfl
    have HSL : Hid (Sl 1 wc.drew (.slice (if kc = M then ka else Option.map (fun x => x.add M) ka) (T.kys.length - M) (kc - M)) (T.kys.length - M) ((T.kys.drop M).map Value.string)) := by
      have := Sl.drew ((HG7.out.tk.1.rest M hMk).keeps (Keeps.bare _ _))
      unfold sliced at this
      rw [Nat.mul_one] at this
      show Sl _ _ _ _ _
      rw [List.map_drop]; exact this
    have HGD := Lib.hid (HG7.out.on (Below.refl _ _).drew)
    have hbt := HG7.out.bt
    unfold box6 at hbt
    have x5 : wc.cell? ⟨O, 5, none⟩ = some (.slice a9 (L + 1) c9) := cellT HG7.out.bx rfl
    have y5 : wc.cell? ⟨w.heap.size, 5, none⟩ = some (.slice ka T.kys.length kc) := cellT hbt rfl
    clear hbt
    go_cut [] from 48 to 55 (fun wx => ∃ (b9 : Option Addr) (d9 : Nat), Hid (PutG S T X ia ic ka kc xa xc xk xkc rows w O wx (.slice b9 (L + 1 + (T.kys.length - M)) d9) (.slice a8 (L + 1) c8) (.slice b9 (L + 1 + (T.kys.length - M)) d9) (.slice a8 (L + 1) c8) (T.kys.take L ++ [key] ++ T.kys.drop M) (T.its.take L ++ [X]) (rows.take (L * 6) ++ vcs X xa xc xk xkc)))
    case first =>
      go_region_law (refine step_append_sl _ rfl _ _ 27 rfl (w.heap.size + 3) 9 si (.string ⟨#[]⟩) 1 16 Tryz.underlying27 hsi hs0 hs1 hs2 rfl (by decide) (.slice a9 (L + 1) c9) (L + 1) _ rfl (HGD.out.own_k hkl3) _ (T.kys.length - M) _ rfl HSL.out (str_ones _) (by unfold maxLen; omega) (by omega) (Nat.le_trans HGD.out.lo (Nat.le_of_lt HGD.out.hi)) ?_; intro v3 w3 hown3 hgr3 hat3; obtain ⟨a3', c3', rfl⟩ := ownsRow_form hown3; have HG3 := Lib.hid (HGD.out.keysUp (kl' := T.kys.take L ++ [key] ++ T.kys.drop M) hgr3 hat3 (by rw [List.length_append, hkl3, List.length_drop, List.map_append]; exact hown3)); have x5 : w3.cell? ⟨O, 5, none⟩ = some (.slice a9 (L + 1) c9) := cellT HG3.out.bx rfl; have f5 : w3.frozen? ⟨O, 5, none⟩ = false := frozenT HG3.out.bx)
      all_goals
        have HG4 := Lib.hid (HG3.out.storeK (.slice a3' (L + 1 + (T.kys.length - M)) c3'))
        clear HG3 x5 f5 hown3 hgr3 hat3 HGD HSL y5
        generalize (if kc = M then ka else Option.map (fun x => x.add M) ka) = KA
        go_wp2_with fail
        go_meet
        exact ⟨a3', c3', HG4⟩
    case rest =>
    clear x5 y5 HGD HSL
    obtain ⟨b9, d9, HG8⟩ := hcut
    go_wp2_with fail
    have hMi : M ≤ T.its.length := by rw [← HL.out]; exact hMk
    have HIL : Hid (Sl 6 wc.drew (.slice (if ic = M then ia else Option.map (fun x => x.add (M * 6)) ia) (T.its.length - M) (ic - M)) (T.its.length - M) (rows.drop (M * 6))) := by
      have := Sl.drew ((HG8.out.ti.rest M hMi).keeps (Keeps.bare _ _))
      unfold sliced at this
      exact this
    have HGD := Lib.hid (HG8.out.on (Below.refl _ _).drew)
    have hbt := HG8.out.bt
    unfold box6 at hbt
    have x4 : wc.cell? ⟨O, 4, none⟩ = some (.slice a8 (L + 1) c8) := cellT HG8.out.bx rfl
    have y4 : wc.cell? ⟨w.heap.size, 4, none⟩ = some (.slice ia T.its.length ic) := cellT hbt rfl
    clear hbt
    go_cut [] from 56 to 63 (fun wx => ∃ (b8 : Option Addr) (d8 : Nat), Hid (PutG S T X ia ic ka kc xa xc xk xkc rows w O wx (.slice b9 (L + 1 + (T.kys.length - M)) d9) (.slice b8 (L + 1 + (T.its.length - M)) d8) (.slice b9 (L + 1 + (T.kys.length - M)) d9) (.slice b8 (L + 1 + (T.its.length - M)) d8) (T.kys.take L ++ [key] ++ T.kys.drop M) (T.its.take L ++ [X] ++ T.its.drop M) (rows.take (L * 6) ++ vcs X xa xc xk xkc ++ rows.drop (M * 6))))
    case first =>
      go_region_law (refine step_append_sl _ rfl _ _ 26 rfl (w.heap.size + 3) 29 vi (.agg #[.int .i64 0, .bool false, .int .i64 0, .string ⟨#[]⟩, .slice none 0 0, .slice none 0 0]) 6 88 Tryz.underlying26 hvi hv0 hv1 hv2 rfl (by decide) (.slice a8 (L + 1) c8) (L + 1) _ rfl (HGD.out.own_i hil3) _ (T.its.length - M) _ rfl HIL.out (rows_onesD HGD.out.tv _) (by unfold maxLen; omega) (by omega) (Nat.le_trans HGD.out.lo (Nat.le_of_lt HGD.out.hi)) ?_; intro v5 w5 hown5 hgr5 hat5; obtain ⟨a5', c5', rfl⟩ := ownsRow_form hown5; have HG5 := Lib.hid (HGD.out.itemsUp (il' := T.its.take L ++ [X] ++ T.its.drop M) (rows' := rows.take (L * 6) ++ vcs X xa xc xk xkc ++ rows.drop (M * 6)) hgr5 hat5 (by rw [List.length_append, hil3, List.length_drop]; exact hown5) (VsAt.append HGD.out.at_ (HGD.out.tv.drop M))); have x4 : w5.cell? ⟨O, 4, none⟩ = some (.slice a8 (L + 1) c8) := cellT HG5.out.bx rfl; have f4 : w5.frozen? ⟨O, 4, none⟩ = false := frozenT HG5.out.bx)
      all_goals
        have HG6 := Lib.hid (HG5.out.storeI (.slice a5' (L + 1 + (T.its.length - M)) c5'))
        clear HG5 x4 f4 hown5 hgr5 hat5 HGD HIL y4
        generalize (if ic = M then ia else Option.map (fun x => x.add (M * 6)) ia) = KA
        go_wp2_with fail
        go_meet
        exact ⟨a5', c5', HG6⟩
    case rest =>
    clear x4 y4 HGD HIL
    obtain ⟨b8, d8, HG9⟩ := hcut
    obtain ⟨x0, x1, x2, x3, x4, x5⟩ := six_of_block HG9.out.bx
    have HZ := HG9.out.b0
    unfold box0 at HZ
    obtain ⟨t0, t1, t2, t3, t4, t5⟩ := six_of_block HZ
    obtain ⟨g0, g1, g2, g3, g4, g5⟩ := six_open HZ
    go_wp2_with fail
    have hput := put6_at (a := .int .i64 6) (b := .bool false) (c := .int .i64 0) (d := .string ⟨#[]⟩) (e := .slice b8 (L + 1 + (T.its.length - M)) d8) (f := .slice b9 (L + 1 + (T.kys.length - M)) d9) rfl HZ
    have hbel := put6_below (a := .int .i64 6) (b := .bool false) (c := .int .i64 0) (d := .string ⟨#[]⟩) (e := .slice b8 (L + 1 + (T.its.length - M)) d8) (f := .slice b9 (L + 1 + (T.kys.length - M)) d9) HG9.out.below (show w.heap.size ≤ w.heap.size + 2 by omega)
    have hat := HG9.out.done HS.out (fun s hs => HKS.out s hs) (.int .i64 6) (.bool false) (.int .i64 0) (.string ⟨#[]⟩) (.slice b8 (L + 1 + (T.its.length - M)) d8) (.slice b9 (L + 1 + (T.kys.length - M)) d9)
    unfold put6 at hput hbel hat
    generalize hwf : World.setCell _ _ _ = wf at hput hbel hat ⊢
    clear hwf g0 g1 g2 g3 g4 g5 t0 t1 t2 t3 t4 t5 x0 x1 x2 x3 x4 x5
    obtain ⟨s0, s1, s2, s3, s4, s5⟩ := six_of_block hput
    refine bodyPost_ret (v := .agg #[.int .i64 6, .bool false, .int .i64 0, .string ⟨#[]⟩, .slice b8 (L + 1 + (T.its.length - M)) d8, .slice b9 (L + 1 + (T.kys.length - M)) d9]) (by simp [results, Tryz.results17, go_sem, s0, s1, s2, s3, s4, s5] <;> rfl) rfl ⟨[.int .i64 6, .bool false, .int .i64 0, .string ⟨#[]⟩, .slice b8 (L + 1 + (T.its.length - M)) d8, .slice b9 (L + 1 + (T.kys.length - M)) d9], rfl, ?_, hbel⟩
    rw [HPT.out, ← hM.out]
    simpa using hat
theorem put_veil (S : Nat → Bool) (T X : V) (key : ByteArray) (tcs xcs : List Value) (w : World) (hS : ∀ k, w.heap.size ≤ k → S k = false) (hT : VAt (veil S w) T tcs) (hX : VAt (veil S w) X xcs) (hmid : T.mid) (h6 : T.kd = 6) (hkey : key.size ≤ maxLen) :
    Calls Tryz.prog 17 #[.agg tcs.toArray, .string key, .agg xcs.toArray] w fun e w' => ∃ ds : List Value, e = .returned (.agg ds.toArray) ∧ VAt (veil S w') (putV T key X) ds ∧ Below w.heap.size w w' :=
  put_top S T X key tcs xcs w hS hT hX hmid.top h6 hkey
end Go.Proofs.YtejnoedlfbglcaaGreatDoor
