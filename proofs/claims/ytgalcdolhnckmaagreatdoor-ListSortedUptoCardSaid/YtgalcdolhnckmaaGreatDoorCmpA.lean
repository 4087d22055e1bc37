/- conf.Compare computes the order of values. No conditions: whatever values are read. -/
import Derived.Test.YtgalcdolhnckmaaGreatDoorProg
import Derived.Test.YtgalcdolhnckmaaGreatDoorShelf
import Derived.Test.YtgalcdolhnckmaaGreatDoorVAt
import Derived.Test.YtgalcdolhnckmaaGreatDoorKept
import Derived.Deep.QuietTactic
import Derived.BigQuiet
import Derived.StillTailTactics
import Derived.RegionTactic
import Derived.Deep.RegionHeld3
import Derived.Outline
namespace Go.Proofs.YtgalcdolhnckmaaGreatDoor
open Go.RowKit Mh
set_option linter.unusedVariables false

theorem sign_any (a b : Int) (w : World) : Calls Tryz.prog 62 #[.int .i64 a, .int .i64 b] w fun e w' => e = .returned (.int .i64 (sgn a b)) ∧ w = w' := by
  rcases sgn_cases a b with ⟨h, e⟩ | ⟨h, e⟩ | ⟨h, e⟩
  · have q : decide (a < b) = true := decide_eq_true h
    have H := Lib.hid e
    clear h e
    go_enter Tryz.func62, Tryz.ntmps62
    go_wp2_with fail
    go_ret
    exact ⟨by rw [H.out]; rfl, rfl⟩
  · have q : decide (a < b) = false := decide_eq_false (by omega)
    have q2 : decide (b < a) = true := decide_eq_true h
    have H := Lib.hid e
    clear h e
    go_enter Tryz.func62, Tryz.ntmps62
    go_wp2_with fail
    go_ret
    exact ⟨by rw [H.out]; rfl, rfl⟩
  · have q : decide (a < b) = false := decide_eq_false (by omega)
    have q2 : decide (b < a) = false := decide_eq_false (by omega)
    have H := Lib.hid e
    clear h e
    go_enter Tryz.func62, Tryz.ntmps62
    go_wp2_with fail
    go_ret
    exact ⟨by rw [H.out]; rfl, rfl⟩
theorem bit_any (b : Bool) (w : World) : Calls Tryz.prog 63 #[.bool b] w fun e w' => e = .returned (.int .i64 (bitI b)) ∧ w = w' := by
  cases b
  all_goals
    go_enter Tryz.func63, Tryz.ntmps63
    go_wp2_with fail
    go_ret
    exact ⟨rfl, rfl⟩
theorem scmp_any (s t : ByteArray) (w : World) : Calls Tryz.prog 64 #[.string s, .string t] w fun e w' => e = .returned (.int .i64 (scmp s t)) ∧ w = w' :=
  (Tryz.strings_Compare s t w).mono fun _ _ h => ⟨h.1, h.2.symm⟩

def lexs : List Int → Int → Int
  | [], r => r
  | c :: cs, r => lex c (lexs cs r)
theorem lexs_step (C : List Int) (i : Nat) (h : i < C.length) (r : Int) : lexs (C.drop i) r = lex (C.getD i 0) (lexs (C.drop (i + 1)) r) := by
  rw [List.drop_eq_getElem_cons h, List.getD, List.getElem?_eq_getElem h]
  rfl
theorem kcmp_step (l k : List ByteArray) (i : Nat) (h : i < l.length) (h' : i < k.length) : kcmp (l.drop i) (k.drop i) = lex (scmp (l.getD i ⟨#[]⟩) (k.getD i ⟨#[]⟩)) (kcmp (l.drop (i + 1)) (k.drop (i + 1))) := by
  rw [List.drop_eq_getElem_cons h, List.drop_eq_getElem_cons h', List.getD, List.getElem?_eq_getElem h, List.getD, List.getElem?_eq_getElem h']
  rfl
theorem sgn_lens {α : Type} (l k : List α) (i : Nat) (hi : i ≤ l.length) (hk : i ≤ k.length) (h : ¬ (i < l.length ∧ i < k.length)) (c : α → α → Int) : lexL c (l.drop i) (k.drop i) = sgn l.length k.length := by
  rcases sgn_cases (l.length : Int) (k.length : Int) with ⟨h1, e⟩ | ⟨h1, e⟩ | ⟨h1, e⟩
  · rw [e]
    have a : l.drop i = [] := List.drop_eq_nil_of_le (by omega)
    have b : 0 < (k.drop i).length := by rw [List.length_drop]; omega
    rw [a]
    cases hc : k.drop i with
    | nil => rw [hc] at b; simp at b
    | cons x xs => rfl
  · rw [e]
    have a : k.drop i = [] := List.drop_eq_nil_of_le (by omega)
    have b : 0 < (l.drop i).length := by rw [List.length_drop]; omega
    rw [a]
    cases hc : l.drop i with
    | nil => rw [hc] at b; simp at b
    | cons x xs => rfl
  · rw [e, List.drop_eq_nil_of_le (by omega), List.drop_eq_nil_of_le (by omega)]
    rfl
theorem four_i (a b c d : Int) (k : Nat) (h : k < 4) : (#[Value.int .i64 a, .int .i64 b, .int .i64 c, .int .i64 d] : Array Value)[k]? = some (.int .i64 ([a, b, c, d].getD k 0)) := by
  match k, h with
  | 0, _ => rfl
  | 1, _ => rfl
  | 2, _ => rfl
  | 3, _ => rfl

theorem cmps_step (l k : List V) (i : Nat) (h : i < l.length) (h' : i < k.length) : V.cmps (l.drop i) (k.drop i) = lex (V.cmp l[i] k[i]) (V.cmps (l.drop (i + 1)) (k.drop (i + 1))) := by
  rw [List.drop_eq_getElem_cons h, List.drop_eq_getElem_cons h']
  simp only [V.cmps]
theorem six {c : List Value} (h : c.length = 6) : ∃ e0 e1 e2 e3 e4 e5, c = [e0, e1, e2, e3, e4, e5] := by
  match c, h with
  | [e0, e1, e2, e3, e4, e5], _ => exact ⟨_, _, _, _, _, _, rfl⟩
/-- A slice word, empty or not. -/
theorem Sl.form {k : Nat} {w : World} {v : Value} {n : Nat} {xs : List Value} (h : Sl k w v n xs) :
    ∃ ao c, v = .slice ao n c ∧ n ≤ maxLen ∧ (0 < n → ∃ b off, ao = some ⟨b, off, none⟩ ∧ n ≤ c ∧ b < w.heap.size ∧ ∀ i u, xs[i]? = some u → w.cell? ⟨b, off + i, none⟩ = some u) := by
  rcases h.2 with ⟨rfl, a, c, rfl⟩ | ⟨b, off, c, rfl, h1, h2, h3, h4, h5⟩
  · exact ⟨a, c, rfl, Nat.zero_le _, fun h => absurd h (Nat.lt_irrefl _)⟩
  · exact ⟨_, c, rfl, Nat.le_trans h2 h3, fun _ => ⟨b, off, rfl, h2, h4, h5⟩⟩

set_option maxRecDepth 100000 in
set_option maxHeartbeats 4000000 in
theorem cmp_any : ∀ (N : Nat) (X : V), SizeOf.sizeOf X < N → ∀ (Y : V) (cs ds : List Value) (w : World), VAt w X cs → VAt w Y ds →
    Calls Tryz.prog 32 #[.agg cs.toArray, .agg ds.toArray] w fun e w' => e = .returned (.int .i64 (V.cmp X Y)) ∧ Below w.heap.size w w' := by
  intro N
  induction N with
  | zero => intro X h; omega
  | succ N ih =>
    rintro ⟨k, b, n, t, is, ks⟩ hN ⟨k', b', n', t', is', ks'⟩ cs ds w hX hY
    obtain ⟨R, hR⟩ : ∃ R, R = V.cmp (.mk k b n t is ks) (.mk k' b' n' t' is' ks') := ⟨_, rfl⟩
    rw [← hR]
    have hR2 : lexs ([sgn k k', sgn (bitI b) (bitI b'), sgn n n', scmp t t'].drop 0) (lex (kcmp (ks.drop 0) (ks'.drop 0)) (V.cmps (is.drop 0) (is'.drop 0))) = R := by
      rw [hR]; simp only [List.drop_zero, V.cmp, lexs]
    unfold VAt at hX hY
    obtain ⟨iv, kv, rfl, _, _, _, hks, rows, hrows, hvs⟩ := hX
    obtain ⟨iv', kv', rfl, _, _, _, hks', rows', hrows', hvs'⟩ := hY
    obtain ⟨ka, kc, rfl, hk1, hk2⟩ := Sl.form hks.1
    obtain ⟨ka', kc', rfl, hk1', hk2'⟩ := Sl.form hks'.1
    obtain ⟨ia, ic, rfl, hi1, hi2⟩ := Sl.form hrows
    obtain ⟨ia', ic', rfl, hi1', hi2'⟩ := Sl.form hrows'
    unfold maxLen at hk1 hk1' hi1 hi1'
    have HR := Lib.hid hR2
    have HK := Lib.hid hk2
    have HK' := Lib.hid hk2'
    have HI := Lib.hid hi2
    have HI' := Lib.hid hi2'
    have HV := Lib.hid hvs
    have HV' := Lib.hid hvs'
    have HIH := Lib.hid ih
    have HN := Lib.hid hN
    clear hR hR2 hk2 hk2' hi2 hi2' hvs hvs' ih hN hks hks' hrows hrows'
    go_enter Tryz.func32, Tryz.ntmps32
    go_wp2_with fail
    have b0 : (w.alloc (.cells #[.int .i64 k, .bool b, .int .i64 n, .string t, .slice ia is.length ic, .slice ka ks.length kc] 35)).heap[w.heap.size]? = some (.cells #[.int .i64 k, .bool b, .int .i64 n, .string t, .slice ia is.length ic, .slice ka ks.length kc] 35 (0, 0)) := heap_alloc_new _ _
    obtain ⟨w1, hw1⟩ : ∃ w1, w1 = (w.alloc (.cells #[.int .i64 k, .bool b, .int .i64 n, .string t, .slice ia is.length ic, .slice ka ks.length kc] 35)).alloc (.cells #[.int .i64 k', .bool b', .int .i64 n', .string t', .slice ia' is'.length ic', .slice ka' ks'.length kc'] 35) := ⟨_, rfl⟩
    have b1 : w1.heap[w.heap.size]? = some (.cells #[.int .i64 k, .bool b, .int .i64 n, .string t, .slice ia is.length ic, .slice ka ks.length kc] 35 (0, 0)) := by rw [hw1]; exact (heap_alloc_old _ _ (by simp)).trans (heap_alloc_new _ _)
    have b2 : w1.heap[w.heap.size + 1]? = some (.cells #[.int .i64 k', .bool b', .int .i64 n', .string t', .slice ia' is'.length ic', .slice ka' ks'.length kc'] 35 (0, 0)) := by rw [hw1]; exact heap_new_at (by simp)
    have HB1 : Hid (Below w.heap.size w w1) := by rw [hw1]; exact ((Below.refl w.heap.size w).alloc (Nat.le_refl _) _).alloc (by simp) _
    have hz1 : w.heap.size + 1 < w1.heap.size := by rw [hw1]; simp
    rw [← hw1]
    clear hw1 b0
    have e1 : w1.heap.size ≠ w.heap.size := by omega
    have e2 : w1.heap.size ≠ w.heap.size + 1 := by omega
    have x0 : w1.cell? ⟨w.heap.size, 0, none⟩ = some (.int .i64 k) := cellT b1 rfl
    have x1 : w1.cell? ⟨w.heap.size, 1, none⟩ = some (.bool b) := cellT b1 rfl
    have x2 : w1.cell? ⟨w.heap.size, 2, none⟩ = some (.int .i64 n) := cellT b1 rfl
    have x3 : w1.cell? ⟨w.heap.size, 3, none⟩ = some (.string t) := cellT b1 rfl
    have y0 : w1.cell? ⟨w.heap.size + 1, 0, none⟩ = some (.int .i64 k') := cellT b2 rfl
    have y1 : w1.cell? ⟨w.heap.size + 1, 1, none⟩ = some (.bool b') := cellT b2 rfl
    have y2 : w1.cell? ⟨w.heap.size + 1, 2, none⟩ = some (.int .i64 n') := cellT b2 rfl
    have y3 : w1.cell? ⟨w.heap.size + 1, 3, none⟩ = some (.string t') := cellT b2 rfl
    have BX := Lib.hid b1
    have BY := Lib.hid b2
    clear b1 b2
    go_region_held3 (fun w' => w'.cell? ⟨w.heap.size, 0, none⟩ = some (.int .i64 k) ∧ w'.cell? ⟨w.heap.size, 1, none⟩ = some (.bool b) ∧ w'.cell? ⟨w.heap.size, 2, none⟩ = some (.int .i64 n) ∧ w'.cell? ⟨w.heap.size, 3, none⟩ = some (.string t) ∧
        w'.cell? ⟨w.heap.size + 1, 0, none⟩ = some (.int .i64 k') ∧ w'.cell? ⟨w.heap.size + 1, 1, none⟩ = some (.bool b') ∧ w'.cell? ⟨w.heap.size + 1, 2, none⟩ = some (.int .i64 n') ∧ w'.cell? ⟨w.heap.size + 1, 3, none⟩ = some (.string t')) (first | go_keep | (trace_state; fail))
      (first | (go_at_call 62; ((with_reducible refine (sign_any _ _ _).mono ?_); rintro e w' ⟨rfl, rfl⟩)) | (go_at_call 63; ((with_reducible refine (bit_any _ _).mono ?_); rintro e w' ⟨rfl, rfl⟩)) | (go_at_call 64; ((with_reducible refine (scmp_any _ _ _).mono ?_); rintro e w' ⟨rfl, rfl⟩)))
    go_wp2_with fail
    obtain ⟨C, hC⟩ : ∃ C, C = [sgn k k', sgn (bitI b) (bitI b'), sgn n n', scmp t t'] := ⟨_, rfl⟩
    have hT2 : (w1.alloc (.cells #[.int .i64 (sgn k k'), .int .i64 (sgn (bitI b) (bitI b')), .int .i64 (sgn n n'), .int .i64 (scmp t t')] 3)).heap[w1.heap.size]? = some (.cells #[.int .i64 (sgn k k'), .int .i64 (sgn (bitI b) (bitI b')), .int .i64 (sgn n n'), .int .i64 (scmp t t')] 3 (0, 0)) := heap_alloc_new _ _
    have hBX2 := (heap_alloc_old w1 (.cells #[.int .i64 (sgn k k'), .int .i64 (sgn (bitI b) (bitI b')), .int .i64 (sgn n n'), .int .i64 (scmp t t')] 3) (show w.heap.size < w1.heap.size by omega)).trans BX.out
    have hBY2 := (heap_alloc_old w1 (.cells #[.int .i64 (sgn k k'), .int .i64 (sgn (bitI b) (bitI b')), .int .i64 (sgn n n'), .int .i64 (scmp t t')] 3) hz1).trans BY.out
    have hB2 : Below w.heap.size w (w1.alloc (.cells #[.int .i64 (sgn k k'), .int .i64 (sgn (bitI b) (bitI b')), .int .i64 (sgn n n'), .int .i64 (scmp t t')] 3)) := HB1.out.alloc (by omega) _
    have hz2 : w1.heap.size < (w1.alloc (.cells #[.int .i64 (sgn k k'), .int .i64 (sgn (bitI b) (bitI b')), .int .i64 (sgn n n'), .int .i64 (scmp t t')] 3)).heap.size := by simp
    generalize (w1.alloc (.cells #[.int .i64 (sgn k k'), .int .i64 (sgn (bitI b) (bitI b')), .int .i64 (sgn n n'), .int .i64 (scmp t t')] 3)) = w2 at *
    have HC : Hid (∀ j, j < 4 → w2.cell? ⟨w1.heap.size, j, none⟩ = some (.int .i64 (C.getD j 0))) := by
      intro j hj
      rw [cell_of_row _ _ _ _ _ _ hT2, hC]
      exact four_i _ _ _ _ j hj
    have hCl : C.length = 4 := by rw [hC]; rfl
    rw [← hC] at HR
    have HCL := Lib.hid hCl
    have HBX := Lib.hid hBX2
    have HBY := Lib.hid hBY2
    have HB2 := Lib.hid hB2
    clear hT2 hC hCl hBX2 hBY2 hB2 BX BY HB1 x0 x1 x2 x3 y0 y1 y2 y3
    go_loop [36, 6] (fun i c => ∃ j : Nat, j ≤ 4 ∧ i = .int .i64 j ∧ Hid (lexs (C.drop j) (lex (kcmp (ks.drop 0) (ks'.drop 0)) (V.cmps (is.drop 0) (is'.drop 0))) = R)) (fun i _ => 4 - (intOf i).toNat)
    case atStart => exact ⟨0, by omega, rfl, HR.out⟩
    case round =>
      obtain ⟨j, hj, rfl, HJ⟩ := hrel
      clear HR
      by_cases hj4 : j < 4
      · have hc := HC.out j hj4
        have hst := lexs_step C j (by rw [HCL.out]; exact hj4) (lex (kcmp (ks.drop 0) (ks'.drop 0)) (V.cmps (is.drop 0) (is'.drop 0)))
        have HST := Lib.hid hst
        clear hst
        generalize C.getD j 0 = z at *
        by_cases hz : z = 0
        · subst hz
          go_wp2_with fail
          go_round
          case rel => exact ⟨j + 1, by omega, by go_num, by have := HST.out; rw [HJ.out] at this; rw [this]; simp [lex, Hid]⟩
          case measure => simp [intOf]; omega
        · have hz' : (z != 0) = true := by rw [bne_iff_ne]; exact hz
          have hRz : R = z := by
            have := HST.out
            rw [HJ.out] at this
            rw [this]; simp [lex, hz]
          have HRZ := Lib.hid hRz
          clear hz hRz
          go_wp2_with fail
          go_ret
          exact ⟨by rw [HRZ.out]; rfl, HB2.out.drew⟩
      · obtain rfl : j = 4 := by omega
        have hR4 : lex (kcmp (ks.drop 0) (ks'.drop 0)) (V.cmps (is.drop 0) (is'.drop 0)) = R := by
          have := HJ.out
          rw [List.drop_eq_nil_of_le (by rw [HCL.out]; omega)] at this
          exact this
        have HR4 := Lib.hid hR4
        clear hR4 HJ HC
        go_wp2_with fail
        obtain ⟨w3, hw3⟩ : ∃ w3, w3 = w2.drew := ⟨_, rfl⟩
        rw [← hw3]
        have HX3 : Hid (w3.heap[w.heap.size]? = some (.cells #[.int .i64 k, .bool b, .int .i64 n, .string t, .slice ia is.length ic, .slice ka ks.length kc] 35 (0, 0))) := by rw [hw3]; exact HBX.out
        have HY3 : Hid (w3.heap[w.heap.size + 1]? = some (.cells #[.int .i64 k', .bool b', .int .i64 n', .string t', .slice ia' is'.length ic', .slice ka' ks'.length kc'] 35 (0, 0))) := by rw [hw3]; exact HBY.out
        have HB3 : Hid (Below w.heap.size w w3) := by rw [hw3]; exact HB2.out.drew
        have hz3 : w.heap.size + 1 < w3.heap.size := by rw [hw3]; show _ < w2.heap.size; omega
        clear hw3 HBX HBY HB2 HCL hz1 hz2 e1 e2
        go_loopw [7, 8] (fun i c wr => ∃ j : Nat, j ≤ ks.length ∧ j ≤ ks'.length ∧ i = .int .i64 j ∧ Hid (lex (kcmp (ks.drop j) (ks'.drop j)) (V.cmps (is.drop 0) (is'.drop 0)) = R) ∧ Below w3.heap.size w3 wr) (fun i _ _ => ks.length - (intOf i).toNat)
        case atStart => exact ⟨0, by omega, by omega, rfl, HR4.out, Below.refl _ _⟩
        case round =>
          obtain ⟨j, hj, hj', rfl, HJ, hbr⟩ := hrel
          clear HR4
          have bx := (hbr.block w.heap.size (by omega)).trans HX3.out
          have yx := (hbr.block (w.heap.size + 1) hz3).trans HY3.out
          have x5 : wr.cell? ⟨w.heap.size, 5, none⟩ = some (.slice ka ks.length kc) := cellT bx rfl
          have y5 : wr.cell? ⟨w.heap.size + 1, 5, none⟩ = some (.slice ka' ks'.length kc') := cellT yx rfl
          have HBX := Lib.hid bx
          have HBY := Lib.hid yx
          have HBR := Lib.hid hbr
          have HW : Hid (Below w.heap.size w wr) := HB3.out.trans (hbr.mono HB3.out.size)
          clear bx yx hbr
          by_cases hl : j < ks.length ∧ j < ks'.length
          · obtain ⟨hl1, hl2⟩ := hl
            obtain ⟨kb, ko, rfl, _, hkb, hkc⟩ := HK.out (by omega)
            obtain ⟨kb', ko', rfl, _, hkb', hkc'⟩ := HK'.out (by omega)
            have q1 : wr.cell? ⟨kb, ko + j, none⟩ = some (.string (ks.getD j ⟨#[]⟩)) := (HW.out.cell (p := ⟨kb, ko + j, none⟩) hkb).trans (hkc j _ (by rw [List.getElem?_map, List.getElem?_eq_getElem hl1]; simp [List.getD, hl1]))
            have q2 : wr.cell? ⟨kb', ko' + j, none⟩ = some (.string (ks'.getD j ⟨#[]⟩)) := (HW.out.cell (p := ⟨kb', ko' + j, none⟩) hkb').trans (hkc' j _ (by rw [List.getElem?_map, List.getElem?_eq_getElem hl2]; simp [List.getD, hl2]))
            have hst := Lib.hid (kcmp_step ks ks' j hl1 hl2)
            clear hkc hkc' hkb hkb'
            generalize ks.getD j ⟨#[]⟩ = s1 at *
            generalize ks'.getD j ⟨#[]⟩ = s2 at *
            have CS : Hid (∀ m, Calls Tryz.prog 64 #[.string s1, .string s2] (wr.drewN m) fun e w' => e = .returned (.int .i64 (scmp s1 s2)) ∧ w' = wr.drewN m) := fun m => Tryz.strings_Compare s1 s2 (wr.drewN m)
            generalize scmp s1 s2 = z at *
            go_wp2_with fail
            go_quiet ((go_at_call 64; with_reducible exact Calls.quiet_of_same (CS.out _)))
            by_cases hz : z = 0
            · subst hz
              go_wp2_with fail
              go_roundw
              case rel => exact ⟨j + 1, by omega, by omega, by go_num, by have h := HJ.out; rw [hst.out] at h; simpa [lex, Hid] using h, by first | exact HBR.out | exact HBR.out.drewN _ | exact ⟨HBR.out.os, HBR.out.tape, HBR.out.output, HBR.out.size, HBR.out.block⟩⟩
              case measure => simp [intOf]; omega
            · have hz' : (z != 0) = true := by rw [bne_iff_ne]; exact hz
              have HRZ : Hid (R = z) := by
                have h := HJ.out
                rw [hst.out] at h
                show R = z
                rw [← h]; simp [lex, hz]
              clear hz
              go_wp2_with fail
              go_ret
              exact ⟨by rw [HRZ.out]; rfl, ⟨HW.out.os, HW.out.tape, HW.out.output, HW.out.size, HW.out.block⟩⟩
          · have hkc := sgn_lens ks ks' j hj hj' hl scmp
            rw [← kcmp_lexL] at hkc
            have HJ2 : Hid (lex (sgn ks.length ks'.length) (V.cmps (is.drop 0) (is'.drop 0)) = R) := by have h := HJ.out; rw [hkc] at h; exact h
            have CS : Hid (∀ w, Calls Tryz.prog 62 #[.int .i64 (ks.length : Int), .int .i64 (ks'.length : Int)] w fun e w' => e = .returned (.int .i64 (sgn ks.length ks'.length)) ∧ w = w') := fun w => sign_any _ _ w
            have tests : decide (j < ks.length) = false ∨ (decide (j < ks.length) = true ∧ decide (j < ks'.length) = false) := by
              by_cases h1 : j < ks.length
              · exact .inr ⟨decide_eq_true h1, decide_eq_false (fun h2 => hl ⟨h1, h2⟩)⟩
              · exact .inl (decide_eq_false h1)
            generalize sgn (ks.length : Int) (ks'.length : Int) = z at *
            have hzr : w.heap.size + 1 < wr.heap.size := by have := HBR.out.size; omega
            clear hkc HJ hl HK HK'
            by_cases hz : z = 0
            · subst hz
              have HL : Hid (V.cmps (is.drop 0) (is'.drop 0) = R) := by have h := HJ2.out; simpa [lex, Hid] using h
              have hX4 : Hid (wr.cell? ⟨w.heap.size, 4, none⟩ = some (.slice ia is.length ic)) := cellT HBX.out rfl
              have hY4 : Hid (wr.cell? ⟨w.heap.size + 1, 4, none⟩ = some (.slice ia' is'.length ic')) := cellT HBY.out rfl
              clear HJ2 HBX HBY HX3 HY3 HB3 HBR hz3
              obtain ⟨wo, rfl⟩ : ∃ wo : World, wo = wr := ⟨_, rfl⟩
              rcases tests with t1 | ⟨t1, t2⟩
              all_goals
                go_wp2_with (go_at_call 62; ((with_reducible refine (CS.out _).mono ?_); rintro e w' ⟨rfl, rfl⟩))
                go_loopw [10, 11] (fun i c wr => ∃ p : Nat, p ≤ is.length ∧ p ≤ is'.length ∧ i = .int .i64 p ∧ Hid (V.cmps (is.drop p) (is'.drop p) = R) ∧ Below wo.heap.size wo wr) (fun i _ _ => is.length - (intOf i).toNat)
                case atStart => exact ⟨0, by omega, by omega, rfl, HL.out, Below.refl _ _⟩
                case round =>
                  obtain ⟨p, hp, hp', rfl, HP, hbq⟩ := hrel
                  clear HL x5 y5
                  have x4 := (hbq.cell (p := ⟨w.heap.size, 4, none⟩) (show w.heap.size < wo.heap.size by omega)).trans hX4.out
                  have y4 := (hbq.cell (p := ⟨w.heap.size + 1, 4, none⟩) hzr).trans hY4.out
                  have HWQ : Hid (Below w.heap.size w wr) := HW.out.trans (hbq.mono HW.out.size)
                  have HBQ := Lib.hid hbq
                  clear hbq
                  by_cases hl : p < is.length ∧ p < is'.length
                  · obtain ⟨hl1, hl2⟩ := hl
                    obtain ⟨ib, io, rfl, _, hib, hic⟩ := HI.out (by omega)
                    obtain ⟨ib', io', rfl, _, hib', hic'⟩ := HI'.out (by omega)
                    obtain ⟨c, hvc, hcc⟩ := VsAt.get is rows HV.out p hl1
                    obtain ⟨d, hvd, hdd⟩ := VsAt.get is' rows' HV'.out p hl2
                    obtain ⟨c0, c1, c2, c3, c4, c5, rfl⟩ := six hvc.length
                    obtain ⟨d0, d1, d2, d3, d4, d5, rfl⟩ := six hvd.length
                    have gx : ∀ q u, q < 6 → [c0, c1, c2, c3, c4, c5][q]? = some u → wr.cell? ⟨ib, io + p * 6 + q, none⟩ = some u := fun q u hq hu => by
                      rw [Nat.add_assoc]
                      exact (HWQ.out.cell (p := ⟨ib, io + (p * 6 + q), none⟩) hib).trans (hic _ _ ((hcc q hq).trans hu))
                    have gy : ∀ q u, q < 6 → [d0, d1, d2, d3, d4, d5][q]? = some u → wr.cell? ⟨ib', io' + p * 6 + q, none⟩ = some u := fun q u hq hu => by
                      rw [Nat.add_assoc]
                      exact (HWQ.out.cell (p := ⟨ib', io' + (p * 6 + q), none⟩) hib').trans (hic' _ _ ((hdd q hq).trans hu))
                    have u0 : wr.cell? ⟨ib, io + p * 6, none⟩ = some c0 := gx 0 c0 (by omega) rfl
                    have u1 := gx 1 c1 (by omega) rfl
                    have u2 := gx 2 c2 (by omega) rfl
                    have u3 := gx 3 c3 (by omega) rfl
                    have u4 := gx 4 c4 (by omega) rfl
                    have u5 := gx 5 c5 (by omega) rfl
                    have v0 : wr.cell? ⟨ib', io' + p * 6, none⟩ = some d0 := gy 0 d0 (by omega) rfl
                    have v1 := gy 1 d1 (by omega) rfl
                    have v2 := gy 2 d2 (by omega) rfl
                    have v3 := gy 3 d3 (by omega) rfl
                    have v4 := gy 4 d4 (by omega) rfl
                    have v5 := gy 5 d5 (by omega) rfl
                    have hst := Lib.hid (cmps_step is is' p hl1 hl2)
                    have hsz : SizeOf.sizeOf is[p] < N := by
                      have h1 := size_item (k := k) (b := b) (n := n) (t := t) (ks := ks) (List.getElem_mem hl1)
                      have h2 := HN.out
                      omega
                    have CI : Hid (∀ wz, Below w.heap.size w wz → Calls Tryz.prog 32 #[.agg #[c0, c1, c2, c3, c4, c5], .agg #[d0, d1, d2, d3, d4, d5]] wz fun e w' => e = .returned (.int .i64 (V.cmp is[p] is'[p])) ∧ Below wz.heap.size wz w') :=
                      fun wz hz => HIH.out is[p] hsz is'[p] _ _ wz (hvc.keep hz) (hvd.keep hz)
                    clear gx gy hvc hvd hcc hdd hic hic' hib hib' hsz
                    generalize V.cmp is[p] is'[p] = z at *
                    go_wp2_with fail
                    go_still_tail 10, (by kernel_rfl)
                    go_wp2_with fail
                    refine (CI.out _ HWQ.out.drew).mono ?_
                    rintro e w9 ⟨rfl, hb9⟩
                    have HW9 : Hid (Below w.heap.size w w9) := HWQ.out.drew.trans (hb9.mono HWQ.out.size)
                    have HB9 : Hid (Below wo.heap.size wo w9) := HBQ.out.drew.trans (hb9.mono HBQ.out.size)
                    clear hb9 u0 u1 u2 u3 u4 u5 v0 v1 v2 v3 v4 v5 x4 y4
                    by_cases hz : z = 0
                    · subst hz
                      go_wp2_with fail
                      go_roundw
                      case rel => exact ⟨p + 1, by omega, by omega, by go_num, by have h := HP.out; rw [hst.out] at h; simpa [lex, Hid] using h, HB9.out⟩
                      case measure => simp [intOf]; omega
                    · have hz' : (z != 0) = true := by rw [bne_iff_ne]; exact hz
                      have HRZ : Hid (R = z) := by
                        have h := HP.out
                        rw [hst.out] at h
                        show R = z
                        rw [← h]; simp [lex, hz]
                      clear hz
                      go_wp2_with fail
                      go_ret
                      exact ⟨by rw [HRZ.out]; rfl, HW9.out⟩
                  · have hkc := sgn_lens is is' p hp hp' hl V.cmp
                    rw [← cmps_lexL] at hkc
                    have HP2 : Hid (sgn is.length is'.length = R) := by have h := HP.out; rw [hkc] at h; exact h
                    have CT : Hid (∀ w, Calls Tryz.prog 62 #[.int .i64 (is.length : Int), .int .i64 (is'.length : Int)] w fun e w' => e = .returned (.int .i64 R) ∧ w = w') := fun w => by have h := sign_any is.length is'.length w; rw [HP2.out] at h; exact h
                    have tests2 : decide (p < is.length) = false ∨ (decide (p < is.length) = true ∧ decide (p < is'.length) = false) := by
                      by_cases h1 : p < is.length
                      · exact .inr ⟨decide_eq_true h1, decide_eq_false (fun h2 => hl ⟨h1, h2⟩)⟩
                      · exact .inl (decide_eq_false h1)
                    clear hkc hl HP HP2
                    rcases tests2 with t3 | ⟨t3, t4⟩
                    all_goals
                      go_wp2_with (go_at_call 62; ((with_reducible refine (CT.out _).mono ?_); rintro e w' ⟨rfl, rfl⟩))
                      go_ret
                      exact ⟨rfl, HWQ.out⟩
            · have hz' : (z != 0) = true := by rw [bne_iff_ne]; exact hz
              have HRZ : Hid (R = z) := by
                have h := HJ2.out
                show R = z
                rw [← h]; simp [lex, hz]
              clear hz HJ2
              rcases tests with t1 | ⟨t1, t2⟩
              all_goals
                go_wp2_with (go_at_call 62; ((with_reducible refine (CS.out _).mono ?_); rintro e w' ⟨rfl, rfl⟩))
                go_ret
                exact ⟨by rw [HRZ.out]; rfl, HW.out⟩
end Go.Proofs.YtgalcdolhnckmaaGreatDoor
