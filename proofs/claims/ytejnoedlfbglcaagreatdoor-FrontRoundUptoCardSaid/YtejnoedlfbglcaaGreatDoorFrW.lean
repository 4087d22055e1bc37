/- conf.cutLine; conf.Join; conf.Front of what was put together. Conditions: strings of at most 2^30 bytes; the cells of MaxLen, strconv.ErrRange and of the powers of ten. · conf.Front of a body without settings, and of what was put together. Conditions: at most 20000 bytes; the cells of MaxLen and strconv.ErrRange. · FrontRound: the walk. Conditions: how many values the value has, how long the rest is; the cells of MaxLen, strconv.ErrRange and of the powers of ten. -/
import Derived.Test.YtejnoedlfbglcaaGreatDoorRoW
import Derived.Test.YtejnoedlfbglcaaGreatDoorFrP
namespace Go.Proofs.YtejnoedlfbglcaaGreatDoor
open Go.RowKit Mh
set_option linter.unusedVariables false
theorem cutLine_any (s : ByteArray) (hs : s.size ≤ 1073741824) (m : Int) (w : World) (hm : w.cell? ⟨1, 0, none⟩ = some (.int .i64 m)) :
    Calls Tryz.prog 36 #[.string s] w fun e w' => ∃ (a b : ByteArray) (n : Nat), e = .returned (.tuple #[.string a, .string b]) ∧ w' = w.drewN n ∧ Hid (a.data.toList = (lineL s.data.toList).1 ∧ b.data.toList = (lineL s.data.toList).2) := by
  have HC : Hid (Calls Tryz.prog 54 #[.string s, .string ⟨#[10]⟩] w fun e w' => ∃ (a b : ByteArray) (c : Bool) (n : Nat), e = .returned (.tuple #[.string a, .string b, .bool c]) ∧ w' = w.drewN n ∧ Hid (a.data.toList = (lineL s.data.toList).1 ∧ b.data.toList = (lineL s.data.toList).2)) := by
    refine (Tryz.strings_Cut s ⟨#[10]⟩ m w (by omega) hm).mono ?_
    rintro e w' ⟨rfl, n, rfl⟩
    obtain ⟨h1, h2⟩ := cut_line s.data.toList
    exact ⟨_, _, _, n, rfl, rfl, by rw [← h1], by rw [← h2]⟩
  go_enter Tryz.func36, Tryz.ntmps36
  go_wp2_with (go_at_call 54; refine HC.out.mono ?_; rintro e w' ⟨a, b, c, n, rfl, rfl, HQ⟩)
  go_ret2
  exact ⟨a, b, n, rfl, rfl, HQ⟩
noncomputable def joinedF (v : V) (rest : List UInt8) : List UInt8 := [37, 37, 37, 10] ++ (printF v ++ ([37, 37, 37, 10] ++ rest))
noncomputable def joinF (v : V) (rest : List UInt8) : List UInt8 := if v.kys ≠ [] ∨ (lineL rest).1 = [37, 37, 37] then joinedF v rest else rest
theorem joined_bytes {t s : ByteArray} {X : V} (h : t.data.toList = printF X) : (⟨#[37, 37, 37, 10]⟩ ++ t ++ ⟨#[37, 37, 37]⟩ ++ ⟨#[10]⟩ ++ s : ByteArray).data.toList = joinedF X s.data.toList ∧ (⟨#[37, 37, 37, 10]⟩ ++ t ++ ⟨#[37, 37, 37]⟩ ++ ⟨#[10]⟩ ++ s : ByteArray).size = 4 + t.size + 3 + 1 + s.size := by
  unfold joinedF
  rw [← h]
  refine ⟨by simp [ByteArray.data_append], ?_⟩
  simp only [ByteArray.size_append]
  rfl
set_option maxRecDepth 100000 in
set_option maxHeartbeats 16000000 in
theorem join_any (X : V) (cs : List Value) (s : ByteArray) (hs : s.size ≤ 1073741824) (m : Int) (w : World) (hm : w.cell? ⟨1, 0, none⟩ = some (.int .i64 m)) (ht : Tab10 w) (hX : VAt w X cs) (hn : X.nodes ≤ 2097152) :
    Calls Tryz.prog 14 #[.agg cs.toArray, .string s] w fun e w' => (∃ (o : ByteArray) (r : Int), e = .returned (.tuple #[.string o, .int .i64 r]) ∧
      ((r = 0 ∧ X.okc ∧ X.kd = 6 ∧ (printF X).length ≤ 50000 ∧ o.data.toList = joinF X s.data.toList ∧ o.size ≤ 20000) ∨ (r ≠ 0 ∧ o = ⟨#[]⟩))) ∧ Below w.heap.size w w' := by
  have hmz : 1 < w.heap.size := World.block_lt_of_cell? w _ hm
  have C1 := Lib.hid (fun w' (hb : Below w.heap.size w w') => print_any X (by omega) hX.rng cs w' (hX.keep hb) (ht.next hb))
  have C2 := Lib.hid (fun w' (hb : Below w.heap.size w w') => cutLine_any s hs m w' ((hb.cell hmz).trans hm))
  obtain ⟨xa, xc, xk, xkc, rfl, _⟩ := hX.opened
  have HB0 : Hid (Below w.heap.size w (w.alloc (box6 X xa xc xk xkc))) := below_alloc _ _
  have HX0 : Hid ((w.alloc (box6 X xa xc xk xkc)).heap[w.heap.size]? = some (box6 X xa xc xk xkc)) := heap_alloc_new _ _
  have HS0 : Hid ((w.alloc (box6 X xa xc xk xkc)).heap.size = w.heap.size + 1) := by show _ = _; simp
  have CP := Lib.hid (C1.out _ HB0.out)
  unfold box6 at HB0 HX0 CP HS0
  obtain ⟨q0, q1, q2, q3, q4, q5⟩ := six_of_block HX0.out
  rw [vcs_arr] at CP ⊢
  clear hX ht C1 hm
  go_enter Tryz.func14, Tryz.ntmps14
  go_wp2_with fail
  refine CP.out.mono ?_
  rintro e w2 ⟨⟨t, r, rfl, hway⟩, hb2⟩
  have HB2 : Hid (Below w.heap.size w w2) := HB0.out.trans (hb2.mono HB0.out.size)
  have HX2 := Lib.hid ((hb2.block _ (by rw [HS0.out]; omega)).trans HX0.out)
  clear hb2 HB0 HX0 CP HS0 q0 q1 q2 q3 q4 q5
  obtain ⟨q0, q1, q2, q3, q4, q5⟩ := six_of_block HX2.out
  rcases hway with ⟨rfl, hok, h6, hlen, hts⟩ | ⟨hr, rfl, _⟩
  · have htz : t.size ≤ 50000 := by rw [← hts, Array.length_toList] at hlen; exact hlen
    have HOK := Lib.hid (And.intro hok (And.intro h6 (And.intro hlen hts)))
    have HC : Hid (Calls Tryz.prog 36 #[.string s] w2 fun e w' => ∃ (a b : ByteArray) (n : Nat), e = .returned (.tuple #[.string a, .string b]) ∧ w' = w2.drewN n ∧ (a.toList == [37, 37, 37]) = decide ((lineL s.data.toList).1 = [37, 37, 37])) := by
      refine (C2.out w2 HB2.out).mono ?_
      rintro e w' ⟨a, b, n, h1, h2, h3⟩
      refine ⟨a, b, n, h1, h2, ?_⟩
      rw [ByteArray.toList_eq, h3.out.1]
      rw [Bool.eq_iff_iff]; simp
    have HL := Lib.hid (And.intro hlen hts)
    clear hok h6 hlen hts C2
    by_cases hk : X.kys = []
    · have hkl : ¬ (0 : Int) < (X.kys.length : Int) := by rw [hk]; simp
      have HK := Lib.hid hk
      clear hk
      by_cases hbo : (lineL s.data.toList).1 = [37, 37, 37]
      · rw [decide_eq_true hbo] at HC
        have HJ : Hid (joinF X s.data.toList = joinedF X s.data.toList) := by show _ = _; unfold joinF; rw [if_pos (.inr hbo)]
        clear hbo
        by_cases hz : (20000 : Int) < 4 + t.size + 3 + 1 + s.size
        · go_wp2_with (go_at_call 36; refine HC.out.mono ?_; rintro e w3 ⟨a, b, n, rfl, rfl, hab⟩)
          go_ret2
          exact ⟨⟨_, _, rfl, .inr ⟨by decide, rfl⟩⟩, below_drewN HB2.out n⟩
        · go_wp2_with (go_at_call 36; refine HC.out.mono ?_; rintro e w3 ⟨a, b, n, rfl, rfl, hab⟩)
          go_ret2
          exact ⟨⟨_, _, rfl, .inl ⟨rfl, HOK.out.1, HOK.out.2.1, HL.out.1, (joined_bytes HL.out.2).1.trans HJ.out.symm, by have := (joined_bytes (X := X) (s := s) HL.out.2).2; omega⟩⟩, below_drewN HB2.out n⟩
      · rw [decide_eq_false hbo] at HC
        have HJ : Hid (joinF X s.data.toList = s.data.toList) := by show _ = _; unfold joinF; rw [if_neg (by rw [HK.out]; simpa using hbo)]
        clear hbo
        by_cases hz : (20000 : Int) < s.size
        · go_wp2_with (go_at_call 36; refine HC.out.mono ?_; rintro e w3 ⟨a, b, n, rfl, rfl, hab⟩)
          go_ret2
          exact ⟨⟨_, _, rfl, .inr ⟨by decide, rfl⟩⟩, below_drewN HB2.out n⟩
        · go_wp2_with (go_at_call 36; refine HC.out.mono ?_; rintro e w3 ⟨a, b, n, rfl, rfl, hab⟩)
          go_ret2
          exact ⟨⟨_, _, rfl, .inl ⟨rfl, HOK.out.1, HOK.out.2.1, HL.out.1, HJ.out.symm, by omega⟩⟩, below_drewN HB2.out n⟩
    · have hkl : 0 < X.kys.length := List.length_pos_iff.2 hk
      have HJ : Hid (joinF X s.data.toList = joinedF X s.data.toList) := by show _ = _; unfold joinF; rw [if_pos (.inl hk)]
      clear hk
      by_cases hz : (20000 : Int) < 4 + t.size + 3 + 1 + s.size
      · go_wp2_with (go_at_call 36; refine HC.out.mono ?_; rintro e w3 ⟨a, b, n, rfl, rfl, hab⟩)
        go_ret2
        exact ⟨⟨_, _, rfl, .inr ⟨by decide, rfl⟩⟩, below_drewN HB2.out n⟩
      · go_wp2_with (go_at_call 36; refine HC.out.mono ?_; rintro e w3 ⟨a, b, n, rfl, rfl, hab⟩)
        go_ret2
        exact ⟨⟨_, _, rfl, .inl ⟨rfl, HOK.out.1, HOK.out.2.1, HL.out.1, (joined_bytes HL.out.2).1.trans HJ.out.symm, by have := (joined_bytes (X := X) (s := s) HL.out.2).2; omega⟩⟩, below_drewN HB2.out n⟩
  · have hq : (r != 0) = true := by rw [bne_iff_ne]; exact hr
    clear C2
    go_wp2_with fail
    go_ret2
    exact ⟨⟨_, _, rfl, .inr ⟨hr, rfl⟩⟩, HB2.out⟩
end Go.Proofs.YtejnoedlfbglcaaGreatDoor
namespace Mh
open Go
set_option linter.unusedVariables false
/-- What is left of a joined body: lines of settings, a border, the rest. -/
def leftF (P R : List UInt8) : List UInt8 := P ++ ([37, 37, 37, 10] ++ R)
theorem left_ne (P R : List UInt8) : leftF P R ≠ [] := by unfold leftF; cases P <;> simp
theorem left_end (R : List UInt8) : lineL (leftF [] R) = ([37, 37, 37], R) := lineL_app [37, 37, 37] R (by decide)
theorem left_line (a b R : List UInt8) (h : (10 : UInt8) ∉ a) : lineL (leftF (a ++ 10 :: b) R) = (a, leftF b R) := by
  have : leftF (a ++ 10 :: b) R = a ++ 10 :: leftF b R := by unfold leftF; simp
  rw [this]; exact lineL_app a _ h
theorem NoB.split {P : List UInt8} (h : NoB P) : P = [] ∨ ∃ a b, P = a ++ 10 :: b ∧ (10 : UInt8) ∉ a ∧ a ≠ [37, 37, 37] ∧ NoB b := by
  cases h with
  | nil => exact .inl rfl
  | line a b h1 h2 h3 => exact .inr ⟨a, b, rfl, h1, h2, h3⟩
theorem extract_data (b : ByteArray) (n : Nat) : (b.extract 0 n).data.toList = (b.data.toList.drop 0).take n := by
  rw [ByteArray.data_extract]; simp
theorem left_len (P R : List UInt8) : (leftF P R).length = P.length + 4 + R.length := by unfold leftF; simp; omega
end Mh
namespace Go.Proofs.YtejnoedlfbglcaaGreatDoor
open Go.RowKit Mh
set_option linter.unusedVariables false
/-- What Front gives where nothing is wrong. -/
def FrontP (X : V) (rest : List UInt8) (w : World) (e : Ending) (w' : World) : Prop := ∃ (cs : List Value) (m : ByteArray) (l c : Int), e = .returned (.tuple #[.agg cs.toArray, .string m, .agg #[.int .i64 l, .int .i64 c], .int .i64 0]) ∧ Below w.heap.size w w' ∧ VAt (veil (oldS w) w') X cs ∧ m.data.toList = rest
structure FrIn (w : World) (P R : List UInt8) (u : ByteArray) (wr : World) (Q P' : List UInt8) : Prop where
  below : Below w.heap.size w wr
  r0 : wr.heap[w.heap.size]? = some box0
  r1 : wr.heap[w.heap.size + 1]? = some pos0
  eq : P = Q ++ P'
  nob : NoB P'
  left : u.data.toList = leftF P' R
def strSize : Value → Nat | .string u => u.size | _ => 0
def tcs : List Value := [.int .i64 6, .bool false, .int .i64 0, .string ⟨#[]⟩, .slice none 0 0, .slice none 0 0]
def tableV : V := .mk 6 false 0 ⟨#[]⟩ [] []
theorem tcs_at (w : World) : VAt w tableV tcs := VAt.made (X := tableV) rfl rfl (Nat.zero_le _) ⟨⟨rfl, .inl ⟨rfl, none, 0, rfl⟩⟩, by simp [V.kys, tableV]⟩ (rows := []) ⟨rfl, .inl ⟨rfl, none, 0, rfl⟩⟩ (by simp [VsAt, V.its, tableV])
set_option maxRecDepth 100000 in
set_option maxHeartbeats 16000000 in
theorem front_bare (s : ByteArray) (hs : s.size ≤ 20000) (hb : (lineL s.data.toList).1 ≠ [37, 37, 37]) (m : Int) (w : World) (hm : w.cell? ⟨1, 0, none⟩ = some (.int .i64 m)) :
    Calls Tryz.prog 15 #[.string s] w (FrontP tableV s.data.toList w) := by
  have hmz : 1 < w.heap.size := World.block_lt_of_cell? w _ hm
  have hl2 : ¬ (20000 : Int) < s.size := by omega
  have HB : Hid (Below w.heap.size w ((w.alloc box0).alloc pos0)) := ((Below.refl _ _).alloc (Nat.le_refl _) _).alloc (by simp) _
  have HC : Hid (Calls Tryz.prog 36 #[.string s] ((w.alloc box0).alloc pos0) fun e w' => ∃ (a b : ByteArray) (n : Nat), e = .returned (.tuple #[.string a, .string b]) ∧ w' = ((w.alloc box0).alloc pos0).drewN n ∧ (a.toList == [37, 37, 37]) = false) := by
    refine (cutLine_any s (by omega) m _ ((HB.out.cell hmz).trans hm)).mono ?_
    rintro e w' ⟨a, b, n, h1, h2, h3⟩
    refine ⟨a, b, n, h1, h2, ?_⟩
    rw [ByteArray.toList_eq, h3.out.1]
    exact beq_false_of_ne hb
  have HR0 : Hid (((w.alloc box0).alloc pos0).heap[w.heap.size]? = some box0) := (heap_alloc_old _ _ (by simp)).trans (heap_alloc_new _ _)
  have HR1 : Hid (((w.alloc box0).alloc pos0).heap[w.heap.size + 1]? = some pos0) := heap_new_at (by simp)
  unfold box0 pos0 at HC HB HR0 HR1
  clear hb hm
  go_enter Tryz.func15, Tryz.ntmps15
  go_wp2_with (go_at_call 36; refine HC.out.mono ?_; rintro e w' ⟨a, b, n, rfl, rfl, hab⟩)
  have hfin := par_done (X := tableV) (cs := tcs) (w1 := ((w.alloc (.cells #[.int .i64 0, .bool false, .int .i64 0, .string ⟨#[]⟩, .slice none 0 0, .slice none 0 0] 29)).alloc (.cells #[.int .i64 0, .int .i64 0] 40))) (below_drewN HB.out n) HR0.out HR1.out (tcs_at _) (by simp) (.int .i64 6) (.bool false) (.int .i64 0) (.string ⟨#[]⟩) (.slice none 0 0) (.slice none 0 0) (.int .i64 0) (.int .i64 0)
  unfold put2 put6 at hfin
  generalize hwf : World.setCell _ _ _ = wf at hfin ⊢
  clear hwf HR0 HR1
  obtain ⟨s0, s1, s2, s3, s4, s5⟩ := six_of_block hfin.1
  obtain ⟨u0, u1, _, _⟩ := two_open hfin.2.1
  exact bodyPost_ret (v := .tuple #[.agg tcs.toArray, .string s, .agg #[.int .i64 0, .int .i64 0], .int .i64 0]) (by simp [results, Tryz.results15, go_sem, tcs, s0, s1, s2, s3, s4, s5, u0, u1] <;> rfl) rfl ⟨_, _, _, _, rfl, hfin.2.2.1, hfin.2.2.2, rfl⟩
set_option maxRecDepth 100000 in
set_option maxHeartbeats 16000000 in
theorem front_set (s : ByteArray) (hs : s.size ≤ 20000) (X : V) (P R : List UInt8) (he : s.data.toList = [37, 37, 37, 10] ++ leftF P R) (hP : NoB P) (hX : parseF P = some X) (m : Int) (w : World) (hm : w.cell? ⟨1, 0, none⟩ = some (.int .i64 m)) (hev : EvAt w) :
    Calls Tryz.prog 15 #[.string s] w (FrontP X R w) := by
  have hmz : 1 < w.heap.size := World.block_lt_of_cell? w _ hm
  have hl2 : ¬ (20000 : Int) < s.size := by omega
  have h3 := hev.size
  have HB : Hid (Below w.heap.size w ((w.alloc box0).alloc pos0)) := ((Below.refl _ _).alloc (Nat.le_refl _) _).alloc (by simp) _
  have C2 := Lib.hid (fun (u : ByteArray) (hu : u.size ≤ 20000) w' (hb : Below w.heap.size w w') => cutLine_any u (by omega) m w' ((hb.cell hmz).trans hm))
  have C3 := Lib.hid (fun (u : ByteArray) (hu : u.size ≤ 20000) w' (hb : Below w.heap.size w w') => parse_any u (by unfold maxLen; omega) w' (hev.keep hb h3))
  have HR0 : Hid (((w.alloc box0).alloc pos0).heap[w.heap.size]? = some box0) := (heap_alloc_old _ _ (by simp)).trans (heap_alloc_new _ _)
  have HR1 : Hid (((w.alloc box0).alloc pos0).heap[w.heap.size + 1]? = some pos0) := heap_new_at (by simp)
  have HL1 : lineL s.data.toList = ([37, 37, 37], leftF P R) := by rw [he]; exact lineL_app [37, 37, 37] (leftF P R) (by decide)
  have hslen : s.size = 4 + (leftF P R).length := by
    have := congrArg List.length he
    rw [Array.length_toList, List.length_append] at this
    exact this
  have HC : Hid (Calls Tryz.prog 36 #[.string s] ((w.alloc box0).alloc pos0) fun e w' => ∃ (a b : ByteArray) (n : Nat), e = .returned (.tuple #[.string a, .string b]) ∧ w' = ((w.alloc box0).alloc pos0).drewN n ∧ (a.toList == [37, 37, 37]) = true ∧ Hid (b.data.toList = leftF P R)) := by
    refine (C2.out s hs _ HB.out).mono ?_
    rintro e w' ⟨a, b, n, h1, h2, h3⟩
    rw [HL1] at h3
    refine ⟨a, b, n, h1, h2, ?_, h3.out.2⟩
    rw [ByteArray.toList_eq, h3.out.1]
    rfl
  have HSL := Lib.hid hslen
  have HXP := Lib.hid hX
  have HPN := Lib.hid hP
  unfold box0 pos0 at HC HB HR0 HR1
  clear hm hev he HL1 hslen hP hX
  go_enter Tryz.func15, Tryz.ntmps15
  go_wp2_with (go_at_call 36; refine HC.out.mono ?_; rintro e w' ⟨a, b, n, rfl, rfl, hab, HQ⟩)
  have HQ0 := Lib.hid (HSL.out)
  have HST : Hid (b.data.toList = leftF P R ∧ b.size ≤ 20000) := ⟨HQ.out, by have h := congrArg List.length HQ.out; rw [Array.length_toList] at h; have h2 := HSL.out; have h3 : b.size = (leftF P R).length := h; omega⟩
  have HL0 : Hid (FrIn w P R b ((w.alloc (.cells #[.int .i64 0, .bool false, .int .i64 0, .string ⟨#[]⟩, .slice none 0 0, .slice none 0 0] 29)).alloc (.cells #[.int .i64 0, .int .i64 0] 40) |>.drewN n) [] P) := ⟨below_drewN HB.out n, HR0.out, HR1.out, rfl, HPN.out, HQ.out⟩
  generalize World.drewN _ n = W0 at HL0 ⊢
  clear HB HC HR0 HR1 HSL HPN HQ0 HQ hab
  go_loopw [6, 7, 9] (fun v6 v7 v9 wr => ∃ (u : ByteArray) (Q P' : List UInt8), v7 = .string u ∧ Hid (FrIn w P R u wr Q P')) (fun v6 v7 v9 wr => strSize v7)
  case atStart => exact ⟨b, [], P, rfl, HL0⟩
  case round =>
    clear HL0
    obtain ⟨u, Q, P', rfl, HI⟩ := hrel
    have hu := HI.out.left
    have hul : u.size = P'.length + 4 + R.length := by have h := congrArg List.length hu; rw [Array.length_toList, left_len] at h; exact h
    have hbl : b.size = P.length + 4 + R.length := by have h := congrArg List.length HST.out.1; rw [Array.length_toList, left_len] at h; exact h
    have hPQ : P.length = Q.length + P'.length := by have := congrArg List.length HI.out.eq; rw [List.length_append] at this; exact this
    have hbz := HST.out.2
    have hne : (u.toList == []) = false := by rw [ByteArray.toList_eq, hu]; exact beq_false_of_ne (left_ne _ _)
    have HC0 := Lib.hid (C2.out u (by omega) wr HI.out.below)
    rcases HI.out.nob.split with rfl | ⟨a', b', rfl, h10, hna, hnb⟩
    · have HC : Hid (Calls Tryz.prog 36 #[.string u] wr fun e w' => ∃ (a b : ByteArray) (n : Nat), e = .returned (.tuple #[.string a, .string b]) ∧ w' = wr.drewN n ∧ (a.toList == [37, 37, 37]) = true ∧ Hid (b.data.toList = R)) := by
        refine HC0.out.mono ?_
        rintro e w' ⟨a, b, n, h1, h2, h3⟩
        rw [hu, left_end] at h3
        refine ⟨a, b, n, h1, h2, ?_, h3.out.2⟩
        rw [ByteArray.toList_eq, h3.out.1]
        rfl
      have hsub : ((b.size : Int) - (u.size : Int)) = ((P.length : Nat) : Int) := by simp at hPQ hul; omega
      have hPL : P.length ≤ b.size := by omega
      have hwr : wrap64 ((P.length : Nat) : Int) = ((P.length : Nat) : Int) := IntWalk.wrap64_in _ (by omega)
      have HE : Hid ((b.extract 0 P.length).data.toList = P) := by show _ = _; rw [extract_data, List.drop_zero, HST.out.1]; unfold leftF; simp
      have HP : Hid (∀ w', Below w.heap.size w w' → Calls Tryz.prog 12 #[.string (b.extract 0 P.length)] w' (ParseP (some X) w')) := fun w' hb => by
        have h := C3.out (b.extract 0 P.length) (by rw [ByteArray.size_extract]; omega) w' hb
        rw [HE.out, HXP.out] at h
        exact h
      clear hu hul hbl hPQ hbz HC0 C2 C3
      go_wp2_with (go_at_call 36; refine HC.out.mono ?_; rintro e w' ⟨a, b, n, rfl, rfl, hab, HQ⟩)
      have HBW : Hid (Below w.heap.size w (wr.drewN n)) := below_drewN HI.out.below n
      have HR0 : Hid ((wr.drewN n).heap[w.heap.size]? = some box0) := HI.out.r0
      have HR1 : Hid ((wr.drewN n).heap[w.heap.size + 1]? = some pos0) := HI.out.r1
      have HP1 := Lib.hid (HP.out _ HBW.out)
      have hz0 : w.heap.size + 1 < (wr.drewN n).heap.size := (Array.getElem?_eq_some_iff.1 HR1.out).1
      clear HI HP HC hab
      generalize World.drewN wr n = w2 at HBW HR0 HR1 HP1 hz0 ⊢
      refine HP1.out.mono ?_
      rintro e w3 ⟨Y, ds, l, c, z, rfl, hb3, hv3, rfl, rfl, rfl, rfl⟩
      obtain ⟨ya, yc, yk, ykc, rfl, _⟩ := hv3.opened
      rw [vcs_arr]
      have hz3 := hb3.size
      have hb4 : Below w3.heap.size w3 ((w3.alloc (box6 Y ya yc yk ykc)).alloc (.cells #[.int .i64 0, .int .i64 0] 40)) := (below_alloc _ _).alloc (by simp) _
      have hb24 : Below w2.heap.size w2 ((w3.alloc (box6 Y ya yc yk ykc)).alloc (.cells #[.int .i64 0, .int .i64 0] 40)) := hb3.trans (hb4.mono hb3.size)
      have HB4 : Hid (Below w.heap.size w ((w3.alloc (box6 Y ya yc yk ykc)).alloc (.cells #[.int .i64 0, .int .i64 0] 40))) := HBW.out.trans (hb24.mono (by omega))
      have HR4 := Lib.hid ((hb24.block _ (by omega)).trans HR0.out)
      have HR5 := Lib.hid ((hb24.block _ hz0).trans HR1.out)
      have HY4 : Hid (((w3.alloc (box6 Y ya yc yk ykc)).alloc (.cells #[.int .i64 0, .int .i64 0] 40)).heap[w3.heap.size]? = some (box6 Y ya yc yk ykc)) := (heap_alloc_old _ _ (by simp)).trans (heap_alloc_new _ _)
      have HV4 : Hid (VAt (veil (oldS w2) ((w3.alloc (box6 Y ya yc yk ykc)).alloc (.cells #[.int .i64 0, .int .i64 0] 40))) Y (vcs Y ya yc yk ykc)) := hv3.keeps (Keeps.veils (by simp; omega) fun k hk hs => ⟨hs, (heap_alloc_old _ _ (by simp; omega)).trans (heap_alloc_old _ _ hk)⟩)
      unfold box6 at HB4 HY4 HV4 HR4 HR5
      unfold box0 at HR4
      unfold pos0 at HR5
      obtain ⟨t0, t1, t2, t3, t4, t5⟩ := six_of_block HY4.out
      obtain ⟨d0, d1, d2, d3, d4, d5⟩ := six_of_block HR4.out
      obtain ⟨f0, f1, f2, f3, f4, f5⟩ := six_open HR4.out
      obtain ⟨y0, y1, g0, g1⟩ := two_open HR5.out
      clear hb3 hv3 hb4 hb24 HP1 HBW HR0 HR1
      go_wp2_with fail
      have hfin := par_done HB4.out HR4.out HR5.out HV4.out (by omega : w.heap.size + 2 ≤ w2.heap.size) (.int .i64 Y.kd) (.bool Y.bo) (.int .i64 Y.nu) (.string Y.tx) (.slice ya Y.its.length yc) (.slice yk Y.kys.length ykc) (.int .i64 0) (.int .i64 0)
      unfold put2 put6 at hfin
      generalize hwf : World.setCell _ _ _ = wf at hfin ⊢
      clear hwf t0 t1 t2 t3 t4 t5 d0 d1 d2 d3 d4 d5 f0 f1 f2 f3 f4 f5 y0 y1 g0 g1
      obtain ⟨s0, s1, s2, s3, s4, s5⟩ := six_of_block hfin.1
      obtain ⟨u0, u1, _, _⟩ := two_open hfin.2.1
      exact bodyPost_ret (v := .tuple #[.agg (vcs Y ya yc yk ykc).toArray, .string b, .agg #[.int .i64 0, .int .i64 0], .int .i64 0]) (by simp [results, Tryz.results15, go_sem, vcs, s0, s1, s2, s3, s4, s5, u0, u1] <;> rfl) rfl ⟨_, _, _, _, rfl, hfin.2.2.1, hfin.2.2.2, HQ.out⟩
    · have HC : Hid (Calls Tryz.prog 36 #[.string u] wr fun e w' => ∃ (a b : ByteArray) (n : Nat), e = .returned (.tuple #[.string a, .string b]) ∧ w' = wr.drewN n ∧ (a.toList == [37, 37, 37]) = false ∧ Hid (b.data.toList = leftF b' R)) := by
        refine HC0.out.mono ?_
        rintro e w' ⟨a, b, n, h1, h2, h3⟩
        rw [hu, left_line _ _ _ h10] at h3
        refine ⟨a, b, n, h1, h2, ?_, h3.out.2⟩
        rw [ByteArray.toList_eq, h3.out.1]
        exact beq_false_of_ne hna
      have HNB := Lib.hid hnb
      have hlt : b'.length < (a' ++ 10 :: b').length := by simp; omega
      clear hu hbl hPQ hbz HC0 C2 C3 h10 hna hnb
      go_wp2_with (go_at_call 36; refine HC.out.mono ?_; rintro e w' ⟨a, b, n, rfl, rfl, hab, HQ⟩)
      go_roundw
      case rel => exact ⟨b, Q ++ (a' ++ [10]), b', rfl, ⟨below_drewN HI.out.below n, HI.out.r0, HI.out.r1, by rw [HI.out.eq]; simp, HNB.out, HQ.out⟩⟩
      case measure =>
        show b.size < u.size
        have h := congrArg List.length HQ.out
        rw [Array.length_toList, left_len] at h
        have h2 : b.size = b'.length + 4 + R.length := h
        omega
end Go.Proofs.YtejnoedlfbglcaaGreatDoor
namespace Go.Proofs.YtejnoedlfbglcaaGreatDoor
open Go.RowKit Mh
set_option linter.unusedVariables false
theorem front_joined (X : V) (o : ByteArray) (R : List UInt8) (ho : o.data.toList = joinF X R) (hz : o.size ≤ 20000) (hok : X.okc) (h6 : X.kd = 6) (hr : X.rng) (hl : (printF X).length ≤ 50000) (m : Int) (w : World) (hm : w.cell? ⟨1, 0, none⟩ = some (.int .i64 m)) (hev : EvAt w) :
    Calls Tryz.prog 15 #[.string o] w (FrontP X R w) := by
  unfold joinF at ho
  split at ho
  · exact front_set o hz X (printF X) R (by rw [ho]; rfl) (print_noB hok.2.2 hr) (parse_print X hok h6 hr hl) m w hm hev
  · rename_i h
    have hk : X.kys = [] := by by_cases h1 : X.kys = []; exact h1; exact absurd (.inl h1) h
    have hb : (lineL R).1 ≠ [37, 37, 37] := fun h1 => h (.inr h1)
    have hX : X = tableV := bare_table hok.2.2 h6 hk
    subst hX
    rw [← ho] at hb ⊢
    exact front_bare o hz hb m w hm
set_option maxRecDepth 100000 in
set_option maxHeartbeats 16000000 in
theorem front_walk (X : V) (cs : List Value) (r : ByteArray) (hrz : r.size ≤ 1073741824) (m : Int) (w : World) (hm : w.cell? ⟨1, 0, none⟩ = some (.int .i64 m)) (hev : EvAt w) (ht : Tab10 w) (hX : VAt w X cs) (hn : X.nodes ≤ 2097152) :
    Calls Tryz.prog 6 #[.agg cs.toArray, .string r] w fun e w' => e = .returned (.bool true) ∧ Below w.heap.size w w' := by
  have h3 := hev.size
  have hmz : 1 < w.heap.size := World.block_lt_of_cell? w _ hm
  have HA := Lib.hid (fun w' => awakeConf_any w')
  have C1 := Lib.hid (fun w' (hb : Below w.heap.size w w') => join_any X cs r hrz m w' ((hb.cell hmz).trans hm) (ht.next hb) (hX.keep hb) hn)
  have C2 := Lib.hid (fun (o : ByteArray) (ho : o.data.toList = joinF X r.data.toList) (hz : o.size ≤ 20000) (hok : X.okc) (h6 : X.kd = 6) (hl : (printF X).length ≤ 50000) w' (hb : Below w.heap.size w w') => front_joined X o r.data.toList ho hz hok h6 hX.rng hl m w' ((hb.cell hmz).trans hm) (hev.keep hb h3))
  have CM := Lib.hid (fun (Y : V) (es fs' : List Value) w' (hY : VAt w' Y es) (hZ : VAt w' Y fs') => same_any Y Y es fs' w' hY hZ)
  simp only [cmp_same] at CM
  obtain ⟨xa, xc, xk, xkc, rfl, _⟩ := hX.opened
  have HB0 : Hid (Below w.heap.size w (w.alloc (box6 X xa xc xk xkc))) := below_alloc _ _
  have HX0 : Hid ((w.alloc (box6 X xa xc xk xkc)).heap[w.heap.size]? = some (box6 X xa xc xk xkc)) := heap_alloc_new _ _
  have HV0 := Lib.hid (hX.keep HB0.out)
  unfold box6 at HB0 HX0 HV0
  simp only [vcs_arr] at C1 ⊢
  clear hX hev ht hm
  go_enter Tryz.func6, Tryz.ntmps6
  go_wp2_with fail
  refine (HA.out _).mono ?_
  rintro e w1 ⟨rfl, hb1⟩
  have hX1 := (hb1.block _ (by simp)).trans HX0.out
  have HB1 : Hid (Below w.heap.size w w1) := HB0.out.trans (hb1.mono (by simp))
  have hz1 : w.heap.size < w1.heap.size := by have := hb1.size; simp at this; omega
  have HV1 := Lib.hid (HV0.out.keep hb1)
  obtain ⟨q0, q1, q2, q3, q4, q5⟩ := six_of_block hX1
  have HX1 := Lib.hid hX1
  clear hb1 hX1 HX0 HB0 HV0 HA
  go_wp2_with fail
  refine (C1.out _ HB1.out).mono ?_
  rintro e w2 ⟨⟨o, e0, rfl, hway⟩, hb2⟩
  have HB2 : Hid (Below w.heap.size w w2) := HB1.out.trans (hb2.mono (by omega))
  have HX2 := Lib.hid ((hb2.block _ hz1).trans HX1.out)
  have HV2 := Lib.hid (HV1.out.keep hb2)
  have hz2 : w.heap.size < w2.heap.size := by have := hb2.size; omega
  clear q0 q1 q2 q3 q4 q5 hb2 C1 HB1 HX1 HV1 hz1
  rcases hway with ⟨rfl, hok, h6, hlen, ho, hoz⟩ | ⟨hr, rfl⟩
  · have HP := Lib.hid (C2.out o ho hoz hok h6 hlen w2 HB2.out)
    clear ho hlen hok h6 C2
    go_wp2_with fail
    refine HP.out.mono ?_
    rintro e w3 ⟨ds, mo, l, c, rfl, hb3, hv3, hmo⟩
    obtain rfl : mo = r := by
      cases mo; cases r
      simp only [ByteArray.mk.injEq]
      exact Array.toList_inj.1 hmo
    replace hv3 := hv3.keeps (Keeps.bare _ _)
    obtain ⟨ya, yc, yk, ykc, rfl, _⟩ := hv3.opened
    rw [vcs_arr]
    have hz3 : w.heap.size < w3.heap.size := by have := hb3.size; omega
    have hb4 : Below w3.heap.size w3 ((w3.alloc (box6 X ya yc yk ykc)).alloc (.cells #[.int .i64 l, .int .i64 c] 40)) := (below_alloc _ _).alloc (by simp) _
    have hb24 : Below w2.heap.size w2 ((w3.alloc (box6 X ya yc yk ykc)).alloc (.cells #[.int .i64 l, .int .i64 c] 40)) := hb3.trans (hb4.mono hb3.size)
    have HB4 : Hid (Below w.heap.size w ((w3.alloc (box6 X ya yc yk ykc)).alloc (.cells #[.int .i64 l, .int .i64 c] 40))) := HB2.out.trans (hb24.mono (by omega))
    have HX4 := Lib.hid ((hb24.block _ hz2).trans HX2.out)
    have HY4 : Hid (((w3.alloc (box6 X ya yc yk ykc)).alloc (.cells #[.int .i64 l, .int .i64 c] 40)).heap[w3.heap.size]? = some (box6 X ya yc yk ykc)) := (heap_alloc_old _ _ (by simp)).trans (heap_alloc_new _ _)
    have CM4 := Lib.hid (CM.out X _ _ _ (hv3.keep hb4) (HV2.out.keep hb24))
    unfold box6 at HB4 HY4 CM4 HX4
    rw [vcs_arr, vcs_arr] at CM4
    obtain ⟨r0, r1, r2, r3, r4, r5⟩ := six_of_block HX4.out
    obtain ⟨t0, t1, t2, t3, t4, t5⟩ := six_of_block HY4.out
    clear hb3 hv3 hb4 hb24 HP HB2 HX2 HV2 CM
    go_wp2_with fail
    refine CM4.out.mono ?_
    rintro e w8 ⟨rfl, hb8⟩
    have HB8 : Hid (Below w.heap.size w w8) := HB4.out.trans (hb8.mono HB4.out.size)
    clear hb8 HB4 CM4 r0 r1 r2 r3 r4 r5 t0 t1 t2 t3 t4 t5
    go_wp2_with fail
    go_ret
    exact ⟨rfl, HB8.out⟩
  · have hq : (e0 != 0) = true := by rw [bne_iff_ne]; exact hr
    clear hr C2 CM
    go_wp2_with fail
    go_ret
    exact ⟨rfl, HB2.out⟩
end Go.Proofs.YtejnoedlfbglcaaGreatDoor
