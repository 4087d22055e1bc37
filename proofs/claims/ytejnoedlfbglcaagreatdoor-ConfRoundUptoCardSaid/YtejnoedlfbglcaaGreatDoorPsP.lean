/- conf.position. Conditions: a place within a string of at most 10^9 bytes. · conf.Parse: what it reads. Conditions: a string of at most 10^9 bytes; the variable strconv.ErrRange holds an error. -/
import Derived.Test.YtejnoedlfbglcaaGreatDoorPsL
import Derived.Test.YtejnoedlfbglcaaGreatDoorPsN
namespace Go.Proofs.YtejnoedlfbglcaaGreatDoor
open Go.RowKit Mh
set_option linter.unusedVariables false
def PosP (w : World) (e : Ending) (w' : World) : Prop := ∃ l c : Int, e = .returned (.agg #[.int .i64 l, .int .i64 c]) ∧ Below w.heap.size w w'
set_option maxHeartbeats 4000000 in
theorem position_any (s : ByteArray) (a : Int) (w : World) (h0 : 0 ≤ a) (h1 : a ≤ s.size) (hs : s.size ≤ 1000000000) : Calls Tryz.prog 32 #[.string s, .int .i64 a] w (PosP w) := by
  obtain ⟨n, rfl⟩ : ∃ n : Nat, a = (n : Int) := ⟨a.toNat, by omega⟩
  have C1 := Lib.hid (fun (u : ByteArray) w => Tryz.strings_Count_one u 10 w)
  have C2 := Lib.hid (fun (u : ByteArray) (hu : u.size < 4611686018427387904) w => Tryz.strings_LastIndexByte u 10 hu w)
  have hz : (s.extract 0 n).size ≤ 1000000000 := by
    have := ByteArray.size_extract (a := s) (b := 0) (e := n)
    omega
  go_enter Tryz.func32, Tryz.ntmps32
  go_wp2_with (first | (go_at_call 51; (with_reducible refine (C1.out _ _).mono ?_); rintro e w' ⟨rfl, rfl⟩) | (go_at_call 52; (with_reducible refine (C2.out _ (by omega) _).mono ?_); rintro e w' ⟨rfl, rfl⟩))
  generalize wrap64 (1 + _) = l
  generalize wrap64 _ = c
  exact bodyPost_ret (v := .agg #[.int .i64 l, .int .i64 c]) (by simp [results, Tryz.results32, go_sem]) rfl ⟨l, c, rfl, (Below.refl _ _).alloc (Nat.le_refl _) _⟩
end Go.Proofs.YtejnoedlfbglcaaGreatDoor
namespace Go.Proofs.YtejnoedlfbglcaaGreatDoor
open Go.RowKit Mh
set_option linter.unusedVariables false
theorem value_all : ∀ d, d ≤ 7 → ValueOk d := by
  intro d
  induction d with
  | zero => intro h; exact value_any 0 h (fun d' e => by omega) entries_no
  | succ d ih =>
    intro h
    have hv := ih (by omega)
    exact value_any (d + 1) h (fun d' e => by obtain rfl : d = d' := by omega
                                              exact ⟨list_any d (by omega) hv, entries_any d (by omega) hv⟩) entries_no
theorem ent_seven : EntOk 7 := entries_any 7 (by omega) (value_all 7 (by omega))
/-- What Parse gives. -/
def ParseP (o : Option V) (w : World) (en : Ending) (w' : World) : Prop := ∃ (X : V) (cs : List Value) (l c z : Int), en = .returned (.tuple #[.agg cs.toArray, .agg #[.int .i64 l, .int .i64 c], .int .i64 z]) ∧ Below w.heap.size w w' ∧ VAt (veil (oldS w) w') X cs ∧ match o with
  | some v => z = 0 ∧ l = 0 ∧ c = 0 ∧ X = v
  | none => z ≠ 0 ∧ X = V.nil
theorem parseF_long {l : List UInt8} (h : 50000 < l.length) : parseF l = none := by unfold parseF; rw [if_pos h]
theorem parseF_short {l : List UInt8} (h : ¬ 50000 < l.length) : parseF l = (match nextF false false l with
    | none => none
    | some (t, r) => (entriesF (valueF 7) false (r.length + 1) t r 1 (.mk 6 false 0 ⟨#[]⟩ [] [])).map (·.1)) := by
  unfold parseF; rw [if_neg h]
  cases nextF false false l with
  | none => rfl
  | some p =>
    obtain ⟨t, r⟩ := p
    simp only
    cases entriesF (valueF 7) false (r.length + 1) t r 1 (.mk 6 false 0 ⟨#[]⟩ [] []) with
    | none => rfl
    | some p => rfl
def pos0 : Obj := .cells #[.int .i64 0, .int .i64 0] 40 (0, 0)
def q00 : Ps := ⟨0, 0, 0, ⟨#[]⟩, 0, 0, 1⟩
theorem below_kept1 {w w1 w2 : World} {Q : Nat} (h : Below w.heap.size w w1) (hk : Kept [Q] w1 w2) (hQ : w.heap.size ≤ Q) : Below w.heap.size w w2 :=
  ⟨hk.os.trans h.os, hk.tape.trans h.tape, hk.output.trans h.output, Nat.le_trans h.size hk.size, fun k h1 => (hk.block k (Nat.lt_of_lt_of_le h1 h.size) (by simp; omega)).trans (h.block k h1)⟩
theorem two_open {w : World} {g : Nat} {T : TypeId} {a b : Value} (h : w.heap[g]? = some (.cells #[a, b] T (0, 0))) : w.cell? ⟨g, 0, none⟩ = some a ∧ w.cell? ⟨g, 1, none⟩ = some b ∧ w.frozen? ⟨g, 0, none⟩ = false ∧ w.frozen? ⟨g, 1, none⟩ = false :=
  ⟨cellT h rfl, cellT h rfl, frozenT h, frozenT h⟩
def put2 (w : World) (g : Nat) (a b : Value) : World := (w.setCell ⟨g, 0, none⟩ a).setCell ⟨g, 1, none⟩ b
theorem par_done {w w1 W : World} {X : V} {cs : List Value} {x0 x1 x2 x3 x4 x5 y0 y1 : Value} (hB : Below w.heap.size w W) (h0 : W.heap[w.heap.size]? = some (.cells #[x0, x1, x2, x3, x4, x5] 29 (0, 0))) (h1 : W.heap[w.heap.size + 1]? = some (.cells #[y0, y1] 40 (0, 0)))
    (hV : VAt (veil (oldS w1) W) X cs) (hz : w.heap.size + 2 ≤ w1.heap.size) (a b c d e f l m : Value) :
    (put2 (put6 W w.heap.size a b c d e f) (w.heap.size + 1) l m).heap[w.heap.size]? = some (.cells #[a, b, c, d, e, f] 29 (0, 0)) ∧ (put2 (put6 W w.heap.size a b c d e f) (w.heap.size + 1) l m).heap[w.heap.size + 1]? = some (.cells #[l, m] 40 (0, 0)) ∧
    Below w.heap.size w (put2 (put6 W w.heap.size a b c d e f) (w.heap.size + 1) l m) ∧ VAt (veil (oldS w) (put2 (put6 W w.heap.size a b c d e f) (w.heap.size + 1) l m)) X cs := by
  have hk : Kept [] w (put2 (put6 W w.heap.size a b c d e f) (w.heap.size + 1) l m) := by
    unfold put2 put6
    exact ((((((((Kept.of_below hB).setNew _ _ (Nat.le_refl _) _).setNew _ _ (Nat.le_refl _) _).setNew _ _ (Nat.le_refl _) _).setNew _ _ (Nat.le_refl _) _).setNew _ _ (Nat.le_refl _) _).setNew _ _ (Nat.le_refl _) _).setNew _ _ (Nat.le_succ _) _).setNew _ _ (Nat.le_succ _) _
  have hs : (put2 (put6 W w.heap.size a b c d e f) (w.heap.size + 1) l m).heap.size = W.heap.size := by unfold put2; simp [put6_size]
  have ho : ∀ k, k ≠ w.heap.size + 1 → (put2 (put6 W w.heap.size a b c d e f) (w.heap.size + 1) l m).heap[k]? = (put6 W w.heap.size a b c d e f).heap[k]? := fun k hk => by
    unfold put2; rw [heap_setCell_other _ _ _ _ hk, heap_setCell_other _ _ _ _ hk]
  have h1' : (put6 W w.heap.size a b c d e f).heap[w.heap.size + 1]? = some (.cells #[y0, y1] 40 (0, 0)) := (put6_other (by omega)).trans h1
  refine ⟨(ho _ (by omega)).trans (put6_at rfl h0), ?_, ⟨hk.os, hk.tape, hk.output, hk.size, fun k h => hk.block k h (by simp)⟩, ?_⟩
  · unfold put2
    have h2 : ((put6 W w.heap.size a b c d e f).setCell ⟨w.heap.size + 1, 0, none⟩ l).heap[w.heap.size + 1]? = some (.cells #[l, y1] 40 (0, 0)) := by rw [heap_setCell_same _ _ 0 _ _ _ h1']; rfl
    rw [heap_setCell_same _ _ 1 _ _ _ h2]; rfl
  · refine hV.keeps (Keeps.veils (by rw [hs]; exact Nat.le_refl _) fun k hk hsx => ?_)
    have := of_decide_eq_false hsx
    exact ⟨oldS_ge _ _ (by omega), (ho _ (by omega)).trans (put6_other (by omega))⟩
/-- What entries reads behind the first token. -/
theorem ent_after (s : ByteArray) (hs : s.size ≤ 1000000000) : ∃ o : Option (V × List UInt8 × Nat), (match nextF false false s.data.toList with
    | none => none
    | some (t, r) => (entriesF (valueF 7) false (r.length + 1) t r 1 (.mk 6 false 0 ⟨#[]⟩ [] [])).map (·.1)) = o.map (·.1) ∧
    ∀ (q1 : Ps) (Q : Nat) (w1 : World), PsAt Q 71 s q1 w1 → Scan s q00 q1 (nextF false false (s.data.toList.drop q00.i)) → EvAt w1 → 3 < Q →
      Calls Tryz.prog 31 #[.pointer (some ⟨Q, 0, none⟩), .int .i64 0, .int .i64 1] w1 (ValP 71 s o Q w1) := by
  have hd : s.data.toList.drop q00.i = s.data.toList := rfl
  have hlen : s.data.toList.length = s.size := Array.length_toList
  rw [hd]
  cases hn : nextF false false s.data.toList with
  | none =>
    refine ⟨none, rfl, fun q1 Q w1 hp hsc hev hQ => ?_⟩
    rw [← hn] at hsc
    obtain ⟨h1, h2, h3, h4⟩ := hsc.bad hn
    exact entries_no 1 0 Q _ s q1 w1 hp h1 h3 h4
  | some p =>
    obtain ⟨t, r⟩ := p
    refine ⟨entriesF (valueF 7) false (r.length + 1) t r 1 (.mk 6 false 0 ⟨#[]⟩ [] []), rfl, fun q1 Q w1 hp hsc hev hQ => ?_⟩
    rw [← hn] at hsc
    obtain ⟨h1, h2, h3, h4, h5⟩ := hsc.ok (by omega) hn
    have h := ent_seven false Q 71 s q1 t 1 w1 hp h1 h3 h4 h2 (by omega) hs hev hQ
    rw [h5] at h
    exact h
set_option maxRecDepth 100000 in
set_option maxHeartbeats 8000000 in
theorem parse_any (s : ByteArray) (hs0 : s.size ≤ maxLen) (w : World) (hev : EvAt w) : Calls Tryz.prog 12 #[.string s] w (ParseP (parseF s.data.toList) w) := by
  have h3 := hev.size
  have hlen : s.data.toList.length = s.size := Array.length_toList
  by_cases hlong : 50000 < s.size
  · have HF := Lib.hid (parseF_long (by omega : 50000 < s.data.toList.length))
    have hl2 : (50000 : Int) < s.size := by omega
    have HB : Hid (Below w.heap.size w ((w.alloc box0).alloc pos0)) := ((Below.refl _ _).alloc (Nat.le_refl _) _).alloc (by simp) _
    unfold box0 pos0 at HB
    clear hlen hlong hev
    go_enter Tryz.func12, Tryz.ntmps12
    go_wp2_with fail
    exact bodyPost_ret (v := .tuple #[.agg zv.toArray, .agg #[.int .i64 0, .int .i64 0], .int .i64 4]) (by simp [results, Tryz.results12, go_sem, zv]) rfl ⟨V.nil, zv, 0, 0, 4, rfl, HB.out, zv_at _, by rw [HF.out]; exact ⟨by decide, rfl⟩⟩
  · have hl2 : ¬ (50000 : Int) < s.size := by omega
    have hs9 : s.size ≤ 1000000000 := by omega
    obtain ⟨o, ho, HENT0⟩ := ent_after s hs9
    have HF := Lib.hid ((parseF_short (by omega : ¬ 50000 < s.data.toList.length)).trans ho)
    have HENT := Lib.hid HENT0
    have HP0 : Hid (PsAt (w.heap.size + 2) 71 s q00 (((w.alloc box0).alloc pos0).alloc (.cells (q00.row s) 71))) := heap_new_at (by simp)
    have HB : Hid (Below w.heap.size w (((w.alloc box0).alloc pos0).alloc (.cells (q00.row s) 71))) := (((Below.refl _ _).alloc (Nat.le_refl _) _).alloc (by simp) _).alloc (by simp; omega) _
    have HR0 : Hid ((((w.alloc box0).alloc pos0).alloc (.cells (q00.row s) 71)).heap[w.heap.size]? = some box0) := (heap_alloc_old _ _ (by simp; omega)).trans ((heap_alloc_old _ _ (by simp)).trans (heap_alloc_new _ _))
    have HR1 : Hid ((((w.alloc box0).alloc pos0).alloc (.cells (q00.row s) 71)).heap[w.heap.size + 1]? = some pos0) := (heap_alloc_old _ _ (by simp)).trans (heap_new_at (by simp))
    have HN := Lib.hid (next_at (w.heap.size + 2) 71 s q00 false _ HP0.out rfl (Nat.zero_le _) hs9)
    have HEV := Lib.hid (hev.keep HB.out h3)
    have HSZ : Hid ((((w.alloc box0).alloc pos0).alloc (.cells (q00.row s) 71)).heap.size = w.heap.size + 3) := by show _ = _; simp
    unfold box0 pos0 Ps.row at HP0 HB HR0 HR1 HN HEV HSZ
    dsimp only [q00] at HP0 HB HR0 HR1 HN HEV HSZ
    clear hlen hlong hev HENT0 ho
    go_enter Tryz.func12, Tryz.ntmps12
    go_wp2_with fail
    refine HN.out.mono ?_
    rintro e w1 ⟨q1, rfl, H1⟩
    have hz1 : w.heap.size + 3 ≤ w1.heap.size := by have := H1.out.2.1.size; rw [HSZ.out] at this; exact this
    have HC := Lib.hid (HENT.out q1 (w.heap.size + 2) w1 H1.out.1 H1.out.2.2 (HEV.out.kept H1.out.2.1 (by omega)) (by omega))
    have HR0 := Lib.hid ((H1.out.2.1.block w.heap.size (by rw [HSZ.out]; omega) (by simp)).trans HR0.out)
    have HR1 := Lib.hid ((H1.out.2.1.block (w.heap.size + 1) (by rw [HSZ.out]; omega) (by simp)).trans HR1.out)
    have HB1 : Hid (Below w.heap.size w w1) := below_kept1 HB.out H1.out.2.1 (by omega)
    clear H1 HN HEV HENT HP0 HB HSZ
    go_wp2_with fail
    refine HC.out.mono ?_
    rintro e w2 ⟨q2, X, cs, rfl, hp2, hk2, hv2, hans⟩
    obtain ⟨xa, xc, xk, xkc, rfl, _⟩ := hv2.opened
    rw [vcs_arr]
    have hz2 : w.heap.size + 3 ≤ w2.heap.size := by have := hk2.size; omega
    have HB3 : Hid (Below w.heap.size w (w2.alloc (box6 X xa xc xk xkc))) := (below_kept1 HB1.out hk2 (by omega)).alloc (by omega) _
    have HR2 := Lib.hid ((heap_alloc_old w2 (box6 X xa xc xk xkc) (by omega)).trans ((hk2.block w.heap.size (by omega) (by simp)).trans HR0.out))
    have HR3 := Lib.hid ((heap_alloc_old w2 (box6 X xa xc xk xkc) (by omega)).trans ((hk2.block (w.heap.size + 1) (by omega) (by simp)).trans HR1.out))
    have HP3 : Hid (PsAt (w.heap.size + 2) 71 s q2 (w2.alloc (box6 X xa xc xk xkc))) := (heap_alloc_old _ _ (by omega)).trans hp2
    have HX3 : Hid ((w2.alloc (box6 X xa xc xk xkc)).heap[w2.heap.size]? = some (box6 X xa xc xk xkc)) := heap_alloc_new _ _
    have HV3 : Hid (VAt (veil (oldS w1) (w2.alloc (box6 X xa xc xk xkc))) X (vcs X xa xc xk xkc)) := hv2.keeps (Keeps.veils (by simp) fun k hk hs => ⟨hs, heap_alloc_old _ _ hk⟩)
    have HS3 : Hid ((w2.alloc (box6 X xa xc xk xkc)).heap.size = w2.heap.size + 1) := by show _ = _; simp
    have HA := Lib.hid hans
    unfold box6 at HB3 HR2 HR3 HP3 HX3 HV3 HS3
    clear hans hp2 hk2 hv2 HR0 HR1 HB1 HC
    obtain ⟨c0, c1, c2, c3, c4, c5, c6, c7, fz⟩ := HP3.out.cells
    obtain ⟨x0, x1, x2, x3, x4, x5⟩ := six_of_block HX3.out
    obtain ⟨d0, d1, d2, d3, d4, d5⟩ := six_of_block HR2.out
    obtain ⟨f0, f1, f2, f3, f4, f5⟩ := six_open HR2.out
    obtain ⟨y0, y1, g0, g1⟩ := two_open HR3.out
    cases o with
    | some p =>
      obtain ⟨v, r, k⟩ := p
      obtain ⟨he, _, _, _, rfl⟩ := HA.out
      have be : (q2.e != 0) = false := by rw [bne_eq_false_iff_eq]; exact he
      clear he
      go_wp2_with fail
      have hfin := par_done HB3.out HR2.out HR3.out HV3.out (by omega : w.heap.size + 2 ≤ w1.heap.size) (.int .i64 X.kd) (.bool X.bo) (.int .i64 X.nu) (.string X.tx) (.slice xa X.its.length xc) (.slice xk X.kys.length xkc) (.int .i64 0) (.int .i64 0)
      unfold put2 put6 at hfin
      generalize hwf : World.setCell _ _ _ = wf at hfin ⊢
      clear hwf c0 c1 c2 c3 c4 c5 c6 c7 fz x0 x1 x2 x3 x4 x5 d0 d1 d2 d3 d4 d5 f0 f1 f2 f3 f4 f5 y0 y1 g0 g1
      obtain ⟨s0, s1, s2, s3, s4, s5⟩ := six_of_block hfin.1
      obtain ⟨u0, u1, _, _⟩ := two_open hfin.2.1
      exact bodyPost_ret (v := .tuple #[.agg (vcs X xa xc xk xkc).toArray, .agg #[.int .i64 0, .int .i64 0], .int .i64 0]) (by simp [results, Tryz.results12, go_sem, vcs, s0, s1, s2, s3, s4, s5, u0, u1] <;> rfl) rfl ⟨X, _, 0, 0, 0, rfl, hfin.2.2.1, hfin.2.2.2, by rw [HF.out]; exact ⟨rfl, rfl, rfl, rfl⟩⟩
    | none =>
      obtain ⟨he, h0, h1⟩ := HA.out
      have be : (q2.e != 0) = true := by rw [bne_iff_ne]; exact he
      clear he
      have HPO : Hid (∀ w', Calls Tryz.prog 32 #[.string s, .int .i64 q2.at_] w' (PosP w')) := fun w' => position_any s q2.at_ w' h0 h1 hs9
      go_wp2_with fail
      clear c0 c1 c2 c3 c4 c7 fz x0 x1 x2 x3 x4 x5 d0 d1 d2 d3 d4 d5 f0 f1 f2 f3 f4 f5 y0 y1 g0 g1 HX3 HV3 HP3
      generalize hW : w2.alloc (.cells #[.int .i64 X.kd, .bool X.bo, .int .i64 X.nu, .string X.tx, .slice xa X.its.length xc, .slice xk X.kys.length xkc] 29) = W at HB3 HR2 HR3 HS3 c5 c6 ⊢
      clear hW
      have HE := Lib.hid be
      have HT : Hid (∀ w', Below W.heap.size W w' → w'.cell? ⟨w.heap.size + 1 + 1, 6, none⟩ = some (.int .i64 q2.e) ∧ w'.heap[w.heap.size]? = W.heap[w.heap.size]? ∧ w'.heap[w.heap.size + 1]? = W.heap[w.heap.size + 1]?) := fun w' hb => by
        have hz : w.heap.size + 2 < W.heap.size := by have := HS3.out; omega
        exact ⟨(hb.cell (p := ⟨w.heap.size + 1 + 1, 6, none⟩) hz).trans c6, hb.block _ (by omega), hb.block _ (by omega)⟩
      obtain ⟨d0, d1, d2, d3, d4, d5⟩ := six_of_block HR2.out
      obtain ⟨f0, f1, f2, f3, f4, f5⟩ := six_open HR2.out
      obtain ⟨y0, y1, g0, g1⟩ := two_open HR3.out
      go_region_law (go_simp; go_at_call 32; (with_reducible refine (HPO.out _).mono ?_); rintro e w4 ⟨l, c, rfl, hb4⟩; have HB4 : Hid (Below W.heap.size W w4) := ((Below.refl _ W).drew).trans hb4; obtain ⟨c6', hr2, hr3⟩ := HT.out _ HB4.out; have HR2' := Lib.hid (hr2.trans HR2.out); have HR3' := Lib.hid (hr3.trans HR3.out); clear hr2 hr3 hb4; obtain ⟨e0, e1, e2, e3, e4, e5⟩ := six_of_block HR2'.out; obtain ⟨h0', h1', h2', h3', h4', h5'⟩ := six_open HR2'.out; obtain ⟨k0, k1, m0, m1⟩ := two_open HR3'.out)
      all_goals
        go_wp2_with fail
        have hfin := par_done (X := V.nil) (cs := zv) (w1 := w4) (HB3.out.trans (HB4.out.mono HB3.out.size)) HR2'.out HR3'.out (zv_at _) (by have := HB4.out.size; have := HS3.out; omega) (.int .i64 0) (.bool false) (.int .i64 0) (.string ⟨#[]⟩) (.slice none 0 0) (.slice none 0 0) (.int .i64 l) (.int .i64 c)
        unfold put2 put6 at hfin
        generalize hwf : World.setCell _ _ _ = wf at hfin ⊢
        clear hwf c5 c6 c6' d0 d1 d2 d3 d4 d5 f0 f1 f2 f3 f4 f5 y0 y1 g0 g1 e0 e1 e2 e3 e4 e5 h0' h1' h2' h3' h4' h5' k0 k1 m0 m1
        obtain ⟨s0, s1, s2, s3, s4, s5⟩ := six_of_block hfin.1
        obtain ⟨u0, u1, _, _⟩ := two_open hfin.2.1
        exact bodyPost_ret (v := .tuple #[.agg zv.toArray, .agg #[.int .i64 l, .int .i64 c], .int .i64 q2.e]) (by simp [results, Tryz.results12, go_sem, zv, s0, s1, s2, s3, s4, s5, u0, u1] <;> rfl) rfl ⟨V.nil, zv, l, c, q2.e, rfl, hfin.2.2.1, hfin.2.2.2, by rw [HF.out]; exact ⟨by simpa using HE.out, rfl⟩⟩
end Go.Proofs.YtejnoedlfbglcaaGreatDoor
