/- Messages: what the writer wrote is read: whole messages. No program. -/
import Derived.Test.YtdolpehcfifecaaDoorMcf
namespace Mh
open Go Go.RowKit
set_option linter.unusedVariables false
mutual
/-- The numbers of ways are numbers of the machine. -/
def intsPs : List Pc → Bool
  | [] => true
  | .mk _ _ ws :: l => intsWs ws && intsPs l
def intsWs : List Wy → Bool
  | [] => true
  | .mk _ x _ ps :: l => decide (-9223372036854775808 ≤ x ∧ x ≤ 9223372036854775807) && intsPs ps && intsWs l
end
theorem flush_nil (out : List Pc) : flushL out [] = out := by unfold flushL; rw [if_pos rfl]
theorem flush_tx (out : List Pc) (t : ByteArray) (h : t.data.toList ≠ []) : flushL out t.data.toList = out ++ [.mk 0 t []] := by
  unfold flushL
  rw [if_neg h]
theorem mle_of_drop {s : ByteArray} {i : Nat} {c : UInt8} {r : List UInt8} (h : s.data.toList.drop i = c :: r) : i ≤ s.size := by
  obtain ⟨hi, _⟩ := mat_cons h
  omega
/-- A way's word and its brace. -/
theorem open_at {s : ByteArray} {d : Nat} {m : Ms} {kd : Int} {w : Wy} {last : Bool} {ws0 : List Wy} {r : List UInt8} (hd : d ≤ 11) (he : m.e = 0) (hk : kd = 2 ∨ kd = 3) (hf : wayFm kd w last = true) (h0 : kd = 2 → last = true → ws0 ≠ []) (hx : -9223372036854775808 ≤ w.ex ∧ w.ex ≤ 9223372036854775807) (hs : ws0.any (fun x => sameWy x (stripW w)) = false)
    (h : s.data.toList.drop m.i = 32 :: (wayTx kd w ++ (32 :: 123 :: r))) : mopen s d kd ws0 m = (m.at (m.i + 1 + (wayTx kd w).length + 2), stripW w, false) := by
  have hw := way_word he hk hf h0 hx hs h
  obtain ⟨_, _, h2⟩ := mat_cons h
  have h3 := mat_app h2
  have ht := take_at (s := s) (m := m.at (m.i + 1 + (wayTx kd w).length)) (b := [32]) (c := 123) (r := r) he h3 (by decide) (by decide)
  unfold mopen
  rw [hw]
  simp only
  rw [if_neg (by show ¬ m.e ≠ 0; omega), ht, if_neg (by rintro ⟨_, h⟩; omega)]
  rfl
theorem read_back (s : ByteArray) : ∀ N : Nat,
    (∀ (ps : List Pc) (d : Nat) (cnt : Bool) (m : Ms) (out : List Pc) (pl rest : List UInt8), (wrPs ps).length < N → 1 ≤ d → m.e = 0 → s.data.toList.drop m.i = wrPs ps ++ rest → formsPs cnt (decide (pl ≠ [])) ps = true → bytePs ps = false → twicePs ps = false → intsPs ps = true → d + deepPs ps ≤ 12 → m.n + manyPs ps ≤ 100 →
      ∃ (out' : List Pc) (pl' : List UInt8), mloop s d cnt m out pl = mloop s d cnt ⟨m.i + (wrPs ps).length, m.a, 0, m.n + manyPs ps⟩ out' pl' ∧ flushL out' pl' = flushL out pl ++ ps) ∧
    (∀ (ws : List Wy) (d : Nat) (cnt : Bool) (kd : Int) (name : ByteArray) (m : Ms) (ws0 : List Wy) (rest : List UInt8), (wrWs kd false ws).length < N → 1 ≤ d → ws ≠ [] → (kd = 2 ∨ kd = 3) → (kd = 2 → ws0 = [] → ws.length ≠ 1) → m.e = 0 → s.data.toList.drop m.i = wrWs kd false ws ++ (125 :: rest) → waysFm kd ws = true → formsWs (cnt || decide (kd = 3)) ws = true → byteWs ws = false → twiceWs (ws0.map stripW) ws = false → intsWs ws = true → d + deepWs ws ≤ 12 → m.n + manyWs ws ≤ 100 →
      mways s d cnt kd name m ws0 = (⟨m.i + (wrWs kd false ws).length + 1, m.a, 0, m.n + manyWs ws⟩, .mk kd name (ws0 ++ ws))) := by
  intro N
  induction N with
  | zero => exact ⟨fun _ _ _ _ _ _ _ h => by omega, fun _ _ _ _ _ _ _ _ h => by omega⟩
  | succ N ih =>
    obtain ⟨ih1, ih2⟩ := ih
    constructor
    · intro ps d cnt m out pl rest hN hd he h hf hb ht hx hdp hmn
      cases ps with
      | nil =>
        refine ⟨out, pl, ?_, by simp⟩
        have e : (⟨m.i + (wrPs []).length, m.a, 0, m.n + manyPs []⟩ : Ms) = m := by
          unfold wrPs manyPs
          obtain ⟨i, a, e, n⟩ := m
          change e = 0 at he
          subst he
          rfl
        rw [e]
      | cons p l =>
        obtain ⟨k, t, ws⟩ := p
        have hmi : ∀ (c : UInt8) (r : List UInt8), s.data.toList.drop m.i = c :: r → m.i < s.size := fun c r h => by obtain ⟨hi, _⟩ := mat_cons h; exact hi
        unfold formsPs formsP at hf
        unfold bytePs at hb
        unfold twicePs at ht
        unfold intsPs at hx
        unfold deepPs at hdp
        unfold manyPs at hmn
        simp only [Bool.and_eq_true, Bool.or_eq_false_iff] at hf hb ht hx
        obtain ⟨⟨⟨hpf, hwf⟩, hpv⟩, hfl⟩ := hf
        obtain ⟨⟨hb1, hb2⟩, hb3⟩ := hb
        obtain ⟨ht1, ht2⟩ := ht
        obtain ⟨hx1, hx2⟩ := hx
        have hpos := wrP_pos cnt _ hpf
        have hlen : (wrPs (.mk k t ws :: l)).length = (wrP (.mk k t ws)).length + (wrPs l).length := by rw [wrPs, List.length_append]
        have hp0 : 0 < (wrP (.mk k t ws)).length := List.length_pos_iff.2 hpos
        have hdr : s.data.toList.drop m.i = wrP (.mk k t ws) ++ (wrPs l ++ rest) := by rw [h, wrPs, List.append_assoc]
        have hdl := mat_app hdr
        have hmany : manyPs (.mk k t ws :: l) = 1 + manyWs ws + manyPs l := by rw [manyPs]
        -- go on behind the piece
        have R : ∀ (outP : List Pc) (plP : List UInt8), mloop s d cnt m out pl = mloop s d cnt ⟨m.i + (wrP (.mk k t ws)).length, m.a, 0, m.n + (1 + manyWs ws)⟩ outP plP → decide (plP ≠ []) = decide (k = 0) → flushL outP plP = flushL out pl ++ [.mk k t ws] →
            ∃ (out' : List Pc) (pl' : List UInt8), mloop s d cnt m out pl = mloop s d cnt ⟨m.i + (wrPs (.mk k t ws :: l)).length, m.a, 0, m.n + manyPs (.mk k t ws :: l)⟩ out' pl' ∧ flushL out' pl' = flushL out pl ++ (.mk k t ws :: l) := by
          intro outP plP e1 e2 e3
          obtain ⟨o2, p2, f1, f2⟩ := ih1 l d cnt ⟨m.i + (wrP (.mk k t ws)).length, m.a, 0, m.n + (1 + manyWs ws)⟩ outP plP rest (by omega) hd rfl hdl (by rw [e2]; exact hfl) hb3 ht2 hx2 (by omega) (by show m.n + (1 + manyWs ws) + manyPs l ≤ 100; omega)
          refine ⟨o2, p2, ?_, ?_⟩
          · rw [e1, f1, hlen, hmany]
            congr 2
            · show m.i + (wrP (.mk k t ws)).length + (wrPs l).length = _; omega
            · show m.n + (1 + manyWs ws) + manyPs l = _; omega
          · rw [f2, e3, List.append_assoc, List.singleton_append]
        have hn : m.n < 100 := by omega
        unfold pieceFm at hpf
        change (if k = 0 then decide (t.size ≠ 0) && ws.isEmpty else if k = 1 then isKeyL t.data.toList && ws.isEmpty else if k = 4 then cnt && decide (t.size = 0) && ws.isEmpty else if k = 2 ∨ k = 3 then isKeyL t.data.toList && !ws.isEmpty && !(decide (k = 2) && decide (ws.length = 1)) && waysFm k ws else false) = true at hpf
        by_cases k0 : k = 0
        · subst k0
          rw [if_pos rfl] at hpf
          simp only [Bool.and_eq_true, decide_eq_true_eq, List.isEmpty_iff] at hpf
          obtain ⟨hts, rfl⟩ := hpf
          have hpl : pl = [] := by simpa [Pc.kd] using hpv
          subst hpl
          have hw : wrP (.mk 0 t []) = escL t.data.toList := by rw [wrP, if_pos rfl]
          have htl : t.data.toList ≠ [] := by intro e; apply hts; rw [← ByteArray.size_data, ← Array.length_toList, e]; rfl
          rw [hw] at hdr hdl
          refine R out t.data.toList ?_ (by simp [htl]) (by rw [flush_tx _ _ htl, flush_nil])
          rw [hw]
          have hm0 : m.n + (1 + manyWs []) = m.n + 1 := by rw [manyWs]
          rw [hm0]
          exact plain_run _ m he hn htl hdr (by simpa using hb1)
        rw [if_neg k0] at hpf
        by_cases k1 : k = 1
        · subst k1
          rw [if_pos rfl] at hpf
          simp only [Bool.and_eq_true, List.isEmpty_iff] at hpf
          obtain ⟨hkey, rfl⟩ := hpf
          have hw : wrP (.mk 1 t []) = 123 :: (t.data.toList ++ [125]) := by rw [wrP, if_neg (by decide), if_neg (by decide), wrWs]; simp [kindTx]
          rw [hw] at hdr
          refine R (flushL out pl ++ [.mk 1 t []]) [] ?_ (by simp) (flush_nil _)
          rw [hw, insert_at (r := wrPs l ++ rest) (t := t) hd he hn hkey (by rw [hdr]; simp)]
          have hm0 : m.n + (1 + manyWs []) = m.n + 1 := by rw [manyWs]
          rw [hm0]
          congr 2
          simp only [List.length_cons, List.length_append, List.length_nil]
          omega
        rw [if_neg k1] at hpf
        by_cases k4 : k = 4
        · subst k4
          rw [if_pos rfl] at hpf
          simp only [Bool.and_eq_true, decide_eq_true_eq, List.isEmpty_iff] at hpf
          obtain ⟨⟨rfl, hts⟩, rfl⟩ := hpf
          have htz := mzero_b hts
          subst htz
          have hw : wrP (.mk 4 ⟨#[]⟩ []) = [35] := by rw [wrP, if_neg (by decide), if_pos rfl]
          rw [hw] at hdr
          refine R (flushL out pl ++ [.mk 4 ⟨#[]⟩ []]) [] ?_ (by simp) (flush_nil _)
          have hm0 : m.n + (1 + manyWs []) = m.n + 1 := by rw [manyWs]
          rw [hm0, hw, hash_at he hn (r := wrPs l ++ rest) hdr]
          rfl
        rw [if_neg k4] at hpf
        by_cases k23 : k = 2 ∨ k = 3
        · rw [if_pos k23] at hpf
          simp only [Bool.and_eq_true] at hpf
          obtain ⟨⟨⟨hkey, hne⟩, hone⟩, hways⟩ := hpf
          have hwne : ws ≠ [] := by rintro rfl; cases hne
          have hww : wrWs k true ws = 44 :: wrWs k false ws := by
            cases ws with
            | nil => exact absurd rfl hwne
            | cons w r => obtain ⟨u, x, f, ps⟩ := w; rw [wrWs, wrWs]; simp
          have hw : wrP (.mk k t ws) = 123 :: (t.data.toList ++ (kindTx k ++ (44 :: (wrWs k false ws ++ [125])))) := by
            rw [wrP, if_neg k0, if_neg k4, hww]; simp
          rw [hw] at hdr
          have hdr2 : s.data.toList.drop m.i = 123 :: (t.data.toList ++ (kindTx k ++ (44 :: (wrWs k false ws ++ (125 :: (wrPs l ++ rest)))))) := by rw [hdr]; simp
          obtain ⟨hi, e1, hd1⟩ := mat_cons hdr2
          have hp := piece_ok m.i hn
          have hh := head_at (s := s) (m := Ms.at ⟨m.i, m.a, m.e, m.n + 1⟩ (m.i + 1)) (t := t) (k := k) he hkey k23 hd1
          have hsz : t.data.toList.length = t.size := by simp
          have hd2 := mat_app hd1
          rw [hsz] at hd2
          have hd3 := mat_app hd2
          obtain ⟨_, _, hd4⟩ := mat_cons hd3
          have hlw : (wrP (.mk k t ws)).length = 1 + t.size + (kindTx k).length + 1 + (wrWs k false ws).length + 1 := by
            rw [hw]; simp only [List.length_cons, List.length_append, List.length_nil, hsz]; omega
          have hW := ih2 ws d cnt k t (Ms.at ⟨m.i, m.a, m.e, m.n + 1⟩ (m.i + 1 + t.size + (kindTx k).length + 1)) [] (wrPs l ++ rest) (by omega) hd hwne k23
            (by rintro rfl _ e; rw [e] at hone; cases hone) he hd4 hways hwf hb2 ht1 hx1 (by omega) (by show m.n + 1 + manyWs ws ≤ 100; omega)
          refine R (flushL out pl ++ [.mk k t ws]) [] ?_ (by simp [k0]) (flush_nil _)
          rw [mloop_brace he hi (by rw [e1]; rfl) (by rw [hp]; exact he) hd, hp, mbrace_ways (kd := k) (by rw [hh]), hh]
          have e5 : (Ms.at ⟨m.i, m.a, m.e, m.n + 1⟩ (m.i + 1)).at ((Ms.at ⟨m.i, m.a, m.e, m.n + 1⟩ (m.i + 1)).i + t.size + (kindTx k).length + 1) = Ms.at ⟨m.i, m.a, m.e, m.n + 1⟩ (m.i + 1 + t.size + (kindTx k).length + 1) := rfl
          simp only [e5]
          rw [hW, hlw]
          simp only [Ms.at, List.nil_append]
          congr 2
          · omega
          · omega
        · rw [if_neg k23] at hpf; cases hpf
    · intro ws d cnt kd name m ws0 rest hN hd hne hk hone he h hwf hfw hb ht hx hdp hmn
      cases ws with
      | nil => exact absurd rfl hne
      | cons w l =>
        obtain ⟨u, x, f, ps⟩ := w
        unfold formsWs at hfw
        unfold byteWs at hb
        unfold twiceWs at ht
        unfold intsWs at hx
        unfold deepWs at hdp
        unfold manyWs at hmn
        simp only [Bool.and_eq_true, Bool.or_eq_false_iff, decide_eq_true_eq] at hfw hb ht hx
        obtain ⟨hf1, hf2⟩ := hfw
        obtain ⟨hb1, hb2⟩ := hb
        obtain ⟨⟨ht1, ht2⟩, ht3⟩ := ht
        obtain ⟨⟨hx0, hx1⟩, hx2⟩ := hx
        have hws : wrWs kd false (.mk u x f ps :: l) = 32 :: (wayTx kd (.mk u x f ps) ++ (32 :: 123 :: (wrPs ps ++ (125 :: wrWs kd false l)))) := by
          rw [wrWs]
          have e : wayTx kd (.mk u x f []) = wayTx kd (.mk u x f ps) := rfl
          rw [e]
          simp
        have hlast : wayFm kd (.mk u x f ps) (decide (l = [])) = true ∧ (l ≠ [] → waysFm kd l = true) := by
          cases l with
          | nil => exact ⟨hwf, fun h => absurd rfl h⟩
          | cons y l =>
            unfold waysFm at hwf
            simp only [Bool.and_eq_true] at hwf
            exact ⟨by simpa using hwf.1, fun _ => hwf.2⟩
        have hs : ws0.any (fun y => sameWy y (stripW (.mk u x f ps))) = false := by
          rw [List.any_map] at ht1
          exact ht1
        have h0 : kd = 2 → decide (l = []) = true → ws0 ≠ [] := by
          intro h1 h2 h3
          have h2 := of_decide_eq_true h2
          subst h2
          exact hone h1 h3 rfl
        have hlen : (wrWs kd false (.mk u x f ps :: l)).length = 1 + (wayTx kd (.mk u x f ps)).length + 2 + (wrPs ps).length + 1 + (wrWs kd false l).length := by
          rw [hws]; simp only [List.length_cons, List.length_append]; omega
        have hdr : s.data.toList.drop m.i = 32 :: (wayTx kd (.mk u x f ps) ++ (32 :: 123 :: (wrPs ps ++ (125 :: (wrWs kd false l ++ (125 :: rest)))))) := by rw [h, hws]; simp
        have ho := open_at (s := s) (d := d) (m := m) (last := decide (l = [])) (by omega) he hk hlast.1 h0 hx0 hs hdr
        obtain ⟨_, _, hd1⟩ := mat_cons hdr
        have hd2 := mat_app hd1
        obtain ⟨_, _, hd3⟩ := mat_cons hd2
        obtain ⟨_, _, hd4⟩ := mat_cons hd3
        have hd4' : s.data.toList.drop (m.at (m.i + 1 + (wayTx kd (.mk u x f ps)).length + 2)).i = wrPs ps ++ (125 :: (wrWs kd false l ++ (125 :: rest))) := hd4
        obtain ⟨o2, p2, g1, g2⟩ := ih1 ps (d + 1) (cnt || decide (kd = 3)) (m.at (m.i + 1 + (wayTx kd (.mk u x f ps)).length + 2)) [] [] _ (by omega) (by omega) he hd4' (by simpa using hf1) hb1 ht2 hx1 (by omega) (by show m.n + manyPs ps ≤ 100; omega)
        have hd5 := mat_app hd4'
        obtain ⟨hi5, e5, hd6⟩ := mat_cons hd5
        have hstop := mloop_stop (s := s) (d := d + 1) (cnt := cnt || decide (kd = 3)) (m := ⟨(m.at (m.i + 1 + (wayTx kd (.mk u x f ps)).length + 2)).i + (wrPs ps).length, m.a, 0, m.n + manyPs ps⟩) (out := o2) (pl := p2) rfl hi5 (by rw [e5]; rfl) (by omega)
        have hr : mloop s (d + 1) (cnt || decide (kd = 3)) (mopen s d kd ws0 m).1 [] [] = (⟨m.i + 1 + (wayTx kd (.mk u x f ps)).length + 2 + (wrPs ps).length, m.a, 0, m.n + manyPs ps⟩, ps) := by
          rw [ho]
          show mloop s (d + 1) (cnt || decide (kd = 3)) (m.at (m.i + 1 + (wayTx kd (.mk u x f ps)).length + 2)) [] [] = _
          rw [g1]
          refine hstop.trans ?_
          rw [g2, flush_nil, List.nil_append]
          rfl
        have hgo := mways_go (s := s) (d := d) (cnt := cnt) (kd := kd) (name := name) (ws := ws0) (mle_of_drop hdr) he (by rw [ho]) (by rw [ho]; exact he) _ rfl
        rw [hgo, hr, ho]
        have hcl : mclose (⟨m.i + 1 + (wayTx kd (.mk u x f ps)).length + 2 + (wrPs ps).length, m.a, 0, m.n + manyPs ps⟩ : Ms) = ⟨m.i + 1 + (wayTx kd (.mk u x f ps)).length + 2 + (wrPs ps).length + 1, m.a, 0, m.n + manyPs ps⟩ := by
          unfold mclose; rw [if_pos rfl]; rfl
        have hwp : (stripW (.mk u x f ps)).withPs ps = .mk u x f ps := rfl
        simp only [hcl, hwp]
        have hio : isOther kd (stripW (.mk u x f ps)) = decide (l = []) := by
          have h9 := hlast.1
          unfold wayFm at h9
          simp only [Bool.and_eq_true, decide_eq_true_eq] at h9
          exact h9.1
        rw [hio]
        by_cases hl : l = []
        · subst hl
          rw [if_pos (by simp)]
          unfold mwend
          have hd7 : s.data.toList.drop (m.i + 1 + (wayTx kd (.mk u x f ps)).length + 2 + (wrPs ps).length + 1) = [] ++ (125 :: rest) := by
            have := hd6
            rw [wrWs, List.nil_append] at this
            exact this
          have htk := take_at (s := s) (m := ⟨m.i + 1 + (wayTx kd (.mk u x f ps)).length + 2 + (wrPs ps).length + 1, m.a, 0, m.n + manyPs ps⟩) rfl hd7 rfl (by decide)
          rw [htk]
          have hm1 : manyWs [.mk u x f ps] = manyPs ps := by rw [manyWs, manyWs]; rfl
          rw [hlen, hm1, wrWs]
          simp only [Ms.at, List.length_nil]
          congr 2
          omega
        · rw [if_neg (by simpa using hl)]
          have := ih2 l d cnt kd name ⟨m.i + 1 + (wayTx kd (.mk u x f ps)).length + 2 + (wrPs ps).length + 1, m.a, 0, m.n + manyPs ps⟩ (ws0 ++ [.mk u x f ps]) rest (by omega) hd hl hk (by intro _ e; simp at e) rfl hd6 (hlast.2 hl) hf2 hb2
            (by rw [List.map_append]; exact ht3) hx2 (by omega) (by show m.n + manyPs ps + manyWs l ≤ 100; omega)
          rw [this, hlen]
          have hm1 : manyWs (.mk u x f ps :: l) = manyPs ps + manyWs l := by rw [manyWs]
          rw [hm1, List.append_assoc, List.singleton_append]
          congr 2
          · show m.i + 1 + (wayTx kd (.mk u x f ps)).length + 2 + (wrPs ps).length + 1 + (wrWs kd false l).length + 1 = _
            omega
          · show m.n + manyPs ps + manyWs l = _
            omega
/-- What is written is read. -/
theorem readM_wr {ps : List Pc} {s : ByteArray} (h : s.data.toList = wrPs ps) (hf : formsPs false false ps = true) (hb : bytePs ps = false) (ht : twicePs ps = false) (hx : intsPs ps = true) (hd : deepPs ps + 1 ≤ 12) (hn : manyPs ps ≤ 100) (hs : s.size ≤ 2000) : readM s = (0, 0, ps) := by
  obtain ⟨o, p, h1, h2⟩ := (read_back s _).1 ps 1 false ⟨0, 0, 0, 0⟩ [] [] [] (Nat.lt_succ_self _) (Nat.le_refl _) rfl (by rw [List.drop_zero, h]; simp) (by simpa using hf) hb ht hx (by omega) (by show 0 + manyPs ps ≤ 100; omega)
  have hsz : s.size = (wrPs ps).length := by rw [← h]; simp
  unfold readM
  rw [if_neg (by omega)]
  simp only
  rw [h1, mloop_end (by show ¬ ((0 : Int) = 0 ∧ 0 + (wrPs ps).length < s.size); omega)]
  unfold mfin
  simp only
  rw [if_neg (show ¬ 1 < 1 by omega), h2, flush_nil, List.nil_append]
  rfl
end Mh
