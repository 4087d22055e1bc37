/- (*strings.appendSliceWriter).WriteString, strings.getStringWriter, (*strings.genericReplacer).WriteString and Replace at mark.Unescape's trie; mark.Unescape gives some string that is not longer. Conditions: the trie in memory; sizes. -/
import Derived.Test.YtoalbfffojpnmaaDoorUnG
import Derived.Test.YtoalbfffojpnmaaDoorApSt
namespace Go.Proofs.YtoalbfffojpnmaaDoor
open Go.RowKit Mh
set_option linter.unusedVariables false

theorem infoU8c : (Tryd.prog.info? 5).map (fun i => (i.zero, i.size, i.bytes)) = some (some (.int .u8 0), 1, 1) := by kernel_rfl
theorem own_setNe {w : World} {base e k n b o : Nat} {v u : Value} {xs : List Value} (h : w.ownsRow base e k v n xs) (hb : v.ownBlock ≠ some b) : (w.setCell ⟨b, o, none⟩ u).ownsRow base e k v n xs := by
  refine ⟨h.1, ?_⟩
  rcases h.2 with h2 | ⟨g, cap, cur, rfl, hbg, hg, h4⟩
  · exact .inl h2
  · exact .inr ⟨g, cap, cur, rfl, hbg, (heap_setCell_other w ⟨b, o, none⟩ g u (by show g ≠ b; rintro rfl; exact hb rfl)).trans hg, h4⟩
/-- The bytes that are written, behind a cell. -/
structure Asw (b0 C : Nat) (l : List UInt8) (W : World) : Prop where
  ex : ∃ v, W.cell? ⟨C, 0, none⟩ = some v ∧ W.ownsRow b0 5 1 v l.length (byteCells l) ∧ v.ownBlock ≠ some C
  fz : W.frozen? ⟨C, 0, none⟩ = false
  lo : b0 ≤ C
set_option maxRecDepth 100000 in
set_option maxHeartbeats 4000000 in
theorem asw_any (b0 C : Nat) (l : List UInt8) (s : ByteArray) (W : World) (h : Asw b0 C l W) (hl : l.length + s.size ≤ 140737488355328) :
    Calls Tryd.prog 115 #[.pointer (some ⟨C, 0, none⟩), .string s] W fun e w' => e = .returned (.tuple #[.int .i64 (s.size : Int), Value.nilIface]) ∧ Hid (Asw b0 C (l ++ s.data.toList) w') ∧ Below b0 W w' := by
  obtain ⟨v, hv, hown, hne⟩ := h.ex
  obtain ⟨bi, hbi, hbz0, hbz1, hbz2⟩ := info_parts infoU8c
  obtain ⟨va, vc, rfl⟩ := ownsRow_form hown
  have hlo := h.lo
  have hCl : C < W.heap.size := World.block_lt_of_cell? W _ hv
  have HO := Lib.hid hown
  have HF := Lib.hid h.fz
  have HNE := Lib.hid hne
  have HC : Hid (∀ w3, W.grownBy w3 (Value.slice va l.length vc).ownBlock → w3.cell? ⟨C, 0, none⟩ = some (.slice va l.length vc) ∧ w3.frozen? ⟨C, 0, none⟩ = false) := fun w3 hg =>
    ⟨(hg.cell_far ⟨C, 0, none⟩ hCl (fun e => hne e.symm)).trans hv, (hg.frozen_far ⟨C, 0, none⟩ hCl (fun e => hne e.symm)).trans h.fz⟩
  clear h hown hne
  go_enter Tryd.func115, Tryd.ntmps115
  go_wp2_with (at_builtin; refine wpList_append_str rfl _ _ 155 9 rfl b0 5 bi Tryd.underlying155 Tryd.underlying9 hbi hbz0 hbz1 hbz2 _ l rfl HO.out s rfl hl (by omega) ?_; intro v3 w3 hown3 hgr3 hat3; obtain ⟨a3, c3, rfl⟩ := ownsRow_form hown3; obtain ⟨y0, y1⟩ := HC.out _ hgr3)
  go_ret2
  have hlen : (l ++ s.data.toList).length = l.length + s.size := by rw [List.length_append, Array.length_toList]; rfl
  have hown4 : w3.ownsRow b0 5 1 (.slice a3 (l.length + s.size) c3) (l ++ s.data.toList).length (byteCells (l ++ s.data.toList)) := by rw [← hlen]; exact hown3
  have hne3 : (Value.slice a3 (l.length + s.size) c3).ownBlock ≠ some C := by
    have hn2 : (Value.slice a3 (l ++ s.data.toList).length c3).ownBlock ≠ some C := by
      rcases hat3 with e | e
      · rw [e]; exact HNE.out
      · rw [e]; simp; omega
    rw [hlen] at hn2; exact hn2
  refine ⟨rfl, ⟨⟨_, World.cell?_setCell_same _ _ _ y0, own_setNe hown4 hne3, hne3⟩, by rw [World.frozen?_setCell]; exact y1, hlo⟩, ?_⟩
  exact ((Below.grown ((Below.refl _ W).mono (by omega)) hgr3 (by omega) (fun k hk => (World.ownsRow.lt HO.out k hk).1))).setCell hlo _
theorem gsw_assert (p : Value) (w : World) : (Instr.typeAssert (.iface 156 p) 158 160 true).run Tryd.prog w = .ok (.tuple #[.iface 156 p, .bool true]) w := by kernel_rfl
set_option maxRecDepth 100000 in
set_option maxHeartbeats 4000000 in
theorem gsw_any (p : Value) (w : World) : Calls Tryd.prog 105 #[.iface 156 p] w fun e w' => e = .returned (.iface 156 p) ∧ w' = w := by
  have ha := gsw_assert p
  go_enter Tryd.func105, Tryd.ntmps105
  go_wp2_with fail
  go_ret
  exact ⟨rfl, rfl⟩
theorem Tr.below {b0 : Nat} {W W1 : World} {r k : Nat} (h : Tr b0 W r k) (hb : Below W.heap.size W W1) : Tr b0 W1 r k := h.keep (fun b _ hl => hb.block b hl)
theorem bytes_len (s : ByteArray) : s.data.toList.length = s.size := by rw [Array.length_toList]; rfl
theorem asw_ahead (C f : Nat) (w : World) : (nilAhead (f + 1) 156 (.pointer (some ⟨C, 0, none⟩)) "WriteString").run Tryd.prog w = .ok (some false) w := by kernel_rfl
theorem Asw.same {b0 C : Nat} {l : List UInt8} {W W1 : World} (h : Asw b0 C l W) (sm : Same W W1) : Asw b0 C l W1 := by
  obtain ⟨v, g1, g2, g3⟩ := h.ex
  refine ⟨⟨v, (sm.cell _).trans g1, ?_, g3⟩, by rw [sm.frozen]; exact h.fz, h.lo⟩
  unfold World.ownsRow at *
  rw [sm.heap]
  exact g2
theorem Same.low {w0 w w' : World} (sm : Same w w') (h : Below w0.heap.size w0 w) : Below w0.heap.size w0 w' := h.trans ((sm.kept []).below (B := w0.heap.size) h.size (by simp))
set_option maxRecDepth 100000 in
set_option maxHeartbeats 16000000 in
theorem grWrite_any (b0 r C : Nat) (s : ByteArray) (w0 w : World) (h : Tr b0 w0 r 5) (hb : Below w0.heap.size w0 w) (ha : Asw w0.heap.size C [] w) (hs : s.size ≤ 1000000000) :
    Calls Tryd.prog 104 #[ptr r, .iface 156 (.pointer (some ⟨C, 0, none⟩)), .string s] w fun e w' => (∃ n : Int, e = .returned (.tuple #[.int .i64 n, Value.nilIface])) ∧ Hid (∃ l, l.length ≤ s.size ∧ Asw w0.heap.size C l w') ∧ Hid (Below w0.heap.size w0 w') := by
  have hmf : ∀ (fn : Fn) (first cap : Array Value) (w : World), (Instr.makeFunc fn first cap).run Tryd.prog w = .ok (.func fn first cap) w := fun _ _ _ _ => rfl
  have hna := asw_ahead C
  have HG := Lib.hid (fun (p : Value) w' => gsw_any p w')
  have HW := Lib.hid (fun l (t : ByteArray) W (h : Asw w0.heap.size C l W) (hl : l.length + t.size ≤ 140737488355328) => asw_any w0.heap.size C l t W h hl)
  have HLK := Lib.hid (fun (t : ByteArray) W (hb : Below w0.heap.size w0 W) (ht : t.size ≤ 1000000000) => lookup_any b0 r t W (h.below hb) ht)
  have HROOT : Hid (∀ W, Below w0.heap.size w0 W → ∃ T0, W.cell? ⟨r, 1, none⟩ = some (.int .i64 0) ∧ W.cell? ⟨r, 4, none⟩ = some (.slice (some ⟨T0, 0, none⟩) 14 14) ∧ W.cell? ⟨r, 5, none⟩ = some (.int .i64 14) ∧ (∀ c, c < 256 → W.cell? ⟨r, 6 + c, none⟩ = some (.int .u8 (mpK c))) ∧ (∀ m, m < 14 → ∃ p, W.cell? ⟨T0, m, none⟩ = some (.pointer p))) := by
    intro W hW
    obtain ⟨⟨T0, hT0, hr, n1, ht, _⟩, _⟩ := h.below hW
    have R := rt_of hr
    rw [if_neg (by omega)] at ht
    refine ⟨T0, cellT hr (by rw [List.getElem?_toArray]; rfl), R.c4, R.c5, R.cm, fun m hm => ?_⟩
    by_cases e : m = 1
    · subst e; exact ⟨_, cellT ht (by rw [List.getElem?_toArray]; simp [row14]; rfl)⟩
    · refine ⟨none, cellT ht ?_⟩
      rw [List.getElem?_toArray, List.getElem?_set_ne (fun x => e x.symm)]; unfold row14; rw [List.getElem?_replicate, if_pos hm]; rfl
  have HB := Lib.hid hb
  have HA := Lib.hid ha
  clear h hb ha
  unfold ptr at *
  go_enter Tryd.func104, Tryd.ntmps104
  go_wp2_with (go_at_call 105; refine (HG.out _ _).mono ?_; rintro e w' ⟨rfl, rfl⟩)
  go_loopw [6, 7, 9, 10, 11, 12] (fun n er la wn pm i wr => ∃ (l : List UInt8) (la' i' : Nat) (x : Int), n = .int .i64 (l.length : Int) ∧ er = Value.nilIface ∧ la = .int .i64 (la' : Int) ∧ wn = .int .i64 x ∧ pm = .bool false ∧ i = .int .i64 (i' : Int) ∧ la' ≤ i' ∧ la' ≤ s.size ∧ i' ≤ s.size + 1 ∧ l.length ≤ la' ∧ Hid (Asw w0.heap.size C l wr) ∧ Hid (Below w0.heap.size w0 wr)) (fun _ _ _ _ _ i _ => s.size + 1 - (intOf i).toNat)
  case atStart => exact ⟨[], 0, 0, 0, rfl, rfl, rfl, rfl, rfl, rfl, by omega, by omega, by omega, Nat.le_refl _, HA, HB⟩
  case round =>
    obtain ⟨l, la, i, x, rfl, rfl, rfl, rfl, rfl, rfl, h1, h2, h3, h4, HA2, HB2⟩ := hrel
    obtain ⟨T0, r1, r4, r5, rm, rT⟩ := HROOT.out _ HB2.out
    by_cases hi : i ≤ s.size
    · have hd : decide ((i : Int) ≤ s.size) = true := decide_eq_true (by omega)
      by_cases hie : i = s.size
      · -- S1
        have hd2 : ((i : Int) != s.size) = false := by rw [bne_eq_false_iff_eq]; omega
        have hiI : (i : Int) ≤ s.size := by omega
        have hts : (s.extract i s.size).size = 0 := by simp; omega
        have HIE := Lib.hid hie
        have HL2 := Lib.hid (HLK.out (s.extract i s.size) wr HB2.out (by omega))
        have HTS := Lib.hid hts
        clear rm rT hie hts
        go_wp2_with (go_at_call 106; refine HL2.out.mono ?_; rintro e w' ⟨v, n, f, rfl, sm, hn, hv, hf⟩; have HSM := Lib.hid sm; obtain rfl : f = false := (by cases f; rfl; have := hf rfl; have := HTS.out; omega); clear sm hf)
        go_roundw
        case rel => exact ⟨l, la, i + 1, x, rfl, rfl, rfl, rfl, rfl, by go_num, by omega, by omega, by have := HIE.out; omega, h4, HA2.out.same HSM.out, HSM.out.low HB2.out⟩
        case measure => first | (simp [intOf]; omega) | go_num
        -- E1
      · -- S2
        have hil : i < s.size := by omega
        have hilI : (i : Int) < s.size := by omega
        have hd2 : ((i : Int) != s.size) = true := by rw [bne_iff_ne]; omega
        have h256 : s[i].toNat < 256 := UInt8.toNat_lt _
        have h256I : (s[i].toNat : Int) < 256 := by omega
        have r6 := rm _ h256
        obtain ⟨b1, b2⟩ := mpK_lt _ h256
        obtain ⟨m, hm⟩ : ∃ m : Nat, (m : Int) = mpK s[i].toNat := ⟨(mpK s[i].toNat).toNat, by omega⟩
        rw [← hm] at r6 b1 b2
        clear hm rm
        by_cases h14 : m = 14
        · have hd3 : ((m : Int) == 14) = true := by simp [h14]
          clear rT h14
          go_wp2_with fail
          go_quiet (fail)
          have HSM : Hid (Same wr (wr.drewN nq)) := (Same.refl wr).drewN nq
          have r5 : (wr.drewN nq).cell? ⟨r, 5, none⟩ = some (.int .i64 14) := r5
          generalize wr.drewN nq = w2 at *
          go_wp2_with fail
          refine ⟨⟨l, la, i + 1, x, rfl, rfl, rfl, rfl, rfl, by go_num, by omega, by omega, by omega, h4, HA2.out.same HSM.out, HSM.out.low HB2.out⟩, ?_⟩
          first | (simp [intOf]; omega) | go_num
        · have hd3 : ((m : Int) == 14) = false := by rw [beq_eq_false_iff_ne]; omega
          have hm14 : m < 14 := by omega
          have hm14I : (m : Int) < 14 := by omega
          obtain ⟨p, t1⟩ := rT m hm14
          clear rT h14
          go_wp2_with fail
          go_quiet (fail)
          have HSM : Hid (Same wr (wr.drewN nq)) := (Same.refl wr).drewN nq
          have r5 : (wr.drewN nq).cell? ⟨r, 5, none⟩ = some (.int .i64 14) := r5
          have r4 : (wr.drewN nq).cell? ⟨r, 4, none⟩ = some (.slice (some ⟨T0, 0, none⟩) 14 14) := r4
          have t1 : (wr.drewN nq).cell? ⟨T0, m, none⟩ = some (.pointer p) := t1
          have HA3 : Hid (Asw w0.heap.size C l (wr.drewN nq)) := HA2.out.same HSM.out
          have HB3 : Hid (Below w0.heap.size w0 (wr.drewN nq)) := HSM.out.low HB2.out
          generalize wr.drewN nq = w2 at *
          cases p with
          | none =>
            go_wp2_with fail
            refine ⟨⟨l, la, i + 1, x, rfl, rfl, rfl, rfl, rfl, by go_num, by omega, by omega, by omega, h4, HA3, HB3⟩, ?_⟩
            first | (simp [intOf]; omega) | go_num
          | some pa =>
            have hts : (s.extract i s.size).size = s.size - i := by simp
            have hiI : (i : Int) ≤ s.size := by omega
            have HL2 := Lib.hid (HLK.out (s.extract i s.size) w2 HB3.out (by omega))
            have HTS := Lib.hid hts
            clear hts
            -- S3
            go_wp2_with fail
            refine HL2.out.mono ?_
            rintro e w3 ⟨v, n, f, rfl, sm, hn, hv, hf⟩
            have HSM2 := Lib.hid sm
            have HA4 : Hid (Asw w0.heap.size C l w3) := HA3.out.same HSM2.out
            have HB4 : Hid (Below w0.heap.size w0 w3) := HSM2.out.low HB3.out
            rw [HTS.out] at hn
            clear sm t1 r4 r5 r1 HL2
            cases f with
            | false =>
              clear hf
              go_wp2_with fail
              refine ⟨⟨l, la, i + 1, x, rfl, rfl, rfl, rfl, rfl, by go_num, by omega, by omega, by omega, h4, HA4, HB4⟩, ?_⟩
              first | (simp [intOf]; omega) | go_num
            | true =>
              have hn0 := hf rfl
              have hn1 : ((n : Int) == 0) = false := by rw [beq_eq_false_iff_ne]; omega
              clear hf
              have hle1 : (la : Int) ≤ i := by omega
              have hsub : (s.extract la i).size = i - la := by simp; omega
              have HSZ := Lib.hid hsub
              have HW1 := Lib.hid (fun W h => HW.out l (s.extract la i) W h (by omega))
              clear hsub
              go_wp2_with fail
              have HS3 : Hid (Same w3 w3) := Same.refl w3
              go_cut [7, 10] from 79 to 90 (fun er wn wx => er = Value.nilIface ∧ (∃ x : Int, wn = .int .i64 x ∧ x = ((i - la : Nat) : Int)) ∧ Hid (Asw w0.heap.size C (l ++ (s.extract la i).data.toList) wx) ∧ Hid (Below w0.heap.size w0 wx))
              case first =>
                go_region_with (go_at_call 115; refine (HW1.out _ (by first | exact HA4.out | exact HA4.out.same HS3.out.drew | exact HA4.out.same (HS3.out.drewN _))).mono ?_; rintro e w4 ⟨rfl, HA5, hb5⟩; have HB5 := Lib.hid hb5; clear hb5)
                all_goals
                  have HB6 : Hid (Below w0.heap.size w0 w4) := by first | exact HB4.out.trans HB5.out | exact (HS3.out.drew.low HB4.out).trans HB5.out | exact ((HS3.out.drewN _).low HB4.out).trans HB5.out
                  go_wp2_with fail
                  go_meet
                  exact ⟨rfl, ⟨_, rfl, by first | rfl | rw [HSZ.out]⟩, HA5, HB6⟩
              case rest =>
              obtain ⟨rfl, ⟨x2, rfl, hx2⟩, HA5, HB5⟩ := hcut
              have hl2 : (l ++ (s.extract la i).data.toList).length = l.length + (i - la) := by rw [List.length_append, bytes_len, HSZ.out]
              have HV2 := Lib.hid hv
              have HW2 := Lib.hid (HW.out (l ++ (s.extract la i).data.toList) v wc HA5.out (by omega))
              have HL3 := Lib.hid hl2
              have hvz : (v.size : Int) ≤ 1 := by omega
              have hx3 : 0 ≤ x2 ∧ x2 ≤ 1000000000 := by omega
              obtain ⟨hx3, hx4⟩ := hx3
              clear hl2 hv HW1 HSZ
              go_wp2_with (go_at_call 115; refine HW2.out.mono ?_; rintro e w5 ⟨rfl, HA6, hb6⟩; have HB6 := Lib.hid (HB5.out.trans hb6); clear hb6)
              refine ⟨⟨l ++ (s.extract la i).data.toList ++ v.data.toList, i + n, i + n, v.size, ?_, rfl, by go_num, rfl, rfl, by go_num, by omega, by omega, by omega, ?_, HA6, HB6⟩, ?_⟩
              · rw [List.length_append, HL3.out, bytes_len]; congr 1 <;> omega
              · rw [List.length_append, HL3.out, bytes_len]; have := HV2.out; omega
              · first | (simp [intOf]; omega) | go_num
            -- E3
        -- E2
    · have hd : decide ((i : Int) ≤ s.size) = false := decide_eq_false (by omega)
      clear rT rm
      -- S5
      by_cases hls : la = s.size
      · have hd5 : ((la : Int) != s.size) = false := by rw [bne_eq_false_iff_eq]; omega
        clear hls
        go_wp2_with fail
        refine bodyPost_ret (v := .tuple #[.int .i64 (l.length : Int), Value.nilIface]) (by simp [results, Tryd.results104, go_sem]) rfl ?_
        exact ⟨⟨_, rfl⟩, ⟨l, by omega, HA2.out⟩, HB2⟩
      · have hd5 : ((la : Int) != s.size) = true := by rw [bne_iff_ne]; omega
        have hls2 : (la : Int) ≤ s.size := by omega
        have hsub : (s.extract la s.size).size = s.size - la := by simp
        have HSZ := Lib.hid hsub
        have HW1 := Lib.hid (fun W h => HW.out l (s.extract la s.size) W h (by omega))
        clear hsub hls
        go_wp2_with fail
        have HS3 : Hid (Same wr wr) := Same.refl wr
        go_cut [7, 10] from 117 to 127 (fun er wn wx => er = Value.nilIface ∧ (∃ x : Int, wn = .int .i64 x ∧ x = ((s.size - la : Nat) : Int)) ∧ Hid (Asw w0.heap.size C (l ++ (s.extract la s.size).data.toList) wx) ∧ Hid (Below w0.heap.size w0 wx))
        case first =>
          go_region_with (go_at_call 115; refine (HW1.out _ (by first | exact HA2.out | exact HA2.out.same HS3.out.drew | exact HA2.out.same (HS3.out.drewN _))).mono ?_; rintro e w4 ⟨rfl, HA5, hb5⟩; have HB5 := Lib.hid hb5; clear hb5)
          all_goals
            have HB6 : Hid (Below w0.heap.size w0 w4) := by first | exact HB2.out.trans HB5.out | exact (HS3.out.drew.low HB2.out).trans HB5.out | exact ((HS3.out.drewN _).low HB2.out).trans HB5.out
            go_wp2_with fail
            go_meet
            exact ⟨rfl, ⟨_, rfl, by first | rfl | rw [HSZ.out]⟩, HA5, HB6⟩
        case rest =>
        obtain ⟨rfl, ⟨x2, rfl, hx2⟩, HA5, HB5⟩ := hcut
        have hx3 : 0 ≤ x2 ∧ x2 ≤ 1000000000 := by omega
        obtain ⟨hx3, hx4⟩ := hx3
        go_wp2_with fail
        refine bodyPost_ret (v := .tuple #[.int .i64 ((l.length : Int) + x2), Value.nilIface]) (by simp [results, Tryd.results104, go_sem, hx2]) rfl ?_
        refine ⟨⟨_, rfl⟩, ⟨_, ?_, HA5.out⟩, HB5⟩
        rw [List.length_append, bytes_len, HSZ.out]; omega
      -- E5
end Go.Proofs.YtoalbfffojpnmaaDoor
