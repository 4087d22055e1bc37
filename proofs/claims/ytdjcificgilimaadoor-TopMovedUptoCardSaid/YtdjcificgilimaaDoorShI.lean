/- ship.Serve of a path's address, where there are no redirects. Conditions: outputs that CheckOuts lets pass; the library's variable MaxLen holds an integer. -/
import Derived.Test.YtdjcificgilimaaDoorShH
namespace Mh
open Go Go.RowKit
set_option linter.unusedVariables false
def put3 (w : World) (g : Nat) (a b c : Value) : World := ((w.setCell ⟨g, 0, none⟩ a).setCell ⟨g, 1, none⟩ b).setCell ⟨g, 2, none⟩ c
theorem put3_done {w W : World} {T : TypeId} {x y z : Value} (hB : Below w.heap.size w W) (h0 : W.heap[w.heap.size]? = some (.cells #[x, y, z] T (0, 0))) (a b c : Value) :
    (put3 W w.heap.size a b c).heap[w.heap.size]? = some (.cells #[a, b, c] T (0, 0)) ∧ Below w.heap.size w (put3 W w.heap.size a b c) := by
  have ho : ∀ k, k ≠ w.heap.size → (put3 W w.heap.size a b c).heap[k]? = W.heap[k]? := fun k hk => by
    unfold put3; rw [heap_setCell_other _ _ _ _ hk, heap_setCell_other _ _ _ _ hk, heap_setCell_other _ _ _ _ hk]
  refine ⟨?_, ⟨hB.os, hB.tape, hB.output, by unfold put3; simpa using hB.size, fun k hk => (ho k (by omega)).trans (hB.block k hk)⟩⟩
  unfold put3
  have h1 : (W.setCell ⟨w.heap.size, 0, none⟩ a).heap[w.heap.size]? = some (.cells #[a, y, z] T (0, 0)) := by rw [heap_setCell_same _ _ 0 _ _ _ h0]; rfl
  have h2 : ((W.setCell ⟨w.heap.size, 0, none⟩ a).setCell ⟨w.heap.size, 1, none⟩ b).heap[w.heap.size]? = some (.cells #[a, b, z] T (0, 0)) := by rw [heap_setCell_same _ _ 1 _ _ _ h1]; rfl
  rw [heap_setCell_same _ _ 2 _ _ _ h2]; rfl
theorem three_open {w : World} {g : Nat} {T : TypeId} {a b c : Value} (h : w.heap[g]? = some (.cells #[a, b, c] T (0, 0))) : (w.cell? ⟨g, 0, none⟩ = some a ∧ w.cell? ⟨g, 1, none⟩ = some b ∧ w.cell? ⟨g, 2, none⟩ = some c) ∧ w.frozen? ⟨g, 0, none⟩ = false ∧ w.frozen? ⟨g, 1, none⟩ = false ∧ w.frozen? ⟨g, 2, none⟩ = false :=
  ⟨⟨cellT h rfl, cellT h rfl, cellT h rfl⟩, frozenT h, frozenT h, frozenT h⟩
theorem sh_not {x : UInt8} (h : x = 47 ∨ shB (x.toNat : Int) = true) : x ≠ 35 ∧ x ≠ 63 ∧ x ≠ 37 := by
  refine ⟨fun e => ?_, fun e => ?_, fun e => ?_⟩ <;> (subst e; rcases h with h | h; exact absurd h (by decide); exact absurd h (by decide))
end Mh
namespace Go.Proofs.YtdjcificgilimaaDoor
open Go.RowKit Mh
set_option linter.unusedVariables false
def adB (o : O) : ByteArray := ⟨(adO o).toArray⟩
theorem adB_data (o : O) : (adB o).data.toList = addrL o.p.data.toList := rfl
theorem path_ok (o : O) (hp : pathB o.p.data.toList = true) (m : Int) (w : World) (hm : w.cell? ⟨0, 0, none⟩ = some (.int .i64 m)) :
    Calls Tryd.prog 6 #[.string (adB o)] w fun e w' => e = .returned (.tuple #[.string o.p, .int .i64 0]) ∧ Below w.heap.size w w' := by
  have hz : (adB o).size ≤ 1099511627776 := by
    have h1 := addr_len o.p.data.toList
    have h2 := path_len hp
    show (addrL o.p.data.toList).toArray.size ≤ _
    rw [List.size_toArray]; omega
  refine (path_any (adB o) hz m w hm).mono ?_
  rintro e w' ⟨s, r, rfl, hb, h⟩
  have h1 := h.out
  rw [adB_data, pathOf_addr hp] at h1
  obtain ⟨rfl, h2, _⟩ := h1
  rw [bytes_eq h2]
  exact ⟨rfl, hb⟩
def SvP (l : List O) (o : O) (w : World) (e : Ending) (w' : World) : Prop := ∃ (c : Int) (p b : ByteArray) (r : Int), e = .returned (.tuple #[.agg #[.int .i64 c, .string p, .string b], .int .i64 r]) ∧ Below w.heap.size w w' ∧
  Hid (∀ bb, lookO l o.p = some bb → (adB o).size ≤ 200 → r = 0 ∧ c = 200 ∧ p = o.p ∧ b = bb)
set_option maxRecDepth 100000 in
set_option maxHeartbeats 16000000 in
theorem serve_addr (v : Value) (l : List O) (ho : Outs l) (o : O) (hp : pathB o.p.data.toList = true) (m : Int) (w : World) (hm : w.cell? ⟨0, 0, none⟩ = some (.int .i64 m)) (hv : OsAt w v l) :
    Calls Tryd.prog 8 #[v, .slice none 0 0, .string (adB o)] w (SvP l o w) := by
  have hmz : 0 < w.heap.size := World.block_lt_of_cell? w _ hm
  have hby : ∀ x ∈ (adB o).data.toList, x ≠ 35 ∧ x ≠ 63 ∧ x ≠ 37 := fun x hx => sh_not (addr_bytes hp (by rw [adB_data] at hx; exact hx))
  have haz : (adB o).size ≤ 201 := by
    have h1 := addr_len o.p.data.toList
    have h2 := path_len hp
    show (addrL o.p.data.toList).toArray.size ≤ _
    rw [List.size_toArray]; omega
  have hpz : o.p.size ≤ 200 := by have := path_len hp; rw [Array.length_toList] at this; exact this
  have HPRE : Hid (∀ w', Calls Tryd.prog 16 #[.string (adB o), .string ⟨#[47]⟩] w' fun e w'' => e = .returned (.bool true) ∧ w'' = w') := fun w' => by
    have h := Tryd.strings_HasPrefix (adB o) ⟨#[47]⟩ w'
    obtain ⟨s, h1, _⟩ := path_addr hp
    rw [adB_data, h1] at h
    exact h
  have HC1 : Hid (∀ w', Calls Tryd.prog 19 #[.string (adB o), .int .u8 35] w' fun e w'' => e = .returned (.tuple #[.string (adB o), .string ⟨#[]⟩]) ∧ w'' = w') := fun w' => cutAt_no (adB o) 35 (fun h => (hby _ h).1 rfl) w'
  have HC2 : Hid (∀ w', Calls Tryd.prog 19 #[.string (adB o), .int .u8 63] w' fun e w'' => e = .returned (.tuple #[.string (adB o), .string ⟨#[]⟩]) ∧ w'' = w') := fun w' => cutAt_no (adB o) 63 (fun h => (hby _ h).2.1 rfl) w'
  have HDE := Lib.hid (fun w' => decoded_no (adB o) (by omega) (fun h => (hby _ h).2.2 rfl) w')
  have HPA := Lib.hid (fun w' (hb : Below w.heap.size w w') => path_ok o hp m w' ((hb.cell hmz).trans hm))
  have HFI := Lib.hid (fun (name : ByteArray) w' (hb : Below w.heap.size w w') => find_any v l ho name w' (hv.keep hb))
  have HKE := Lib.hid (fun w' (hb : Below w.heap.size w w') => key_any (adB o) (by omega) m w' ((hb.cell hmz).trans hm))
  have HSU := Lib.hid (fun w' => Tryd.strings_HasSuffix (adB o) ⟨#[47]⟩ w' (by omega))
  have HR0 : Hid (Below w.heap.size w (w.alloc (.cells #[.int .i64 0, .string ⟨#[]⟩, .string ⟨#[]⟩] 35))) := below_alloc _ _
  have HX0 : Hid ((w.alloc (.cells #[.int .i64 0, .string ⟨#[]⟩, .string ⟨#[]⟩] 35)).heap[w.heap.size]? = some (.cells #[.int .i64 0, .string ⟨#[]⟩, .string ⟨#[]⟩] 35 (0, 0))) := heap_alloc_new _ _
  have HZ0 : Hid (w.heap.size < (w.alloc (.cells #[.int .i64 0, .string ⟨#[]⟩, .string ⟨#[]⟩] 35)).heap.size) := by show _ < _; simp
  have HRD := Lib.hid (redirected_nil v l m _ ((HR0.out.cell hmz).trans hm) (hv.keep HR0.out))
  obtain ⟨ao, c, rfl, hlen, hat⟩ := hv.open
  have HAT := Lib.hid hat
  have HOU := Lib.hid ho
  have HPB := Lib.hid hp
  unfold opV at HFI
  unfold maxLen at hlen
  clear hv hat hm ho hp hby
  generalize hadd : adB o = a at *
  go_enter Tryd.func8, Tryd.ntmps8
  go_wp2_with fail
  refine HRD.out.mono ?_
  rintro e w1 ⟨u, r1, rfl, hb1, hr1, hu⟩
  have h1 : r1 = 0 := hr1.2 HOU.out
  obtain ⟨fb, rfl, hfm⟩ := hu h1
  subst h1
  have HB1 : Hid (Below w.heap.size w w1) := HR0.out.trans (hb1.mono HR0.out.size)
  have HX1 := Lib.hid ((hb1.block _ HZ0.out).trans HX0.out)
  have HZ1 : Hid (w.heap.size < w1.heap.size) := Nat.lt_of_lt_of_le HZ0.out hb1.size
  have HFM := Lib.hid hfm.out
  clear hr1 hu hb1 HRD HX0 HR0 HZ0 hfm
  obtain ⟨⟨x0, x1, x2⟩, f0, f1, f2⟩ := three_open HX1.out
  by_cases hlong : (200 : Int) < a.size
  · have HLO : Hid (¬ a.size ≤ 200) := by show ¬ _; omega
    go_wp2_with (go_at_call 16; refine (HPRE.out _).mono ?_; rintro e w' ⟨rfl, rfl⟩)
    have hfin := put3_done HB1.out HX1.out (.int .i64 0) (.string ⟨#[]⟩) (.string ⟨#[]⟩)
    unfold put3 at hfin
    generalize hwf : World.setCell _ _ _ = wf at hfin ⊢
    clear hwf x0 x1 x2 f0 f1 f2
    obtain ⟨⟨s0, s1, s2⟩, _⟩ := three_open hfin.1
    exact bodyPost_ret (v := .tuple #[.agg #[.int .i64 0, .string ⟨#[]⟩, .string ⟨#[]⟩], .int .i64 3]) (by simp [results, Tryd.results8, go_sem, s0, s1, s2] <;> rfl) rfl ⟨0, ⟨#[]⟩, ⟨#[]⟩, 3, rfl, hfin.2, fun bb h1 h2 => absurd (by rw [hadd] at h2; exact h2) HLO.out⟩
  have hshort : ¬ (200 : Int) < a.size := hlong
  clear hlong
  go_wp2_with (first | (go_at_call 16; refine (HPRE.out _).mono ?_; rintro e w' ⟨rfl, rfl⟩) | (go_at_call 19; first | ((with_reducible refine (HC1.out _).mono ?_); rintro e w' ⟨rfl, rfl⟩) | ((with_reducible refine (HC2.out _).mono ?_); rintro e w' ⟨rfl, rfl⟩)))
  refine (HDE.out _).mono ?_
  rintro e w2 ⟨rfl, hb2⟩
  have HB2 : Hid (Below w.heap.size w w2) := HB1.out.trans (hb2.mono HB1.out.size)
  have HFM2 := Lib.hid (HFM.out.below hb2)
  have HX2 := Lib.hid ((hb2.block _ HZ1.out).trans HX1.out)
  have hb3 : Below w2.heap.size w2 (w2.alloc (.cells #[.int .i64 404, .string ⟨#[]⟩, .string ⟨#[]⟩] 35)) := below_alloc _ _
  have hz2 : w.heap.size < w2.heap.size := Nat.lt_of_lt_of_le HZ1.out hb2.size
  have HB3 : Hid (Below w.heap.size w (w2.alloc (.cells #[.int .i64 404, .string ⟨#[]⟩, .string ⟨#[]⟩] 35))) := HB2.out.trans (hb3.mono HB2.out.size)
  have HX3 := Lib.hid ((hb3.block _ hz2).trans HX2.out)
  have HN3 : Hid ((w2.alloc (.cells #[.int .i64 404, .string ⟨#[]⟩, .string ⟨#[]⟩] 35)).heap[w2.heap.size]? = some (.cells #[.int .i64 404, .string ⟨#[]⟩, .string ⟨#[]⟩] 35 (0, 0))) := heap_alloc_new _ _
  have HFM3 := Lib.hid (HFM2.out.below hb3)
  have HPA3 := Lib.hid (HPA.out _ HB3.out)
  have HZ3 : Hid (w2.heap.size < (w2.alloc (.cells #[.int .i64 404, .string ⟨#[]⟩, .string ⟨#[]⟩] 35)).heap.size) := by show _ < _; simp
  clear hb2 hb3 HFM HFM2 HX1 HX2 HB1 HB2 HZ1 HDE HC1 HC2 HPRE HPA x0 x1 x2 f0 f1 f2
  go_wp2_with fail
  refine HPA3.out.mono ?_
  rintro e w4 ⟨rfl, hb4⟩
  have HB4 : Hid (Below w.heap.size w w4) := HB3.out.trans (hb4.mono HB3.out.size)
  have hz4 : w2.heap.size < w4.heap.size := Nat.lt_of_lt_of_le HZ3.out hb4.size
  have HX4 := Lib.hid ((hb4.block _ (by have := HZ3.out; omega)).trans HX3.out)
  have HN4 := Lib.hid ((hb4.block _ HZ3.out).trans HN3.out)
  have HFM4 := Lib.hid (HFM3.out.below hb4)
  have HF4 := Lib.hid (HFI.out o.p w4 HB4.out)
  clear hb4 HFM3 HX3 HN3 HB3 HPA3 HZ3
  go_wp2_with fail
  refine HF4.out.mono ?_
  rintro e w5 ⟨i, b, rfl, hb5, hib⟩
  have HB5 : Hid (Below w.heap.size w w5) := HB4.out.trans (hb5.mono HB4.out.size)
  have hz5 : w2.heap.size < w5.heap.size := Nat.lt_of_lt_of_le hz4 hb5.size
  have HX5 := Lib.hid ((hb5.block _ (by omega)).trans HX4.out)
  have HN5 := Lib.hid ((hb5.block _ hz4).trans HN4.out)
  have HFM5 := Lib.hid (HFM4.out.below hb5)
  obtain ⟨⟨x0, x1, x2⟩, f0, f1, f2⟩ := three_open HX5.out
  clear hb5 HFM4 HX4 HN4 HB4 HF4
  cases b with
  | true =>
    obtain ⟨hil, hip⟩ := hib.out.1 rfl
    obtain ⟨bk, off, rfl, hc1, hc2, hlt, hc, hps, hbs⟩ := HAT.out i hil
    obtain ⟨d0, d1⟩ := two_later HB5.out hlt hc
    have HLK : Hid (lookO l o.p = some l[i].b) := by show _ = _; rw [← hip]; exact HOU.out.look_at hil
    unfold maxLen at hc2
    generalize l[i] = oi at *
    clear hc hib hip
    go_wp2_with fail
    have hfin := put3_done HB5.out HX5.out (.int .i64 200) (.string o.p) (.string oi.b)
    unfold put3 at hfin
    generalize hwf : World.setCell _ _ _ = wf at hfin ⊢
    clear hwf x0 x1 x2 f0 f1 f2 d0 d1
    obtain ⟨⟨s0, s1, s2⟩, _⟩ := three_open hfin.1
    exact bodyPost_ret (v := .tuple #[.agg #[.int .i64 200, .string o.p, .string oi.b], .int .i64 0]) (by simp [results, Tryd.results8, go_sem, s0, s1, s2] <;> rfl) rfl ⟨200, o.p, oi.b, 0, rfl, hfin.2, fun bb h1 h2 => ⟨rfl, rfl, rfl, by rw [HLK.out] at h1; exact Option.some.inj h1⟩⟩
  | false =>
    have HNO := Lib.hid (hib.out.2 rfl)
    have hpz2 : (o.p ++ (⟨#[47]⟩ : ByteArray) ++ (⟨#[105, 110, 100, 101, 120, 46, 104, 116, 109, 108]⟩ : ByteArray)).size ≤ 1000 := by rw [ByteArray.size_append, ByteArray.size_append]; show o.p.size + 1 + 10 ≤ 1000; omega
    have HF6 := Lib.hid (HFI.out (o.p ++ (⟨#[47]⟩ : ByteArray) ++ (⟨#[105, 110, 100, 101, 120, 46, 104, 116, 109, 108]⟩ : ByteArray)) w5 HB5.out)
    clear hib x0 x1 x2 f0 f1 f2
    go_wp2_with fail
    refine HF6.out.mono ?_
    rintro e w6 ⟨i2, b2, rfl, hb6, _⟩
    have HB6 : Hid (Below w.heap.size w w6) := HB5.out.trans (hb6.mono HB5.out.size)
    have hz6 : w2.heap.size < w6.heap.size := Nat.lt_of_lt_of_le hz5 hb6.size
    have HX6 := Lib.hid ((hb6.block _ (by omega)).trans HX5.out)
    have HN6 := Lib.hid ((hb6.block _ hz5).trans HN5.out)
    have HFM6 := Lib.hid (HFM5.out.below hb6)
    clear hb6 HFM5 HX5 HN5 HB5 HF6 hpz2
    cases b2 with
    | false =>
      have HK7 := Lib.hid (HKE.out w6 HB6.out)
      go_wp2_with (fail)
      refine HK7.out.mono ?_
      rintro e w7 ⟨k, kb, rfl, hb7, hkz⟩
      have HB7 : Hid (Below w.heap.size w w7) := HB6.out.trans (hb7.mono HB6.out.size)
      have HX7 := Lib.hid ((hb7.block _ (by omega)).trans HX6.out)
      have HN7 := Lib.hid ((hb7.block _ hz6).trans HN6.out)
      have HFM7 := Lib.hid (HFM6.out.below hb7)
      have hkz2 : k.size ≤ maxLen := by unfold maxLen; omega
      obtain ⟨⟨x0, x1, x2⟩, f0, f1, f2⟩ := three_open HX7.out
      obtain ⟨⟨n0, n1, n2⟩, _⟩ := three_open HN7.out
      clear hb7 HK7
      go_wp2_with (at_lookup; refine wpList_lookF _ rfl _ _ 42 rfl 9 9 Tryd.underlying9 Tryd.underlying42 (.string ⟨#[]⟩) (zeroStr _) fb _ _ rfl HFM7.out k rfl hkz2 (.string ⟨#[]⟩) rfl ?_)
      have hfin := put3_done HB7.out HX7.out (.int .i64 404) (.string ⟨#[]⟩) (.string ⟨#[]⟩)
      unfold put3 at hfin
      generalize hwf : World.setCell _ _ _ = wf at hfin ⊢
      clear hwf x0 x1 x2 f0 f1 f2 n0 n1 n2
      obtain ⟨⟨s0, s1, s2⟩, _⟩ := three_open hfin.1
      exact bodyPost_ret (v := .tuple #[.agg #[.int .i64 404, .string ⟨#[]⟩, .string ⟨#[]⟩], .int .i64 0]) (by simp [results, Tryd.results8, go_sem, s0, s1, s2] <;> rfl) rfl ⟨404, ⟨#[]⟩, ⟨#[]⟩, 0, rfl, hfin.2, fun bb h1 h2 => (by rw [HNO.out] at h1; cases h1)⟩
    | true =>
      have HS7 := Lib.hid (HSU.out w6)
      cases hsf : Lib.hasSuffix a.data.toList ((⟨#[47]⟩ : ByteArray).data.toList) with
      | false =>
        rw [hsf] at HS7
        clear hsf
        obtain ⟨⟨x0, x1, x2⟩, f0, f1, f2⟩ := three_open HX6.out
        go_wp2_with (go_at_call 11; (with_reducible refine HS7.out.mono ?_); rintro e w' ⟨rfl, rfl⟩)
        have hfin := put3_done HB6.out HX6.out (.int .i64 301) (.string (a ++ (⟨#[47]⟩ : ByteArray))) (.string ⟨#[]⟩)
        unfold put3 at hfin
        generalize hwf : World.setCell _ _ _ = wf at hfin ⊢
        clear hwf x0 x1 x2 f0 f1 f2
        obtain ⟨⟨s0, s1, s2⟩, _⟩ := three_open hfin.1
        exact bodyPost_ret (v := .tuple #[.agg #[.int .i64 301, .string (a ++ (⟨#[47]⟩ : ByteArray)), .string ⟨#[]⟩], .int .i64 0]) (by simp [results, Tryd.results8, go_sem, s0, s1, s2] <;> rfl) rfl ⟨301, (a ++ (⟨#[47]⟩ : ByteArray)), ⟨#[]⟩, 0, rfl, hfin.2, fun bb h1 h2 => (by rw [HNO.out] at h1; cases h1)⟩
      | true =>
        rw [hsf] at HS7
        clear hsf
        have HK7 := Lib.hid (HKE.out w6 HB6.out)
        go_wp2_with (go_at_call 11; (with_reducible refine HS7.out.mono ?_); rintro e w' ⟨rfl, rfl⟩)
        refine HK7.out.mono ?_
        rintro e w7 ⟨k, kb, rfl, hb7, hkz⟩
        have HB7 : Hid (Below w.heap.size w w7) := HB6.out.trans (hb7.mono HB6.out.size)
        have HX7 := Lib.hid ((hb7.block _ (by omega)).trans HX6.out)
        have HN7 := Lib.hid ((hb7.block _ hz6).trans HN6.out)
        have HFM7 := Lib.hid (HFM6.out.below hb7)
        have hkz2 : k.size ≤ maxLen := by unfold maxLen; omega
        obtain ⟨⟨x0, x1, x2⟩, f0, f1, f2⟩ := three_open HX7.out
        obtain ⟨⟨n0, n1, n2⟩, _⟩ := three_open HN7.out
        clear hb7 HK7
        go_wp2_with (at_lookup; refine wpList_lookF _ rfl _ _ 42 rfl 9 9 Tryd.underlying9 Tryd.underlying42 (.string ⟨#[]⟩) (zeroStr _) fb _ _ rfl HFM7.out k rfl hkz2 (.string ⟨#[]⟩) rfl ?_)
        have hfin := put3_done HB7.out HX7.out (.int .i64 404) (.string ⟨#[]⟩) (.string ⟨#[]⟩)
        unfold put3 at hfin
        generalize hwf : World.setCell _ _ _ = wf at hfin ⊢
        clear hwf x0 x1 x2 f0 f1 f2 n0 n1 n2
        obtain ⟨⟨s0, s1, s2⟩, _⟩ := three_open hfin.1
        exact bodyPost_ret (v := .tuple #[.agg #[.int .i64 404, .string ⟨#[]⟩, .string ⟨#[]⟩], .int .i64 0]) (by simp [results, Tryd.results8, go_sem, s0, s1, s2] <;> rfl) rfl ⟨404, ⟨#[]⟩, ⟨#[]⟩, 0, rfl, hfin.2, fun bb h1 h2 => (by rw [HNO.out] at h1; cases h1)⟩
end Go.Proofs.YtdjcificgilimaaDoor
