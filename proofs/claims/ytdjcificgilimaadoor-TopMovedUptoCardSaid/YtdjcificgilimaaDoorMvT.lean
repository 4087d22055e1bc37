/- ship.Serve of a redirect's From. Conditions: outputs that CheckOuts lets pass; the library's variable MaxLen holds an integer. -/
import Derived.Test.YtdjcificgilimaaDoorMvN
import Derived.Test.YtdjcificgilimaaDoorShI
namespace Mh
open Go Go.RowKit
set_option linter.unusedVariables false
/-- A redirect that is resolved. -/
structure FromOk (rs l : List O) (q : O) (p : ByteArray) : Prop where
  hp : pathOfL q.p.data.toList = some p.data.toList
  no : ∀ o ∈ l, o.p ≠ p
  nodir : Lib.hasSuffix q.p.data.toList [47] = false → ∀ o ∈ l, o.p ≠ p ++ (⟨#[47]⟩ : ByteArray) ++ (⟨#[105, 110, 100, 101, 120, 46, 104, 116, 109, 108]⟩ : ByteArray)
  tgt : fromF (sortR rs l) (key0 q.p) = some q.b
  ad : ∃ o ∈ l, q.b = adBP o
theorem from_ok {rs l : List O} (h : MovOk rs) {q : O} (hq : q ∈ sortR rs l) : ∃ p : ByteArray, FromOk rs l q p := by
  obtain ⟨r, hr, e1, e2⟩ := good_mem (sort_mem.1 hq)
  obtain ⟨h0, o, ho, h1⟩ := res_some e2
  have hro := h.2.1 r hr
  obtain ⟨p, h2, h3⟩ := key0_of hro.1
  refine ⟨⟨p.toArray⟩, by rw [e1, h2], fun o ho e => ?_, fun hs o ho e => ?_, fromF_at h hq, o, ho, h1.symm⟩
  · exact from_no hro h2 h0 o ho (by rw [e])
  · rw [e1] at hs
    exact from_nodir hro h2 h0 hs o ho (by rw [e]; simp [ByteArray.data_append]; rfl)
theorem FromOk.bytes {rs l : List O} {q : O} {p : ByteArray} (h : FromOk rs l q p) {x : UInt8} (hx : x ∈ q.p.data.toList) : x ≠ 35 ∧ x ≠ 63 ∧ x ≠ 37 := sh_not (from_bytes h.hp hx)
theorem FromOk.pre {rs l : List O} {q : O} {p : ByteArray} (h : FromOk rs l q p) : ∃ s, q.p.data.toList = 47 :: s := by
  obtain ⟨s, h1, _⟩ := pathOf_some h.hp
  exact ⟨s, h1⟩
theorem FromOk.size {rs l : List O} {q : O} {p : ByteArray} (h : FromOk rs l q p) : p.size ≤ 200 := by
  obtain ⟨s, _, _, h1⟩ := pathOf_some h.hp
  have := path_len h1
  rw [Array.length_toList] at this
  exact this
theorem FromOk.ne {rs l : List O} {q : O} {p : ByteArray} (ho : Outs l) (h : FromOk rs l q p) : q.b.toList.isEmpty = false := by
  obtain ⟨o, hm, e⟩ := h.ad
  obtain ⟨s, h1, _⟩ := path_addr (ho.path hm)
  rw [ByteArray.toList_eq, e, show (adBP o).data.toList = addrL o.p.data.toList from rfl, h1]
  rfl
end Mh
namespace Go.Proofs.YtdjcificgilimaaDoor
open Go.RowKit Mh
set_option linter.unusedVariables false
def SvF (q : O) (w : World) (e : Ending) (w' : World) : Prop := ∃ (c : Int) (p b : ByteArray) (r : Int), e = .returned (.tuple #[.agg #[.int .i64 c, .string p, .string b], .int .i64 r]) ∧ Below w.heap.size w w' ∧
  Hid (q.p.size ≤ 200 → r = 0 ∧ c = 301 ∧ p = q.b)
set_option maxRecDepth 100000 in
set_option maxHeartbeats 16000000 in
theorem serve_from (v u : Value) (l rs : List O) (ho : Outs l) (hok : MovOk rs) (q : O) (hq : q ∈ sortR rs l) (m : Int) (w : World) (hm : w.cell? ⟨0, 0, none⟩ = some (.int .i64 m)) (hv : OsAt w v l) (hu : OsAt w u rs)
    (hsz : ∀ r ∈ rs, r.p.size ≤ 1099511627776 ∧ r.b.size ≤ 1099511627776) : Calls Tryd.prog 8 #[v, u, .string q.p] w (SvF q w) := by
  have hmz : 0 < w.heap.size := World.block_lt_of_cell? w _ hm
  obtain ⟨p, hf⟩ := from_ok hok hq
  have hby : ∀ x ∈ q.p.data.toList, x ≠ 35 ∧ x ≠ 63 ∧ x ≠ 37 := fun x hx => hf.bytes hx
  have haz : q.p.size ≤ 1099511627776 := by
    obtain ⟨r, hr, e1, _⟩ := good_mem (sort_mem.1 hq)
    rw [e1]; exact (hsz r hr).1
  have hpz : p.size ≤ 200 := hf.size
  have HPRE : Hid (∀ w', Calls Tryd.prog 16 #[.string q.p, .string ⟨#[47]⟩] w' fun e w'' => e = .returned (.bool true) ∧ w'' = w') := fun w' => by
    have h := Tryd.strings_HasPrefix q.p ⟨#[47]⟩ w'
    obtain ⟨s, h1⟩ := hf.pre
    rw [h1] at h
    exact h
  have HC1 : Hid (∀ w', Calls Tryd.prog 19 #[.string q.p, .int .u8 35] w' fun e w'' => e = .returned (.tuple #[.string q.p, .string ⟨#[]⟩]) ∧ w'' = w') := fun w' => cutAt_no q.p 35 (fun h => (hby _ h).1 rfl) w'
  have HC2 : Hid (∀ w', Calls Tryd.prog 19 #[.string q.p, .int .u8 63] w' fun e w'' => e = .returned (.tuple #[.string q.p, .string ⟨#[]⟩]) ∧ w'' = w') := fun w' => cutAt_no q.p 63 (fun h => (hby _ h).2.1 rfl) w'
  have HDE := Lib.hid (fun w' => decoded_no q.p haz (fun h => (hby _ h).2.2 rfl) w')
  have HPA : Hid (∀ w', Below w.heap.size w w' → Calls Tryd.prog 6 #[.string q.p] w' fun e w'' => e = .returned (.tuple #[.string p, .int .i64 0]) ∧ Below w'.heap.size w' w'') := fun w' hb => by
    refine (path_any q.p haz m w' ((hb.cell hmz).trans hm)).mono ?_
    rintro e w'' ⟨s, r, rfl, hb2, hs⟩
    have h1 := hs.out
    rw [hf.hp] at h1
    obtain ⟨rfl, h2, _⟩ := h1
    rw [bytes_eq h2]
    exact ⟨rfl, hb2⟩
  have HFI := Lib.hid (fun (name : ByteArray) w' (hb : Below w.heap.size w w') => find_any v l ho name w' (hv.keep hb))
  have HKE := Lib.hid (fun w' (hb : Below w.heap.size w w') => keyB_any q.p haz m w' ((hb.cell hmz).trans hm))
  have HSU := Lib.hid (fun w' => Tryd.strings_HasSuffix q.p ⟨#[47]⟩ w' (by omega))
  have HR0 : Hid (Below w.heap.size w (w.alloc (.cells #[.int .i64 0, .string ⟨#[]⟩, .string ⟨#[]⟩] 35))) := below_alloc _ _
  have HX0 : Hid ((w.alloc (.cells #[.int .i64 0, .string ⟨#[]⟩, .string ⟨#[]⟩] 35)).heap[w.heap.size]? = some (.cells #[.int .i64 0, .string ⟨#[]⟩, .string ⟨#[]⟩] 35 (0, 0))) := heap_alloc_new _ _
  have HZ0 : Hid (w.heap.size < (w.alloc (.cells #[.int .i64 0, .string ⟨#[]⟩, .string ⟨#[]⟩] 35)).heap.size) := by show _ < _; simp
  have HRD := Lib.hid (redirected_any v u l rs m _ ((HR0.out.cell hmz).trans hm) (hv.keep HR0.out) (hu.keep HR0.out) hsz)
  obtain ⟨ao, c, rfl, hlen, hat⟩ := hv.open
  have HAT := Lib.hid hat
  obtain ⟨bo, uc, rfl, _, _⟩ := hu.open
  have HOU := Lib.hid ho
  have HOK := Lib.hid hok
  have HFR := Lib.hid hf
  have hne := hf.ne ho
  have HKZ : Hid ((key0 q.p).size ≤ maxLen) := Nat.le_trans key0_size (by decide)
  have HTO := Lib.hid hf.tgt
  have HNO : Hid (∀ i (h : i < l.length), l[i].p ≠ p) := fun i h => hf.no _ (List.getElem_mem h)
  have HND : Hid (Lib.hasSuffix q.p.data.toList [47] = false → ∀ i (h : i < l.length), l[i].p ≠ p ++ (⟨#[47]⟩ : ByteArray) ++ (⟨#[105, 110, 100, 101, 120, 46, 104, 116, 109, 108]⟩ : ByteArray)) := fun hs i h => hf.nodir hs _ (List.getElem_mem h)
  unfold opV at HFI
  unfold maxLen at hlen
  clear hv hat hm ho hok hf hby hu hsz hq
  generalize hadd : q.p = a at *
  have HADD := Lib.hid hadd
  generalize hqb : q.b = qb at hne HTO
  have HQB := Lib.hid hqb
  clear hqb
  generalize key0 a = ka at *
  generalize (keyB a).isSome = kab at *
  clear hadd
  go_enter Tryd.func8, Tryd.ntmps8
  go_wp2_with fail
  refine HRD.out.mono ?_
  rintro e w1 ⟨u, r1, rfl, hb1, hr1, hu⟩
  have h1 : r1 = 0 := hr1.2 ⟨HOU.out, HOK.out⟩
  obtain ⟨fb, rfl, hfm⟩ := hu h1
  subst h1
  have HB1 : Hid (Below w.heap.size w w1) := HR0.out.trans (hb1.mono HR0.out.size)
  have HX1 := Lib.hid ((hb1.block _ HZ0.out).trans HX0.out)
  have HZ1 : Hid (w.heap.size < w1.heap.size) := Nat.lt_of_lt_of_le HZ0.out hb1.size
  have HFM := Lib.hid hfm.out
  clear hr1 hu hb1 HRD HX0 HR0 HZ0 hfm
  obtain ⟨⟨x0, x1, x2⟩, f0, f1, f2⟩ := three_open HX1.out
  by_cases hlong : (200 : Int) < a.size
  · have HLO : Hid (¬ a.size ≤ 200) := by show ¬ _; omega
    go_wp2_with (go_at_call 16; refine (HPRE.out _).mono ?_; rintro e w' ⟨rfl, rfl⟩)
    have hfin := put3_done HB1.out HX1.out (.int .i64 0) (.string ⟨#[]⟩) (.string ⟨#[]⟩)
    unfold put3 at hfin
    generalize hwf : World.setCell _ _ _ = wf at hfin ⊢
    clear hwf x0 x1 x2 f0 f1 f2
    obtain ⟨⟨s0, s1, s2⟩, _⟩ := three_open hfin.1
    exact bodyPost_ret (v := .tuple #[.agg #[.int .i64 0, .string ⟨#[]⟩, .string ⟨#[]⟩], .int .i64 3]) (by simp [results, Tryd.results8, go_sem, s0, s1, s2] <;> rfl) rfl ⟨0, ⟨#[]⟩, ⟨#[]⟩, 3, rfl, hfin.2, fun h2 => absurd (by rw [HADD.out] at h2; exact h2) HLO.out⟩
  have hshort : ¬ (200 : Int) < a.size := hlong
  clear hlong
  go_wp2_with (first | (go_at_call 16; refine (HPRE.out _).mono ?_; rintro e w' ⟨rfl, rfl⟩) | (go_at_call 19; first | ((with_reducible refine (HC1.out _).mono ?_); rintro e w' ⟨rfl, rfl⟩) | ((with_reducible refine (HC2.out _).mono ?_); rintro e w' ⟨rfl, rfl⟩)))
  refine (HDE.out _).mono ?_
  rintro e w2 ⟨rfl, hb2⟩
  have HB2 : Hid (Below w.heap.size w w2) := HB1.out.trans (hb2.mono HB1.out.size)
  have HFM2 := Lib.hid (HFM.below hb2)
  have HX2 := Lib.hid ((hb2.block _ HZ1.out).trans HX1.out)
  have hb3 : Below w2.heap.size w2 (w2.alloc (.cells #[.int .i64 404, .string ⟨#[]⟩, .string ⟨#[]⟩] 35)) := below_alloc _ _
  have hz2 : w.heap.size < w2.heap.size := Nat.lt_of_lt_of_le HZ1.out hb2.size
  have HB3 : Hid (Below w.heap.size w (w2.alloc (.cells #[.int .i64 404, .string ⟨#[]⟩, .string ⟨#[]⟩] 35))) := HB2.out.trans (hb3.mono HB2.out.size)
  have HX3 := Lib.hid ((hb3.block _ hz2).trans HX2.out)
  have HFM3 := Lib.hid (HFM2.out.below hb3)
  have HPA3 := Lib.hid (HPA.out _ HB3.out)
  clear hb2 hb3 HFM HFM2 HX1 HX2 HB1 HB2 HZ1 HDE HC1 HC2 HPRE HPA x0 x1 x2 f0 f1 f2
  go_wp2_with fail
  refine HPA3.out.mono ?_
  rintro e w4 ⟨rfl, hb4⟩
  have HB4 : Hid (Below w.heap.size w w4) := HB3.out.trans (hb4.mono HB3.out.size)
  have hz3 : w.heap.size < (w2.alloc (.cells #[.int .i64 404, .string ⟨#[]⟩, .string ⟨#[]⟩] 35)).heap.size := by simp; omega
  have hz4 : w.heap.size < w4.heap.size := Nat.lt_of_lt_of_le hz3 hb4.size
  have HX4 := Lib.hid ((hb4.block _ hz3).trans HX3.out)
  have HFM4 := Lib.hid (HFM3.out.below hb4)
  have HF4 := Lib.hid (HFI.out p w4 HB4.out)
  clear hb4 HFM3 HX3 HB3 HPA3 hz3
  go_wp2_with fail
  refine HF4.out.mono ?_
  rintro e w5 ⟨i, b, rfl, hb5, hib⟩
  have hbf : b = false := by
    cases b with
    | false => rfl
    | true => obtain ⟨hil, hip⟩ := hib.out.1 rfl; exact absurd hip (HNO.out i hil)
  subst hbf
  have HB5 : Hid (Below w.heap.size w w5) := HB4.out.trans (hb5.mono HB4.out.size)
  have hz5 : w.heap.size < w5.heap.size := Nat.lt_of_lt_of_le hz4 hb5.size
  have HX5 := Lib.hid ((hb5.block _ hz4).trans HX4.out)
  have HFM5 := Lib.hid (HFM4.out.below hb5)
  clear hb5 HFM4 HX4 HB4 HF4 hib hz4
  have hpz2 : (p ++ (⟨#[47]⟩ : ByteArray) ++ (⟨#[105, 110, 100, 101, 120, 46, 104, 116, 109, 108]⟩ : ByteArray)).size ≤ 1000 := by rw [ByteArray.size_append, ByteArray.size_append]; show p.size + 1 + 10 ≤ 1000; omega
  have HF6 := Lib.hid (HFI.out (p ++ (⟨#[47]⟩ : ByteArray) ++ (⟨#[105, 110, 100, 101, 120, 46, 104, 116, 109, 108]⟩ : ByteArray)) w5 HB5.out)
  go_wp2_with fail
  refine HF6.out.mono ?_
  rintro e w6 ⟨i2, b2, rfl, hb6, hib⟩
  have HDI : Hid (b2 = true → Lib.hasSuffix a.data.toList [47] = true) := fun h => by
    obtain ⟨hil, hip⟩ := hib.out.1 h
    cases hs : Lib.hasSuffix a.data.toList [47] with
    | true => rfl
    | false => exact absurd hip (HND.out hs i2 hil)
  have HB6 : Hid (Below w.heap.size w w6) := HB5.out.trans (hb6.mono HB5.out.size)
  have hz6 : w.heap.size < w6.heap.size := Nat.lt_of_lt_of_le hz5 hb6.size
  have HX6 := Lib.hid ((hb6.block _ hz5).trans HX5.out)
  have HFM6 := Lib.hid (HFM5.out.below hb6)
  clear hb6 HFM5 HX5 HB5 HF6 hpz2 hib hz5
  have HK7 := Lib.hid (HKE.out w6 HB6.out)
  have HS7 := Lib.hid (HSU.out w6)
  cases b2 with
  | false =>
    go_wp2_with (fail)
    refine HK7.out.mono ?_
    rintro e w7 ⟨rfl, hb7⟩
    have HB7 : Hid (Below w.heap.size w w7) := HB6.out.trans (hb7.mono HB6.out.size)
    have HX7 := Lib.hid ((hb7.block _ hz6).trans HX6.out)
    have hrun := (HFM6.out.below hb7).look HKZ.out HTO.out
    obtain ⟨⟨x0, x1, x2⟩, f0, f1, f2⟩ := three_open HX7.out
    clear hb7 HK7
    go_wp2_with fail
    have hfin := put3_done HB7.out HX7.out (.int .i64 301) (.string qb) (.string ⟨#[]⟩)
    unfold put3 at hfin
    generalize hwf : World.setCell _ _ _ = wf at hfin ⊢
    clear hwf x0 x1 x2 f0 f1 f2
    obtain ⟨⟨s0, s1, s2⟩, _⟩ := three_open hfin.1
    exact bodyPost_ret (v := .tuple #[.agg #[.int .i64 301, .string qb, .string ⟨#[]⟩], .int .i64 0]) (by simp [results, Tryd.results8, go_sem, s0, s1, s2] <;> rfl) rfl ⟨301, qb, ⟨#[]⟩, 0, rfl, hfin.2, fun _ => ⟨rfl, rfl, HQB.out.symm⟩⟩
  | true =>
    have hsx : Lib.hasSuffix a.data.toList ((⟨#[47]⟩ : ByteArray).data.toList) = true := HDI.out rfl
    rw [hsx] at HS7
    clear hsx
    go_wp2_with (go_at_call 11; (with_reducible refine HS7.out.mono ?_); rintro e w' ⟨rfl, rfl⟩)
    refine HK7.out.mono ?_
    rintro e w7 ⟨rfl, hb7⟩
    have HB7 : Hid (Below w.heap.size w w7) := HB6.out.trans (hb7.mono HB6.out.size)
    have HX7 := Lib.hid ((hb7.block _ hz6).trans HX6.out)
    have hrun := (HFM6.out.below hb7).look HKZ.out HTO.out
    obtain ⟨⟨x0, x1, x2⟩, f0, f1, f2⟩ := three_open HX7.out
    clear hb7 HK7
    go_wp2_with fail
    have hfin := put3_done HB7.out HX7.out (.int .i64 301) (.string qb) (.string ⟨#[]⟩)
    unfold put3 at hfin
    generalize hwf : World.setCell _ _ _ = wf at hfin ⊢
    clear hwf x0 x1 x2 f0 f1 f2
    obtain ⟨⟨s0, s1, s2⟩, _⟩ := three_open hfin.1
    exact bodyPost_ret (v := .tuple #[.agg #[.int .i64 301, .string qb, .string ⟨#[]⟩], .int .i64 0]) (by simp [results, Tryd.results8, go_sem, s0, s1, s2] <;> rfl) rfl ⟨301, qb, ⟨#[]⟩, 0, rfl, hfin.2, fun _ => ⟨rfl, rfl, HQB.out.symm⟩⟩
end Go.Proofs.YtdjcificgilimaaDoor
