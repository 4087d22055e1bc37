/- ship.Moved and redirected where there are no redirects. Conditions: the library's variable MaxLen holds an integer. -/
import Derived.Test.YtdjcificgilimaaDoorShG
import Derived.Shelf.GgSortMore.Stable
import Derived.WalkMore
namespace Go.Proofs.YtdjcificgilimaaDoor
open Go.RowKit Mh Go.Sort
set_option linter.unusedVariables false
theorem stable_nil (lf : Fn) (la lb : Array Value) (w : World) : Calls Tryd.prog 14 #[.iface 23 (.slice none 0 0), .func lf la lb] w fun e w' => e = .returned (.tuple #[]) ∧ Below w.heap.size w w' := by
  obtain ⟨i, hi, hd⟩ := Option.map_eq_some_iff.1 (show (Tryd.prog.info? 23).map (·.desc) = some (.slice 29) by kernel_rfl)
  obtain ⟨ie, hie, _⟩ := Option.map_eq_some_iff.1 (show (Tryd.prog.info? 29).map (fun _ => true) = some true by kernel_rfl)
  refine (Any.sort_SliceStable_tiny Tryd.laysGt8 23 29 i ie hi hd (by kernel_rfl) hie 25 (by intro w; kernel_rfl) none 0 0 (by omega) 36 (by kernel_rfl) lf la lb w).mono ?_
  rintro e w' ⟨rfl, os, rfl⟩
  exact ⟨rfl, ⟨rfl, rfl, rfl, by simp, fun k hk => heap_grow_old _ _ hk⟩⟩
def MovP (l : List O) (w : World) (e : Ending) (w' : World) : Prop := ∃ r : Int, e = .returned (.tuple #[.slice none 0 0, .slice none 0 0, .int .i64 r]) ∧ Below w.heap.size w w' ∧ (r = 0 ↔ Outs l)
set_option maxRecDepth 100000 in
set_option maxHeartbeats 8000000 in
theorem moved_nil (v : Value) (l : List O) (m : Int) (w : World) (hm : w.cell? ⟨0, 0, none⟩ = some (.int .i64 m)) (hv : OsAt w v l) : Calls Tryd.prog 5 #[v, .slice none 0 0] w (MovP l w) := by
  have hmz : 0 < w.heap.size := World.block_lt_of_cell? w _ hm
  have HML : Hid (∀ w', Below w.heap.size w w' → w'.cell? ⟨0, 0, none⟩ = some (.int .i64 m)) := fun w' hb => (hb.cell hmz).trans hm
  obtain ⟨ao, c, rfl, hlen, hat⟩ := hv.open
  have HAT := Lib.hid hat
  have C1 := Lib.hid (checkOuts_any _ l m w hm hv)
  have HTS := Lib.hid (fun (s : ByteArray) (hs : s.size ≤ 9223372036854775807) w' => Tryd.strings_TrimSuffix s ⟨#[47]⟩ w' hs)
  have HST := Lib.hid (fun (lf : Fn) (la lb : Array Value) w' => stable_nil lf la lb w')
  unfold maxLen at hlen
  clear hv hat hm
  go_enter Tryd.func5, Tryd.ntmps5
  go_wp2_with fail
  go_step3
  go_wp2_with fail
  refine C1.out.mono ?_
  rintro e w1 ⟨r1, rfl, hr1, hb1⟩
  have HB1 := Lib.hid hb1
  clear hb1 C1
  by_cases h1 : r1 = 0
  case neg =>
    have hq : (r1 != 0) = true := by rw [bne_iff_ne]; exact h1
    have HR := Lib.hid hr1
    clear h1 hr1
    go_wp2_with fail
    rw [Exit.noGoto_ret]
    exact bodyPost_ret (v := .tuple #[.slice none 0 0, .slice none 0 0, .int .i64 r1]) (by simp [results, Tryd.results5, go_sem]) rfl ⟨_, rfl, HB1.out, HR.out⟩
  have HO := Lib.hid (hr1.1 h1)
  have hq : (r1 != 0) = false := by rw [bne_eq_false_iff_eq]; exact h1
  have hl480 := HO.out.1
  clear h1 hr1
  go_wp2_with (rw [run_makeMap])
  have HB2 : Hid (Below w.heap.size w (w1.alloc (.map #[] 0))) := HB1.out.alloc HB1.out.size _
  generalize World.alloc _ _ = w2 at HB2 ⊢
  go_loopw [45] (fun i wr => i = .int .i64 0 ∧ Hid (Below w.heap.size w wr)) (fun _ wr => 0)
  case atStart => exact ⟨rfl, HB2⟩
  case round =>
    clear HB2
    obtain ⟨rfl, HB2⟩ := hrel
    obtain ⟨w3, rfl⟩ : ∃ w3 : World, w3 = wr := ⟨_, rfl⟩
    have HM0 : Hid (MapF Tryd.prog 9 (w3.alloc (.map #[] 0)) w3.heap.size 0 (fun _ => none)) := mapF_made w3 Tryd.prog 9
    have HB3 : Hid (Below w.heap.size w (w3.alloc (.map #[] 0))) := HB2.out.alloc HB2.out.size _
    go_wp2_with (rw [run_makeMap])
    go_loopw [91] (fun i wr => ∃ (k : Nat) (f : ByteArray → Option Value), k ≤ l.length ∧ i = .int .i64 k ∧ Hid (MapF Tryd.prog 9 wr w3.heap.size k f) ∧ Hid (Below w.heap.size w wr)) (fun i wr => l.length - (intOf i).toNat)
    case atStart => exact ⟨0, _, Nat.zero_le _, rfl, HM0, HB3⟩
    case round =>
      clear HM0 HB3
      obtain ⟨k, f, hk, rfl, HM, HB⟩ := hrel
      by_cases hkl : k < l.length
      · obtain ⟨b, off, rfl, hc1, hc2, hlt, hc, hps, hbs⟩ := HAT.out k hkl
        obtain ⟨d0, d1⟩ := two_later HB.out hlt hc
        have hBW : Below wr.heap.size wr (wr.alloc (.cells #[.string l[k].p, .string l[k].b] 41)) := below_alloc _ _
        have HBW : Hid (Below w.heap.size w (wr.alloc (.cells #[.string l[k].p, .string l[k].b] 41))) := HB.out.trans (hBW.mono HB.out.size)
        have HX1 : Hid ((wr.alloc (.cells #[.string l[k].p, .string l[k].b] 41)).heap[wr.heap.size]? = some (.cells #[.string l[k].p, .string l[k].b] 41 (0, 0))) := heap_alloc_new _ _
        have HM1 := Lib.hid (HM.out.alloc (.cells #[.string l[k].p, .string l[k].b] 41))
        have HZ : Hid (k < maxLen) := by unfold maxLen; show _ < _; omega
        have HAD := Lib.hid (address_ok l[k] hps (HO.out.2 k hkl).1 m _ (HML.out _ HBW.out))
        obtain ⟨e0, e1⟩ := pair_of_block HX1.out
        have hadz : (⟨(adO l[k]).toArray⟩ : ByteArray).size ≤ 201 := by
          have h1 := addr_len l[k].p.data.toList
          have h2 := path_len (HO.out.2 k hkl).1
          show (addrL l[k].p.data.toList).toArray.size ≤ 201
          rw [List.size_toArray]; omega
        generalize hou : (⟨(adO l[k]).toArray⟩ : ByteArray) = ad at *
        have HT2 := Lib.hid (fun w' => HTS.out ad (by omega) w')
        have htz : (⟨(Lib.trimSuffix ad.data.toList ((⟨#[47]⟩ : ByteArray).data.toList)).toArray⟩ : ByteArray).size ≤ maxLen := by
          show (Lib.trimSuffix ad.data.toList _).toArray.size ≤ maxLen
          rw [List.size_toArray]
          have h3 : ad.data.toList.length = ad.size := Array.length_toList
          unfold Lib.trimSuffix maxLen
          split
          · rw [List.length_take]; omega
          · omega
        generalize (⟨(Lib.trimSuffix ad.data.toList ((⟨#[47]⟩ : ByteArray).data.toList)).toArray⟩ : ByteArray) = kk at *
        clear hBW hc hou
        generalize l[k] = o at *
        go_wp2_with fail
        refine HAD.out.mono ?_
        rintro e w5 ⟨rfl, hb5⟩
        have HM5 := Lib.hid (HM1.out.below hb5)
        have HB5 : Hid (Below w.heap.size w w5) := HBW.out.trans (hb5.mono HBW.out.size)
        have hzm : w.heap.size ≤ w3.heap.size := HB2.out.size
        clear hb5 HAD HM1 HBW HX1 e0 e1 d0 d1
        go_wp2_with (first | (go_at_call 13; refine (HT2.out _).mono ?_; rintro e w' ⟨rfl, rfl⟩) | (at_mapUpdate; refine wpList_putF _ rfl _ _ _ 42 rfl 9 9 Tryd.underlying9 Tryd.underlying42 w3.heap.size k _ rfl HM5.out HZ.out kk rfl htz _ rfl ?_; intro w6 hM6 hg6))
        have HM6 := Lib.hid hM6
        have HB6 : Hid (Below w.heap.size w w6) := below_grown HB5.out hg6 hzm
        clear hM6 hg6 HM5 HB5
        go_roundw
        case rel => exact ⟨k + 1, _, by omega, by go_num, HM6, HB6⟩
        case measure => simp [intOf]; omega
      · obtain ⟨w6, rfl⟩ : ∃ w6 : World, w6 = wr := ⟨_, rfl⟩
        have HX6 : Hid ((w6.alloc (.cells #[.slice none 0 0] 23)).heap[w6.heap.size]? = some (.cells #[.slice none 0 0] 23 (0, 0))) := heap_alloc_new _ _
        have HB6 : Hid (Below w.heap.size w (w6.alloc (.cells #[.slice none 0 0] 23))) := HB.out.alloc HB.out.size _
        clear HM HB HAT HTS
        go_wp2_with fail
        go_step3
        go_wp2_with fail
        go_loopw [23, 108] (fun v i wr => v = .slice none 0 0 ∧ i = .int .i64 0 ∧ Hid (wr.heap[w6.heap.size]? = some (.cells #[.slice none 0 0] 23 (0, 0))) ∧ Hid (Below w.heap.size w wr)) (fun _ _ wr => 0)
        case atStart => exact ⟨rfl, rfl, HX6, HB6⟩
        case round =>
          clear HX6 HB6
          obtain ⟨rfl, rfl, HX6, HB6⟩ := hrel
          have c0 := cellT (i := 0) HX6.out rfl
          go_wp2_with fail
          refine (HST.out _ _ _ _).mono ?_
          rintro e w8 ⟨rfl, hb8⟩
          have c8 := cellT (i := 0) ((hb8.block _ (Array.getElem?_eq_some_iff.1 HX6.out).1).trans HX6.out) rfl
          have HB8 : Hid (Below w.heap.size w w8) := HB6.out.trans (hb8.mono HB6.out.size)
          clear hb8 c0
          go_wp2_with fail
          rw [Exit.noGoto_ret]
          exact bodyPost_ret (v := .tuple #[.slice none 0 0, .slice none 0 0, .int .i64 0]) (by simp [results, Tryd.results5, go_sem]) rfl ⟨_, rfl, HB8.out, ⟨fun _ => HO.out, fun _ => rfl⟩⟩
set_option maxRecDepth 100000 in
set_option maxHeartbeats 4000000 in
/-- No redirects: nothing is led elsewhere. -/
theorem redirected_nil (v : Value) (l : List O) (m : Int) (w : World) (hm : w.cell? ⟨0, 0, none⟩ = some (.int .i64 m)) (hv : OsAt w v l) :
    Calls Tryd.prog 18 #[v, .slice none 0 0] w fun e w' => ∃ (u : Value) (r : Int), e = .returned (.tuple #[u, .int .i64 r]) ∧ Below w.heap.size w w' ∧ (r = 0 ↔ Outs l) ∧ (r = 0 → ∃ b, u = .map (some b) ∧ Hid (MapF Tryd.prog 9 w' b 0 (fun _ => none))) := by
  have C1 := Lib.hid (moved_nil v l m w hm hv)
  clear hm hv
  go_enter Tryd.func18, Tryd.ntmps18
  go_wp2_with fail
  refine C1.out.mono ?_
  rintro e w1 ⟨r1, rfl, hb1, hr1⟩
  have HB1 := Lib.hid hb1
  have HR := Lib.hid hr1
  clear hb1 C1 hr1
  by_cases h1 : r1 = 0
  case neg =>
    have hq : (r1 != 0) = true := by rw [bne_iff_ne]; exact h1
    have H1 := Lib.hid h1
    clear h1
    go_wp2_with fail
    go_ret2
    exact ⟨_, r1, rfl, HB1.out, HR.out, fun h => absurd h H1.out⟩
  have hq : (r1 != 0) = false := by rw [bne_eq_false_iff_eq]; exact h1
  have HO := Lib.hid (HR.out.1 h1)
  clear h1
  have HM0 : Hid (MapF Tryd.prog 9 (w1.alloc (.map #[] 0)) w1.heap.size 0 (fun _ => none)) := mapF_made w1 Tryd.prog 9
  have HB2 : Hid (Below w.heap.size w (w1.alloc (.map #[] 0))) := HB1.out.alloc HB1.out.size _
  go_wp2_with (rw [run_makeMap])
  generalize World.alloc _ _ = w2 at HM0 HB2 ⊢
  go_loopw [27] (fun i wr => i = .int .i64 0 ∧ Hid (MapF Tryd.prog 9 wr w1.heap.size 0 (fun _ => none)) ∧ Hid (Below w.heap.size w wr)) (fun _ wr => 0)
  case atStart => exact ⟨rfl, HM0, HB2⟩
  case round =>
    obtain ⟨rfl, HM, HB⟩ := hrel
    go_wp2_with fail
    go_ret2
    exact ⟨_, 0, rfl, HB.out, ⟨fun _ => HO.out, fun _ => rfl⟩, fun _ => ⟨_, rfl, HM⟩⟩
end Go.Proofs.YtdjcificgilimaaDoor
