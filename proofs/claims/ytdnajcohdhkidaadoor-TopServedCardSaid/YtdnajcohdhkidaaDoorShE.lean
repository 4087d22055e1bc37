/- ship.Events: the addresses of what differs, in order. Conditions: the library's variable MaxLen holds an integer. -/
import Derived.Test.YtdnajcohdhkidaaDoorShD
import Derived.Sort.OwnSorted
import Derived.Shelf.Slices.In.SortNone2
namespace Mh
open Go Go.RowKit
set_option linter.unusedVariables false
theorem str_neO {a b : ByteArray} (h : a ≠ b) : (a.toList == b.toList) = false := by
  rw [beq_eq_false_iff_ne, ByteArray.toList_eq, ByteArray.toList_eq]
  exact fun e => h (bytes_eq e)
def srt (l : List (List UInt8)) : List (List UInt8) := l.mergeSort fun x y => decide (x ≤ y)
theorem srt_len (l : List (List UInt8)) : (srt l).length = l.length := by unfold srt; simp
theorem srt_mem {l : List (List UInt8)} {x : List UInt8} : x ∈ srt l ↔ x ∈ l := by unfold srt; rw [List.mem_mergeSort]
theorem row_form {w : World} {base e : Nat} {k n : Nat} {v : Value} {xs : List Value} (h : w.ownsRow base e k v n xs) : ∃ va vc, v = .slice va n vc := by
  rcases h.2 with ⟨rfl, rfl⟩ | ⟨g, cap, cur, rfl, _⟩
  · exact ⟨none, 0, rfl⟩
  · exact ⟨_, cap, rfl⟩
end Mh
namespace Go.Proofs.YtdnajcohdhkidaaDoor
open Go.RowKit Mh Go.Sort
set_option linter.unusedVariables false
theorem sort_own (v : Value) (ss : List (List UInt8)) (base : Nat) (w : World) (hn : ss.length ≤ 1099511627776) (h : w.ownsRow base 9 1 v ss.length (ss.map encStr)) :
    Calls Tryd.prog 14 #[v] w fun e w' => e = .returned (.tuple #[]) ∧ Hid (w'.ownsRow base 9 1 v ss.length ((srt ss).map encStr) ∧ Below base w w') := by
  rcases h.2 with ⟨rfl, h0⟩ | ⟨g, cap, cur, rfl, hbase, hb, h1, h2, h3, h4⟩
  · have hs : ss = [] := List.length_eq_zero_iff.1 h0
    subst hs
    refine (Any.sort_Strings_none Tryd.lays192 none 0 w).mono ?_
    rintro e w' ⟨rfl, rfl⟩
    exact ⟨rfl, by rw [show srt [] = [] by unfold srt; simp]; exact h, ⟨rfl, rfl, rfl, Nat.le_refl _, fun _ _ => rfl⟩⟩
  · refine (Tryd.sort_Strings g 0 cap ss w (holds_of_block hb (by simpa using h4)) (Array.getElem?_eq_some_iff.1 hb).1 (by omega)).mono ?_
    rintro e w' ⟨rfl, n, os, rfl⟩
    have hg := grownBy_sorted (w := w) (g := g) (n := n) (os := os) (srt ss).toArray
    exact ⟨rfl, ownsRow_sorted (srt_len ss) hbase hb h1 h2 h3, ⟨hg.os, hg.tape, hg.output, hg.size, fun k hk => by
      by_cases hz : k < w.heap.size
      · exact hg.block k hz (fun e => by simp at e; omega)
      · have := (Array.getElem?_eq_some_iff.1 hb).1; omega⟩⟩
theorem own_base {w : World} {base base' e k n : Nat} {v : Value} {xs : List Value} (h : w.ownsRow base e k v n xs) (hb : base' ≤ base) : w.ownsRow base' e k v n xs := by
  refine ⟨h.1, ?_⟩
  rcases h.2 with h | ⟨g, cap, cur, h1, h2, h3⟩
  · exact .inl h
  · exact .inr ⟨g, cap, cur, h1, Nat.le_trans hb h2, h3⟩
theorem ownsRow_below {w w' : World} {base e k n : Nat} {v : Value} {xs : List Value} (h : w.ownsRow base e k v n xs) (hb : Below w.heap.size w w') : w'.ownsRow base e k v n xs := by
  refine ⟨h.1, ?_⟩
  rcases h.2 with h | ⟨g, cap, cur, h1, h2, h3, h4⟩
  · exact .inl h
  · exact .inr ⟨g, cap, cur, h1, h2, (hb.block _ (Array.getElem?_eq_some_iff.1 h3).1).trans h3, h4⟩
theorem below_of {w w1 w2 : World} (h2 : Below w.heap.size w1 w2) (h1 : Below w.heap.size w w1) : Below w.heap.size w w2 := h1.trans h2
theorem infoStr : (Tryd.prog.info? 9).map (fun i => (i.zero, i.size, i.bytes)) = some (some (.string ⟨#[]⟩), 1, 16) := by kernel_rfl
theorem zeroStr (w : World) : (zeroValue 9).run Tryd.prog w = .ok (.string ⟨#[]⟩) w := by kernel_rfl
theorem address_ok (o : O) (ho : o.p.size ≤ maxLen) (hp : pathB o.p.data.toList = true) (m : Int) (w : World) (hm : w.cell? ⟨0, 0, none⟩ = some (.int .i64 m)) :
    Calls Tryd.prog 7 #[.string o.p] w fun e w' => e = .returned (.tuple #[.string ⟨(adO o).toArray⟩, .int .i64 0]) ∧ Below w.heap.size w w' := by
  refine (address_any o.p ho m w hm).mono ?_
  rintro e w' ⟨a, r, rfl, hb, h⟩
  obtain ⟨rfl, h2⟩ := h.out.1 hp
  refine ⟨?_, hb⟩
  have : a = ⟨(adO o).toArray⟩ := bytes_eq (by rw [h2]; rfl)
  rw [this]
def EvP (old new : List O) (w : World) (e : Ending) (w' : World) : Prop := ∃ (v : Value) (r : Int), e = .returned (.tuple #[v, .int .i64 r]) ∧ Below w.heap.size w w' ∧
  ((r ≠ 0 ∧ v = .slice none 0 0) ∨ (r = 0 ∧ Outs old ∧ Outs new ∧ w'.ownsRow w.heap.size 9 1 v (evL old new).length ((srt (evL old new)).map encStr)))
theorem ev_len {old new : List O} (ho : Outs old) (hn : Outs new) : (evL old new).length ≤ 960 := by
  unfold evL
  have h1 := List.length_filter_le (evOld new) old
  have h2 := List.length_filter_le (evNew old) new
  have := ho.1
  have := hn.1
  simp only [List.length_append, List.length_map]
  omega
def ev1 (old new : List O) (k : Nat) : List (List UInt8) := ((old.take k).filter (evOld new)).map adO
def ev2 (old new : List O) (k : Nat) : List (List UInt8) := ev1 old new old.length ++ ((new.take k).filter (evNew old)).map adO
theorem ev1_step (old new : List O) (k : Nat) (h : k < old.length) : ev1 old new (k + 1) = if evOld new old[k] = true then ev1 old new k ++ [adO old[k]] else ev1 old new k := by
  unfold ev1
  rw [take_snocO old k h, List.filter_append, List.map_append]
  by_cases hf : evOld new old[k] = true
  · rw [if_pos hf]; simp [hf]
  · rw [if_neg hf]; simp [hf]
theorem ev2_step (old new : List O) (k : Nat) (h : k < new.length) : ev2 old new (k + 1) = if evNew old new[k] = true then ev2 old new k ++ [adO new[k]] else ev2 old new k := by
  unfold ev2
  rw [take_snocO new k h, List.filter_append, List.map_append]
  by_cases hf : evNew old new[k] = true
  · rw [if_pos hf]; simp [hf]
  · rw [if_neg hf]; simp [hf]
theorem ev2_end (old new : List O) : ev2 old new new.length = evL old new := by unfold ev2 ev1 evL; simp
theorem ev1_len (old new : List O) (k : Nat) : (ev1 old new k).length ≤ old.length := by
  unfold ev1
  have h1 := List.length_filter_le (evOld new) (old.take k)
  simp only [List.length_map]
  have := List.length_take_le k old
  have h3 : (old.take k).length ≤ old.length := by rw [List.length_take]; omega
  omega
theorem ev2_len (old new : List O) (k : Nat) : (ev2 old new k).length ≤ old.length + new.length := by
  unfold ev2
  have h1 := List.length_filter_le (evNew old) (new.take k)
  have h2 := ev1_len old new old.length
  have h3 : (new.take k).length ≤ new.length := by rw [List.length_take]; omega
  simp only [List.length_append, List.length_map]
  omega
/-- What stands in memory in the loops of Events. -/
structure EvIn (ss : List (List UInt8)) (w wr : World) (v : Value) : Prop where
  below : Below w.heap.size w wr
  own : wr.ownsRow w.heap.size 9 1 v ss.length (ss.map encStr)
set_option maxRecDepth 100000 in
set_option maxHeartbeats 16000000 in
theorem events_any (u v : Value) (old new : List O) (m : Int) (w : World) (hm : w.cell? ⟨0, 0, none⟩ = some (.int .i64 m)) (hu : OsAt w u old) (hv : OsAt w v new) :
    Calls Tryd.prog 5 #[u, v] w (EvP old new w) := by
  have hmz : 0 < w.heap.size := World.block_lt_of_cell? w _ hm
  have HML : Hid (∀ w', Below w.heap.size w w' → w'.cell? ⟨0, 0, none⟩ = some (.int .i64 m)) := fun w' hb => (hb.cell hmz).trans hm
  obtain ⟨ao, ac, rfl, hla, hat⟩ := hu.open
  obtain ⟨bo, bc, rfl, hlb, hbt⟩ := hv.open
  have HU := Lib.hid hat
  have HV := Lib.hid hbt
  have C1 := Lib.hid (checkOuts_any _ old m w hm hu)
  have C2 := Lib.hid (fun w' (hb : Below w.heap.size w w') => checkOuts_any _ new m w' (HML.out w' hb) (hv.keep hb))
  have B1 := Lib.hid (fun w' (hb : Below w.heap.size w w') (h : old.length ≤ 480) => bodies_any _ old w' (hu.keep hb) h)
  have B2 := Lib.hid (fun w' (hb : Below w.heap.size w w') (h : new.length ≤ 480) => bodies_any _ new w' (hv.keep hb) h)
  unfold maxLen at hla hlb
  clear hu hv hat hbt hm
  go_enter Tryd.func5, Tryd.ntmps5
  go_wp2_with fail
  refine C1.out.mono ?_
  rintro e w1 ⟨r1, rfl, hr1, hb1⟩
  have HB1 := Lib.hid hb1
  clear hb1 C1
  by_cases h1 : r1 = 0
  case neg =>
    have hq : (r1 != 0) = true := by rw [bne_iff_ne]; exact h1
    have H1 := Lib.hid h1
    clear h1 C2 B1 B2 hr1
    go_wp2_with fail
    go_ret2
    exact ⟨_, _, rfl, HB1.out, .inl ⟨H1.out, rfl⟩⟩
  have HO := Lib.hid (hr1.1 h1)
  have hq : (r1 != 0) = false := by rw [bne_eq_false_iff_eq]; exact h1
  clear h1 hr1
  go_wp2_with fail
  refine (C2.out w1 HB1.out).mono ?_
  rintro e w2 ⟨r2, rfl, hr2, hb2⟩
  have HB2 : Hid (Below w.heap.size w w2) := HB1.out.trans (hb2.mono HB1.out.size)
  clear hb2 C2 HB1
  by_cases h2 : r2 = 0
  case neg =>
    have hq2 : (r2 != 0) = true := by rw [bne_iff_ne]; exact h2
    have H2 := Lib.hid h2
    clear h2 B1 B2 hr2
    go_wp2_with fail
    go_ret2
    exact ⟨_, _, rfl, HB2.out, .inl ⟨H2.out, rfl⟩⟩
  have HN := Lib.hid (hr2.1 h2)
  have hq2 : (r2 != 0) = false := by rw [bne_eq_false_iff_eq]; exact h2
  have B3 := Lib.hid (B1.out w2 HB2.out HO.out.1)
  have B4 := Lib.hid (fun w' (hb : Below w2.heap.size w2 w') => B2.out w' (HB2.out.trans (hb.mono HB2.out.size)) HN.out.1)
  clear h2 hr2 B1 B2
  go_wp2_with fail
  refine B3.out.mono ?_
  rintro e w3 ⟨b3, rfl, hb3, hg3, hM3⟩
  have HB23 := Lib.hid hb3
  have HM3 := Lib.hid hM3.out
  clear hb3 hM3 B3
  go_wp2_with fail
  refine (B4.out w3 HB23.out).mono ?_
  rintro e w4 ⟨b4, rfl, hb4, hg4, hM4⟩
  have HM34 := Lib.hid (HM3.out.below hb4)
  have HB4 : Hid (Below w.heap.size w w4) := HB2.out.trans ((HB23.out.trans (hb4.mono HB23.out.size)).mono HB2.out.size)
  clear hb4 B4 HB23 HM3 hg3 hg4
  have HM4 := Lib.hid hM4.out
  clear hM4
  go_wp2_with fail
  obtain ⟨si, hsi, hsz0, hsz1, hsz2⟩ := info_parts infoStr
  have hl1 := HO.out.1
  have hl2 := HN.out.1
  have EvStart : Hid (EvIn (ev1 old new 0) w4 w4 (.slice none 0 0)) := ⟨Below.refl _ _, World.ownsRow_nil _ _ _ _⟩
  go_loopw [10, 39] (fun vo i wr => ∃ (k : Nat) (va : Option Addr) (vc : Nat), k ≤ old.length ∧ i = .int .i64 k ∧ vo = .slice va (ev1 old new k).length vc ∧ Hid (EvIn (ev1 old new k) w4 wr (.slice va (ev1 old new k).length vc))) (fun _ i wr => old.length - (intOf i).toNat)
  case atStart => exact ⟨0, none, 0, Nat.zero_le _, rfl, rfl, EvStart⟩
  case round =>
    clear EvStart
    obtain ⟨k, va, vc, hk, rfl, rfl, HI⟩ := hrel
    by_cases hkl : k < old.length
    · obtain ⟨b, off, rfl, hc1, hc2, hlt, hc, hps, hbs⟩ := HU.out k hkl
      have HBr : Hid (Below w.heap.size w wr) := HB4.out.trans (HI.out.below.mono HB4.out.size)
      obtain ⟨d0, d1⟩ := two_later HBr.out hlt hc
      have hBW : Below wr.heap.size wr (wr.alloc (.cells #[.string old[k].p, .string old[k].b] 30)) := below_alloc _ _
      have HBW : Hid (Below w.heap.size w (wr.alloc (.cells #[.string old[k].p, .string old[k].b] 30))) := HBr.out.trans (hBW.mono HBr.out.size)
      have HX1 : Hid ((wr.alloc (.cells #[.string old[k].p, .string old[k].b] 30)).heap[wr.heap.size]? = some (.cells #[.string old[k].p, .string old[k].b] 30 (0, 0))) := heap_alloc_new _ _
      have HM1 := Lib.hid ((HM4.out.below HI.out.below).alloc (.cells #[.string old[k].p, .string old[k].b] 30))
      have HI1 : Hid (EvIn (ev1 old new k) w4 (wr.alloc (.cells #[.string old[k].p, .string old[k].b] 30)) (.slice va (ev1 old new k).length vc)) := ⟨HI.out.below.trans (hBW.mono HI.out.below.size), HI.out.own.alloc _⟩
      have HST := Lib.hid (ev1_step old new k hkl)
      have HPB := Lib.hid ((HO.out.2 k hkl).1)
      have hln := ev1_len old new k
      have HAD := Lib.hid (fun w' (hb : Below w.heap.size w w') => address_ok old[k] hps HPB.out m w' (HML.out w' hb))
      have HBOD : Hid (bodF new old[k].p = lookO new old[k].p) := HN.out.bod _
      obtain ⟨e0, e1⟩ := pair_of_block HX1.out
      generalize hok : old[k] = o at *
      clear hBW hc hok HI
      generalize hss : ev1 old new k = ss at *
      clear hss
      cases hlk : lookO new o.p with
      | none =>
        have LKV : Hid ((bodV new o.p).getD (.string ⟨#[]⟩) = .string ⟨#[]⟩) := by show _ = _; unfold bodV; rw [HBOD.out, hlk]; rfl
        have LKO : Hid ((bodV new o.p).isSome = false) := by show _ = _; unfold bodV; rw [HBOD.out, hlk]; rfl
        have EVT : Hid (evOld new o = true) := by show _ = _; unfold evOld; rw [hlk]; rfl
        clear hlk
        have HS2 : Hid (ev1 old new (k + 1) = ss ++ [adO o]) := by show _ = _; rw [HST.out, if_pos EVT.out]
        go_wp2_with (first | (at_lookup; refine wpList_lookF_ok _ rfl _ _ 43 rfl 9 9 Tryd.underlying9 Tryd.underlying43 (.string ⟨#[]⟩) (zeroStr _) b4 _ _ rfl HM1.out o.p rfl hps _ LKV.out _ LKO.out ?_) | (go_at_call 7; refine (HAD.out _ HBW.out).mono ?_; rintro e w5 ⟨rfl, hb5⟩; have HB5 : Hid (Below w4.heap.size w4 w5) := HI1.out.below.trans (hb5.mono HI1.out.below.size); have HO5 := Lib.hid (ownsRow_below HI1.out.own hb5); have hz5 := HB5.out.size; clear hb5) | (at_builtin; refine wpList_append1 HB5.out rfl _ _ 24 rfl 9 si (.string ⟨#[]⟩) 16 Tryd.underlying24 hsi hsz0 hsz1 hsz2 rfl _ _ _ rfl HO5.out _ rfl rfl (by unfold maxLen; omega) (by omega) (Nat.le_refl _) hz5 ?_; intro v6 w6 hown6 hbel6 hsz6; obtain ⟨va6, vc6, hv6⟩ := row_form hown6; subst hv6))
        have HI6 : Hid (EvIn (ev1 old new (k + 1)) w4 w6 (.slice va6 (ev1 old new (k + 1)).length vc6)) := ⟨hbel6, by rw [HS2.out]; simpa using hown6⟩
        have HL6 : Hid (ss.length + 1 = (ev1 old new (k + 1)).length) := by show _ = _; rw [HS2.out]; simp
        clear hown6 hbel6 hsz6 e0 e1 d0 d1
        go_roundw
        case rel => exact ⟨k + 1, va6, vc6, by omega, by go_num, by rw [HL6.out], HI6⟩
        case measure => simp [intOf]; omega
      | some bb =>
        have LKV : Hid ((bodV new o.p).getD (.string ⟨#[]⟩) = .string bb) := by show _ = _; unfold bodV; rw [HBOD.out, hlk]; rfl
        have LKO : Hid ((bodV new o.p).isSome = true) := by show _ = _; unfold bodV; rw [HBOD.out, hlk]; rfl
        by_cases hbb : bb = o.b
        · have EVF : Hid (evOld new o = false) := by show _ = _; unfold evOld; rw [hlk, hbb]; simp
          have hbe : (bb.toList == o.b.toList) = true := by rw [hbb]; simp
          have HBB := Lib.hid hbb
          clear hlk hbb
          have HS2 : Hid (ev1 old new (k + 1) = ss) := by show _ = _; rw [HST.out, if_neg (by rw [EVF.out]; simp)]
          go_wp2_with (at_lookup; refine wpList_lookF_ok _ rfl _ _ 43 rfl 9 9 Tryd.underlying9 Tryd.underlying43 (.string ⟨#[]⟩) (zeroStr _) b4 _ _ rfl HM1.out o.p rfl hps _ LKV.out _ LKO.out ?_)
          have HI6 : Hid (EvIn (ev1 old new (k + 1)) w4 (wr.alloc (.cells #[.string o.p, .string o.b] 30)) (.slice va (ev1 old new (k + 1)).length vc)) := by rw [HS2.out]; exact HI1.out
          have HL6 : Hid (ss.length = (ev1 old new (k + 1)).length) := by show _ = _; rw [HS2.out]
          clear e0 e1 d0 d1
          go_roundw
          case rel => exact ⟨k + 1, va, vc, by omega, by go_num, by rw [HL6.out], HI6⟩
          case measure => simp [intOf]; omega
        · have EVT : Hid (evOld new o = true) := by show _ = _; unfold evOld; rw [hlk]; simpa using hbb
          have hbe : (bb.toList == o.b.toList) = false := str_neO hbb
          clear hlk hbb
          have HS2 : Hid (ev1 old new (k + 1) = ss ++ [adO o]) := by show _ = _; rw [HST.out, if_pos EVT.out]
          go_wp2_with (first | (at_lookup; refine wpList_lookF_ok _ rfl _ _ 43 rfl 9 9 Tryd.underlying9 Tryd.underlying43 (.string ⟨#[]⟩) (zeroStr _) b4 _ _ rfl HM1.out o.p rfl hps _ LKV.out _ LKO.out ?_) | (go_at_call 7; refine (HAD.out _ HBW.out).mono ?_; rintro e w5 ⟨rfl, hb5⟩; have HB5 : Hid (Below w4.heap.size w4 w5) := HI1.out.below.trans (hb5.mono HI1.out.below.size); have HO5 := Lib.hid (ownsRow_below HI1.out.own hb5); have hz5 := HB5.out.size; clear hb5) | (at_builtin; refine wpList_append1 HB5.out rfl _ _ 24 rfl 9 si (.string ⟨#[]⟩) 16 Tryd.underlying24 hsi hsz0 hsz1 hsz2 rfl _ _ _ rfl HO5.out _ rfl rfl (by unfold maxLen; omega) (by omega) (Nat.le_refl _) hz5 ?_; intro v6 w6 hown6 hbel6 hsz6; obtain ⟨va6, vc6, hv6⟩ := row_form hown6; subst hv6))
          have HI6 : Hid (EvIn (ev1 old new (k + 1)) w4 w6 (.slice va6 (ev1 old new (k + 1)).length vc6)) := ⟨hbel6, by rw [HS2.out]; simpa using hown6⟩
          have HL6 : Hid (ss.length + 1 = (ev1 old new (k + 1)).length) := by show _ = _; rw [HS2.out]; simp
          clear hown6 hbel6 hsz6 e0 e1 d0 d1
          go_roundw
          case rel => exact ⟨k + 1, va6, vc6, by omega, by go_num, by rw [HL6.out], HI6⟩
          case measure => simp [intOf]; omega
    · have hke : k = old.length := by omega
      subst hke
      have EvNext : Hid (EvIn (ev2 old new 0) w4 wr (.slice va (ev1 old new old.length).length vc)) := by
        have : ev2 old new 0 = ev1 old new old.length := by unfold ev2; simp
        rw [this]; exact HI.out
      have HE2 : Hid ((ev1 old new old.length).length = (ev2 old new 0).length) := by
        have : ev2 old new 0 = ev1 old new old.length := by unfold ev2; simp
        show _ = _; rw [this]
      clear HI
      generalize hvl : (ev1 old new old.length).length = vl at *
      go_wp2_with fail
      obtain ⟨wx, rfl⟩ : ∃ wx : World, wx = wr := ⟨_, rfl⟩
      go_loopw [10, 71] (fun vo i wr => ∃ (k : Nat) (va : Option Addr) (vc : Nat), k ≤ new.length ∧ i = .int .i64 k ∧ vo = .slice va (ev2 old new k).length vc ∧ Hid (EvIn (ev2 old new k) w4 wr (.slice va (ev2 old new k).length vc))) (fun _ i wr => new.length - (intOf i).toNat)
      case atStart => exact ⟨0, va, vc, Nat.zero_le _, rfl, by rw [HE2.out], by rw [HE2.out] at EvNext; exact EvNext⟩
      case round =>
        clear EvNext HE2
        obtain ⟨k, va, vc, hk, rfl, rfl, HI⟩ := hrel
        by_cases hkl : k < new.length
        · obtain ⟨b, off, rfl, hc1, hc2, hlt, hc, hps, hbs⟩ := HV.out k hkl
          have HBr : Hid (Below w.heap.size w wr) := HB4.out.trans (HI.out.below.mono HB4.out.size)
          obtain ⟨d0, d1⟩ := two_later HBr.out hlt hc
          have hBW : Below wr.heap.size wr (wr.alloc (.cells #[.string new[k].p, .string new[k].b] 30)) := below_alloc _ _
          have HBW : Hid (Below w.heap.size w (wr.alloc (.cells #[.string new[k].p, .string new[k].b] 30))) := HBr.out.trans (hBW.mono HBr.out.size)
          have HX1 : Hid ((wr.alloc (.cells #[.string new[k].p, .string new[k].b] 30)).heap[wr.heap.size]? = some (.cells #[.string new[k].p, .string new[k].b] 30 (0, 0))) := heap_alloc_new _ _
          have HM1 := Lib.hid ((HM34.out.below HI.out.below).alloc (.cells #[.string new[k].p, .string new[k].b] 30))
          have HI1 : Hid (EvIn (ev2 old new k) w4 (wr.alloc (.cells #[.string new[k].p, .string new[k].b] 30)) (.slice va (ev2 old new k).length vc)) := ⟨HI.out.below.trans (hBW.mono HI.out.below.size), HI.out.own.alloc _⟩
          have HST := Lib.hid (ev2_step old new k hkl)
          have HPB := Lib.hid ((HN.out.2 k hkl).1)
          have hln := ev2_len old new k
          have HAD := Lib.hid (fun w' (hb : Below w.heap.size w w') => address_ok new[k] hps HPB.out m w' (HML.out w' hb))
          have HBOD : Hid (bodF old new[k].p = lookO old new[k].p) := HO.out.bod _
          obtain ⟨e0, e1⟩ := pair_of_block HX1.out
          generalize hok : new[k] = o at *
          clear hBW hc hok HI
          generalize hss : ev2 old new k = ss at *
          clear hss
          cases hlk : lookO old o.p with
          | none =>
            have LKV : Hid ((bodV old o.p).getD (.string ⟨#[]⟩) = .string ⟨#[]⟩) := by show _ = _; unfold bodV; rw [HBOD.out, hlk]; rfl
            have LKO : Hid ((bodV old o.p).isSome = false) := by show _ = _; unfold bodV; rw [HBOD.out, hlk]; rfl
            have EVT : Hid (evNew old o = true) := by show _ = _; unfold evNew; rw [hlk]; rfl
            clear hlk
            have HS2 : Hid (ev2 old new (k + 1) = ss ++ [adO o]) := by show _ = _; rw [HST.out, if_pos EVT.out]
            go_wp2_with (first | (at_lookup; refine wpList_lookF_ok _ rfl _ _ 43 rfl 9 9 Tryd.underlying9 Tryd.underlying43 (.string ⟨#[]⟩) (zeroStr _) b3 _ _ rfl HM1.out o.p rfl hps _ LKV.out _ LKO.out ?_) | (go_at_call 7; refine (HAD.out _ HBW.out).mono ?_; rintro e w5 ⟨rfl, hb5⟩; have HB5 : Hid (Below w4.heap.size w4 w5) := HI1.out.below.trans (hb5.mono HI1.out.below.size); have HO5 := Lib.hid (ownsRow_below HI1.out.own hb5); have hz5 := HB5.out.size; clear hb5) | (at_builtin; refine wpList_append1 HB5.out rfl _ _ 24 rfl 9 si (.string ⟨#[]⟩) 16 Tryd.underlying24 hsi hsz0 hsz1 hsz2 rfl _ _ _ rfl HO5.out _ rfl rfl (by unfold maxLen; omega) (by omega) (Nat.le_refl _) hz5 ?_; intro v6 w6 hown6 hbel6 hsz6; obtain ⟨va6, vc6, hv6⟩ := row_form hown6; subst hv6))
            have HI6 : Hid (EvIn (ev2 old new (k + 1)) w4 w6 (.slice va6 (ev2 old new (k + 1)).length vc6)) := ⟨hbel6, by rw [HS2.out]; simpa using hown6⟩
            have HL6 : Hid (ss.length + 1 = (ev2 old new (k + 1)).length) := by show _ = _; rw [HS2.out]; simp
            clear hown6 hbel6 hsz6 e0 e1 d0 d1
            go_roundw
            case rel => exact ⟨k + 1, va6, vc6, by omega, by go_num, by rw [HL6.out], HI6⟩
            case measure => simp [intOf]; omega
          | some bb =>
            have LKV : Hid ((bodV old o.p).getD (.string ⟨#[]⟩) = .string bb) := by show _ = _; unfold bodV; rw [HBOD.out, hlk]; rfl
            have LKO : Hid ((bodV old o.p).isSome = true) := by show _ = _; unfold bodV; rw [HBOD.out, hlk]; rfl
            have EVF : Hid (evNew old o = false) := by show _ = _; unfold evNew; rw [hlk]; simp
            clear hlk
            have HS2 : Hid (ev2 old new (k + 1) = ss) := by show _ = _; rw [HST.out, if_neg (by rw [EVF.out]; simp)]
            go_wp2_with (at_lookup; refine wpList_lookF_ok _ rfl _ _ 43 rfl 9 9 Tryd.underlying9 Tryd.underlying43 (.string ⟨#[]⟩) (zeroStr _) b3 _ _ rfl HM1.out o.p rfl hps _ LKV.out _ LKO.out ?_)
            have HI6 : Hid (EvIn (ev2 old new (k + 1)) w4 (wr.alloc (.cells #[.string o.p, .string o.b] 30)) (.slice va (ev2 old new (k + 1)).length vc)) := by rw [HS2.out]; exact HI1.out
            have HL6 : Hid (ss.length = (ev2 old new (k + 1)).length) := by show _ = _; rw [HS2.out]
            clear e0 e1 d0 d1
            go_roundw
            case rel => exact ⟨k + 1, va, vc, by omega, by go_num, by rw [HL6.out], HI6⟩
            case measure => simp [intOf]; omega
        · have hke : k = new.length := by omega
          subst hke
          have HE := Lib.hid (ev2_end old new)
          have HI9 := HI.out
          rw [HE.out] at HI9
          have HSO := Lib.hid (sort_own _ (evL old new) w4.heap.size wr (by have := ev_len HO.out HN.out; omega) HI9.own)
          have HBx := Lib.hid HI9.below
          have HL9 : Hid ((ev2 old new new.length).length = (evL old new).length) := by show _ = _; rw [HE.out]
          clear HI9 HI
          generalize hvl : (ev2 old new new.length).length = vl at *
          have hvl2 := HL9.out
          subst hvl2
          go_wp2_with (go_at_call 14; refine HSO.out.mono ?_; rintro e w7 ⟨rfl, H7⟩)
          have HB7 : Hid (Below w.heap.size w w7) := HB4.out.trans ((below_of H7.out.2 HBx.out).mono HB4.out.size)
          go_ret2
          exact ⟨_, _, rfl, HB7.out, .inr ⟨rfl, HO.out, HN.out, own_base H7.out.1 HB4.out.size⟩⟩
end Go.Proofs.YtdnajcohdhkidaaDoor
