/- ship.Address, Path, key: what each returns. Conditions: strings of at most 2^40 bytes; the library's variable MaxLen holds an integer. -/
import Derived.Test.YtdjcificgilimaaDoorShB
namespace Mh
open Go Go.RowKit
set_option linter.unusedVariables false
theorem suf_idx {l : List UInt8} (h : idxL.isSuffixOf l = true) : idxT.isSuffixOf l = true := by
  obtain ⟨x, rfl⟩ := List.isSuffixOf_iff_suffix.1 h
  exact List.isSuffixOf_iff_suffix.2 ⟨x ++ [47], by simp [idxL]⟩
theorem addr_yes {p : List UInt8} (h : idxL.isSuffixOf (47 :: p) = true) : Lib.trimSuffix (47 :: p) idxT = addrL p := by
  unfold Lib.trimSuffix Lib.hasSuffix addrL
  rw [if_pos (suf_idx h), if_pos h]; rfl
theorem addr_no {p : List UInt8} (h : idxL.isSuffixOf (47 :: p) = false) : addrL p = 47 :: p := by
  unfold addrL; rw [h]; rfl
theorem str_neO {a b : ByteArray} (h : a ≠ b) : (a.toList == b.toList) = false := by
  rw [beq_eq_false_iff_ne, ByteArray.toList_eq, ByteArray.toList_eq]
  exact fun e => h (bytes_eq e)
theorem take_snocO {α : Type} (l : List α) (k : Nat) (h : k < l.length) : l.take (k + 1) = l.take k ++ [l[k]] := by
  rw [List.take_add_one, List.getElem?_eq_getElem h]; rfl
theorem below_grown {w w1 w2 : World} {b : Nat} (h : Below w.heap.size w w1) (hg : w1.grownBy w2 (some b)) (hb : w.heap.size ≤ b) : Below w.heap.size w w2 :=
  ⟨hg.os.trans h.os, hg.tape.trans h.tape, hg.output.trans h.output, Nat.le_trans h.size hg.size, fun k hk => (hg.block k (Nat.lt_of_lt_of_le hk h.size) (fun e => by simp at e; omega)).trans (h.block k hk)⟩
theorem row_form {w : World} {base e : Nat} {k n : Nat} {v : Value} {xs : List Value} (h : w.ownsRow base e k v n xs) : ∃ va vc, v = .slice va n vc := by
  rcases h.2 with ⟨rfl, rfl⟩ | ⟨g, cap, cur, rfl, _⟩
  · exact ⟨none, 0, rfl⟩
  · exact ⟨_, cap, rfl⟩
theorem slash_last {l : List UInt8} : Lib.hasSuffix l [47] = decide (l.getLast? = some 47) := by
  unfold Lib.hasSuffix
  rw [Bool.eq_iff_iff, List.isSuffixOf_iff_suffix, decide_eq_true_eq, List.getLast?_eq_some_iff]
  constructor
  · rintro ⟨x, rfl⟩; exact ⟨x, rfl⟩
  · rintro ⟨x, rfl⟩; exact ⟨x, rfl⟩
theorem cons_slash (p : ByteArray) : ((⟨#[47]⟩ : ByteArray) ++ p).data.toList = 47 :: p.data.toList := by simp [ByteArray.data_append]
theorem size_slash (p : ByteArray) : ((⟨#[47]⟩ : ByteArray) ++ p).size = 1 + p.size := by rw [ByteArray.size_append]; rfl
end Mh
namespace Go.Proofs.YtdjcificgilimaaDoor
open Go.RowKit Mh
set_option linter.unusedVariables false
def idxB : ByteArray := ⟨#[47, 105, 110, 100, 101, 120, 46, 104, 116, 109, 108]⟩
def AddrP (p : ByteArray) (w : World) (e : Ending) (w' : World) : Prop := ∃ (a : ByteArray) (r : Int), e = .returned (.tuple #[.string a, .int .i64 r]) ∧ Below w.heap.size w w' ∧
  Hid ((pathB p.data.toList = true → r = 0 ∧ a.data.toList = addrL p.data.toList) ∧ (pathB p.data.toList = false → r ≠ 0 ∧ a = ⟨#[]⟩) ∧ a.size ≤ 1000)
set_option maxHeartbeats 4000000 in
theorem address_any (p : ByteArray) (hp : p.size ≤ maxLen) (m : Int) (w : World) (hm : w.cell? ⟨0, 0, none⟩ = some (.int .i64 m)) : Calls Tryd.prog 12 #[.string p] w (AddrP p w) := by
  have HP := Lib.hid (shPath_any p w hp ⟨m, hm⟩)
  cases hb : pathB p.data.toList with
  | false =>
    have HB := Lib.hid hb
    rw [hb] at HP
    clear hb hm
    go_enter Tryd.func12, Tryd.ntmps12
    go_wp2_with (go_at_call 17; refine HP.out.mono ?_; rintro e w2 ⟨rfl, hb2⟩)
    go_ret2
    exact ⟨_, _, rfl, hb2, fun h => (by rw [HB.out] at h; cases h), fun _ => ⟨by decide, rfl⟩, by decide⟩
  | true =>
    have HB := Lib.hid hb
    have hz : p.size ≤ 200 := by have := path_len hb; rw [Array.length_toList] at this; exact this
    have HS := Lib.hid (fun w' => Tryd.strings_HasSuffix (⟨#[47]⟩ ++ p) idxB w' (by rw [size_slash]; omega))
    have HT := Lib.hid (fun w' => Tryd.strings_TrimSuffix (⟨#[47]⟩ ++ p) ⟨#[105, 110, 100, 101, 120, 46, 104, 116, 109, 108]⟩ w' (by rw [size_slash]; omega))
    rw [show (idxB.data.toList) = idxL from rfl] at HS
    rw [cons_slash] at HS HT
    rw [hb] at HP
    clear hb hm
    unfold idxB at HS
    cases hs : idxL.isSuffixOf (47 :: p.data.toList) with
    | false =>
      have HA := Lib.hid (addr_no hs)
      rw [show Lib.hasSuffix (47 :: p.data.toList) idxL = false from hs] at HS
      clear hs HT
      go_enter Tryd.func12, Tryd.ntmps12
      go_wp2_with (first | (go_at_call 17; refine HP.out.mono ?_; rintro e w2 ⟨rfl, hb2⟩) | (go_at_call 11; refine (HS.out _).mono ?_; rintro e w' ⟨rfl, rfl⟩))
      go_ret2
      exact ⟨_, _, rfl, hb2, fun _ => ⟨rfl, by rw [HA.out, cons_slash]⟩, fun h => (by rw [HB.out] at h; cases h), by rw [size_slash]; omega⟩
    | true =>
      have HA := Lib.hid (addr_yes hs)
      rw [show Lib.hasSuffix (47 :: p.data.toList) idxL = true from hs] at HS
      rw [show ((⟨#[105, 110, 100, 101, 120, 46, 104, 116, 109, 108]⟩ : ByteArray).data.toList) = idxT from rfl, HA.out] at HT
      clear hs
      go_enter Tryd.func12, Tryd.ntmps12
      go_wp2_with (first | (go_at_call 17; refine HP.out.mono ?_; rintro e w2 ⟨rfl, hb2⟩) | (go_at_call 11; refine (HS.out _).mono ?_; rintro e w' ⟨rfl, rfl⟩) | (go_at_call 13; refine (HT.out _).mono ?_; rintro e w' ⟨rfl, rfl⟩))
      go_ret2
      exact ⟨_, _, rfl, hb2, fun _ => ⟨rfl, rfl⟩, fun h => (by rw [HB.out] at h; cases h), by have := addr_len p.data.toList; have h3 : p.data.toList.length = p.size := Array.length_toList; show (addrL p.data.toList).toArray.size ≤ 1000; rw [List.size_toArray]; omega⟩
def PathP (a : ByteArray) (w : World) (e : Ending) (w' : World) : Prop := ∃ (s : ByteArray) (r : Int), e = .returned (.tuple #[.string s, .int .i64 r]) ∧ Below w.heap.size w w' ∧
  Hid (match pathOfL a.data.toList with | some p => r = 0 ∧ s.data.toList = p ∧ pathB p = true | none => r ≠ 0 ∧ s = ⟨#[]⟩)
set_option maxHeartbeats 4000000 in
theorem path_any (a : ByteArray) (ha : a.size ≤ 1099511627776) (m : Int) (w : World) (hm : w.cell? ⟨0, 0, none⟩ = some (.int .i64 m)) : Calls Tryd.prog 6 #[.string a] w (PathP a w) := by
  have HPT := Lib.hid (fun (s : ByteArray) (hs : s.size ≤ maxLen) => shPath_any s w hs ⟨m, hm⟩)
  have HF := Lib.hid (fun w' => Tryd.strings_HasPrefix a ⟨#[47]⟩ w')
  cases hl : a.data.toList with
  | nil =>
    have HN : Hid (pathOfL a.data.toList = none) := by rw [hl]; rfl
    rw [hl, show Lib.hasPrefix [] ((⟨#[47]⟩ : ByteArray).data.toList) = false from rfl] at HF
    clear hl hm
    go_enter Tryd.func6, Tryd.ntmps6
    go_wp2_with (go_at_call 16; refine (HF.out _).mono ?_; rintro e w' ⟨rfl, rfl⟩)
    go_ret2
    exact ⟨_, _, rfl, Below.refl _ _, by rw [HN.out]; exact ⟨by decide, rfl⟩⟩
  | cons c t =>
    by_cases hc : c = 47
    · subst hc
      have hsz : a.size = t.length + 1 := by have h := congrArg List.length hl; rw [Array.length_toList] at h; exact h
      have hu : (a.extract 1 a.size).data.toList = t := by rw [ByteArray.data_extract]; simp [hl, hsz]
      have hus : (a.extract 1 a.size).size = t.length := by rw [ByteArray.size_extract]; omega
      have h1 : 1 ≤ a.size := by omega
      have htl : t.length ≤ 1099511627776 := by omega
      rw [hl, show Lib.hasPrefix (47 :: t) ((⟨#[47]⟩ : ByteArray).data.toList) = true from rfl] at HF
      have HO : Hid (pathOfL a.data.toList = if pathB (rawL t) = true then some (rawL t) else none) := by rw [hl]; rfl
      generalize hue : a.extract 1 a.size = u at *
      have HU := Lib.hid hu
      have HSS := Lib.hid (fun w' => Tryd.strings_HasSuffix u ⟨#[47]⟩ w' (by omega))
      rw [hu, show ((⟨#[47]⟩ : ByteArray).data.toList) = [47] from rfl, slash_last] at HSS
      by_cases hraw : t = [] ∨ t.getLast? = some 47
      · have HR : Hid ((u ++ ⟨#[105, 110, 100, 101, 120, 46, 104, 116, 109, 108]⟩ : ByteArray).data.toList = rawL t) := by
          show _ = _
          unfold rawL; rw [if_pos hraw, ← HU.out]; simp [ByteArray.data_append, idxT]
        have HP := Lib.hid (HPT.out (u ++ ⟨#[105, 110, 100, 101, 120, 46, 104, 116, 109, 108]⟩) (by rw [ByteArray.size_append]; show u.size + 10 ≤ _; unfold maxLen; omega))
        rw [HR.out] at HP
        have hcond : (u.toList.isEmpty = true) ∨ (u.toList.isEmpty = false ∧ decide (t.getLast? = some 47) = true) := by
          rw [ByteArray.toList_eq, hu]
          cases t with
          | nil => exact .inl rfl
          | cons x t => rcases hraw with h | h; cases h; exact .inr ⟨rfl, decide_eq_true h⟩
        cases hpb : pathB (rawL t) with
        | false =>
          have HN : Hid (pathOfL a.data.toList = none) := by rw [HO.out, hpb]; rfl
          rw [hpb] at HP
          clear hl hm hu hraw hpb HO hsz
          rcases hcond with hcd | ⟨hcd, hcd2⟩
          · go_enter Tryd.func6, Tryd.ntmps6
            go_wp2_with (first | (go_at_call 16; refine (HF.out _).mono ?_; rintro e w' ⟨rfl, rfl⟩) | (go_at_call 11; refine (HSS.out _).mono ?_; rintro e w' ⟨rfl, rfl⟩) | (go_at_call 17; refine HP.out.mono ?_; rintro e w2 ⟨rfl, hb2⟩))
            all_goals
              go_ret2
              exact ⟨_, _, rfl, hb2, by rw [HN.out]; exact ⟨by decide, rfl⟩⟩
          · rw [hcd2] at HSS
            go_enter Tryd.func6, Tryd.ntmps6
            go_wp2_with (first | (go_at_call 16; refine (HF.out _).mono ?_; rintro e w' ⟨rfl, rfl⟩) | (go_at_call 11; refine (HSS.out _).mono ?_; rintro e w' ⟨rfl, rfl⟩) | (go_at_call 17; refine HP.out.mono ?_; rintro e w2 ⟨rfl, hb2⟩))
            all_goals
              go_ret2
              exact ⟨_, _, rfl, hb2, by rw [HN.out]; exact ⟨by decide, rfl⟩⟩
        | true =>
          have HY : Hid (pathOfL a.data.toList = some (rawL t)) := by rw [HO.out, hpb]; rfl
          have HPB := Lib.hid hpb
          rw [hpb] at HP
          clear hl hm hu hraw hpb HO hsz
          rcases hcond with hcd | ⟨hcd, hcd2⟩
          · go_enter Tryd.func6, Tryd.ntmps6
            go_wp2_with (first | (go_at_call 16; refine (HF.out _).mono ?_; rintro e w' ⟨rfl, rfl⟩) | (go_at_call 11; refine (HSS.out _).mono ?_; rintro e w' ⟨rfl, rfl⟩) | (go_at_call 17; refine HP.out.mono ?_; rintro e w2 ⟨rfl, hb2⟩))
            all_goals
              go_ret2
              exact ⟨_, _, rfl, hb2, by rw [HY.out]; exact ⟨rfl, HR.out, HPB.out⟩⟩
          · rw [hcd2] at HSS
            go_enter Tryd.func6, Tryd.ntmps6
            go_wp2_with (first | (go_at_call 16; refine (HF.out _).mono ?_; rintro e w' ⟨rfl, rfl⟩) | (go_at_call 11; refine (HSS.out _).mono ?_; rintro e w' ⟨rfl, rfl⟩) | (go_at_call 17; refine HP.out.mono ?_; rintro e w2 ⟨rfl, hb2⟩))
            all_goals
              go_ret2
              exact ⟨_, _, rfl, hb2, by rw [HY.out]; exact ⟨rfl, HR.out, HPB.out⟩⟩
      · have HR : Hid (u.data.toList = rawL t) := by
          show _ = _
          unfold rawL; rw [if_neg hraw, HU.out]
        have HP := Lib.hid (HPT.out u (by unfold maxLen; omega))
        rw [HR.out] at HP
        have hcd : u.toList.isEmpty = false := by
          rw [ByteArray.toList_eq, hu]
          cases t with
          | nil => exact absurd (.inl rfl) hraw
          | cons x t => rfl
        have hcd2 : decide (t.getLast? = some 47) = false := decide_eq_false fun h => hraw (.inr h)
        rw [hcd2] at HSS
        cases hpb : pathB (rawL t) with
        | false =>
          have HN : Hid (pathOfL a.data.toList = none) := by rw [HO.out, hpb]; rfl
          rw [hpb] at HP
          clear hl hm hu hraw hpb HO hsz hcd2
          go_enter Tryd.func6, Tryd.ntmps6
          go_wp2_with (first | (go_at_call 16; refine (HF.out _).mono ?_; rintro e w' ⟨rfl, rfl⟩) | (go_at_call 11; refine (HSS.out _).mono ?_; rintro e w' ⟨rfl, rfl⟩) | (go_at_call 17; refine HP.out.mono ?_; rintro e w2 ⟨rfl, hb2⟩))
          all_goals
            go_ret2
            exact ⟨_, _, rfl, hb2, by rw [HN.out]; exact ⟨by decide, rfl⟩⟩
        | true =>
          have HY : Hid (pathOfL a.data.toList = some (rawL t)) := by rw [HO.out, hpb]; rfl
          have HPB := Lib.hid hpb
          rw [hpb] at HP
          clear hl hm hu hraw hpb HO hsz hcd2
          go_enter Tryd.func6, Tryd.ntmps6
          go_wp2_with (first | (go_at_call 16; refine (HF.out _).mono ?_; rintro e w' ⟨rfl, rfl⟩) | (go_at_call 11; refine (HSS.out _).mono ?_; rintro e w' ⟨rfl, rfl⟩) | (go_at_call 17; refine HP.out.mono ?_; rintro e w2 ⟨rfl, hb2⟩))
          all_goals
            go_ret2
            exact ⟨_, _, rfl, hb2, by rw [HY.out]; exact ⟨rfl, HR.out, HPB.out⟩⟩
    · have HN : Hid (pathOfL a.data.toList = none) := by rw [hl]; show (if c = 47 then _ else none) = none; rw [if_neg hc]
      rw [hl, show Lib.hasPrefix (c :: t) ((⟨#[47]⟩ : ByteArray).data.toList) = false by unfold Lib.hasPrefix; simp [List.isPrefixOf]; exact fun e => hc e.symm] at HF
      clear hl hm hc
      go_enter Tryd.func6, Tryd.ntmps6
      go_wp2_with (go_at_call 16; refine (HF.out _).mono ?_; rintro e w' ⟨rfl, rfl⟩)
      go_ret2
      exact ⟨_, _, rfl, Below.refl _ _, by rw [HN.out]; exact ⟨by decide, rfl⟩⟩
theorem key_any (a : ByteArray) (ha : a.size ≤ 1099511627776) (m : Int) (w : World) (hm : w.cell? ⟨0, 0, none⟩ = some (.int .i64 m)) :
    Calls Tryd.prog 10 #[.string a] w fun e w' => ∃ (k : ByteArray) (b : Bool), e = .returned (.tuple #[.string k, .bool b]) ∧ Below w.heap.size w w' ∧ k.size ≤ 1000 := by
  have hmz : 0 < w.heap.size := World.block_lt_of_cell? w _ hm
  have HP := Lib.hid (path_any a ha m w hm)
  have HA := Lib.hid (fun (p : ByteArray) (hp : p.size ≤ maxLen) w' (hb : Below w.heap.size w w') => address_any p hp m w' ((hb.cell hmz).trans hm))
  have HT := Lib.hid (fun (s : ByteArray) (hs : s.size ≤ 9223372036854775807) w' => Tryd.strings_TrimSuffix s ⟨#[47]⟩ w' hs)
  clear hm
  go_enter Tryd.func10, Tryd.ntmps10
  go_wp2_with fail
  refine HP.out.mono ?_
  rintro e w1 ⟨s, r, rfl, hb1, hs⟩
  have HB1 := Lib.hid hb1
  clear hb1 HP
  by_cases hr : r = 0
  · subst hr
    have hz : s.size ≤ 200 := by
      have h := hs.out
      split at h
      · obtain ⟨_, h1, h2⟩ := h
        have := path_len h2
        rw [← h1, Array.length_toList] at this
        exact this
      · exact absurd rfl h.1
    have HA1 := Lib.hid (HA.out s (by unfold maxLen; omega) w1 HB1.out)
    clear hs HA
    go_wp2_with fail
    refine HA1.out.mono ?_
    rintro e w2 ⟨b, r, rfl, hb2, hs2⟩
    have hbz := hs2.out.2.2
    have HB2 : Hid (Below w.heap.size w w2) := HB1.out.trans (hb2.mono HB1.out.size)
    have HT2 := Lib.hid (HT.out b (by omega) w2)
    have hlen : (Lib.trimSuffix b.data.toList ((⟨#[47]⟩ : ByteArray).data.toList)).length ≤ 1000 := by
      unfold Lib.trimSuffix
      have h3 : b.data.toList.length = b.size := Array.length_toList
      split
      · rw [List.length_take]; omega
      · omega
    generalize Lib.trimSuffix b.data.toList ((⟨#[47]⟩ : ByteArray).data.toList) = tl at HT2 hlen
    clear hs2 hb2 HT hbz
    go_wp2_with (go_at_call 13; refine HT2.out.mono ?_; rintro e w' ⟨rfl, rfl⟩)
    go_ret2
    exact ⟨_, _, rfl, HB2.out, by show tl.toArray.size ≤ 1000; rw [List.size_toArray]; exact hlen⟩
  · have hq : (r != 0) = true := by rw [bne_iff_ne]; exact hr
    clear hr hs HA HT
    go_wp2_with fail
    go_ret2
    exact ⟨_, _, rfl, HB1.out, by decide⟩
theorem own_base {w : World} {base base' e k n : Nat} {v : Value} {xs : List Value} (h : w.ownsRow base e k v n xs) (hb : base' ≤ base) : w.ownsRow base' e k v n xs := by
  refine ⟨h.1, ?_⟩
  rcases h.2 with h | ⟨g, cap, cur, h1, h2, h3⟩
  · exact .inl h
  · exact .inr ⟨g, cap, cur, h1, Nat.le_trans hb h2, h3⟩
theorem ownsRow_below {w w' : World} {base e k n : Nat} {v : Value} {xs : List Value} (h : w.ownsRow base e k v n xs) (hb : Below w.heap.size w w') : w'.ownsRow base e k v n xs := by
  refine ⟨h.1, ?_⟩
  rcases h.2 with h | ⟨g, cap, cur, h1, h2, h3, h4⟩
  · exact .inl h
  · exact .inr ⟨g, cap, cur, h1, h2, (hb.block _ (Array.getElem?_eq_some_iff.1 h3).1).trans h3, h4⟩
theorem below_of {w w1 w2 : World} (h2 : Below w.heap.size w1 w2) (h1 : Below w.heap.size w w1) : Below w.heap.size w w2 := h1.trans h2
theorem infoStr : (Tryd.prog.info? 9).map (fun i => (i.zero, i.size, i.bytes)) = some (some (.string ⟨#[]⟩), 1, 16) := by kernel_rfl
theorem zeroStr (w : World) : (zeroValue 9).run Tryd.prog w = .ok (.string ⟨#[]⟩) w := by kernel_rfl
theorem address_ok (o : O) (ho : o.p.size ≤ maxLen) (hp : pathB o.p.data.toList = true) (m : Int) (w : World) (hm : w.cell? ⟨0, 0, none⟩ = some (.int .i64 m)) :
    Calls Tryd.prog 12 #[.string o.p] w fun e w' => e = .returned (.tuple #[.string ⟨(adO o).toArray⟩, .int .i64 0]) ∧ Below w.heap.size w w' := by
  refine (address_any o.p ho m w hm).mono ?_
  rintro e w' ⟨a, r, rfl, hb, h⟩
  obtain ⟨rfl, h2⟩ := h.out.1 hp
  refine ⟨?_, hb⟩
  have : a = ⟨(adO o).toArray⟩ := bytes_eq (by rw [h2]; rfl)
  rw [this]
end Go.Proofs.YtdjcificgilimaaDoor
