/- lang.testText: it writes a right test's text. Conditions: the test is right, of at most 20 tests; the library's table of powers of ten is laid. -/
import Derived.Test.YtgfoangacbajlaaDoorRuI
import Derived.Test.YtgfoangacbajlaaDoorRuQ
import Derived.Test.YtgfoangacbajlaaDoorShelf
import Derived.Lib.SmallJoins
import Derived.Lib.AppendIntMem
namespace Go.Proofs.YtgfoangacbajlaaDoor
open Go.RowKit Mh
set_option linter.unusedVariables false

/-- The library's table of powers of ten. -/
def Tab10 (w : World) : Prop := Lib.TabIs Tryd.prog w "internal/strconv.uint64pow10" .u64 Lib.pow10Tab
theorem Tab10.next {w w' : World} (h : Tab10 w) (hb : Below w.heap.size w w') : Tab10 w' := Lib.tabBelow_of_tabIs h w' hb
theorem itoa_any (n : Int) (h0 : 0 ≤ n) (h1 : n ≤ 1000000000) (w : World) (ht : Tab10 w) :
    Calls Tryd.prog 23 #[.int .i64 n] w fun e w' => e = .returned (.string ⟨(dec n).toArray⟩) ∧ Below w.heap.size w w' := by
  refine (Tryd.strconv_Itoa n (by omega) (by omega) w ht).mono ?_
  rintro e w' ⟨rfl, k, os, rfl⟩
  refine ⟨?_, Lib.below_grow _ _ (Nat.le_refl _) _ _⟩
  unfold Lib.itoa dec
  rw [if_neg (by omega)]
theorem infoStr' : (Tryd.prog.info? 9).map (fun i => (i.zero, i.size, i.bytes)) = some (some (.string ⟨#[]⟩), 1, 16) := by kernel_rfl
/-- A string's value out of its bytes. -/
def sv (l : List UInt8) : Value := .string ⟨l.toArray⟩

theorem ownsRow_keep2 {w w' : World} {base e k : Nat} {v : Value} {n : Nat} {xs : List Value} (h : w.ownsRow base e k v n xs) (hb : Below w.heap.size w w') : w'.ownsRow base e k v n xs := by
  refine ⟨h.1, ?_⟩
  rcases h.2 with hn | ⟨g, cap, cur, rfl, hbs, hgg, rest⟩
  · exact .inl hn
  · exact .inr ⟨g, cap, cur, rfl, hbs, (hb.block g (Array.getElem?_eq_some_iff.1 hgg).1).trans hgg, rest⟩
/-- strings.Join of strings that the call owns. -/
theorem join_any (v : Value) (l : List (List UInt8)) (n : Nat) (sign : ByteArray) (w : World) {base : Nat} (hn : n = l.length) (hown : w.ownsRow base 9 1 v n (l.map sv)) (hlen : (joinB sign.data.toList l).length ≤ 140737488355328) (hnn : n ≤ 1000) :
    Calls Tryd.prog 11 #[v, .string sign] w fun e w' => e = .returned (sv (joinB sign.data.toList l)) ∧ Below w.heap.size w w' := by
  subst hn
  obtain ⟨ao, c, rfl, _, hs⟩ := Sl.shape (Sl.of_own hown (by decide))
  by_cases h0 : 0 < l.length
  · obtain ⟨b, off, rfl, hc, _, hlt, hcell⟩ := hs h0
    have := Tryd.strings_Join b off c (l.map fun x => ⟨x.toArray⟩) sign w (by
      intro j x hj
      refine hcell j _ ?_
      rw [List.getElem?_map] at hj ⊢
      obtain ⟨y, hy, rfl⟩ := Option.map_eq_some_iff.1 hj
      rw [hy]; rfl) hlt (by simp; omega) (by simpa using hc) (by
      rw [List.map_map, show ((fun x : ByteArray => x.data.toList) ∘ fun x : List UInt8 => (⟨x.toArray⟩ : ByteArray)) = id from by funext x; simp, List.map_id, join_joinB]
      exact hlen)
    rw [List.map_map, show ((fun x : ByteArray => x.data.toList) ∘ fun x : List UInt8 => (⟨x.toArray⟩ : ByteArray)) = id from by funext x; simp, List.map_id, join_joinB, List.length_map] at this
    exact this
  · obtain rfl : l = [] := List.eq_nil_of_length_eq_zero (by omega)
    refine (Tryd.strings_Join_none ao c sign w).mono ?_
    rintro e w' ⟨rfl, rfl⟩
    exact ⟨rfl, Below.refl _ _⟩

/-- What is asked of a test whose text is written. -/
def TxtOk (X : T) (cs : List Value) (w : World) : Prop :=
    Calls Tryd.prog 10 #[.agg cs.toArray] w fun e w' => e = .returned (sv X.txt) ∧ Below w.heap.size w w'

set_option maxRecDepth 100000 in
set_option maxHeartbeats 4000000 in
theorem rjoin_any (op m lo hi : Int) (ks : List T) (ao : Option Addr) (c : Nat) (rows : List Value) (sign : ByteArray) (B : Nat) (w : World)
    (hbox : w.heap[B]? = some (.cells #[.int .i64 op, .int .i64 m, .int .i64 lo, .int .i64 hi, .slice ao ks.length c] 42 (0, 0)))
    (hS : Sl 5 w (.slice ao ks.length c) ks.length rows) (hT : TsAt w ks rows) (hn : T.cnts ks ≤ 20) (hg : ∀ k ∈ ks, k.form = true ∧ k.rng = true) (hs3 : sign.size = 3) (htab : Tab10 w)
    (hkid : ∀ k (h : k < ks.length) (cs : List Value) (w : World), TAt w ks[k] cs → Tab10 w → TxtOk ks[k] cs w) :
    Calls Tryd.prog 22 #[.string sign, .pointer (some ⟨B, 0, none⟩)] w fun e w' => e = .returned (sv (joinB sign.data.toList (T.txts op ks))) ∧ Below w.heap.size w w' := by
  obtain ⟨si, hsi, hsz0, hsz1, hsz2⟩ := info_parts infoStr'
  obtain ⟨_, _, he, hk⟩ := kid_at hS hT
  injection he with he1 _ he2
  subst he1 he2
  have hlen : ks.length ≤ 20 := Nat.le_trans (T.cnts_len ks) hn
  have HK := Lib.hid hk
  have HG : Hid (∀ k (h : k < ks.length), (T.kid op ks[k]).length ≤ 800 ∧ (T.txt ks[k]).length ≤ 800) := by
    intro k h
    have hm := List.getElem_mem h
    have h1 := T.txt_len ks[k] (hg _ hm).1 (hg _ hm).2
    have h2 := kid_len op ks[k] (hg _ hm).1 (hg _ hm).2
    have h3 := T.cnts_mem ks _ hm
    omega
  have HTX := Lib.hid (T.txts_map op ks)
  have HKID := Lib.hid hkid
  have HBOX := Lib.hid hbox
  have HTAB := Lib.hid htab
  have hltB : B < w.heap.size := (Array.getElem?_eq_some_iff.1 hbox).1
  have c4 : w.cell? ⟨B, 4, none⟩ = some (.slice ao ks.length c) := cellT hbox rfl
  have HLEN : Hid ((joinB sign.data.toList (T.txts op ks)).length ≤ 20000) := by
    have h1 := joinB_len sign.data.toList (T.txts op ks)
    have e3 : sign.data.toList.length = 3 := by rw [← hs3]; simp
    rw [e3, T.txts_map] at h1
    have h2 : ∀ l : List T, (∀ k ∈ l, (T.kid op k).length ≤ 800) → ((l.map (T.kid op)).map fun p => p.length + 3).sum ≤ l.length * 803 := by
      intro l
      induction l with
      | nil => intro _; simp
      | cons a l ih =>
        intro h
        have := ih (fun k hk => h k (by simp [hk]))
        have := h a (by simp)
        simp only [List.map_cons, List.sum_cons, List.length_cons]
        omega
    have := h2 ks (fun k hk => by obtain ⟨i, hi, rfl⟩ := List.mem_iff_getElem.1 hk; exact (HG.out i hi).1)
    rw [T.txts_map]
    show _ ≤ 20000
    omega
  clear hS hT hn hg hk hkid hbox htab
  go_enter Tryd.func22, Tryd.ntmps22
  go_wp2_with fail
  go_loopw [4, 11] (fun v i wr => ∃ k : Nat, k ≤ ks.length ∧ i = .int .i64 k ∧ Hid (Below w.heap.size w wr) ∧ w.heap.size ≤ wr.heap.size ∧ wr.ownsRow w.heap.size 9 1 v k (((T.txts op ks).take k).map sv)) (fun _ i _ => ks.length - (intOf i).toNat)
  case atStart => exact ⟨0, by omega, rfl, Below.refl _ _, Nat.le_refl _, World.ownsRow_nil _ _ _ _⟩
  case round =>
    obtain ⟨k, hkk, rfl, HB, hzr, hown⟩ := hrel
    by_cases hkl : k < ks.length
    · obtain ⟨b, off, a4, v4, rfl, hlt, hat, c0, c1, c2, c3, c4'⟩ := HK.out k hkl
      obtain ⟨d0, d1, d2, d3, d4⟩ := kid_later HB.out hlt c0 c1 c2 c3 c4'
      have hBn : Below wr.heap.size wr (wr.alloc (.cells #[.int .i64 ks[k].op, .int .i64 ks[k].mod, .int .i64 ks[k].lo, .int .i64 ks[k].hi, .slice a4 ks[k].ks.length v4] 42)) := (Below.refl _ wr).alloc (Nat.le_refl _) _
      have hBn2 := HB.out.trans (hBn.mono hzr)
      have HCALL := Lib.hid (HKID.out k hkl _ _ (hat.keep hBn2) (HTAB.out.next hBn2))
      have HBn := Lib.hid hBn2
      have HNB : Hid ((wr.alloc (.cells #[.int .i64 ks[k].op, .int .i64 ks[k].mod, .int .i64 ks[k].lo, .int .i64 ks[k].hi, .slice a4 ks[k].ks.length v4] 42)).heap[wr.heap.size]? = some (.cells #[.int .i64 ks[k].op, .int .i64 ks[k].mod, .int .i64 ks[k].lo, .int .i64 ks[k].hi, .slice a4 ks[k].ks.length v4] 42 (0, 0))) := heap_alloc_new _ _
      have HOW := Lib.hid (hown.alloc (.cells #[.int .i64 ks[k].op, .int .i64 ks[k].mod, .int .i64 ks[k].lo, .int .i64 ks[k].hi, .slice a4 ks[k].ks.length v4] 42))
      obtain ⟨oa, oc, rfl⟩ := ownsRow_form hown
      have HG1 := Lib.hid (HG.out k hkl)
      have hkd : T.kid op ks[k] = if ks[k].op = 3 ∧ op ≠ 3 then 40 :: (T.txt ks[k] ++ [41]) else T.txt ks[k] := rfl
      have HKD := Lib.hid hkd
      have HTS : Hid ((T.txts op ks).take (k + 1) = (T.txts op ks).take k ++ [T.kid op ks[k]]) := by
        show _ = _
        rw [HTX.out, List.take_succ_eq_append_getElem (by simpa using hkl)]
        simp
      obtain ⟨KT, hKT⟩ : ∃ x, x = T.kid op ks[k] := ⟨_, rfl⟩
      rw [← hKT] at HKD HTS HG1
      obtain ⟨kop, hkop⟩ : ∃ x, x = ks[k].op := ⟨_, rfl⟩
      rw [← hkop] at d0 HCALL HBn HNB HOW HKD
      unfold TxtOk sv at HCALL
      obtain ⟨S, hSS⟩ : ∃ S : ByteArray, S = ⟨(T.txt ks[k]).toArray⟩ := ⟨_, rfl⟩
      rw [← hSS] at HCALL
      have HSS : Hid (S.data.toList = T.txt ks[k]) := by show _ = _; rw [hSS]
      have hSz : S.size ≤ 800 := by
        rw [hSS]; show (T.txt ks[k]).toArray.size ≤ 800; simpa using HG1.out.2
      clear hat c0 c1 c2 c3 c4' hBn hBn2 hown hkd hKT hkop hSS
      go_wp2_with fail
      refine HCALL.out.mono ?_
      rintro e w2 ⟨rfl, hb2⟩
      have hN2 := (hb2.block wr.heap.size (by simp)).trans HNB.out
      have n0 : w2.cell? ⟨wr.heap.size, 0, none⟩ = some (.int .i64 kop) := cellT hN2 rfl
      have HB2 : Hid (Below w.heap.size w w2) := HBn.out.trans (hb2.mono (by simp; omega))
      have b0 : w2.cell? ⟨B, 0, none⟩ = some (.int .i64 op) := cellT ((HB2.out.block B hltB).trans HBOX.out) rfl
      have HO2 := Lib.hid (ownsRow_keep2 HOW.out hb2)
      have hz2 : w.heap.size ≤ w2.heap.size := HB2.out.size
      clear hb2 hN2
      have ways : (kop = 3 ∧ op ≠ 3) ∨ (kop = 3 ∧ op = 3) ∨ kop ≠ 3 := by omega
      rcases ways with ⟨w1, w2'⟩ | ⟨w1, w2'⟩ | w1
      · have q1 : (kop == 3) = true := by rw [w1]; rfl
        have q2 : (op != 3) = true := by rw [bne_iff_ne]; exact w2'
        have HE : Hid ((⟨#[40]⟩ ++ S ++ ⟨#[41]⟩ : ByteArray) = ⟨KT.toArray⟩) := by
          refine bext ?_
          have := HKD.out
          rw [if_pos ⟨w1, w2'⟩] at this
          rw [this]
          simp [HSS.out]
        have s1 := fun w => run_string_add_sum (P := Tryd.prog) (w := w) ⟨#[40]⟩ S (by rw [show (⟨#[40]⟩ : ByteArray).size = 1 from rfl]; omega)
        have s2 := fun w => run_string_add_sum (P := Tryd.prog) (w := w) (⟨#[40]⟩ ++ S) ⟨#[41]⟩ (by rw [ByteArray.size_append, show (⟨#[40]⟩ : ByteArray).size = 1 from rfl, show (⟨#[41]⟩ : ByteArray).size = 1 from rfl]; omega)
        rw [HE.out] at s2
        clear w1 w2'
        go_wp2_with (at_builtin; refine wpList_append1 HB2.out rfl _ _ 40 rfl 9 si (.string ⟨#[]⟩) 16 Tryd.underlying40 hsi hsz0 hsz1 hsz2 rfl _ _ _ rfl HO2.out _ rfl rfl (by unfold maxLen; omega) (by omega) (Nat.le_refl _) hz2 ?_; intro v' w' hown' hbel' hsz')
        go_roundw
        case rel => exact ⟨k + 1, by omega, by go_num, hbel', hsz', by rw [HTS.out, List.map_append]; exact hown'⟩
        case measure => simp [intOf]; omega
      all_goals
        have HE : Hid (S = ⟨KT.toArray⟩) := by
          refine bext ?_
          have := HKD.out
          rw [if_neg (by omega)] at this
          rw [this]
          exact HSS.out
      · have q1 : (kop == 3) = true := by rw [w1]; rfl
        have q2 : (op != 3) = false := by rw [w2']; rfl
        clear w1 w2'
        go_wp2_with (at_builtin; refine wpList_append1 HB2.out rfl _ _ 40 rfl 9 si (.string ⟨#[]⟩) 16 Tryd.underlying40 hsi hsz0 hsz1 hsz2 rfl _ _ _ rfl HO2.out _ rfl rfl (by unfold maxLen; omega) (by omega) (Nat.le_refl _) hz2 ?_; intro v' w' hown' hbel' hsz')
        go_roundw
        case rel => exact ⟨k + 1, by omega, by go_num, hbel', hsz', by rw [HTS.out, List.map_append]; rw [HE.out] at hown'; exact hown'⟩
        case measure => simp [intOf]; omega
      · have q1 : (kop == 3) = false := by rw [beq_eq_false_iff_ne]; exact w1
        clear w1
        go_wp2_with (at_builtin; refine wpList_append1 HB2.out rfl _ _ 40 rfl 9 si (.string ⟨#[]⟩) 16 Tryd.underlying40 hsi hsz0 hsz1 hsz2 rfl _ _ _ rfl HO2.out _ rfl rfl (by unfold maxLen; omega) (by omega) (Nat.le_refl _) hz2 ?_; intro v' w' hown' hbel' hsz')
        go_roundw
        case rel => exact ⟨k + 1, by omega, by go_num, hbel', hsz', by rw [HTS.out, List.map_append]; rw [HE.out] at hown'; exact hown'⟩
        case measure => simp [intOf]; omega
    · have eT : (T.txts op ks).take k = T.txts op ks := List.take_of_length_le (by rw [HTX.out]; simp; omega)
      rw [eT] at hown
      have hkn : k = (T.txts op ks).length := by rw [HTX.out]; simp; omega
      have HJ : Hid (∀ v, wr.ownsRow w.heap.size 9 1 v k ((T.txts op ks).map sv) → Calls Tryd.prog 11 #[v, .string sign] wr fun e w' => e = .returned (sv (joinB sign.data.toList (T.txts op ks))) ∧ Below wr.heap.size wr w') := by
        intro v hv
        exact join_any v (T.txts op ks) k sign wr hkn hv (by have := HLEN.out; omega) (by omega)
      have HJ2 := Lib.hid (HJ.out _ hown)
      obtain ⟨oa, oc, rfl⟩ := ownsRow_form hown
      clear hown eT hkn HJ
      go_wp2_with fail
      refine HJ2.out.mono ?_
      rintro e w2 ⟨rfl, hb2⟩
      have HB2 : Hid (Below w.heap.size w w2) := HB.out.trans (hb2.mono hzr)
      clear hb2
      go_wp2_with fail
      go_ret
      exact ⟨rfl, HB2.out⟩
end Go.Proofs.YtgfoangacbajlaaDoor
