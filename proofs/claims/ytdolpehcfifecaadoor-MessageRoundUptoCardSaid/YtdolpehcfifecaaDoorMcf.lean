/- Messages: what the writer wrote is read: words, signs. No program. · Messages: what the writer wrote is read: a number's sign, an argument, the head of ways. No program. · Messages: what the writer wrote is read: the head of ways. No program. · Messages: what the writer wrote is read: the words of ways. No program. -/
import Derived.Test.YtdolpehcfifecaaDoorMcb
namespace Mh
open Go Go.RowKit
set_option linter.unusedVariables false
theorem tw_app {α : Type} (p : α → Bool) : ∀ (a r : List α), a.all p = true → (∀ c, r.head? = some c → p c = false) → (a ++ r).takeWhile p = a := by
  intro a
  induction a with
  | nil =>
    intro r _ h
    cases r with
    | nil => rfl
    | cons c r => simp [h c rfl]
  | cons x a ih =>
    intro r h1 h2
    simp only [List.all_cons, Bool.and_eq_true] at h1
    simp [h1.1, ih r h1.2 h2]
def mblB (c : UInt8) : Bool := decide (c.toNat = 32) || decide (c.toNat = 9) || decide (c.toNat = 10)
theorem skip_at {s : ByteArray} {i : Nat} {b r : List UInt8} (h : s.data.toList.drop i = b ++ r) (hb : b.all mblB = true) (hr : ∀ c, r.head? = some c → mblB c = false) : skipP s i = i + b.length := by
  unfold skipP
  rw [h]
  have := tw_app mblB b r hb hr
  unfold mblB at this
  rw [this]
theorem byteAt_cons {s : ByteArray} {i : Nat} {c : UInt8} {r : List UInt8} (h : s.data.toList.drop i = c :: r) : byteAt s i = some c := by
  obtain ⟨hi, e, _⟩ := mat_cons h
  rw [byteAt_lt hi, e]
theorem ext_at {s : ByteArray} {i : Nat} {a r : List UInt8} (h : s.data.toList.drop i = a ++ r) : s.extract i (i + a.length) = ⟨a.toArray⟩ := by
  apply ByteArray.ext
  rw [ByteArray.data_extract]
  apply Array.ext'
  rw [Array.toList_extract]
  simp only [List.extract_eq_take_drop, Nat.add_sub_cancel_left, h, List.take_left]
/-- A word behind blanks. -/
theorem word_at {s : ByteArray} {m : Ms} {b a r : List UInt8} (h : s.data.toList.drop m.i = b ++ (a ++ r)) (hb : b.all mblB = true) (ha : a.all mwordB = true) (hne : a ≠ []) (hr : ∀ c, r.head? = some c → mwordB c = false) (hab : ∀ c, a.head? = some c → mblB c = false ∧ c ≠ 61) :
    Ms.word s m = (⟨a.toArray⟩, m.i + b.length, m.at (m.i + b.length + a.length)) := by
  obtain ⟨c, a', rfl⟩ : ∃ c a', a = c :: a' := by
    cases a with
    | nil => exact absurd rfl hne
    | cons c a' => exact ⟨c, a', rfl⟩
  have hs : skipP s m.i = m.i + b.length := skip_at h hb (fun x hx => by
    simp only [List.cons_append, List.head?_cons, Option.some.injEq] at hx
    subst hx
    exact (hab c rfl).1)
  have hd := mat_app h
  have hw : wordEnd s (m.i + b.length) = m.i + b.length + (c :: a').length := by
    unfold wordEnd
    have hb1 : byteAt s (m.i + b.length) = some c := byteAt_cons (r := a' ++ r) hd
    have : ¬ byteAt s (m.i + b.length) = some 61 := by rw [hb1]; intro e; cases e; exact (hab 61 rfl).2 rfl
    simp only [if_neg this]
    rw [hd, tw_app mwordB _ r ha hr]
  unfold Ms.word
  simp only [hs, hw]
  rw [if_neg (by simp), ext_at hd]
  rfl
/-- A sign behind blanks. -/
theorem take_at {s : ByteArray} {m : Ms} {b r : List UInt8} {c : UInt8} (he : m.e = 0) (h : s.data.toList.drop m.i = b ++ (c :: r)) (hb : b.all mblB = true) (hc : mblB c = false) : Ms.take s c m = m.at (m.i + b.length + 1) := by
  have hs : skipP s m.i = m.i + b.length := skip_at h hb (fun x hx => by
    simp only [List.head?_cons, Option.some.injEq] at hx
    subst hx
    exact hc)
  have hd := mat_app h
  unfold Ms.take
  rw [if_neg (by omega)]
  simp only [hs, byteAt_cons hd, if_true]
  rfl
end Mh
namespace Mh
open Go Go.RowKit
set_option linter.unusedVariables false
theorem small_blank {c : UInt8} (h : smallB c = true) : mblB c = false ∧ c ≠ 61 ∧ mwordB c = true := by
  unfold smallB at h
  simp only [decide_eq_true_eq] at h
  refine ⟨?_, ?_, ?_⟩
  · unfold mblB
    simp only [Bool.or_eq_false_iff, decide_eq_false_iff_not]
    omega
  · rintro rfl
    revert h; decide
  · unfold mwordB mletB smallB
    simp only [Bool.or_eq_true, Bool.and_eq_true, decide_eq_true_eq]
    omega
theorem key_word {c : UInt8} (h : keyB c = true) : mwordB c = true := by
  unfold keyB at h
  unfold mwordB mletB
  simp only [Bool.or_eq_true] at h ⊢
  rcases h with ((h | h) | h) | h
  · exact .inl (.inl (.inl (.inl h)))
  · exact .inl (.inl (.inr h))
  · exact .inl (.inr h)
  · exact .inr h
/-- A key is read as a word. -/
theorem key_at {s : ByteArray} {m : Ms} {t r : List UInt8} (hk : isKeyL t = true) (h : s.data.toList.drop m.i = t ++ r) (hr : ∀ c, r.head? = some c → mwordB c = false) : Ms.word s m = (⟨t.toArray⟩, m.i, m.at (m.i + t.length)) := by
  cases t with
  | nil => cases hk
  | cons c l =>
    unfold isKeyL at hk
    simp only [Bool.and_eq_true, decide_eq_true_eq] at hk
    have h1 := small_blank hk.1.2
    have hall : (c :: l).all mwordB = true := by
      simp only [List.all_cons, Bool.and_eq_true]
      exact ⟨h1.2.2, List.all_eq_true.2 fun x hx => key_word (List.all_eq_true.1 hk.2 x hx)⟩
    have := word_at (b := []) (a := c :: l) (r := r) h rfl hall (by simp) hr (fun x hx => by
      simp only [List.head?_cons, Option.some.injEq] at hx
      subst hx
      exact ⟨h1.1, h1.2.1⟩)
    simpa using this
/-- '#' . -/
theorem hash_at {s : ByteArray} {d : Nat} {m : Ms} {out : List Pc} {pl r : List UInt8} (he : m.e = 0) (hn : m.n < 100) (h : s.data.toList.drop m.i = 35 :: r) :
    mloop s d true m out pl = mloop s d true ⟨m.i + 1, m.a, 0, m.n + 1⟩ (flushL out pl ++ [.mk 4 ⟨#[]⟩ []]) [] := by
  obtain ⟨hi, e1, _⟩ := mat_cons h
  rw [mloop_hash he hi (by rw [e1]; rfl), piece_ok _ hn]
  simp only [Ms.at, he]
/-- '{key}'. -/
theorem insert_at {s : ByteArray} {d : Nat} {cnt : Bool} {m : Ms} {out : List Pc} {pl r : List UInt8} {t : ByteArray} (hdd : 1 ≤ d) (he : m.e = 0) (hn : m.n < 100) (hk : isKeyL t.data.toList = true) (h : s.data.toList.drop m.i = 123 :: (t.data.toList ++ (125 :: r))) :
    mloop s d cnt m out pl = mloop s d cnt ⟨m.i + 1 + t.data.toList.length + 1, m.a, 0, m.n + 1⟩ (flushL out pl ++ [.mk 1 t []]) [] := by
  obtain ⟨hi, e1, hd1⟩ := mat_cons h
  have hp := piece_ok m.i hn
  rw [mloop_brace he hi (by rw [e1]; rfl) (by rw [hp]; exact he) hdd, hp]
  have hw := key_at (s := s) (m := Ms.at ⟨m.i, m.a, m.e, m.n + 1⟩ (m.i + 1)) (t := t.data.toList) (r := 125 :: r) hk hd1 (fun x hx => by
    simp only [List.head?_cons, Option.some.injEq] at hx
    subst hx; decide)
  have hd2 := mat_app hd1
  have hskip : skipP s (m.i + 1 + t.data.toList.length) = m.i + 1 + t.data.toList.length := by
    have := skip_at (b := []) hd2 rfl (fun x hx => by
      simp only [List.head?_cons, Option.some.injEq] at hx
      subst hx; decide)
    simpa using this
  have hb := byteAt_cons hd2
  have hl : t.data.toList.length = t.size := by simp
  rw [hl] at hskip hb
  have hh : mhead s (Ms.at ⟨m.i, m.a, m.e, m.n + 1⟩ (m.i + 1)) = (t, none, ⟨m.i + 1 + t.data.toList.length + 1, m.a, m.e, m.n + 1⟩) := by
    unfold mhead
    rw [hw]
    simp only [Ms.at, he, hk]
    simp [hskip, hb]
  rw [mbrace_done (by rw [hh]), hh]
  simp only [he]
end Mh
namespace Mh
open Go Go.RowKit
set_option linter.unusedVariables false
/-- '{key, choose,' behind the brace. -/
theorem head_at {s : ByteArray} {m : Ms} {r : List UInt8} {t : ByteArray} {k : Int} (he : m.e = 0) (hk : isKeyL t.data.toList = true) (hkd : k = 2 ∨ k = 3) (h : s.data.toList.drop m.i = t.data.toList ++ (kindTx k ++ (44 :: r))) :
    mhead s m = (t, some k, m.at (m.i + t.size + (kindTx k).length + 1)) := by
  have hl : t.data.toList.length = t.size := by simp
  obtain ⟨a, ha, hal, haw⟩ : ∃ a : List UInt8, kindTx k = 44 :: 32 :: a ∧ a.all mwordB = true ∧ a ≠ [] ∧ (∀ c, a.head? = some c → mblB c = false ∧ c ≠ 61) ∧ (k = 2 ∧ (⟨a.toArray⟩ : ByteArray) = chooseW ∨ k = 3 ∧ (⟨a.toArray⟩ : ByteArray) = countW) := by
    rcases hkd with rfl | rfl
    · exact ⟨chooseW.data.toList, rfl, by decide, by decide, fun c hc => by cases hc; decide, .inl ⟨rfl, rfl⟩⟩
    · exact ⟨countW.data.toList, rfl, by decide, by decide, fun c hc => by cases hc; decide, .inr ⟨rfl, rfl⟩⟩
  obtain ⟨hane, hah, hak⟩ := haw
  rw [ha] at h ⊢
  have hw := key_at (s := s) (m := m) (t := t.data.toList) (r := 44 :: 32 :: (a ++ (44 :: r))) hk (by simpa using h) (fun x hx => by
    simp only [List.head?_cons, Option.some.injEq] at hx
    subst hx; decide)
  have hd2 : s.data.toList.drop (m.i + t.size) = 44 :: 32 :: (a ++ (44 :: r)) := by
    have := mat_app h
    rw [hl] at this
    simpa using this
  rw [hl] at hw
  have hskip : skipP s (m.i + t.size) = m.i + t.size := by
    have := skip_at (b := []) hd2 rfl (fun x hx => by
      simp only [List.head?_cons, Option.some.injEq] at hx
      subst hx; decide)
    simpa using this
  have hb := byteAt_cons hd2
  have ht1 : Ms.take s 44 (m.at (m.i + t.size)) = m.at (m.i + t.size + 1) := by
    have := take_at (s := s) (m := m.at (m.i + t.size)) (b := []) (c := 44) (r := 32 :: (a ++ (44 :: r))) he hd2 rfl (by decide)
    simpa [Ms.at] using this
  obtain ⟨_, _, hd3⟩ := mat_cons hd2
  have hw2 : Ms.word s (m.at (m.i + t.size + 1)) = (⟨a.toArray⟩, m.i + t.size + 1 + 1, m.at (m.i + t.size + 1 + 1 + a.length)) := by
    have := word_at (s := s) (m := m.at (m.i + t.size + 1)) (b := [32]) (a := a) (r := 44 :: r) hd3 (by decide) hal hane (fun x hx => by
      simp only [List.head?_cons, Option.some.injEq] at hx
      subst hx; decide) hah
    simpa [Ms.at] using this
  obtain ⟨_, _, hd4⟩ := mat_cons hd3
  have hd5 := mat_app hd4
  have ht2 : Ms.take s 44 (m.at (m.i + t.size + 1 + 1 + a.length)) = m.at (m.i + t.size + 1 + 1 + a.length + 1) := by
    have := take_at (s := s) (m := m.at (m.i + t.size + 1 + 1 + a.length)) (b := []) (c := 44) (r := r) he hd5 rfl (by decide)
    simpa [Ms.at] using this
  unfold mhead
  rw [hw]
  have hmk : (m.at (m.i + t.size)).e = 0 := he
  have e1 : ∀ i j, (m.at i).at j = m.at j := fun i j => rfl
  have e2 : ∀ i, (m.at i).i = i := fun i => rfl
  have e3 : ∀ i, (m.at i).e = 0 := fun i => he
  have e4 : (⟨t.data.toList.toArray⟩ : ByteArray) = t := by simp
  have e5 : m.i + t.size + 1 + 1 + a.length + 1 = m.i + t.size + (44 :: 32 :: a).length + 1 := by simp only [List.length_cons]; omega
  rw [e5] at ht2
  rcases hak with ⟨rfl, e⟩ | ⟨rfl, e⟩
  · rw [e] at hw2
    simp only [e1, e2, e3, e4, hk, Bool.true_eq_false, and_false, if_false, ne_eq, not_true, hskip, hb, ht1, hw2, if_true, ht2, Option.some.injEq, Int.reduceEq]
    exact if_neg (by decide)
  · rw [e] at hw2
    have hcc : ¬ countW = chooseW := by decide
    simp only [e1, e2, e3, e4, hk, Bool.true_eq_false, and_false, if_false, ne_eq, not_true, hskip, hb, ht1, hw2, if_true, ht2, Option.some.injEq, Int.reduceEq, hcc]
    exact if_neg (by decide)
end Mh
namespace Mh
open Go Go.RowKit
set_option linter.unusedVariables false
theorem mparse_fold : ∀ (l : List UInt8) (a : Nat), (∀ c ∈ l, 48 ≤ c.toNat ∧ c.toNat ≤ 57) → l.foldl (fun n c => 10 * n + (c.toNat - 48)) a < 18446744073709551616 → Lib.parseUint10 a l = .ok (l.foldl (fun n c => 10 * n + (c.toNat - 48)) a) := by
  intro l
  induction l with
  | nil => intro a _ _; rfl
  | cons c l ih =>
    intro a h hb
    have hc := h c (by simp)
    simp only [List.foldl_cons] at hb ⊢
    have hg := dfold_ge l (10 * a + (c.toNat - 48))
    simp only [Lib.parseUint10, if_pos hc]
    rw [if_neg (by omega), if_neg (by omega), show a * 10 + (c.toNat - 48) = 10 * a + (c.toNat - 48) by omega]
    exact ih _ (fun x hx => h x (List.mem_cons_of_mem _ hx)) hb
theorem mmag_dec (n : Nat) (h : n < 18446744073709551616) : Lib.parseMag (Lib.decDigits n) = .ok n := by
  unfold Lib.parseMag
  rw [if_neg (dec_ne n)]
  have e := dec_val n
  unfold dval at e
  rw [mparse_fold _ 0 (dec_digit n) (by rw [e]; exact h), e]
theorem mdec_lead (n : Nat) (h : (Lib.decDigits n).head? = some 48) : Lib.decDigits n = [48] := by
  rcases Nat.eq_zero_or_pos n with rfl | hn
  · rw [decDigits_small (by omega)]; rfl
  · exact absurd h (dec_head n hn)
theorem mdec_all (n : Nat) : (Lib.decDigits n).all digB = true := List.all_eq_true.2 fun c hc => decide_eq_true (dec_digit n c hc)
theorem mdec_cons (n : Nat) : ∃ c l, Lib.decDigits n = c :: l ∧ 48 ≤ c.toNat ∧ c.toNat ≤ 57 := by
  cases h : Lib.decDigits n with
  | nil => exact absurd h (dec_ne n)
  | cons c l => exact ⟨c, l, rfl, dec_digit n c (by rw [h]; simp)⟩
theorem matoi_itoa (n : Int) (h0 : -9223372036854775808 ≤ n) (h1 : n ≤ 9223372036854775807) : Lib.atoiAll (itoaL n) = .ok n := by
  unfold itoaL Lib.itoa
  by_cases hn : n < 0
  · rw [if_pos hn]
    have hm := mmag_dec n.natAbs (by omega)
    have h45 : (45 : UInt8).toNat = 45 := rfl
    simp only [Lib.atoiAll, h45, or_true, if_true, hm]
    rw [if_neg (by simp), if_neg (by omega)]
    congr 1
    omega
  · rw [if_neg hn]
    have hm := mmag_dec n.toNat (by omega)
    obtain ⟨c, l, e, c1, c2⟩ := mdec_cons n.toNat
    rw [e] at hm ⊢
    have hc43 : ¬ (c.toNat = 43 ∨ c.toNat = 45) := by omega
    have hc45 : ¬ c.toNat = 45 := by omega
    simp only [Lib.atoiAll, if_neg hc43, hm]
    rw [if_neg (by omega), if_neg (by omega), if_neg hc45]
    congr 1
    omega
theorem intP_itoa (n : Int) (h0 : -9223372036854775808 ≤ n) (h1 : n ≤ 9223372036854775807) : intP (itoaL n) = (n, 0) := by
  have ha := matoi_itoa n h0 h1
  unfold intP
  simp only [ha]
  rw [if_neg]
  rintro (h | h | h)
  · unfold itoaL Lib.itoa at h
    by_cases hn : n < 0
    · rw [if_pos hn] at h
      have e : Lib.trimPrefix (45 :: Lib.decDigits n.natAbs) [45] = Lib.decDigits n.natAbs := by
        unfold Lib.trimPrefix
        rw [if_pos (by unfold Lib.hasPrefix; simp)]
        rfl
      rw [e] at h
      exact dec_ne _ h
    · rw [if_neg hn] at h
      obtain ⟨c, l, e, c1, c2⟩ := mdec_cons n.toNat
      rw [e] at h
      unfold Lib.trimPrefix at h
      rw [if_neg] at h
      · cases h
      · unfold Lib.hasPrefix
        simp only [List.isPrefixOf, Bool.and_true, beq_iff_eq]
        rintro rfl
        exact absurd c1 (by decide)
  · obtain ⟨h, hne⟩ := h
    unfold itoaL Lib.itoa at h hne
    by_cases hn : n < 0
    · rw [if_pos hn] at h
      have e : Lib.trimPrefix (45 :: Lib.decDigits n.natAbs) [45] = Lib.decDigits n.natAbs := by
        unfold Lib.trimPrefix
        rw [if_pos (by unfold Lib.hasPrefix; simp)]
        rfl
      rw [e] at h
      exact dec_head n.natAbs (by omega) h
    · rw [if_neg hn] at h hne
      obtain ⟨c, l, e, c1, c2⟩ := mdec_cons n.toNat
      have e2 : Lib.trimPrefix (Lib.decDigits n.toNat) [45] = Lib.decDigits n.toNat := by
        rw [e]
        unfold Lib.trimPrefix
        rw [if_neg]
        unfold Lib.hasPrefix
        simp only [List.isPrefixOf, Bool.and_true, beq_iff_eq]
        rintro rfl
        exact absurd c1 (by decide)
      rw [e2] at h
      exact hne (mdec_lead _ h)
  · unfold itoaL Lib.itoa at h
    by_cases hn : n < 0
    · rw [if_pos hn] at h
      have e : Lib.trimPrefix (45 :: Lib.decDigits n.natAbs) [45] = Lib.decDigits n.natAbs := by
        unfold Lib.trimPrefix
        rw [if_pos (by unfold Lib.hasPrefix; simp)]
        rfl
      rw [e, mdec_all] at h
      cases h
    · rw [if_neg hn] at h
      obtain ⟨c, l, e, c1, c2⟩ := mdec_cons n.toNat
      have e2 : Lib.trimPrefix (Lib.decDigits n.toNat) [45] = Lib.decDigits n.toNat := by
        rw [e]
        unfold Lib.trimPrefix
        rw [if_neg]
        unfold Lib.hasPrefix
        simp only [List.isPrefixOf, Bool.and_true, beq_iff_eq]
        rintro rfl
        exact absurd c1 (by decide)
      rw [e2, mdec_all] at h
      cases h
theorem mdig_word {c : UInt8} (h : 48 ≤ c.toNat ∧ c.toNat ≤ 57) : mwordB c = true := by
  unfold mwordB mletB digB
  simp only [Bool.or_eq_true, decide_eq_true_eq]
  exact .inl (.inl (.inr h))
theorem mitoa_word (n : Int) : (itoaL n).all mwordB = true := by
  unfold itoaL Lib.itoa
  rw [List.all_eq_true]
  intro c hc
  split at hc
  · rcases List.mem_cons.1 hc with rfl | hc
    · decide
    · exact mdig_word (dec_digit _ c hc)
  · exact mdig_word (dec_digit _ c hc)
theorem mdig_fin : ∀ i : Fin 7, itoaL ((i.val : Nat) : Int) = [UInt8.ofNat (48 + i.val)] := by
  intro i
  unfold itoaL Lib.itoa
  rw [if_neg (by omega), Int.toNat_natCast, decDigits_small (by omega)]
theorem mzero_b {b : ByteArray} (h : b.size = 0) : b = ⟨#[]⟩ := by
  cases b with | mk d =>
    have : d.size = 0 := h
    rw [Array.size_eq_zero_iff] at this
    rw [this]
/-- A word with '=' before, behind blanks. -/
theorem wordq_at {s : ByteArray} {m : Ms} {b a r : List UInt8} (h : s.data.toList.drop m.i = b ++ (61 :: (a ++ r))) (hb : b.all mblB = true) (ha : a.all mwordB = true) (hr : ∀ c, r.head? = some c → mwordB c = false) :
    Ms.word s m = (⟨(61 :: a).toArray⟩, m.i + b.length, m.at (m.i + b.length + (61 :: a).length)) := by
  have hs : skipP s m.i = m.i + b.length := skip_at h hb (fun x hx => by
    simp only [List.head?_cons, Option.some.injEq] at hx
    subst hx; decide)
  have hd := mat_app h
  obtain ⟨_, _, hd2⟩ := mat_cons hd
  have hw : wordEnd s (m.i + b.length) = m.i + b.length + (61 :: a).length := by
    unfold wordEnd
    have hb1 : byteAt s (m.i + b.length) = some 61 := byteAt_cons hd
    simp only [if_pos hb1]
    rw [hd2, tw_app mwordB _ r ha hr, List.length_cons]
    omega
  unfold Ms.word
  simp only [hs, hw]
  rw [if_neg (by simp), ext_at (a := 61 :: a) (r := r) hd]
  rfl
def stripW (w : Wy) : Wy := .mk w.wd w.ex w.fm []
theorem mhead_all {l : List UInt8} (h : l.all mwordB = true) (c : UInt8) (hc : l.head? = some c) : mblB c = false ∧ c ≠ 61 := by
  cases l with
  | nil => cases hc
  | cons x l =>
    simp only [List.head?_cons, Option.some.injEq] at hc
    subst hc
    simp only [List.all_cons, Bool.and_eq_true] at h
    have hx := h.1
    refine ⟨?_, ?_⟩
    · cases hb : mblB x with
      | false => rfl
      | true =>
        exfalso
        unfold mblB at hb
        unfold mwordB mletB smallB digB at hx
        simp only [Bool.or_eq_true, Bool.and_eq_true, decide_eq_true_eq] at hb hx
        omega
    · rintro rfl
      revert hx; decide
/-- The word of a way, and what it is read to. -/
theorem way_tx {kd : Int} {w : Wy} {last : Bool} {ws0 : List Wy} (hk : kd = 2 ∨ kd = 3) (hf : wayFm kd w last = true) (h0 : kd = 2 → last = true → ws0 ≠ []) (hx : -9223372036854775808 ≤ w.ex ∧ w.ex ≤ 9223372036854775807) (hs : ws0.any (fun x => sameWy x (stripW w)) = false) :
    ((wayTx kd w).all mwordB = true ∧ wayTx kd w ≠ [] ∨ ∃ a : List UInt8, wayTx kd w = 61 :: a ∧ a.all mwordB = true) ∧ wayP kd ws0 ⟨(wayTx kd w).toArray⟩ = (stripW w, 0) := by
  have key : ∀ r : Wy × Int, r = (stripW w, 0) → ((r.1, if r.2 = 0 ∧ ws0.any (fun x => sameWy x r.1) = true then 6 else r.2) : Wy × Int) = (stripW w, 0) := by
    rintro r rfl
    simp only [hs]
    rfl
  have hne : ∀ l : List UInt8, l ≠ otherW.data.toList → (⟨l.toArray⟩ : ByteArray) ≠ otherW := by
    intro l h e
    exact h (by rw [← e])
  obtain ⟨wd, ex, fm, ps⟩ := w
  unfold wayFm at hf
  simp only [Bool.and_eq_true, decide_eq_true_eq] at hf
  obtain ⟨ho, hf⟩ := hf
  rcases hk with rfl | rfl
  · rw [if_pos rfl] at hf
    simp only [Bool.and_eq_true, decide_eq_true_eq, Bool.or_eq_true] at hf
    obtain ⟨⟨hex, hfm⟩, hl⟩ := hf
    change ex = 0 at hex
    change fm = 0 at hfm
    subst hex hfm
    cases last with
    | true =>
      have hsz : wd.size = 0 := by unfold isOther at ho; rw [if_pos rfl] at ho; exact of_decide_eq_true ho
      have hwd := mzero_b hsz
      subst hwd
      have ht : wayTx 2 (.mk ⟨#[]⟩ 0 0 ps) = otherW.data.toList := by unfold wayTx; rw [if_pos ho]
      rw [ht]
      refine ⟨.inl ⟨by decide, by decide⟩, ?_⟩
      unfold wayP
      refine key _ ?_
      rw [if_neg (by decide), if_pos ⟨rfl, h0 rfl rfl⟩]
      rfl
    | false =>
      have hw : wordOf wd = true := by
        rcases hl with h | h
        · cases h
        · exact h
      unfold wordOf at hw
      simp only [Bool.and_eq_true, decide_eq_true_eq] at hw
      obtain ⟨⟨w1, w2⟩, w3⟩ := hw
      have ht : wayTx 2 (.mk wd 0 0 ps) = wd.data.toList := by unfold wayTx; rw [if_neg (by rw [ho]; simp), if_pos rfl]; rfl
      rw [ht]
      have hnil : wd.data.toList ≠ [] := by intro e; apply w2; rw [← ByteArray.size_data, ← Array.length_toList, e]; rfl
      have e4 : (⟨wd.data.toList.toArray⟩ : ByteArray) = wd := by simp
      refine ⟨.inl ⟨w1, hnil⟩, ?_⟩
      unfold wayP
      refine key _ ?_
      rw [e4, if_neg (by decide), if_neg (fun h => w3 h.1), if_neg]
      · rfl
      · rintro (h | h)
        · exact w3 h
        · exact (mhead_all w1 61 h).2 rfl
  · rw [if_neg (by decide)] at hf
    simp only [Bool.and_eq_true, decide_eq_true_eq, Bool.or_eq_true] at hf
    obtain ⟨⟨⟨hsz, hf1⟩, hf2⟩, hf3⟩ := hf
    change wd.size = 0 at hsz
    change -1 ≤ fm at hf1
    change fm ≤ 7 at hf2
    change fm = -1 ∨ ex = 0 at hf3
    change -9223372036854775808 ≤ ex ∧ ex ≤ 9223372036854775807 at hx
    have hwd := mzero_b hsz
    subst hwd
    by_cases h7 : fm = 7
    · subst h7
      have hex : ex = 0 := by omega
      subst hex
      have ht : wayTx 3 (.mk ⟨#[]⟩ 0 7 ps) = otherW.data.toList := by unfold wayTx; rw [if_pos (by rfl)]
      rw [ht]
      refine ⟨.inl ⟨by decide, by decide⟩, ?_⟩
      unfold wayP
      refine key _ ?_
      rw [if_pos rfl]
      unfold countP
      rw [if_pos (by rfl)]
      rfl
    · have hoo : ¬ isOther 3 (.mk ⟨#[]⟩ ex fm ps) = true := by unfold isOther; rw [if_neg (by decide), decide_eq_true_eq]; exact h7
      by_cases h1 : fm = -1
      · subst h1
        have ht : wayTx 3 (.mk ⟨#[]⟩ ex (-1) ps) = 61 :: itoaL ex := by unfold wayTx; rw [if_neg hoo, if_neg (by decide)]; exact if_pos rfl
        rw [ht]
        refine ⟨.inr ⟨_, rfl, mitoa_word ex⟩, ?_⟩
        unfold wayP
        refine key _ ?_
        rw [if_pos rfl]
        unfold countP
        rw [if_neg (hne _ (by intro e; injection e with e _; exact absurd e (by decide))), if_pos (by rfl)]
        have := intP_itoa ex hx.1 hx.2
        simp only [List.tail_cons, this]
        rfl
      · have hex : ex = 0 := by omega
        subst hex
        obtain ⟨k, rfl⟩ : ∃ k : Nat, fm = k := ⟨fm.toNat, by omega⟩
        have hk7 : k < 7 := by omega
        have ht : wayTx 3 (.mk ⟨#[]⟩ 0 k ps) = [UInt8.ofNat (48 + k)] := by
          unfold wayTx; rw [if_neg hoo, if_neg (by decide)]; exact (if_neg h1).trans (mdig_fin ⟨k, hk7⟩)
        rw [ht]
        have hd := digit_nat (d := k) (by omega)
        refine ⟨.inl ⟨?_, by simp⟩, ?_⟩
        · simp only [List.all_cons, List.all_nil, Bool.and_true]
          exact mdig_word (by omega)
        · unfold wayP
          refine key _ ?_
          rw [if_pos rfl]
          unfold countP
          rw [if_neg (hne _ (by intro e; injection e with _ e; cases e)), if_neg]
          · simp only
            rw [if_pos (by omega)]
            have : (UInt8.ofNat (48 + k)).toNat - 48 = k := by omega
            rw [this]
            rfl
          · simp only [List.head?_cons, Option.some.injEq]
            intro e
            rw [e] at hd
            have : (61 : UInt8).toNat = 61 := rfl
            omega
theorem way_word {s : ByteArray} {m : Ms} {kd : Int} {w : Wy} {last : Bool} {ws0 : List Wy} {r : List UInt8} (he : m.e = 0) (hk : kd = 2 ∨ kd = 3) (hf : wayFm kd w last = true) (h0 : kd = 2 → last = true → ws0 ≠ []) (hx : -9223372036854775808 ≤ w.ex ∧ w.ex ≤ 9223372036854775807) (hs : ws0.any (fun x => sameWy x (stripW w)) = false)
    (h : s.data.toList.drop m.i = 32 :: (wayTx kd w ++ (32 :: r))) : Ms.way s kd ws0 m = (m.at (m.i + 1 + (wayTx kd w).length), stripW w) := by
  obtain ⟨ht, hp⟩ := way_tx hk hf h0 hx hs
  have hr : ∀ c, (32 :: r).head? = some c → mwordB c = false := fun c hc => by
    simp only [List.head?_cons, Option.some.injEq] at hc
    subst hc; decide
  have hw : Ms.word s m = (⟨(wayTx kd w).toArray⟩, m.i + 1, m.at (m.i + 1 + (wayTx kd w).length)) := by
    rcases ht with ⟨t1, t2⟩ | ⟨a, t1, t2⟩
    · exact word_at (b := [32]) h (by decide) t1 t2 hr (mhead_all t1)
    · rw [t1] at h ⊢
      exact wordq_at (b := [32]) h (by decide) t2 hr
  unfold Ms.way
  rw [hw]
  simp only [hp]
  rw [if_neg (by show ¬ m.e ≠ 0; omega)]
  rfl
end Mh
