/- Messages: the writer of package lang as plain functions, and what it lets pass. No program. · Messages: what the writer wrote is read: plain text. No program. -/
import Derived.Test.YtdolpehcfifecaaDoorMgQ
import Derived.Test.YtdolpehcfifecaaDoorDec10
namespace Mh
open Go Go.RowKit
set_option linter.unusedVariables false
def escL : List UInt8 → List UInt8
  | [] => []
  | c :: l => if mescB c = true then 92 :: c :: escL l else c :: escL l
/-- ", choose", ", count". -/
def kindTx (k : Int) : List UInt8 := if k = 2 then 44 :: 32 :: chooseW.data.toList else if k = 3 then 44 :: 32 :: countW.data.toList else []
def itoaL (n : Int) : List UInt8 := Lib.itoa n
def wayTx (k : Int) (w : Wy) : List UInt8 := if isOther k w = true then otherW.data.toList else if k = 2 then w.wd.data.toList else if w.fm = -1 then 61 :: itoaL w.ex else itoaL w.fm
mutual
def wrP : Pc → List UInt8
  | .mk k t ws => if k = 0 then escL t.data.toList else if k = 4 then [35] else 123 :: (t.data.toList ++ kindTx k ++ wrWs k true ws ++ [125])
def wrPs : List Pc → List UInt8
  | [] => []
  | p :: l => wrP p ++ wrPs l
def wrWs (k : Int) (first : Bool) : List Wy → List UInt8
  | [] => []
  | .mk u x f ps :: l => (if first then [44] else []) ++ [32] ++ wayTx k (.mk u x f []) ++ [32, 123] ++ wrPs ps ++ [125] ++ wrWs k false l
end
def wordOf (s : ByteArray) : Bool := s.data.toList.all mwordB && decide (s.size ≠ 0) && decide (s ≠ otherW)
def wayFm (k : Int) (w : Wy) (last : Bool) : Bool :=
  decide (isOther k w = last) && (if k = 2 then decide (w.ex = 0) && decide (w.fm = 0) && (last || wordOf w.wd) else decide (w.wd.size = 0) && decide (-1 ≤ w.fm) && decide (w.fm ≤ 7) && (decide (w.fm = -1) || decide (w.ex = 0)))
def waysFm (k : Int) : List Wy → Bool
  | [] => true
  | [w] => wayFm k w true
  | w :: l => wayFm k w false && waysFm k l
def pieceFm (cnt : Bool) (p : Pc) : Bool :=
  if p.kd = 0 then decide (p.tx.size ≠ 0) && p.ws.isEmpty
  else if p.kd = 1 then isKeyL p.tx.data.toList && p.ws.isEmpty
  else if p.kd = 4 then cnt && decide (p.tx.size = 0) && p.ws.isEmpty
  else if p.kd = 2 ∨ p.kd = 3 then isKeyL p.tx.data.toList && !p.ws.isEmpty && !(decide (p.kd = 2) && decide (p.ws.length = 1)) && waysFm p.kd p.ws
  else false
mutual
def formsP (cnt : Bool) : Pc → Bool
  | .mk k t ws => pieceFm cnt (.mk k t ws) && formsWs (cnt || decide (k = 3)) ws
def formsPs (cnt : Bool) (prev : Bool) : List Pc → Bool
  | [] => true
  | p :: l => formsP cnt p && !(prev && decide (p.kd = 0)) && formsPs cnt (decide (p.kd = 0)) l
def formsWs (cnt : Bool) : List Wy → Bool
  | [] => true
  | .mk _ _ _ ps :: l => formsPs cnt false ps && formsWs cnt l
end
mutual
def deepPs : List Pc → Nat
  | [] => 0
  | .mk _ _ ws :: l => max (deepWs ws) (deepPs l)
/-- The levels of the ways' messages. -/
def deepWs : List Wy → Nat
  | [] => 0
  | .mk _ _ _ ps :: l => max (deepPs ps + 1) (deepWs l)
end
mutual
def manyPs : List Pc → Nat
  | [] => 0
  | .mk _ _ ws :: l => 1 + manyWs ws + manyPs l
def manyWs : List Wy → Nat
  | [] => 0
  | .mk _ _ _ ps :: l => manyPs ps + manyWs l
end
mutual
def bytePs : List Pc → Bool
  | [] => false
  | .mk k t ws :: l => (decide (k = 0) && t.data.toList.any mctlB) || byteWs ws || bytePs l
def byteWs : List Wy → Bool
  | [] => false
  | .mk _ _ _ ps :: l => bytePs ps || byteWs l
end
mutual
def twicePs : List Pc → Bool
  | [] => false
  | .mk _ _ ws :: l => twiceWs [] ws || twicePs l
def twiceWs (seen : List Wy) : List Wy → Bool
  | [] => false
  | .mk u x f ps :: l => seen.any (fun y => sameWy y (.mk u x f [])) || twicePs ps || twiceWs (seen ++ [.mk u x f []]) l
end
theorem wrPs_app (a b : List Pc) : wrPs (a ++ b) = wrPs a ++ wrPs b := by
  induction a with
  | nil => simp [wrPs]
  | cons x a ih => simp [wrPs, ih]
theorem wrP_pos (cnt : Bool) (p : Pc) (h : pieceFm cnt p = true) : wrP p ≠ [] := by
  obtain ⟨k, t, ws⟩ := p
  unfold wrP
  split
  · rename_i hk
    have h2 : (decide (t.size ≠ 0) && ws.isEmpty) = true := by rw [← h]; unfold pieceFm; exact (if_pos hk).symm
    simp only [Bool.and_eq_true, decide_eq_true_eq] at h2
    intro e
    cases t with | mk d => cases d with | mk l => cases l with
      | nil => exact h2.1 rfl
      | cons c l => simp only [escL] at e; split at e <;> cases e
  · split <;> simp
end Mh
namespace Mh
open Go Go.RowKit
set_option linter.unusedVariables false
theorem mat_cons {s : ByteArray} {i : Nat} {c : UInt8} {r : List UInt8} (h : s.data.toList.drop i = c :: r) : ∃ hi : i < s.size, s[i] = c ∧ s.data.toList.drop (i + 1) = r := by
  have hl : i < s.data.toList.length := by
    rcases Nat.lt_or_ge i s.data.toList.length with h2 | h2
    · exact h2
    · rw [List.drop_eq_nil_of_le h2] at h; cases h
  have hi : i < s.size := by simpa using hl
  rw [List.drop_eq_getElem_cons hl] at h
  injection h with h1 h2
  refine ⟨hi, ?_, h2⟩
  rw [← h1]
  rfl
theorem mat_app {s : ByteArray} {i : Nat} {a r : List UInt8} (h : s.data.toList.drop i = a ++ r) : s.data.toList.drop (i + a.length) = r := by
  rw [← List.drop_drop, h, List.drop_left]
theorem mesc_not {c : UInt8} (h : mescB c = false) : c.toNat ≠ 123 ∧ c.toNat ≠ 125 ∧ c.toNat ≠ 35 ∧ c.toNat ≠ 92 := by
  unfold mescB at h
  simp only [Bool.or_eq_false_iff, decide_eq_false_iff_not] at h
  exact ⟨h.1.1.1, h.1.1.2, h.1.2, h.2⟩
theorem mesc_92 : mescB 92 = true := by decide
/-- Plain text under way. -/
theorem plain_go {s : ByteArray} {d : Nat} {cnt : Bool} {out : List Pc} {rest : List UInt8} : ∀ (q pl : List UInt8) (m : Ms), m.e = 0 → pl ≠ [] → s.data.toList.drop m.i = escL q ++ rest → q.any mctlB = false →
    mloop s d cnt m out pl = mloop s d cnt (m.at (m.i + (escL q).length)) out (pl ++ q) := by
  intro q
  induction q with
  | nil => intro pl m he hp hd hb; simp only [escL, List.length_nil, Nat.add_zero, List.append_nil]; rfl
  | cons c q ih =>
    intro pl m he hp hd hb
    simp only [List.any_cons, Bool.or_eq_false_iff] at hb
    cases hc : mescB c with
    | true =>
      have hes : escL (c :: q) = 92 :: c :: escL q := by rw [escL, if_pos hc]
      rw [hes] at hd ⊢
      obtain ⟨hi, e1, hd1⟩ := mat_cons (r := c :: (escL q ++ rest)) hd
      obtain ⟨hi2, e2, hd2⟩ := mat_cons hd1
      have h5 : s[m.i].toNat = 92 := by rw [e1]; rfl
      rw [mloop_esc he hi h5 hi2 (by rw [e2]; exact hc)]
      have hbg : m.begun pl = m := by unfold Ms.begun; rw [if_neg hp]
      rw [hbg, e2]
      rw [ih (pl ++ [c]) (m.at (m.i + 2)) he (by simp) hd2 hb.2]
      simp only [Ms.at, List.length_cons, List.append_assoc, List.singleton_append]
      congr 2
      omega
    | false =>
      have hes : escL (c :: q) = c :: escL q := by rw [escL, if_neg (by rw [hc]; simp)]
      rw [hes] at hd ⊢
      obtain ⟨hi, e1, hd1⟩ := mat_cons (r := escL q ++ rest) hd
      obtain ⟨n1, n2, n3, n4⟩ := mesc_not hc
      rw [mloop_byte he hi (by rw [e1]; exact n2) (by rw [e1]; exact hb.1) (by rw [e1]; exact n1) (by rw [e1]; exact fun h => n3 h.1) (by rw [e1]; exact n4)]
      have hbg : m.begun pl = m := by unfold Ms.begun; rw [if_neg hp]
      rw [hbg, e1]
      rw [ih (pl ++ [c]) (m.at (m.i + 1)) he (by simp) hd1 hb.2]
      simp only [Ms.at, List.length_cons, List.append_assoc, List.singleton_append]
      congr 2
      omega
theorem piece_ok {m : Ms} (a : Nat) (hn : m.n < 100) : m.piece a = ⟨m.i, m.a, m.e, m.n + 1⟩ := by
  unfold Ms.piece
  simp only
  rw [if_neg (by omega)]
theorem begun_ok {m : Ms} (hn : m.n < 100) : m.begun [] = ⟨m.i, m.a, m.e, m.n + 1⟩ := by
  unfold Ms.begun
  rw [if_pos rfl]
  exact piece_ok _ hn
/-- A plain piece, from its beginning. -/
theorem plain_run {s : ByteArray} {d : Nat} {cnt : Bool} {out : List Pc} {rest : List UInt8} (q : List UInt8) (m : Ms) (he : m.e = 0) (hn : m.n < 100) (hq : q ≠ []) (hd : s.data.toList.drop m.i = escL q ++ rest) (hb : q.any mctlB = false) :
    mloop s d cnt m out [] = mloop s d cnt ⟨m.i + (escL q).length, m.a, 0, m.n + 1⟩ out q := by
  cases q with
  | nil => exact absurd rfl hq
  | cons c q =>
    simp only [List.any_cons, Bool.or_eq_false_iff] at hb
    cases hc : mescB c with
    | true =>
      have hes : escL (c :: q) = 92 :: c :: escL q := by rw [escL, if_pos hc]
      rw [hes] at hd ⊢
      obtain ⟨hi, e1, hd1⟩ := mat_cons (r := c :: (escL q ++ rest)) hd
      obtain ⟨hi2, e2, hd2⟩ := mat_cons hd1
      have h5 : s[m.i].toNat = 92 := by rw [e1]; rfl
      rw [mloop_esc he hi h5 hi2 (by rw [e2]; exact hc), begun_ok hn, e2]
      rw [plain_go q ([] ++ [c]) (Ms.at ⟨m.i, m.a, m.e, m.n + 1⟩ (m.i + 2)) he (by simp) hd2 hb.2]
      simp only [Ms.at, List.length_cons, List.nil_append, List.singleton_append, he]
      congr 2
      omega
    | false =>
      have hes : escL (c :: q) = c :: escL q := by rw [escL, if_neg (by rw [hc]; simp)]
      rw [hes] at hd ⊢
      obtain ⟨hi, e1, hd1⟩ := mat_cons (r := escL q ++ rest) hd
      obtain ⟨n1, n2, n3, n4⟩ := mesc_not hc
      rw [mloop_byte he hi (by rw [e1]; exact n2) (by rw [e1]; exact hb.1) (by rw [e1]; exact n1) (by rw [e1]; exact fun h => n3 h.1) (by rw [e1]; exact n4), begun_ok hn, e1]
      rw [plain_go q ([] ++ [c]) (Ms.at ⟨m.i, m.a, m.e, m.n + 1⟩ (m.i + 1)) he (by simp) hd1 hb.2]
      simp only [Ms.at, List.length_cons, List.nil_append, List.singleton_append, he]
      congr 2
      omega
end Mh
