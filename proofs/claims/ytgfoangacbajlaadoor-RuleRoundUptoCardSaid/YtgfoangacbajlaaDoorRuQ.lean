/- How long the text of a rule's test is. Plain. -/
import Derived.Test.YtgfoangacbajlaaDoorRuP
import Derived.Test.YtgfoangacbajlaaDoorDec10
import Derived.Lib.Join
namespace Mh
open Go
set_option linter.unusedVariables false

theorem joinB_len (s : List UInt8) : ∀ l : List (List UInt8), (joinB s l).length ≤ (l.map fun p => p.length + s.length).sum
  | [] => by simp [joinB]
  | [p] => by simp [joinB]
  | p :: q :: r => by
    have := joinB_len s (q :: r)
    simp only [joinB, List.length_append, List.map_cons, List.sum_cons] at *
    omega
theorem within_len (m lo hi : Int) (h : (m = 0 ∨ 2 ≤ m ∧ m ≤ 1000000) ∧ 0 ≤ lo ∧ lo ≤ hi ∧ hi ≤ 1000000000) : (within m lo hi).length ≤ 33 := by
  have a := dec_len 7 m.toNat (by omega) (by omega)
  have b := dec_len 10 lo.toNat (by omega) (by omega)
  have c := dec_len 10 hi.toNat (by omega) (by omega)
  unfold within dec
  split <;> split <;> simp <;> omega
mutual
theorem T.txt_len : ∀ t : T, t.form = true → t.rng = true → (T.txt t).length + 5 ≤ 40 * t.cnt
  | .mk op m lo hi ks, hf, hr => by
    unfold T.form at hf
    unfold T.rng at hr
    simp only [Bool.and_eq_true] at hr
    unfold T.txt T.cnt
    by_cases h1 : op = 1
    · subst h1
      simp only [if_true, decide_eq_true_eq] at hr
      have := within_len m lo hi hr.2
      rw [if_neg (by omega), if_neg (by omega), if_neg (by omega)]
      omega
    · rw [if_neg h1] at hf
      by_cases h2 : op = 2 ∨ op = 3
      · rw [if_pos h2] at hf
        simp only [Bool.and_eq_true] at hf
        have h9 := T.txts_len op ks hf.1.2 hr.1
        have ha := joinB_len sAnd (T.txts op ks)
        have ho := joinB_len sOr (T.txts op ks)
        have e1 : sAnd.length = 3 := rfl
        have e2 : sOr.length = 3 := rfl
        rw [e1] at ha
        rw [e2] at ho
        by_cases h3 : op = 2
        · rw [if_pos h3]; omega
        · rw [if_neg h3, if_pos (by omega)]; omega
      · rw [if_neg h2] at hf
        by_cases h4 : op = 4
        · rw [if_pos h4] at hf
          simp only [Bool.and_eq_true] at hf
          have h9 := T.txts_len op ks hf.1.2 hr.1
          have ho := joinB_len sOr (T.txts op ks)
          have e2 : sOr.length = 3 := rfl
          rw [e2] at ho
          rw [if_neg (by omega), if_neg (by omega), if_pos h4]
          simp only [List.length_cons, List.length_append, List.length_nil]
          omega
        · rw [if_neg h4] at hf; cases hf
theorem T.txts_len (op : Int) : ∀ l : List T, T.forms op l = true → T.rngs l = true → ((T.txts op l).map fun p => p.length + 3).sum ≤ 40 * T.cnts l
  | [], _, _ => by simp [T.txts, T.cnts]
  | k :: ks, hf, hr => by
    unfold T.forms at hf
    unfold T.rngs at hr
    simp only [Bool.and_eq_true] at hf hr
    have h1 := T.txt_len k hf.1.2 hr.1
    have h2 := T.txts_len op ks hf.2 hr.2
    unfold T.txts T.cnts
    simp only [List.map_cons, List.sum_cons]
    split <;> (try simp only [List.length_cons, List.length_append, List.length_nil]) <;> omega
end
theorem kid_len (op : Int) (k : T) (hf : k.form = true) (hr : k.rng = true) : (T.kid op k).length + 3 ≤ 40 * k.cnt := by
  have h1 := T.txt_len k hf hr
  unfold T.kid
  split <;> (try simp only [List.length_cons, List.length_append, List.length_nil]) <;> omega
theorem forms_kid (op : Int) : ∀ (l : List T), T.forms op l = true → ∀ k ∈ l, k.form = true ∧ (op ≠ 4 → k.op ≠ op)
  | [], _, k, h => by simp at h
  | x :: l, hf, k, h => by
    unfold T.forms at hf
    simp only [Bool.and_eq_true, Bool.not_eq_true', decide_eq_false_iff_not] at hf
    rcases List.mem_cons.1 h with rfl | h
    · exact ⟨hf.1.2, fun h4 he => hf.1.1 ⟨h4, he⟩⟩
    · exact forms_kid op l hf.2 k h
theorem rngs_kid : ∀ (l : List T), T.rngs l = true → ∀ k ∈ l, k.rng = true
  | [], _, k, h => by simp at h
  | x :: l, hr, k, h => by
    unfold T.rngs at hr
    simp only [Bool.and_eq_true] at hr
    rcases List.mem_cons.1 h with rfl | h
    · exact hr.1
    · exact rngs_kid l hr.2 k h
theorem join_joinB (s : List UInt8) : ∀ l : List (List UInt8), Lib.join l s = joinB s l
  | [] => rfl
  | [p] => Lib.join_one p s
  | p :: q :: r => by
    have := join_joinB s (q :: r)
    rw [Lib.join_cons] at this ⊢
    simp only [joinB]
    rw [← this]
    simp [Lib.joinTail]

mutual
/-- Whether a test holds of a number's magnitude. -/
def T.hold : T → Nat → Bool
  | .mk op m lo hi ks, n =>
    if op = 2 ∨ op = 4 then T.holdAll (decide (op = 2)) ks n
    else if op = 3 then T.holdAny ks n
    else decide (lo ≤ (if m = 0 then (n : Int) else (n : Int) % m)) && decide ((if m = 0 then (n : Int) else (n : Int) % m) ≤ hi)
def T.holdAll (want : Bool) : List T → Nat → Bool
  | [], _ => true
  | k :: ks, n => if T.hold k n != want then false else T.holdAll want ks n
def T.holdAny : List T → Nat → Bool
  | [], _ => false
  | k :: ks, n => if T.hold k n then true else T.holdAny ks n
end
theorem hold_within (m lo hi : Int) (ks : List T) (n : Nat) : (T.mk 1 m lo hi ks).hold n = (decide (lo ≤ (if m = 0 then (n : Int) else (n : Int) % m)) && decide ((if m = 0 then (n : Int) else (n : Int) % m) ≤ hi)) := by
  unfold T.hold; rw [if_neg (by omega), if_neg (by omega)]
theorem hold_any (m lo hi : Int) (ks : List T) (n : Nat) : (T.mk 3 m lo hi ks).hold n = T.holdAny ks n := by
  unfold T.hold; rw [if_neg (by omega), if_pos rfl]
theorem hold_all (op m lo hi : Int) (ks : List T) (n : Nat) (h : op = 2 ∨ op = 4) : (T.mk op m lo hi ks).hold n = T.holdAll (decide (op = 2)) ks n := by
  unfold T.hold; rw [if_pos h]

end Mh
