/- Tests of rules as trees, their faults and their text: plain lists and numbers. No program. -/
import Derived.Test.YtdolpehcfifecaaGreatDoorBase
import Derived.Lib.ItoaNum
namespace Mh
open Go
set_option linter.unusedVariables false

/-- A test of a rule: its operation, modulus, bounds and kids. -/
inductive T where
  | mk (op m lo hi : Int) (ks : List T)
def T.op : T → Int | .mk o _ _ _ _ => o
def T.mod : T → Int | .mk _ m _ _ _ => m
def T.lo : T → Int | .mk _ _ l _ _ => l
def T.hi : T → Int | .mk _ _ _ h _ => h
def T.ks : T → List T | .mk _ _ _ _ k => k
theorem T.eta : ∀ t : T, T.mk t.op t.mod t.lo t.hi t.ks = t | .mk _ _ _ _ _ => rfl
mutual
def T.cnt : T → Nat | .mk _ _ _ _ ks => 1 + T.cnts ks
def T.cnts : List T → Nat | [] => 0 | k :: ks => T.cnt k + T.cnts ks
end
mutual
def T.lev : T → Nat | .mk _ _ _ _ ks => T.levs ks + 1
def T.levs : List T → Nat | [] => 0 | k :: ks => max (T.lev k) (T.levs ks)
end
theorem T.cnt_pos (t : T) : 1 ≤ t.cnt := by cases t; simp [T.cnt]
theorem T.cnts_mem : ∀ (l : List T) (t : T), t ∈ l → t.cnt ≤ T.cnts l
  | [], t, h => by simp at h
  | k :: ks, t, h => by
    unfold T.cnts
    rcases List.mem_cons.1 h with rfl | h
    · omega
    · have := T.cnts_mem ks t h; omega
theorem T.cnts_len : ∀ (l : List T), l.length ≤ T.cnts l
  | [] => by simp
  | k :: ks => by unfold T.cnts; have := T.cnts_len ks; have := k.cnt_pos; simp; omega
theorem T.cnts_append : ∀ a b : List T, T.cnts (a ++ b) = T.cnts a + T.cnts b
  | [], b => by simp [T.cnts]
  | k :: a, b => by simp only [List.cons_append, T.cnts]; rw [T.cnts_append a b]; omega
theorem T.levs_mem : ∀ (l : List T) (t : T), t ∈ l → t.lev ≤ T.levs l
  | [], t, h => by simp at h
  | k :: ks, t, h => by
    unfold T.levs
    rcases List.mem_cons.1 h with rfl | h
    · omega
    · have := T.levs_mem ks t h; omega
mutual
theorem T.lev_le : ∀ t : T, t.lev ≤ t.cnt
  | .mk _ _ _ _ ks => by unfold T.lev T.cnt; have := T.levs_le ks; omega
theorem T.levs_le : ∀ l : List T, T.levs l ≤ T.cnts l
  | [] => by simp [T.levs, T.cnts]
  | k :: ks => by unfold T.levs T.cnts; have := T.lev_le k; have := T.levs_le ks; omega
end

mutual
/-- What the program's count of tests is: it ends above 20. -/
def T.ts : T → Nat | .mk _ _ _ _ ks => T.tsl ks 1
def T.tsl : List T → Nat → Nat
  | [], n => n
  | k :: ks, n => if 20 < n then n else T.tsl ks (n + T.ts k)
end
mutual
theorem T.ts_spec : ∀ t : T, t.ts ≤ t.cnt ∧ (t.cnt ≤ 20 → t.ts = t.cnt) ∧ (20 < t.cnt → 20 < t.ts)
  | .mk _ _ _ _ ks => by unfold T.ts T.cnt; exact T.tsl_spec ks 1
theorem T.tsl_spec : ∀ (l : List T) (n : Nat), T.tsl l n ≤ n + T.cnts l ∧ (n + T.cnts l ≤ 20 → T.tsl l n = n + T.cnts l) ∧ (20 < n + T.cnts l → 20 < T.tsl l n)
  | [], n => by unfold T.tsl T.cnts; omega
  | k :: ks, n => by
    unfold T.tsl T.cnts
    have h1 := T.ts_spec k
    have h2 := T.tsl_spec ks (n + T.ts k)
    split <;> omega
end
theorem T.ts_le (t : T) : t.ts ≤ t.cnt := (T.ts_spec t).1
mutual
def T.form : T → Bool
  | .mk op m lo hi ks =>
    if op = 1 then ks.isEmpty
    else if op = 2 ∨ op = 3 then decide (2 ≤ ks.length) && T.forms op ks && decide (m = 0 ∧ lo = 0 ∧ hi = 0)
    else if op = 4 then decide (1 ≤ ks.length) && T.forms op ks && decide (m = 0 ∧ lo = 0 ∧ hi = 0)
    else false
def T.forms (op : Int) : List T → Bool
  | [] => true
  | k :: ks => !(decide (op ≠ 4 ∧ T.op k = op)) && T.form k && T.forms op ks
end
mutual
def T.rng : T → Bool
  | .mk op m lo hi ks => T.rngs ks && (if op = 1 then decide ((m = 0 ∨ 2 ≤ m ∧ m ≤ 1000000) ∧ 0 ≤ lo ∧ lo ≤ hi ∧ hi ≤ 1000000000) else true)
def T.rngs : List T → Bool
  | [] => true
  | k :: ks => T.rng k && T.rngs ks
end
theorem T.forms_all (op : Int) : ∀ l : List T, T.forms op l = l.all fun k => !(decide (op ≠ 4 ∧ T.op k = op)) && T.form k
  | [] => rfl
  | k :: ks => by unfold T.forms; rw [T.forms_all op ks]; rfl
theorem T.rngs_all : ∀ l : List T, T.rngs l = l.all T.rng
  | [] => rfl
  | k :: ks => by unfold T.rngs; rw [T.rngs_all ks]; rfl

/-- Parts with a sign between. -/
def joinB (sign : List UInt8) : List (List UInt8) → List UInt8
  | [] => []
  | [p] => p
  | p :: q :: r => p ++ sign ++ joinB sign (q :: r)
def dec (n : Int) : List UInt8 := Lib.decDigits n.toNat
def within (m lo hi : Int) : List UInt8 :=
  110 :: ((if m = 0 then [] else 37 :: dec m) ++ 61 :: (dec lo ++ if hi = lo then [] else 46 :: 46 :: dec hi))
def sAnd : List UInt8 := [32, 38, 32]
def sOr : List UInt8 := [32, 124, 32]
mutual
def T.txt : T → List UInt8
  | .mk op m lo hi ks =>
    if op = 2 then joinB sAnd (T.txts op ks)
    else if op = 3 then joinB sOr (T.txts op ks)
    else if op = 4 then 33 :: 40 :: (joinB sOr (T.txts op ks) ++ [41])
    else within m lo hi
def T.txts (op : Int) : List T → List (List UInt8)
  | [] => []
  | k :: ks => (if T.op k = 3 ∧ op ≠ 3 then 40 :: (T.txt k ++ [41]) else T.txt k) :: T.txts op ks
end
/-- A kid's text below an operation. -/
def T.kid (op : Int) (k : T) : List UInt8 := if T.op k = 3 ∧ op ≠ 3 then 40 :: (T.txt k ++ [41]) else T.txt k
theorem T.txts_map (op : Int) : ∀ l : List T, T.txts op l = l.map (T.kid op)
  | [] => rfl
  | k :: ks => by unfold T.txts; rw [T.txts_map op ks]; rfl
/-- The text of a rule's forms. -/
def ruleTxt (R : List T) : List UInt8 := joinB [59, 32] (R.map T.txt)
theorem joinB_cons (s p : List UInt8) (q : List (List UInt8)) (h : q ≠ []) : joinB s (p :: q) = p ++ s ++ joinB s q := by
  cases q with
  | nil => exact absurd rfl h
  | cons a l => rfl
theorem joinB_append (s : List UInt8) : ∀ (a b : List (List UInt8)), a ≠ [] → b ≠ [] → joinB s (a ++ b) = joinB s a ++ s ++ joinB s b
  | [], b, h, _ => absurd rfl h
  | [p], b, _, hb => joinB_cons s p b hb
  | p :: q :: r, b, _, hb => by
    rw [List.cons_append, joinB_cons s p (q :: r ++ b) (by simp), joinB_append s (q :: r) b (by simp) hb, joinB_cons s p (q :: r) (by simp)]
    simp
end Mh
