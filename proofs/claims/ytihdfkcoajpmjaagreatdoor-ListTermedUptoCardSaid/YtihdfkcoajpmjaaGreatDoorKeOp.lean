/- Tests of rules as trees, their faults and their text: plain lists and numbers. No program. · Tests of rules as they lie in memory: 'TAt w X cs': the five cells cs are the test X; how many values a reading holds ('bk'). No program but in the last law. · A value of settings that was read as an argument: how many values it holds is bounded by the bulk of the reading. No program but in the last law. -/
import Derived.Test.YtihdfkcoajpmjaaGreatDoorBase
import Derived.Lib.ItoaNum
import Derived.Test.YtihdfkcoajpmjaaGreatDoorVAt
import Derived.Test.YtihdfkcoajpmjaaGreatDoorKeVm
import Derived.Test.YtihdfkcoajpmjaaGreatDoorKePl
import Derived.Test.YtihdfkcoajpmjaaGreatDoorRows
import Derived.Lib.SmallJoins
import Derived.Deep.Slices
import Derived.Deep.Fields
import Derived.ChangeSame
namespace Mh
open Go
set_option linter.unusedVariables false

/-- A test of a rule: its operation, modulus, bounds and kids. -/
inductive T where
  | mk (op m lo hi : Int) (ks : List T)
def T.op : T → Int | .mk o _ _ _ _ => o
def T.mod : T → Int | .mk _ m _ _ _ => m
def T.lo : T → Int | .mk _ _ l _ _ => l
def T.hi : T → Int | .mk _ _ _ h _ => h
def T.ks : T → List T | .mk _ _ _ _ k => k
theorem T.eta : ∀ t : T, T.mk t.op t.mod t.lo t.hi t.ks = t | .mk _ _ _ _ _ => rfl
mutual
def T.cnt : T → Nat | .mk _ _ _ _ ks => 1 + T.cnts ks
def T.cnts : List T → Nat | [] => 0 | k :: ks => T.cnt k + T.cnts ks
end
mutual
def T.lev : T → Nat | .mk _ _ _ _ ks => T.levs ks + 1
def T.levs : List T → Nat | [] => 0 | k :: ks => max (T.lev k) (T.levs ks)
end
theorem T.cnt_pos (t : T) : 1 ≤ t.cnt := by cases t; simp [T.cnt]
theorem T.cnts_mem : ∀ (l : List T) (t : T), t ∈ l → t.cnt ≤ T.cnts l
  | [], t, h => by simp at h
  | k :: ks, t, h => by
    unfold T.cnts
    rcases List.mem_cons.1 h with rfl | h
    · omega
    · have := T.cnts_mem ks t h; omega
theorem T.cnts_len : ∀ (l : List T), l.length ≤ T.cnts l
  | [] => by simp
  | k :: ks => by unfold T.cnts; have := T.cnts_len ks; have := k.cnt_pos; simp; omega
theorem T.cnts_append : ∀ a b : List T, T.cnts (a ++ b) = T.cnts a + T.cnts b
  | [], b => by simp [T.cnts]
  | k :: a, b => by simp only [List.cons_append, T.cnts]; rw [T.cnts_append a b]; omega
theorem T.levs_mem : ∀ (l : List T) (t : T), t ∈ l → t.lev ≤ T.levs l
  | [], t, h => by simp at h
  | k :: ks, t, h => by
    unfold T.levs
    rcases List.mem_cons.1 h with rfl | h
    · omega
    · have := T.levs_mem ks t h; omega
mutual
theorem T.lev_le : ∀ t : T, t.lev ≤ t.cnt
  | .mk _ _ _ _ ks => by unfold T.lev T.cnt; have := T.levs_le ks; omega
theorem T.levs_le : ∀ l : List T, T.levs l ≤ T.cnts l
  | [] => by simp [T.levs, T.cnts]
  | k :: ks => by unfold T.levs T.cnts; have := T.lev_le k; have := T.levs_le ks; omega
end

mutual
/-- What the program's count of tests is: it ends above 20. -/
def T.ts : T → Nat | .mk _ _ _ _ ks => T.tsl ks 1
def T.tsl : List T → Nat → Nat
  | [], n => n
  | k :: ks, n => if 20 < n then n else T.tsl ks (n + T.ts k)
end
mutual
theorem T.ts_spec : ∀ t : T, t.ts ≤ t.cnt ∧ (t.cnt ≤ 20 → t.ts = t.cnt) ∧ (20 < t.cnt → 20 < t.ts)
  | .mk _ _ _ _ ks => by unfold T.ts T.cnt; exact T.tsl_spec ks 1
theorem T.tsl_spec : ∀ (l : List T) (n : Nat), T.tsl l n ≤ n + T.cnts l ∧ (n + T.cnts l ≤ 20 → T.tsl l n = n + T.cnts l) ∧ (20 < n + T.cnts l → 20 < T.tsl l n)
  | [], n => by unfold T.tsl T.cnts; omega
  | k :: ks, n => by
    unfold T.tsl T.cnts
    have h1 := T.ts_spec k
    have h2 := T.tsl_spec ks (n + T.ts k)
    split <;> omega
end
theorem T.ts_le (t : T) : t.ts ≤ t.cnt := (T.ts_spec t).1
mutual
def T.form : T → Bool
  | .mk op m lo hi ks =>
    if op = 1 then ks.isEmpty
    else if op = 2 ∨ op = 3 then decide (2 ≤ ks.length) && T.forms op ks && decide (m = 0 ∧ lo = 0 ∧ hi = 0)
    else if op = 4 then decide (1 ≤ ks.length) && T.forms op ks && decide (m = 0 ∧ lo = 0 ∧ hi = 0)
    else false
def T.forms (op : Int) : List T → Bool
  | [] => true
  | k :: ks => !(decide (op ≠ 4 ∧ T.op k = op)) && T.form k && T.forms op ks
end
mutual
def T.rng : T → Bool
  | .mk op m lo hi ks => T.rngs ks && (if op = 1 then decide ((m = 0 ∨ 2 ≤ m ∧ m ≤ 1000000) ∧ 0 ≤ lo ∧ lo ≤ hi ∧ hi ≤ 1000000000) else true)
def T.rngs : List T → Bool
  | [] => true
  | k :: ks => T.rng k && T.rngs ks
end
theorem T.forms_all (op : Int) : ∀ l : List T, T.forms op l = l.all fun k => !(decide (op ≠ 4 ∧ T.op k = op)) && T.form k
  | [] => rfl
  | k :: ks => by unfold T.forms; rw [T.forms_all op ks]; rfl
theorem T.rngs_all : ∀ l : List T, T.rngs l = l.all T.rng
  | [] => rfl
  | k :: ks => by unfold T.rngs; rw [T.rngs_all ks]; rfl

/-- Parts with a sign between. -/
def joinB (sign : List UInt8) : List (List UInt8) → List UInt8
  | [] => []
  | [p] => p
  | p :: q :: r => p ++ sign ++ joinB sign (q :: r)
def dec (n : Int) : List UInt8 := Lib.decDigits n.toNat
def within (m lo hi : Int) : List UInt8 :=
  110 :: ((if m = 0 then [] else 37 :: dec m) ++ 61 :: (dec lo ++ if hi = lo then [] else 46 :: 46 :: dec hi))
def sAnd : List UInt8 := [32, 38, 32]
def sOr : List UInt8 := [32, 124, 32]
mutual
def T.txt : T → List UInt8
  | .mk op m lo hi ks =>
    if op = 2 then joinB sAnd (T.txts op ks)
    else if op = 3 then joinB sOr (T.txts op ks)
    else if op = 4 then 33 :: 40 :: (joinB sOr (T.txts op ks) ++ [41])
    else within m lo hi
def T.txts (op : Int) : List T → List (List UInt8)
  | [] => []
  | k :: ks => (if T.op k = 3 ∧ op ≠ 3 then 40 :: (T.txt k ++ [41]) else T.txt k) :: T.txts op ks
end
/-- A kid's text below an operation. -/
def T.kid (op : Int) (k : T) : List UInt8 := if T.op k = 3 ∧ op ≠ 3 then 40 :: (T.txt k ++ [41]) else T.txt k
theorem T.txts_map (op : Int) : ∀ l : List T, T.txts op l = l.map (T.kid op)
  | [] => rfl
  | k :: ks => by unfold T.txts; rw [T.txts_map op ks]; rfl
/-- The text of a rule's forms. -/
def ruleTxt (R : List T) : List UInt8 := joinB [59, 32] (R.map T.txt)
theorem joinB_cons (s p : List UInt8) (q : List (List UInt8)) (h : q ≠ []) : joinB s (p :: q) = p ++ s ++ joinB s q := by
  cases q with
  | nil => exact absurd rfl h
  | cons a l => rfl
theorem joinB_append (s : List UInt8) : ∀ (a b : List (List UInt8)), a ≠ [] → b ≠ [] → joinB s (a ++ b) = joinB s a ++ s ++ joinB s b
  | [], b, h, _ => absurd rfl h
  | [p], b, _, hb => joinB_cons s p b hb
  | p :: q :: r, b, _, hb => by
    rw [List.cons_append, joinB_cons s p (q :: r ++ b) (by simp), joinB_append s (q :: r) b (by simp) hb, joinB_cons s p (q :: r) (by simp)]
    simp
end Mh
namespace Mh
open Go Go.RowKit Go.ChangeShapes Go.WideShapes Go.Deep
set_option linter.unusedVariables false

mutual
def TAt (w : World) : T → List Value → Prop
  | .mk op m lo hi ks, cs => ∃ kv : Value, cs = [.int .i64 op, .int .i64 m, .int .i64 lo, .int .i64 hi, kv] ∧ ∃ rows : List Value, Sl 5 w kv ks.length rows ∧ TsAt w ks rows
def TsAt (w : World) : List T → List Value → Prop
  | [], rows => rows = []
  | x :: xs, rows => ∃ c r : List Value, rows = c ++ r ∧ c.length = 5 ∧ TAt w x c ∧ TsAt w xs r
end
theorem TAt.length {w : World} {X : T} {cs : List Value} (h : TAt w X cs) : cs.length = 5 := by
  cases X with
  | mk op m lo hi ks =>
    unfold TAt at h
    obtain ⟨kv, rfl, _⟩ := h
    rfl
theorem T.size_kid {op m lo hi : Int} {ks : List T} {x : T} (h : x ∈ ks) : sizeOf x < sizeOf (T.mk op m lo hi ks) := by
  have := List.sizeOf_lt_of_mem h
  simp only [T.mk.sizeOf_spec]
  omega
theorem Sl.slice {k : Nat} {w : World} {v : Value} {n : Nat} {xs : List Value} (h : Sl k w v n xs) : ∃ a c, v = .slice a n c := by
  rcases h.2 with ⟨rfl, a, c, rfl⟩ | ⟨b, off, c, rfl, _⟩
  · exact ⟨a, c, rfl⟩
  · exact ⟨_, c, rfl⟩
theorem TAt.five {w : World} {X : T} {cs : List Value} (h : TAt w X cs) : ∃ a c, cs = [.int .i64 X.op, .int .i64 X.mod, .int .i64 X.lo, .int .i64 X.hi, .slice a X.ks.length c] := by
  cases X with
  | mk op m lo hi ks =>
    unfold TAt at h
    obtain ⟨kv, rfl, rows, hS, _⟩ := h
    obtain ⟨a, c, rfl⟩ := hS.slice
    exact ⟨a, c, rfl⟩
theorem TAt.below {w w' : World} (hb : Below w.heap.size w w') : ∀ (N : Nat) (X : T), sizeOf X < N → ∀ cs, TAt w X cs → TAt w' X cs := by
  intro N
  induction N with
  | zero => intro X h; omega
  | succ N ih =>
    rintro ⟨op, m, lo, hi, ks⟩ hX cs h
    unfold TAt at h ⊢
    obtain ⟨kv, rfl, rows, h5, h6⟩ := h
    refine ⟨kv, rfl, rows, h5.below hb, ?_⟩
    have hm : ∀ x ∈ ks, sizeOf x < N := fun x hx => by have := T.size_kid (op := op) (m := m) (lo := lo) (hi := hi) hx; omega
    clear h5 hX
    induction ks generalizing rows with
    | nil => unfold TsAt at h6 ⊢; exact h6
    | cons x xs ihx =>
      unfold TsAt at h6 ⊢
      obtain ⟨c, r, rfl, hc, hx, hr⟩ := h6
      exact ⟨c, r, rfl, hc, ih x (hm x (by simp)) c hx, ihx r hr (fun y hy => hm y (by simp [hy]))⟩
theorem TAt.keep {w w' : World} {X : T} {cs : List Value} (h : TAt w X cs) (hb : Below w.heap.size w w') : TAt w' X cs := TAt.below hb _ X (Nat.lt_succ_self _) cs h
theorem TsAt.keep {w w' : World} (hb : Below w.heap.size w w') : ∀ (is : List T) (rows : List Value), TsAt w is rows → TsAt w' is rows := by
  intro is
  induction is with
  | nil => intro rows h; unfold TsAt at h ⊢; exact h
  | cons x xs ih =>
    intro rows h
    unfold TsAt at h ⊢
    obtain ⟨c, r, rfl, hc, hx, hr⟩ := h
    exact ⟨c, r, rfl, hc, hx.keep hb, ih r hr⟩
theorem TsAt.get {w : World} : ∀ (is : List T) (rows : List Value), TsAt w is rows → ∀ i (h : i < is.length), ∃ c : List Value, TAt w is[i] c ∧ ∀ j, j < 5 → rows[i * 5 + j]? = c[j]? := by
  intro is
  induction is with
  | nil => intro rows _ i h; simp at h
  | cons x xs ih =>
    intro rows h i hi
    unfold TsAt at h
    obtain ⟨c, r, rfl, hc, hx, hr⟩ := h
    cases i with
    | zero => exact ⟨c, hx, fun j hj => by rw [List.getElem?_append_left (by omega)]; congr 1; omega⟩
    | succ i =>
      obtain ⟨c', h1, h2⟩ := ih r hr i (by simpa using hi)
      refine ⟨c', h1, fun j hj => ?_⟩
      rw [List.getElem?_append_right (by omega), ← h2 j hj]
      congr 1
      omega
theorem TsAt.append {w : World} : ∀ (a b : List T) (ra rb : List Value), TsAt w a ra → TsAt w b rb → TsAt w (a ++ b) (ra ++ rb)
  | [], b, ra, rb, ha, hb => by unfold TsAt at ha; subst ha; simpa using hb
  | x :: a, b, ra, rb, ha, hb => by
    unfold TsAt at ha
    obtain ⟨c, r, rfl, hc, hx, hr⟩ := ha
    rw [List.cons_append]
    unfold TsAt
    exact ⟨c, r ++ rb, by rw [List.append_assoc], hc, hx, TsAt.append a b r rb hr hb⟩
theorem TsAt.one {w : World} {x : T} {c : List Value} (h : TAt w x c) : TsAt w [x] c := by
  unfold TsAt
  exact ⟨c, [], by simp, h.length, h, by unfold TsAt; rfl⟩
theorem TsAt.mk {w : World} (f : Nat → T) (g : Nat → List Value) : ∀ (n k : Nat), (∀ i, i < n → TAt w (f (k + i)) (g (k + i))) → TsAt w ((List.range' k n).map f) ((List.range' k n).flatMap g) := by
  intro n
  induction n with
  | zero => intro k _; simp [TsAt]
  | succ n ih =>
    intro k h
    have e : List.range' k (n + 1) = k :: List.range' (k + 1) n := rfl
    rw [e, List.map_cons, List.flatMap_cons]
    unfold TsAt
    have h0 := h 0 (by omega)
    rw [Nat.add_zero] at h0
    exact ⟨g k, _, rfl, h0.length, h0, ih (k + 1) (fun i hi => by have := h (i + 1) (by omega); rwa [show k + (i + 1) = k + 1 + i by omega] at this)⟩

/-- How many values a reading holds, at least. -/
def bkN {H : Type} : Nat → DataW H → Nat
  | 0, _ => 0
  | n + 1, .slice elems _ => (elems.map (bkN n)).sum + 1
  | n + 1, .agg parts => (parts.map (bkN n)).sum + 1
  | n + 1, _ => 1
theorem sum_get {l : List Nat} {i : Nat} {v : Nat} (h : l[i]? = some v) : v ≤ l.sum := by
  induction l generalizing i with
  | nil => simp at h
  | cons a l ih =>
    cases i with
    | zero => simp at h; subst h; simp
    | succ i => have := ih (i := i) (by simpa using h); simp; omega
theorem sum_le {f g : Nat → Nat} : ∀ (n : Nat), (∀ i, i < n → f i ≤ g i) → ((List.range n).map f).sum ≤ ((List.range n).map g).sum := by
  intro n
  induction n with
  | zero => intro _; simp
  | succ n ih =>
    intro h
    have := ih (fun i hi => h i (by omega))
    have := h n (by omega)
    simp only [List.range_succ, List.map_append, List.sum_append, List.map_cons, List.map_nil, List.sum_cons, List.sum_nil]
    omega
theorem T.cnts_sum (f : Nat → T) (n : Nat) : T.cnts ((List.range n).map f) = ((List.range n).map fun i => (f i).cnt).sum := by
  induction n with
  | zero => simp [T.cnts]
  | succ n ih =>
    simp only [List.range_succ, List.map_append, List.sum_append, T.cnts_append, ih, List.map_cons, List.map_nil, T.cnts, List.sum_cons, List.sum_nil]

section
variable {H : Type} {enc : TypeId × Value → H} {P : Program} {w : World}

/-- The slice word of a slice that was read, its elements of k cells each; and how many values it holds. -/
theorem open_sl_rows2 {t e : TypeId} {k fuel : Nat} {held : Bool} {u : Value} {x : DataW H × List MemPlace} (ht : P.underlying t = some (.slice e)) (hc : P.cellsOf e = k) (hk : 0 < k)
    (h : DataW.trod enc P w 0 (fun _ => true) held fuel t [u] = some x) :
    ∃ (len n : Nat) (g : Nat → List Value) (y : Nat → DataW H × List MemPlace), Sl k w u len ((List.range len).flatMap g) ∧ n < fuel ∧ (∀ i, i < len → (g i).length = k ∧ DataW.trod enc P w 0 (fun _ => true) held n e (g i) = some (y i)) ∧
      ∀ m, ((List.range len).map fun i => bkN m (y i).1).sum + 1 ≤ bkN (m + 1) x.1 := by
  rcases DataW.trod_slice ht h with ⟨hcs, hx0⟩ | ⟨a, len, cap, elems, rest, n, hfu, hcs, hx0, _, hl, hm, hlen, hel, _, _⟩
  · simp only [List.cons.injEq, and_true] at hcs
    subst hcs
    have hf : 0 < fuel := by
      cases fuel with
      | zero => simp [DataW.trod] at h
      | succ n => omega
    exact ⟨0, 0, fun _ => [], fun _ => x, ⟨by simp, .inl ⟨rfl, none, 0, rfl⟩⟩, hf, fun i hi => by omega, fun m => by rw [hx0]; simp [bkN]⟩
  · simp only [List.cons.injEq, and_true] at hcs
    subst hcs
    have hrow : ∀ i, i < len → ∃ cs', w.cells? 0 (a.add (i * P.cellsOf e)) (P.cellsOf e) = some cs' ∧ ∃ z, DataW.trod enc P w 0 (fun _ => true) held n e cs' = some z := by
      intro i hi
      have := hel i hi
      rw [List.getElem?_eq_getElem (by omega)] at this
      obtain ⟨cs', h1, h2⟩ := Option.bind_eq_some_iff.1 this
      exact ⟨cs', h1, _, h2⟩
    rw [hc] at hrow
    have gx : ∃ (g : Nat → List Value) (y : Nat → DataW H × List MemPlace), ∀ i, i < len → w.cells? 0 (a.add (i * k)) k = some (g i) ∧ DataW.trod enc P w 0 (fun _ => true) held n e (g i) = some (y i) := by
      have h2 : ∀ i, ∃ p : List Value × (DataW H × List MemPlace), i < len → w.cells? 0 (a.add (i * k)) k = some p.1 ∧ DataW.trod enc P w 0 (fun _ => true) held n e p.1 = some p.2 := by
        intro i
        by_cases hi : i < len
        · obtain ⟨cs', h1, z, h2⟩ := hrow i hi
          exact ⟨(cs', z), fun _ => ⟨h1, h2⟩⟩
        · exact ⟨([], x), fun h => absurd h hi⟩
      exact ⟨fun i => (h2 i).choose.1, fun i => (h2 i).choose.2, fun i hi => (h2 i).choose_spec hi⟩
    obtain ⟨g, y, hg⟩ := gx
    have hyy : elems = (List.range len).map y := by
      apply List.ext_getElem?
      intro i
      by_cases hi : i < len
      · have h9 := hel i hi
        rw [hc, (hg i hi).1] at h9
        rw [← h9]
        simp only [Option.bind_some]
        rw [(hg i hi).2]
        simp [hi]
      · rw [List.getElem?_eq_none (by omega), List.getElem?_eq_none (by simp; omega)]
    have hbk : ∀ m, ((List.range len).map fun i => bkN m (y i).1).sum + 1 ≤ bkN (m + 1) x.1 := by
      intro m
      rw [hx0, hyy]
      simp only [bkN, List.map_map]
      exact Nat.le_refl _
    have hgl : ∀ i, i < len → (g i).length = k := fun i hi => (World.cells?_some (hg i hi).1).2.1
    have hlenr : ∀ m, m ≤ len → ((List.range m).flatMap g).length = m * k := by
      intro m
      induction m with
      | zero => intro _; simp
      | succ m ih =>
        intro hm
        rw [List.range_succ, List.flatMap_append, List.length_append, ih (by omega)]
        simp only [List.flatMap_cons, List.flatMap_nil, List.append_nil]
        rw [hgl m (by omega), Nat.succ_mul]
    have hget : ∀ m, m ≤ len → ∀ i, i < m → ∀ j, j < k → ((List.range m).flatMap g)[i * k + j]? = (g i)[j]? := by
      intro m
      induction m with
      | zero => intro _ i hi; omega
      | succ m ih =>
        intro hm i hi j hj
        rw [List.range_succ, List.flatMap_append]
        by_cases him : i < m
        · have : (i + 1) * k ≤ m * k := Nat.mul_le_mul_right k him
          rw [Nat.succ_mul] at this
          rw [List.getElem?_append_left (by rw [hlenr m (by omega)]; omega)]
          exact ih (by omega) i him j hj
        · obtain rfl : i = m := by omega
          rw [List.getElem?_append_right (by rw [hlenr i (by omega)]; omega), hlenr i (by omega), Nat.add_sub_cancel_left]
          simp
    refine ⟨len, n, g, y, ⟨hlenr len (Nat.le_refl _), ?_⟩, by omega, fun i hi => ⟨hgl i hi, (hg i hi).2⟩, hbk⟩
    by_cases hn : len = 0
    · subst hn; exact .inl ⟨rfl, _, _, rfl⟩
    · obtain ⟨b, off, s⟩ := a
      have hcell : ∀ i (hi : i < len) j (hj : j < k), w.cell? ((⟨b, off, s⟩ : Addr).add (i * k + j)) = some ((g i)[j]'(by rw [hgl i hi]; exact hj)) := by
        intro i hi j hj
        obtain ⟨_, _, hat⟩ := World.cells?_some (hg i hi).1
        rw [← add_add, hat j hj, List.getElem?_eq_getElem]
      have h0 := hcell 0 (by omega) 0 hk
      have hs : s = none := by
        cases s with
        | none => rfl
        | some z =>
          exfalso
          simp only [Addr.add] at h0
          unfold World.cell? at h0
          split at h0
          · simp at h0
          · cases h0
      subst hs
      refine .inr ⟨b, off, cap, rfl, by omega, hl, hm, ?_, ?_⟩
      · have := World.block_lt_of_cell? w _ h0
        rwa [Addr.add_lit] at this
      intro q u hu
      have hq : q < len * k := by rw [← hlenr len (Nat.le_refl _)]; exact (List.getElem?_eq_some_iff.1 hu).1
      have hd : q = q / k * k + q % k := by rw [Nat.mul_comm]; exact (Nat.div_add_mod q k).symm
      have hi : q / k < len := Nat.div_lt_of_lt_mul (by rwa [Nat.mul_comm] at hq)
      have hj : q % k < k := Nat.mod_lt _ hk
      have h3 := hget len (Nat.le_refl _) (q / k) hi (q % k) hj
      rw [← hd, hu] at h3
      have h4 := hcell (q / k) hi (q % k) hj
      rw [← hd, Addr.add_lit] at h4
      rw [h4, h3, List.getElem?_eq_getElem]


set_option maxRecDepth 100000 in
/-- A test of a rule that was read. -/
theorem open_tat {tv ts ti : TypeId} {held : Bool} {o0 o1 o2 o3 o4 : Field} (hv : P.underlying tv = some (.struct #[o0, o1, o2, o3, o4]))
    (f0 : o0.type = ti) (f1 : o1.type = ti) (f2 : o2.type = ti) (f3 : o3.type = ti) (f4 : o4.type = ts)
    (g0 : o0.offset = 0) (g1 : o1.offset = 1) (g2 : o2.offset = 2) (g3 : o3.offset = 3) (g4 : o4.offset = 4)
    (hti : P.underlying ti = some (.int .i64)) (hts : P.underlying ts = some (.slice tv))
    (ci : P.cellsOf ti = 1) (cs : P.cellsOf ts = 1) (cv : P.cellsOf tv = 5) :
    ∀ (N : Nat) (fuel : Nat), fuel < N → ∀ (l : List Value) (x : DataW H × List MemPlace), DataW.trod enc P w 0 (fun _ => true) held fuel tv l = some x →
      ∃ X : T, TAt w X l ∧ ∀ M, 2 * fuel ≤ M → X.cnt ≤ bkN M x.1 := by
  intro N
  induction N with
  | zero => intro fuel h; omega
  | succ N ih =>
    intro fuel hN l x h
    obtain ⟨xs, n, hfu, hx0, hlen, hxl, hf⟩ := DataW.trod_struct hv h
    rw [cv] at hlen
    match l, hlen with
    | [c0, c1, c2, c3, c4], _ =>
    match xs, hxl with
    | [x0, x1, x2, x3, x4], _ =>
    have h0 := hf 0 o0 rfl
    have h1 := hf 1 o1 rfl
    have h2 := hf 2 o2 rfl
    have h3 := hf 3 o3 rfl
    have h4 := hf 4 o4 rfl
    rw [f0, g0, ci] at h0
    rw [f1, g1, ci] at h1
    rw [f2, g2, ci] at h2
    rw [f3, g3, ci] at h3
    rw [f4, g4, cs] at h4
    obtain ⟨a0, e0, _, w0⟩ := DataW.trod_int hti h0
    obtain ⟨a1, e1, _, w1⟩ := DataW.trod_int hti h1
    obtain ⟨a2, e2, _, w2⟩ := DataW.trod_int hti h2
    obtain ⟨a3, e3, _, w3⟩ := DataW.trod_int hti h3
    obtain ⟨len, n', g, y, hS, hn, hg, hbk⟩ := open_sl_rows2 hts cv (by decide) h4
    have hx : ∀ i, ∃ X : T, i < len → TAt w X (g i) ∧ ∀ M, 2 * n' ≤ M → X.cnt ≤ bkN M (y i).1 := by
      intro i
      by_cases hi : i < len
      · obtain ⟨X, hX⟩ := ih n' (by omega) (g i) (y i) (hg i hi).2
        exact ⟨X, fun _ => hX⟩
      · exact ⟨.mk 0 0 0 0 [], fun h => absurd h hi⟩
    have hvs := TsAt.mk (w := w) (fun i => (hx i).choose) g len 0 (fun i hi => by rw [Nat.zero_add]; exact ((hx i).choose_spec hi).1)
    rw [← List.range_eq_range'] at hvs
    simp only [List.drop_zero, List.take_succ_cons, List.take_zero, List.cons.injEq, and_true] at e0
    simp only [List.drop_succ_cons, List.drop_zero, List.take_succ_cons, List.take_zero, List.cons.injEq, and_true] at e1 e2 e3
    subst e0 e1 e2 e3
    refine ⟨.mk a0 a1 a2 a3 ((List.range len).map fun i => (hx i).choose), ?_, ?_⟩
    · unfold TAt
      refine ⟨c4, rfl, (List.range len).flatMap g, ?_, hvs⟩
      simpa using hS
    · intro M hM
      obtain ⟨M', rfl⟩ : ∃ M', M = M' + 1 + 1 := ⟨M - 2, by omega⟩
      have hb := hbk M'
      have hs := sum_le (f := fun i => ((hx i).choose).cnt) (g := fun i => bkN M' (y i).1) len (fun i hi => ((hx i).choose_spec hi).2 M' (by omega))
      unfold T.cnt
      rw [T.cnts_sum, hx0]
      simp only [bkN, List.map_cons, List.map_nil, List.sum_cons, List.sum_nil] at *
      omega
end
end Mh
namespace Mh
open Go Go.RowKit Go.ChangeShapes Go.WideShapes Go.Deep
set_option linter.unusedVariables false
theorem nodess_sum : ∀ is : List V, V.nodess is = (is.map V.nodes).sum := by
  intro is
  induction is with
  | nil => rfl
  | cons x xs ih => simp only [V.nodess, List.map_cons, List.sum_cons, ih]
section
variable {H : Type} {enc : TypeId × Value → H} {P : Program} {w : World}
set_option maxRecDepth 100000 in
/-- A value of settings that was read (P: a program whose type 'tv' is it). -/
theorem open_vat2 {tv ts tk : TypeId} {ti tb tx : TypeId} {held : Bool} {o0 o1 o2 o3 o4 o5 : Field} (hv : P.underlying tv = some (.struct #[o0, o1, o2, o3, o4, o5]))
    (f0 : o0.type = ti) (f1 : o1.type = tb) (f2 : o2.type = ti) (f3 : o3.type = tx) (f4 : o4.type = ts) (f5 : o5.type = tk)
    (g0 : o0.offset = 0) (g1 : o1.offset = 1) (g2 : o2.offset = 2) (g3 : o3.offset = 3) (g4 : o4.offset = 4) (g5 : o5.offset = 5)
    (hti : P.underlying ti = some (.int .i64)) (htb : P.underlying tb = some .bool) (htx : P.underlying tx = some .string) (hts : P.underlying ts = some (.slice tv)) (htk : P.underlying tk = some (.slice tx))
    (ci : P.cellsOf ti = 1) (cb : P.cellsOf tb = 1) (cx : P.cellsOf tx = 1) (cs : P.cellsOf ts = 1) (ck : P.cellsOf tk = 1) (cv : P.cellsOf tv = 6) :
    ∀ (N : Nat) (fuel : Nat), fuel < N → ∀ (l : List Value) (x : DataW H × List MemPlace), DataW.trod enc P w 0 (fun _ => true) held fuel tv l = some x →
      ∃ X : V, VAt w X l ∧ ∀ M, 2 * fuel ≤ M → X.nodes ≤ bkN M x.1 := by
  intro N
  induction N with
  | zero => intro fuel h; omega
  | succ N ih =>
    intro fuel hN l x h
    obtain ⟨xs, n, hfu, hx0, hlen, hxl, hf⟩ := DataW.trod_struct hv h
    rw [cv] at hlen
    match l, hlen with
    | [c0, c1, c2, c3, c4, c5], _ =>
    match xs, hxl with
    | [x0, x1, x2, x3, x4, x5], _ =>
    have h0 := hf 0 o0 rfl
    have h1 := hf 1 o1 rfl
    have h2 := hf 2 o2 rfl
    have h3 := hf 3 o3 rfl
    have h4 := hf 4 o4 rfl
    have h5 := hf 5 o5 rfl
    rw [f0, g0, ci] at h0
    rw [f1, g1, cb] at h1
    rw [f2, g2, ci] at h2
    rw [f3, g3, cx] at h3
    rw [f4, g4, cs] at h4
    rw [f5, g5, ck] at h5
    obtain ⟨a0, e0, _, w0⟩ := DataW.trod_int hti h0
    obtain ⟨a1, e1, _⟩ := DataW.trod_bool htb h1
    obtain ⟨a2, e2, _, w2⟩ := DataW.trod_int hti h2
    obtain ⟨a3, e3, _, w3⟩ := DataW.trod_string htx h3
    obtain ⟨K, hK⟩ := open_ss htk htx cx h5
    obtain ⟨len, n', g, y, hS, hn, hg, hbk⟩ := open_sl_rows2 hts cv (by decide) h4
    have hx : ∀ i, ∃ X : V, i < len → VAt w X (g i) ∧ ∀ M, 2 * n' ≤ M → X.nodes ≤ bkN M (y i).1 := by
      intro i
      by_cases hi : i < len
      · obtain ⟨X, hX⟩ := ih n' (by omega) (g i) (y i) (hg i hi).2
        exact ⟨X, fun _ => hX⟩
      · exact ⟨.mk 0 false 0 ⟨#[]⟩ [] [], fun h => absurd h hi⟩
    have hvs := VsAt.mk (w := w) (fun i => (hx i).choose) g len 0 (fun i hi => by rw [Nat.zero_add]; exact ((hx i).choose_spec hi).1)
    rw [← List.range_eq_range'] at hvs
    simp only [List.drop_zero, List.take_succ_cons, List.take_zero, List.cons.injEq, and_true] at e0
    simp only [List.drop_succ_cons, List.drop_zero, List.take_succ_cons, List.take_zero, List.cons.injEq, and_true] at e1 e2 e3
    subst e0 e1 e2 e3
    refine ⟨.mk a0 a1 a2 a3 ((List.range len).map fun i => (hx i).choose) K, ?_, ?_⟩
    · unfold VAt
      refine ⟨c4, c5, rfl, w0, w2, w3, hK, (List.range len).flatMap g, ?_, hvs⟩
      simpa using hS
    · intro M hM
      obtain ⟨M', rfl⟩ : ∃ M', M = M' + 1 + 1 := ⟨M - 2, by omega⟩
      have hb := hbk M'
      have hs := sum_le (f := fun i => ((hx i).choose).nodes) (g := fun i => bkN M' (y i).1) len (fun i hi => ((hx i).choose_spec hi).2 M' (by omega))
      unfold V.nodes
      rw [nodess_sum, hx0]
      simp only [bkN, List.map_cons, List.map_nil, List.sum_cons, List.sum_nil, List.map_map, Function.comp_def] at *
      omega
end
end Mh
namespace Go.Proofs.YtihdfkcoajpmjaaGreatDoor
open Go.ChangeShapes Go.WideShapes Go.ChangeAt Go.RowKit Mh
set_option linter.unusedVariables false
theorem bulk_sum {H : Type} {f : DataW H → Nat} (h : ∀ d, f d ≤ Rows.uptoBulk d) : ∀ l : List (DataW H), (l.map f).sum ≤ Rows.uptoBulkAll l
  | [] => by simp [Rows.uptoBulkAll]
  | d :: l => by
    have := h d
    have := bulk_sum h l
    simp only [List.map_cons, List.sum_cons, Rows.uptoBulkAll]
    omega
theorem bulk_one {H : Type} (d : DataW H) : 1 ≤ Rows.uptoBulk d := by
  cases d with
  | lit l => cases l <;> simp [Rows.uptoBulk]
  | nil => simp [Rows.uptoBulk]
  | ptr d => simp [Rows.uptoBulk]
  | slice elems spare => simp [Rows.uptoBulk]
  | agg parts => simp [Rows.uptoBulk]
  | iface t d => simp [Rows.uptoBulk]
  | map entries => simp [Rows.uptoBulk]
  | held h => simp [Rows.uptoBulk]
theorem bkN_le {H : Type} : ∀ (m : Nat) (d : DataW H), bkN m d ≤ Rows.uptoBulk d
  | 0, d => by unfold bkN; exact Nat.zero_le _
  | m + 1, d => by
    have h1 := bulk_one d
    have hs := bulk_sum (fun d => bkN_le (H := H) m d)
    cases d with
    | slice elems spare => have := hs elems; simp only [bkN, Rows.uptoBulk]; omega
    | agg parts => have := hs parts; simp only [bkN, Rows.uptoBulk]; omega
    | lit l => simp only [bkN]; exact h1
    | nil => simp only [bkN]; exact h1
    | ptr d => simp only [bkN]; exact h1
    | iface t d => simp only [bkN]; exact h1
    | map entries => simp only [bkN]; exact h1
    | held h => simp only [bkN]; exact h1

set_option maxRecDepth 100000 in
/-- A value that was read as an argument. -/
theorem open_value2 {H : Type} {enc : TypeId × Value → H} {W : World} {base : Nat} {v : Value} {d : DataW H} {p : List MemPlace} (hv : Value.okWide Tryz.prog W .any base 35 v) (h : DataW.Trod enc Tryz.prog W 0 (fun _ => true) true 35 v d p) :
    ∃ (X : V) (cs : List Value), v = .agg cs.toArray ∧ VAt W X cs ∧ X.nodes ≤ Rows.uptoBulk d := by
  obtain ⟨cs, rfl, hsz⟩ := okWide_struct Tryz.underlying35 hv
  obtain ⟨fuel, hf⟩ := h
  obtain ⟨X, hX, hb⟩ := open_vat2 Tryz.underlying35 rfl rfl rfl rfl rfl rfl rfl rfl rfl rfl rfl rfl Tryz.underlying3 Tryz.underlying4 Tryz.underlying9 Tryz.underlying22 Tryz.underlying33 (by kernel_rfl) (by kernel_rfl) (by kernel_rfl) (by kernel_rfl) (by kernel_rfl) (by kernel_rfl) (fuel + 1) fuel (Nat.lt_succ_self _) _ _ hf
  exact ⟨X, cs.toList, by simp, hX, Nat.le_trans (hb (2 * fuel) (Nat.le_refl _)) (bkN_le _ _)⟩
end Go.Proofs.YtihdfkcoajpmjaaGreatDoor
