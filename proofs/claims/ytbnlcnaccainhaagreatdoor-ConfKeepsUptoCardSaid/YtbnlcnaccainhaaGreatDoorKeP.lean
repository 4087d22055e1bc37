/- The plain law of keeping: what is set along steps is got along them; the routes of a value are steps that lead somewhere. No program. -/
import Derived.Test.YtbnlcnaccainhaaGreatDoorVal
import Derived.Test.YtbnlcnaccainhaaGreatDoorTxt
import Derived.Test.YtbnlcnaccainhaaGreatDoorDec10
import Derived.Lib.Atoi
namespace Mh
open Go
set_option linter.unusedVariables false

def V.kd : V → Int | .mk k _ _ _ _ _ => k
def V.its : V → List V | .mk _ _ _ _ is _ => is
def V.kys : V → List ByteArray | .mk _ _ _ _ _ ks => ks
def V.nil : V := .mk 0 false 0 ⟨#[]⟩ [] []

/-- Strings in their order. -/
def kl (a b : ByteArray) : Bool := decide (a.data.toList < b.data.toList)
theorem kl_irrefl (a : ByteArray) : kl a a = false := decide_eq_false (List.lt_irrefl _)
theorem kl_trans {a b c : ByteArray} (h : kl a b = true) (h2 : kl b c = true) : kl a c = true :=
  decide_eq_true (List.lt_trans (of_decide_eq_true h) (of_decide_eq_true h2))
theorem kl_total {a b : ByteArray} (h : kl a b = false) (h2 : kl b a = false) : a = b := by
  have h3 : a.data.toList = b.data.toList := List.le_antisymm (List.not_lt.1 (of_decide_eq_false h2)) (List.not_lt.1 (of_decide_eq_false h))
  cases a; cases b
  simpa [Array.toList_inj] using h3
def Asc (ks : List ByteArray) : Prop := ks.Pairwise (fun a b => kl a b = true)
/-- How many keys are before a key. -/
def low (k : ByteArray) (ks : List ByteArray) : Nat := ks.countP (fun y => kl y k)
def hit (k : ByteArray) (ks : List ByteArray) : Bool := decide (ks[low k ks]? = some k)
theorem low_le (k : ByteArray) (ks : List ByteArray) : low k ks ≤ ks.length := List.countP_le_length
theorem low_split (k : ByteArray) : ∀ ks : List ByteArray, Asc ks → (∀ x ∈ ks.take (low k ks), kl x k = true) ∧ (∀ x ∈ ks.drop (low k ks), kl x k = false) := by
  intro ks
  induction ks with
  | nil => intro _; simp
  | cons a l ih =>
    intro h
    obtain ⟨h1, h2⟩ := List.pairwise_cons.1 h
    obtain ⟨i1, i2⟩ := ih h2
    by_cases ha : kl a k = true
    · have e : low k (a :: l) = low k l + 1 := by unfold low; rw [List.countP_cons_of_pos (by exact ha)]
      rw [e, List.take_succ_cons, List.drop_succ_cons]
      refine ⟨fun x hx => ?_, i2⟩
      rcases List.mem_cons.1 hx with rfl | hx
      · exact ha
      · exact i1 x hx
    · have hl : ∀ x ∈ l, kl x k = false := by
        intro x hx
        by_cases hk : kl x k = true
        · exact absurd (kl_trans (h1 x hx) hk) ha
        · simpa using hk
      have e : low k (a :: l) = 0 := by
        unfold low
        rw [List.countP_eq_zero]
        intro x hx
        rcases List.mem_cons.1 hx with rfl | hx
        · exact ha
        · rw [hl x hx]; simp
      rw [e]
      refine ⟨by simp, fun x hx => ?_⟩
      rw [List.drop_zero] at hx
      rcases List.mem_cons.1 hx with rfl | hx
      · simpa using ha
      · exact hl x hx
theorem low_put (k : ByteArray) (ks : List ByteArray) (h : Asc ks) (j : Nat) (hj : low k ks ≤ j) : low k (ks.take (low k ks) ++ k :: ks.drop j) = low k ks := by
  obtain ⟨h1, h2⟩ := low_split k ks h
  have e1 : low k (ks.take (low k ks)) = low k ks := by
    have : (ks.take (low k ks)).countP (fun y => kl y k) = (ks.take (low k ks)).length := List.countP_eq_length.2 (fun x hx => h1 x hx)
    rw [List.length_take, Nat.min_eq_left (low_le k ks)] at this
    exact this
  have e2 : low k (ks.drop j) = 0 := by
    unfold low
    rw [List.countP_eq_zero]
    intro x hx
    have : x ∈ ks.drop (low k ks) := by
      obtain ⟨d, rfl⟩ : ∃ d, j = low k ks + d := ⟨j - low k ks, by omega⟩
      rw [← List.drop_drop] at hx
      exact List.mem_of_mem_drop hx
    rw [h2 x this]; simp
  show List.countP (fun y => kl y k) _ = _
  rw [List.countP_append, List.countP_cons]
  simp only [kl_irrefl]
  have e1' : List.countP (fun y => kl y k) (ks.take (low k ks)) = low k ks := e1
  have e2' : List.countP (fun y => kl y k) (ks.drop j) = 0 := e2
  rw [e1', e2']
  simp
theorem low_at (ks : List ByteArray) (h : Asc ks) (i : Nat) (hi : i < ks.length) : low ks[i] ks = i := by
  have e : ks = ks.take i ++ ks[i] :: ks.drop (i + 1) := by rw [← List.drop_eq_getElem_cons hi, List.take_append_drop]
  have h' := List.pairwise_iff_getElem.1 h
  have e1 : (ks.take i).countP (fun y => kl y ks[i]) = i := by
    have : (ks.take i).countP (fun y => kl y ks[i]) = (ks.take i).length := by
      rw [List.countP_eq_length]
      intro x hx
      obtain ⟨j, hj, rfl⟩ := List.mem_iff_getElem.1 hx
      rw [List.getElem_take]
      rw [List.length_take] at hj
      exact h' j i (by omega) hi (by omega)
    rw [this, List.length_take]; omega
  have e2 : (ks.drop (i + 1)).countP (fun y => kl y ks[i]) = 0 := by
    rw [List.countP_eq_zero]
    intro x hx
    obtain ⟨j, hj, rfl⟩ := List.mem_iff_getElem.1 hx
    rw [List.getElem_drop]
    rw [List.length_drop] at hj
    have := h' i (i + 1 + j) hi (by omega) (by omega)
    intro hk
    have h3 := kl_trans this hk
    rw [kl_irrefl] at h3
    cases h3
  unfold low
  conv => lhs; arg 2; rw [e]
  rw [List.countP_append, List.countP_cons, e1, e2]
  simp [kl_irrefl]

/-- A step: a key, or (no key) a number. -/
structure St where
  key : ByteArray
  num : Nat
def St.k0 (s : St) : Bool := s.key.size == 0
def followV (v : V) (s : St) : Option V :=
  if s.k0 = true then (if v.kd = 5 then v.its[s.num]? else none)
  else if v.kd = 6 then (if hit s.key v.kys = true then v.its[low s.key v.kys]? else none) else none
def getV : V → List St → Option V
  | v, [] => some v
  | v, s :: l => match followV v s with
    | none => none
    | some x => getV x l
def putAt (k : ByteArray) (ks : List ByteArray) : Nat := low k ks + (if hit k ks = true then 1 else 0)
def putV (t : V) (k : ByteArray) (x : V) : V := .mk 6 false 0 ⟨#[]⟩ (t.its.take (low k t.kys) ++ x :: t.its.drop (putAt k t.kys)) (t.kys.take (low k t.kys) ++ k :: t.kys.drop (putAt k t.kys))
def St.kd (s : St) : Int := if s.k0 = true then 5 else 6
/-- What is set in. -/
def setIn (v : V) (s : St) : V := if v.kd = 0 then .mk s.kd false 0 ⟨#[]⟩ [] [] else v
def setV : V → List St → V → Option V
  | _, [], x => some x
  | v, s :: l, x =>
    if (setIn v s).kd ≠ s.kd then none
    else if s.k0 = true ∧ (setIn v s).its.length < s.num then none
    else match setV ((followV (setIn v s) s).getD V.nil) l x with
      | none => none
      | some y =>
        if s.k0 = false then some (putV (setIn v s) s.key y)
        else if s.num = (setIn v s).its.length then some (.mk 5 false 0 ⟨#[]⟩ ((setIn v s).its ++ [y]) [])
        else some (.mk 5 false 0 ⟨#[]⟩ ((setIn v s).its.set s.num y) [])

/-! Right values. -/
def smallB (c : UInt8) : Bool := decide (97 ≤ c.toNat ∧ c.toNat ≤ 122)
def digB (c : UInt8) : Bool := decide (48 ≤ c.toNat ∧ c.toNat ≤ 57)
def keyB (c : UInt8) : Bool := smallB c || digB c || decide (c.toNat = 45) || decide (c.toNat = 95)
def isKeyL : List UInt8 → Bool
  | [] => false
  | c :: l => decide (l.length < 40) && smallB c && l.all keyB
def isIntL (l : List UInt8) : Bool := match l with
  | [] => false
  | c :: r => if c.toNat = 45 then (!r.isEmpty) && r.all digB else digB c && r.all digB
def isNumL (l : List UInt8) : Bool := match l with
  | [] => false
  | c :: r => decide (r.length < 4) && (isIntL (c :: r) && (!decide (c.toNat = 45) && !(decide (c.toNat = 48) && !r.isEmpty)))
def badL (l : List UInt8) : Bool := l.any (fun c => decide (c.toNat < 32) && (!decide (c.toNat = 9) && !decide (c.toNat = 10)))
def unusedV : V → Bool
  | .mk k b n t is ks => (b && !decide (k = 1)) || (!decide (n = 0) && (!decide (k = 2) && !decide (k = 4))) || (!decide (t.size = 0) && !decide (k = 3)) || (decide (0 < is.length) && (!decide (k = 5) && !decide (k = 6))) || (decide (0 < ks.length) && !decide (k = 6)) || (decide (k = 6) && !decide (ks.length = is.length))
def keysOk (ks : List ByteArray) : Prop := ∀ i (h : i < ks.length), isKeyL ks[i].data.toList = true ∧ (∀ h0 : 0 < i, kl (ks[i - 1]'(by omega)) ks[i] = true)
def V.good1 : V → Prop
  | .mk k b n t is ks => (0 ≤ k ∧ k ≤ 6) ∧ unusedV (.mk k b n t is ks) = false ∧ ¬ (k = 4 ∧ (n < 0 ∨ 84005 < n)) ∧ t.size ≤ 5000 ∧ badL t.data.toList = false ∧ keysOk ks
mutual
def V.good : V → Prop
  | .mk k b n t is ks => V.good1 (.mk k b n t is ks) ∧ V.goods is
def V.goods : List V → Prop
  | [] => True
  | x :: xs => V.good x ∧ V.goods xs
end
theorem goods_mem : ∀ is, V.goods is → ∀ x ∈ is, V.good x := by
  intro is
  induction is with
  | nil => intro _ x hx; simp at hx
  | cons y ys ih =>
    intro h x hx
    simp only [V.goods] at h
    rcases List.mem_cons.1 hx with rfl | hx
    · exact h.1
    · exact ih h.2 x hx
theorem keys_asc (ks : List ByteArray) (h : keysOk ks) : Asc ks := by
  refine List.pairwise_iff_getElem.2 ?_
  intro i j hi hj hij
  obtain ⟨d, rfl⟩ : ∃ d, j = i + 1 + d := ⟨j - i - 1, by omega⟩
  clear hij
  induction d with
  | zero => exact (h (i + 1) hj).2 (by omega)
  | succ d ih =>
    have h1 := ih (by omega)
    have h2 := (h (i + 1 + (d + 1)) hj).2 (by omega)
    exact kl_trans h1 h2
/-- What the law needs of a right value. -/
theorem good_facts {v : V} (h : v.good) : Asc v.kys ∧ (v.kd = 6 → v.kys.length = v.its.length) ∧ (v.its ≠ [] → v.kd = 5 ∨ v.kd = 6) ∧ (∀ x ∈ v.its, x.good) ∧ (∀ k ∈ v.kys, isKeyL k.data.toList = true) := by
  obtain ⟨k, b, n, t, is, ks⟩ := v
  simp only [V.good, V.good1] at h
  obtain ⟨⟨hk, hu, hd, ht, hb, hks⟩, hg⟩ := h
  simp only [unusedV, Bool.or_eq_false_iff, Bool.and_eq_false_iff, Bool.not_eq_false', decide_eq_true_eq, decide_eq_false_iff_not] at hu
  refine ⟨keys_asc ks hks, fun h6 => ?_, fun hne => ?_, goods_mem is hg, ?_⟩
  · rcases hu.2 with h | h
    · exact absurd h6 h
    · exact h
  · have : 0 < is.length := List.length_pos_iff.2 hne
    rcases hu.1.1.2 with h | h | h
    · omega
    · exact .inl h
    · exact .inr h
  · intro x hx
    obtain ⟨i, hi, rfl⟩ := List.mem_iff_getElem.1 hx
    exact (hks i hi).1
theorem size0 : (⟨#[]⟩ : ByteArray).size = 0 := rfl
theorem good_nil (k : Int) (hk : 0 ≤ k ∧ k ≤ 6) : (V.mk k false 0 ⟨#[]⟩ [] []).good := by
  simp only [V.good, V.good1, V.goods, and_true]
  refine ⟨hk, by simp [unusedV, size0, -ByteArray.size_eq_zero_iff], by omega, Nat.zero_le _, rfl, fun i h => by simp at h⟩
theorem St.kd_in (s : St) : 0 ≤ s.kd ∧ s.kd ≤ 6 := by unfold St.kd; split <;> omega
theorem setIn_good {v : V} (h : v.good) (s : St) : (setIn v s).good := by
  unfold setIn; split
  · exact good_nil _ s.kd_in
  · exact h
theorem follow_good {v x : V} (h : v.good) {s : St} (hf : followV v s = some x) : x.good := by
  have hm := (good_facts h).2.2.2.1
  unfold followV at hf
  split at hf
  · split at hf
    · exact hm x (List.mem_of_getElem? hf)
    · cases hf
  · split at hf
    · split at hf
      · exact hm x (List.mem_of_getElem? hf)
      · cases hf
    · cases hf
theorem follow_or_good {v : V} (h : v.good) (s : St) : ((followV v s).getD V.nil).good := by
  cases hf : followV v s with
  | none => exact good_nil 0 (by omega)
  | some x => exact follow_good h hf
theorem kd_mk (k : Int) (b : Bool) (n : Int) (t : ByteArray) (is : List V) (ks : List ByteArray) : (V.mk k b n t is ks).kd = k := rfl
theorem its_mk (k : Int) (b : Bool) (n : Int) (t : ByteArray) (is : List V) (ks : List ByteArray) : (V.mk k b n t is ks).its = is := rfl
theorem kys_mk (k : Int) (b : Bool) (n : Int) (t : ByteArray) (is : List V) (ks : List ByteArray) : (V.mk k b n t is ks).kys = ks := rfl
theorem follow_tab {s : St} (h0 : s.k0 = false) (b : Bool) (n : Int) (t : ByteArray) (is : List V) (ks : List ByteArray) : followV (.mk 6 b n t is ks) s = if hit s.key ks = true then is[low s.key ks]? else none := by
  unfold followV
  rw [h0]
  rfl
theorem follow_list {s : St} (h0 : s.k0 = true) (b : Bool) (n : Int) (t : ByteArray) (is : List V) (ks : List ByteArray) : followV (.mk 5 b n t is ks) s = is[s.num]? := by
  simp [followV, h0, V.kd, V.its]
theorem follow_put {t : V} (hA : Asc t.kys) (hl : t.kys.length = t.its.length) (s : St) (h0 : s.k0 = false) (y : V) : followV (putV t s.key y) s = some y := by
  have hj : low s.key t.kys ≤ putAt s.key t.kys := by unfold putAt; omega
  have e := low_put s.key t.kys hA _ hj
  have hlo := low_le s.key t.kys
  unfold putV
  rw [follow_tab h0]
  have hh : hit s.key (t.kys.take (low s.key t.kys) ++ s.key :: t.kys.drop (putAt s.key t.kys)) = true := by
    unfold hit
    rw [e]
    refine decide_eq_true ?_
    rw [List.getElem?_append_right (by rw [List.length_take]; omega), List.length_take, Nat.min_eq_left hlo]
    simp
  rw [if_pos hh, e, List.getElem?_append_right (by rw [List.length_take]; omega), List.length_take, Nat.min_eq_left (by omega)]
  simp
theorem set_get : ∀ (l : List St) (v x s : V), v.good → setV v l x = some s → getV s l = some x := by
  intro l
  induction l with
  | nil => intro v x s _ h; simp only [setV, Option.some.injEq] at h; subst h; rfl
  | cons a l ih =>
    intro v x s hv h
    have hg := setIn_good hv a
    unfold setV at h
    generalize setIn v a = v' at *
    split at h
    · cases h
    rename_i hkd
    split at h
    · cases h
    rename_i hnum
    cases hs : setV ((followV v' a).getD V.nil) l x with
    | none => rw [hs] at h; cases h
    | some y =>
      rw [hs] at h
      have hi := ih _ x y (follow_or_good hg a) hs
      simp only at h
      have key : followV s a = some y := by
        have hkd' : v'.kd = a.kd := by simpa using hkd
        cases h0 : a.k0 with
        | false =>
          rw [if_pos h0] at h
          cases h
          have h6 : v'.kd = 6 := by rw [hkd']; unfold St.kd; rw [h0]; rfl
          exact follow_put (good_facts hg).1 ((good_facts hg).2.1 h6) a h0 y
        | true =>
          rw [if_neg (by rw [h0]; simp)] at h
          have hn : a.num ≤ v'.its.length := by
            have := hnum
            rw [h0] at this
            simpa using this
          split at h
          · rename_i he
            cases h
            rw [follow_list h0, he]
            simp
          · rename_i he
            cases h
            rw [follow_list h0, List.getElem?_set_self (by omega)]
      unfold getV
      rw [key]
      exact hi
end Mh
