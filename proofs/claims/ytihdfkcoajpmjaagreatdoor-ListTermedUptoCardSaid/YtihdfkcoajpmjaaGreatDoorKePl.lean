/- The plain law of keeping: what is set along steps is got along them; the routes of a value are steps that lead somewhere. No program. · The plain law of keeping, second part: measures of a value (nodes, count, levels); the routes of a right value lead somewhere. No program. · The plain law of keeping, third part: the routes of a right value are steps that lead somewhere. No program. -/
import Derived.Test.YtihdfkcoajpmjaaGreatDoorVal
import Derived.Test.YtihdfkcoajpmjaaGreatDoorTxt
import Derived.Test.YtihdfkcoajpmjaaGreatDoorDec10
import Derived.Lib.Atoi
namespace Mh
open Go
set_option linter.unusedVariables false

def V.kd : V → Int | .mk k _ _ _ _ _ => k
def V.its : V → List V | .mk _ _ _ _ is _ => is
def V.kys : V → List ByteArray | .mk _ _ _ _ _ ks => ks
def V.nil : V := .mk 0 false 0 ⟨#[]⟩ [] []

/-- Strings in their order. -/
def kl (a b : ByteArray) : Bool := decide (a.data.toList < b.data.toList)
theorem kl_irrefl (a : ByteArray) : kl a a = false := decide_eq_false (List.lt_irrefl _)
theorem kl_trans {a b c : ByteArray} (h : kl a b = true) (h2 : kl b c = true) : kl a c = true :=
  decide_eq_true (List.lt_trans (of_decide_eq_true h) (of_decide_eq_true h2))
theorem kl_total {a b : ByteArray} (h : kl a b = false) (h2 : kl b a = false) : a = b := by
  have h3 : a.data.toList = b.data.toList := List.le_antisymm (List.not_lt.1 (of_decide_eq_false h2)) (List.not_lt.1 (of_decide_eq_false h))
  cases a; cases b
  simpa [Array.toList_inj] using h3
def Asc (ks : List ByteArray) : Prop := ks.Pairwise (fun a b => kl a b = true)
/-- How many keys are before a key. -/
def low (k : ByteArray) (ks : List ByteArray) : Nat := ks.countP (fun y => kl y k)
def hit (k : ByteArray) (ks : List ByteArray) : Bool := decide (ks[low k ks]? = some k)
theorem low_le (k : ByteArray) (ks : List ByteArray) : low k ks ≤ ks.length := List.countP_le_length
theorem low_split (k : ByteArray) : ∀ ks : List ByteArray, Asc ks → (∀ x ∈ ks.take (low k ks), kl x k = true) ∧ (∀ x ∈ ks.drop (low k ks), kl x k = false) := by
  intro ks
  induction ks with
  | nil => intro _; simp
  | cons a l ih =>
    intro h
    obtain ⟨h1, h2⟩ := List.pairwise_cons.1 h
    obtain ⟨i1, i2⟩ := ih h2
    by_cases ha : kl a k = true
    · have e : low k (a :: l) = low k l + 1 := by unfold low; rw [List.countP_cons_of_pos (by exact ha)]
      rw [e, List.take_succ_cons, List.drop_succ_cons]
      refine ⟨fun x hx => ?_, i2⟩
      rcases List.mem_cons.1 hx with rfl | hx
      · exact ha
      · exact i1 x hx
    · have hl : ∀ x ∈ l, kl x k = false := by
        intro x hx
        by_cases hk : kl x k = true
        · exact absurd (kl_trans (h1 x hx) hk) ha
        · simpa using hk
      have e : low k (a :: l) = 0 := by
        unfold low
        rw [List.countP_eq_zero]
        intro x hx
        rcases List.mem_cons.1 hx with rfl | hx
        · exact ha
        · rw [hl x hx]; simp
      rw [e]
      refine ⟨by simp, fun x hx => ?_⟩
      rw [List.drop_zero] at hx
      rcases List.mem_cons.1 hx with rfl | hx
      · simpa using ha
      · exact hl x hx
theorem low_put (k : ByteArray) (ks : List ByteArray) (h : Asc ks) (j : Nat) (hj : low k ks ≤ j) : low k (ks.take (low k ks) ++ k :: ks.drop j) = low k ks := by
  obtain ⟨h1, h2⟩ := low_split k ks h
  have e1 : low k (ks.take (low k ks)) = low k ks := by
    have : (ks.take (low k ks)).countP (fun y => kl y k) = (ks.take (low k ks)).length := List.countP_eq_length.2 (fun x hx => h1 x hx)
    rw [List.length_take, Nat.min_eq_left (low_le k ks)] at this
    exact this
  have e2 : low k (ks.drop j) = 0 := by
    unfold low
    rw [List.countP_eq_zero]
    intro x hx
    have : x ∈ ks.drop (low k ks) := by
      obtain ⟨d, rfl⟩ : ∃ d, j = low k ks + d := ⟨j - low k ks, by omega⟩
      rw [← List.drop_drop] at hx
      exact List.mem_of_mem_drop hx
    rw [h2 x this]; simp
  show List.countP (fun y => kl y k) _ = _
  rw [List.countP_append, List.countP_cons]
  simp only [kl_irrefl]
  have e1' : List.countP (fun y => kl y k) (ks.take (low k ks)) = low k ks := e1
  have e2' : List.countP (fun y => kl y k) (ks.drop j) = 0 := e2
  rw [e1', e2']
  simp
theorem low_at (ks : List ByteArray) (h : Asc ks) (i : Nat) (hi : i < ks.length) : low ks[i] ks = i := by
  have e : ks = ks.take i ++ ks[i] :: ks.drop (i + 1) := by rw [← List.drop_eq_getElem_cons hi, List.take_append_drop]
  have h' := List.pairwise_iff_getElem.1 h
  have e1 : (ks.take i).countP (fun y => kl y ks[i]) = i := by
    have : (ks.take i).countP (fun y => kl y ks[i]) = (ks.take i).length := by
      rw [List.countP_eq_length]
      intro x hx
      obtain ⟨j, hj, rfl⟩ := List.mem_iff_getElem.1 hx
      rw [List.getElem_take]
      rw [List.length_take] at hj
      exact h' j i (by omega) hi (by omega)
    rw [this, List.length_take]; omega
  have e2 : (ks.drop (i + 1)).countP (fun y => kl y ks[i]) = 0 := by
    rw [List.countP_eq_zero]
    intro x hx
    obtain ⟨j, hj, rfl⟩ := List.mem_iff_getElem.1 hx
    rw [List.getElem_drop]
    rw [List.length_drop] at hj
    have := h' i (i + 1 + j) hi (by omega) (by omega)
    intro hk
    have h3 := kl_trans this hk
    rw [kl_irrefl] at h3
    cases h3
  unfold low
  conv => lhs; arg 2; rw [e]
  rw [List.countP_append, List.countP_cons, e1, e2]
  simp [kl_irrefl]

/-- A step: a key, or (no key) a number. -/
structure St where
  key : ByteArray
  num : Nat
def St.k0 (s : St) : Bool := s.key.size == 0
def followV (v : V) (s : St) : Option V :=
  if s.k0 = true then (if v.kd = 5 then v.its[s.num]? else none)
  else if v.kd = 6 then (if hit s.key v.kys = true then v.its[low s.key v.kys]? else none) else none
def getV : V → List St → Option V
  | v, [] => some v
  | v, s :: l => match followV v s with
    | none => none
    | some x => getV x l
def putAt (k : ByteArray) (ks : List ByteArray) : Nat := low k ks + (if hit k ks = true then 1 else 0)
def putV (t : V) (k : ByteArray) (x : V) : V := .mk 6 false 0 ⟨#[]⟩ (t.its.take (low k t.kys) ++ x :: t.its.drop (putAt k t.kys)) (t.kys.take (low k t.kys) ++ k :: t.kys.drop (putAt k t.kys))
def St.kd (s : St) : Int := if s.k0 = true then 5 else 6
/-- What is set in. -/
def setIn (v : V) (s : St) : V := if v.kd = 0 then .mk s.kd false 0 ⟨#[]⟩ [] [] else v
def setV : V → List St → V → Option V
  | _, [], x => some x
  | v, s :: l, x =>
    if (setIn v s).kd ≠ s.kd then none
    else if s.k0 = true ∧ (setIn v s).its.length < s.num then none
    else match setV ((followV (setIn v s) s).getD V.nil) l x with
      | none => none
      | some y =>
        if s.k0 = false then some (putV (setIn v s) s.key y)
        else if s.num = (setIn v s).its.length then some (.mk 5 false 0 ⟨#[]⟩ ((setIn v s).its ++ [y]) [])
        else some (.mk 5 false 0 ⟨#[]⟩ ((setIn v s).its.set s.num y) [])

/-! Right values. -/
def smallB (c : UInt8) : Bool := decide (97 ≤ c.toNat ∧ c.toNat ≤ 122)
def digB (c : UInt8) : Bool := decide (48 ≤ c.toNat ∧ c.toNat ≤ 57)
def keyB (c : UInt8) : Bool := smallB c || digB c || decide (c.toNat = 45) || decide (c.toNat = 95)
def isKeyL : List UInt8 → Bool
  | [] => false
  | c :: l => decide (l.length < 40) && smallB c && l.all keyB
def isIntL (l : List UInt8) : Bool := match l with
  | [] => false
  | c :: r => if c.toNat = 45 then (!r.isEmpty) && r.all digB else digB c && r.all digB
def isNumL (l : List UInt8) : Bool := match l with
  | [] => false
  | c :: r => decide (r.length < 4) && (isIntL (c :: r) && (!decide (c.toNat = 45) && !(decide (c.toNat = 48) && !r.isEmpty)))
def badL (l : List UInt8) : Bool := l.any (fun c => decide (c.toNat < 32) && (!decide (c.toNat = 9) && !decide (c.toNat = 10)))
def unusedV : V → Bool
  | .mk k b n t is ks => (b && !decide (k = 1)) || (!decide (n = 0) && (!decide (k = 2) && !decide (k = 4))) || (!decide (t.size = 0) && !decide (k = 3)) || (decide (0 < is.length) && (!decide (k = 5) && !decide (k = 6))) || (decide (0 < ks.length) && !decide (k = 6)) || (decide (k = 6) && !decide (ks.length = is.length))
def keysOk (ks : List ByteArray) : Prop := ∀ i (h : i < ks.length), isKeyL ks[i].data.toList = true ∧ (∀ h0 : 0 < i, kl (ks[i - 1]'(by omega)) ks[i] = true)
def V.good1 : V → Prop
  | .mk k b n t is ks => (0 ≤ k ∧ k ≤ 6) ∧ unusedV (.mk k b n t is ks) = false ∧ ¬ (k = 4 ∧ (n < 0 ∨ 84005 < n)) ∧ t.size ≤ 5000 ∧ badL t.data.toList = false ∧ keysOk ks
mutual
def V.good : V → Prop
  | .mk k b n t is ks => V.good1 (.mk k b n t is ks) ∧ V.goods is
def V.goods : List V → Prop
  | [] => True
  | x :: xs => V.good x ∧ V.goods xs
end
theorem goods_mem : ∀ is, V.goods is → ∀ x ∈ is, V.good x := by
  intro is
  induction is with
  | nil => intro _ x hx; simp at hx
  | cons y ys ih =>
    intro h x hx
    simp only [V.goods] at h
    rcases List.mem_cons.1 hx with rfl | hx
    · exact h.1
    · exact ih h.2 x hx
theorem keys_asc (ks : List ByteArray) (h : keysOk ks) : Asc ks := by
  refine List.pairwise_iff_getElem.2 ?_
  intro i j hi hj hij
  obtain ⟨d, rfl⟩ : ∃ d, j = i + 1 + d := ⟨j - i - 1, by omega⟩
  clear hij
  induction d with
  | zero => exact (h (i + 1) hj).2 (by omega)
  | succ d ih =>
    have h1 := ih (by omega)
    have h2 := (h (i + 1 + (d + 1)) hj).2 (by omega)
    exact kl_trans h1 h2
/-- What the law needs of a right value. -/
theorem good_facts {v : V} (h : v.good) : Asc v.kys ∧ (v.kd = 6 → v.kys.length = v.its.length) ∧ (v.its ≠ [] → v.kd = 5 ∨ v.kd = 6) ∧ (∀ x ∈ v.its, x.good) ∧ (∀ k ∈ v.kys, isKeyL k.data.toList = true) := by
  obtain ⟨k, b, n, t, is, ks⟩ := v
  simp only [V.good, V.good1] at h
  obtain ⟨⟨hk, hu, hd, ht, hb, hks⟩, hg⟩ := h
  simp only [unusedV, Bool.or_eq_false_iff, Bool.and_eq_false_iff, Bool.not_eq_false', decide_eq_true_eq, decide_eq_false_iff_not] at hu
  refine ⟨keys_asc ks hks, fun h6 => ?_, fun hne => ?_, goods_mem is hg, ?_⟩
  · rcases hu.2 with h | h
    · exact absurd h6 h
    · exact h
  · have : 0 < is.length := List.length_pos_iff.2 hne
    rcases hu.1.1.2 with h | h | h
    · omega
    · exact .inl h
    · exact .inr h
  · intro x hx
    obtain ⟨i, hi, rfl⟩ := List.mem_iff_getElem.1 hx
    exact (hks i hi).1
theorem size0 : (⟨#[]⟩ : ByteArray).size = 0 := rfl
theorem good_nil (k : Int) (hk : 0 ≤ k ∧ k ≤ 6) : (V.mk k false 0 ⟨#[]⟩ [] []).good := by
  simp only [V.good, V.good1, V.goods, and_true]
  refine ⟨hk, by simp [unusedV, size0, -ByteArray.size_eq_zero_iff], by omega, Nat.zero_le _, rfl, fun i h => by simp at h⟩
theorem St.kd_in (s : St) : 0 ≤ s.kd ∧ s.kd ≤ 6 := by unfold St.kd; split <;> omega
theorem setIn_good {v : V} (h : v.good) (s : St) : (setIn v s).good := by
  unfold setIn; split
  · exact good_nil _ s.kd_in
  · exact h
theorem follow_good {v x : V} (h : v.good) {s : St} (hf : followV v s = some x) : x.good := by
  have hm := (good_facts h).2.2.2.1
  unfold followV at hf
  split at hf
  · split at hf
    · exact hm x (List.mem_of_getElem? hf)
    · cases hf
  · split at hf
    · split at hf
      · exact hm x (List.mem_of_getElem? hf)
      · cases hf
    · cases hf
theorem follow_or_good {v : V} (h : v.good) (s : St) : ((followV v s).getD V.nil).good := by
  cases hf : followV v s with
  | none => exact good_nil 0 (by omega)
  | some x => exact follow_good h hf
theorem kd_mk (k : Int) (b : Bool) (n : Int) (t : ByteArray) (is : List V) (ks : List ByteArray) : (V.mk k b n t is ks).kd = k := rfl
theorem its_mk (k : Int) (b : Bool) (n : Int) (t : ByteArray) (is : List V) (ks : List ByteArray) : (V.mk k b n t is ks).its = is := rfl
theorem kys_mk (k : Int) (b : Bool) (n : Int) (t : ByteArray) (is : List V) (ks : List ByteArray) : (V.mk k b n t is ks).kys = ks := rfl
theorem follow_tab {s : St} (h0 : s.k0 = false) (b : Bool) (n : Int) (t : ByteArray) (is : List V) (ks : List ByteArray) : followV (.mk 6 b n t is ks) s = if hit s.key ks = true then is[low s.key ks]? else none := by
  unfold followV
  rw [h0]
  rfl
theorem follow_list {s : St} (h0 : s.k0 = true) (b : Bool) (n : Int) (t : ByteArray) (is : List V) (ks : List ByteArray) : followV (.mk 5 b n t is ks) s = is[s.num]? := by
  simp [followV, h0, V.kd, V.its]
theorem follow_put {t : V} (hA : Asc t.kys) (hl : t.kys.length = t.its.length) (s : St) (h0 : s.k0 = false) (y : V) : followV (putV t s.key y) s = some y := by
  have hj : low s.key t.kys ≤ putAt s.key t.kys := by unfold putAt; omega
  have e := low_put s.key t.kys hA _ hj
  have hlo := low_le s.key t.kys
  unfold putV
  rw [follow_tab h0]
  have hh : hit s.key (t.kys.take (low s.key t.kys) ++ s.key :: t.kys.drop (putAt s.key t.kys)) = true := by
    unfold hit
    rw [e]
    refine decide_eq_true ?_
    rw [List.getElem?_append_right (by rw [List.length_take]; omega), List.length_take, Nat.min_eq_left hlo]
    simp
  rw [if_pos hh, e, List.getElem?_append_right (by rw [List.length_take]; omega), List.length_take, Nat.min_eq_left (by omega)]
  simp
theorem set_get : ∀ (l : List St) (v x s : V), v.good → setV v l x = some s → getV s l = some x := by
  intro l
  induction l with
  | nil => intro v x s _ h; simp only [setV, Option.some.injEq] at h; subst h; rfl
  | cons a l ih =>
    intro v x s hv h
    have hg := setIn_good hv a
    unfold setV at h
    generalize setIn v a = v' at *
    split at h
    · cases h
    rename_i hkd
    split at h
    · cases h
    rename_i hnum
    cases hs : setV ((followV v' a).getD V.nil) l x with
    | none => rw [hs] at h; cases h
    | some y =>
      rw [hs] at h
      have hi := ih _ x y (follow_or_good hg a) hs
      simp only at h
      have key : followV s a = some y := by
        have hkd' : v'.kd = a.kd := by simpa using hkd
        cases h0 : a.k0 with
        | false =>
          rw [if_pos h0] at h
          cases h
          have h6 : v'.kd = 6 := by rw [hkd']; unfold St.kd; rw [h0]; rfl
          exact follow_put (good_facts hg).1 ((good_facts hg).2.1 h6) a h0 y
        | true =>
          rw [if_neg (by rw [h0]; simp)] at h
          have hn : a.num ≤ v'.its.length := by
            have := hnum
            rw [h0] at this
            simpa using this
          split at h
          · rename_i he
            cases h
            rw [follow_list h0, he]
            simp
          · rename_i he
            cases h
            rw [follow_list h0, List.getElem?_set_self (by omega)]
      unfold getV
      rw [key]
      exact hi
end Mh
namespace Mh
open Go
set_option linter.unusedVariables false

mutual
def V.nodes : V → Nat
  | .mk k b n t is ks => V.nodess is + 1
def V.nodess : List V → Nat
  | [] => 0
  | x :: xs => V.nodes x + V.nodess xs
end
mutual
def V.cnt : V → Nat
  | .mk k b n t is ks => V.cnts is 1
def V.cnts : List V → Nat → Nat
  | [], m => m
  | x :: xs, m => if 1000 < m then m else V.cnts xs (m + V.cnt x)
end
mutual
def V.lev : V → Nat
  | .mk k b n t is ks => V.levs is 0 + 1
def V.levs : List V → Nat → Nat
  | [], m => m
  | x :: xs, m => V.levs xs (max m (V.lev x))
end
theorem nodes_pos (v : V) : 1 ≤ v.nodes := by cases v; simp only [V.nodes]; omega
theorem nodess_mem : ∀ is, ∀ x ∈ is, V.nodes x ≤ V.nodess is := by
  intro is
  induction is with
  | nil => intro x hx; simp at hx
  | cons y ys ih =>
    intro x hx
    simp only [V.nodess]
    rcases List.mem_cons.1 hx with rfl | hx
    · omega
    · have := ih x hx; omega
theorem nodess_len : ∀ is : List V, is.length ≤ V.nodess is := by
  intro is
  induction is with
  | nil => simp
  | cons y ys ih => simp only [V.nodess, List.length_cons]; have := nodes_pos y; omega
theorem nodess_app : ∀ a b, V.nodess (a ++ b) = V.nodess a + V.nodess b := by
  intro a b
  induction a with
  | nil => simp [V.nodess]
  | cons x xs ih => simp only [List.cons_append, V.nodess, ih]; omega
theorem nodess_take (is : List V) (i : Nat) : V.nodess (is.take i) ≤ V.nodess is := by
  conv => rhs; rw [← List.take_append_drop i is, nodess_app]
  omega
theorem nodess_drop (is : List V) (i : Nat) : V.nodess (is.drop i) ≤ V.nodess is := by
  conv => rhs; rw [← List.take_append_drop i is, nodess_app]
  omega
theorem nodess_cut (is : List V) (i j : Nat) (h : i ≤ j) : V.nodess (is.take i) + V.nodess (is.drop j) ≤ V.nodess is := by
  conv => rhs; rw [← List.take_append_drop i is, nodess_app]
  obtain ⟨d, rfl⟩ : ∃ d, j = i + d := ⟨j - i, by omega⟩
  rw [← List.drop_drop]
  have := nodess_drop (is.drop i) d
  omega
theorem cnts_le : ∀ (N : Nat) (v : V), sizeOf v < N → v.cnt ≤ v.nodes := by
  intro N
  induction N with
  | zero => intro v h; omega
  | succ N ih =>
    rintro ⟨k, b, n, t, is, ks⟩ h
    have hm : ∀ x ∈ is, x.cnt ≤ x.nodes := fun x hx => ih x (by have := size_item (k := k) (b := b) (n := n) (t := t) (ks := ks) hx; omega)
    simp only [V.cnt, V.nodes]
    have gen : ∀ (l : List V), (∀ x ∈ l, x.cnt ≤ x.nodes) → ∀ m, V.cnts l m ≤ V.nodess l + m := by
      intro l
      induction l with
      | nil => intro _ m; simp [V.cnts, V.nodess]
      | cons y ys ihy =>
        intro hl m
        simp only [V.cnts, V.nodess]
        have h1 := hl y (by simp)
        have h2 := ihy (fun x hx => hl x (by simp [hx])) (m + y.cnt)
        split <;> omega
    exact gen is hm 1
theorem cnt_nodes (v : V) : v.cnt ≤ v.nodes := cnts_le _ v (Nat.lt_succ_self _)
theorem levs_le : ∀ (N : Nat) (v : V), sizeOf v < N → v.lev ≤ v.nodes := by
  intro N
  induction N with
  | zero => intro v h; omega
  | succ N ih =>
    rintro ⟨k, b, n, t, is, ks⟩ h
    have hm : ∀ x ∈ is, x.lev ≤ x.nodes := fun x hx => ih x (by have := size_item (k := k) (b := b) (n := n) (t := t) (ks := ks) hx; omega)
    simp only [V.lev, V.nodes]
    have gen : ∀ (l : List V), (∀ x ∈ l, x.lev ≤ x.nodes) → ∀ m, V.levs l m ≤ V.nodess l + m := by
      intro l
      induction l with
      | nil => intro _ m; simp [V.levs, V.nodess]
      | cons y ys ihy =>
        intro hl m
        simp only [V.levs, V.nodess]
        have h1 := hl y (by simp)
        have h2 := ihy (fun x hx => hl x (by simp [hx])) (max m y.lev)
        omega
    have := gen is hm 0
    omega
theorem lev_nodes (v : V) : v.lev ≤ v.nodes := levs_le _ v (Nat.lt_succ_self _)
theorem cnt_pos (v : V) : 1 ≤ v.cnt := by
  cases v with
  | mk k b n t is ks =>
    simp only [V.cnt]
    have gen : ∀ (l : List V) (m : Nat), m ≤ V.cnts l m := by
      intro l
      induction l with
      | nil => intro m; simp [V.cnts]
      | cons y ys ih => intro m; simp only [V.cnts]; split; omega; have := ih (m + y.cnt); omega
    exact gen is 1
theorem cnts_ge : ∀ (l : List V) (m : Nat), m ≤ V.cnts l m := by
  intro l
  induction l with
  | nil => intro m; simp [V.cnts]
  | cons y ys ih => intro m; simp only [V.cnts]; split; omega; have := ih (m + y.cnt); omega
theorem cnts_len : ∀ (l : List V) (m : Nat), V.cnts l m ≤ 1000 → m + l.length ≤ 1000 ∧ ∀ x ∈ l, x.cnt ≤ 1000 := by
  intro l
  induction l with
  | nil => intro m h; simp [V.cnts] at h; simp [h]
  | cons y ys ih =>
    intro m h
    simp only [V.cnts] at h
    split at h
    · omega
    · have h1 := ih _ h
      have h2 := cnts_ge ys (m + y.cnt)
      have h3 := cnt_pos y
      refine ⟨by simp; omega, fun x hx => ?_⟩
      rcases List.mem_cons.1 hx with rfl | hx
      · omega
      · exact h1.2 x hx
theorem cnt_facts {v : V} (h : v.cnt ≤ 1000) : v.its.length ≤ 999 ∧ ∀ x ∈ v.its, x.cnt ≤ 1000 := by
  cases v with
  | mk k b n t is ks =>
    simp only [V.cnt] at h
    have := cnts_len is 1 h
    exact ⟨by show is.length ≤ 999; omega, this.2⟩
theorem levs_ge : ∀ (l : List V) (m : Nat), m ≤ V.levs l m := by
  intro l
  induction l with
  | nil => intro m; simp [V.levs]
  | cons y ys ih => intro m; simp only [V.levs]; have := ih (max m y.lev); omega
theorem levs_mem : ∀ (l : List V) (m : Nat), ∀ x ∈ l, x.lev ≤ V.levs l m := by
  intro l
  induction l with
  | nil => intro m x hx; simp at hx
  | cons y ys ih =>
    intro m x hx
    simp only [V.levs]
    rcases List.mem_cons.1 hx with rfl | hx
    · have := levs_ge ys (max m x.lev); omega
    · exact ih _ x hx
theorem lev_item {v x : V} (h : x ∈ v.its) : x.lev < v.lev := by
  cases v with
  | mk k b n t is ks =>
    simp only [V.lev]
    have := levs_mem is 0 x h
    omega
theorem nodes_item {v x : V} (h : x ∈ v.its) : x.nodes < v.nodes := by
  cases v with
  | mk k b n t is ks =>
    simp only [V.nodes]
    have := nodess_mem is x h
    omega
theorem follow_mem {v x : V} {s : St} (hf : followV v s = some x) : x ∈ v.its := by
  unfold followV at hf
  split at hf
  · split at hf
    · exact List.mem_of_getElem? hf
    · cases hf
  · split at hf
    · split at hf
      · exact List.mem_of_getElem? hf
      · cases hf
    · cases hf
theorem setIn_nodes (v : V) (s : St) : (setIn v s).nodes ≤ v.nodes := by
  unfold setIn; split
  · have := nodes_pos v; simp only [V.nodes, V.nodess]; omega
  · exact Nat.le_refl _
theorem nodes_its (v : V) : V.nodess v.its + 1 = v.nodes := by cases v; simp only [V.nodes, V.its]
theorem nodess_set : ∀ (l : List V) (i : Nat) (y : V), V.nodess (l.set i y) ≤ V.nodess l + y.nodes := by
  intro l
  induction l with
  | nil => intro i y; simp [V.nodess]
  | cons a l ih =>
    intro i y
    cases i with
    | zero => simp only [List.set_cons_zero, V.nodess]; omega
    | succ i => simp only [List.set_cons_succ, V.nodess]; have := ih i y; omega
/-- What is set is not much larger. -/
theorem set_nodes : ∀ (l : List St) (v x s : V), setV v l x = some s → s.nodes ≤ (l.length + 1) * (v.nodes + 1) + x.nodes := by
  intro l
  induction l with
  | nil => intro v x s h; simp only [setV, Option.some.injEq] at h; subst h; omega
  | cons a l ih =>
    intro v x s h
    have hv := setIn_nodes v a
    unfold setV at h
    generalize setIn v a = v' at *
    split at h
    · cases h
    split at h
    · cases h
    cases hs : setV ((followV v' a).getD V.nil) l x with
    | none => rw [hs] at h; cases h
    | some y =>
      rw [hs] at h
      have hi := ih _ x y hs
      simp only at h
      have ho : ((followV v' a).getD V.nil).nodes ≤ v.nodes := by
        cases hf : followV v' a with
        | none => simp only [Option.getD_none]; have := nodes_pos v; simp only [V.nil, V.nodes, V.nodess]; omega
        | some z => simp only [Option.getD_some]; have := nodes_item (follow_mem hf); omega
      have hm : (l.length + 1) * (((followV v' a).getD V.nil).nodes + 1) ≤ (l.length + 1) * (v.nodes + 1) := Nat.mul_le_mul_left _ (by omega)
      have hy : y.nodes ≤ (l.length + 1) * (v.nodes + 1) + x.nodes := by omega
      have goal : s.nodes ≤ v'.nodes + y.nodes := by
        have hn := nodes_its v'
        split at h
        · cases h
          have := nodess_cut v'.its (low a.key v'.kys) (putAt a.key v'.kys) (by unfold putAt; omega)
          simp only [putV, V.nodes, nodess_app, V.nodess]
          omega
        · split at h
          · cases h
            simp only [V.nodes, nodess_app, V.nodess]
            omega
          · cases h
            have := nodess_set v'.its a.num y
            simp only [V.nodes]
            omega
      have e : (l.length + 1 + 1) * (v.nodes + 1) = (l.length + 1) * (v.nodes + 1) + (v.nodes + 1) := Nat.succ_mul _ _
      simp only [List.length_cons]
      omega
end Mh
namespace Mh
open Go
set_option linter.unusedVariables false

/-- A good part of a route. -/
def goodPart (p : List UInt8) : Prop := isKeyL p = true ∨ isNumL p = true
def stepB (s : ByteArray) : Option St :=
  if isKeyL s.data.toList = true then some ⟨s, 0⟩
  else if isNumL s.data.toList = true then some ⟨⟨#[]⟩, ((Lib.atoi s.data.toList).getD 0).toNat⟩ else none
def stepsL : List ByteArray → Option (List St)
  | [] => some []
  | p :: ps => match stepB p with
    | none => none
    | some s => match stepsL ps with
      | none => none
      | some l => some (s :: l)
def partsB (r : ByteArray) : List ByteArray := Lib.splitB ⟨#[46]⟩ 0 (Lib.countB r ⟨#[46]⟩) r
def stepsB (r : ByteArray) : Option (List St) := if 400 < r.size then none else if r.size = 0 then some [] else stepsL (partsB r)
def bz (l : List UInt8) : ByteArray := ⟨l.toArray⟩
theorem bz_data (l : List UInt8) : (bz l).data.toList = l := rfl
theorem bz_eq (s : ByteArray) : bz s.data.toList = s := rfl
def stOf (p : List UInt8) : St := if isKeyL p = true then ⟨bz p, 0⟩ else ⟨⟨#[]⟩, ((Lib.atoi p).getD 0).toNat⟩
theorem stepB_good {p : List UInt8} (h : goodPart p) : stepB (bz p) = some (stOf p) := by
  unfold stepB stOf
  rw [bz_data]
  by_cases hk : isKeyL p = true
  · rw [if_pos hk, if_pos hk]
  · rw [if_neg hk, if_neg hk, if_pos (h.resolve_left hk)]
theorem stepsL_good : ∀ ps : List (List UInt8), (∀ p ∈ ps, goodPart p) → stepsL (ps.map bz) = some (ps.map stOf) := by
  intro ps
  induction ps with
  | nil => intro _; rfl
  | cons p ps ih =>
    intro h
    simp only [List.map_cons, stepsL]
    rw [stepB_good (h p (by simp)), ih (fun q hq => h q (by simp [hq]))]
/-- Parts with points between. -/
def jn : List (List UInt8) → List UInt8
  | [] => []
  | [p] => p
  | p :: q :: ps => p ++ 46 :: jn (q :: ps)
theorem jn_snoc : ∀ (ps : List (List UInt8)) (p : List UInt8), ps ≠ [] → jn (ps ++ [p]) = jn ps ++ 46 :: p
  | [], _, h => absurd rfl h
  | [a], p, _ => rfl
  | a :: b :: ps, p, _ => by
    have := jn_snoc (b :: ps) p (by simp)
    show a ++ 46 :: jn (b :: ps ++ [p]) = (a ++ 46 :: jn (b :: ps)) ++ 46 :: p
    rw [this]; simp
theorem spl_jn : ∀ ps : List (List UInt8), ps ≠ [] → (∀ p ∈ ps, (46 : UInt8) ∉ p) → spl 46 (jn ps) = ps
  | [], h, _ => absurd rfl h
  | [p], _, h => spl_none 46 p (h p (by simp))
  | p :: q :: ps, _, h => by
    show spl 46 (p ++ 46 :: jn (q :: ps)) = _
    rw [spl_at 46 p _ (h p (by simp)), spl_jn (q :: ps) (by simp) (fun x hx => h x (by simp only [List.mem_cons] at hx ⊢; exact .inr hx))]
theorem jn_len : ∀ (ps : List (List UInt8)), (∀ p ∈ ps, p.length ≤ 40) → (jn ps).length ≤ 41 * ps.length
  | [], _ => by simp [jn]
  | [p], h => by have := h p (by simp); simp [jn]; omega
  | p :: q :: ps, h => by
    have h1 := h p (by simp)
    have h2 := jn_len (q :: ps) (fun x hx => h x (by simp only [List.mem_cons] at hx ⊢; exact .inr hx))
    simp only [jn, List.length_append, List.length_cons] at h2 ⊢
    omega
theorem jn_ne : ∀ (ps : List (List UInt8)), ps ≠ [] → (∀ p ∈ ps, p ≠ []) → jn ps ≠ []
  | [], h, _ => absurd rfl h
  | [p], _, h => h p (by simp)
  | p :: q :: ps, _, _ => by simp [jn]
theorem key_facts {p : List UInt8} (h : isKeyL p = true) : p ≠ [] ∧ p.length ≤ 40 ∧ (46 : UInt8) ∉ p := by
  cases p with
  | nil => cases h
  | cons c l =>
    simp only [isKeyL, Bool.and_eq_true, decide_eq_true_eq, List.all_eq_true] at h
    refine ⟨by simp, by simp; omega, ?_⟩
    intro hm
    rcases List.mem_cons.1 hm with rfl | hm
    · have := h.1.2; revert this; decide
    · have := h.2 46 hm; revert this; decide
theorem num_facts {p : List UInt8} (h : isNumL p = true) : p ≠ [] ∧ p.length ≤ 40 ∧ (46 : UInt8) ∉ p := by
  cases p with
  | nil => cases h
  | cons c l =>
    simp only [isNumL, Bool.and_eq_true, decide_eq_true_eq, Bool.not_eq_true', decide_eq_false_iff_not] at h
    obtain ⟨h1, h2, h3, _⟩ := h
    refine ⟨by simp, by simp; omega, ?_⟩
    simp only [isIntL] at h2
    rw [if_neg h3] at h2
    simp only [Bool.and_eq_true, List.all_eq_true] at h2
    intro hm
    rcases List.mem_cons.1 hm with rfl | hm
    · have := h2.1; revert this; decide
    · have := h2.2 46 hm; revert this; decide
theorem good_part {p : List UInt8} (h : goodPart p) : p ≠ [] ∧ p.length ≤ 40 ∧ (46 : UInt8) ∉ p := h.elim key_facts num_facts
theorem stepsB_jn (ps : List (List UInt8)) (h : ∀ p ∈ ps, goodPart p) (hl : ps.length ≤ 9) (r : ByteArray) (hr : r.data.toList = jn ps) : stepsB r = some (ps.map stOf) := by
  have hsz : r.size = (jn ps).length := by rw [← hr]; simp
  have h1 := jn_len ps (fun p hp => (good_part (h p hp)).2.1)
  unfold stepsB
  rw [if_neg (by omega)]
  by_cases hp : ps = []
  · subst hp
    rw [if_pos (by rw [hsz]; rfl)]
    rfl
  · have h2 := jn_ne ps hp (fun p hp => (good_part (h p hp)).1)
    rw [if_neg (by rw [hsz]; intro h0; exact h2 (List.eq_nil_of_length_eq_zero h0))]
    have h3 : (partsB r).map (·.data.toList) = ps := by
      unfold partsB
      rw [splitB_spl, hr, spl_jn ps hp (fun p hp => (good_part (h p hp)).2.2)]
    have h4 : partsB r = ps.map bz := by
      rw [← h3, List.map_map]
      conv => lhs; rw [← List.map_id (partsB r)]
      exact List.map_congr_left (fun s _ => (bz_eq s).symm)
    rw [h4]
    exact stepsL_good ps h

/-! Numerals. -/
theorem decFrom_dfold : ∀ (l : List UInt8) (a : Nat), (∀ c ∈ l, 48 ≤ c.toNat ∧ c.toNat ≤ 57) → Lib.decFrom a l = some (l.foldl (fun n c => 10 * n + (c.toNat - 48)) a) := by
  intro l
  induction l with
  | nil => intro a _; rfl
  | cons c l ih =>
    intro a h
    have hc := h c (by simp)
    simp only [Lib.decFrom, Lib.digitVal, if_pos hc]
    rw [ih _ (fun x hx => h x (by simp [hx])), List.foldl_cons, Nat.mul_comm a 10]
theorem atoi_dec (n : Nat) : Lib.atoi (Lib.decDigits n) = some (n : Int) := by
  have hd := dec_digit n
  have hv := dec_val n
  have hn := dec_ne n
  cases hl : Lib.decDigits n with
  | nil => exact absurd hl hn
  | cons c r =>
    rw [hl] at hd hv
    have hc := hd c (by simp)
    have h1 : (c == 45) = false := by
      rw [beq_eq_false_iff_ne]; rintro rfl; revert hc; decide
    have h2 : (c == 43) = false := by
      rw [beq_eq_false_iff_ne]; rintro rfl; revert hc; decide
    simp only [Lib.atoi, h1, h2, Bool.false_eq_true, if_false, Lib.decNat, List.isEmpty_cons]
    rw [decFrom_dfold _ 0 hd]
    show Option.map _ (some (dval (c :: r))) = _
    rw [hv]; rfl
theorem decK_len : ∀ (k n : Nat), n < 10 ^ (k + 1) → (Lib.decDigits n).length ≤ k + 1 := by
  intro k
  induction k with
  | zero => intro n h; rw [decDigits_small (by simpa using h)]; exact Nat.le_refl _
  | succ k ih =>
    intro n h
    by_cases h9 : n < 10
    · rw [decDigits_small h9]; simp
    · rw [decDigits_big h9]
      have := ih (n / 10) (by rw [Nat.pow_succ] at h; omega)
      simp; omega
theorem dec_num (n : Nat) (h : n < 10000) : isNumL (Lib.decDigits n) = true ∧ isKeyL (Lib.decDigits n) = false := by
  have hd := dec_digit n
  have hlen := decK_len 3 n h
  have hh := dec_head n
  have h0 : Lib.decDigits 0 = [48] := decDigits_small (by omega)
  cases hl : Lib.decDigits n with
  | nil => exact absurd hl (dec_ne n)
  | cons c r =>
    rw [hl] at hd hlen
    have hc := hd c (by simp)
    constructor
    · simp only [isNumL, isIntL, Bool.and_eq_true, decide_eq_true_eq, Bool.not_eq_true', decide_eq_false_iff_not]
      refine ⟨by simp at hlen; omega, ?_, by omega, ?_⟩
      · rw [if_neg (by omega)]
        simp only [Bool.and_eq_true, List.all_eq_true, digB, decide_eq_true_eq]
        exact ⟨hc, fun x hx => hd x (by simp [hx])⟩
      · by_cases hn : n = 0
        · subst hn
          rw [h0] at hl
          cases hl
          rfl
        · have := hh (by omega)
          rw [hl] at this
          have hc8 : c.toNat ≠ 48 := fun e => this (by simp only [List.head?_cons, Option.some.injEq]; exact UInt8.toNat_inj.1 (by rw [e]; rfl))
          simp [hc8]
    · simp only [isKeyL, smallB]
      have : decide (97 ≤ c.toNat ∧ c.toNat ≤ 122) = false := decide_eq_false (by omega)
      rw [this]; simp
theorem stOf_dec (n : Nat) (h : n < 10000) : stOf (Lib.decDigits n) = ⟨⟨#[]⟩, n⟩ := by
  unfold stOf
  rw [if_neg (by rw [(dec_num n h).2]; simp), atoi_dec]
  rfl

/-! Routes. -/
def joinR (r p : ByteArray) : ByteArray := if r.size = 0 then p else r ++ ⟨#[46]⟩ ++ p
def partB (k : Int) (ks : List ByteArray) (i : Nat) : ByteArray := if k = 6 then ks.getD i ⟨#[]⟩ else bz (Lib.decDigits i)
mutual
def V.rts : V → ByteArray → List ByteArray
  | .mk k b n t [] ks, r => [r]
  | .mk k b n t (x :: xs) ks, r => V.rtss k ks (x :: xs) 0 r
def V.rtss : Int → List ByteArray → List V → Nat → ByteArray → List ByteArray
  | _, _, [], _, _ => []
  | k, ks, x :: xs, i, r => V.rts x (joinR r (partB k ks i)) ++ V.rtss k ks xs (i + 1) r
end
theorem rtss_mem (k : Int) (ks : List ByteArray) (r q : ByteArray) : ∀ (xs : List V) (i : Nat), q ∈ V.rtss k ks xs i r → ∃ j, ∃ h : j < xs.length, q ∈ V.rts xs[j] (joinR r (partB k ks (i + j))) := by
  intro xs
  induction xs with
  | nil => intro i h; simp [V.rtss] at h
  | cons x xs ih =>
    intro i h
    simp only [V.rtss] at h
    rcases List.mem_append.1 h with h | h
    · exact ⟨0, by simp, h⟩
    · obtain ⟨j, hj, hq⟩ := ih (i + 1) h
      exact ⟨j + 1, by simp; omega, by rw [show i + (j + 1) = i + 1 + j by omega]; exact hq⟩
theorem joinR_jn (r p : ByteArray) (ps : List (List UInt8)) (h : ∀ q ∈ ps, goodPart q) (hr : r.data.toList = jn ps) : (joinR r p).data.toList = jn (ps ++ [p.data.toList]) := by
  unfold joinR
  have hsz : r.size = (jn ps).length := by rw [← hr]; simp
  by_cases hp : ps = []
  · subst hp
    rw [if_pos (by rw [hsz]; rfl)]
    rfl
  · have h2 := jn_ne ps hp (fun p hp => (good_part (h p hp)).1)
    rw [if_neg (by rw [hsz]; intro h0; exact h2 (List.eq_nil_of_length_eq_zero h0)), jn_snoc ps _ hp, ← hr]
    simp
theorem rts_ok : ∀ (N : Nat) (v : V), sizeOf v < N → v.good → v.cnt ≤ 1000 → ∀ (r : ByteArray) (ps : List (List UInt8)), r.data.toList = jn ps → (∀ p ∈ ps, goodPart p) → ∀ q ∈ V.rts v r,
    ∃ ts : List (List UInt8), q.data.toList = jn (ps ++ ts) ∧ (∀ p ∈ ts, goodPart p) ∧ ts.length < v.lev ∧ (getV v (ts.map stOf)).isSome = true := by
  intro N
  induction N with
  | zero => intro v h; omega
  | succ N ih =>
    rintro ⟨k, b, n, t, is, ks⟩ hN hg hc r ps hr hps q hq
    have hf := good_facts hg
    have hcf := cnt_facts hc
    cases is with
    | nil =>
      simp only [V.rts, List.mem_cons, List.not_mem_nil, or_false] at hq
      subst hq
      exact ⟨[], by rw [List.append_nil]; exact hr, by simp, by simp only [V.lev, V.levs, List.length_nil]; omega, rfl⟩
    | cons x xs =>
      have hN' := hN
      unfold V.rts at hq
      obtain ⟨j, hj, hq⟩ := rtss_mem k ks r q (x :: xs) 0 hq
      rw [Nat.zero_add] at hq
      generalize hX : x :: xs = is at *
      have hm : is[j] ∈ is := List.getElem_mem hj
      have hpart : goodPart (partB k ks j).data.toList ∧ followV (.mk k b n t is ks) (stOf (partB k ks j).data.toList) = some is[j] := by
        rcases hf.2.2.1 (by rw [its_mk, ← hX]; simp) with h5 | h6
        · rw [kd_mk] at h5
          subst h5
          have hlt : j < 10000 := by have := hcf.1; rw [its_mk] at this; omega
          unfold partB
          rw [if_neg (by omega), bz_data]
          refine ⟨.inr (dec_num j hlt).1, ?_⟩
          rw [stOf_dec j hlt, follow_list rfl, List.getElem?_eq_getElem hj]
        · rw [kd_mk] at h6
          subst h6
          have hl := hf.2.1 rfl
          rw [kys_mk, its_mk] at hl
          have hjk : j < ks.length := by omega
          have hkey := hf.2.2.2.2 ks[j] (List.getElem_mem hjk)
          unfold partB
          rw [if_pos rfl, show ks.getD j ⟨#[]⟩ = ks[j] by simp [List.getD, hjk]]
          refine ⟨.inl hkey, ?_⟩
          have hst : stOf ks[j].data.toList = ⟨ks[j], 0⟩ := by unfold stOf; rw [if_pos hkey]; rfl
          have hk0 : (⟨ks[j], 0⟩ : St).k0 = false := by
            show (ks[j].size == 0) = false
            rw [beq_eq_false_iff_ne]
            intro h0
            have := (key_facts hkey).1
            exact this (List.eq_nil_of_length_eq_zero (by simpa using h0))
          have hlow := low_at ks hf.1 j hjk
          rw [hst, follow_tab hk0]
          show (if hit ks[j] ks = true then is[low ks[j] ks]? else none) = _
          rw [if_pos (by unfold hit; rw [hlow]; exact decide_eq_true (List.getElem?_eq_getElem hjk)), hlow, List.getElem?_eq_getElem hj]
      obtain ⟨hp1, hp2⟩ := hpart
      obtain ⟨ts, h1, h2, h3, h4⟩ := ih is[j] (by have := size_item (k := k) (b := b) (n := n) (t := t) (ks := ks) hm; omega) (hf.2.2.2.1 _ hm) (hcf.2 _ hm) (joinR r (partB k ks j)) (ps ++ [(partB k ks j).data.toList]) (joinR_jn r _ ps hps hr)
        (fun p hp => by
          rcases List.mem_append.1 hp with hp | hp
          · exact hps p hp
          · simp only [List.mem_cons, List.not_mem_nil, or_false] at hp; rw [hp]; exact hp1) q hq
      refine ⟨(partB k ks j).data.toList :: ts, by rw [h1]; simp, ?_, ?_, ?_⟩
      · intro p hp
        rcases List.mem_cons.1 hp with rfl | hp
        · exact hp1
        · exact h2 p hp
      · have := lev_item (v := .mk k b n t is ks) (x := is[j]) hm
        simp only [List.length_cons]
        omega
      · simp only [List.map_cons]
        unfold getV
        rw [hp2]
        exact h4
/-- What Check asks. -/
def V.okc (v : V) : Prop := v.cnt ≤ 1000 ∧ v.lev ≤ 8 ∧ v.good
theorem routes_found {v : V} (h : v.okc) : ∀ q ∈ V.rts v ⟨#[]⟩, ∃ l, stepsB q = some l ∧ (getV v l).isSome = true := by
  intro q hq
  obtain ⟨ts, h1, h2, h3, h4⟩ := rts_ok _ v (Nat.lt_succ_self _) h.2.2 h.1 ⟨#[]⟩ [] rfl (by simp) q hq
  exact ⟨ts.map stOf, stepsB_jn ts h2 (by have := h.2.1; omega) q (by simpa using h1), h4⟩
end Mh
