/- The plain law of mending: tables by their items; what is put and taken away, key by key. No program. · The plain law of mending: changes along keys, one after the other, and each key by itself. No program. · The plain law of mending: the changes between two values make the one of the other; how many they are, how deep, how large what lies between them is. No program. -/
import Derived.Test.YtekknckdeedjnaaGreatDoorFlPl
namespace Mh
open Go
set_option linter.unusedVariables false

def itemV (t : V) (k : ByteArray) : Option V := if hit k t.kys = true then t.its[low k t.kys]? else none
def tab (t : V) : Prop := t.good ∧ t.kd = 6
theorem tab.asc {t : V} (h : tab t) : Asc t.kys := (good_facts h.1).1
theorem tab.len {t : V} (h : tab t) : t.kys.length = t.its.length := (good_facts h.1).2.1 h.2
theorem item_iff {t : V} (hA : Asc t.kys) (k : ByteArray) (x : V) : itemV t k = some x ↔ ∃ i : Nat, t.kys[i]? = some k ∧ t.its[i]? = some x := by
  unfold itemV
  constructor
  · intro h
    split at h
    · rename_i hh
      exact ⟨_, of_decide_eq_true hh, h⟩
    · cases h
  · rintro ⟨i, h1, h2⟩
    obtain ⟨hi, he⟩ := List.getElem?_eq_some_iff.1 h1
    have hl := low_at t.kys hA i hi
    rw [he] at hl
    have hh : hit k t.kys = true := by unfold hit; rw [hl]; exact decide_eq_true h1
    rw [if_pos hh, hl, h2]
theorem item_some {t : V} (h : tab t) {k : ByteArray} (hk : k ∈ t.kys) : ∃ x, itemV t k = some x ∧ x ∈ t.its := by
  obtain ⟨i, hi, rfl⟩ := List.mem_iff_getElem.1 hk
  have hl := h.len
  exact ⟨t.its[i]'(by omega), (item_iff h.asc _ _).2 ⟨i, List.getElem?_eq_getElem hi, List.getElem?_eq_getElem (by omega)⟩, List.getElem_mem _⟩
theorem item_mem {t : V} (hA : Asc t.kys) {k : ByteArray} {x : V} (h : itemV t k = some x) : k ∈ t.kys ∧ x ∈ t.its := by
  obtain ⟨i, h1, h2⟩ := (item_iff hA k x).1 h
  exact ⟨List.mem_of_getElem? h1, List.mem_of_getElem? h2⟩
theorem item_none {t : V} (h : tab t) {k : ByteArray} (hk : k ∉ t.kys) : itemV t k = none := by
  cases hi : itemV t k with
  | none => rfl
  | some x => exact absurd (item_mem h.asc hi).1 hk
theorem tab.bare {t : V} (h : tab t) : t.bo = false ∧ t.nu = 0 ∧ t.tx = ⟨#[]⟩ := by
  obtain ⟨⟨k, b, n, tx, is, ks⟩⟩ : ∃ t' : V, True := ⟨t, trivial⟩
  obtain ⟨k, b, n, tx, is, ks⟩ := t
  obtain ⟨h1, h2⟩ := h
  simp only [V.good, V.good1, kd_mk] at h1 h2
  subst h2
  obtain ⟨⟨_, hu, _⟩, _⟩ := h1
  simp only [unusedV, Bool.or_eq_false_iff, Bool.and_eq_false_iff, Bool.not_eq_false', decide_eq_true_eq, decide_eq_false_iff_not] at hu
  obtain ⟨⟨⟨⟨⟨hb, hn⟩, ht⟩, _⟩, _⟩, _⟩ := hu
  refine ⟨?_, ?_, ?_⟩
  · show b = false
    rcases hb with h | h
    · exact h
    · omega
  · show n = 0
    rcases hn with h | h | h
    · omega
    · omega
    · omega
  · show tx = ⟨#[]⟩
    have h0 : tx.size = 0 := by
      rcases ht with h | h
      · omega
      · omega
    have : tx.data = #[] := by
      have : tx.data.size = 0 := h0
      exact Array.eq_empty_of_size_eq_zero this
    cases tx
    simp only at this
    subst this
    rfl
theorem tab.eq {t : V} (h : tab t) : t = .mk 6 false 0 ⟨#[]⟩ t.its t.kys := by
  obtain ⟨h1, h2, h3⟩ := h.bare
  have h4 := h.2
  obtain ⟨k, b, n, tx, is, ks⟩ := t
  simp only [V.bo, V.nu, V.tx, kd_mk] at h1 h2 h3 h4
  subst h1 h2 h3 h4
  rfl
/-- A table is right. -/
theorem tab_mk {is : List V} {ks : List ByteArray} (hl : ks.length = is.length) (hA : Asc ks) (hk : ∀ k ∈ ks, isKeyL k.data.toList = true) (hi : ∀ x ∈ is, x.good) : tab (.mk 6 false 0 ⟨#[]⟩ is ks) := by
  refine ⟨?_, rfl⟩
  have hg : V.goods is := by
    induction is generalizing ks with
    | nil => trivial
    | cons x xs ih =>
      refine ⟨hi x (by simp), ?_⟩
      cases ks with
      | nil => simp at hl
      | cons a ks => exact ih (by simpa using hl) (List.pairwise_cons.1 hA).2 (fun k h => hk k (by simp [h])) (fun y h => hi y (by simp [h]))
  simp only [V.good, V.good1]
  refine ⟨⟨by omega, ?_, by omega, Nat.zero_le _, rfl, fun i h => ⟨hk _ (List.getElem_mem _), fun h0 => ?_⟩⟩, hg⟩
  · simp [unusedV, size0, -ByteArray.size_eq_zero_iff, hl]
  · exact List.pairwise_iff_getElem.1 hA (i - 1) i (by omega) h (by omega)
theorem tab.keys {t : V} (h : tab t) : ∀ k ∈ t.kys, isKeyL k.data.toList = true := (good_facts h.1).2.2.2.2
theorem tab.items {t : V} (h : tab t) : ∀ x ∈ t.its, x.good := (good_facts h.1).2.2.2.1
theorem asc_put {ks : List ByteArray} (hA : Asc ks) (k : ByteArray) : Asc (ks.take (low k ks) ++ k :: ks.drop (putAt k ks)) := by
  obtain ⟨h1, h2⟩ := low_split k ks hA
  have hlo := low_le k ks
  unfold Asc
  rw [List.pairwise_append, List.pairwise_cons]
  have hd : ∀ x ∈ ks.drop (putAt k ks), kl k x = true := by
    intro x hx
    have hx2 : x ∈ ks.drop (low k ks) := by
      have : low k ks ≤ putAt k ks := by unfold putAt; omega
      obtain ⟨d, hd⟩ : ∃ d, putAt k ks = low k ks + d := ⟨putAt k ks - low k ks, by omega⟩
      rw [hd, ← List.drop_drop] at hx
      exact List.mem_of_mem_drop hx
    have h3 := h2 x hx2
    cases h4 : kl k x with
    | true => rfl
    | false =>
      have e := kl_total h3 h4
      subst e
      -- x = k stands at low, and is not behind putAt
      obtain ⟨i, hi, he⟩ := List.mem_iff_getElem.1 hx
      rw [List.getElem_drop] at he
      rw [List.length_drop] at hi
      have hla := low_at ks hA (putAt x ks + i) (by omega)
      rw [he] at hla
      have hh : hit x ks = true := by
        unfold hit
        rw [hla, List.getElem?_eq_getElem (by omega), he]
        exact decide_eq_true rfl
      unfold putAt at hla
      rw [if_pos hh] at hla
      omega
  refine ⟨hA.sublist (List.take_sublist _ _), ⟨hd, hA.sublist (List.drop_sublist _ _)⟩, ?_⟩
  intro x hx y hy
  rcases List.mem_cons.1 hy with rfl | hy
  · exact h1 x hx
  · exact kl_trans (h1 x hx) (hd y hy)
theorem mem_put {α : Type} {l : List α} {y : α} {L P : Nat} {x : α} (h : x ∈ l.take L ++ y :: l.drop P) : x = y ∨ x ∈ l := by
  rcases List.mem_append.1 h with h | h
  · exact .inr (List.mem_of_mem_take h)
  · rcases List.mem_cons.1 h with h | h
    · exact .inl h
    · exact .inr (List.mem_of_mem_drop h)
theorem tab.put {t : V} (h : tab t) {k : ByteArray} (hk : isKeyL k.data.toList = true) {y : V} (hy : y.good) : tab (putV t k y) := by
  have hl := h.len
  have hlo := low_le k t.kys
  unfold putV
  refine tab_mk ?_ (asc_put h.asc k) (fun x hx => ?_) (fun x hx => ?_)
  · simp only [List.length_append, List.length_take, List.length_cons, List.length_drop]; omega
  · rcases mem_put hx with rfl | hx
    · exact hk
    · exact h.keys x hx
  · rcases mem_put hx with rfl | hx
    · exact hy
    · exact h.items x hx
theorem put_kys (t : V) (k : ByteArray) (y : V) : (putV t k y).kys = t.kys.take (low k t.kys) ++ k :: t.kys.drop (putAt k t.kys) := rfl
theorem put_its (t : V) (k : ByteArray) (y : V) : (putV t k y).its = t.its.take (low k t.kys) ++ y :: t.its.drop (putAt k t.kys) := rfl
theorem item_put {t : V} (h : tab t) {k : ByteArray} (hk : isKeyL k.data.toList = true) {y : V} (hy : y.good) (q : ByteArray) : itemV (putV t k y) q = if q = k then some y else itemV t q := by
  have hT := h.put hk hy
  have hl := h.len
  have hlo := low_le k t.kys
  by_cases hq : q = k
  · subst hq
    rw [if_pos rfl]
    refine (item_iff hT.asc _ _).2 ⟨low q t.kys, ?_, ?_⟩
    · rw [put_kys, List.getElem?_append_right (by rw [List.length_take]; omega), List.length_take, Nat.min_eq_left hlo]; simp
    · rw [put_its, List.getElem?_append_right (by rw [List.length_take]; omega), List.length_take, Nat.min_eq_left (by omega)]; simp
  · rw [if_neg hq]
    cases hi : itemV t q with
    | some x =>
      obtain ⟨i, h1, h2⟩ := (item_iff h.asc q x).1 hi
      have hp := put_at k t.kys i q h1 hq
      refine (item_iff hT.asc _ _).2 ⟨if i < low k t.kys then i else low k t.kys + 1 + (i - putAt k t.kys), ?_, ?_⟩
      · rw [put_kys, put_get t.kys k _ _ i hlo (by unfold putAt; omega) hp]; exact h1
      · rw [put_its, put_get t.its y _ _ i (by omega) (by unfold putAt; omega) hp]; exact h2
    | none =>
      refine item_none hT fun hm => ?_
      rw [put_kys] at hm
      rcases mem_put hm with e | hm
      · exact hq e
      · obtain ⟨x, hx, _⟩ := item_some h hm
        rw [hi] at hx; cases hx
/-- A key taken away. -/
def remV (t : V) (k : ByteArray) : V := .mk 6 false 0 ⟨#[]⟩ (t.its.take (low k t.kys) ++ t.its.drop (low k t.kys + 1)) (t.kys.take (low k t.kys) ++ t.kys.drop (low k t.kys + 1))
theorem mem_rem {α : Type} {l : List α} {L P : Nat} {x : α} (h : x ∈ l.take L ++ l.drop P) : x ∈ l := by
  rcases List.mem_append.1 h with h | h
  · exact List.mem_of_mem_take h
  · exact List.mem_of_mem_drop h
theorem asc_rem {ks : List ByteArray} (hA : Asc ks) (i : Nat) : Asc (ks.take i ++ ks.drop (i + 1)) := by
  refine hA.sublist ?_
  conv => rhs; rw [← List.take_append_drop i ks]
  refine (List.Sublist.refl _).append ?_
  rw [show ks.drop (i + 1) = (ks.drop i).drop 1 by rw [List.drop_drop]]
  exact List.drop_sublist _ _
theorem tab.rem {t : V} (h : tab t) {k : ByteArray} (hk : k ∈ t.kys) : tab (remV t k) := by
  have hl := h.len
  unfold remV
  refine tab_mk ?_ (asc_rem h.asc _) (fun x hx => h.keys x (mem_rem hx)) (fun x hx => h.items x (mem_rem hx))
  simp only [List.length_append, List.length_take, List.length_drop]; omega
theorem low_mem {t : V} (h : tab t) {k : ByteArray} (hk : k ∈ t.kys) : ∃ hi : low k t.kys < t.kys.length, t.kys[low k t.kys] = k := by
  obtain ⟨i, hi, rfl⟩ := List.mem_iff_getElem.1 hk
  have := low_at t.kys h.asc i hi
  exact ⟨by omega, by simp [this]⟩
theorem rem_get {α : Type} (l : List α) (L i : Nat) (hL : L < l.length) (h : i ≠ L) : (l.take L ++ l.drop (L + 1))[if i < L then i else i - 1]? = l[i]? := by
  by_cases hi : i < L
  · rw [if_pos hi, List.getElem?_append_left (by rw [List.length_take]; omega), List.getElem?_take, if_pos hi]
  · rw [if_neg hi, List.getElem?_append_right (by rw [List.length_take]; omega), List.length_take, Nat.min_eq_left (by omega), List.getElem?_drop]
    congr 1; omega
theorem item_rem {t : V} (h : tab t) {k : ByteArray} (hk : k ∈ t.kys) (q : ByteArray) : itemV (remV t k) q = if q = k then none else itemV t q := by
  have hT := h.rem hk
  have hl := h.len
  obtain ⟨hlo, hat⟩ := low_mem h hk
  by_cases hq : q = k
  · subst hq
    rw [if_pos rfl]
    refine item_none hT fun hm => ?_
    have hm' : q ∈ t.kys.take (low q t.kys) ++ t.kys.drop (low q t.kys + 1) := hm
    obtain ⟨i, hi, he⟩ := List.mem_iff_getElem.1 hm'
    have hp := List.pairwise_iff_getElem.1 (asc_rem h.asc (low q t.kys))
    rcases List.mem_append.1 hm' with hx | hx
    · have := (low_split q t.kys h.asc).1 q hx
      rw [kl_irrefl] at this; cases this
    · obtain ⟨j, hj, he2⟩ := List.mem_iff_getElem.1 hx
      rw [List.getElem_drop] at he2
      rw [List.length_drop] at hj
      have := low_at t.kys h.asc (low q t.kys + 1 + j) (by omega)
      rw [he2] at this
      omega
  · rw [if_neg hq]
    cases hi : itemV t q with
    | some x =>
      obtain ⟨i, h1, h2⟩ := (item_iff h.asc q x).1 hi
      have hne : i ≠ low k t.kys := by
        intro e
        rw [e, List.getElem?_eq_getElem hlo, hat] at h1
        exact hq (Option.some.inj h1).symm
      refine (item_iff hT.asc _ _).2 ⟨if i < low k t.kys then i else i - 1, ?_, ?_⟩
      · exact (rem_get t.kys _ i hlo hne).trans h1
      · exact (rem_get t.its _ i (by omega) hne).trans h2
    | none =>
      refine item_none hT fun hm => ?_
      obtain ⟨x, hx, _⟩ := item_some h (mem_rem hm)
      rw [hi] at hx; cases hx
/-- Sorted lists of the same members are equal. -/
theorem asc_ext : ∀ (l m : List ByteArray), Asc l → Asc m → (∀ k, k ∈ l ↔ k ∈ m) → l = m := by
  intro l
  induction l with
  | nil =>
    intro m _ _ h
    cases m with
    | nil => rfl
    | cons b m => exact absurd ((h b).2 (by simp)) (by simp)
  | cons a l ih =>
    intro m hl hm h
    cases m with
    | nil => exact absurd ((h a).1 (by simp)) (by simp)
    | cons b m =>
      obtain ⟨hl1, hl2⟩ := List.pairwise_cons.1 hl
      obtain ⟨hm1, hm2⟩ := List.pairwise_cons.1 hm
      have hab : a = b := by
        rcases List.mem_cons.1 ((h a).1 (by simp)) with e | e
        · exact e
        · rcases List.mem_cons.1 ((h b).2 (by simp)) with e2 | e2
          · exact e2.symm
          · have h3 := kl_trans (hm1 a e) (hl1 b e2)
            rw [kl_irrefl] at h3; cases h3
      subst hab
      rw [ih m hl2 hm2 fun k => ?_]
      constructor
      · intro hk
        rcases List.mem_cons.1 ((h k).1 (by simp [hk])) with e | e
        · subst e
          have := hl1 k hk
          rw [kl_irrefl] at this; cases this
        · exact e
      · intro hk
        rcases List.mem_cons.1 ((h k).2 (by simp [hk])) with e | e
        · subst e
          have := hm1 k hk
          rw [kl_irrefl] at this; cases this
        · exact e
theorem tab_ext {a b : V} (ha : tab a) (hb : tab b) (h : ∀ k, itemV a k = itemV b k) : a = b := by
  have hk : a.kys = b.kys := by
    refine asc_ext _ _ ha.asc hb.asc fun k => ⟨fun hk => ?_, fun hk => ?_⟩
    · obtain ⟨x, hx, _⟩ := item_some ha hk
      rw [h] at hx
      exact (item_mem hb.asc hx).1
    · obtain ⟨x, hx, _⟩ := item_some hb hk
      rw [← h] at hx
      exact (item_mem ha.asc hx).1
  have hla := ha.len
  have hlb := hb.len
  have hi : a.its = b.its := by
    refine List.ext_getElem (by rw [← hla, ← hlb, hk]) fun i h1 h2 => ?_
    have e1 := (item_iff ha.asc (a.kys[i]'(by omega)) a.its[i]).2 ⟨i, List.getElem?_eq_getElem _, List.getElem?_eq_getElem h1⟩
    have e2 := (item_iff hb.asc (b.kys[i]'(by omega)) b.its[i]).2 ⟨i, List.getElem?_eq_getElem _, List.getElem?_eq_getElem h2⟩
    have e3 : a.kys[i]'(by omega) = b.kys[i]'(by omega) := by simp [hk]
    rw [h, e3, e2] at e1
    exact (Option.some.inj e1).symm
  rw [ha.eq, hb.eq, hk, hi]
/-- Putting where something stands: only the item changes. -/
theorem put_hit {t : V} (h : tab t) {k : ByteArray} (hk : k ∈ t.kys) (y : V) : putV t k y = .mk 6 false 0 ⟨#[]⟩ (t.its.set (low k t.kys) y) t.kys := by
  obtain ⟨hlo, hat⟩ := low_mem h hk
  have hl := h.len
  have hh : hit k t.kys = true := by unfold hit; rw [List.getElem?_eq_getElem hlo, hat]; exact decide_eq_true rfl
  unfold putV putAt
  rw [if_pos hh]
  congr 1
  · rw [List.set_eq_take_append_cons_drop, if_pos (by omega)]
  · conv => rhs; rw [← List.take_append_drop (low k t.kys) t.kys, List.drop_eq_getElem_cons hlo, hat]
end Mh
namespace Mh
open Go
set_option linter.unusedVariables false

/-- A change: where, and what is put (none: it is taken away). -/
structure Op where
  path : List ByteArray
  val : Option V
def Op.ok (o : Op) : Prop := (∀ k ∈ o.path, isKeyL k.data.toList = true) ∧ (∀ y, o.val = some y → y.good)
def app1 : V → List ByteArray → Option V → Option V
  | _, [], o => o
  | v, k :: p, o =>
    if v.kd = 6 then
      match itemV v k with
      | none => if p = [] then o.map (putV v k) else none
      | some x => if p = [] ∧ o = none then some (remV v k) else (app1 x p o).map (putV v k)
    else none
/-- What a change makes of an item (which may be none). -/
def comp1 (c : Option V) (p : List ByteArray) (o : Option V) : Option (Option V) :=
  match c with
  | none => if p = [] then o.map some else none
  | some x => if p = [] ∧ o = none then some none else (app1 x p o).map some
theorem app1_cons (v : V) (k : ByteArray) (p : List ByteArray) (o : Option V) (h6 : v.kd = 6) :
    app1 v (k :: p) o = (comp1 (itemV v k) p o).map fun c => match c with | none => remV v k | some y => putV v k y := by
  unfold app1 comp1
  rw [if_pos h6]
  cases itemV v k with
  | none =>
    simp only
    by_cases hp : p = []
    · rw [if_pos hp, if_pos hp]; cases o <;> rfl
    · rw [if_neg hp, if_neg hp]; rfl
  | some x =>
    simp only
    by_cases hp : p = [] ∧ o = none
    · rw [if_pos hp, if_pos hp]; rfl
    · rw [if_neg hp, if_neg hp]; cases app1 x p o <;> rfl
theorem app1_good : ∀ (p : List ByteArray) (v v' : V) (o : Option V), v.good → (∀ k ∈ p, isKeyL k.data.toList = true) → (∀ y, o = some y → y.good) → app1 v p o = some v' → v'.good := by
  intro p
  induction p with
  | nil => intro v v' o _ _ ho h; exact ho v' h
  | cons k p ih =>
    intro v v' o hv hk ho h
    by_cases h6 : v.kd = 6
    · have hT : tab v := ⟨hv, h6⟩
      rw [app1_cons v k p o h6] at h
      cases hi : itemV v k with
      | none =>
        rw [hi] at h
        unfold comp1 at h
        simp only at h
        split at h
        · cases o with
          | none => simp at h
          | some y => simp only [Option.map_some, Option.some.injEq] at h; subst h; exact (hT.put (hk k (by simp)) (ho y rfl)).1
        · simp at h
      | some x =>
        rw [hi] at h
        have hx := item_mem hT.asc hi
        unfold comp1 at h
        simp only at h
        split at h
        · simp only [Option.map_some, Option.some.injEq] at h; subst h; exact (hT.rem hx.1).1
        · cases ha : app1 x p o with
          | none => rw [ha] at h; simp at h
          | some y =>
            rw [ha] at h
            simp only [Option.map_some, Option.some.injEq] at h; subst h
            exact (hT.put (hk k (by simp)) (ih x y o (hT.items x hx.2) (fun q hq => hk q (by simp [hq])) ho ha)).1
    · unfold app1 at h; rw [if_neg h6] at h; cases h
theorem app1_step {v : V} (hT : tab v) {k : ByteArray} {p : List ByteArray} {o : Option V} (hk : ∀ q ∈ k :: p, isKeyL q.data.toList = true) (ho : ∀ y, o = some y → y.good) {c : Option V} (hc : comp1 (itemV v k) p o = some c) :
    ∃ v', app1 v (k :: p) o = some v' ∧ tab v' ∧ ∀ q, itemV v' q = if q = k then c else itemV v q := by
  rw [app1_cons v k p o hT.2, hc]
  have hkk := hk k (by simp)
  cases c with
  | none =>
    refine ⟨_, rfl, ?_⟩
    have hm : k ∈ v.kys := by
      cases hi : itemV v k with
      | none =>
        rw [hi] at hc
        unfold comp1 at hc
        simp only at hc
        split at hc
        · cases o <;> simp at hc
        · cases hc
      | some x => exact (item_mem hT.asc hi).1
    exact ⟨hT.rem hm, item_rem hT hm⟩
  | some y =>
    have hy : y.good := by
      cases hi : itemV v k with
      | none =>
        rw [hi] at hc
        unfold comp1 at hc
        simp only at hc
        split at hc
        · cases o with
          | none => simp at hc
          | some z => simp only [Option.map_some, Option.some.injEq] at hc; subst hc; exact ho z rfl
        · cases hc
      | some x =>
        rw [hi] at hc
        unfold comp1 at hc
        simp only at hc
        split at hc
        · simp at hc
        · cases ha : app1 x p o with
          | none => rw [ha] at hc; simp at hc
          | some z =>
            rw [ha] at hc
            simp only [Option.map_some, Option.some.injEq] at hc
            subst hc
            exact app1_good p x z o (hT.items x (item_mem hT.asc hi).2) (fun q hq => hk q (by simp [hq])) ho ha
    exact ⟨_, rfl, hT.put hkk hy, item_put hT hkk hy⟩
def appAll : V → List Op → Option V
  | v, [] => some v
  | v, o :: l => (app1 v o.path o.val).bind fun v' => appAll v' l
def compAll : Option V → List Op → Option (Option V)
  | c, [] => some c
  | c, o :: l => (comp1 c o.path o.val).bind fun c' => compAll c' l
theorem appAll_app : ∀ (l m : List Op) (v : V), appAll v (l ++ m) = (appAll v l).bind fun v' => appAll v' m := by
  intro l
  induction l with
  | nil => intro m v; rfl
  | cons o l ih =>
    intro m v
    simp only [List.cons_append, appAll]
    cases app1 v o.path o.val with
    | none => rfl
    | some v' => exact ih m v'
theorem compAll_app : ∀ (l m : List Op) (v : Option V), compAll v (l ++ m) = (compAll v l).bind fun v' => compAll v' m := by
  intro l
  induction l with
  | nil => intro m v; rfl
  | cons o l ih =>
    intro m v
    simp only [List.cons_append, compAll]
    cases comp1 v o.path o.val with
    | none => rfl
    | some v' => exact ih m v'
/-- The changes below a key. -/
def sel (k : ByteArray) (l : List Op) : List Op := l.filterMap fun o => match o.path with
  | [] => none
  | q :: p => if q = k then some ⟨p, o.val⟩ else none
theorem sel_cons (k q : ByteArray) (p : List ByteArray) (o : Option V) (l : List Op) : sel k (⟨q :: p, o⟩ :: l) = if q = k then ⟨p, o⟩ :: sel k l else sel k l := by
  unfold sel
  rw [List.filterMap_cons]
  simp only
  split
  · rename_i h
    split at h
    · cases h
    · rename_i hne; rw [if_neg hne]
  · rename_i h
    split at h
    · rename_i he; rw [if_pos he]; cases h; rfl
    · cases h
theorem sel_app (k : ByteArray) (l m : List Op) : sel k (l ++ m) = sel k l ++ sel k m := by unfold sel; rw [List.filterMap_append]
theorem fold_tab : ∀ (l : List Op) (v : V), tab v → (∀ o ∈ l, o.path ≠ [] ∧ o.ok) → (∀ k, ∃ c, compAll (itemV v k) (sel k l) = some c) →
    ∃ v', appAll v l = some v' ∧ tab v' ∧ ∀ k, compAll (itemV v k) (sel k l) = some (itemV v' k) := by
  intro l
  induction l with
  | nil => intro v hT _ _; exact ⟨v, rfl, hT, fun k => rfl⟩
  | cons o l ih =>
    intro v hT hl hc
    obtain ⟨path, val⟩ := o
    obtain ⟨hne, hok⟩ := hl ⟨path, val⟩ (by simp)
    cases path with
    | nil => exact absurd rfl hne
    | cons k p =>
      obtain ⟨c, h1⟩ := hc k
      rw [sel_cons, if_pos rfl] at h1
      simp only [compAll] at h1
      cases hcc : comp1 (itemV v k) p val with
      | none => rw [hcc] at h1; cases h1
      | some c1 =>
        rw [hcc] at h1
        simp only [Option.bind_some] at h1
        obtain ⟨v1, ha, hT1, hi1⟩ := app1_step hT hok.1 hok.2 hcc
        have key : ∀ q, compAll (itemV v q) (sel q (⟨k :: p, val⟩ :: l)) = compAll (itemV v1 q) (sel q l) := by
          intro q
          rw [sel_cons, hi1 q]
          by_cases hq : k = q
          · subst hq
            rw [if_pos rfl, if_pos rfl]
            simp only [compAll]
            rw [hcc]; rfl
          · rw [if_neg hq, if_neg (fun h => hq h.symm)]
        obtain ⟨v', h3, h4, h5⟩ := ih v1 hT1 (fun o ho => hl o (by simp [ho])) (fun q => by rw [← key q]; exact hc q)
        refine ⟨v', ?_, h4, fun q => by rw [key q]; exact h5 q⟩
        simp only [appAll]
        rw [ha]; exact h3
/-- Changes of an item that is there, none of which takes it away itself. -/
theorem comp_app : ∀ (l : List Op) (x : V), (∀ o ∈ l, ¬ (o.path = [] ∧ o.val = none)) → compAll (some x) l = (appAll x l).map some := by
  intro l
  induction l with
  | nil => intro x _; rfl
  | cons o l ih =>
    intro x h
    simp only [compAll, appAll]
    have h1 : comp1 (some x) o.path o.val = (app1 x o.path o.val).map some := if_neg (h o (by simp))
    rw [h1]
    cases app1 x o.path o.val with
    | none => rfl
    | some y => exact ih y (fun o ho => h o (by simp [ho]))

/-! What differs. -/
def pre (k : ByteArray) (l : List Op) : List Op := l.map fun o => ⟨k :: o.path, o.val⟩
def unionN (a b : V) : Nat → V
  | 0 => a
  | j + 1 => putV (unionN a b j) (b.kys.getD j ⟨#[]⟩) (b.its.getD j V.nil)
def keysU (a b : V) : List ByteArray := (unionN a b b.kys.length).kys
mutual
def diffP : Nat → V → V → List Op × List Op
  | 0, _, _ => ([], [])
  | N + 1, a, b =>
    if V.cmp a b = 0 then ([], [])
    else if a.kd = 6 ∧ b.kd = 6 then ((keysU a b).flatMap fun k => pre k (keyP N a b k).1, (keysU a b).flatMap fun k => pre k (keyP N a b k).2)
    else ([], [⟨[], some b⟩])
def keyP : Nat → V → V → ByteArray → List Op × List Op
  | N, a, b, k => match itemV b k with
    | none => ([⟨[], none⟩], [])
    | some y => match itemV a k with
      | none => ([], [⟨[], some y⟩])
      | some x => diffP N x y
end
theorem union_tab {a b : V} (ha : tab a) (hb : tab b) : ∀ j, j ≤ b.kys.length → tab (unionN a b j) ∧ ∀ k, k ∈ (unionN a b j).kys ↔ k ∈ a.kys ∨ k ∈ b.kys.take j := by
  intro j
  induction j with
  | zero => intro _; exact ⟨ha, fun k => by simp [unionN]⟩
  | succ j ih =>
    intro hj
    obtain ⟨h1, h2⟩ := ih (by omega)
    have hl := hb.len
    have e1 : b.kys.getD j ⟨#[]⟩ = b.kys[j]'(by omega) := by simp [List.getD, show j < b.kys.length by omega]
    have e2 : b.its.getD j V.nil = b.its[j]'(by omega) := by simp [List.getD, show j < b.its.length by omega]
    have hkk : isKeyL (b.kys[j]'(by omega)).data.toList = true := hb.keys _ (List.getElem_mem _)
    have hyy : (b.its[j]'(by omega)).good := hb.items _ (List.getElem_mem _)
    have hT := h1.put hkk hyy
    unfold unionN
    rw [e1, e2]
    refine ⟨hT, fun k => ?_⟩
    have hi := item_put h1 hkk hyy k
    rw [List.take_succ_eq_append_getElem (by omega : j < b.kys.length)]
    constructor
    · intro hk
      rw [put_kys] at hk
      rcases mem_put hk with e | hk
      · exact .inr (List.mem_append.2 (.inr (List.mem_singleton.2 e)))
      · rcases (h2 k).1 hk with h | h
        · exact .inl h
        · exact .inr (List.mem_append.2 (.inl h))
    · intro hk
      by_cases hq : k = b.kys[j]'(by omega)
      · rw [if_pos hq] at hi; exact (item_mem hT.asc hi).1
      · rw [if_neg hq] at hi
        have hk' : k ∈ (unionN a b j).kys := by
          refine (h2 k).2 ?_
          rcases hk with h | h
          · exact .inl h
          · rcases List.mem_append.1 h with h | h
            · exact .inr h
            · simp only [List.mem_cons, List.not_mem_nil, or_false] at h; exact absurd h hq
        obtain ⟨x, hx, _⟩ := item_some h1 hk'
        rw [hx] at hi
        exact (item_mem hT.asc hi).1
theorem keysU_mem {a b : V} (ha : tab a) (hb : tab b) (k : ByteArray) : k ∈ keysU a b ↔ k ∈ a.kys ∨ k ∈ b.kys := by
  have := (union_tab ha hb _ (Nat.le_refl _)).2 k
  rwa [List.take_length] at this
theorem keysU_asc {a b : V} (ha : tab a) (hb : tab b) : Asc (keysU a b) := (union_tab ha hb _ (Nat.le_refl _)).1.asc
theorem asc_nodup {l : List ByteArray} (h : Asc l) : l.Nodup := h.imp fun hab e => by subst e; rw [kl_irrefl] at hab; cases hab
theorem sel_pre (k q : ByteArray) (l : List Op) : sel k (pre q l) = if q = k then l else [] := by
  induction l with
  | nil => simp [pre, sel]
  | cons o l ih =>
    have : pre q (o :: l) = ⟨q :: o.path, o.val⟩ :: pre q l := rfl
    rw [this, sel_cons, ih]
    split <;> rfl
theorem sel_flat (k : ByteArray) (f : ByteArray → List Op) : ∀ (l : List ByteArray), l.Nodup → (k ∈ l → sel k (l.flatMap fun q => pre q (f q)) = f k) ∧ (k ∉ l → sel k (l.flatMap fun q => pre q (f q)) = []) := by
  intro l
  induction l with
  | nil => intro _; exact ⟨fun h => by simp at h, fun _ => rfl⟩
  | cons q l ih =>
    intro hn
    obtain ⟨h1, h2⟩ := List.nodup_cons.1 hn
    obtain ⟨i1, i2⟩ := ih h2
    rw [List.flatMap_cons, sel_app, sel_pre]
    by_cases hq : q = k
    · subst hq
      rw [if_pos rfl, i2 h1]
      exact ⟨fun _ => List.append_nil _, fun h => absurd (by simp) h⟩
    · rw [if_neg hq]
      refine ⟨fun h => ?_, fun h => ?_⟩
      · rcases List.mem_cons.1 h with e | e
        · exact absurd e.symm hq
        · rw [i1 e]; rfl
      · rw [i2 (fun e => h (by simp [e]))]; rfl
theorem pre_app (k : ByteArray) (l m : List Op) : pre k (l ++ m) = pre k l ++ pre k m := List.map_append
theorem pre_mem {k : ByteArray} {l : List Op} {o : Op} (h : o ∈ pre k l) : ∃ o' ∈ l, o = ⟨k :: o'.path, o'.val⟩ := by
  obtain ⟨o', h1, h2⟩ := List.mem_map.1 h
  exact ⟨o', h1, h2.symm⟩
/-- Only what is gone takes away; where both are tables no change is of the whole; what stands where. -/
theorem diff_shape : ∀ (N : Nat) (a b : V), a.good → b.good →
    (∀ o ∈ (diffP N a b).1, o.path ≠ [] ∧ o.val = none ∧ o.ok) ∧ (∀ o ∈ (diffP N a b).2, o.val ≠ none ∧ o.ok) ∧ (tab a → tab b → ∀ o ∈ (diffP N a b).2, o.path ≠ []) := by
  intro N
  induction N with
  | zero => intro a b _ _; simp [diffP]
  | succ N ih =>
    intro a b ha hb
    unfold diffP
    by_cases h0 : V.cmp a b = 0
    · rw [if_pos h0]; exact ⟨fun o ho => by simp at ho, fun o ho => by simp at ho, fun _ _ o ho => by simp at ho⟩
    rw [if_neg h0]
    by_cases h6 : a.kd = 6 ∧ b.kd = 6
    · rw [if_pos h6]
      have hA : tab a := ⟨ha, h6.1⟩
      have hB : tab b := ⟨hb, h6.2⟩
      have key : ∀ k ∈ keysU a b, isKeyL k.data.toList = true ∧ (∀ o ∈ (keyP N a b k).1, o.val = none ∧ o.ok) ∧ (∀ o ∈ (keyP N a b k).2, o.val ≠ none ∧ o.ok) := by
        intro k hk
        have hkk : isKeyL k.data.toList = true := by
          rcases (keysU_mem hA hB k).1 hk with h | h
          · exact hA.keys k h
          · exact hB.keys k h
        refine ⟨hkk, ?_⟩
        unfold keyP
        cases hib : itemV b k with
        | none =>
          refine ⟨fun o ho => ?_, fun o ho => by simp at ho⟩
          simp only [List.mem_cons, List.not_mem_nil, or_false] at ho
          subst ho
          exact ⟨rfl, fun k hk => by simp at hk, fun y hy => by cases hy⟩
        | some y =>
          have hy := hB.items y (item_mem hB.asc hib).2
          cases hia : itemV a k with
          | none =>
            refine ⟨fun o ho => by simp at ho, fun o ho => ?_⟩
            simp only [List.mem_cons, List.not_mem_nil, or_false] at ho
            subst ho
            exact ⟨by simp, fun k hk => by simp at hk, fun z hz => by cases hz; exact hy⟩
          | some x =>
            have hx := hA.items x (item_mem hA.asc hia).2
            obtain ⟨h1, h2, _⟩ := ih x y hx hy
            exact ⟨fun o ho => ⟨(h1 o ho).2.1, (h1 o ho).2.2⟩, h2⟩
      have lift : ∀ k, isKeyL k.data.toList = true → ∀ o' : Op, o'.ok → (Op.mk (k :: o'.path) o'.val).ok := fun k hk o' ho => ⟨fun q hq => by rcases List.mem_cons.1 hq with e | e; exact e ▸ hk; exact ho.1 q e, ho.2⟩
      refine ⟨fun o ho => ?_, fun o ho => ?_, fun _ _ o ho => ?_⟩
      · obtain ⟨k, hk, ho⟩ := List.mem_flatMap.1 ho
        obtain ⟨o', h1, rfl⟩ := pre_mem ho
        obtain ⟨k1, k2, _⟩ := key k hk
        exact ⟨by simp, (k2 o' h1).1, lift k k1 o' (k2 o' h1).2⟩
      · obtain ⟨k, hk, ho⟩ := List.mem_flatMap.1 ho
        obtain ⟨o', h1, rfl⟩ := pre_mem ho
        obtain ⟨k1, _, k3⟩ := key k hk
        exact ⟨(k3 o' h1).1, lift k k1 o' (k3 o' h1).2⟩
      · obtain ⟨k, hk, ho⟩ := List.mem_flatMap.1 ho
        obtain ⟨o', h1, rfl⟩ := pre_mem ho
        simp
    · rw [if_neg h6]
      refine ⟨fun o ho => by simp at ho, fun o ho => ?_, fun hA hB => absurd ⟨hA.2, hB.2⟩ h6⟩
      simp only [List.mem_cons, List.not_mem_nil, or_false] at ho
      subst ho
      exact ⟨by simp, fun k hk => by simp at hk, fun y hy => by cases hy; exact hb⟩
end Mh
namespace Mh
open Go
set_option linter.unusedVariables false

theorem lexL_inj {α : Type} {c : α → α → Int} : ∀ l k : List α, (∀ x ∈ l, ∀ y, c x y = 0 → x = y) → lexL c l k = 0 → l = k := by
  intro l
  induction l with
  | nil => intro k _ h; cases k with
    | nil => rfl
    | cons b k => simp [lexL] at h
  | cons a l ih =>
    intro k hx h
    cases k with
    | nil => simp [lexL] at h
    | cons b k =>
      simp only [lexL] at h
      obtain ⟨h1, h2⟩ := (lex_zero _ _).1 h
      rw [hx a (by simp) b h1, ih k (fun x hm => hx x (by simp [hm])) h2]
theorem sgn_zero {a b : Int} (h : sgn a b = 0) : a = b := by rcases sgn_cases a b with ⟨_, e⟩ | ⟨_, e⟩ | ⟨e, _⟩ <;> omega
theorem scmp_zero {s t : ByteArray} (h : scmp s t = 0) : s = t := by
  unfold scmp at h
  rw [cb_lexL] at h
  have := lexL_inj _ _ (fun x _ y hxy => UInt8.toNat_inj.1 (by have := sgn_zero hxy; omega)) h
  cases s; cases t
  simpa [Array.toList_inj] using this
theorem cmp_inj : ∀ (N : Nat) (a : V), sizeOf a < N → ∀ b, V.cmp a b = 0 → a = b := by
  intro N
  induction N with
  | zero => intro a h; omega
  | succ N ih =>
    rintro ⟨k, b, n, t, is, ks⟩ h ⟨k', b', n', t', is', ks'⟩ h0
    simp only [V.cmp, cmps_lexL, kcmp_lexL] at h0
    obtain ⟨h1, h0⟩ := (lex_zero _ _).1 h0
    obtain ⟨h2, h0⟩ := (lex_zero _ _).1 h0
    obtain ⟨h3, h0⟩ := (lex_zero _ _).1 h0
    obtain ⟨h4, h0⟩ := (lex_zero _ _).1 h0
    obtain ⟨h5, h6⟩ := (lex_zero _ _).1 h0
    have e1 := sgn_zero h1
    have e2 : b = b' := by have := sgn_zero h2; cases b <;> cases b' <;> simp_all [bitI]
    have e3 := sgn_zero h3
    have e4 := scmp_zero h4
    have e5 := lexL_inj _ _ (fun x _ y hxy => scmp_zero hxy) h5
    have e6 := lexL_inj _ _ (fun x hx y hxy => ih x (by have := size_item (k := k) (b := b) (n := n) (t := t) (ks := ks) hx; omega) y hxy) h6
    rw [e1, e2, e3, e4, e5, e6]
theorem cmp_eq {a b : V} (h : V.cmp a b = 0) : a = b := cmp_inj _ a (Nat.lt_succ_self _) b h
theorem item_size {a x : V} {k : ByteArray} (hA : Asc a.kys) (h : itemV a k = some x) : sizeOf x < sizeOf a := by
  have := (item_mem hA h).2
  obtain ⟨kd, b, n, t, is, ks⟩ := a
  exact size_item this
/-- What changes do to each key. -/
theorem diff_key (N : Nat) {a b : V} (ha : tab a) (hb : tab b) (IH : ∀ x y, itemV a x = some y → ∀ z, itemV b x = some z → appAll y ((diffP N y z).1 ++ (diffP N y z).2) = some z) (k : ByteArray) :
    compAll (itemV a k) (sel k (((keysU a b).flatMap fun k => pre k (keyP N a b k).1) ++ (keysU a b).flatMap fun k => pre k (keyP N a b k).2)) = some (itemV b k) := by
  have hn := asc_nodup (keysU_asc ha hb)
  rw [sel_app]
  obtain ⟨s1, s2⟩ := sel_flat k (fun k => (keyP N a b k).1) _ hn
  obtain ⟨t1, t2⟩ := sel_flat k (fun k => (keyP N a b k).2) _ hn
  by_cases hk : k ∈ keysU a b
  · rw [s1 hk, t1 hk]
    unfold keyP
    cases hib : itemV b k with
    | none =>
      have hka : k ∈ a.kys := by
        rcases (keysU_mem ha hb k).1 hk with h | h
        · exact h
        · obtain ⟨x, hx, _⟩ := item_some hb h
          rw [hib] at hx; cases hx
      obtain ⟨x, hx, _⟩ := item_some ha hka
      rw [hx]
      rfl
    | some y =>
      cases hia : itemV a k with
      | none => rfl
      | some x =>
        have hx := ha.items x (item_mem ha.asc hia).2
        have hy := hb.items y (item_mem hb.asc hib).2
        obtain ⟨h1, h2, _⟩ := diff_shape N x y hx hy
        simp only
        rw [comp_app _ x fun o ho => ?_, IH k x hia y hib]
        · rfl
        · rcases List.mem_append.1 ho with h | h
          · exact fun e => (h1 o h).1 e.1
          · exact fun e => (h2 o h).1 e.2
  · rw [s2 hk, t2 hk]
    have h1 : k ∉ a.kys := fun h => hk ((keysU_mem ha hb k).2 (.inl h))
    have h2 : k ∉ b.kys := fun h => hk ((keysU_mem ha hb k).2 (.inr h))
    rw [item_none ha h1, item_none hb h2]
    rfl
theorem diff_ops {N : Nat} {a b : V} (ha : a.good) (hb : b.good) : ∀ o ∈ (diffP N a b).1 ++ (diffP N a b).2, o.ok := by
  obtain ⟨h1, h2, _⟩ := diff_shape N a b ha hb
  intro o ho
  rcases List.mem_append.1 ho with h | h
  · exact (h1 o h).2.2
  · exact (h2 o h).2
/-- The changes make the one value of the other one. -/
theorem diff_apply : ∀ (N : Nat) (a b : V), sizeOf a < N → a.good → b.good → appAll a ((diffP N a b).1 ++ (diffP N a b).2) = some b := by
  intro N
  induction N with
  | zero => intro a b h; omega
  | succ N ih =>
    intro a b hs ha hb
    have hshape := diff_shape (N + 1) a b ha hb
    unfold diffP at hshape ⊢
    by_cases h0 : V.cmp a b = 0
    · rw [if_pos h0, cmp_eq h0]; rfl
    rw [if_neg h0] at hshape ⊢
    by_cases h6 : a.kd = 6 ∧ b.kd = 6
    · rw [if_pos h6] at hshape ⊢
      have hA : tab a := ⟨ha, h6.1⟩
      have hB : tab b := ⟨hb, h6.2⟩
      have hk := diff_key N hA hB fun k x hx y hy => ih x y (by have := item_size hA.asc hx; omega) (hA.items x (item_mem hA.asc hx).2) (hB.items y (item_mem hB.asc hy).2)
      obtain ⟨v', h1, h2, h3⟩ := fold_tab _ a hA (fun o ho => by
        rcases List.mem_append.1 ho with h | h
        · exact ⟨(hshape.1 o h).1, (hshape.1 o h).2.2⟩
        · exact ⟨hshape.2.2 hA hB o h, (hshape.2.1 o h).2⟩) (fun k => ⟨_, hk k⟩)
      rw [h1]
      congr 1
      refine tab_ext h2 hB fun k => ?_
      have := h3 k
      rw [hk k] at this
      exact (Option.some.inj this).symm
    · rw [if_neg h6]; rfl

/-! How many, how deep, how large. -/
def wt (t : V) (k : ByteArray) : Nat := match itemV t k with
  | none => 0
  | some x => x.nodes
def Op.w (o : Op) : Nat := match o.val with
  | none => 1
  | some y => y.nodes
def wsum (l : List Op) : Nat := (l.map Op.w).sum
theorem wsum_app (l m : List Op) : wsum (l ++ m) = wsum l + wsum m := by unfold wsum; rw [List.map_append, List.sum_append]
theorem wsum_pre (k : ByteArray) (l : List Op) : wsum (pre k l) = wsum l := by
  unfold wsum pre
  rw [List.map_map]
  rfl
theorem op_w (o : Op) : 1 ≤ o.w := by
  unfold Op.w
  split
  · exact Nat.le_refl _
  · exact nodes_pos _
theorem wsum_len : ∀ l : List Op, l.length ≤ wsum l := by
  intro l
  induction l with
  | nil => exact Nat.zero_le _
  | cons o l ih =>
    have h1 := op_w o
    have : wsum (o :: l) = o.w + wsum l := by unfold wsum; rw [List.map_cons, List.sum_cons]
    rw [this, List.length_cons]; omega
theorem asc_sublist : ∀ (m l : List ByteArray), Asc l → Asc m → (∀ x ∈ l, x ∈ m) → l.Sublist m := by
  intro m
  induction m with
  | nil =>
    intro l _ _ h
    cases l with
    | nil => exact List.Sublist.refl _
    | cons a l => exact absurd (h a (by simp)) (by simp)
  | cons b m ih =>
    intro l hl hm h
    cases l with
    | nil => exact List.nil_sublist _
    | cons a l =>
      obtain ⟨hl1, hl2⟩ := List.pairwise_cons.1 hl
      obtain ⟨hm1, hm2⟩ := List.pairwise_cons.1 hm
      by_cases e : a = b
      · subst e
        refine (ih l hl2 hm2 fun x hx => ?_).cons_cons _
        rcases List.mem_cons.1 (h x (by simp [hx])) with e | e
        · subst e
          have := hl1 x hx
          rw [kl_irrefl] at this; cases this
        · exact e
      · refine (ih (a :: l) hl hm2 fun x hx => ?_).cons _
        have hba : kl b a = true := by
          rcases List.mem_cons.1 (h a (by simp)) with e2 | e2
          · exact absurd e2 e
          · exact hm1 a e2
        have hbx : kl b x = true := by
          rcases List.mem_cons.1 hx with e2 | e2
          · subst e2; exact hba
          · exact kl_trans hba (hl1 x e2)
        rcases List.mem_cons.1 (h x hx) with e2 | e2
        · subst e2; rw [kl_irrefl] at hbx; cases hbx
        · exact e2
theorem sum_filter (f : ByteArray → Nat) (p : ByteArray → Bool) : ∀ l : List ByteArray, (∀ k ∈ l, p k = false → f k = 0) → (l.map f).sum = ((l.filter p).map f).sum := by
  intro l
  induction l with
  | nil => intro _; rfl
  | cons a l ih =>
    intro h
    have hi := ih fun k hk => h k (by simp [hk])
    cases hp : p a with
    | true => rw [List.filter_cons_of_pos hp, List.map_cons, List.sum_cons, List.map_cons, List.sum_cons, hi]
    | false => rw [List.filter_cons_of_neg (by rw [hp]; simp), List.map_cons, List.sum_cons, hi, h a (by simp) hp]; omega
theorem sum_sublist {l m : List Nat} (h : l.Sublist m) : l.sum ≤ m.sum := by
  induction h with
  | slnil => exact Nat.le_refl _
  | cons a _ ih => rw [List.sum_cons]; omega
  | cons_cons a _ ih => rw [List.sum_cons, List.sum_cons]; omega
theorem nodess_map : ∀ is : List V, V.nodess is = (is.map V.nodes).sum := by
  intro is
  induction is with
  | nil => rfl
  | cons x xs ih => simp only [V.nodess, List.map_cons, List.sum_cons, ih]
theorem wt_keys {t : V} (h : tab t) : (t.kys.map (wt t)).sum = V.nodess t.its := by
  rw [nodess_map]
  congr 1
  have hl := h.len
  refine List.ext_getElem (by simp [hl]) fun i h1 h2 => ?_
  rw [List.getElem_map, List.getElem_map]
  simp only [List.length_map] at h1 h2
  unfold wt
  rw [(item_iff h.asc (t.kys[i]'h1) (t.its[i]'h2)).2 ⟨i, List.getElem?_eq_getElem h1, List.getElem?_eq_getElem h2⟩]
theorem wt_sum {t : V} (h : tab t) (U : List ByteArray) (hU : Asc U) : (U.map (wt t)).sum ≤ V.nodess t.its := by
  rw [sum_filter (wt t) (fun k => (itemV t k).isSome) U fun k _ hk => ?_, ← wt_keys h]
  · refine sum_sublist (List.Sublist.map _ (asc_sublist _ _ (hU.sublist List.filter_sublist) h.asc fun x hx => ?_))
    obtain ⟨_, h2⟩ := List.mem_filter.1 hx
    obtain ⟨y, hy⟩ := Option.isSome_iff_exists.1 h2
    exact (item_mem h.asc hy).1
  · unfold wt
    cases hi : itemV t k with
    | none => rfl
    | some x => rw [hi] at hk; cases hk
theorem wsum_flat (f : ByteArray → List Op) (g : ByteArray → Nat) : ∀ U : List ByteArray, (∀ k ∈ U, wsum (f k) ≤ g k) → wsum (U.flatMap fun k => pre k (f k)) ≤ (U.map g).sum := by
  intro U
  induction U with
  | nil => intro _; exact Nat.le_refl _
  | cons a U ih =>
    intro h
    rw [List.flatMap_cons, wsum_app, wsum_pre, List.map_cons, List.sum_cons]
    have h1 := h a (by simp)
    have h2 := ih fun k hk => h k (by simp [hk])
    omega
theorem diff_wsum : ∀ (N : Nat) (a b : V), a.good → b.good → wsum (diffP N a b).1 ≤ a.nodes ∧ wsum (diffP N a b).2 ≤ b.nodes := by
  intro N
  induction N with
  | zero => intro a b _ _; simp [diffP, wsum]
  | succ N ih =>
    intro a b ha hb
    unfold diffP
    by_cases h0 : V.cmp a b = 0
    · rw [if_pos h0]; exact ⟨Nat.zero_le _, Nat.zero_le _⟩
    rw [if_neg h0]
    by_cases h6 : a.kd = 6 ∧ b.kd = 6
    · rw [if_pos h6]
      have hA : tab a := ⟨ha, h6.1⟩
      have hB : tab b := ⟨hb, h6.2⟩
      have key : ∀ k ∈ keysU a b, wsum (keyP N a b k).1 ≤ wt a k ∧ wsum (keyP N a b k).2 ≤ wt b k := by
        intro k hk
        unfold keyP wt
        cases hib : itemV b k with
        | none =>
          have hka : k ∈ a.kys := by
            rcases (keysU_mem hA hB k).1 hk with h | h
            · exact h
            · obtain ⟨x, hx, _⟩ := item_some hB h
              rw [hib] at hx; cases hx
          obtain ⟨x, hx, _⟩ := item_some hA hka
          rw [hx]
          exact ⟨nodes_pos x, Nat.zero_le _⟩
        | some y =>
          cases hia : itemV a k with
          | none => exact ⟨Nat.zero_le _, Nat.le_refl _⟩
          | some x => exact ih x y (hA.items x (item_mem hA.asc hia).2) (hB.items y (item_mem hB.asc hib).2)
      have hU := keysU_asc hA hB
      have h1 := wsum_flat (fun k => (keyP N a b k).1) (wt a) _ fun k hk => (key k hk).1
      have h2 := wsum_flat (fun k => (keyP N a b k).2) (wt b) _ fun k hk => (key k hk).2
      have h3 := wt_sum hA _ hU
      have h4 := wt_sum hB _ hU
      have h5 := nodes_its a
      have h7 := nodes_its b
      exact ⟨by show wsum ((keysU a b).flatMap fun k => pre k (keyP N a b k).1) ≤ _; omega, by show wsum ((keysU a b).flatMap fun k => pre k (keyP N a b k).2) ≤ _; omega⟩
    · rw [if_neg h6]; exact ⟨Nat.zero_le _, Nat.le_refl _⟩
theorem lev_pos (a : V) : 1 ≤ a.lev := by cases a; simp only [V.lev]; omega
theorem diff_depth : ∀ (N : Nat) (a b : V), a.good → b.good → ∀ o ∈ (diffP N a b).1 ++ (diffP N a b).2, o.path.length ≤ a.lev := by
  intro N
  induction N with
  | zero => intro a b _ _ o ho; simp [diffP] at ho
  | succ N ih =>
    intro a b ha hb o ho
    unfold diffP at ho
    by_cases h0 : V.cmp a b = 0
    · rw [if_pos h0] at ho; simp at ho
    rw [if_neg h0] at ho
    by_cases h6 : a.kd = 6 ∧ b.kd = 6
    · rw [if_pos h6] at ho
      have hA : tab a := ⟨ha, h6.1⟩
      have hB : tab b := ⟨hb, h6.2⟩
      have key : ∀ k, ∀ o' ∈ (keyP N a b k).1 ++ (keyP N a b k).2, o'.path.length + 1 ≤ a.lev := by
        intro k o' ho'
        have hp := lev_pos a
        unfold keyP at ho'
        cases hib : itemV b k with
        | none =>
          rw [hib] at ho'
          simp only [List.append_nil, List.mem_cons, List.not_mem_nil, or_false] at ho'
          subst ho'; exact hp
        | some y =>
          rw [hib] at ho'
          cases hia : itemV a k with
          | none =>
            rw [hia] at ho'
            simp only [List.nil_append, List.mem_cons, List.not_mem_nil, or_false] at ho'
            subst ho'; exact hp
          | some x =>
            rw [hia] at ho'
            have hx := (item_mem hA.asc hia).2
            have h1 := ih x y (hA.items x hx) (hB.items y (item_mem hB.asc hib).2) o' ho'
            have h2 := lev_item hx
            omega
      rcases List.mem_append.1 ho with h | h
      · obtain ⟨k, _, h⟩ := List.mem_flatMap.1 h
        obtain ⟨o', h1, rfl⟩ := pre_mem h
        exact key k o' (by simp [h1])
      · obtain ⟨k, _, h⟩ := List.mem_flatMap.1 h
        obtain ⟨o', h1, rfl⟩ := pre_mem h
        exact key k o' (by simp [h1])
    · rw [if_neg h6] at ho
      simp only [List.nil_append, List.mem_cons, List.not_mem_nil, or_false] at ho
      subst ho
      exact Nat.zero_le _
theorem nodess_at {is : List V} {i : Nat} (h : i < is.length) : V.nodess (is.take i) + (is[i].nodes + V.nodess (is.drop (i + 1))) = V.nodess is := by
  conv => rhs; rw [← List.take_append_drop i is, List.drop_eq_getElem_cons h]
  rw [nodess_app]
  simp only [V.nodess]
theorem put_nodes {t : V} (h : tab t) (k : ByteArray) (y : V) : (putV t k y).nodes + wt t k = t.nodes + y.nodes := by
  have hl := h.len
  have e1 := nodes_its t
  have e2 := nodes_its (putV t k y)
  rw [put_its, nodess_app] at e2
  simp only [V.nodess] at e2
  by_cases hk : k ∈ t.kys
  · obtain ⟨hlo, hat⟩ := low_mem h hk
    have hh : hit k t.kys = true := by unfold hit; rw [List.getElem?_eq_getElem hlo, hat]; exact decide_eq_true rfl
    have hw : wt t k = (t.its[low k t.kys]'(by omega)).nodes := by
      unfold wt itemV
      rw [if_pos hh, List.getElem?_eq_getElem (by omega)]
    have hn := nodess_at (is := t.its) (i := low k t.kys) (by omega)
    unfold putAt at e2
    rw [if_pos hh] at e2
    omega
  · have hh : hit k t.kys = false := by
      unfold hit
      refine decide_eq_false fun e => hk (List.mem_of_getElem? e)
    have hw : wt t k = 0 := by unfold wt; rw [item_none h hk]
    have hn : V.nodess (t.its.take (low k t.kys)) + V.nodess (t.its.drop (low k t.kys)) = V.nodess t.its := by rw [← nodess_app, List.take_append_drop]
    unfold putAt at e2
    rw [if_neg (by rw [hh]; simp)] at e2
    simp only [Nat.add_zero] at e2
    omega
theorem rem_nodes {t : V} (k : ByteArray) (h6 : t.kd = 6) : (remV t k).nodes ≤ t.nodes := by
  have e1 := nodes_its t
  have e2 := nodes_its (remV t k)
  have e3 : (remV t k).its = t.its.take (low k t.kys) ++ t.its.drop (low k t.kys + 1) := rfl
  rw [e3, nodess_app] at e2
  have := nodess_cut t.its (low k t.kys) (low k t.kys + 1) (by omega)
  omega
theorem app1_nodes : ∀ (p : List ByteArray) (v v' : V) (o : Option V), v.good → app1 v p o = some v' → v'.nodes ≤ v.nodes + (match o with | none => 0 | some y => y.nodes) := by
  intro p
  induction p with
  | nil => intro v v' o _ h; unfold app1 at h; subst h; exact Nat.le_add_left _ _
  | cons k p ih =>
    intro v v' o hv h
    by_cases h6 : v.kd = 6
    · have hT : tab v := ⟨hv, h6⟩
      unfold app1 at h
      rw [if_pos h6] at h
      cases hi : itemV v k with
      | none =>
        rw [hi] at h
        simp only at h
        split at h
        · cases o with
          | none => simp at h
          | some y =>
            simp only [Option.map_some, Option.some.injEq] at h; subst h
            have := put_nodes hT k y
            show _ ≤ v.nodes + y.nodes
            omega
        · cases h
      | some x =>
        rw [hi] at h
        simp only at h
        split at h
        · simp only [Option.some.injEq] at h; subst h
          have := rem_nodes (t := v) k h6
          omega
        · cases ha : app1 x p o with
          | none => rw [ha] at h; simp at h
          | some y =>
            rw [ha] at h
            simp only [Option.map_some, Option.some.injEq] at h; subst h
            have h1 := ih x y o (hT.items x (item_mem hT.asc hi).2) ha
            have h2 := put_nodes hT k y
            have h3 : wt v k = x.nodes := by unfold wt; rw [hi]
            omega
    · unfold app1 at h; rw [if_neg h6] at h; cases h
/-- A key as a step. -/
def kst (k : ByteArray) : St := ⟨k, 0⟩
theorem kst_k0 {k : ByteArray} (h : isKeyL k.data.toList = true) : (kst k).k0 = false := by
  unfold St.k0 kst
  have h1 := (key_facts h).1
  rw [beq_eq_false_iff_ne]
  intro h0
  apply h1
  have : k.data.size = 0 := h0
  simp [Array.eq_empty_of_size_eq_zero this]
theorem follow_item {v : V} (h6 : v.kd = 6) {k : ByteArray} (h : isKeyL k.data.toList = true) : followV v (kst k) = itemV v k := by
  unfold followV
  rw [if_neg (by rw [kst_k0 h]; simp), if_pos h6]
  rfl
theorem set_app1 : ∀ (p : List ByteArray) (v v' y : V), (∀ k ∈ p, isKeyL k.data.toList = true) → app1 v p (some y) = some v' → setV v (p.map kst) y = some v' := by
  intro p
  induction p with
  | nil => intro v v' y _ h; exact h
  | cons k p ih =>
    intro v v' y hk h
    have hkk := hk k (by simp)
    by_cases h6 : v.kd = 6
    · unfold app1 at h
      rw [if_pos h6] at h
      rw [List.map_cons]
      unfold setV
      have hin : setIn v (kst k) = v := by unfold setIn; rw [if_neg (by omega)]
      have hsk : (kst k).kd = 6 := by unfold St.kd; rw [if_neg (by rw [kst_k0 hkk]; simp)]
      rw [hin, if_neg (by rw [hsk, h6]; simp), if_neg (by rw [kst_k0 hkk]; simp), follow_item h6 hkk]
      cases hi : itemV v k with
      | none =>
        rw [hi] at h
        simp only at h
        split at h
        · rename_i hp
          subst hp
          simp only [Option.map_some, Option.some.injEq] at h
          subst h
          simp only [List.map_nil, setV]
          rw [if_pos (kst_k0 hkk)]
          rfl
        · cases h
      | some x =>
        rw [hi] at h
        simp only [reduceCtorEq, and_false, if_false] at h
        cases ha : app1 x p (some y) with
        | none => rw [ha] at h; simp at h
        | some z =>
          rw [ha] at h
          simp only [Option.map_some, Option.some.injEq] at h
          subst h
          rw [Option.getD_some, ih x z y (fun q hq => hk q (by simp [hq])) ha]
          simp only
          rw [if_pos (kst_k0 hkk)]
          rfl
    · unfold app1 at h; rw [if_neg h6] at h; cases h
end Mh
