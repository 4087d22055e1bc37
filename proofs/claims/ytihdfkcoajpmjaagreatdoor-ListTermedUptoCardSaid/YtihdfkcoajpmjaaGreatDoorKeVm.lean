/- A value in memory, opened: its six cells by name, its keys, its items one by one; later worlds. No program. · Steps as they lie in memory; sizes of right values. No program. · Routes: how many, how long. No program. -/
import Derived.Test.YtihdfkcoajpmjaaGreatDoorVAt
import Derived.Test.YtihdfkcoajpmjaaGreatDoorKePl
namespace Mh
open Go Go.RowKit
set_option linter.unusedVariables false

def V.bo : V → Bool | .mk _ b _ _ _ _ => b
def V.nu : V → Int | .mk _ _ n _ _ _ => n
def V.tx : V → ByteArray | .mk _ _ _ t _ _ => t
/-- The six cells of a value whose slices lie at ia, ka. -/
def vcs (X : V) (ia : Option Addr) (ic : Nat) (ka : Option Addr) (kc : Nat) : List Value := [.int .i64 X.kd, .bool X.bo, .int .i64 X.nu, .string X.tx, .slice ia X.its.length ic, .slice ka X.kys.length kc]
theorem Sl.word {k : Nat} {w : World} {v : Value} {n : Nat} {xs : List Value} (h : Sl k w v n xs) : ∃ ao c, v = .slice ao n c ∧ n ≤ maxLen := by
  rcases h.2 with ⟨rfl, a, c, rfl⟩ | ⟨b, off, c, rfl, h1, h2, h3, h4, h5⟩
  · exact ⟨a, c, rfl, Nat.zero_le _⟩
  · exact ⟨_, c, rfl, Nat.le_trans h2 h3⟩
theorem Sl.shp {k : Nat} {w : World} {v : Value} {n : Nat} {xs : List Value} (h : Sl k w v n xs) :
    ∃ ao c, v = .slice ao n c ∧ n ≤ maxLen ∧ (0 < n → ∃ b off, ao = some ⟨b, off, none⟩ ∧ n ≤ c ∧ c ≤ maxLen ∧ b < w.heap.size ∧ ∀ i u, xs[i]? = some u → w.cell? ⟨b, off + i, none⟩ = some u) := by
  rcases h.2 with ⟨rfl, a, c, rfl⟩ | ⟨b, off, c, rfl, h1, h2, h3, h4, h5⟩
  · exact ⟨a, c, rfl, Nat.zero_le _, fun h => absurd h (Nat.lt_irrefl _)⟩
  · exact ⟨_, c, rfl, Nat.le_trans h2 h3, fun _ => ⟨b, off, rfl, h2, h3, h4, h5⟩⟩
theorem VAt.opened {w : World} {X : V} {cs : List Value} (h : VAt w X cs) :
    ∃ ia ic ka kc, cs = vcs X ia ic ka kc ∧ X.its.length ≤ maxLen ∧ X.kys.length ≤ maxLen ∧ X.tx.size ≤ maxLen ∧ Ss w (.slice ka X.kys.length kc) X.kys ∧ ∃ rows, Sl 6 w (.slice ia X.its.length ic) X.its.length rows ∧ VsAt w X.its rows := by
  obtain ⟨k, b, n, t, is, ks⟩ := X
  unfold VAt at h
  obtain ⟨iv, kv, rfl, h1, h2, h3, h4, rows, h5, h6⟩ := h
  obtain ⟨ia, ic, rfl, hi⟩ := Sl.word h5
  obtain ⟨ka, kc, rfl, hk⟩ := Sl.word h4.1
  exact ⟨ia, ic, ka, kc, rfl, hi, hk, h3, h4, rows, h5, h6⟩
theorem VsAt.item {w : World} {iv : Value} {is : List V} {rows : List Value} (hS : Sl 6 w iv is.length rows) (hT : VsAt w is rows) :
    ∃ ao c, iv = .slice ao is.length c ∧ ∀ k (h : k < is.length), ∃ b off ia ic ka kc, ao = some ⟨b, off, none⟩ ∧ b < w.heap.size ∧ VAt w is[k] (vcs is[k] ia ic ka kc) ∧
      ∀ j (hj : j < 6), w.cell? ⟨b, off + k * 6 + j, none⟩ = some ((vcs is[k] ia ic ka kc)[j]'hj) := by
  obtain ⟨ao, c, rfl, _, hs⟩ := Sl.shp hS
  refine ⟨ao, c, rfl, fun k h => ?_⟩
  obtain ⟨b, off, rfl, _, _, hlt, hc⟩ := hs (by omega)
  obtain ⟨c', h1, h2⟩ := VsAt.get is rows hT k h
  obtain ⟨ia, ic, ka, kc, rfl, _⟩ := h1.opened
  refine ⟨b, off, ia, ic, ka, kc, rfl, hlt, h1, fun j hj => ?_⟩
  rw [Nat.add_assoc]
  exact hc _ _ (by rw [h2 j hj, List.getElem?_eq_getElem hj])
theorem Ss.key {w : World} {kv : Value} {ks : List ByteArray} (h : Ss w kv ks) :
    ∃ ao c, kv = .slice ao ks.length c ∧ ∀ k (hk : k < ks.length), ∃ b off, ao = some ⟨b, off, none⟩ ∧ b < w.heap.size ∧ w.cell? ⟨b, off + k, none⟩ = some (.string ks[k]) ∧ ks[k].size ≤ maxLen := by
  obtain ⟨ao, c, rfl, _, hs⟩ := Sl.shp h.1
  refine ⟨ao, c, rfl, fun k hk => ?_⟩
  obtain ⟨b, off, rfl, _, _, hlt, hc⟩ := hs (by omega)
  exact ⟨b, off, rfl, hlt, hc _ _ (by rw [List.getElem?_map, List.getElem?_eq_getElem hk]; rfl), h.2 _ (List.getElem_mem hk)⟩
/-- The six cells of an item later on. -/
theorem six_later {w wr : World} {b o : Nat} {X : V} {ia ka : Option Addr} {ic kc : Nat} (hb : Below w.heap.size w wr) (hlt : b < w.heap.size)
    (h : ∀ j (hj : j < 6), w.cell? ⟨b, o + j, none⟩ = some ((vcs X ia ic ka kc)[j]'hj)) :
    wr.cell? ⟨b, o, none⟩ = some (.int .i64 X.kd) ∧ wr.cell? ⟨b, o + 1, none⟩ = some (.bool X.bo) ∧ wr.cell? ⟨b, o + 2, none⟩ = some (.int .i64 X.nu) ∧ wr.cell? ⟨b, o + 3, none⟩ = some (.string X.tx) ∧
      wr.cell? ⟨b, o + 4, none⟩ = some (.slice ia X.its.length ic) ∧ wr.cell? ⟨b, o + 5, none⟩ = some (.slice ka X.kys.length kc) := by
  have g := fun j (hj : j < 6) => (hb.cell (p := ⟨b, o + j, none⟩) hlt).trans (h j hj)
  exact ⟨g 0 (by omega), g 1 (by omega), g 2 (by omega), g 3 (by omega), g 4 (by omega), g 5 (by omega)⟩
end Mh
namespace Mh
open Go Go.RowKit
set_option linter.unusedVariables false

def stc (s : St) : List Value := [.string s.key, .int .i64 s.num, .bool false]
/-- A slice of steps that reads as a list. -/
def StAt (w : World) (v : Value) (l : List St) : Prop := Sl 3 w v l.length (l.flatMap stc)
theorem StAt.below {w w' : World} {v : Value} {l : List St} (h : StAt w v l) (hb : Below w.heap.size w w') : StAt w' v l := Sl.below h hb
theorem stcs_len : ∀ l : List St, (l.flatMap stc).length = l.length * 3 := by
  intro l
  induction l with
  | nil => rfl
  | cons a l ih => rw [List.flatMap_cons, List.length_append, ih, List.length_cons]; show 3 + _ = _; omega
theorem stcs_get : ∀ (l : List St) (i : Nat) (h : i < l.length) (j : Nat), j < 3 → (l.flatMap stc)[i * 3 + j]? = (stc l[i])[j]? := by
  intro l
  induction l with
  | nil => intro i h; simp at h
  | cons a l ih =>
    intro i h j hj
    rw [List.flatMap_cons]
    have ha : (stc a).length = 3 := rfl
    cases i with
    | zero => rw [List.getElem?_append_left (by omega)]; simp
    | succ i =>
      rw [List.getElem?_append_right (by omega), show (i + 1) * 3 + j - (stc a).length = i * 3 + j by omega]
      exact ih i (by simpa using h) j hj
theorem stcs_snoc (l : List St) (s : St) : (l ++ [s]).flatMap stc = l.flatMap stc ++ stc s := by simp
theorem StAt.nil (w : World) (a : Option Addr) (c : Nat) : StAt w (.slice a 0 c) [] := ⟨rfl, .inl ⟨rfl, a, c, rfl⟩⟩
theorem StAt.item {w : World} {v : Value} {l : List St} (h : StAt w v l) :
    ∃ ao c, v = .slice ao l.length c ∧ l.length ≤ maxLen ∧ (0 < l.length → ∃ b off, ao = some ⟨b, off, none⟩ ∧ l.length ≤ c ∧ c ≤ maxLen ∧ b < w.heap.size ∧
      ∀ k (hk : k < l.length), w.cell? ⟨b, off + k * 3, none⟩ = some (.string l[k].key) ∧ w.cell? ⟨b, off + k * 3 + 1, none⟩ = some (.int .i64 l[k].num) ∧ w.cell? ⟨b, off + k * 3 + 2, none⟩ = some (.bool false)) := by
  obtain ⟨ao, c, rfl, hm, hs⟩ := Sl.shp h
  refine ⟨ao, c, rfl, hm, fun h0 => ?_⟩
  obtain ⟨b, off, rfl, h1, h2, h3, h4⟩ := hs h0
  refine ⟨b, off, rfl, h1, h2, h3, fun k hk => ?_⟩
  have g := fun j (hj : j < 3) => h4 (k * 3 + j) ((stc l[k])[j]'hj) ((stcs_get l k hk j hj).trans (List.getElem?_eq_getElem (l := stc l[k]) hj))
  exact ⟨g 0 (by omega), by rw [Nat.add_assoc]; exact g 1 (by omega), by rw [Nat.add_assoc]; exact g 2 (by omega)⟩
theorem StAt.tail {w : World} {b off c : Nat} {s : St} {l : List St} (h : StAt w (.slice (some ⟨b, off, none⟩) (s :: l).length c) (s :: l)) : StAt w (.slice (some ⟨b, off + 3, none⟩) l.length (c - 1)) l := by
  refine ⟨stcs_len l, ?_⟩
  rcases h.2 with ⟨h0, _⟩ | ⟨b', off', c', he, h1, h2, h3, h4, h5⟩
  · simp at h0
  · simp only [Value.slice.injEq, Option.some.injEq, Addr.mk.injEq, and_true, true_and] at he
    obtain ⟨⟨rfl, rfl⟩, rfl⟩ := he
    by_cases hl : l = []
    · subst hl; exact .inl ⟨rfl, _, _, rfl⟩
    · simp only [List.length_cons] at h2
      refine .inr ⟨b, off + 3, c - 1, rfl, List.length_pos_iff.2 hl, by omega, by omega, h4, fun i u hu => ?_⟩
      rw [Nat.add_assoc]
      refine h5 _ u ?_
      rw [List.flatMap_cons, List.getElem?_append_right (by show 3 ≤ _; omega)]
      show (l.flatMap stc)[3 + i - 3]? = some u
      rw [Nat.add_sub_cancel_left]
      exact hu

theorem good_keys {v : V} (h : v.good) : v.kys.length ≤ v.its.length := by
  obtain ⟨k, b, n, t, is, ks⟩ := v
  simp only [V.good, V.good1] at h
  obtain ⟨⟨hk, hu, _⟩, _⟩ := h
  simp only [unusedV, Bool.or_eq_false_iff, Bool.and_eq_false_iff, Bool.not_eq_false', decide_eq_true_eq, decide_eq_false_iff_not] at hu
  show ks.length ≤ is.length
  rcases hu.1.2 with h | h
  · omega
  · rcases hu.2 with h' | h'
    · exact absurd h h'
    · omega
theorem good_keyB {v : V} (h : v.good) : ∀ k ∈ v.kys, k.size ≤ 40 := by
  intro k hk
  have := (key_facts ((good_facts h).2.2.2.2 k hk)).2.1
  simpa using this
/-! A right value of at most 1000 values has at most 1000 nodes. -/
theorem cnts_sum : ∀ (l : List V) (m : Nat), V.cnts l m ≤ 1000 → V.cnts l m = m + (l.map V.cnt).sum := by
  intro l
  induction l with
  | nil => intro m _; simp [V.cnts]
  | cons y ys ih =>
    intro m h
    simp only [V.cnts] at h ⊢
    split at h
    · omega
    · rename_i hm
      rw [if_neg hm, ih _ h]; simp; omega
theorem nodes_cntN : ∀ (N : Nat) (v : V), sizeOf v < N → v.cnt ≤ 1000 → v.nodes = v.cnt := by
  intro N
  induction N with
  | zero => intro v h; omega
  | succ N ih =>
    rintro ⟨k, b, n, t, is, ks⟩ h hc
    have hcf := (cnt_facts hc).2
    have hm : ∀ x ∈ is, x.nodes = x.cnt := fun x hx => ih x (by have := size_item (k := k) (b := b) (n := n) (t := t) (ks := ks) hx; omega) (hcf x hx)
    simp only [V.cnt] at hc ⊢
    rw [cnts_sum is 1 hc]
    simp only [V.nodes]
    have gen : ∀ (l : List V), (∀ x ∈ l, x.nodes = x.cnt) → V.nodess l = (l.map V.cnt).sum := by
      intro l
      induction l with
      | nil => intro _; simp [V.nodess]
      | cons y ys ihy =>
        intro hl
        simp only [V.nodess, List.map_cons, List.sum_cons]
        rw [hl y (by simp), ihy (fun x hx => hl x (by simp [hx]))]
    rw [gen is hm]; omega
theorem V.okc.nodes {v : V} (h : v.okc) : v.nodes ≤ 1000 := by rw [nodes_cntN _ v (Nat.lt_succ_self _) h.1]; exact h.1

/-- What clone asks. -/
def V.mid (v : V) : Prop := v.good ∧ v.nodes ≤ 4000
theorem V.mid.item {v : V} (h : v.mid) : ∀ x ∈ v.its, x.mid := fun x hx => ⟨(good_facts h.1).2.2.2.1 x hx, by have := nodes_item hx; have := h.2; omega⟩
theorem V.mid.len {v : V} (h : v.mid) : v.its.length ≤ 3999 ∧ v.kys.length ≤ 3999 := by
  have h1 : v.its.length ≤ 3999 := by have h1 := nodes_its v; have h3 := nodess_len v.its; have h4 := h.2; omega
  have h2 := good_keys h.1
  exact ⟨h1, by omega⟩
/-- What put asks of a table. -/
def V.top (v : V) : Prop := Asc v.kys ∧ (v.kd = 6 → v.kys.length = v.its.length) ∧ (v.its.length ≤ 3999 ∧ v.kys.length ≤ 3999) ∧ ∀ k ∈ v.kys, k.size ≤ 40
theorem V.mid.top {v : V} (h : v.mid) : v.top := ⟨(good_facts h.1).1, (good_facts h.1).2.1, h.len, good_keyB h.1⟩
theorem V.mid.follow {v x : V} (h : v.mid) {s : St} (hf : followV v s = some x) : x.mid := h.item x (follow_mem hf)
theorem cnt_leaf (k : Int) (b : Bool) (n : Int) (t : ByteArray) (ks : List ByteArray) : (V.mk k b n t [] ks).cnt = 1 := by simp [V.cnt, V.cnts]
theorem mid_nil (k : Int) (hk : 0 ≤ k ∧ k ≤ 6) : (V.mk k false 0 ⟨#[]⟩ [] []).mid := ⟨good_nil k hk, by simp [V.nodes, V.nodess]⟩
theorem mid_follow_or {v : V} (h : v.mid) (s : St) : ((followV v s).getD V.nil).mid := by
  cases hf : followV v s with
  | none => exact mid_nil 0 (by omega)
  | some x => exact h.follow hf
theorem mid_setIn {v : V} (h : v.mid) (s : St) : (setIn v s).mid := by
  unfold setIn; split
  · exact mid_nil _ s.kd_in
  · exact h
theorem V.okc.mid {v : V} (h : v.okc) : v.mid := ⟨h.2.2, by have := h.nodes; omega⟩
theorem mid_get : ∀ (l : List St) {v x : V}, v.mid → getV v l = some x → x.mid := by
  intro l
  induction l with
  | nil => intro v x h hg; simp only [getV, Option.some.injEq] at hg; subst hg; exact h
  | cons s l ih =>
    intro v x h hg
    unfold getV at hg
    cases hf : followV v s with
    | none => rw [hf] at hg; cases hg
    | some y => rw [hf] at hg; exact ih (h.follow hf) hg
theorem num_atoi {p : List UInt8} (h : isNumL p = true) : ∃ n : Nat, Lib.atoi p = some (n : Int) ∧ n < 10000 := by
  cases p with
  | nil => cases h
  | cons c l =>
    simp only [isNumL, Bool.and_eq_true, decide_eq_true_eq, Bool.not_eq_true', decide_eq_false_iff_not] at h
    obtain ⟨h1, h2, h3, _⟩ := h
    simp only [isIntL] at h2
    rw [if_neg h3] at h2
    simp only [Bool.and_eq_true, List.all_eq_true, digB, decide_eq_true_eq] at h2
    have hd : ∀ x ∈ c :: l, 48 ≤ x.toNat ∧ x.toNat ≤ 57 := by
      intro x hx
      rcases List.mem_cons.1 hx with rfl | hx
      · exact h2.1
      · exact h2.2 x hx
    have e1 : (c == 45) = false := by
      rw [beq_eq_false_iff_ne]; rintro rfl; exact h3 rfl
    have e2 : (c == 43) = false := by
      rw [beq_eq_false_iff_ne]; rintro rfl; have := h2.1.1; revert this; decide
    have hdf := decFrom_dfold (c :: l) 0 hd
    refine ⟨_, by simp only [Lib.atoi, e1, e2, Bool.false_eq_true, if_false, Lib.decNat, List.isEmpty_cons]; rw [hdf]; rfl, ?_⟩
    have h5 := Lib.decFrom_lt _ _ _ hdf
    have h6 : 10 ^ (c :: l).length ≤ 10 ^ 4 := Nat.pow_le_pow_right (by omega) (by simp; omega)
    omega
theorem step_key {s : ByteArray} (h : isKeyL s.data.toList = true) : stepB s = some ⟨s, 0⟩ := by unfold stepB; rw [if_pos h]
theorem step_num {s : ByteArray} (hk : isKeyL s.data.toList = false) (h : isNumL s.data.toList = true) : ∃ n : Nat, Lib.atoi s.data.toList = some (n : Int) ∧ n < 10000 ∧ stepB s = some ⟨⟨#[]⟩, n⟩ := by
  obtain ⟨n, h1, h2⟩ := num_atoi h
  refine ⟨n, h1, h2, ?_⟩
  unfold stepB
  rw [if_neg (by rw [hk]; simp), if_pos h, h1]
  rfl
theorem step_none {s : ByteArray} (hk : isKeyL s.data.toList = false) (h : isNumL s.data.toList = false) : stepB s = none := by
  unfold stepB
  rw [if_neg (by rw [hk]; simp), if_neg (by rw [h]; simp)]
/-- The steps of a beginning of the parts. -/
theorem stepsL_take : ∀ (ps : List ByteArray) (l : List St), stepsL ps = some l → l.length = ps.length ∧ ∀ i (h : i < ps.length), stepB ps[i] = l[i]? := by
  intro ps
  induction ps with
  | nil => intro l h; simp only [stepsL, Option.some.injEq] at h; subst h; exact ⟨rfl, fun i h => by simp at h⟩
  | cons p ps ih =>
    intro l h
    unfold stepsL at h
    cases hp : stepB p with
    | none => rw [hp] at h; cases h
    | some s =>
      rw [hp] at h
      cases hs : stepsL ps with
      | none => rw [hs] at h; cases h
      | some r =>
        rw [hs] at h
        simp only [Option.some.injEq] at h
        subst h
        obtain ⟨h1, h2⟩ := ih r hs
        refine ⟨by simp [h1], fun i hi => ?_⟩
        cases i with
        | zero => simpa using hp
        | succ i => simpa using h2 i (by simpa using hi)
theorem stepsL_app : ∀ (ps qs : List ByteArray), stepsL (ps ++ qs) = (stepsL ps).bind fun l => (stepsL qs).map fun m => l ++ m := by
  intro ps
  induction ps with
  | nil => intro qs; simp only [stepsL, List.nil_append, Option.bind_some]; cases stepsL qs <;> rfl
  | cons p ps ih =>
    intro qs
    simp only [List.cons_append, stepsL]
    rw [ih]
    cases stepB p with
    | none => rfl
    | some s =>
      cases stepsL ps with
      | none => rfl
      | some l => cases stepsL qs <;> rfl
theorem stepsL_fail (ps : List ByteArray) (i : Nat) (h : i < ps.length) (hn : stepB ps[i] = none) : stepsL ps = none := by
  have e : ps = ps.take i ++ ps[i] :: ps.drop (i + 1) := by rw [← List.drop_eq_getElem_cons h, List.take_append_drop]
  rw [e, stepsL_app]
  have : stepsL (ps[i] :: ps.drop (i + 1)) = none := by unfold stepsL; rw [hn]
  rw [this]
  cases stepsL (ps.take i) <;> rfl
theorem stepsL_next (ps : List ByteArray) (i : Nat) (h : i < ps.length) (l : List St) (s : St) (hl : stepsL (ps.take i) = some l) (hs : stepB ps[i] = some s) : stepsL (ps.take (i + 1)) = some (l ++ [s]) := by
  rw [List.take_succ_eq_append_getElem h, stepsL_app, hl]
  simp [stepsL, hs]
theorem steps_len {r : ByteArray} {l : List St} (h : stepsB r = some l) : l.length ≤ 401 := by
  unfold stepsB at h
  split at h
  · cases h
  split at h
  · cases h; simp
  · have h1 := (stepsL_take _ _ h).1
    unfold partsB at h1
    have h2 := splitB_len 46 r
    have h3 : Lib.countB r ⟨#[46]⟩ ≤ r.size := Lib.countB_le ⟨#[46]⟩ (Nat.le_refl 1) _ r (Nat.le_refl _)
    omega
end Mh
namespace Mh
open Go
set_option linter.unusedVariables false
theorem rts_lenN : ∀ (N : Nat) (v : V), sizeOf v < N → ∀ r, (V.rts v r).length ≤ v.nodes := by
  intro N
  induction N with
  | zero => intro v h; omega
  | succ N ih =>
    rintro ⟨k, b, n, t, is, ks⟩ h r
    have hm : ∀ x ∈ is, ∀ r, (V.rts x r).length ≤ x.nodes := fun x hx r => ih x (by have := size_item (k := k) (b := b) (n := n) (t := t) (ks := ks) hx; omega) r
    have gen : ∀ (l : List V), (∀ x ∈ l, ∀ r, (V.rts x r).length ≤ x.nodes) → ∀ i, (V.rtss k ks l i r).length ≤ V.nodess l := by
      intro l
      induction l with
      | nil => intro _ i; simp [V.rtss]
      | cons y ys ihy =>
        intro hl i
        simp only [V.rtss, V.nodess, List.length_append]
        have h1 := hl y (by simp) (joinR r (partB k ks i))
        have h2 := ihy (fun x hx => hl x (by simp [hx])) (i + 1)
        omega
    simp only [V.nodes]
    cases is with
    | nil => simp [V.rts]
    | cons x xs =>
      have := gen (x :: xs) hm 0
      simp only [V.rts]
      omega
theorem rts_len (v : V) (r : ByteArray) : (V.rts v r).length ≤ v.nodes := rts_lenN _ v (Nat.lt_succ_self _) r
theorem joinR_size (r p : ByteArray) : (joinR r p).size ≤ r.size + 1 + p.size := by
  unfold joinR
  split
  · omega
  · have : (r ++ ⟨#[46]⟩ ++ p).size = r.size + 1 + p.size := by rw [ByteArray.size_append, ByteArray.size_append]; rfl
    omega
theorem partB_size {v : V} (h : v.mid) (i : Nat) (hi : i < v.its.length) : (partB v.kd v.kys i).size ≤ 40 := by
  have hl := h.len
  unfold partB
  split
  · rename_i h6
    have he := (good_facts h.1).2.1 h6
    have : v.kys.getD i ⟨#[]⟩ = v.kys[i]'(by omega) := by simp [List.getD, show i < v.kys.length by omega]
    rw [this]
    exact good_keyB h.1 _ (List.getElem_mem _)
  · have h1 := decK_len 3 i (by omega)
    have : (bz (Lib.decDigits i)).size = (Lib.decDigits i).length := by simp [bz, ByteArray.size]
    omega
end Mh
