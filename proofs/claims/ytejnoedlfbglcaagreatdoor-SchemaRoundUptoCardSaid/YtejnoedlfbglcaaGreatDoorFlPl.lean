/- The plain law of filling: what is found stays found when something else is set; steps with stars. No program. · Steps with stars; fields and schemas: what is right. No program. · What holds while defaults are put in, field by field. No program. · Fields of a schema as they lie in memory. No program. -/
import Derived.Test.YtejnoedlfbglcaaGreatDoorKeVm
namespace Mh
open Go
set_option linter.unusedVariables false

/-! What is found stays found. -/
theorem get_cons (v : V) (s : St) (l : List St) : getV v (s :: l) = (followV v s).bind fun x => getV x l := by
  simp only [getV]
  cases followV v s <;> rfl
theorem follow_iff {b : Bool} {n : Int} {t : ByteArray} {is : List V} {ks : List ByteArray} (hA : Asc ks) {s : St} (h0 : s.k0 = false) (x : V) :
    followV (.mk 6 b n t is ks) s = some x ↔ ∃ i : Nat, ks[i]? = some s.key ∧ is[i]? = some x := by
  rw [follow_tab h0]
  constructor
  · intro h
    split at h
    · rename_i hh
      exact ⟨_, of_decide_eq_true hh, h⟩
    · cases h
  · rintro ⟨i, h1, h2⟩
    obtain ⟨hi, he⟩ := List.getElem?_eq_some_iff.1 h1
    have hl := low_at ks hA i hi
    rw [he] at hl
    have hh : hit s.key ks = true := by unfold hit; rw [hl]; exact decide_eq_true h1
    rw [if_pos hh, hl, h2]
theorem put_at (k : ByteArray) (ks : List ByteArray) (i : Nat) (q : ByteArray) (h : ks[i]? = some q) (hne : q ≠ k) : (i < low k ks ∨ putAt k ks ≤ i) := by
  unfold putAt
  rcases Nat.lt_trichotomy i (low k ks) with h1 | h1 | h1
  · exact .inl h1
  · right
    have : hit k ks = false := by
      unfold hit
      refine decide_eq_false fun e => hne ?_
      rw [← h1, h] at e
      exact Option.some.inj e
    rw [this]; simp; omega
  · right; split <;> omega
theorem put_get {α : Type} (l : List α) (y : α) (L P i : Nat) (hL : L ≤ l.length) (hP : L ≤ P) (h : i < L ∨ P ≤ i) : (l.take L ++ y :: l.drop P)[if i < L then i else L + 1 + (i - P)]? = l[i]? := by
  by_cases hi : i < L
  · rw [if_pos hi, List.getElem?_append_left (by rw [List.length_take]; omega), List.getElem?_take, if_pos hi]
  · rw [if_neg hi, List.getElem?_append_right (by rw [List.length_take]; omega), List.length_take, Nat.min_eq_left hL, show L + 1 + (i - P) - L = (i - P) + 1 by omega, List.getElem?_cons_succ, List.getElem?_drop]
    congr 1; omega
theorem follow_put_other {t y : V} {k : ByteArray} (hA : Asc t.kys) (hA' : Asc (putV t k y).kys) (hl : t.kys.length = t.its.length) (h6 : t.kd = 6) {s : St} (h0 : s.k0 = false) (hne : s.key ≠ k) {x : V} (h : followV t s = some x) : followV (putV t k y) s = some x := by
  obtain ⟨kd, b, n, tx, is, ks⟩ := t
  simp only [kd_mk] at h6
  subst h6
  simp only [kys_mk, its_mk] at hA hl
  obtain ⟨i, h1, h2⟩ := (follow_iff hA h0 x).1 h
  have hp := put_at k ks i s.key h1 hne
  have hlo := low_le k ks
  unfold putV at hA' ⊢
  simp only [kys_mk, its_mk] at hA' ⊢
  refine (follow_iff hA' h0 x).2 ⟨if i < low k ks then i else low k ks + 1 + (i - putAt k ks), ?_, ?_⟩
  · rw [put_get ks k _ _ i hlo (by unfold putAt; omega) hp]; exact h1
  · rw [put_get is y _ _ i (by omega) (by unfold putAt; omega) hp]; exact h2
theorem follow_kd {v x : V} {s : St} (h : followV v s = some x) : v.kd = s.kd := by
  unfold followV at h
  unfold St.kd
  split at h
  · rename_i h0
    rw [if_pos h0]
    split at h
    · assumption
    · cases h
  · rename_i h0
    rw [if_neg h0]
    split at h
    · assumption
    · cases h
theorem set_keeps : ∀ (q : List St) (u y s : V), u.good → s.good → setV u q y = some s → getV u q = none → ∀ p, (getV u p).isSome = true → (getV s p).isSome = true := by
  intro q
  induction q with
  | nil => intro u y s _ _ _ hn; simp [getV] at hn
  | cons a q ih =>
    intro u y s hu hs h hn p hp
    cases p with
    | nil => rfl
    | cons b p =>
      rw [get_cons] at hp hn ⊢
      cases hb : followV u b with
      | none => rw [hb] at hp; simp at hp
      | some x =>
        rw [hb, Option.bind_some] at hp
        have hkb := follow_kd hb
        have hne : u.kd ≠ 0 := by rw [hkb]; unfold St.kd; split <;> omega
        have hin : setIn u a = u := by unfold setIn; rw [if_neg hne]
        unfold setV at h
        rw [hin] at h
        split at h
        · cases h
        rename_i hkd
        split at h
        · cases h
        rename_i hnum
        cases hz : setV ((followV u a).getD V.nil) q y with
        | none => rw [hz] at h; cases h
        | some z =>
          rw [hz] at h
          simp only at h
          have hkd' : u.kd = a.kd := by simpa using hkd
          have hk0 : a.k0 = b.k0 := by
            rw [hkb] at hkd'
            unfold St.kd at hkd'
            cases h1 : a.k0 <;> cases h2 : b.k0 <;> simp [h1, h2] at hkd' ⊢
          -- what the step itself leads to
          have step : followV u a = some x → z.good → (getV z p).isSome = true := by
            intro ha hzg
            rw [ha] at hz hn
            exact ih x y z (follow_good hu hb) hzg hz (by simpa using hn) p hp
          cases h0 : a.k0 with
          | false =>
            rw [if_pos h0] at h
            cases h
            have h6 : u.kd = 6 := by rw [hkd']; unfold St.kd; rw [h0]; rfl
            have hgu := good_facts hu
            have hgs := good_facts hs
            by_cases hk : b.key = a.key
            · have hab : followV u a = followV u b := by
                unfold followV
                rw [← hk0, h0, hk]; rfl
              have hzi : followV (putV u a.key z) b = some z := by
                have := follow_put hgu.1 (hgu.2.1 h6) b (by rw [← hk0]; exact h0) z
                rwa [hk] at this
              rw [hzi, Option.bind_some]
              exact step (by rw [hab]; exact hb) (follow_good hs hzi)
            · rw [follow_put_other hgu.1 hgs.1 (hgu.2.1 h6) h6 (by rw [← hk0]; exact h0) hk hb, Option.bind_some]
              exact hp
          | true =>
            rw [if_neg (by rw [h0]; simp)] at h
            have h5 : u.kd = 5 := by rw [hkd']; unfold St.kd; rw [h0]; rfl
            have hb0 : b.k0 = true := by rw [← hk0]; exact h0
            have hbi : u.its[b.num]? = some x := by
              have := hb
              unfold followV at this
              rw [if_pos hb0, if_pos h5] at this
              exact this
            have hbl : b.num < u.its.length := (List.getElem?_eq_some_iff.1 hbi).1
            split at h
            · rename_i hnl
              cases h
              rw [follow_list hb0, List.getElem?_append_left hbl, hbi, Option.bind_some]
              exact hp
            · rename_i hnl
              cases h
              by_cases hab : b.num = a.num
              · have hzi : followV (V.mk 5 false 0 ⟨#[]⟩ (u.its.set a.num z) []) b = some z := by
                  rw [follow_list hb0, hab, List.getElem?_set_self (by omega)]
                have hfa : followV u a = some x := by
                  unfold followV
                  rw [if_pos h0, if_pos h5, ← hab]; exact hbi
                rw [hzi, Option.bind_some]
                exact step hfa (follow_good hs hzi)
              · rw [follow_list hb0, List.getElem?_set_ne (by omega), hbi, Option.bind_some]
                exact hp
end Mh
namespace Mh
open Go
set_option linter.unusedVariables false

/-! Steps by any reading of a part. -/
def stepsG (f : ByteArray → Option St) : List ByteArray → Option (List St)
  | [] => some []
  | p :: ps => match f p with
    | none => none
    | some s => match stepsG f ps with
      | none => none
      | some l => some (s :: l)
theorem stepsG_B : ∀ ps, stepsG stepB ps = stepsL ps := by
  intro ps
  induction ps with
  | nil => rfl
  | cons p ps ih =>
    simp only [stepsG, stepsL, ih]
    cases stepB p with
    | none => rfl
    | some s => cases stepsL ps <;> rfl
section
variable (f : ByteArray → Option St)
theorem stepsG_len : ∀ (ps : List ByteArray) (l : List St), stepsG f ps = some l → l.length = ps.length := by
  intro ps
  induction ps with
  | nil => intro l h; simp only [stepsG, Option.some.injEq] at h; subst h; rfl
  | cons p ps ih =>
    intro l h
    unfold stepsG at h
    cases hp : f p with
    | none => rw [hp] at h; cases h
    | some s =>
      rw [hp] at h
      cases hs : stepsG f ps with
      | none => rw [hs] at h; cases h
      | some r =>
        rw [hs] at h
        simp only [Option.some.injEq] at h
        subst h
        simp [ih r hs]
theorem stepsG_app : ∀ (ps qs : List ByteArray), stepsG f (ps ++ qs) = (stepsG f ps).bind fun l => (stepsG f qs).map fun m => l ++ m := by
  intro ps
  induction ps with
  | nil => intro qs; simp only [stepsG, List.nil_append, Option.bind_some]; cases stepsG f qs <;> rfl
  | cons p ps ih =>
    intro qs
    simp only [List.cons_append, stepsG]
    rw [ih]
    cases f p with
    | none => rfl
    | some s =>
      cases stepsG f ps with
      | none => rfl
      | some l => cases stepsG f qs <;> rfl
theorem stepsG_fail (ps : List ByteArray) (i : Nat) (h : i < ps.length) (hn : f ps[i] = none) : stepsG f ps = none := by
  have e : ps = ps.take i ++ ps[i] :: ps.drop (i + 1) := by rw [← List.drop_eq_getElem_cons h, List.take_append_drop]
  rw [e, stepsG_app]
  have : stepsG f (ps[i] :: ps.drop (i + 1)) = none := by unfold stepsG; rw [hn]
  rw [this]
  cases stepsG f (ps.take i) <;> rfl
theorem stepsG_next (ps : List ByteArray) (i : Nat) (h : i < ps.length) (l : List St) (s : St) (hl : stepsG f (ps.take i) = some l) (hs : f ps[i] = some s) : stepsG f (ps.take (i + 1)) = some (l ++ [s]) := by
  rw [List.take_succ_eq_append_getElem h, stepsG_app, hl]
  simp [stepsG, hs]
end
/-- A star stands as the step with this key, which is no key. -/
def starKey : ByteArray := ⟨#[42]⟩
def St.star (s : St) : Bool := decide (s.key = starKey)
def stepS (p : ByteArray) : Option St := if p = starKey then some ⟨starKey, 0⟩ else stepB p
def stepsS (r : ByteArray) : Option (List St) := if 400 < r.size then none else if r.size = 0 then some [] else stepsG stepS (partsB r)
theorem stepB_star : stepB starKey = none := by decide
theorem stepB_nostar {p : ByteArray} {s : St} (h : stepB p = some s) : s.star = false := by
  unfold St.star
  refine decide_eq_false fun e => ?_
  unfold stepB at h
  split at h
  · rename_i hk
    simp only [Option.some.injEq] at h
    subst h
    simp only at e
    rw [e] at hk
    exact absurd hk (by decide)
  · split at h
    · simp only [Option.some.injEq] at h
      subst h
      exact absurd (show (⟨#[]⟩ : ByteArray) = starKey from e) (by decide)
    · cases h
theorem stepS_B {p : ByteArray} {s : St} (h : stepB p = some s) : stepS p = some s := by
  unfold stepS
  rw [if_neg, h]
  intro e
  rw [e, stepB_star] at h
  cases h
theorem stepS_nostar {p : ByteArray} {s : St} (h : stepS p = some s) (hs : s.star = false) : stepB p = some s := by
  unfold stepS at h
  split at h
  · simp only [Option.some.injEq] at h
    subst h
    exact absurd hs (by decide)
  · exact h
theorem stepsG_nostar : ∀ (ps : List ByteArray) (l : List St), stepsG stepS ps = some l → (∀ s ∈ l, s.star = false) → stepsL ps = some l := by
  intro ps
  induction ps with
  | nil => intro l h _; exact h
  | cons p ps ih =>
    intro l h hl
    unfold stepsG at h
    unfold stepsL
    cases hp : stepS p with
    | none => rw [hp] at h; cases h
    | some s =>
      rw [hp] at h
      cases hr : stepsG stepS ps with
      | none => rw [hr] at h; cases h
      | some r =>
        rw [hr] at h
        simp only [Option.some.injEq] at h
        subst h
        rw [stepS_nostar hp (hl s (by simp)), ih r hr (fun x hx => hl x (by simp [hx]))]
theorem stepsS_nostar {r : ByteArray} {l : List St} (h : stepsS r = some l) (hl : ∀ s ∈ l, s.star = false) : stepsB r = some l := by
  unfold stepsS at h
  unfold stepsB
  split at h
  · cases h
  rename_i h4
  rw [if_neg h4]
  split at h
  · rename_i h0; rw [if_pos h0]; exact h
  · rename_i h0; rw [if_neg h0]; exact stepsG_nostar _ l h hl
theorem stepsS_len {r : ByteArray} {l : List St} (h : stepsS r = some l) : l.length ≤ 401 := by
  unfold stepsS at h
  split at h
  · cases h
  split at h
  · cases h; simp
  · have h1 := stepsG_len _ _ _ h
    unfold partsB at h1
    have h2 := splitB_len 46 r
    have h3 : Lib.countB r ⟨#[46]⟩ ≤ r.size := Lib.countB_le ⟨#[46]⟩ (Nat.le_refl 1) _ r (Nat.le_refl _)
    omega

/-- A field of a schema. -/
structure Fd where
  route : ByteArray
  kind : Int
  need : Bool
  bnd : Bool
  mn : Int
  mx : Int
  one : List ByteArray
  dv : V
/-- What fieldFault asks, but for the earlier ones. -/
def Fd.ok (f : Fd) : Prop :=
  ∃ l, stepsS f.route = some l ∧ l ≠ [] ∧ (f.kind = -1 ∨ (0 ≤ f.kind ∧ f.kind ≤ 6)) ∧ (f.bnd = true ∨ (f.mn = 0 ∧ f.mx = 0)) ∧ f.mn ≤ f.mx ∧ (f.one = [] ∨ f.kind = 3) ∧
    (∀ s ∈ f.one, s.size ≤ 5000 ∧ badL s.data.toList = false) ∧ f.dv.okc ∧ (f.dv.kd = 0 ∨ f.kind = -1 ∨ f.dv.kd = f.kind) ∧ (f.dv.kd = 0 ∨ ∀ s ∈ l, s.star = false)
/-- What CheckSchema asks of the fields. -/
def fdsOk (fs : List Fd) : Prop := fs.length ≤ 100 ∧ (∀ i (h : i < fs.length), fs[i].ok ∧ fs[i].route ∉ (fs.take i).map Fd.route)
theorem Fd.ok.steps {f : Fd} (h : f.ok) (hd : f.dv.kd ≠ 0) : ∃ l, stepsB f.route = some l := by
  obtain ⟨l, h1, _, _, _, _, _, _, _, _, h2⟩ := h
  exact ⟨l, stepsS_nostar h1 (h2.resolve_left hd)⟩
/-- All fields with a default are found. -/
def foundAll (fs : List Fd) (v : V) : Prop := ∀ f ∈ fs, f.dv.kd ≠ 0 → ∃ l, stepsB f.route = some l ∧ (getV v l).isSome = true
end Mh
namespace Mh
open Go
set_option linter.unusedVariables false

theorem foundAll_take {fs : List Fd} {v : V} (h : foundAll fs v) (j : Nat) : foundAll (fs.take j) v := fun f hf => h f (List.mem_of_mem_take hf)
theorem foundAll_snoc {fs : List Fd} {v : V} {j : Nat} (h : foundAll (fs.take j) v) (hj : j < fs.length) (h1 : fs[j].dv.kd ≠ 0 → ∃ l, stepsB fs[j].route = some l ∧ (getV v l).isSome = true) : foundAll (fs.take (j + 1)) v := by
  intro f hf hd
  rw [List.take_succ_eq_append_getElem hj] at hf
  rcases List.mem_append.1 hf with hf | hf
  · exact h f hf hd
  · simp only [List.mem_cons, List.not_mem_nil, or_false] at hf
    subst hf
    exact h1 hd
structure Filled (fs : List Fd) (X : V) (j : Nat) (Y : V) : Prop where
  le : j ≤ fs.length
  ok : Y.okc
  found : foundAll (fs.take j) Y
  same : foundAll fs X → Y = X
theorem Filled.zero {fs : List Fd} {X : V} (h : X.okc) : Filled fs X 0 X := ⟨Nat.zero_le _, h, fun f hf => by simp at hf, fun _ => rfl⟩
theorem Filled.skip {fs : List Fd} {X Y : V} {j : Nat} (h : Filled fs X j Y) (hj : j < fs.length) (hd : fs[j].dv.kd = 0) : Filled fs X (j + 1) Y :=
  ⟨hj, h.ok, foundAll_snoc h.found hj fun hn => absurd hd hn, h.same⟩
theorem Filled.has {fs : List Fd} {X Y : V} {j : Nat} (h : Filled fs X j Y) (hj : j < fs.length) {l : List St} (hl : stepsB fs[j].route = some l) (hg : (getV Y l).isSome = true) : Filled fs X (j + 1) Y :=
  ⟨hj, h.ok, foundAll_snoc h.found hj fun _ => ⟨l, hl, hg⟩, h.same⟩
theorem Filled.miss {fs : List Fd} {X Y : V} {j : Nat} (h : Filled fs X j Y) (hj : j < fs.length) {l : List St} (hl : stepsB fs[j].route = some l) (hd : fs[j].dv.kd ≠ 0) (hg : getV Y l = none) : ¬ foundAll fs X := by
  intro ha
  obtain ⟨l', h1, h2⟩ := ha fs[j] (List.getElem_mem hj) hd
  rw [hl] at h1
  cases h1
  rw [h.same ha] at hg
  rw [hg] at h2
  cases h2
theorem Filled.set {fs : List Fd} {X Y s : V} {j : Nat} (h : Filled fs X j Y) (hj : j < fs.length) {l : List St} (hl : stepsB fs[j].route = some l) (hd : fs[j].dv.kd ≠ 0) (hg : getV Y l = none) (hs : setV Y l fs[j].dv = some s) (ho : s.okc) : Filled fs X (j + 1) s := by
  refine ⟨hj, ho, foundAll_snoc ?_ hj fun _ => ⟨l, hl, ?_⟩, fun ha => absurd ha (h.miss hj hl hd hg)⟩
  · intro f hf hfd
    obtain ⟨l', h1, h2⟩ := h.found f hf hfd
    exact ⟨l', h1, set_keeps l Y fs[j].dv s h.ok.2.2 ho.2.2 hs hg l' h2⟩
  · rw [set_get l Y fs[j].dv s h.ok.2.2 hs]; rfl
theorem Filled.all {fs : List Fd} {X Y : V} (h : Filled fs X fs.length Y) : foundAll fs Y := by have := h.found; rwa [List.take_length] at this
/-- What Fill returns. -/
def FillOk (fs : List Fd) (X : V) (c : Int) (x : V) : Prop := (c = 0 → fdsOk fs ∧ X.okc ∧ x.okc ∧ foundAll fs x) ∧ (fdsOk fs → X.okc → foundAll fs X → c = 0 ∧ x = X)
end Mh
namespace Mh
open Go Go.RowKit
set_option linter.unusedVariables false

/-- The thirteen cells of a field. -/
def fcs (f : Fd) (oa : Option Addr) (oc : Nat) (ia : Option Addr) (ic : Nat) (ka : Option Addr) (kc : Nat) : List Value :=
  [.string f.route, .int .i64 f.kind, .bool f.need, .bool f.bnd, .int .i64 f.mn, .int .i64 f.mx, .slice oa f.one.length oc, .int .i64 f.dv.kd, .bool f.dv.bo, .int .i64 f.dv.nu, .string f.dv.tx, .slice ia f.dv.its.length ic, .slice ka f.dv.kys.length kc]
structure FdIn (w : World) (f : Fd) (oa : Option Addr) (oc : Nat) (ia : Option Addr) (ic : Nat) (ka : Option Addr) (kc : Nat) : Prop where
  rt : f.route.size ≤ maxLen
  kd : (Lit.int .i64 f.kind).wf = true
  mn : (Lit.int .i64 f.mn).wf = true
  mx : (Lit.int .i64 f.mx).wf = true
  one : Ss w (.slice oa f.one.length oc) f.one
  dv : VAt w f.dv (vcs f.dv ia ic ka kc)
def FdAt (w : World) (f : Fd) (cs : List Value) : Prop := ∃ oa oc ia ic ka kc, cs = fcs f oa oc ia ic ka kc ∧ FdIn w f oa oc ia ic ka kc
theorem FdIn.keep {w w' : World} {f : Fd} {oa ia ka : Option Addr} {oc ic kc : Nat} (h : FdIn w f oa oc ia ic ka kc) (hb : Below w.heap.size w w') : FdIn w' f oa oc ia ic ka kc :=
  ⟨h.rt, h.kd, h.mn, h.mx, h.one.below hb, h.dv.keep hb⟩
theorem FdAt.keep {w w' : World} {f : Fd} {cs : List Value} (h : FdAt w f cs) (hb : Below w.heap.size w w') : FdAt w' f cs := by
  obtain ⟨oa, oc, ia, ic, ka, kc, h1, h2⟩ := h
  exact ⟨oa, oc, ia, ic, ka, kc, h1, h2.keep hb⟩
theorem FdAt.mk {w : World} {f : Fd} {ov : Value} {ds : List Value} (h1 : f.route.size ≤ maxLen) (h2 : (Lit.int .i64 f.kind).wf = true) (h3 : (Lit.int .i64 f.mn).wf = true) (h4 : (Lit.int .i64 f.mx).wf = true) (h5 : Ss w ov f.one) (h6 : VAt w f.dv ds) :
    FdAt w f ([.string f.route, .int .i64 f.kind, .bool f.need, .bool f.bnd, .int .i64 f.mn, .int .i64 f.mx, ov] ++ ds) := by
  obtain ⟨oa, oc, rfl, _⟩ := Sl.word h5.1
  obtain ⟨ia, ic, ka, kc, rfl, _⟩ := h6.opened
  exact ⟨oa, oc, ia, ic, ka, kc, rfl, h1, h2, h3, h4, h5, h6⟩
/-- A slice of fields. -/
def FsAt (w : World) (v : Value) (fs : List Fd) : Prop := ∃ rows, Sl 13 w v fs.length rows ∧ ∀ i (h : i < fs.length), ∃ cs, FdAt w fs[i] cs ∧ ∀ j, j < 13 → rows[i * 13 + j]? = cs[j]?
theorem FsAt.keep {w w' : World} {v : Value} {fs : List Fd} (h : FsAt w v fs) (hb : Below w.heap.size w w') : FsAt w' v fs := by
  obtain ⟨rows, h1, h2⟩ := h
  refine ⟨rows, h1.below hb, fun i hi => ?_⟩
  obtain ⟨cs, h3, h4⟩ := h2 i hi
  exact ⟨cs, h3.keep hb, h4⟩
theorem FsAt.field {w : World} {v : Value} {fs : List Fd} (h : FsAt w v fs) :
    ∃ ao c, v = .slice ao fs.length c ∧ fs.length ≤ maxLen ∧ ∀ k (h : k < fs.length), ∃ b off oa oc ia ic ka kc, ao = some ⟨b, off, none⟩ ∧ b < w.heap.size ∧ FdIn w fs[k] oa oc ia ic ka kc ∧
      ∀ j (hj : j < 13), w.cell? ⟨b, off + k * 13 + j, none⟩ = some ((fcs fs[k] oa oc ia ic ka kc)[j]'hj) := by
  obtain ⟨rows, h1, h2⟩ := h
  obtain ⟨ao, c, rfl, hm, hs⟩ := Sl.shp h1
  refine ⟨ao, c, rfl, hm, fun k h => ?_⟩
  obtain ⟨b, off, rfl, _, _, hlt, hc⟩ := hs (by omega)
  obtain ⟨c', ⟨oa, oc, ia, ic, ka, kc, rfl, h4⟩, h5⟩ := h2 k h
  refine ⟨b, off, oa, oc, ia, ic, ka, kc, rfl, hlt, h4, fun j hj => ?_⟩
  rw [Nat.add_assoc]
  exact hc _ _ (by rw [h5 j hj, List.getElem?_eq_getElem hj])
/-- The thirteen cells of a field later on. -/
theorem thirteen_later {w wr : World} {b o : Nat} {f : Fd} {oa ia ka : Option Addr} {oc ic kc : Nat} (hb : Below w.heap.size w wr) (hlt : b < w.heap.size)
    (h : ∀ j (hj : j < 13), w.cell? ⟨b, o + j, none⟩ = some ((fcs f oa oc ia ic ka kc)[j]'hj)) :
    wr.cell? ⟨b, o, none⟩ = some (.string f.route) ∧ wr.cell? ⟨b, o + 1, none⟩ = some (.int .i64 f.kind) ∧ wr.cell? ⟨b, o + 2, none⟩ = some (.bool f.need) ∧ wr.cell? ⟨b, o + 3, none⟩ = some (.bool f.bnd) ∧
      wr.cell? ⟨b, o + 4, none⟩ = some (.int .i64 f.mn) ∧ wr.cell? ⟨b, o + 5, none⟩ = some (.int .i64 f.mx) ∧ wr.cell? ⟨b, o + 6, none⟩ = some (.slice oa f.one.length oc) ∧ wr.cell? ⟨b, o + 7, none⟩ = some (.int .i64 f.dv.kd) ∧
      wr.cell? ⟨b, o + 8, none⟩ = some (.bool f.dv.bo) ∧ wr.cell? ⟨b, o + 9, none⟩ = some (.int .i64 f.dv.nu) ∧ wr.cell? ⟨b, o + 10, none⟩ = some (.string f.dv.tx) ∧ wr.cell? ⟨b, o + 11, none⟩ = some (.slice ia f.dv.its.length ic) ∧
      wr.cell? ⟨b, o + 12, none⟩ = some (.slice ka f.dv.kys.length kc) := by
  have g := fun j (hj : j < 13) => (hb.cell (p := ⟨b, o + j, none⟩) hlt).trans (h j hj)
  exact ⟨g 0 (by omega), g 1 (by omega), g 2 (by omega), g 3 (by omega), g 4 (by omega), g 5 (by omega), g 6 (by omega), g 7 (by omega), g 8 (by omega), g 9 (by omega), g 10 (by omega), g 11 (by omega), g 12 (by omega)⟩
/-- A block of thirteen cells: a field. -/
def box13 (f : Fd) (oa : Option Addr) (oc : Nat) (ia : Option Addr) (ic : Nat) (ka : Option Addr) (kc : Nat) (t : TypeId) : Obj := .cells (fcs f oa oc ia ic ka kc).toArray t
end Mh
