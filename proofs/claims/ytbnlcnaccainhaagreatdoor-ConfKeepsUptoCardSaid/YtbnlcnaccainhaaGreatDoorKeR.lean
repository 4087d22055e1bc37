/- The plain law of keeping, third part: the routes of a right value are steps that lead somewhere. No program. -/
import Derived.Test.YtbnlcnaccainhaaGreatDoorKeQ
namespace Mh
open Go
set_option linter.unusedVariables false

/-- A good part of a route. -/
def goodPart (p : List UInt8) : Prop := isKeyL p = true ∨ isNumL p = true
def stepB (s : ByteArray) : Option St :=
  if isKeyL s.data.toList = true then some ⟨s, 0⟩
  else if isNumL s.data.toList = true then some ⟨⟨#[]⟩, ((Lib.atoi s.data.toList).getD 0).toNat⟩ else none
def stepsL : List ByteArray → Option (List St)
  | [] => some []
  | p :: ps => match stepB p with
    | none => none
    | some s => match stepsL ps with
      | none => none
      | some l => some (s :: l)
def partsB (r : ByteArray) : List ByteArray := Lib.splitB ⟨#[46]⟩ 0 (Lib.countB r ⟨#[46]⟩) r
def stepsB (r : ByteArray) : Option (List St) := if 400 < r.size then none else if r.size = 0 then some [] else stepsL (partsB r)
def bz (l : List UInt8) : ByteArray := ⟨l.toArray⟩
theorem bz_data (l : List UInt8) : (bz l).data.toList = l := rfl
theorem bz_eq (s : ByteArray) : bz s.data.toList = s := rfl
def stOf (p : List UInt8) : St := if isKeyL p = true then ⟨bz p, 0⟩ else ⟨⟨#[]⟩, ((Lib.atoi p).getD 0).toNat⟩
theorem stepB_good {p : List UInt8} (h : goodPart p) : stepB (bz p) = some (stOf p) := by
  unfold stepB stOf
  rw [bz_data]
  by_cases hk : isKeyL p = true
  · rw [if_pos hk, if_pos hk]
  · rw [if_neg hk, if_neg hk, if_pos (h.resolve_left hk)]
theorem stepsL_good : ∀ ps : List (List UInt8), (∀ p ∈ ps, goodPart p) → stepsL (ps.map bz) = some (ps.map stOf) := by
  intro ps
  induction ps with
  | nil => intro _; rfl
  | cons p ps ih =>
    intro h
    simp only [List.map_cons, stepsL]
    rw [stepB_good (h p (by simp)), ih (fun q hq => h q (by simp [hq]))]
/-- Parts with points between. -/
def jn : List (List UInt8) → List UInt8
  | [] => []
  | [p] => p
  | p :: q :: ps => p ++ 46 :: jn (q :: ps)
theorem jn_snoc : ∀ (ps : List (List UInt8)) (p : List UInt8), ps ≠ [] → jn (ps ++ [p]) = jn ps ++ 46 :: p
  | [], _, h => absurd rfl h
  | [a], p, _ => rfl
  | a :: b :: ps, p, _ => by
    have := jn_snoc (b :: ps) p (by simp)
    show a ++ 46 :: jn (b :: ps ++ [p]) = (a ++ 46 :: jn (b :: ps)) ++ 46 :: p
    rw [this]; simp
theorem spl_jn : ∀ ps : List (List UInt8), ps ≠ [] → (∀ p ∈ ps, (46 : UInt8) ∉ p) → spl 46 (jn ps) = ps
  | [], h, _ => absurd rfl h
  | [p], _, h => spl_none 46 p (h p (by simp))
  | p :: q :: ps, _, h => by
    show spl 46 (p ++ 46 :: jn (q :: ps)) = _
    rw [spl_at 46 p _ (h p (by simp)), spl_jn (q :: ps) (by simp) (fun x hx => h x (by simp only [List.mem_cons] at hx ⊢; exact .inr hx))]
theorem jn_len : ∀ (ps : List (List UInt8)), (∀ p ∈ ps, p.length ≤ 40) → (jn ps).length ≤ 41 * ps.length
  | [], _ => by simp [jn]
  | [p], h => by have := h p (by simp); simp [jn]; omega
  | p :: q :: ps, h => by
    have h1 := h p (by simp)
    have h2 := jn_len (q :: ps) (fun x hx => h x (by simp only [List.mem_cons] at hx ⊢; exact .inr hx))
    simp only [jn, List.length_append, List.length_cons] at h2 ⊢
    omega
theorem jn_ne : ∀ (ps : List (List UInt8)), ps ≠ [] → (∀ p ∈ ps, p ≠ []) → jn ps ≠ []
  | [], h, _ => absurd rfl h
  | [p], _, h => h p (by simp)
  | p :: q :: ps, _, _ => by simp [jn]
theorem key_facts {p : List UInt8} (h : isKeyL p = true) : p ≠ [] ∧ p.length ≤ 40 ∧ (46 : UInt8) ∉ p := by
  cases p with
  | nil => cases h
  | cons c l =>
    simp only [isKeyL, Bool.and_eq_true, decide_eq_true_eq, List.all_eq_true] at h
    refine ⟨by simp, by simp; omega, ?_⟩
    intro hm
    rcases List.mem_cons.1 hm with rfl | hm
    · have := h.1.2; revert this; decide
    · have := h.2 46 hm; revert this; decide
theorem num_facts {p : List UInt8} (h : isNumL p = true) : p ≠ [] ∧ p.length ≤ 40 ∧ (46 : UInt8) ∉ p := by
  cases p with
  | nil => cases h
  | cons c l =>
    simp only [isNumL, Bool.and_eq_true, decide_eq_true_eq, Bool.not_eq_true', decide_eq_false_iff_not] at h
    obtain ⟨h1, h2, h3, _⟩ := h
    refine ⟨by simp, by simp; omega, ?_⟩
    simp only [isIntL] at h2
    rw [if_neg h3] at h2
    simp only [Bool.and_eq_true, List.all_eq_true] at h2
    intro hm
    rcases List.mem_cons.1 hm with rfl | hm
    · have := h2.1; revert this; decide
    · have := h2.2 46 hm; revert this; decide
theorem good_part {p : List UInt8} (h : goodPart p) : p ≠ [] ∧ p.length ≤ 40 ∧ (46 : UInt8) ∉ p := h.elim key_facts num_facts
theorem stepsB_jn (ps : List (List UInt8)) (h : ∀ p ∈ ps, goodPart p) (hl : ps.length ≤ 9) (r : ByteArray) (hr : r.data.toList = jn ps) : stepsB r = some (ps.map stOf) := by
  have hsz : r.size = (jn ps).length := by rw [← hr]; simp
  have h1 := jn_len ps (fun p hp => (good_part (h p hp)).2.1)
  unfold stepsB
  rw [if_neg (by omega)]
  by_cases hp : ps = []
  · subst hp
    rw [if_pos (by rw [hsz]; rfl)]
    rfl
  · have h2 := jn_ne ps hp (fun p hp => (good_part (h p hp)).1)
    rw [if_neg (by rw [hsz]; intro h0; exact h2 (List.eq_nil_of_length_eq_zero h0))]
    have h3 : (partsB r).map (·.data.toList) = ps := by
      unfold partsB
      rw [splitB_spl, hr, spl_jn ps hp (fun p hp => (good_part (h p hp)).2.2)]
    have h4 : partsB r = ps.map bz := by
      rw [← h3, List.map_map]
      conv => lhs; rw [← List.map_id (partsB r)]
      exact List.map_congr_left (fun s _ => (bz_eq s).symm)
    rw [h4]
    exact stepsL_good ps h

/-! Numerals. -/
theorem decFrom_dfold : ∀ (l : List UInt8) (a : Nat), (∀ c ∈ l, 48 ≤ c.toNat ∧ c.toNat ≤ 57) → Lib.decFrom a l = some (l.foldl (fun n c => 10 * n + (c.toNat - 48)) a) := by
  intro l
  induction l with
  | nil => intro a _; rfl
  | cons c l ih =>
    intro a h
    have hc := h c (by simp)
    simp only [Lib.decFrom, Lib.digitVal, if_pos hc]
    rw [ih _ (fun x hx => h x (by simp [hx])), List.foldl_cons, Nat.mul_comm a 10]
theorem atoi_dec (n : Nat) : Lib.atoi (Lib.decDigits n) = some (n : Int) := by
  have hd := dec_digit n
  have hv := dec_val n
  have hn := dec_ne n
  cases hl : Lib.decDigits n with
  | nil => exact absurd hl hn
  | cons c r =>
    rw [hl] at hd hv
    have hc := hd c (by simp)
    have h1 : (c == 45) = false := by
      rw [beq_eq_false_iff_ne]; rintro rfl; revert hc; decide
    have h2 : (c == 43) = false := by
      rw [beq_eq_false_iff_ne]; rintro rfl; revert hc; decide
    simp only [Lib.atoi, h1, h2, Bool.false_eq_true, if_false, Lib.decNat, List.isEmpty_cons]
    rw [decFrom_dfold _ 0 hd]
    show Option.map _ (some (dval (c :: r))) = _
    rw [hv]; rfl
theorem decK_len : ∀ (k n : Nat), n < 10 ^ (k + 1) → (Lib.decDigits n).length ≤ k + 1 := by
  intro k
  induction k with
  | zero => intro n h; rw [decDigits_small (by simpa using h)]; exact Nat.le_refl _
  | succ k ih =>
    intro n h
    by_cases h9 : n < 10
    · rw [decDigits_small h9]; simp
    · rw [decDigits_big h9]
      have := ih (n / 10) (by rw [Nat.pow_succ] at h; omega)
      simp; omega
theorem dec_num (n : Nat) (h : n < 10000) : isNumL (Lib.decDigits n) = true ∧ isKeyL (Lib.decDigits n) = false := by
  have hd := dec_digit n
  have hlen := decK_len 3 n h
  have hh := dec_head n
  have h0 : Lib.decDigits 0 = [48] := decDigits_small (by omega)
  cases hl : Lib.decDigits n with
  | nil => exact absurd hl (dec_ne n)
  | cons c r =>
    rw [hl] at hd hlen
    have hc := hd c (by simp)
    constructor
    · simp only [isNumL, isIntL, Bool.and_eq_true, decide_eq_true_eq, Bool.not_eq_true', decide_eq_false_iff_not]
      refine ⟨by simp at hlen; omega, ?_, by omega, ?_⟩
      · rw [if_neg (by omega)]
        simp only [Bool.and_eq_true, List.all_eq_true, digB, decide_eq_true_eq]
        exact ⟨hc, fun x hx => hd x (by simp [hx])⟩
      · by_cases hn : n = 0
        · subst hn
          rw [h0] at hl
          cases hl
          rfl
        · have := hh (by omega)
          rw [hl] at this
          have hc8 : c.toNat ≠ 48 := fun e => this (by simp only [List.head?_cons, Option.some.injEq]; exact UInt8.toNat_inj.1 (by rw [e]; rfl))
          simp [hc8]
    · simp only [isKeyL, smallB]
      have : decide (97 ≤ c.toNat ∧ c.toNat ≤ 122) = false := decide_eq_false (by omega)
      rw [this]; simp
theorem stOf_dec (n : Nat) (h : n < 10000) : stOf (Lib.decDigits n) = ⟨⟨#[]⟩, n⟩ := by
  unfold stOf
  rw [if_neg (by rw [(dec_num n h).2]; simp), atoi_dec]
  rfl

/-! Routes. -/
def joinR (r p : ByteArray) : ByteArray := if r.size = 0 then p else r ++ ⟨#[46]⟩ ++ p
def partB (k : Int) (ks : List ByteArray) (i : Nat) : ByteArray := if k = 6 then ks.getD i ⟨#[]⟩ else bz (Lib.decDigits i)
mutual
def V.rts : V → ByteArray → List ByteArray
  | .mk k b n t [] ks, r => [r]
  | .mk k b n t (x :: xs) ks, r => V.rtss k ks (x :: xs) 0 r
def V.rtss : Int → List ByteArray → List V → Nat → ByteArray → List ByteArray
  | _, _, [], _, _ => []
  | k, ks, x :: xs, i, r => V.rts x (joinR r (partB k ks i)) ++ V.rtss k ks xs (i + 1) r
end
theorem rtss_mem (k : Int) (ks : List ByteArray) (r q : ByteArray) : ∀ (xs : List V) (i : Nat), q ∈ V.rtss k ks xs i r → ∃ j, ∃ h : j < xs.length, q ∈ V.rts xs[j] (joinR r (partB k ks (i + j))) := by
  intro xs
  induction xs with
  | nil => intro i h; simp [V.rtss] at h
  | cons x xs ih =>
    intro i h
    simp only [V.rtss] at h
    rcases List.mem_append.1 h with h | h
    · exact ⟨0, by simp, h⟩
    · obtain ⟨j, hj, hq⟩ := ih (i + 1) h
      exact ⟨j + 1, by simp; omega, by rw [show i + (j + 1) = i + 1 + j by omega]; exact hq⟩
theorem joinR_jn (r p : ByteArray) (ps : List (List UInt8)) (h : ∀ q ∈ ps, goodPart q) (hr : r.data.toList = jn ps) : (joinR r p).data.toList = jn (ps ++ [p.data.toList]) := by
  unfold joinR
  have hsz : r.size = (jn ps).length := by rw [← hr]; simp
  by_cases hp : ps = []
  · subst hp
    rw [if_pos (by rw [hsz]; rfl)]
    rfl
  · have h2 := jn_ne ps hp (fun p hp => (good_part (h p hp)).1)
    rw [if_neg (by rw [hsz]; intro h0; exact h2 (List.eq_nil_of_length_eq_zero h0)), jn_snoc ps _ hp, ← hr]
    simp
theorem rts_ok : ∀ (N : Nat) (v : V), sizeOf v < N → v.good → v.cnt ≤ 1000 → ∀ (r : ByteArray) (ps : List (List UInt8)), r.data.toList = jn ps → (∀ p ∈ ps, goodPart p) → ∀ q ∈ V.rts v r,
    ∃ ts : List (List UInt8), q.data.toList = jn (ps ++ ts) ∧ (∀ p ∈ ts, goodPart p) ∧ ts.length < v.lev ∧ (getV v (ts.map stOf)).isSome = true := by
  intro N
  induction N with
  | zero => intro v h; omega
  | succ N ih =>
    rintro ⟨k, b, n, t, is, ks⟩ hN hg hc r ps hr hps q hq
    have hf := good_facts hg
    have hcf := cnt_facts hc
    cases is with
    | nil =>
      simp only [V.rts, List.mem_cons, List.not_mem_nil, or_false] at hq
      subst hq
      exact ⟨[], by rw [List.append_nil]; exact hr, by simp, by simp only [V.lev, V.levs, List.length_nil]; omega, rfl⟩
    | cons x xs =>
      have hN' := hN
      unfold V.rts at hq
      obtain ⟨j, hj, hq⟩ := rtss_mem k ks r q (x :: xs) 0 hq
      rw [Nat.zero_add] at hq
      generalize hX : x :: xs = is at *
      have hm : is[j] ∈ is := List.getElem_mem hj
      have hpart : goodPart (partB k ks j).data.toList ∧ followV (.mk k b n t is ks) (stOf (partB k ks j).data.toList) = some is[j] := by
        rcases hf.2.2.1 (by rw [its_mk, ← hX]; simp) with h5 | h6
        · rw [kd_mk] at h5
          subst h5
          have hlt : j < 10000 := by have := hcf.1; rw [its_mk] at this; omega
          unfold partB
          rw [if_neg (by omega), bz_data]
          refine ⟨.inr (dec_num j hlt).1, ?_⟩
          rw [stOf_dec j hlt, follow_list rfl, List.getElem?_eq_getElem hj]
        · rw [kd_mk] at h6
          subst h6
          have hl := hf.2.1 rfl
          rw [kys_mk, its_mk] at hl
          have hjk : j < ks.length := by omega
          have hkey := hf.2.2.2.2 ks[j] (List.getElem_mem hjk)
          unfold partB
          rw [if_pos rfl, show ks.getD j ⟨#[]⟩ = ks[j] by simp [List.getD, hjk]]
          refine ⟨.inl hkey, ?_⟩
          have hst : stOf ks[j].data.toList = ⟨ks[j], 0⟩ := by unfold stOf; rw [if_pos hkey]; rfl
          have hk0 : (⟨ks[j], 0⟩ : St).k0 = false := by
            show (ks[j].size == 0) = false
            rw [beq_eq_false_iff_ne]
            intro h0
            have := (key_facts hkey).1
            exact this (List.eq_nil_of_length_eq_zero (by simpa using h0))
          have hlow := low_at ks hf.1 j hjk
          rw [hst, follow_tab hk0]
          show (if hit ks[j] ks = true then is[low ks[j] ks]? else none) = _
          rw [if_pos (by unfold hit; rw [hlow]; exact decide_eq_true (List.getElem?_eq_getElem hjk)), hlow, List.getElem?_eq_getElem hj]
      obtain ⟨hp1, hp2⟩ := hpart
      obtain ⟨ts, h1, h2, h3, h4⟩ := ih is[j] (by have := size_item (k := k) (b := b) (n := n) (t := t) (ks := ks) hm; omega) (hf.2.2.2.1 _ hm) (hcf.2 _ hm) (joinR r (partB k ks j)) (ps ++ [(partB k ks j).data.toList]) (joinR_jn r _ ps hps hr)
        (fun p hp => by
          rcases List.mem_append.1 hp with hp | hp
          · exact hps p hp
          · simp only [List.mem_cons, List.not_mem_nil, or_false] at hp; rw [hp]; exact hp1) q hq
      refine ⟨(partB k ks j).data.toList :: ts, by rw [h1]; simp, ?_, ?_, ?_⟩
      · intro p hp
        rcases List.mem_cons.1 hp with rfl | hp
        · exact hp1
        · exact h2 p hp
      · have := lev_item (v := .mk k b n t is ks) (x := is[j]) hm
        simp only [List.length_cons]
        omega
      · simp only [List.map_cons]
        unfold getV
        rw [hp2]
        exact h4
/-- What Check asks. -/
def V.okc (v : V) : Prop := v.cnt ≤ 1000 ∧ v.lev ≤ 8 ∧ v.good
theorem routes_found {v : V} (h : v.okc) : ∀ q ∈ V.rts v ⟨#[]⟩, ∃ l, stepsB q = some l ∧ (getV v l).isSome = true := by
  intro q hq
  obtain ⟨ts, h1, h2, h3, h4⟩ := rts_ok _ v (Nat.lt_succ_self _) h.2.2 h.1 ⟨#[]⟩ [] rfl (by simp) q hq
  exact ⟨ts.map stOf, stepsB_jn ts h2 (by have := h.2.1; omega) q (by simpa using h1), h4⟩
end Mh
