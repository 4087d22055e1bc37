/- What the reader of settings gives is a right table. No program. -/
import Derived.Test.YtejnoedlfbglcaaGreatDoorPaP
namespace Mh
open Go Cal
set_option linter.unusedVariables false

theorem escB_ok {d e : UInt8} (h : escB d = some e) : ctlB e = false := by
  unfold escB at h
  split at h
  · cases h; decide
  split at h
  · cases h; decide
  split at h
  · cases h; decide
  split at h
  · cases h; decide
  · cases h
theorem badL_cons {c : UInt8} {l : List UInt8} (hc : ctlB c = false) (hl : badL l = false) : badL (c :: l) = false := by
  unfold badL at hl ⊢
  rw [List.any_cons, hl, Bool.or_false]
  exact hc
theorem textF_ok : ∀ (n : Nat) (l o r : List UInt8), l.length ≤ n → textF l = some (o, r) → badL o = false := by
  intro n
  induction n with
  | zero => intro l o r hl h; cases l with
    | nil => simp [textF] at h
    | cons a l => simp at hl
  | succ n ih =>
    intro l o r hl h
    cases l with
    | nil => simp [textF] at h
    | cons c l =>
      unfold textF at h
      split at h
      · cases h; rfl
      split at h
      · cases h
      split at h
      · cases h
      rename_i _ _ hctl
      have hctl : ctlB c = false := by simpa using hctl
      split at h
      · cases l with
        | nil => simp at h
        | cons d l' =>
          simp only at h
          cases he : escB d with
          | none => rw [he] at h; cases h
          | some e =>
            rw [he] at h
            cases ht : textF l' with
            | none => rw [ht] at h; cases h
            | some p =>
              obtain ⟨o', r'⟩ := p
              rw [ht] at h
              cases h
              exact badL_cons (escB_ok he) (ih l' _ _ (by simp at hl; omega) ht)
      · cases ht : textF l with
        | none => rw [ht] at h; cases h
        | some p =>
          obtain ⟨o', r'⟩ := p
          rw [ht] at h
          cases h
          exact badL_cons hctl (ih l _ _ (by simpa using hl) ht)
/-- A token of a string has no control bytes. -/
def Tk.clean : Tk → Prop
  | .text t => badL t = false
  | _ => True
theorem nextF_clean (lines : Bool) : ∀ (l : List UInt8) (cm : Bool) (t : Tk) (r : List UInt8), nextF lines cm l = some (t, r) → t.clean := by
  intro l
  induction l with
  | nil => intro cm t r h; simp only [nextF, Option.some.injEq, Prod.mk.injEq] at h; obtain ⟨rfl, rfl⟩ := h; exact trivial
  | cons c l ih =>
    intro cm t r h
    unfold nextF at h
    split at h
    · cases h
    split at h
    · split at h
      · exact ih _ _ _ h
      · cases h; exact trivial
    split at h
    · exact ih _ _ _ h
    split at h
    · exact ih _ _ _ h
    split at h
    · cases h; exact trivial
    split at h
    · cases ht : textF l with
      | none => rw [ht] at h; cases h
      | some p =>
        obtain ⟨o, r'⟩ := p
        rw [ht] at h
        cases h
        exact textF_ok _ _ _ _ (Nat.le_refl _) ht
    split at h
    · cases h; exact trivial
    · cases h
theorem skipF_clean : ∀ (n : Nat) (t : Tk) (r : List UInt8) (t' : Tk) (r' : List UInt8), t.clean → skipF n t r = some (t', r') → t'.clean := by
  intro n
  induction n with
  | zero => intro t r t' r' _ h; simp [skipF] at h
  | succ n ih =>
    intro t r t' r' ht h
    unfold skipF at h
    split at h
    · cases hn : nextF false false r with
      | none => rw [hn] at h; cases h
      | some p =>
        obtain ⟨t1, r1⟩ := p
        rw [hn] at h
        exact ih _ _ _ _ (nextF_clean _ _ _ _ _ hn) h
    · cases h; exact ht
theorem goods_of : ∀ is : List V, (∀ x ∈ is, x.good) → V.goods is := by
  intro is
  induction is with
  | nil => intro _; simp [V.goods]
  | cons x is ih => intro h; simp only [V.goods]; exact ⟨h x (by simp), ih fun y hy => h y (by simp [hy])⟩
theorem rngs_of : ∀ is : List V, (∀ x ∈ is, x.rng) → V.rngs is := by
  intro is
  induction is with
  | nil => intro _; simp [V.rngs]
  | cons x is ih => intro h; simp only [V.rngs]; exact ⟨h x (by simp), ih fun y hy => h y (by simp [hy])⟩
theorem levs_of (d : Nat) : ∀ (is : List V) (m : Nat), m ≤ d → (∀ x ∈ is, x.lev ≤ d) → V.levs is m ≤ d := by
  intro is
  induction is with
  | nil => intro m hm _; simpa [V.levs] using hm
  | cons x is ih => intro m hm h; simp only [V.levs]; exact ih _ (Nat.max_le.2 ⟨hm, h x (by simp)⟩) fun y hy => h y (by simp [hy])
theorem keys_of {ks : List ByteArray} (h : Asc ks) (hk : ∀ k ∈ ks, isKeyL k.data.toList = true) : keysOk ks := by
  intro i hi
  exact ⟨hk _ (List.getElem_mem hi), fun h0 => List.pairwise_iff_getElem.1 h (i - 1) i (by omega) hi (by omega)⟩
theorem asc_putF {k : ByteArray} {ks : List ByteArray} (h : Asc ks) (hh : hit k ks = false) : Asc (ks.take (low k ks) ++ k :: ks.drop (low k ks)) := by
  obtain ⟨h1, h2⟩ := low_split k ks h
  have hp : Asc (ks.take (low k ks) ++ ks.drop (low k ks)) := by rw [List.take_append_drop]; exact h
  obtain ⟨p1, p2, p3⟩ := List.pairwise_append.1 hp
  have hd : ∀ x ∈ ks.drop (low k ks), kl k x = true := by
    intro x hx
    have hxk := h2 x hx
    by_cases hk : kl k x = true
    · exact hk
    · exfalso
      have e : x = k := kl_total hxk (by simpa using hk)
      subst e
      cases hds : ks.drop (low x ks) with
      | nil => rw [hds] at hx; simp at hx
      | cons a l =>
        have ha : ks[low x ks]? = some a := by
          have := congrArg List.head? hds
          rw [List.head?_drop] at this
          exact this
        rw [hds] at hx
        rcases List.mem_cons.1 hx with rfl | hx
        · unfold hit at hh
          rw [ha] at hh
          simp at hh
        · rw [hds] at p2
          have hax := (List.pairwise_cons.1 p2).1 x hx
          have := h2 a (by rw [hds]; simp)
          rw [hax] at this; cases this
  refine List.pairwise_append.2 ⟨p1, List.pairwise_cons.2 ⟨hd, p2⟩, fun a ha b hb => ?_⟩
  rcases List.mem_cons.1 hb with rfl | hb
  · exact h1 a ha
  · exact p3 a ha b hb
/-- What a read value is. -/
structure Rd (d : Nat) (x : V) : Prop where
  good : x.good
  rng : x.rng
  lev : x.lev ≤ d
/-- What a table that is read has. -/
structure RdT (d : Nat) (t : V) : Prop where
  form : ∃ is ks, t = .mk 6 false 0 ⟨#[]⟩ is ks ∧ ks.length = is.length ∧ Asc ks ∧ (∀ k ∈ ks, isKeyL k.data.toList = true) ∧ ∀ x ∈ is, Rd d x
theorem okN0 : okN 0 := ⟨by decide, by decide⟩
theorem RdT.rd {d : Nat} {t : V} (h : RdT d t) : Rd (d + 1) t := by
  obtain ⟨is, ks, rfl, hl, ha, hk, hx⟩ := h
  refine ⟨?_, ?_, ?_⟩
  · simp only [V.good, V.good1]
    refine ⟨⟨⟨by decide, by decide⟩, ?_, fun e => by have := e.1; omega, by decide, by decide, keys_of ha hk⟩, goods_of is fun x h => (hx x h).good⟩
    simp [unusedV, hl]
    decide
  · simp only [V.rng]
    exact ⟨okN0, rngs_of is fun x h => (hx x h).rng⟩
  · simp only [V.lev]
    have := levs_of d is 0 (Nat.zero_le _) fun x h => (hx x h).lev
    omega
theorem rd_list {d : Nat} {is : List V} (hx : ∀ x ∈ is, Rd d x) : Rd (d + 1) (.mk 5 false 0 ⟨#[]⟩ is []) := by
  refine ⟨?_, ?_, ?_⟩
  · simp only [V.good, V.good1]
    refine ⟨⟨⟨by decide, by decide⟩, ?_, fun e => by have := e.1; omega, by decide, by decide, keys_of List.Pairwise.nil (by simp)⟩, goods_of is fun x h => (hx x h).good⟩
    simp [unusedV]
    decide
  · simp only [V.rng]
    exact ⟨okN0, rngs_of is fun x h => (hx x h).rng⟩
  · simp only [V.lev]
    have := levs_of d is 0 (Nat.zero_le _) fun x h => (hx x h).lev
    omega
theorem rd_leaf {d : Nat} {k : Int} {b : Bool} {n : Int} {t : ByteArray} (h : (V.mk k b n t [] []).good1) (hn : okN n) : Rd (d + 1) (.mk k b n t [] []) := by
  refine ⟨?_, ?_, ?_⟩
  · simp only [V.good, V.goods]; exact ⟨h, trivial⟩
  · simp only [V.rng, V.rngs]; exact ⟨hn, trivial⟩
  · simp only [V.lev, V.levs]; omega
theorem dayF_ok {l : List UInt8} {n : Int} (h : dayF l = some n) : 0 ≤ n ∧ n ≤ 84005 := by
  unfold dayF at h
  split at h
  · split at h
    · simp only at h
      split at h
      · rename_i hy
        cases h
        obtain ⟨h1, h2, h3, h4, h5, h6⟩ := hy
        have hymd : ∃ Y M N : Nat, True := ⟨0, 0, 0, trivial⟩
        revert h1 h2 h3 h4 h5 h6
        generalize 1000 * dg _ + 100 * dg _ + 10 * dg _ + dg _ = Y
        generalize 10 * dg _ + dg _ = M
        generalize 10 * dg _ + dg _ = N
        intro h1 h2 h3 h4 h5 h6
        have b1 : bef 1970 ≤ bef (Y : Int) := bef_mono 1970 Y (by omega)
        have b2 : bef ((Y : Int) + 1) ≤ bef 2200 := bef_mono _ 2200 (by omega)
        rw [bef_succ] at b2
        have e0 : bef 1970 = 0 := by decide
        have e1 : bef 2200 = 84006 := by decide
        have c1 : 0 ≤ cum (Y : Int) M := (cum_bd Y M).1
        have c2 := cum_up (Y : Int) M h3 (12 - M)
        rw [show M + 1 + (12 - M) = 13 by omega, cum_13] at c2
        constructor <;> omega
      · cases h
    · cases h
  · cases h
theorem wordF_ok {d : Nat} {w : List UInt8} {v : V} (h : wordF w = some v) : Rd (d + 1) v ∧ v.nodes = 1 := by
  have lf : ∀ (k : Int) (b : Bool) (n : Int) (t : ByteArray), (V.mk k b n t [] []).nodes = 1 := fun k b n t => by simp [V.nodes, V.nodess]
  unfold wordF at h
  split at h
  · cases h; exact ⟨rd_leaf (by simp only [V.good1]; exact ⟨by decide, by decide, by decide, by decide, by decide, keys_of List.Pairwise.nil (by simp)⟩) okN0, lf _ _ _ _⟩
  split at h
  · cases h; exact ⟨rd_leaf (by simp only [V.good1]; exact ⟨by decide, by decide, by decide, by decide, by decide, keys_of List.Pairwise.nil (by simp)⟩) okN0, lf _ _ _ _⟩
  split at h
  · cases h; exact ⟨rd_leaf (by simp only [V.good1]; exact ⟨by decide, by decide, by decide, by decide, by decide, keys_of List.Pairwise.nil (by simp)⟩) okN0, lf _ _ _ _⟩
  split at h
  · split at h
    · cases h
    · split at h
      · cases h
      · split at h
        · rename_i n hn hr
          cases h
          refine ⟨rd_leaf ?_ hr, lf _ _ _ _⟩
          simp only [V.good1]
          refine ⟨by decide, ?_, by simp, by decide, by decide, keys_of List.Pairwise.nil (by simp)⟩
          simp [unusedV]; decide
        · cases h
  · split at h
    · cases h
    · rename_i n hd
      cases h
      have hb := dayF_ok hd
      refine ⟨rd_leaf ?_ ⟨by omega, by omega⟩, lf _ _ _ _⟩
      simp only [V.good1]
      refine ⟨by decide, ?_, by omega, by decide, by decide, keys_of List.Pairwise.nil (by simp)⟩
      simp [unusedV]; decide
/-- What a reader of values gives. -/
def ValR (d : Nat) (val : Tk → List UInt8 → Nat → Option (V × List UInt8 × Nat)) : Prop := ∀ tok r k v r' k', Tk.clean tok → val tok r k = some (v, r', k') → Rd d v ∧ k' = k + v.nodes ∧ k' ≤ 1000
theorem listF_ok {d : Nat} {val : Tk → List UInt8 → Nat → Option (V × List UInt8 × Nat)} (hv : ValR d val) : ∀ (n : Nat) (r : List UInt8) (k : Nat) (is : List V) (is' : List V) (r' : List UInt8) (k' : Nat), k ≤ 1000 → (∀ x ∈ is, Rd d x) → listF val n r k is = some (is', r', k') →
    (∀ x ∈ is', Rd d x) ∧ k' + V.nodess is = k + V.nodess is' ∧ k' ≤ 1000 := by
  intro n
  induction n with
  | zero => intro r k is is' r' k' _ _ h; simp [listF] at h
  | succ n ih =>
    intro r k is is' r' k' hk hi h
    unfold listF at h
    cases hn : nextF true false r with
    | none => rw [hn] at h; cases h
    | some p =>
      obtain ⟨tok, r2⟩ := p
      rw [hn] at h
      simp only at h
      split at h
      · cases h; exact ⟨hi, rfl, hk⟩
      · cases hx : val tok r2 k with
        | none => rw [hx] at h; cases h
        | some p =>
          obtain ⟨x, r3, k3⟩ := p
          rw [hx] at h
          simp only at h
          obtain ⟨h1, h2, h3⟩ := hv _ _ _ _ _ _ (nextF_clean _ _ _ _ _ hn) hx
          obtain ⟨g1, g2, g3⟩ := ih r3 k3 (is ++ [x]) is' r' k' h3 (fun y hy => by
            rcases List.mem_append.1 hy with hy | hy
            · exact hi y hy
            · simp only [List.mem_singleton] at hy; subst hy; exact h1) h
          refine ⟨g1, ?_, g3⟩
          rw [nodess_app] at g2
          simp only [V.nodess] at g2
          omega
theorem RdT.put {d : Nat} {t x : V} {k : ByteArray} (h : RdT d t) (hx : Rd d x) (hk : isKeyL k.data.toList = true) (hh : hit k t.kys = false) : RdT d (putV t k x) ∧ (putV t k x).nodes = t.nodes + x.nodes := by
  obtain ⟨is, ks, rfl, hl, ha, hks, hxs⟩ := h
  have hlow := low_le k ks
  have hpa : putAt k ks = low k ks := by
    have : hit k ks = false := hh
    unfold putAt; rw [this]; simp
  unfold putV
  simp only [V.kys, V.its, hpa]
  refine ⟨⟨_, _, rfl, ?_, asc_putF ha hh, ?_, ?_⟩, ?_⟩
  · simp only [List.length_append, List.length_cons, List.length_take, List.length_drop]; omega
  · intro q hq
    rcases List.mem_append.1 hq with hq | hq
    · exact hks q (List.mem_of_mem_take hq)
    · rcases List.mem_cons.1 hq with rfl | hq
      · exact hk
      · exact hks q (List.mem_of_mem_drop hq)
  · intro q hq
    rcases List.mem_append.1 hq with hq | hq
    · exact hxs q (List.mem_of_mem_take hq)
    · rcases List.mem_cons.1 hq with rfl | hq
      · exact hx
      · exact hxs q (List.mem_of_mem_drop hq)
  · simp only [V.nodes]
    rw [nodess_app]
    simp only [V.nodess]
    have e : V.nodess is = V.nodess (is.take (low k ks)) + V.nodess (is.drop (low k ks)) := by rw [← nodess_app, List.take_append_drop]
    omega
theorem entriesF_ok {d : Nat} {val : Tk → List UInt8 → Nat → Option (V × List UInt8 × Nat)} (hv : ValR d val) (brace : Bool) : ∀ (n : Nat) (tok : Tk) (r : List UInt8) (k : Nat) (t t' : V) (r' : List UInt8) (k' : Nat), k ≤ 1000 → tok.clean → RdT d t → entriesF val brace n tok r k t = some (t', r', k') →
    RdT d t' ∧ k' + t.nodes = k + t'.nodes ∧ k' ≤ 1000 := by
  intro n
  induction n with
  | zero => intro tok r k t t' r' k' _ _ _ h; simp [entriesF] at h
  | succ n ih =>
    intro tok r k t t' r' k' hk hc ht h
    unfold entriesF at h
    cases hs : skipF (r.length + 2) tok r with
    | none => rw [hs] at h; cases h
    | some p =>
      obtain ⟨tok1, r1⟩ := p
      rw [hs] at h
      simp only at h
      split at h
      · cases h; exact ⟨ht, rfl, hk⟩
      · cases tok1 with
        | word w =>
          simp only at h
          split at h
          · cases h
          rename_i hkey
          split at h
          · cases h
          rename_i hhit
          cases hn : nextF false false r1 with
          | none => rw [hn] at h; cases h
          | some p =>
            obtain ⟨tok2, r2⟩ := p
            rw [hn] at h
            simp only at h
            cases hx : val tok2 r2 k with
            | none => rw [hx] at h; cases h
            | some p =>
              obtain ⟨x, r3, k3⟩ := p
              rw [hx] at h
              simp only at h
              obtain ⟨h1, h2, h3⟩ := hv _ _ _ _ _ _ (nextF_clean _ _ _ _ _ hn) hx
              cases hn4 : nextF false false r3 with
              | none => rw [hn4] at h; cases h
              | some p =>
                obtain ⟨tok4, r4⟩ := p
                rw [hn4] at h
                simp only at h
                split at h
                · obtain ⟨p1, p2⟩ := ht.put h1 (k := ⟨w.toArray⟩) (by simpa using hkey) (by simpa using hhit)
                  obtain ⟨g1, g2, g3⟩ := ih _ _ _ _ _ _ _ h3 (nextF_clean _ _ _ _ _ hn4) p1 h
                  exact ⟨g1, by omega, g3⟩
                · cases h
        | _ => simp at h
theorem rdt_nil (d : Nat) : RdT d (.mk 6 false 0 ⟨#[]⟩ [] []) := ⟨[], [], rfl, rfl, List.Pairwise.nil, by simp, by simp⟩
theorem valueF_ok : ∀ d, ValR d (valueF d) := by
  intro d
  induction d with
  | zero => intro tok r k v r' k' _ h; simp [valueF] at h
  | succ d ih =>
    intro tok r k v r' k' hc h
    unfold valueF at h
    split at h
    · cases h
    rename_i hk
    cases tok with
    | fin => simp at h
    | word w =>
      simp only at h
      cases hw : wordF w with
      | none => rw [hw] at h; cases h
      | some x =>
        rw [hw] at h
        cases h
        obtain ⟨h1, h2⟩ := wordF_ok (d := d) hw
        exact ⟨h1, by omega, by omega⟩
    | text s =>
      simp only at h
      split at h
      · cases h
      · rename_i hs
        cases h
        have hn : (V.mk 3 false 0 ⟨s.toArray⟩ [] []).nodes = 1 := by simp [V.nodes, V.nodess]
        refine ⟨rd_leaf ?_ okN0, by omega, by omega⟩
        simp only [V.good1]
        refine ⟨by decide, ?_, by decide, ?_, hc, keys_of List.Pairwise.nil (by simp)⟩
        · simp [unusedV]
        · show s.toArray.size ≤ 5000
          simp; omega
    | sign c =>
      simp only at h
      split at h
      · cases hl : listF (valueF d) (r.length + 1) r (k + 1) [] with
        | none => rw [hl] at h; cases h
        | some p =>
          obtain ⟨is, r2, k2⟩ := p
          rw [hl] at h
          cases h
          obtain ⟨g1, g2, g3⟩ := listF_ok ih _ _ _ _ _ _ _ (by omega) (by simp) hl
          refine ⟨rd_list g1, ?_, g3⟩
          simp only [V.nodes, V.nodess] at g2 ⊢
          omega
      · split at h
        · cases hn : nextF false false r with
          | none => rw [hn] at h; cases h
          | some p =>
            obtain ⟨t, r2⟩ := p
            rw [hn] at h
            simp only at h
            obtain ⟨g1, g2, g3⟩ := entriesF_ok ih true _ _ _ _ _ _ _ _ (by omega) (nextF_clean _ _ _ _ _ hn) (rdt_nil d) h
            refine ⟨g1.rd, ?_, g3⟩
            simp only [V.nodes, V.nodess] at g2 ⊢
            omega
        · cases h
/-- What is read is right. -/
theorem parse_ok {l : List UInt8} {v : V} (h : parseF l = some v) : v.okc ∧ v.kd = 6 ∧ v.rng := by
  unfold parseF at h
  split at h
  · cases h
  cases hn : nextF false false l with
  | none => rw [hn] at h; cases h
  | some p =>
    obtain ⟨t, r⟩ := p
    rw [hn] at h
    simp only at h
    cases he : entriesF (valueF 7) false (r.length + 1) t r 1 (.mk 6 false 0 ⟨#[]⟩ [] []) with
    | none => rw [he] at h; cases h
    | some p =>
      obtain ⟨x, r2, k2⟩ := p
      rw [he] at h
      cases h
      obtain ⟨g1, g2, g3⟩ := entriesF_ok (valueF_ok 7) false _ _ _ _ _ _ _ _ (by omega) (nextF_clean _ _ _ _ _ hn) (rdt_nil 7) he
      have hrd := g1.rd
      have hk : v.kd = 6 := by obtain ⟨is, ks, rfl, _⟩ := g1; rfl
      have hc := cnt_nodes v
      simp only [V.nodes, V.nodess] at g2
      exact ⟨⟨by omega, hrd.lev, hrd.good⟩, hk, hrd.rng⟩
end Mh
