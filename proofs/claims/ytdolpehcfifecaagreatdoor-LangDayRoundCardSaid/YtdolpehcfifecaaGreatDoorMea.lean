/- Days by a pattern: the pattern's fields, their text, and how a text is read back. No program. · The library's table of powers of ten, for Itoa. · lang.takeDigits: what it takes. Conditions: a string's size, at most four digits. · lang.takeName where a name is there; lang.padded. Conditions: sizes; the library's table of powers of ten is laid. · lang.fields: the plain steps; rows of fields in memory. No program but the row's own type. -/
import Derived.Test.YtdolpehcfifecaaGreatDoorBase
import Derived.Test.YtdolpehcfifecaaGreatDoorDec10
import Derived.Test.YtdolpehcfifecaaGreatDoorKePl
import Derived.Test.YtdolpehcfifecaaGreatDoorMgP
import Derived.Test.YtdolpehcfifecaaGreatDoorShelf
import Derived.Test.YtdolpehcfifecaaGreatDoorKept
import Derived.Lib.SmallJoins
import Derived.Lib.AppendIntMem
import Derived.Test.YtdolpehcfifecaaGreatDoorMgT
import Derived.RegionTactic
import Derived.Deep.RegionLaw
import Derived.Test.YtdolpehcfifecaaGreatDoorKeVm
import Derived.Test.YtdolpehcfifecaaGreatDoorMgZ
import Derived.Test.YtdolpehcfifecaaGreatDoorMbh
import Derived.Test.YtdolpehcfifecaaGreatDoorShp
import Derived.Lib.Hide
namespace Mh
open Go Go.RowKit
set_option linter.unusedVariables false
/-- A field of a pattern: a word, or a byte. -/
structure Df where
  w : ByteArray
  c : UInt8
def wY : ByteArray := ⟨#[121, 121, 121, 121]⟩
def wMN : ByteArray := ⟨#[77, 77, 77, 77]⟩
def wWN : ByteArray := ⟨#[87, 87, 87, 87]⟩
def wM2 : ByteArray := ⟨#[109, 109]⟩
def wD2 : ByteArray := ⟨#[100, 100]⟩
def wM1 : ByteArray := ⟨#[109]⟩
def wD1 : ByteArray := ⟨#[100]⟩
def words7 : List ByteArray := [wY, wMN, wWN, wM2, wD2, wM1, wD1]
/-- The word that stands at the beginning; empty: none. -/
def wordOfL (l : List UInt8) : ByteArray := ((words7.find? fun w => Lib.hasPrefix l w.data.toList)).getD ⟨#[]⟩
def fieldsL : Nat → List UInt8 → Option (List Df)
  | _, [] => some []
  | 0, _ :: _ => none
  | n + 1, c :: r =>
    if (wordOfL (c :: r)).size ≠ 0 then (fieldsL n ((c :: r).drop (wordOfL (c :: r)).size)).map (⟨wordOfL (c :: r), 0⟩ :: ·)
    else if mletB c = true then none
    else if c.toNat = 92 then
      match r with
      | [] => none
      | c2 :: r2 => (fieldsL n r2).map (⟨⟨#[]⟩, c2⟩ :: ·)
    else (fieldsL n r).map (⟨⟨#[]⟩, c⟩ :: ·)
def lacksB (mo da : Bool) (f : Df) : Bool := (decide (f.w = wMN) && mo) || (decide (f.w = wWN) && da)
/-- The fields of a pattern; none: an error. -/
def fieldsF (mo da : Bool) (p : ByteArray) : Option (List Df) :=
  if 40 < p.size then none
  else match fieldsL p.size p.data.toList with
    | none => none
    | some fs => if fs.any (lacksB mo da) = true then none else some fs
theorem wordOfL_mem (l : List UInt8) : wordOfL l = ⟨#[]⟩ ∨ wordOfL l ∈ words7 := by
  unfold wordOfL
  cases h : words7.find? fun w => Lib.hasPrefix l w.data.toList with
  | none => exact .inl rfl
  | some w => exact .inr (List.mem_of_find?_eq_some h)
theorem fieldsL_words : ∀ (n : Nat) (l : List UInt8) (fs : List Df), fieldsL n l = some fs → ∀ f ∈ fs, f.w = ⟨#[]⟩ ∨ f.w ∈ words7 := by
  intro n
  induction n with
  | zero =>
    intro l fs h
    cases l with
    | nil => simp only [fieldsL, Option.some.injEq] at h; subst h; simp
    | cons c r => simp only [fieldsL] at h; cases h
  | succ n ih =>
    intro l fs h
    cases l with
    | nil => simp only [fieldsL, Option.some.injEq] at h; subst h; simp
    | cons c r =>
      unfold fieldsL at h
      split at h
      · obtain ⟨gs, hg, rfl⟩ := Option.map_eq_some_iff.1 h
        intro f hf
        rcases List.mem_cons.1 hf with rfl | hf
        · exact wordOfL_mem _
        · exact ih _ _ hg f hf
      · split at h
        · cases h
        · split at h
          · split at h
            · cases h
            · obtain ⟨gs, hg, rfl⟩ := Option.map_eq_some_iff.1 h
              intro f hf
              rcases List.mem_cons.1 hf with rfl | hf
              · exact .inl rfl
              · exact ih _ _ hg f hf
          · obtain ⟨gs, hg, rfl⟩ := Option.map_eq_some_iff.1 h
            intro f hf
            rcases List.mem_cons.1 hf with rfl | hf
            · exact .inl rfl
            · exact ih _ _ hg f hf
def padL (n w : Nat) : List UInt8 := List.replicate (w - (Lib.decDigits n).length) 48 ++ Lib.decDigits n
/-- The text of a field. -/
def fieldTx (ms ds : List ByteArray) (Y M D W : Nat) (f : Df) : List UInt8 :=
  if f.w = wY then padL Y 4 else if f.w = wM2 ∨ f.w = wM1 then padL M f.w.size else if f.w = wD2 ∨ f.w = wD1 then padL D f.w.size
  else if f.w = wMN then (ms.getD (M - 1) ⟨#[]⟩).data.toList else if f.w = wWN then (ds.getD W ⟨#[]⟩).data.toList else [f.c]
def dayTx (ms ds : List ByteArray) (Y M D W : Nat) (fs : List Df) : List UInt8 := fs.flatMap (fieldTx ms ds Y M D W)
theorem pad_digits (n w : Nat) : ∀ c ∈ padL n w, digB c = true := by
  intro c hc
  unfold padL at hc
  rcases List.mem_append.1 hc with h | h
  · rw [(List.mem_replicate.1 h).2]; decide
  · exact decide_eq_true (dec_digit n c h)
theorem dval_zeros (k : Nat) (l : List UInt8) : dval (List.replicate k 48 ++ l) = dval l := by
  induction k with
  | zero => rfl
  | succ k ih =>
    rw [List.replicate_succ, List.cons_append]
    unfold dval at ih ⊢
    rw [List.foldl_cons]
    have : 10 * 0 + ((48 : UInt8).toNat - 48) = 0 := rfl
    rw [this]
    exact ih
theorem pad_val (n w : Nat) : dval (padL n w) = n := by unfold padL; rw [dval_zeros, dec_val]
theorem pad_len (n w : Nat) (h : (Lib.decDigits n).length ≤ w) : (padL n w).length = w := by
  unfold padL
  simp only [List.length_append, List.length_replicate]
  omega
/-- How many digits are taken. -/
def takeN (l : List UInt8) (most : Nat) : Nat := ((l.take most).takeWhile digB).length
theorem takeN_le (l : List UInt8) (most : Nat) : takeN l most ≤ most := by
  unfold takeN
  have := (List.takeWhile_sublist (p := digB) (l := l.take most)).length_le
  rw [List.length_take] at this
  omega
theorem tw_digs : ∀ (a r : List UInt8), a.all digB = true → (∀ c, r.head? = some c → digB c = false) → (a ++ r).takeWhile digB = a := by
  intro a
  induction a with
  | nil =>
    intro r _ h
    cases r with
    | nil => rfl
    | cons c r => simp [h c rfl]
  | cons x a ih =>
    intro r h1 h2
    simp only [List.all_cons, Bool.and_eq_true] at h1
    simp [h1.1, ih r h1.2 h2]
theorem take_pad {a r : List UInt8} {most : Nat} (ha : ∀ c ∈ a, digB c = true) (hl : a.length ≤ most) (hr : a.length = most ∨ ∀ c, r.head? = some c → digB c = false) : takeN (a ++ r) most = a.length := by
  unfold takeN
  rw [List.take_append]
  rw [List.take_of_length_le hl]
  have h2 : ∀ c, (r.take (most - a.length)).head? = some c → digB c = false := by
    intro c hc
    rcases hr with h | h
    · rw [h, Nat.sub_self, List.take_zero] at hc; cases hc
    · cases r with
      | nil => simp at hc
      | cons x r =>
        cases hk : most - a.length with
        | zero => rw [hk, List.take_zero] at hc; cases hc
        | succ k => rw [hk, List.take_succ_cons] at hc; exact h c (by simpa using hc)
  rw [tw_digs _ _ (List.all_eq_true.2 ha) h2]
def isMon (f : Df) : Bool := decide (f.w = wM2) || (decide (f.w = wM1) || decide (f.w = wMN))
def isDay (f : Df) : Bool := decide (f.w = wD2) || decide (f.w = wD1)
def isYear (f : Df) : Bool := decide (f.w = wY)
/-- A field that may begin with a digit. -/
def digF (f : Df) : Bool := isYear f || (decide (f.w = wM2) || (decide (f.w = wM1) || isDay f)) || (decide (f.w.size = 0) && digB f.c)
/-- What readable asks. -/
def readB (fs : List Df) : Prop := (∃ f ∈ fs, isYear f = true) ∧ (∃ f ∈ fs, isMon f = true) ∧ (∃ f ∈ fs, isDay f = true) ∧
  ∀ (a b : List Df) (f g : Df), fs = a ++ f :: g :: b → (f.w = wM1 ∨ f.w = wD1) → digF g = false
/-- What is right with names. -/
def namesOk (L : List ByteArray) : Prop := (∀ j (h : j < L.length), L[j].size ≠ 0 ∧ ∀ c ∈ L[j].data.toList, digB c = false) ∧ ∀ j (h : j < L.length) k (h2 : k < L.length), j ≠ k → Lib.hasPrefix L[j].data.toList L[k].data.toList = false
theorem name_head {L : List ByteArray} (h : namesOk L) {j : Nat} (hj : j < L.length) : (L.getD j ⟨#[]⟩).data.toList ≠ [] ∧ ∀ c, (L.getD j ⟨#[]⟩).data.toList.head? = some c → digB c = false := by
  have e : L.getD j ⟨#[]⟩ = L[j] := by rw [List.getD, List.getElem?_eq_getElem hj]; rfl
  rw [e]
  obtain ⟨h1, h2⟩ := h.1 j hj
  refine ⟨fun e => h1 (by rw [← ByteArray.size_data, ← Array.length_toList, e]; rfl), fun c hc => h2 c ?_⟩
  cases hl : L[j].data.toList with
  | nil => rw [hl] at hc; cases hc
  | cons x l => rw [hl] at hc; simp only [List.head?_cons, Option.some.injEq] at hc; subst hc; exact List.mem_cons_self
/-- What follows a field that may be short does not begin with a digit. -/
theorem next_head {ms ds : List ByteArray} {Y M D W : Nat} {g : Df} {b : List Df} (hm : namesOk ms) (hd : namesOk ds) (hg : digF g = false) (hw : g.w = ⟨#[]⟩ ∨ g.w ∈ words7) (h1 : g.w = wMN → M - 1 < ms.length) (h2 : g.w = wWN → W < ds.length) :
    ∀ c, (dayTx ms ds Y M D W (g :: b)).head? = some c → digB c = false := by
  intro c hc
  unfold dayTx at hc
  rw [List.flatMap_cons] at hc
  unfold digF isYear isDay at hg
  have g6 := (Bool.or_eq_false_iff.1 hg).2
  have hg := (Bool.or_eq_false_iff.1 hg).1
  simp only [Bool.or_eq_false_iff, decide_eq_false_iff_not] at hg
  obtain ⟨g1, g2, g3, g4, g5⟩ := hg
  unfold fieldTx at hc
  rw [if_neg g1, if_neg (by rintro (h | h); exact g2 h; exact g3 h), if_neg (by rintro (h | h); exact g4 h; exact g5 h)] at hc
  by_cases hmn : g.w = wMN
  · rw [if_pos hmn] at hc
    obtain ⟨n1, n2⟩ := name_head hm (h1 hmn)
    cases hl : (ms.getD (M - 1) ⟨#[]⟩).data.toList with
    | nil => exact absurd hl n1
    | cons x l => rw [hl] at hc n2; exact n2 c (by simpa using hc)
  rw [if_neg hmn] at hc
  by_cases hwn : g.w = wWN
  · rw [if_pos hwn] at hc
    obtain ⟨n1, n2⟩ := name_head hd (h2 hwn)
    cases hl : (ds.getD W ⟨#[]⟩).data.toList with
    | nil => exact absurd hl n1
    | cons x l => rw [hl] at hc n2; exact n2 c (by simpa using hc)
  rw [if_neg hwn] at hc
  simp only [List.cons_append, List.head?_cons, Option.some.injEq] at hc
  subst hc
  rcases hw with h | h
  · rw [h] at g6
    simpa using (show (true && digB g.c) = false from g6)
  · unfold words7 at h
    simp only [List.mem_cons, List.not_mem_nil, or_false] at h
    rcases h with h | h | h | h | h | h | h
    · exact absurd h g1
    · exact absurd h hmn
    · exact absurd h hwn
    · exact absurd h g2
    · exact absurd h g4
    · exact absurd h g3
    · exact absurd h g5
theorem pre_app {a b r : List UInt8} (h : Lib.hasPrefix (a ++ r) b = true) : Lib.hasPrefix a b = true ∨ Lib.hasPrefix b a = true := by
  unfold Lib.hasPrefix at h ⊢
  rw [List.isPrefixOf_iff_prefix] at h
  rw [List.isPrefixOf_iff_prefix, List.isPrefixOf_iff_prefix]
  exact (List.prefix_or_prefix_of_prefix h (List.prefix_append a r))
/-- The first name that a text begins with. -/
def nameP (L : List ByteArray) (l : List UInt8) : Option Nat := L.findIdx? fun x => Lib.hasPrefix l x.data.toList
theorem name_read {L : List ByteArray} (h : namesOk L) {j : Nat} (hj : j < L.length) (r : List UInt8) : nameP L (L[j].data.toList ++ r) = some j := by
  unfold nameP
  rw [List.findIdx?_eq_some_iff_getElem]
  refine ⟨hj, ?_, fun k hk => ?_⟩
  · unfold Lib.hasPrefix
    rw [List.isPrefixOf_iff_prefix]
    exact List.prefix_append _ _
  · have hkl : k < L.length := by omega
    rw [Bool.not_eq_true]
    cases hp : Lib.hasPrefix (L[j].data.toList ++ r) L[k].data.toList with
    | false => rfl
    | true =>
      exfalso
      rcases pre_app hp with h1 | h1
      · have := h.2 j hj k hkl (by omega); rw [h1] at this; cases this
      · have := h.2 k hkl j hj (by omega); rw [h1] at this; cases this
theorem num_read {n w : Nat} (hn : n ≤ 99) (hw : w = 1 ∨ w = 2) (r : List UInt8) (hr : w = 2 ∨ ∀ c, r.head? = some c → digB c = false) : takeN (padL n w ++ r) 2 = (padL n w).length ∧ w ≤ (padL n w).length ∧ (padL n w).length ≤ 2 := by
  have hl := dec_len 2 n (by omega) (by omega)
  have h1 : 1 ≤ (Lib.decDigits n).length := List.length_pos_iff.2 (dec_ne n)
  have hlen : (padL n w).length = w - (Lib.decDigits n).length + (Lib.decDigits n).length := by unfold padL; simp
  refine ⟨take_pad (pad_digits n w) (by omega) ?_, by omega, by omega⟩
  rcases hr with rfl | h
  · left; omega
  · by_cases h2 : (padL n w).length = 2
    · exact .inl h2
    · exact .inr h
theorem year_read {n : Nat} (h0 : 1000 ≤ n) (hn : n ≤ 9999) (r : List UInt8) : takeN (padL n 4 ++ r) 4 = 4 ∧ (padL n 4).length = 4 := by
  have hl := dec_len 4 n (by omega) (by omega)
  have h4 := pad_len n 4 hl
  exact ⟨by rw [take_pad (pad_digits n 4) (by omega) (.inl h4), h4], h4⟩
theorem take_app_left {a r : List UInt8} {k : Nat} (h : k = a.length) : (a ++ r).take k = a ∧ (a ++ r).drop k = r := by subst h; simp
/-- What must hold where a field is read. -/
structure DayOk (ms ds : List ByteArray) (Y M D W : Nat) (fs : List Df) : Prop where
  y0 : 1000 ≤ Y
  y1 : Y ≤ 9999
  m0 : 1 ≤ M
  m1 : M ≤ 12
  d1 : D ≤ 31
  w1 : W ≤ 6
  nm : namesOk ms
  nd : namesOk ds
  words : ∀ f ∈ fs, f.w = ⟨#[]⟩ ∨ f.w ∈ words7
  hasM : ∀ f ∈ fs, f.w = wMN → ms.length = 12
  hasD : ∀ f ∈ fs, f.w = wWN → ds.length = 7
  next : ∀ (a b : List Df) (f g : Df), fs = a ++ f :: g :: b → (f.w = wM1 ∨ f.w = wD1) → digF g = false
theorem wM2_size : wM2.size = 2 := rfl
theorem wM1_size : wM1.size = 1 := rfl
/-- A number's field. -/
theorem DayOk.num {ms ds : List ByteArray} {Y M D W : Nat} {fs a b : List Df} {f : Df} (h : DayOk ms ds Y M D W fs) (he : fs = a ++ f :: b) {n : Nat} (hn : n ≤ 31) (hf : f.w = wM2 ∨ f.w = wM1 ∨ f.w = wD2 ∨ f.w = wD1) :
    takeN (padL n f.w.size ++ dayTx ms ds Y M D W b) 2 = (padL n f.w.size).length ∧ f.w.size ≤ (padL n f.w.size).length ∧ (padL n f.w.size).length ≤ 2 := by
  have hs : f.w.size = 1 ∨ f.w.size = 2 := by
    rcases hf with h | h | h | h
    · exact .inr (by rw [h]; rfl)
    · exact .inl (by rw [h]; rfl)
    · exact .inr (by rw [h]; rfl)
    · exact .inl (by rw [h]; rfl)
  refine num_read (by omega) hs _ ?_
  by_cases h2 : f.w.size = 2
  · exact .inl h2
  right
  have hf1 : f.w = wM1 ∨ f.w = wD1 := by
    rcases hf with h | h | h | h
    · exact absurd (by rw [h]; rfl) h2
    · exact .inl h
    · exact absurd (by rw [h]; rfl) h2
    · exact .inr h
  cases b with
  | nil => intro c hc; cases hc
  | cons g b =>
    have hg : g ∈ fs := by rw [he]; simp
    exact next_head h.nm h.nd (h.next a b f g he hf1) (h.words g hg) (fun e => by rw [h.hasM g hg e]; have := h.m1; have := h.m0; omega) (fun e => by rw [h.hasD g hg e]; have := h.w1; omega)
theorem dayTx_cons (ms ds : List ByteArray) (Y M D W : Nat) (f : Df) (b : List Df) : dayTx ms ds Y M D W (f :: b) = fieldTx ms ds Y M D W f ++ dayTx ms ds Y M D W b := by unfold dayTx; rw [List.flatMap_cons]
/-- The number of the fields that were read. -/
def seenN (p : Df → Bool) (n : Nat) (l : List Df) : Nat := if l.any p = true then n else 0
theorem seen_snoc (p : Df → Bool) (n : Nat) (l : List Df) (f : Df) : seenN p n (l ++ [f]) = if p f = true then n else seenN p n l := by
  unfold seenN
  rw [List.any_append]
  simp only [List.any_cons, List.any_nil, Bool.or_false]
  cases p f <;> cases l.any p <;> simp
theorem seen_all {p : Df → Bool} {n : Nat} {l : List Df} (h : ∃ f ∈ l, p f = true) : seenN p n l = n := by
  unfold seenN
  rw [if_pos (List.any_eq_true.2 h)]
end Mh
namespace Go.Proofs.YtdolpehcfifecaaGreatDoor
open Go.RowKit Mh
set_option linter.unusedVariables false

/-- The library's table of powers of ten. -/
def Tab10 (w : World) : Prop := Lib.TabIs Tryz.prog w "internal/strconv.uint64pow10" .u64 Lib.pow10Tab
theorem Tab10.next {w w' : World} (h : Tab10 w) (hb : Below w.heap.size w w') : Tab10 w' := Lib.tabBelow_of_tabIs h w' hb
theorem itoa_int (n : Int) (h0 : -9223372036854775808 ≤ n) (h1 : n ≤ 9223372036854775807) (w : World) (ht : Tab10 w) :
    Calls Tryz.prog 44 #[.int .i64 n] w fun e w' => e = .returned (.string ⟨(Lib.itoa n).toArray⟩) ∧ Below w.heap.size w w' := by
  refine (Tryz.strconv_Itoa n h0 h1 w ht).mono ?_
  rintro e w' ⟨rfl, k, os, rfl⟩
  exact ⟨rfl, Lib.below_grow _ _ (Nat.le_refl _) _ _⟩
end Go.Proofs.YtdolpehcfifecaaGreatDoor
namespace Mh
open Go Go.RowKit
set_option linter.unusedVariables false
theorem dbelow_drewN {B : Nat} {w w' : World} (h : Below B w w') (n : Nat) : Below B w (w'.drewN n) := ⟨h.os, h.tape, h.output, h.size, h.block⟩
theorem tw_step (p : UInt8 → Bool) : ∀ (l : List UInt8) (k : Nat), k ≤ (l.takeWhile p).length → (∀ c, l[k]? = some c → p c = true → k + 1 ≤ (l.takeWhile p).length) ∧ ((∀ c, l[k]? = some c → p c = false) → (l.takeWhile p).length = k) := by
  intro l
  induction l with
  | nil => intro k h; simp at h; subst h; simp
  | cons a l ih =>
    intro k h
    rw [List.takeWhile_cons] at h ⊢
    cases hp : p a with
    | false =>
      rw [hp] at h
      simp at h
      subst h
      simp [hp]
    | true =>
      rw [hp] at h
      simp only [if_true, List.length_cons] at h ⊢
      cases k with
      | zero =>
        refine ⟨fun c _ _ => by omega, fun h2 => ?_⟩
        have := h2 a (by simp)
        rw [hp] at this; cases this
      | succ k =>
        obtain ⟨h1, h2⟩ := ih k (by omega)
        simp only [List.getElem?_cons_succ]
        exact ⟨fun c hc hpc => by have := h1 c hc hpc; omega, fun h3 => by have := h2 h3; omega⟩
theorem takeN_go {s : ByteArray} {most k : Nat} (hk : k ≤ takeN s.data.toList most) (h : k < s.size) (hm : k < most) (hd : digB s[k] = true) : k + 1 ≤ takeN s.data.toList most := by
  unfold takeN at *
  refine (tw_step digB _ k hk).1 s[k] ?_ hd
  rw [List.getElem?_take, if_pos hm, List.getElem?_eq_getElem (by simpa using h)]
  rfl
theorem takeN_end {s : ByteArray} {most k : Nat} (hk : k ≤ takeN s.data.toList most) (h : ∀ h : k < s.size, k < most → digB s[k] = false) : takeN s.data.toList most = k := by
  unfold takeN at *
  refine (tw_step digB _ k hk).2 fun c hc => ?_
  rw [List.getElem?_take] at hc
  split at hc
  · rename_i hm
    have hl := (List.getElem?_eq_some_iff.1 hc).1
    have hs : k < s.size := by simpa using hl
    rw [List.getElem?_eq_getElem hl] at hc
    simp only [Option.some.injEq] at hc
    rw [← hc]
    exact h hs hm
  · cases hc
theorem takeN_size (s : ByteArray) (most : Nat) : takeN s.data.toList most ≤ s.size := by
  unfold takeN
  have := (List.takeWhile_sublist (p := digB) (l := s.data.toList.take most)).length_le
  rw [List.length_take] at this
  have h2 : s.data.toList.length = s.size := by simp
  omega
theorem dval_small (l : List UInt8) (h : l.length ≤ 4) : dval l ≤ 229977 := by
  match l, h with
  | [], _ => exact (by decide : dval [] ≤ 229977)
  | [a], _ => have := a.toNat_lt; simp [dval]; omega
  | [a, b], _ => have := a.toNat_lt; have := b.toNat_lt; simp [dval]; omega
  | [a, b, c], _ => have := a.toNat_lt; have := b.toNat_lt; have := c.toNat_lt; simp [dval]; omega
  | [a, b, c, d], _ => have := a.toNat_lt; have := b.toNat_lt; have := c.toNat_lt; have := d.toNat_lt; simp [dval]; omega
  | _ :: _ :: _ :: _ :: _ :: _, h => simp at h
end Mh
namespace Go.Proofs.YtdolpehcfifecaaGreatDoor
open Go.RowKit Mh
set_option linter.unusedVariables false
set_option maxHeartbeats 4000000 in
theorem gtakeDigits_any (s : ByteArray) (least most : Nat) (hl : least ≤ 4) (hm4 : most ≤ 4) (hs : s.size ≤ maxLen) (w : World) :
    Calls Tryz.prog 12 #[.string s, .int .i64 (least : Int), .int .i64 (most : Int)] w fun e w' =>
      e = .returned (.tuple #[.int .i64 ((dval (s.data.toList.take (takeN s.data.toList most)) : Nat) : Int), .string (s.extract (takeN s.data.toList most) s.size), .bool (decide (least ≤ takeN s.data.toList most))]) ∧ Below w.heap.size w w' := by
  unfold maxLen at hs
  have HGO := Lib.hid (fun k => takeN_go (s := s) (most := most) (k := k))
  have HEN := Lib.hid (fun k => takeN_end (s := s) (most := most) (k := k))
  have HFS := Lib.hid (takeN_size s most)
  have HFM := Lib.hid (takeN_le s.data.toList most)
  generalize takeN s.data.toList most = F at HGO HEN HFS HFM ⊢
  obtain ⟨D, hD⟩ : ∃ D : Nat → Nat, D = fun k => dval (s.data.toList.take k) := ⟨_, rfl⟩
  have HD0 : Hid (D 0 = 0) := by show _ = _; rw [hD]; rfl
  have HDS : Hid (∀ k (h : k < s.size), D (k + 1) = 10 * D k + (s[k].toNat - 48)) := fun k h => by rw [hD]; show dval _ = 10 * dval _ + _; rw [take_snoc s k h, dval_snoc]
  have HDB : Hid (∀ k, k ≤ 4 → D k ≤ 229977) := fun k h => by rw [hD]; exact dval_small _ (by rw [List.length_take]; omega)
  have HDF : Hid (dval (s.data.toList.take F) = D F) := by show _ = _; rw [hD]
  rw [HDF.out]
  clear hD HDF
  go_enter Tryz.func12, Tryz.ntmps12
  go_wp2_with fail
  go_loop [6, 9] (fun v6 v9 => ∃ k : Nat, Hid (k ≤ F) ∧ v6 = .int .i64 (D k : Int) ∧ v9 = .int .i64 (k : Int)) (fun _ v => s.size - (intOf v).toNat)
  case atStart => exact ⟨0, Nat.zero_le _, by rw [HD0.out]; rfl, rfl⟩
  case round =>
    obtain ⟨k, HK, rfl, rfl⟩ := hrel
    have hkm : k ≤ most := Nat.le_trans HK.out HFM.out
    have hks : k ≤ s.size := Nat.le_trans HK.out HFS.out
    have hk4 : k ≤ 4 := by omega
    by_cases hlt : k < s.size
    · have qI : decide ((k : Int) < (s.size : Int)) = true := decide_eq_true (by omega)
      by_cases hm : k < most
      · have qm : decide ((k : Int) < (most : Int)) = true := decide_eq_true (by omega)
        have HDG := Lib.hid (mdigit_any s[k])
        cases hd : digB s[k] with
        | true =>
          rw [hd] at HDG
          have hc : 48 ≤ s[k].toNat ∧ s[k].toNat ≤ 57 := of_decide_eq_true hd
          have HK2 := Lib.hid (HGO.out k HK.out hlt hm hd)
          have hdb := HDB.out k hk4
          have HST : Hid ((D (k + 1) : Int) = 10 * (D k : Int) + ((s[k].toNat : Int) - 48)) := by show _ = _; rw [HDS.out k hlt]; omega
          clear hd
          go_wp2_with (go_at_call 26; refine (HDG.out _).mono ?_; rintro e w' ⟨rfl, rfl⟩)
          go_round
          case rel => exact ⟨k + 1, HK2, by rw [HST.out], by go_num⟩
          case measure => simp [intOf]; omega
        | false =>
          rw [hd] at HDG
          have HF : Hid (F = k) := HEN.out k HK.out fun _ _ => hd
          clear hd
          have HR : Hid (decide ((least : Int) ≤ (k : Int)) = decide (least ≤ F)) := by show _ = _; rw [HF.out]; simp only [decide_eq_decide]; omega
          have s1 : (0 : Int) ≤ (k : Int) := by omega
          have s2 : (k : Int) ≤ (s.size : Int) := by omega
          go_wp2_with (go_at_call 26; refine (HDG.out _).mono ?_; rintro e w' ⟨rfl, rfl⟩)
          go_quiet (fail)
          go_wp2_with fail
          go_ret3
          exact ⟨by rw [HF.out] at HR ⊢; first | rw [HR.out] | (simp; done) | skip, dbelow_drewN (Below.refl _ _) _⟩
      · have qm : decide ((k : Int) < (most : Int)) = false := decide_eq_false (by omega)
        have HF : Hid (F = k) := HEN.out k HK.out fun _ h => absurd h hm
        have HR : Hid (decide ((least : Int) ≤ (k : Int)) = decide (least ≤ F)) := by show _ = _; rw [HF.out]; simp only [decide_eq_decide]; omega
        have s1 : (0 : Int) ≤ (k : Int) := by omega
        have s2 : (k : Int) ≤ (s.size : Int) := by omega
        go_wp2_with (fail)
        go_quiet (fail)
        go_wp2_with fail
        go_ret3
        exact ⟨by rw [HF.out] at HR ⊢; first | rw [HR.out] | (simp; done) | skip, dbelow_drewN (Below.refl _ _) _⟩
    · have qI : decide ((k : Int) < (s.size : Int)) = false := decide_eq_false (by omega)
      have HF : Hid (F = k) := HEN.out k HK.out fun h _ => absurd h hlt
      have HR : Hid (decide ((least : Int) ≤ (k : Int)) = decide (least ≤ F)) := by show _ = _; rw [HF.out]; simp only [decide_eq_decide]; omega
      have s1 : (0 : Int) ≤ (k : Int) := by omega
      have s2 : (k : Int) ≤ (s.size : Int) := by omega
      go_wp2_with (fail)
      go_quiet (fail)
      go_wp2_with fail
      go_ret3
      exact ⟨by rw [HF.out] at HR ⊢; first | rw [HR.out] | (simp; done) | skip, dbelow_drewN (Below.refl _ _) _⟩
end Go.Proofs.YtdolpehcfifecaaGreatDoor
namespace Mh
open Go Go.RowKit
set_option linter.unusedVariables false
theorem nameP_spec {L : List ByteArray} {l : List UInt8} {j : Nat} (h : nameP L l = some j) : ∃ hj : j < L.length, Lib.hasPrefix l L[j].data.toList = true ∧ ∀ k (hk : k < L.length), k < j → Lib.hasPrefix l L[k].data.toList = false := by
  unfold nameP at h
  rw [List.findIdx?_eq_some_iff_getElem] at h
  obtain ⟨hj, h1, h2⟩ := h
  exact ⟨hj, h1, fun k hk hkj => by have := h2 k hkj; rwa [Bool.not_eq_true] at this⟩
def strSzd : Value → Nat
  | .string u => u.size
  | _ => 0
theorem hp_size {s p : ByteArray} (h : Lib.hasPrefix s.data.toList p.data.toList = true) : p.size ≤ s.size := by
  unfold Lib.hasPrefix at h
  rw [List.isPrefixOf_iff_prefix] at h
  have := h.length_le
  simpa using this
end Mh
namespace Go.Proofs.YtdolpehcfifecaaGreatDoor
open Go.RowKit Mh
set_option linter.unusedVariables false
set_option maxHeartbeats 4000000 in
theorem gtakeName_any (s : ByteArray) (ls : List ByteArray) (v : Value) (w : World) (h : Ss w v ls) (hs : s.size ≤ maxLen) (hll : ls.length ≤ 200) (j : Nat) (hn : nameP ls s.data.toList = some j) (hj : j < ls.length) :
    Calls Tryz.prog 13 #[.string s, v] w fun e w' =>
      e = .returned (.tuple #[.int .i64 ((j : Int) + 1), .string (s.extract ls[j].size s.size), .bool true]) ∧ Below w.heap.size w w' := by
  obtain ⟨ao, c, rfl, hk⟩ := h.key
  have HK := Lib.hid hk
  obtain ⟨_, h1, h2⟩ : ∃ _ : True, Lib.hasPrefix s.data.toList ls[j].data.toList = true ∧ ∀ k (hk : k < ls.length), k < j → Lib.hasPrefix s.data.toList ls[k].data.toList = false := by obtain ⟨_, a, b⟩ := nameP_spec hn; exact ⟨trivial, a, b⟩
  have HLE : Hid (ls[j].size ≤ s.size) := hp_size h1
  have HT : Hid (∀ w', Calls Tryz.prog 24 #[.string s, .string ls[j]] w' fun e w'' => e = .returned (.bool true) ∧ w'' = w') := fun w' => by
    have := Tryz.strings_HasPrefix s ls[j] w'
    rw [h1] at this; exact this
  have HFA : Hid (∀ k (hk : k < ls.length), k < j → ∀ w', Calls Tryz.prog 24 #[.string s, .string ls[k]] w' fun e w'' => e = .returned (.bool false) ∧ w'' = w') := fun k hk hkj w' => by
    have := Tryz.strings_HasPrefix s ls[k] w'
    rw [h2 k hk hkj] at this; exact this
  have hwr : IntKind.i64.wrap ((j : Int) + 1) = (j : Int) + 1 := IntWalk.i64_in _ (by omega)
  clear h hk hn h1 h2
  unfold maxLen at hs
  obtain ⟨x, hx⟩ : ∃ x, x = ls[j] := ⟨_, rfl⟩
  rw [← hx] at HT HLE ⊢
  have HX := Lib.hid hx
  clear hx
  go_enter Tryz.func13, Tryz.ntmps13
  go_wp2_with fail
  go_loop [11] (fun t => ∃ k : Nat, k ≤ j ∧ t = .int .i64 (k : Int)) (fun t => ls.length - (intOf t).toNat)
  case atStart => exact ⟨0, Nat.zero_le _, rfl⟩
  case round =>
    obtain ⟨k, hkj, rfl⟩ := hrel
    have hkl : k < ls.length := by omega
    obtain ⟨b, off, rfl, hbl, hc, _⟩ := HK.out k hkl
    by_cases he : k = j
    · subst he
      have hle := HLE.out
      rw [← HX.out] at hc
      clear HLE HFA HX
      go_wp2_with (go_at_call 24; refine (HT.out _).mono ?_; rintro e w' ⟨rfl, hw⟩; obtain rfl : w = w' := hw.symm)
      go_quiet (fail)
      go_wp2_with fail
      go_ret3
      exact ⟨rfl, dbelow_drewN (Below.refl _ _) _⟩
    · have HF := Lib.hid (HFA.out k hkl (by omega))
      go_wp2_with (go_at_call 24; refine (HF.out _).mono ?_; rintro e w' ⟨rfl, hw⟩; obtain rfl : w = w' := hw.symm)
      go_round
      case rel => exact ⟨k + 1, by omega, by go_num⟩
      case measure => simp [intOf]; omega
set_option maxHeartbeats 4000000 in
theorem gpadded_any (n m : Nat) (hn : n ≤ 99999) (hm : m ≤ 4) (w : World) (ht : Tab10 w) :
    Calls Tryz.prog 23 #[.int .i64 (n : Int), .int .i64 (m : Int)] w fun e w' => e = .returned (.string ⟨(padL n m).toArray⟩) ∧ Below w.heap.size w w' := by
  have hio : Lib.itoa (n : Int) = Lib.decDigits n := by unfold Lib.itoa; rw [if_neg (by omega)]; simp
  have HI := Lib.hid (itoa_int (n : Int) (by omega) (by omega) w ht)
  rw [hio] at HI
  obtain ⟨P, hP⟩ : ∃ P : Nat → ByteArray, P = fun j => ⟨(List.replicate j 48 ++ Lib.decDigits n).toArray⟩ := ⟨_, rfl⟩
  obtain ⟨q, hq⟩ : ∃ q, (Lib.decDigits n).length = q := ⟨_, rfl⟩
  have hq5 : q ≤ 5 := by have := dec_len 5 n (by omega) (by omega); omega
  have HPS : Hid (∀ j, (P j).size = j + q) := fun j => by rw [hP, ← hq]; simp [ByteArray.size]
  have HPA : Hid (∀ j, (⟨#[48]⟩ : ByteArray) ++ P j = P (j + 1)) := fun j => by
    rw [hP]
    apply ByteArray.ext
    simp [List.replicate_succ]
  have HP0 : Hid ((⟨(Lib.decDigits n).toArray⟩ : ByteArray) = P 0) := by show _ = _; rw [hP]; rfl
  have HPE : Hid ((⟨(padL n m).toArray⟩ : ByteArray) = P (m - q)) := by show _ = _; rw [hP, ← hq]; rfl
  rw [HP0.out] at HI
  rw [HPE.out]
  clear hP hio hq ht HP0 HPE
  go_enter Tryz.func23, Tryz.ntmps23
  go_wp2_with (go_at_call 44; refine HI.out.mono ?_; rintro e w' ⟨rfl, hb⟩; have HB := Lib.hid hb; clear hb)
  go_loop [5] (fun t => ∃ j : Nat, j ≤ m - q ∧ t = .string (P j)) (fun t => m + q - strSzd t)
  case atStart => exact ⟨0, Nat.zero_le _, rfl⟩
  case round =>
    obtain ⟨j, hj, rfl⟩ := hrel
    have hsz := HPS.out j
    by_cases hlt : j + q < m
    · have hq1 : decide (((P j).size : Int) < (m : Int)) = true := decide_eq_true (by omega)
      have hpa := HPA.out j
      go_wp2_with fail
      go_round
      case rel => exact ⟨j + 1, by omega, by first | rfl | rw [hpa]⟩
      case measure => simp only [strSzd, HPS.out]; omega
    · have hq1 : decide (((P j).size : Int) < (m : Int)) = false := decide_eq_false (by omega)
      obtain rfl : j = m - q := by omega
      go_wp2_with fail
      go_ret
      exact ⟨rfl, HB.out⟩
end Go.Proofs.YtdolpehcfifecaaGreatDoor
namespace Mh
open Go Go.RowKit
set_option linter.unusedVariables false
/-- The word that the first k words give. -/
def wordK (l : List UInt8) (k : Nat) : ByteArray := ((words7.take k).find? fun w => Lib.hasPrefix l w.data.toList).getD ⟨#[]⟩
theorem wordK_zero (l : List UInt8) : wordK l 0 = ⟨#[]⟩ := rfl
theorem wordK_all (l : List UInt8) : wordK l 7 = wordOfL l := rfl
theorem words7_size : ∀ w ∈ words7, w.size ≠ 0 ∧ w.size ≤ 4 := by
  intro w hw
  unfold words7 at hw
  simp only [List.mem_cons, List.not_mem_nil, or_false] at hw
  rcases hw with rfl | rfl | rfl | rfl | rfl | rfl | rfl <;> exact ⟨by decide, by decide⟩
theorem wordK_mem (l : List UInt8) (k : Nat) : wordK l k = ⟨#[]⟩ ∨ (wordK l k ∈ words7 ∧ Lib.hasPrefix l (wordK l k).data.toList = true) := by
  unfold wordK
  cases h : (words7.take k).find? fun w => Lib.hasPrefix l w.data.toList with
  | none => exact .inl rfl
  | some w => exact .inr ⟨List.mem_of_mem_take (List.mem_of_find?_eq_some h), by have h2 := List.find?_some (p := fun w : ByteArray => Lib.hasPrefix l w.data.toList) h; exact h2⟩
theorem wordK_step (l : List UInt8) (k : Nat) (hk : k < words7.length) : wordK l (k + 1) = if (wordK l k).size = 0 then (if Lib.hasPrefix l words7[k].data.toList = true then words7[k] else ⟨#[]⟩) else wordK l k := by
  have ht : words7.take (k + 1) = words7.take k ++ [words7[k]] := List.take_succ_eq_append_getElem hk
  rcases wordK_mem l k with h | ⟨h, _⟩
  · rw [if_pos (by rw [h]; rfl)]
    unfold wordK at h ⊢
    rw [ht, List.find?_append]
    cases hf : (words7.take k).find? fun w => Lib.hasPrefix l w.data.toList with
    | some w =>
      rw [hf] at h
      simp only [Option.getD_some] at h
      have := (words7_size w (List.mem_of_mem_take (List.mem_of_find?_eq_some hf))).1
      rw [h] at this
      exact absurd rfl this
    | none =>
      simp only [Option.none_or, List.find?_cons, List.find?_nil]
      cases hp : Lib.hasPrefix l words7[k].data.toList <;> simp
  · rw [if_neg (words7_size _ h).1]
    unfold wordK at h ⊢
    rw [ht, List.find?_append]
    cases hf : (words7.take k).find? fun w => Lib.hasPrefix l w.data.toList with
    | some w => simp
    | none =>
      rw [hf] at h
      simp only [Option.getD_none] at h
      exact absurd rfl (words7_size _ h).1
theorem wordOf_fit {p : ByteArray} {i : Nat} (hi : i ≤ p.size) : i + (wordOfL (p.data.toList.drop i)).size ≤ p.size ∧ (wordOfL (p.data.toList.drop i)).size ≤ 4 := by
  rw [← wordK_all]
  rcases wordK_mem (p.data.toList.drop i) 7 with h | ⟨h, h2⟩
  · rw [h]; exact ⟨hi, by decide⟩
  · refine ⟨?_, (words7_size _ h).2⟩
    unfold Lib.hasPrefix at h2
    rw [List.isPrefixOf_iff_prefix] at h2
    have := h2.length_le
    rw [List.length_drop] at this
    have e1 : p.data.toList.length = p.size := by simp
    have e2 : (wordK (p.data.toList.drop i) 7).data.toList.length = (wordK (p.data.toList.drop i) 7).size := by simp
    omega
theorem ddrop_at {s : ByteArray} {j : Nat} (h : j < s.size) : s.data.toList.drop j = s[j] :: s.data.toList.drop (j + 1) := by
  have hl : j < s.data.toList.length := by simpa using h
  rw [List.drop_eq_getElem_cons hl]; rfl
theorem fieldsL_end (n : Nat) (p : ByteArray) (i : Nat) (hi : ¬ i < p.size) : fieldsL n (p.data.toList.drop i) = some [] := by
  have : p.data.toList.drop i = [] := List.drop_eq_nil_of_le (by simp; omega)
  rw [this]; cases n <;> rfl
theorem fieldsL_word {n i : Nat} {p : ByteArray} (hi : i < p.size) (h : (wordOfL (p.data.toList.drop i)).size ≠ 0) : fieldsL (n + 1) (p.data.toList.drop i) = (fieldsL n (p.data.toList.drop (i + (wordOfL (p.data.toList.drop i)).size))).map (⟨wordOfL (p.data.toList.drop i), 0⟩ :: ·) := by
  rw [← List.drop_drop]
  revert h
  rw [ddrop_at hi]
  intro h
  conv => lhs; unfold fieldsL
  rw [if_pos h]
theorem fieldsL_letter {n i : Nat} {p : ByteArray} (hi : i < p.size) (h : (wordOfL (p.data.toList.drop i)).size = 0) (hl : mletB p[i] = true) : fieldsL (n + 1) (p.data.toList.drop i) = none := by
  revert h
  rw [ddrop_at hi]
  intro h
  conv => lhs; unfold fieldsL
  rw [if_neg (by rw [h]; simp), if_pos hl]
theorem fieldsL_esc {n i : Nat} {p : ByteArray} (hi : i + 1 < p.size) (h : (wordOfL (p.data.toList.drop i)).size = 0) (hl : mletB p[i] = false) (he : p[i].toNat = 92) : fieldsL (n + 1) (p.data.toList.drop i) = (fieldsL n (p.data.toList.drop (i + 1 + 1))).map (⟨⟨#[]⟩, p[i + 1]⟩ :: ·) := by
  revert h
  rw [ddrop_at (show i < p.size by omega)]
  intro h
  conv => lhs; unfold fieldsL
  rw [if_neg (by rw [h]; simp), if_neg (by rw [hl]; simp), if_pos he, ddrop_at hi]
theorem fieldsL_escEnd {n i : Nat} {p : ByteArray} (hi : i < p.size) (hn : ¬ i + 1 < p.size) (h : (wordOfL (p.data.toList.drop i)).size = 0) (hl : mletB p[i] = false) (he : p[i].toNat = 92) : fieldsL (n + 1) (p.data.toList.drop i) = none := by
  have h2 : p.data.toList.drop (i + 1) = [] := List.drop_eq_nil_of_le (by simp; omega)
  revert h
  rw [ddrop_at hi, h2]
  intro h
  conv => lhs; unfold fieldsL
  rw [if_neg (by rw [h]; simp), if_neg (by rw [hl]; simp), if_pos he]
theorem fieldsL_byte {n i : Nat} {p : ByteArray} (hi : i < p.size) (h : (wordOfL (p.data.toList.drop i)).size = 0) (hl : mletB p[i] = false) (he : p[i].toNat ≠ 92) : fieldsL (n + 1) (p.data.toList.drop i) = (fieldsL n (p.data.toList.drop (i + 1))).map (⟨⟨#[]⟩, p[i]⟩ :: ·) := by
  revert h
  rw [ddrop_at hi]
  intro h
  conv => lhs; unfold fieldsL
  rw [if_neg (by rw [h]; simp), if_neg (by rw [hl]; simp), if_neg he]
/-! Fields in memory. -/
def rowsD : List Df → List Value
  | [] => []
  | o :: l => .string o.w :: .int .u8 (o.c.toNat : Int) :: rowsD l
theorem rowsD_get : ∀ (l : List Df) (i : Nat) (h : i < l.length), (rowsD l)[i * 2]? = some (.string l[i].w) ∧ (rowsD l)[i * 2 + 1]? = some (.int .u8 (l[i].c.toNat : Int))
  | [], i, h => by simp at h
  | o :: l, 0, h => ⟨rfl, rfl⟩
  | o :: l, i + 1, h => by
    have := rowsD_get l i (by simpa using h)
    have e : (i + 1) * 2 = i * 2 + 1 + 1 := by omega
    rw [e]
    simp only [rowsD, List.getElem?_cons_succ, List.getElem_cons_succ]
    exact this
theorem rowsD_app (a b : List Df) : rowsD (a ++ b) = rowsD a ++ rowsD b := by
  induction a with
  | nil => rfl
  | cons x a ih => simp [rowsD, ih]
theorem rowsD_len : ∀ l : List Df, (rowsD l).length = l.length * 2
  | [] => rfl
  | o :: l => by simp only [rowsD, List.length_cons, rowsD_len l]; omega
/-- A slice of fields. -/
def FdAt (w : World) (v : Value) (l : List Df) : Prop := Sl 2 w v l.length (rowsD l)
theorem FdAt.keep {w w' : World} {v : Value} {l : List Df} (h : FdAt w v l) (hb : Below w.heap.size w w') : FdAt w' v l := Sl.below h hb
theorem FdAt.open {w : World} {v : Value} {l : List Df} (h : FdAt w v l) : ∃ ao c, v = .slice ao l.length c ∧ l.length ≤ maxLen ∧ ∀ i (hi : i < l.length), ∃ b off, ao = some ⟨b, off, none⟩ ∧ l.length ≤ c ∧ c ≤ maxLen ∧ b < w.heap.size ∧
    (w.cell? ⟨b, off + i * 2, none⟩ = some (.string l[i].w) ∧ w.cell? ⟨b, off + i * 2 + 1, none⟩ = some (.int .u8 (l[i].c.toNat : Int))) := by
  obtain ⟨ao, c, rfl, hm, hc⟩ := Sl.shp h
  refine ⟨ao, c, rfl, hm, fun i hi => ?_⟩
  obtain ⟨b, off, h1, h2, h3, h4, h5⟩ := hc (by omega)
  obtain ⟨g1, g2⟩ := rowsD_get l i hi
  exact ⟨b, off, h1, h2, h3, h4, ⟨h5 _ _ g1, by have := h5 _ _ g2; rw [← Nat.add_assoc] at this; exact this⟩⟩
theorem dtwo_later {w0 w' : World} {b off i : Nat} {x y : Value} (hb : Below w0.heap.size w0 w') (hlt : b < w0.heap.size) (h : w0.cell? ⟨b, off + i * 2, none⟩ = some x ∧ w0.cell? ⟨b, off + i * 2 + 1, none⟩ = some y) :
    w'.cell? ⟨b, off + i * 2, none⟩ = some x ∧ w'.cell? ⟨b, off + i * 2 + 1, none⟩ = some y := ⟨(hb.cell hlt).trans h.1, (hb.cell hlt).trans h.2⟩
theorem dpair_of_block {w : World} {g : Nat} {T : TypeId} {a b : Value} (h : w.heap[g]? = some (.cells #[a, b] T (0, 0))) : w.cell? ⟨g, 0, none⟩ = some a ∧ w.cell? ⟨g, 1, none⟩ = some b := ⟨cellT h rfl, cellT h rfl⟩
/-- The row of fields that the call owns. -/
structure FdIn (e : TypeId) (W0 wr : World) (out : List Df) (vo : Value) : Prop where
  own : wr.ownsRow W0.heap.size e 2 vo out.length (rowsD out)
  below : Below W0.heap.size W0 wr
theorem FdIn.next {e : TypeId} {W0 wr w3 : World} {out : List Df} {vo : Value} (h : FdIn e W0 wr out vo) (hb : Below wr.heap.size wr w3) : FdIn e W0 w3 out vo := ⟨mown_below h.own hb, h.below.trans (hb.mono h.below.size)⟩
theorem FdIn.push {e : TypeId} {W0 wr w3 : World} {out : List Df} {vo v' : Value} {x : Df} (h : FdIn e W0 wr out vo) (hown : w3.ownsRow W0.heap.size e 2 v' (out.length + 1) (rowsD out ++ [.string x.w, .int .u8 (x.c.toNat : Int)])) (hg : wr.grownBy w3 vo.ownBlock) : FdIn e W0 w3 (out ++ [x]) v' := by
  have hol := h.own.lt
  refine ⟨by rw [List.length_append, List.length_singleton, rowsD_app]; exact hown, ?_⟩
  exact h.below.grown hg h.below.size (fun k hk => (hol k hk).1)
theorem FdIn.at_ {e : TypeId} {W0 wr : World} {out : List Df} {vo : Value} (h : FdIn e W0 wr out vo) : FdAt wr vo out := Sl.of_own h.own (by decide)
end Mh
