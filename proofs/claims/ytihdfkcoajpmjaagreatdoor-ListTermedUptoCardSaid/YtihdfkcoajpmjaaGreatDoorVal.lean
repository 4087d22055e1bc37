/- Values of settings as trees, and their order: comparing is an order of three values. Plain lists and numbers. -/
import Derived.Test.YtihdfkcoajpmjaaGreatDoorBase
import Derived.Lib.Bytealg
namespace Mh
open Go Go.RowKit

/-- A value: its kind, truth, number, text, items and keys. -/
inductive V where
  | mk (kind : Int) (b : Bool) (n : Int) (text : ByteArray) (items : List V) (keys : List ByteArray)

def sgn (a b : Int) : Int := if a < b then -1 else if b < a then 1 else 0
def bitI (b : Bool) : Int := if b then 1 else 0
def lex (x y : Int) : Int := if x = 0 then y else x
def scmp (s t : ByteArray) : Int := Lib.compareBytes s.data.toList t.data.toList
def kcmp : List ByteArray → List ByteArray → Int
  | [], [] => 0
  | [], _ :: _ => -1
  | _ :: _, [] => 1
  | x :: xs, y :: ys => lex (scmp x y) (kcmp xs ys)
mutual
def V.cmp : V → V → Int
  | .mk k b n t is ks, .mk k' b' n' t' is' ks' =>
    lex (sgn k k') (lex (sgn (bitI b) (bitI b')) (lex (sgn n n') (lex (scmp t t') (lex (kcmp ks ks') (V.cmps is is')))))
def V.cmps : List V → List V → Int
  | [], [] => 0
  | [], _ :: _ => -1
  | _ :: _, [] => 1
  | x :: xs, y :: ys => lex (V.cmp x y) (V.cmps xs ys)
end

/-- What an order says of x (a to b), y (b to c), z (a to c), once. -/
def Tr1 (x y z : Int) : Prop := x ≤ 0 → y ≤ 0 → z ≤ 0 ∧ (z = 0 → x = 0 ∧ y = 0)
def Tr (x y z : Int) : Prop := Tr1 x y z ∧ Tr1 (-x) (-y) (-z)
theorem lex_neg (x y : Int) : lex (-x) (-y) = - lex x y := by unfold lex; by_cases h : x = 0 <;> simp [h]
theorem lex_le (x y : Int) : lex x y ≤ 0 ↔ x < 0 ∨ (x = 0 ∧ y ≤ 0) := by unfold lex; by_cases h : x = 0 <;> simp [h]; omega
theorem lex_zero (x y : Int) : lex x y = 0 ↔ x = 0 ∧ y = 0 := by unfold lex; by_cases h : x = 0 <;> simp [h]
theorem lex_cases (x y : Int) : (x = 0 ∧ lex x y = y) ∨ (x ≠ 0 ∧ lex x y = x) := by unfold lex; by_cases h : x = 0 <;> simp [h]
theorem Tr.lex {x y z x' y' z' : Int} (h : Tr x y z) (h' : Tr x' y' z') : Tr (Mh.lex x x') (Mh.lex y y') (Mh.lex z z') := by
  obtain ⟨a, b⟩ := h
  obtain ⟨a', b'⟩ := h'
  unfold Tr1 at a b a' b'
  unfold Tr Tr1
  rcases lex_cases x x' with ⟨hx, e1⟩ | ⟨hx, e1⟩ <;> rcases lex_cases y y' with ⟨hy, e2⟩ | ⟨hy, e2⟩ <;> rcases lex_cases z z' with ⟨hz, e3⟩ | ⟨hz, e3⟩ <;> rw [e1, e2, e3] <;> omega
theorem sgn_cases (a b : Int) : (a < b ∧ sgn a b = -1) ∨ (b < a ∧ sgn a b = 1) ∨ (a = b ∧ sgn a b = 0) := by
  unfold sgn
  by_cases h : a < b
  · simp [h]
  · by_cases h2 : b < a
    · simp [h, h2]
    · have : a = b := by omega
      simp [this]
theorem sgn_neg (a b : Int) : sgn b a = - sgn a b := by
  rcases sgn_cases a b with ⟨h, e⟩ | ⟨h, e⟩ | ⟨h, e⟩ <;> rcases sgn_cases b a with ⟨h', e'⟩ | ⟨h', e'⟩ | ⟨h', e'⟩ <;> omega
theorem sgn_self (a : Int) : sgn a a = 0 := by rcases sgn_cases a a with ⟨h, e⟩ | ⟨h, e⟩ | ⟨h, e⟩ <;> omega
theorem sgn_tr (a b c : Int) : Tr (sgn a b) (sgn b c) (sgn a c) := by
  unfold Tr Tr1
  rcases sgn_cases a b with ⟨h, e⟩ | ⟨h, e⟩ | ⟨h, e⟩ <;> rcases sgn_cases b c with ⟨h', e'⟩ | ⟨h', e'⟩ | ⟨h', e'⟩ <;> rcases sgn_cases a c with ⟨h2, e2⟩ | ⟨h2, e2⟩ | ⟨h2, e2⟩ <;> omega

/-- Comparing lists by their elements; the shorter one first. -/
def lexL {α : Type} (c : α → α → Int) : List α → List α → Int
  | [], [] => 0
  | [], _ :: _ => -1
  | _ :: _, [] => 1
  | x :: xs, y :: ys => lex (c x y) (lexL c xs ys)
theorem lexL_neg {α : Type} {c : α → α → Int} : ∀ l k : List α, (∀ x ∈ l, ∀ y, c y x = - c x y) → lexL c k l = - lexL c l k := by
  intro l
  induction l with
  | nil => intro k _; cases k <;> simp [lexL]
  | cons a l ih =>
    intro k h
    cases k with
    | nil => simp [lexL]
    | cons b k => simp only [lexL]; rw [ih k (fun x hx => h x (by simp [hx])), h a (by simp), lex_neg]
theorem lexL_self {α : Type} {c : α → α → Int} : ∀ l : List α, (∀ x ∈ l, c x x = 0) → lexL c l l = 0 := by
  intro l
  induction l with
  | nil => intro _; rfl
  | cons a l ih => intro h; simp only [lexL]; rw [h a (by simp), ih (fun x hx => h x (by simp [hx]))]; rfl
theorem lexL_tr {α : Type} {c : α → α → Int} : ∀ l k m : List α, (∀ x ∈ l, ∀ y z, Tr (c x y) (c y z) (c x z)) → Tr (lexL c l k) (lexL c k m) (lexL c l m) := by
  intro l
  induction l with
  | nil =>
    intro k m _
    cases k with
    | nil => cases m <;> simp only [lexL] <;> unfold Tr Tr1 <;> omega
    | cons b k =>
      cases m with
      | nil => simp only [lexL]; unfold Tr Tr1; omega
      | cons d m =>
        simp only [lexL]
        generalize lex (c b d) (lexL c k m) = y
        unfold Tr Tr1; omega
  | cons a l ih =>
    intro k m h
    cases k with
    | nil =>
      cases m with
      | nil => simp only [lexL]; unfold Tr Tr1; omega
      | cons d m =>
        simp only [lexL]
        generalize lex (c a d) (lexL c l m) = y
        unfold Tr Tr1; omega
    | cons b k =>
      cases m with
      | nil =>
        simp only [lexL]
        generalize lex (c a b) (lexL c l k) = y
        unfold Tr Tr1; omega
      | cons d m =>
        simp only [lexL]
        exact (h a (by simp) b d).lex (ih k m (fun x hx => h x (by simp [hx])))

theorem cb_lexL : ∀ l k : List UInt8, Lib.compareBytes l k = lexL (fun a b : UInt8 => sgn a.toNat b.toNat) l k := by
  intro l
  induction l with
  | nil => intro k; cases k <;> rfl
  | cons a l ih =>
    intro k
    cases k with
    | nil => rfl
    | cons b k =>
      simp only [Lib.compareBytes, lexL, ih k]
      have h1 : a < b ↔ a.toNat < b.toNat := UInt8.lt_iff_toNat_lt
      have h2 : b < a ↔ b.toNat < a.toNat := UInt8.lt_iff_toNat_lt
      simp only [h1, h2]
      rcases sgn_cases (a.toNat : Int) (b.toNat : Int) with ⟨h, e⟩ | ⟨h, e⟩ | ⟨h, e⟩
      · rw [if_pos (by omega), e]; rfl
      · rw [if_neg (by omega), if_pos (by omega), e]; rfl
      · rw [if_neg (by omega), if_neg (by omega), e]; rfl
theorem scmp_neg (s t : ByteArray) : scmp t s = - scmp s t := by unfold scmp; rw [cb_lexL, cb_lexL]; exact lexL_neg _ _ (fun _ _ _ => sgn_neg _ _)
theorem scmp_self (s : ByteArray) : scmp s s = 0 := by unfold scmp; rw [cb_lexL]; exact lexL_self _ (fun _ _ => sgn_self _)
theorem scmp_tr (s t u : ByteArray) : Tr (scmp s t) (scmp t u) (scmp s u) := by unfold scmp; rw [cb_lexL, cb_lexL, cb_lexL]; exact lexL_tr _ _ _ (fun _ _ _ _ => sgn_tr _ _ _)
theorem kcmp_lexL : ∀ l k, kcmp l k = lexL scmp l k := by
  intro l
  induction l with
  | nil => intro k; cases k <;> rfl
  | cons a l ih =>
    intro k
    cases k with
    | nil => rfl
    | cons b k => simp only [kcmp, lexL, ih k]
theorem cmps_lexL : ∀ l k, V.cmps l k = lexL V.cmp l k := by
  intro l
  induction l with
  | nil => intro k; cases k <;> simp [V.cmps, lexL]
  | cons a l ih =>
    intro k
    cases k with
    | nil => simp [V.cmps, lexL]
    | cons b k => simp only [V.cmps, lexL, ih k]
theorem kcmp_neg (l k : List ByteArray) : kcmp k l = - kcmp l k := by rw [kcmp_lexL, kcmp_lexL]; exact lexL_neg _ _ (fun _ _ _ => scmp_neg _ _)
theorem kcmp_self (l : List ByteArray) : kcmp l l = 0 := by rw [kcmp_lexL]; exact lexL_self _ (fun _ _ => scmp_self _)
theorem kcmp_tr (l k m : List ByteArray) : Tr (kcmp l k) (kcmp k m) (kcmp l m) := by rw [kcmp_lexL, kcmp_lexL, kcmp_lexL]; exact lexL_tr _ _ _ (fun _ _ _ _ => scmp_tr _ _ _)
theorem size_item {x : V} {k : Int} {b : Bool} {n : Int} {t : ByteArray} {is : List V} {ks : List ByteArray} (h : x ∈ is) : sizeOf x < sizeOf (V.mk k b n t is ks) := by
  have := List.sizeOf_lt_of_mem h
  simp only [V.mk.sizeOf_spec]
  omega
theorem cmp_neg : ∀ (N : Nat) (a : V), sizeOf a < N → ∀ b, V.cmp b a = - V.cmp a b := by
  intro N
  induction N with
  | zero => intro a h; omega
  | succ N ih =>
    rintro ⟨k, b, n, t, is, ks⟩ h ⟨k', b', n', t', is', ks'⟩
    simp only [V.cmp, cmps_lexL]
    rw [lexL_neg is is' (fun x hx y => ih x (by have := size_item (k := k) (b := b) (n := n) (t := t) (ks := ks) hx; omega) y), kcmp_neg ks ks', scmp_neg t t', sgn_neg n n', sgn_neg (bitI b) (bitI b'), sgn_neg k k', lex_neg, lex_neg, lex_neg, lex_neg, lex_neg]
theorem cmp_self : ∀ (N : Nat) (a : V), sizeOf a < N → V.cmp a a = 0 := by
  intro N
  induction N with
  | zero => intro a h; omega
  | succ N ih =>
    rintro ⟨k, b, n, t, is, ks⟩ h
    simp only [V.cmp, cmps_lexL]
    rw [lexL_self is (fun x hx => ih x (by have := size_item (k := k) (b := b) (n := n) (t := t) (ks := ks) hx; omega)), kcmp_self, scmp_self, sgn_self, sgn_self, sgn_self]
    rfl
theorem cmp_tr : ∀ (N : Nat) (a : V), sizeOf a < N → ∀ b c, Tr (V.cmp a b) (V.cmp b c) (V.cmp a c) := by
  intro N
  induction N with
  | zero => intro a h; omega
  | succ N ih =>
    rintro ⟨k, b, n, t, is, ks⟩ h ⟨k', b', n', t', is', ks'⟩ ⟨k'', b'', n'', t'', is'', ks''⟩
    simp only [V.cmp, cmps_lexL]
    exact (sgn_tr _ _ _).lex ((sgn_tr _ _ _).lex ((sgn_tr _ _ _).lex ((scmp_tr _ _ _).lex ((kcmp_tr _ _ _).lex (lexL_tr is is' is'' (fun x hx y z => ih x (by have := size_item (k := k) (b := b) (n := n) (t := t) (ks := ks) hx; omega) y z))))))
/-- What the law asks of three values. -/
theorem cmp_law (a b c : V) : V.cmp b a = - V.cmp a b ∧ V.cmp a a = 0 ∧ ¬ (V.cmp a b ≤ 0 ∧ V.cmp b c ≤ 0 ∧ 0 < V.cmp a c) ∧ ¬ (0 ≤ V.cmp a b ∧ 0 ≤ V.cmp b c ∧ V.cmp a c < 0) := by
  have h := cmp_tr _ a (Nat.lt_succ_self _) b c
  refine ⟨cmp_neg _ a (Nat.lt_succ_self _) b, cmp_self _ a (Nat.lt_succ_self _), ?_, ?_⟩
  · intro ⟨h1, h2, h3⟩
    have := (h.1 h1 h2).1
    omega
  · intro ⟨h1, h2, h3⟩
    have := (h.2 (by omega) (by omega)).1
    omega
/-- Comparing gives -1, 0 or 1. -/
theorem lex_bd {x y : Int} (h : -1 ≤ x ∧ x ≤ 1) (k : -1 ≤ y ∧ y ≤ 1) : -1 ≤ lex x y ∧ lex x y ≤ 1 := by unfold lex; split <;> omega
theorem sgn_bd (a b : Int) : -1 ≤ sgn a b ∧ sgn a b ≤ 1 := by rcases sgn_cases a b with ⟨h, e⟩ | ⟨h, e⟩ | ⟨h, e⟩ <;> omega
theorem lexL_bd {α : Type} {c : α → α → Int} : ∀ l k : List α, (∀ x ∈ l, ∀ y, -1 ≤ c x y ∧ c x y ≤ 1) → -1 ≤ lexL c l k ∧ lexL c l k ≤ 1 := by
  intro l
  induction l with
  | nil => intro k _; cases k <;> simp [lexL]
  | cons a l ih =>
    intro k h
    cases k with
    | nil => simp [lexL]
    | cons b k => simp only [lexL]; exact lex_bd (h a (by simp) b) (ih k (fun x hx => h x (by simp [hx])))
theorem scmp_bd (s t : ByteArray) : -1 ≤ scmp s t ∧ scmp s t ≤ 1 := by unfold scmp; rw [cb_lexL]; exact lexL_bd _ _ (fun _ _ _ => sgn_bd _ _)
theorem kcmp_bd (l k : List ByteArray) : -1 ≤ kcmp l k ∧ kcmp l k ≤ 1 := by rw [kcmp_lexL]; exact lexL_bd _ _ (fun _ _ _ => scmp_bd _ _)
theorem cmp_bd : ∀ (N : Nat) (a : V), sizeOf a < N → ∀ b, -1 ≤ V.cmp a b ∧ V.cmp a b ≤ 1 := by
  intro N
  induction N with
  | zero => intro a h; omega
  | succ N ih =>
    rintro ⟨k, b, n, t, is, ks⟩ h ⟨k', b', n', t', is', ks'⟩
    simp only [V.cmp, cmps_lexL]
    exact lex_bd (sgn_bd _ _) (lex_bd (sgn_bd _ _) (lex_bd (sgn_bd _ _) (lex_bd (scmp_bd _ _) (lex_bd (kcmp_bd _ _) (lexL_bd _ _ (fun x hx y => ih x (by have := size_item (k := k) (b := b) (n := n) (t := t) (ks := ks) hx; omega) y))))))
end Mh
