/- lang's reader of rules: the reader before a rest of the text; what single, all and some are to show. Conditions: as stated. -/
import Derived.Test.YtgfoangacbajlaaDoorRuL
import Derived.Test.YtgfoangacbajlaaDoorRuB
namespace Go.Proofs.YtgfoangacbajlaaDoor
open Go.RowKit Mh
set_option linter.unusedVariables false

/-- The reader in b stands before r. -/
def SR (b : Nat) (s : ByteArray) (r : List UInt8) (w : World) : Prop := ∃ i, i ≤ s.size ∧ s.data.toList.drop i = r ∧ RS b s i w
theorem SR.lt {b : Nat} {s : ByteArray} {r : List UInt8} {w : World} (h : SR b s r w) : b < w.heap.size := by obtain ⟨i, _, _, h⟩ := h; exact h.lt
theorem SR.next {b : Nat} {s : ByteArray} {r : List UInt8} {w w' : World} (h : SR b s r w) (hb : Below w.heap.size w w') : SR b s r w' := by obtain ⟨i, h1, h2, h⟩ := h; exact ⟨i, h1, h2, h.next hb⟩
theorem SR.alloc {b : Nat} {s : ByteArray} {r : List UInt8} {w : World} (h : SR b s r w) (o : Obj) : SR b s r (w.alloc o) := by obtain ⟨i, h1, h2, h⟩ := h; exact ⟨i, h1, h2, h.alloc o⟩
theorem SR.drewN {b : Nat} {s : ByteArray} {r : List UInt8} {w : World} (h : SR b s r w) (n : Nat) : SR b s r (w.drewN n) := h
theorem SR.set {b : Nat} {s : ByteArray} {r : List UInt8} {w : World} (h : SR b s r w) (k o : Nat) (v : Value) (hk : b ≠ k) : SR b s r (w.setCell ⟨k, o, none⟩ v) := by
  obtain ⟨i, h1, h2, h⟩ := h; exact ⟨i, h1, h2, (heap_setCell_other w ⟨k, o, none⟩ b v hk).trans h⟩
theorem SR.block {b : Nat} {s : ByteArray} {r : List UInt8} {w w' : World} (h : SR b s r w) (hb : w'.heap[b]? = w.heap[b]?) : SR b s r w' := by obtain ⟨i, h1, h2, h⟩ := h; exact ⟨i, h1, h2, hb.trans h⟩
theorem SR.bad {b : Nat} {s : ByteArray} {r : List UInt8} {w : World} (h : SR b s r w) : w.cell? ⟨b, 3, none⟩ = some (.bool false) := by obtain ⟨i, h1, h2, h⟩ := h; exact cellT h rfl
theorem sr_is {b : Nat} {s sign : ByteArray} {r : List UInt8} {w : World} (h : SR b s r w) (hs : s.size ≤ 2000) (B : Bool) (hB : Lib.hasPrefix r sign.data.toList = B) :
    Calls Tryd.prog 13 #[.pointer (some ⟨b, 0, none⟩), .string sign] w fun e w' => e = .returned (.bool B) ∧ SR b s r w' ∧ Below w.heap.size w w' := by
  obtain ⟨i, h1, h2, h⟩ := h
  refine (is_any b s i sign w h h1 hs).mono ?_
  rintro e w' ⟨rfl, hb⟩
  exact ⟨by rw [h2, hB], ⟨i, h1, h2, h.next hb⟩, hb⟩
theorem sr_pos {s : ByteArray} {i : Nat} {p r : List UInt8} (h1 : i ≤ s.size) (h2 : s.data.toList.drop i = p ++ r) : i + p.length ≤ s.size ∧ s.data.toList.drop (i + p.length) = r := by
  refine ⟨?_, drop_next h2⟩
  have h := congrArg List.length h2
  have hl : s.data.toList.length = s.size := by simp
  simp only [List.length_drop, List.length_append] at h
  omega
theorem sr_take {b : Nat} {s sign : ByteArray} {r : List UInt8} {w : World} (h : SR b s (sign.data.toList ++ r) w) (hs : s.size ≤ 2000) :
    Calls Tryd.prog 14 #[.pointer (some ⟨b, 0, none⟩), .string sign] w fun e w' => e = .returned (.tuple #[]) ∧ SR b s r w' ∧ Kept [b] w w' := by
  obtain ⟨i, h1, h2, h⟩ := h
  obtain ⟨h3, h4⟩ := sr_pos h1 h2
  refine (take_ok b s i sign r w h h2 h1 hs).mono ?_
  rintro e w' ⟨rfl, hr, hk⟩
  have e2 : sign.data.toList.length = sign.size := by simp
  rw [e2] at h3 h4
  exact ⟨rfl, ⟨_, h3, h4, hr⟩, hk⟩
theorem sr_more_no {b : Nat} {s sign : ByteArray} {r : List UInt8} {w : World} (h : SR b s r w) (hs : s.size ≤ 2000) (h3 : sign.size = 3) (hno : Lib.hasPrefix r (sign.data.toList.take 2) = false) :
    Calls Tryd.prog 42 #[.pointer (some ⟨b, 0, none⟩), .string sign] w fun e w' => e = .returned (.bool false) ∧ SR b s r w' ∧ Kept [b] w w' := by
  obtain ⟨i, h1, h2, h⟩ := h
  refine (more_no b s i sign w h h1 hs h3 (by unfold m2; rw [h2]; exact hno)).mono ?_
  rintro e w' ⟨rfl, hb⟩
  exact ⟨rfl, ⟨i, h1, h2, h.next hb⟩, Kept.of_below hb⟩
theorem sr_more_yes {b : Nat} {s sign : ByteArray} {r : List UInt8} {w : World} (h : SR b s (sign.data.toList ++ r) w) (hs : s.size ≤ 2000) (h3 : sign.size = 3) :
    Calls Tryd.prog 42 #[.pointer (some ⟨b, 0, none⟩), .string sign] w fun e w' => e = .returned (.bool true) ∧ SR b s r w' ∧ Kept [b] w w' := by
  obtain ⟨i, h1, h2, h⟩ := h
  obtain ⟨h4, h5⟩ := sr_pos h1 h2
  refine (more_yes b s i sign r w h h1 hs h3 h2).mono ?_
  rintro e w' ⟨rfl, hr, hk⟩
  have e2 : sign.data.toList.length = 3 := by simpa using h3
  rw [e2] at h4 h5
  exact ⟨rfl, ⟨_, h4, h5, hr⟩, hk⟩
theorem sr_close {b : Nat} {s : ByteArray} {r : List UInt8} {w : World} (h : SR b s (41 :: r) w) (hs : s.size ≤ 2000) :
    Calls Tryd.prog 66 #[.pointer (some ⟨b, 0, none⟩)] w fun e w' => e = .returned (.tuple #[]) ∧ SR b s r w' ∧ Kept [b] w w' := by
  obtain ⟨i, h1, h2, h⟩ := h
  obtain ⟨h4, h5⟩ := sr_pos (p := [41]) h1 h2
  refine (close_ok b s i r w h h1 hs h2).mono ?_
  rintro e w' ⟨rfl, hr, hk⟩
  exact ⟨rfl, ⟨_, h4, h5, hr⟩, hk⟩
theorem sr_within {b : Nat} {s : ByteArray} {m lo hi : Int} {r : List UInt8} {w : World} (h : SR b s (within m lo hi ++ r) w) (hr : noDigit r) (hr2 : r.head? ≠ some 46) (hs : s.size ≤ 2000)
    (hg : (m = 0 ∨ 2 ≤ m ∧ m ≤ 1000000) ∧ 0 ≤ lo ∧ lo ≤ hi ∧ hi ≤ 1000000000) :
    Calls Tryd.prog 67 #[.pointer (some ⟨b, 0, none⟩)] w fun e w' => e = .returned (.agg #[.int .i64 1, .int .i64 m, .int .i64 lo, .int .i64 hi, .slice none 0 0]) ∧ SR b s r w' ∧ Kept [b] w w' := by
  obtain ⟨i, h1, h2, h⟩ := h
  obtain ⟨h4, h5⟩ := sr_pos h1 h2
  refine (within_ok b s i m lo hi r w h h2 hr hr2 hs hg).mono ?_
  rintro e w' ⟨rfl, hrr, hk⟩
  exact ⟨rfl, ⟨_, h4, h5, hrr⟩, hk⟩

/-- What may stand behind a test: nothing, a blank, a closing bracket, a semicolon. -/
def restS (r : List UInt8) : Prop := ∀ c, r.head? = some c → c = 32 ∨ c = 41 ∨ c = 59
/-- The same, and it begins no further kid of All. -/
def restA (r : List UInt8) : Prop := restS r ∧ Lib.hasPrefix r [32, 38] = false
/-- The same, and it begins no further kid of Some. -/
def restO (r : List UInt8) : Prop := restA r ∧ Lib.hasPrefix r [32, 124] = false
/-- A test that was read: what lies in the new blocks. -/
def GotT (b : Nat) (s : ByteArray) (k : T) (r : List UInt8) (w : World) (e : Ending) (w' : World) : Prop :=
  ∃ cs : List Value, e = .returned (.agg cs.toArray) ∧ TAt (fresh w.heap.size none w') k cs ∧ SR b s r w' ∧ Kept [b] w w'
def GotTs (b : Nat) (s : ByteArray) (ks : List T) (r : List UInt8) (w : World) (e : Ending) (w' : World) : Prop :=
  ∃ (v : Value) (rows : List Value), e = .returned v ∧ Sl 5 (fresh w.heap.size none w') v ks.length rows ∧ TsAt (fresh w.heap.size none w') ks rows ∧ SR b s r w' ∧ Kept [b] w w'
def SingleOk (N : Nat) : Prop := ∀ (k : T), SizeOf.sizeOf k < N → k.form = true → k.rng = true → k.op ≠ 2 → ∀ (b : Nat) (s : ByteArray) (r : List UInt8) (w : World), s.size ≤ 2000 → restS r → SR b s (itm k ++ r) w →
  Calls Tryd.prog 55 #[.pointer (some ⟨b, 0, none⟩)] w (GotT b s k r w)
def AllOk (N : Nat) : Prop := ∀ (k : T), SizeOf.sizeOf k < N → k.form = true → k.rng = true → ∀ (nn : Bool), (k.op = 3 → nn = true) → ∀ (b : Nat) (s : ByteArray) (r : List UInt8) (w : World), s.size ≤ 2000 → restA r → SR b s (itm k ++ r) w →
  Calls Tryd.prog 41 #[.pointer (some ⟨b, 0, none⟩), .bool nn] w (GotT b s k r w)
def SomeOk (N : Nat) : Prop := ∀ (k : T) (ks : List T), (∀ x ∈ k :: ks, SizeOf.sizeOf x < N ∧ x.form = true ∧ x.rng = true) → ∀ (nn : Bool), (∀ x ∈ k :: ks, x.op = 3 → nn = true) → ∀ (b : Nat) (s : ByteArray) (r : List UInt8) (w : World), s.size ≤ 2000 → restO r →
  SR b s (itm k ++ (tailB sOr (ks.map itm) ++ r)) w → Calls Tryd.prog 27 #[.pointer (some ⟨b, 0, none⟩), .bool nn] w (GotTs b s (k :: ks) r w)
theorem restA_or {r : List UInt8} (h : restO r) : ∀ l : List (List UInt8), restA (tailB sOr l ++ r)
  | [] => by simpa [tailB] using h.1
  | p :: l => by
    rw [tailB_cons]
    refine ⟨fun c hc => ?_, ?_⟩
    · simp [sOr] at hc; subst hc; left; rfl
    · simp [sOr, Lib.hasPrefix, List.isPrefixOf]
theorem restS_and {r : List UInt8} (h : restA r) : ∀ l : List (List UInt8), restS (tailB sAnd l ++ r)
  | [] => by simpa [tailB] using h.1
  | p :: l => by
    rw [tailB_cons]
    intro c hc
    simp [sAnd] at hc; subst hc; left; rfl
theorem restS.noDigit {r : List UInt8} (h : restS r) : noDigit r := by
  intro c hc
  rcases h c hc with rfl | rfl | rfl
  · left; decide
  · left; decide
  · right; decide
theorem restS.noDot {r : List UInt8} (h : restS r) : r.head? ≠ some 46 := by
  intro hc
  rcases h _ hc with e | e | e <;> cases e
end Go.Proofs.YtgfoangacbajlaaDoor
