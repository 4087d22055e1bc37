/- Pieces and ways of messages as they lie in memory; later worlds; rows of them. No program. -/
import Derived.Test.YtdolpehcfifecaaGreatDoorMgQ
import Derived.Test.YtdolpehcfifecaaGreatDoorVeil
namespace Mh
open Go Go.RowKit
set_option linter.unusedVariables false
mutual
/-- The three cells of a piece. -/
def PcAt (w : World) : Pc → List Value → Prop
  | .mk k t ws, cs => ∃ wv : Value, cs = [.int .i64 k, .string t, wv] ∧ (Lit.int .i64 k).wf = true ∧ t.size ≤ maxLen ∧ ∃ rows : List Value, Sl 4 w wv ws.length rows ∧ WysAt w ws rows
def PcsAt (w : World) : List Pc → List Value → Prop
  | [], rows => rows = []
  | x :: xs, rows => ∃ c r : List Value, rows = c ++ r ∧ c.length = 3 ∧ PcAt w x c ∧ PcsAt w xs r
/-- The four cells of a way. -/
def WyAt (w : World) : Wy → List Value → Prop
  | .mk u x f ps, cs => ∃ pv : Value, cs = [.string u, .int .i64 x, .int .i64 f, pv] ∧ u.size ≤ maxLen ∧ (Lit.int .i64 x).wf = true ∧ (Lit.int .i64 f).wf = true ∧ ∃ rows : List Value, Sl 3 w pv ps.length rows ∧ PcsAt w ps rows
def WysAt (w : World) : List Wy → List Value → Prop
  | [], rows => rows = []
  | x :: xs, rows => ∃ c r : List Value, rows = c ++ r ∧ c.length = 4 ∧ WyAt w x c ∧ WysAt w xs r
end
theorem PcAt.length {w : World} {X : Pc} {cs : List Value} (h : PcAt w X cs) : cs.length = 3 := by
  cases X with
  | mk k t ws =>
    unfold PcAt at h
    obtain ⟨wv, rfl, _⟩ := h
    rfl
theorem WyAt.length {w : World} {X : Wy} {cs : List Value} (h : WyAt w X cs) : cs.length = 4 := by
  cases X with
  | mk u x f ps =>
    unfold WyAt at h
    obtain ⟨pv, rfl, _⟩ := h
    rfl
mutual
theorem PcAt.keeps {w w' : World} (hk : Keeps w w') : ∀ {X : Pc} {cs : List Value}, PcAt w X cs → PcAt w' X cs
  | .mk k t ws, cs, h => by
    unfold PcAt at h ⊢
    obtain ⟨wv, h1, h2, h3, rows, h4, h5⟩ := h
    exact ⟨wv, h1, h2, h3, rows, h4.keeps hk, WysAt.keeps hk h5⟩
theorem PcsAt.keeps {w w' : World} (hk : Keeps w w') : ∀ {xs : List Pc} {rows : List Value}, PcsAt w xs rows → PcsAt w' xs rows
  | [], rows, h => by unfold PcsAt at h ⊢; exact h
  | x :: xs, rows, h => by
    unfold PcsAt at h ⊢
    obtain ⟨c, r, h1, h2, h3, h4⟩ := h
    exact ⟨c, r, h1, h2, PcAt.keeps hk h3, PcsAt.keeps hk h4⟩
theorem WyAt.keeps {w w' : World} (hk : Keeps w w') : ∀ {X : Wy} {cs : List Value}, WyAt w X cs → WyAt w' X cs
  | .mk u x f ps, cs, h => by
    unfold WyAt at h ⊢
    obtain ⟨pv, h1, h2, h3, h4, rows, h5, h6⟩ := h
    exact ⟨pv, h1, h2, h3, h4, rows, h5.keeps hk, PcsAt.keeps hk h6⟩
theorem WysAt.keeps {w w' : World} (hk : Keeps w w') : ∀ {xs : List Wy} {rows : List Value}, WysAt w xs rows → WysAt w' xs rows
  | [], rows, h => by unfold WysAt at h ⊢; exact h
  | x :: xs, rows, h => by
    unfold WysAt at h ⊢
    obtain ⟨c, r, h1, h2, h3, h4⟩ := h
    exact ⟨c, r, h1, h2, WyAt.keeps hk h3, WysAt.keeps hk h4⟩
end
theorem PcsAt.nil (w : World) : PcsAt w [] [] := by unfold PcsAt; rfl
theorem WysAt.nil (w : World) : WysAt w [] [] := by unfold WysAt; rfl
theorem PcsAt.append {w : World} : ∀ {is js : List Pc} {r q : List Value}, PcsAt w is r → PcsAt w js q → PcsAt w (is ++ js) (r ++ q) := by
  intro is
  induction is with
  | nil => intro js r q h k; unfold PcsAt at h; subst h; exact k
  | cons x xs ih =>
    intro js r q h k
    unfold PcsAt at h
    obtain ⟨c, r', rfl, hc, hx, hr⟩ := h
    rw [List.cons_append, List.append_assoc]
    unfold PcsAt
    exact ⟨c, r' ++ q, rfl, hc, hx, ih hr k⟩
theorem WysAt.append {w : World} : ∀ {is js : List Wy} {r q : List Value}, WysAt w is r → WysAt w js q → WysAt w (is ++ js) (r ++ q) := by
  intro is
  induction is with
  | nil => intro js r q h k; unfold WysAt at h; subst h; exact k
  | cons x xs ih =>
    intro js r q h k
    unfold WysAt at h
    obtain ⟨c, r', rfl, hc, hx, hr⟩ := h
    rw [List.cons_append, List.append_assoc]
    unfold WysAt
    exact ⟨c, r' ++ q, rfl, hc, hx, ih hr k⟩
theorem PcsAt.one {w : World} {X : Pc} {cs : List Value} (h : PcAt w X cs) : PcsAt w [X] cs := by
  unfold PcsAt
  exact ⟨cs, [], by simp, h.length, h, PcsAt.nil w⟩
theorem WysAt.one {w : World} {X : Wy} {cs : List Value} (h : WyAt w X cs) : WysAt w [X] cs := by
  unfold WysAt
  exact ⟨cs, [], by simp, h.length, h, WysAt.nil w⟩
theorem PcsAt.length {w : World} : ∀ {is : List Pc} {r : List Value}, PcsAt w is r → r.length = is.length * 3 := by
  intro is
  induction is with
  | nil => intro r h; unfold PcsAt at h; subst h; rfl
  | cons x xs ih =>
    intro r h
    unfold PcsAt at h
    obtain ⟨c, r', rfl, hc, hx, hr⟩ := h
    rw [List.length_append, hc, ih hr, List.length_cons]; omega
theorem WysAt.length {w : World} : ∀ {is : List Wy} {r : List Value}, WysAt w is r → r.length = is.length * 4 := by
  intro is
  induction is with
  | nil => intro r h; unfold WysAt at h; subst h; rfl
  | cons x xs ih =>
    intro r h
    unfold WysAt at h
    obtain ⟨c, r', rfl, hc, hx, hr⟩ := h
    rw [List.length_append, hc, ih hr, List.length_cons]; omega
theorem PcsAt.get {w : World} : ∀ {is : List Pc} {rows : List Value}, PcsAt w is rows → ∀ i (h : i < is.length), ∃ c : List Value, PcAt w is[i] c ∧ ∀ j, j < 3 → rows[i * 3 + j]? = c[j]? := by
  intro is
  induction is with
  | nil => intro rows _ i h; simp at h
  | cons x xs ih =>
    intro rows h i hi
    unfold PcsAt at h
    obtain ⟨c, r, rfl, hc, hx, hr⟩ := h
    cases i with
    | zero => exact ⟨c, hx, fun j hj => by rw [List.getElem?_append_left (by omega)]; congr 1; omega⟩
    | succ i =>
      obtain ⟨c', h1, h2⟩ := ih hr i (by simpa using hi)
      refine ⟨c', h1, fun j hj => ?_⟩
      rw [List.getElem?_append_right (by omega), ← h2 j hj]
      congr 1
      omega
theorem WysAt.get {w : World} : ∀ {is : List Wy} {rows : List Value}, WysAt w is rows → ∀ i (h : i < is.length), ∃ c : List Value, WyAt w is[i] c ∧ ∀ j, j < 4 → rows[i * 4 + j]? = c[j]? := by
  intro is
  induction is with
  | nil => intro rows _ i h; simp at h
  | cons x xs ih =>
    intro rows h i hi
    unfold WysAt at h
    obtain ⟨c, r, rfl, hc, hx, hr⟩ := h
    cases i with
    | zero => exact ⟨c, hx, fun j hj => by rw [List.getElem?_append_left (by omega)]; congr 1; omega⟩
    | succ i =>
      obtain ⟨c', h1, h2⟩ := ih hr i (by simpa using hi)
      refine ⟨c', h1, fun j hj => ?_⟩
      rw [List.getElem?_append_right (by omega), ← h2 j hj]
      congr 1
      omega
theorem PcAt.opened {w : World} {X : Pc} {cs : List Value} (h : PcAt w X cs) : ∃ a c, ∃ rows : List Value, cs = [.int .i64 X.kd, .string X.tx, .slice a X.ws.length c] ∧ (Lit.int .i64 X.kd).wf = true ∧ X.tx.size ≤ maxLen ∧ Sl 4 w (.slice a X.ws.length c) X.ws.length rows ∧ WysAt w X.ws rows := by
  cases X with
  | mk k t ws =>
    unfold PcAt at h
    obtain ⟨wv, rfl, h2, h3, rows, h4, h5⟩ := h
    rcases h4.2 with ⟨h0, a, c, rfl⟩ | ⟨b, off, c, rfl, _⟩
    · exact ⟨a, c, rows, by show _ = [Value.int .i64 k, Value.string t, Value.slice a ws.length c]; rw [h0], h2, h3, by show Sl 4 w (.slice a ws.length c) ws.length rows; rw [h0] at h4 ⊢; exact h4, h5⟩
    · exact ⟨_, c, rows, rfl, h2, h3, h4, h5⟩
theorem WyAt.opened {w : World} {X : Wy} {cs : List Value} (h : WyAt w X cs) : ∃ a c, ∃ rows : List Value, cs = [.string X.wd, .int .i64 X.ex, .int .i64 X.fm, .slice a X.ps.length c] ∧ X.wd.size ≤ maxLen ∧ (Lit.int .i64 X.ex).wf = true ∧ (Lit.int .i64 X.fm).wf = true ∧ Sl 3 w (.slice a X.ps.length c) X.ps.length rows ∧ PcsAt w X.ps rows := by
  cases X with
  | mk u x f ps =>
    unfold WyAt at h
    obtain ⟨pv, rfl, h1, h2, h3, rows, h4, h5⟩ := h
    rcases h4.2 with ⟨h0, a, c, rfl⟩ | ⟨b, off, c, rfl, _⟩
    · exact ⟨a, c, rows, by show _ = [Value.string u, Value.int .i64 x, Value.int .i64 f, Value.slice a ps.length c]; rw [h0], h1, h2, h3, by show Sl 3 w (.slice a ps.length c) ps.length rows; rw [h0] at h4 ⊢; exact h4, h5⟩
    · exact ⟨_, c, rows, rfl, h1, h2, h3, h4, h5⟩
theorem PcAt.made {w : World} {k : Int} {t : ByteArray} {ws : List Wy} {wv : Value} {rows : List Value} (hk : (Lit.int .i64 k).wf = true) (ht : t.size ≤ maxLen) (h : Sl 4 w wv ws.length rows) (h2 : WysAt w ws rows) : PcAt w (.mk k t ws) [.int .i64 k, .string t, wv] := by
  unfold PcAt; exact ⟨wv, rfl, hk, ht, rows, h, h2⟩
theorem WyAt.made {w : World} {u : ByteArray} {x f : Int} {ps : List Pc} {pv : Value} {rows : List Value} (hu : u.size ≤ maxLen) (hx : (Lit.int .i64 x).wf = true) (hf : (Lit.int .i64 f).wf = true) (h : Sl 3 w pv ps.length rows) (h2 : PcsAt w ps rows) : WyAt w (.mk u x f ps) [.string u, .int .i64 x, .int .i64 f, pv] := by
  unfold WyAt; exact ⟨pv, rfl, hu, hx, hf, rows, h, h2⟩
end Mh
