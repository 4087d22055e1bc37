/- conf.set: a value set along steps. Conditions: the value is right and of at most 1000 values; keys of at most maxLen bytes. -/
import Derived.Test.YtekknckdeedjnaaGreatDoorKeX
import Derived.Deep.RegionHeld3
import Derived.Deep.CutRange
namespace Go.Proofs.YtekknckdeedjnaaGreatDoor
open Go.RowKit Mh
set_option linter.unusedVariables false

/-- What set returns. -/
def SetOk (S : Nat → Bool) (X : V) (l : List St) (Y : V) (w : World) (e : Ending) (w' : World) : Prop :=
  ∃ (ds : List Value) (c : Int), e = .returned (.tuple #[.agg ds.toArray, .int .i64 c]) ∧ Below w.heap.size w w' ∧ (c = 0 ↔ (setV X l Y).isSome = true) ∧ VAt (veil S w') ((setV X l Y).getD V.nil) ds
/-- What is hidden of the call's own boxes. -/
def setS (S : Nat → Bool) (n : Nat) (k : Nat) : Bool := S k || decide (n ≤ k ∧ k < n + 3)
theorem setS_false {S : Nat → Bool} {n k : Nat} : setS S n k = false ↔ S k = false ∧ ¬ (n ≤ k ∧ k < n + 3) := by simp [setS]
def stb (s : St) : Obj := .cells #[.string s.key, .int .i64 s.num, .bool false] 94
/-- What stands in set behind the choice of kind. -/
structure SetIn (S : Nat → Bool) (X Y : V) (s : St) (w : World) (xa : Option Addr) (xc : Nat) (xk : Option Addr) (xkc : Nat) (ya : Option Addr) (yc : Nat) (yk : Option Addr) (ykc : Nat) (W : World) : Prop where
  bx : W.heap[w.heap.size]? = some (box6 X xa xc xk xkc)
  by_ : W.heap[w.heap.size + 1]? = some (box6 Y ya yc yk ykc)
  b0 : W.heap[w.heap.size + 2]? = some box0
  bs : W.heap[w.heap.size + 3]? = some (stb s)
  x : VAt (veil (setS S w.heap.size) W) X (vcs X xa xc xk xkc)
  y : VAt (veil (setS S w.heap.size) W) Y (vcs Y ya yc yk ykc)
  below : Below w.heap.size w W
  size : w.heap.size + 4 ≤ W.heap.size
theorem SetIn.on {S : Nat → Bool} {X Y : V} {s : St} {w W W' : World} {xa xk ya yk : Option Addr} {xc xkc yc ykc : Nat} (h : SetIn S X Y s w xa xc xk xkc ya yc yk ykc W) (hb : Below W.heap.size W W') : SetIn S X Y s w xa xc xk xkc ya yc yk ykc W' := by
  have hz := h.size
  exact ⟨(hb.block _ (by omega)).trans h.bx, (hb.block _ (by omega)).trans h.by_, (hb.block _ (by omega)).trans h.b0, (hb.block _ (by omega)).trans h.bs, h.x.keeps (Keeps.belows hb), h.y.keeps (Keeps.belows hb), h.below.trans (hb.mono h.below.size), Nat.le_trans hz hb.size⟩
theorem setIn_start (S : Nat → Bool) (X Y : V) (s : St) (w : World) (xa xk ya yk : Option Addr) (xc xkc yc ykc : Nat) (hX : VAt (veil S w) X (vcs X xa xc xk xkc)) (hY : VAt (veil S w) Y (vcs Y ya yc yk ykc)) :
    SetIn S X Y s w xa xc xk xkc ya yc yk ykc ((((w.alloc (box6 X xa xc xk xkc)).alloc (box6 Y ya yc yk ykc)).alloc box0).alloc (stb s)) := by
  have hK : Keeps (veil S w) (veil (setS S w.heap.size) ((((w.alloc (box6 X xa xc xk xkc)).alloc (box6 Y ya yc yk ykc)).alloc box0).alloc (stb s))) := by
    refine Keeps.veils (by simp; omega) fun k hk hs => ⟨by rw [setS_false]; exact ⟨hs, by omega⟩, ?_⟩
    rw [heap_alloc_old _ _ (by simp; omega), heap_alloc_old _ _ (by simp; omega), heap_alloc_old _ _ (by simp; omega), heap_alloc_old _ _ hk]
  refine ⟨?_, ?_, ?_, heap_new_at (by simp), hX.keeps hK, hY.keeps hK, ((((Below.refl w.heap.size w).alloc (Nat.le_refl _) _).alloc (by simp) _).alloc (by simp <;> omega) _).alloc (by simp <;> omega) _, by simp⟩
  · rw [heap_alloc_old _ _ (by simp <;> omega), heap_alloc_old _ _ (by simp <;> omega), heap_alloc_old _ _ (by simp), heap_alloc_new]
  · rw [heap_alloc_old _ _ (by simp <;> omega), heap_alloc_old _ _ (by simp), heap_new_at (by simp)]
  · rw [heap_alloc_old _ _ (by simp), heap_new_at (by simp)]
theorem SetIn.nilled {S : Nat → Bool} {X Y : V} {s : St} {w W : World} {xa xk ya yk : Option Addr} {xc xkc yc ykc : Nat} (h : SetIn S X Y s w xa xc xk xkc ya yc yk ykc W) (hk : X.kd = 0) :
    SetIn S (setIn X s) Y s w none 0 none 0 ya yc yk ykc (put6 W w.heap.size (.int .i64 s.kd) (.bool false) (.int .i64 0) (.string ⟨#[]⟩) (.slice none 0 0) (.slice none 0 0)) := by
  have hz := h.size
  have e : setIn X s = .mk s.kd false 0 ⟨#[]⟩ [] [] := by unfold setIn; rw [if_pos hk]
  rw [e]
  have hkeep : Keeps (veil (setS S w.heap.size) W) (veil (setS S w.heap.size) (put6 W w.heap.size (.int .i64 s.kd) (.bool false) (.int .i64 0) (.string ⟨#[]⟩) (.slice none 0 0) (.slice none 0 0))) :=
    Keeps.veils (by rw [put6_size]; exact Nat.le_refl _) fun k _ hs => ⟨hs, put6_other (by rw [setS_false] at hs; omega)⟩
  refine ⟨put6_at rfl h.bx, (put6_other (by omega)).trans h.by_, (put6_other (by omega)).trans h.b0, (put6_other (by omega)).trans h.bs, ?_, h.y.keeps hkeep, put6_below h.below (Nat.le_refl _), by rw [put6_size]; exact hz⟩
  exact VAt.made (X := .mk s.kd false 0 ⟨#[]⟩ [] []) (show (Lit.int .i64 s.kd).wf = true by unfold St.kd; split <;> rfl) rfl (Nat.zero_le _) ⟨Sl.nil _ _ _ _, by simp [V.kys]⟩ (Sl.nil _ _ _ _) (by simp [VsAt, V.its])
theorem SetIn.as {S : Nat → Bool} {X Y : V} {s : St} {w W : World} {xa xk ya yk : Option Addr} {xc xkc yc ykc : Nat} (h : SetIn S X Y s w xa xc xk xkc ya yc yk ykc W) (hk : X.kd ≠ 0) : SetIn S (setIn X s) Y s w xa xc xk xkc ya yc yk ykc W := by
  have e : setIn X s = X := by unfold setIn; rw [if_neg hk]
  rw [e]; exact h
/-- The way out with a fault. -/
theorem SetIn.zero {S : Nat → Bool} {X Y : V} {s : St} {w W : World} {xa xk ya yk : Option Addr} {xc xkc yc ykc : Nat} (h : SetIn S X Y s w xa xc xk xkc ya yc yk ykc W) : Below w.heap.size w (put6 W (w.heap.size + 2) (.int .i64 0) (.bool false) (.int .i64 0) (.string ⟨#[]⟩) (.slice none 0 0) (.slice none 0 0)) := put6_below h.below (by omega)
theorem setV_bad {X : V} {s : St} {l : List St} {Y : V} (h : (setIn X s).kd ≠ s.kd) : setV X (s :: l) Y = none := by unfold setV; rw [if_pos h]
theorem setV_far {X : V} {s : St} {l : List St} {Y : V} (h0 : s.k0 = true) (h : (setIn X s).its.length < s.num) : setV X (s :: l) Y = none := by
  unfold setV
  split
  · rfl
  · rw [if_pos ⟨h0, h⟩]
theorem setV_deep {X : V} {s : St} {l : List St} {Y : V} (h : setV ((followV (setIn X s) s).getD V.nil) l Y = none) : setV X (s :: l) Y = none := by
  unfold setV
  split
  · rfl
  split
  · rfl
  rw [h]
theorem setV_tab {X : V} {s : St} {l : List St} {Y Z : V} (hk : (setIn X s).kd = s.kd) (h0 : s.k0 = false) (h : setV ((followV (setIn X s) s).getD V.nil) l Y = some Z) : setV X (s :: l) Y = some (putV (setIn X s) s.key Z) := by
  unfold setV
  rw [if_neg (by simpa using hk), if_neg (by rw [h0]; simp), h]
  simp only [h0]
  rfl
theorem setV_lst {X : V} {s : St} {l : List St} {Y Z : V} (hk : (setIn X s).kd = s.kd) (h0 : s.k0 = true) (hn : s.num ≤ (setIn X s).its.length) (h : setV ((followV (setIn X s) s).getD V.nil) l Y = some Z) :
    setV X (s :: l) Y = some (if s.num = (setIn X s).its.length then .mk 5 false 0 ⟨#[]⟩ ((setIn X s).its ++ [Z]) [] else .mk 5 false 0 ⟨#[]⟩ ((setIn X s).its.set s.num Z) []) := by
  unfold setV
  rw [if_neg (by simpa using hk), if_neg (by rintro ⟨_, h⟩; omega), h]
  simp only [h0]
  by_cases hc : s.num = (setIn X s).its.length <;> simp [hc]
/-- What stands in set behind its own call. -/
structure SetMid (S : Nat → Bool) (X' Y : V) (s : St) (OV : V) (l : List St) (w : World) (xa : Option Addr) (xc : Nat) (xk : Option Addr) (xkc : Nat) (ya : Option Addr) (yc : Nat) (yk : Option Addr) (ykc : Nat) (ea : Option Addr) (ec : Nat) (ek : Option Addr) (ekc : Nat) (W : World) (yb : Nat) (c : Int) : Prop where
  si : SetIn S X' Y s w xa xc xk xkc ya yc yk ykc W
  code : c = 0 ↔ (setV OV l Y).isSome = true
  z : VAt (veil (setS S w.heap.size) W) ((setV OV l Y).getD V.nil) (vcs ((setV OV l Y).getD V.nil) ea ec ek ekc)
  bz : W.heap[yb]? = some (box6 ((setV OV l Y).getD V.nil) ea ec ek ekc)
  lo : w.heap.size + 4 ≤ yb
theorem SetMid.late {S : Nat → Bool} {X' Y : V} {s : St} {OV : V} {l : List St} {w W3 w5 : World} {xa xk ya yk ea ek : Option Addr} {xc xkc yc ykc ec ekc : Nat} {c : Int} (h : SetIn S X' Y s w xa xc xk xkc ya yc yk ykc W3) (hb : Below W3.heap.size W3 w5)
    (hc : c = 0 ↔ (setV OV l Y).isSome = true) (hz : VAt (veil (setS S w.heap.size) w5) ((setV OV l Y).getD V.nil) (vcs ((setV OV l Y).getD V.nil) ea ec ek ekc)) :
    SetMid S X' Y s OV l w xa xc xk xkc ya yc yk ykc ea ec ek ekc (w5.alloc (box6 ((setV OV l Y).getD V.nil) ea ec ek ekc)) w5.heap.size c :=
  ⟨h.on (hb.alloc hb.size _), hc, hz.keeps (Keeps.belows ((Below.refl _ _).alloc (Nat.le_refl _) _)), heap_alloc_new _ _, Nat.le_trans h.size hb.size⟩
theorem SetMid.early {S : Nat → Bool} {X' Y : V} {s : St} {OV : V} {l : List St} {w W3 w5 : World} {xa xk ya yk ea ek : Option Addr} {xc xkc yc ykc ec ekc : Nat} {c : Int} (h : SetIn S X' Y s w xa xc xk xkc ya yc yk ykc W3) (hb : Below W3.heap.size W3 w5)
    (hc : c = 0 ↔ (setV OV l Y).isSome = true) (hz : VAt (veil (fun k => setS S w.heap.size k || decide (k = W3.heap.size)) w5) ((setV OV l Y).getD V.nil) (vcs ((setV OV l Y).getD V.nil) ea ec ek ekc)) (hy : w5.heap[W3.heap.size]? = some box0) :
    SetMid S X' Y s OV l w xa xc xk xkc ya yc yk ykc ea ec ek ekc (put6 w5 W3.heap.size (.int .i64 ((setV OV l Y).getD V.nil).kd) (.bool ((setV OV l Y).getD V.nil).bo) (.int .i64 ((setV OV l Y).getD V.nil).nu) (.string ((setV OV l Y).getD V.nil).tx) (.slice ea ((setV OV l Y).getD V.nil).its.length ec) (.slice ek ((setV OV l Y).getD V.nil).kys.length ekc)) W3.heap.size c := by
  refine ⟨h.on (put6_below hb (Nat.le_refl _)), hc, hz.keeps (Keeps.veils (by rw [put6_size]; exact Nat.le_refl _) fun k hk hs => ?_), put6_at rfl hy, h.size⟩
  rw [Bool.or_eq_false_iff, decide_eq_false_iff_not] at hs
  exact ⟨hs.1, put6_other hs.2⟩
theorem _root_.Mh.VAt.items {w : World} {X : V} {ia ka : Option Addr} {ic kc : Nat} (h : VAt w X (vcs X ia ic ka kc)) : ∃ rows, Sl 6 w (.slice ia X.its.length ic) X.its.length rows ∧ VsAt w X.its rows := by
  obtain ⟨ia', ic', ka', kc', he, _, _, _, _, rows, h1, h2⟩ := h.opened
  simp only [vcs, List.cons.injEq, Value.slice.injEq, true_and, and_true] at he
  obtain ⟨⟨rfl, rfl⟩, _⟩ := he
  exact ⟨rows, h1, h2⟩
theorem lst_done {S : Nat → Bool} {w W : World} {v : Value} {il : List V} {rows : List Value} {base : Nat} (hS : ∀ k, w.heap.size ≤ k → S k = false) (hb : w.heap.size + 4 ≤ base) (hown : W.ownsRow base 25 6 v il.length rows)
    (hv : VsAt (veil (own1 (setS S w.heap.size) v) W) il rows) (a b c d e f : Value) : VAt (veil S (put6 W (w.heap.size + 2) a b c d e f)) (.mk 5 false 0 ⟨#[]⟩ il []) [.int .i64 5, .bool false, .int .i64 0, .string ⟨#[]⟩, v, .slice none 0 0] := by
  have hK : Keeps (veil (own1 (setS S w.heap.size) v) W) (veil S (put6 W (w.heap.size + 2) a b c d e f)) := by
    refine Keeps.veils (by rw [put6_size]; exact Nat.le_refl _) fun k hk hs => ?_
    have h1 := setS_false.1 (own1_false.1 hs).1
    exact ⟨h1.1, put6_other (by omega)⟩
  exact VAt.made (X := .mk 5 false 0 ⟨#[]⟩ il []) rfl rfl (Nat.zero_le _) ⟨Sl.nil _ _ _ _, by simp [V.kys]⟩ (Sl.of_own_veil (own_put6Low hown (by omega)) (by decide) fun b hb' => hS b (by omega)) (hv.keeps hK)
theorem set6l {α : Type} (a b c d e f : α) : ∀ (o : Nat) (xs : List α), o + 6 ≤ xs.length → ((((((xs.set o a).set (o + 1) b).set (o + 2) c).set (o + 3) d).set (o + 4) e).set (o + 5) f) = xs.take o ++ [a, b, c, d, e, f] ++ xs.drop (o + 6) := by
  intro o
  induction o with
  | zero =>
    intro xs h
    match xs, h with
    | x0 :: x1 :: x2 :: x3 :: x4 :: x5 :: r, _ => simp
  | succ o ih =>
    intro xs h
    cases xs with
    | nil => simp at h
    | cons y ys =>
      have := ih ys (by simp at h; omega)
      simp only [show o + 1 + 1 = (o + 1) + 1 from rfl, show o + 1 + 2 = (o + 2) + 1 by omega, show o + 1 + 3 = (o + 3) + 1 by omega, show o + 1 + 4 = (o + 4) + 1 by omega, show o + 1 + 5 = (o + 5) + 1 by omega, show o + 1 + 6 = (o + 6) + 1 by omega, List.set_cons_succ, List.take_succ_cons, List.drop_succ_cons, List.cons_append]
      rw [this]
def put6o (w : World) (g o : Nat) (a b c d e f : Value) : World := (((((w.setCell ⟨g, o, none⟩ a).setCell ⟨g, o + 1, none⟩ b).setCell ⟨g, o + 2, none⟩ c).setCell ⟨g, o + 3, none⟩ d).setCell ⟨g, o + 4, none⟩ e).setCell ⟨g, o + 5, none⟩ f
theorem put6o_other {w : World} {g o k : Nat} {a b c d e f : Value} (h : k ≠ g) : (put6o w g o a b c d e f).heap[k]? = w.heap[k]? := by
  unfold put6o
  rw [heap_setCell_other _ _ _ _ h, heap_setCell_other _ _ _ _ h, heap_setCell_other _ _ _ _ h, heap_setCell_other _ _ _ _ h, heap_setCell_other _ _ _ _ h, heap_setCell_other _ _ _ _ h]
theorem put6o_size {w : World} {g o : Nat} {a b c d e f : Value} : (put6o w g o a b c d e f).heap.size = w.heap.size := by simp [put6o]
theorem put6o_below {w w' : World} {B g o : Nat} {a b c d e f : Value} (h : Below B w w') (hg : B ≤ g) : Below B w (put6o w' g o a b c d e f) := by
  unfold put6o
  exact ((((((h.setCell hg _).setCell hg _).setCell hg _).setCell hg _).setCell hg _).setCell hg _)
theorem own_put6o {w : World} {base e k n g c : Nat} {xs : List Value} (h : w.ownsRow base e k (.slice (some ⟨g, 0, none⟩) n c) n xs) (o : Nat) (ho : o + 6 ≤ xs.length) (a b c' d e' f : Value) :
    (put6o w g o a b c' d e' f).ownsRow base e k (.slice (some ⟨g, 0, none⟩) n c) n (xs.take o ++ [a, b, c', d, e', f] ++ xs.drop (o + 6)) := by
  rw [← set6l a b c' d e' f o xs ho]
  exact ((((((h.stored o a).1.stored (o + 1) b).1.stored (o + 2) c').1.stored (o + 3) d).1.stored (o + 4) e').1.stored (o + 5) f).1
theorem set6_below {w w' : World} {B g : Nat} {a b c d e f : Value} (h : Below B w w') (hg : B ≤ g) : Below B w ((((((w'.setCell ⟨g, 0, none⟩ a).setCell ⟨g, 1, none⟩ b).setCell ⟨g, 2, none⟩ c).setCell ⟨g, 3, none⟩ d).setCell ⟨g, 4, none⟩ e).setCell ⟨g, 5, none⟩ f) := put6_below h hg
theorem setV_nil (X Y : V) : setV X [] Y = some Y := rfl
set_option maxRecDepth 100000 in
set_option maxHeartbeats 8000000 in
theorem set_nil (S : Nat → Bool) (X Y : V) (cs ds : List Value) (v : Value) (w : World) (hX : VAt (veil S w) X cs) (hY : VAt (veil S w) Y ds) (hv : StAt w v []) :
    Calls Tryz.prog 20 #[.agg cs.toArray, v, .agg ds.toArray] w (SetOk S X [] Y w) := by
  obtain ⟨xa, xc, xk, xkc, rfl, _⟩ := hX.opened
  obtain ⟨ya, yc, yk, ykc, rfl, _⟩ := hY.opened
  obtain ⟨la, lc, rfl, _⟩ := hv.item
  rw [vcs_arr, vcs_arr]
  have HY := Lib.hid hY
  have HB : Hid (Below w.heap.size w (((w.alloc (box6 X xa xc xk xkc)).alloc (box6 Y ya yc yk ykc)).alloc (box6 Y ya yc yk ykc))) := (((Below.refl w.heap.size w).alloc (Nat.le_refl _) _).alloc (by simp) _).alloc (by simp <;> omega) _
  unfold box6 at HB
  clear hX hY hv
  go_enter Tryz.func20, Tryz.ntmps20
  go_wp2_with fail
  refine bodyPost_ret (v := .tuple #[.agg (vcs Y ya yc yk ykc).toArray, .int .i64 0]) (by simp [results, Tryz.results20, go_sem, vcs] <;> rfl) rfl ⟨_, 0, rfl, HB.out, by rw [setV_nil]; simp, HY.out.keeps (Keeps.belows HB.out)⟩
end Go.Proofs.YtekknckdeedjnaaGreatDoor
