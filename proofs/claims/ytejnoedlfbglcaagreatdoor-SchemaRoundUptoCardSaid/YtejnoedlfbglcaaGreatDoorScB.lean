/- conf.SchemaValue, first part: what stands in its loops. No walk. -/
import Derived.Test.YtejnoedlfbglcaaGreatDoorScA
import Derived.Test.YtejnoedlfbglcaaGreatDoorKeX
import Derived.Test.YtejnoedlfbglcaaGreatDoorFlC
import Derived.Deep.RegionHeld3
namespace Go.Proofs.YtejnoedlfbglcaaGreatDoor
open Go.RowKit Mh
set_option linter.unusedVariables false

def svS (F : Nat) (k : Nat) : Bool := decide (k ≤ F)
def rdS (F T : Nat) (k : Nat) : Bool := decide (k ≤ F ∨ k = T)
/-- The list of fields as it grows, in the box at F. -/
structure SvIn (fs : List Mh.Fd) (fa : Option Addr) (fc : Nat) (sb : Bool) (w : World) (F : Nat) (wr : World) (j : Nat) (v : Value) (rows : List Value) : Prop where
  le : j ≤ fs.length
  own : wr.ownsRow (F + 1) 29 6 v j rows
  at_ : VsAt (veil (own1 (svS F) v) wr) ((fs.take j).map fieldV) rows
  bs : wr.heap[w.heap.size]? = some (.cells #[.slice fa fs.length fc, .bool sb] 24 (0, 0))
  b0 : wr.heap[w.heap.size + 1]? = some box0
  bf : wr.heap[F]? = some (.cells #[.int .i64 5, .bool false, .int .i64 0, .string ⟨#[]⟩, v, .slice none 0 0] 29 (0, 0))
  below : Below w.heap.size w wr
  lo : w.heap.size + 2 ≤ F
  hi : F < wr.heap.size
theorem SvIn.next {fs : List Mh.Fd} {fa : Option Addr} {fc : Nat} {sb : Bool} {w wr W w3 : World} {F j T : Nat} {v v' : Value} {rows ds : List Value} {ob : Obj} (h : SvIn fs fa fc sb w F wr j v rows) (hj : j < fs.length)
    (hb : Below wr.heap.size wr W) (hds : VAt (veil (rdS wr.heap.size T) W) (fieldV fs[j]) ds) (hT : wr.heap.size < T)
    (hown : w3.ownsRow (F + 1) 29 6 v' (j + 1) (rows ++ ds)) (hgr : (W.alloc ob).grownBy w3 v.ownBlock) (hat : v'.ownBlock = v.ownBlock ∨ v'.ownBlock = some (W.alloc ob).heap.size) :
    SvIn fs fa fc sb w F (w3.setCell ⟨F, 4, none⟩ v') (j + 1) v' (rows ++ ds) := by
  have hol := h.own.lt
  have hlo := h.lo
  have hhi := h.hi
  have hs1 := hb.size
  have hb2 : Below wr.heap.size wr (W.alloc ob) := hb.alloc hb.size _
  have hne : ∀ k, k < F + 1 → some k ≠ v.ownBlock := fun k hk e => by have := (hol k e.symm).1; omega
  have hK0 : Keeps (veil (own1 (svS F) v') w3) (veil (own1 (svS F) v') (w3.setCell ⟨F, 4, none⟩ v')) := by
    refine Keeps.veils (by simp) fun k hk hs => ⟨hs, heap_setCell_other _ _ _ _ ?_⟩
    have := (own1_false.1 hs).1
    simp [svS] at this
    simp; omega
  have hK : Keeps (veil (own1 (svS F) v) wr) (veil (own1 (svS F) v') (w3.setCell ⟨F, 4, none⟩ v')) := ((Keeps.belows hb2).trans (Keeps.grown hgr hat)).trans hK0
  have hw3 : (W.alloc ob).heap.size ≤ w3.heap.size := hgr.size
  simp at hw3
  refine ⟨by omega, own_setLow hown (by omega), ?_, ?_, ?_, heap_setCell_same _ _ 4 #[.int .i64 5, .bool false, .int .i64 0, .string ⟨#[]⟩, v, .slice none 0 0] _ _ ?_, ?_, hlo, by simp; omega⟩
  · rw [List.take_succ_eq_append_getElem hj, List.map_append]
    refine (h.at_.keeps hK).append (VsAt.one ?_)
    refine hds.keeps ((Keeps.trans (Keeps.veils (w' := W.alloc ob) (S' := own1 (svS F) v) (by simp) fun k hk hs => ⟨?_, heap_alloc_old _ _ hk⟩) (Keeps.grown hgr hat)).trans hK0)
    simp [rdS] at hs
    rw [own1_false]
    exact ⟨by simp [svS]; omega, fun e => by have := (hol k e).2; omega⟩
  · rw [heap_setCell_other _ _ _ _ (by simp; omega), hgr.block _ (by simp; omega) (hne _ (by omega)), hb2.block _ (by omega)]; exact h.bs
  · rw [heap_setCell_other _ _ _ _ (by simp; omega), hgr.block _ (by simp; omega) (hne _ (by omega)), hb2.block _ (by omega)]; exact h.b0
  · rw [hgr.block _ (by simp; omega) (hne _ (by omega)), hb2.block _ (by omega)]; exact h.bf
  · exact ((h.below.trans (hb2.mono (by omega))).grown hgr (by simp; omega) fun k hk => by have := (hol k hk).1; omega).setCell (by show w.heap.size ≤ F; omega) _
/-- A field's table in the making, in the box at T. -/
structure RdIn (f : Mh.Fd) (oa : Option Addr) (oc : Nat) (ia : Option Addr) (ic : Nat) (ka : Option Addr) (kc : Nat) (wr : World) (T : Nat) (W : World) (X : V) (xa : Option Addr) (xc : Nat) (xk : Option Addr) (xkc : Nat) : Prop where
  old : Below wr.heap.size wr W
  fb : W.heap[wr.heap.size]? = some (box13 f oa oc ia ic ka kc 52)
  tb : W.heap[T]? = some (box6 X xa xc xk xkc)
  lo : wr.heap.size < T
  at_ : VAt (veil (rdS wr.heap.size T) W) X (vcs X xa xc xk xkc)
theorem RdIn.hi {f : Mh.Fd} {oa : Option Addr} {oc : Nat} {ia : Option Addr} {ic : Nat} {ka : Option Addr} {kc : Nat} {wr : World} {T : Nat} {W : World} {X : V} {xa : Option Addr} {xc : Nat} {xk : Option Addr} {xkc : Nat}
    (h : RdIn f oa oc ia ic ka kc wr T W X xa xc xk xkc) : T < W.heap.size := (Array.getElem?_eq_some_iff.1 h.tb).1
theorem RdIn.on {f : Mh.Fd} {oa : Option Addr} {oc : Nat} {ia : Option Addr} {ic : Nat} {ka : Option Addr} {kc : Nat} {wr : World} {T : Nat} {W W' : World} {X : V} {xa : Option Addr} {xc : Nat} {xk : Option Addr} {xkc : Nat}
    (h : RdIn f oa oc ia ic ka kc wr T W X xa xc xk xkc) (hb : Below W.heap.size W W') : RdIn f oa oc ia ic ka kc wr T W' X xa xc xk xkc :=
  ⟨h.old.trans (hb.mono h.old.size), (hb.block _ (Nat.lt_trans h.lo h.hi)).trans h.fb, (hb.block _ h.hi).trans h.tb, h.lo, h.at_.keeps (Keeps.belows hb)⟩
theorem RdIn.store {f : Mh.Fd} {oa : Option Addr} {oc : Nat} {ia : Option Addr} {ic : Nat} {ka : Option Addr} {kc : Nat} {wr : World} {T : Nat} {W w2 : World} {X Y : V} {xa ya : Option Addr} {xc yc : Nat} {xk yk : Option Addr} {xkc ykc : Nat}
    (h : RdIn f oa oc ia ic ka kc wr T W X xa xc xk xkc) (hb : Below W.heap.size W w2) (hY : VAt (veil (rdS wr.heap.size T) w2) Y (vcs Y ya yc yk ykc)) :
    RdIn f oa oc ia ic ka kc wr T (put6 w2 T (.int .i64 Y.kd) (.bool Y.bo) (.int .i64 Y.nu) (.string Y.tx) (.slice ya Y.its.length yc) (.slice yk Y.kys.length ykc)) Y ya yc yk ykc := by
  have g := h.on hb
  have hlo := h.lo
  refine ⟨put6_below g.old (by omega), by rw [put6_other (by omega)]; exact g.fb, put6_at rfl g.tb, h.lo, hY.keeps (Keeps.veils (by rw [put6_size]; exact Nat.le_refl _) fun k hk hs => ⟨hs, put6_other ?_⟩)⟩
  simp [rdS] at hs
  omega
/-- The box at T as cells, open. -/
theorem RdIn.cells {f : Mh.Fd} {oa : Option Addr} {oc : Nat} {ia : Option Addr} {ic : Nat} {ka : Option Addr} {kc : Nat} {wr : World} {T : Nat} {W : World} {X : V} {xa : Option Addr} {xc : Nat} {xk : Option Addr} {xkc : Nat}
    (h : RdIn f oa oc ia ic ka kc wr T W X xa xc xk xkc) :
    (W.cell? ⟨T, 0, none⟩ = some (.int .i64 X.kd) ∧ W.cell? ⟨T, 1, none⟩ = some (.bool X.bo) ∧ W.cell? ⟨T, 2, none⟩ = some (.int .i64 X.nu) ∧ W.cell? ⟨T, 3, none⟩ = some (.string X.tx) ∧ W.cell? ⟨T, 4, none⟩ = some (.slice xa X.its.length xc) ∧ W.cell? ⟨T, 5, none⟩ = some (.slice xk X.kys.length xkc)) ∧
    W.frozen? ⟨T, 0, none⟩ = false ∧ W.frozen? ⟨T, 1, none⟩ = false ∧ W.frozen? ⟨T, 2, none⟩ = false ∧ W.frozen? ⟨T, 3, none⟩ = false ∧ W.frozen? ⟨T, 4, none⟩ = false ∧ W.frozen? ⟨T, 5, none⟩ = false := by
  have hb := h.tb
  unfold box6 at hb
  exact ⟨six_of_block hb, six_open hb⟩
/-- A contract handed on to what has grown out of W. -/
theorem calls_on {P : Program} {k : Nat} {args : Array Value} {W w0 : World} {S : Nat → Bool} {r : Ending} (h0 : Below W.heap.size W w0) (h : Calls P k args w0 fun e w' => e = r ∧ Below w0.heap.size w0 w') :
    Calls P k args w0 fun e w' => e = r ∧ Hid (Below W.heap.size W w') ∧ Hid (∀ X cs, VAt (veil S w0) X cs → VAt (veil S w') X cs) :=
  h.mono fun e w' ⟨h1, h2⟩ => ⟨h1, h0.trans (h2.mono h0.size), fun X cs hX => hX.keeps (Keeps.belows h2)⟩
theorem below_alloc1 (w : World) (o : Obj) : Below w.heap.size w (w.alloc o) := (Below.refl _ w).alloc (Nat.le_refl _) _
theorem str_on (s : ByteArray) (w : World) : Calls Tryz.prog 18 #[.string s] w fun e w' => e = .returned (.agg #[.int .i64 3, .bool false, .int .i64 0, .string s, .slice none 0 0, .slice none 0 0]) ∧ Below w.heap.size w w' :=
  (str_ret s w).mono fun e w' ⟨h1, h2⟩ => ⟨h1, by subst h2; exact below_alloc1 _ _⟩
theorem yes_on (b : Bool) (w : World) : Calls Tryz.prog 20 #[.bool b] w fun e w' => e = .returned (.agg #[.int .i64 1, .bool b, .int .i64 0, .string ⟨#[]⟩, .slice none 0 0, .slice none 0 0]) ∧ Below w.heap.size w w' :=
  (yes_ret b w).mono fun e w' ⟨h1, h2⟩ => ⟨h1, by subst h2; exact below_alloc1 _ _⟩
theorem whole_on (n : Int) (w : World) : Calls Tryz.prog 21 #[.int .i64 n] w fun e w' => e = .returned (.agg #[.int .i64 2, .bool false, .int .i64 n, .string ⟨#[]⟩, .slice none 0 0, .slice none 0 0]) ∧ Below w.heap.size w w' :=
  (whole_ret n w).mono fun e w' ⟨h1, h2⟩ => ⟨h1, by subst h2; exact below_alloc1 _ _⟩
theorem kindName_on (k : Int) (hk : k = -1 ∨ (0 ≤ k ∧ k ≤ 6)) (w : World) (hw : KNames w) : Calls Tryz.prog 19 #[.int .i64 k] w fun e w' => e = .returned (.string (knameI k)) ∧ Below w.heap.size w w' :=
  (kindName_any k hk w hw).mono fun e w' ⟨h1, h2⟩ => ⟨h1, by subst h2; exact Below.refl _ _⟩
/-- A value without items and keys, in whatever world. -/
theorem leaf_at (k : Int) (b : Bool) (n : Int) (t : ByteArray) (hk : (Lit.int .i64 k).wf = true) (hn : (Lit.int .i64 n).wf = true) (ht : t.size ≤ maxLen) (w : World) : VAt w (.mk k b n t [] []) (vcs (.mk k b n t [] []) none 0 none 0) :=
  VAt.made (X := .mk k b n t [] []) (iv := .slice none 0 0) (kv := .slice none 0 0) (rows := []) hk hn ht ⟨Sl.nil _ _ _ _, by simp [V.kys]⟩ (Sl.nil _ _ _ _) (by simp [V.its, VsAt])
/-- put on what stands in the box at T, its result stored there. -/
theorem put_on {f : Mh.Fd} {oa : Option Addr} {oc : Nat} {ia : Option Addr} {ic : Nat} {ka : Option Addr} {kc : Nat} {wr : World} {T : Nat} {W : World} {X : V} {xa : Option Addr} {xc : Nat} {xk : Option Addr} {xkc : Nat}
    (h : RdIn f oa oc ia ic ka kc wr T W X xa xc xk xkc) (h6 : X.kd = 6) (htop : X.top) (key : ByteArray) (hkey : key.size ≤ maxLen) (Z : V) (zcs : List Value) (w0 : World) (h0 : Below W.heap.size W w0) (hZ : VAt (veil (rdS wr.heap.size T) w0) Z zcs) :
    Calls Tryz.prog 17 #[.agg #[.int .i64 X.kd, .bool X.bo, .int .i64 X.nu, .string X.tx, .slice xa X.its.length xc, .slice xk X.kys.length xkc], .string key, .agg zcs.toArray] w0 fun e w' => ∃ (ya : Option Addr) (yc : Nat) (yk : Option Addr) (ykc : Nat),
      e = .returned (.agg #[.int .i64 (putV X key Z).kd, .bool (putV X key Z).bo, .int .i64 (putV X key Z).nu, .string (putV X key Z).tx, .slice ya (putV X key Z).its.length yc, .slice yk (putV X key Z).kys.length ykc]) ∧
      Hid (RdIn f oa oc ia ic ka kc wr T (put6 w' T (.int .i64 (putV X key Z).kd) (.bool (putV X key Z).bo) (.int .i64 (putV X key Z).nu) (.string (putV X key Z).tx) (.slice ya (putV X key Z).its.length yc) (.slice yk (putV X key Z).kys.length ykc)) (putV X key Z) ya yc yk ykc) ∧
      ((w'.cell? ⟨T, 0, none⟩ = some (.int .i64 X.kd) ∧ w'.cell? ⟨T, 1, none⟩ = some (.bool X.bo) ∧ w'.cell? ⟨T, 2, none⟩ = some (.int .i64 X.nu) ∧ w'.cell? ⟨T, 3, none⟩ = some (.string X.tx) ∧ w'.cell? ⟨T, 4, none⟩ = some (.slice xa X.its.length xc) ∧ w'.cell? ⟨T, 5, none⟩ = some (.slice xk X.kys.length xkc)) ∧
      w'.frozen? ⟨T, 0, none⟩ = false ∧ w'.frozen? ⟨T, 1, none⟩ = false ∧ w'.frozen? ⟨T, 2, none⟩ = false ∧ w'.frozen? ⟨T, 3, none⟩ = false ∧ w'.frozen? ⟨T, 4, none⟩ = false ∧ w'.frozen? ⟨T, 5, none⟩ = false) := by
  have g := h.on h0
  have hlo := h.lo
  have hhi := g.hi
  refine (put_top (rdS wr.heap.size T) X Z key _ zcs w0 (fun k hk => by simp [rdS]; omega) g.at_ hZ htop h6 hkey).mono ?_
  rintro e w' ⟨ds, rfl, hds, hb⟩
  obtain ⟨ya, yc, yk, ykc, rfl, _⟩ := hds.opened
  exact ⟨ya, yc, yk, ykc, by rw [vcs_arr], g.store hb hds, (g.on hb).cells⟩
theorem put_new (S : Nat → Bool) (X Z : V) (xa : Option Addr) (xc : Nat) (xk : Option Addr) (xkc : Nat) (zcs : List Value) (key : ByteArray) (w0 : World) (hS : ∀ k, w0.heap.size ≤ k → S k = false) (hX : VAt (veil S w0) X (vcs X xa xc xk xkc)) (hZ : VAt (veil S w0) Z zcs) (htop : X.top) (h6 : X.kd = 6) (hkey : key.size ≤ maxLen) :
    Calls Tryz.prog 17 #[.agg #[.int .i64 X.kd, .bool X.bo, .int .i64 X.nu, .string X.tx, .slice xa X.its.length xc, .slice xk X.kys.length xkc], .string key, .agg zcs.toArray] w0 fun e w' => ∃ (ya : Option Addr) (yc : Nat) (yk : Option Addr) (ykc : Nat),
      e = .returned (.agg #[.int .i64 (putV X key Z).kd, .bool (putV X key Z).bo, .int .i64 (putV X key Z).nu, .string (putV X key Z).tx, .slice ya (putV X key Z).its.length yc, .slice yk (putV X key Z).kys.length ykc]) ∧
      Hid (VAt (veil S w') (putV X key Z) (vcs (putV X key Z) ya yc yk ykc)) ∧ Hid (Below w0.heap.size w0 w') := by
  refine (put_top S X Z key _ zcs w0 hS hX hZ htop h6 hkey).mono ?_
  rintro e w' ⟨ds, rfl, hds, hb⟩
  obtain ⟨ya, yc, yk, ykc, rfl, _⟩ := hds.opened
  exact ⟨ya, yc, yk, ykc, by rw [vcs_arr], hds, hb⟩
theorem RdIn.start {f : Mh.Fd} {oa : Option Addr} {oc : Nat} {ia : Option Addr} {ic : Nat} {ka : Option Addr} {kc : Nat} {wr w2 : World} {Y : V} {ya : Option Addr} {yc : Nat} {yk : Option Addr} {ykc : Nat}
    (hb : Below (wr.alloc (box13 f oa oc ia ic ka kc 52)).heap.size (wr.alloc (box13 f oa oc ia ic ka kc 52)) w2) (hY : VAt (veil (fun k => decide (k ≤ wr.heap.size)) w2) Y (vcs Y ya yc yk ykc)) :
    RdIn f oa oc ia ic ka kc wr w2.heap.size (w2.alloc (box6 Y ya yc yk ykc)) Y ya yc yk ykc := by
  have hz := hb.size
  simp at hz
  refine ⟨((below_alloc1 wr _).trans (hb.mono (by simp))).alloc (by omega) _, ?_, heap_alloc_new _ _, by omega, hY.keeps (Keeps.veils (by simp) fun k hk hs => ⟨?_, heap_alloc_old _ _ hk⟩)⟩
  · rw [heap_alloc_old _ _ (by omega), hb.block _ (by simp)]; exact heap_alloc_new _ _
  · simp at hs
    simp [rdS]; omega
/-- The list of strings in the making. -/
def strRows (l : List ByteArray) : List Value := l.flatMap fun s => vcs (strV s) none 0 none 0
theorem strRows_at (w : World) : ∀ l : List ByteArray, (∀ s ∈ l, s.size ≤ maxLen) → VsAt w (l.map strV) (strRows l) := by
  intro l
  induction l with
  | nil => intro _; simp [strRows, VsAt]
  | cons a l ih =>
    intro h
    have := (VsAt.one (leaf_at 3 false 0 a (by decide) (by decide) (h a (by simp)) w)).append (ih fun s hs => h s (by simp [hs]))
    simpa [strRows, strV] using this
theorem strRows_snoc (l : List ByteArray) (s : ByteArray) : strRows (l ++ [s]) = strRows l ++ vcs (strV s) none 0 none 0 := by simp [strRows]
structure OnIn (l : List ByteArray) (W : World) (i : Nat) (v : Value) (Wi : World) : Prop where
  le : i ≤ l.length
  own : Wi.ownsRow (W.heap.size + 1) 29 6 v i (strRows (l.take i))
  b9 : Wi.heap[W.heap.size]? = some (.cells #[.int .i64 5, .bool false, .int .i64 0, .string ⟨#[]⟩, v, .slice none 0 0] 29 (0, 0))
  below : Below W.heap.size W Wi
theorem OnIn.hi {l : List ByteArray} {W Wi : World} {i : Nat} {v : Value} (h : OnIn l W i v Wi) : W.heap.size < Wi.heap.size := (Array.getElem?_eq_some_iff.1 h.b9).1
theorem OnIn.next {l : List ByteArray} {W Wi w2 w3 : World} {i : Nat} {v v' : Value} {ob : Obj} (h : OnIn l W i v Wi) (hi : i < l.length) (hb : Below Wi.heap.size Wi w2)
    (hown : w3.ownsRow (W.heap.size + 1) 29 6 v' (i + 1) (strRows (l.take i) ++ vcs (strV l[i]) none 0 none 0)) (hgr : (w2.alloc ob).grownBy w3 v.ownBlock) (hat : v'.ownBlock = v.ownBlock ∨ v'.ownBlock = some (w2.alloc ob).heap.size) :
    OnIn l W (i + 1) v' (w3.setCell ⟨W.heap.size, 4, none⟩ v') := by
  have hol := h.own.lt
  have hhi := h.hi
  have hs := hb.size
  have hb2 : Below Wi.heap.size Wi (w2.alloc ob) := hb.alloc hb.size _
  have hne : some W.heap.size ≠ v.ownBlock := fun e => by have := (hol _ e.symm).1; omega
  refine ⟨hi, ?_, heap_setCell_same _ _ 4 #[.int .i64 5, .bool false, .int .i64 0, .string ⟨#[]⟩, v, .slice none 0 0] _ _ ?_, ?_⟩
  · rw [List.take_succ_eq_append_getElem hi, strRows_snoc]
    exact own_setLow hown (by omega)
  · rw [hgr.block _ (by simp; omega) hne, hb2.block _ hhi]; exact h.b9
  · exact ((h.below.trans (hb2.mono (by omega))).grown hgr (by simp; omega) fun k hk => by have := (hol k hk).1; omega).setCell (Nat.le_refl _) _
/-- The list that has been made, as a value. -/
theorem OnIn.value {l : List ByteArray} {W Wi : World} {va : Option Addr} {vc : Nat} (h : OnIn l W l.length (.slice va l.length vc) Wi) (hl : ∀ s ∈ l, s.size ≤ maxLen) (S : Nat → Bool) (hS : ∀ b, W.heap.size < b → S b = false) :
    VAt (veil S Wi) (listV (l.map strV)) (vcs (listV (l.map strV)) va vc none 0) := by
  have h1 := Sl.of_own_veil h.own (by decide) (S := S) fun b hb => hS b (by omega)
  rw [List.take_length] at h1
  have := VAt.made (X := listV (l.map strV)) (iv := .slice va l.length vc) (kv := .slice none 0 0) (rows := strRows l) (by show (Lit.int .i64 5).wf = true; decide) (by show (Lit.int .i64 0).wf = true; decide) (by show (0 : Nat) ≤ _; exact Nat.zero_le _) ⟨Sl.nil _ _ _ _, by simp [listV, V.kys]⟩ (by simpa [listV, V.its] using h1) (by simpa [listV, V.its] using strRows_at (veil S Wi) l hl)
  simpa [vcs, listV, V.kd, V.bo, V.nu, V.tx, V.its, V.kys] using this
/-- The list of fields that has been made, as a value. -/
theorem SvIn.value {fs : List Mh.Fd} {fa va : Option Addr} {fc vc : Nat} {sb : Bool} {w wr : World} {F : Nat} {rows : List Value} (h : SvIn fs fa fc sb w F wr fs.length (.slice va fs.length vc) rows) :
    VAt (veil (svS F) wr) (listV (fs.map fieldV)) (vcs (listV (fs.map fieldV)) va vc none 0) := by
  have h1 := Sl.of_own_veil h.own (by decide) (S := svS F) fun b hb => by simp [svS]; omega
  have h2 := h.at_.keeps (Keeps.own1 wr)
  rw [List.take_length] at h2
  have := VAt.made (X := listV (fs.map fieldV)) (iv := .slice va fs.length vc) (kv := .slice none 0 0) (rows := rows) (by show (Lit.int .i64 5).wf = true; decide) (by show (Lit.int .i64 0).wf = true; decide) (by show (0 : Nat) ≤ _; exact Nat.zero_le _) ⟨Sl.nil _ _ _ _, by simp [listV, V.kys]⟩ (by simpa [listV, V.its] using h1) (by simpa [listV, V.its] using h2)
  simpa [vcs, listV, V.kd, V.bo, V.nu, V.tx, V.its, V.kys] using this
/-- The regimes of the last statement: the variable's box is not made yet, or it lies at T. -/
def regS (F : Nat) (o : Option Nat) (k : Nat) : Bool := decide (k ≤ F ∨ o = some k)
structure Reg (F : Nat) (wr : World) (o : Option Nat) (w0 : World) : Prop where
  below : Below wr.heap.size wr w0
  box : ∀ T, o = some T → wr.heap.size ≤ T ∧ w0.heap[T]? = some box0
def BoxZ (w : World) (T : Nat) : Prop := (w.cell? ⟨T, 0, none⟩ = some (.int .i64 0) ∧ w.cell? ⟨T, 1, none⟩ = some (.bool false) ∧ w.cell? ⟨T, 2, none⟩ = some (.int .i64 0) ∧ w.cell? ⟨T, 3, none⟩ = some (.string ⟨#[]⟩) ∧ w.cell? ⟨T, 4, none⟩ = some (.slice none 0 0) ∧ w.cell? ⟨T, 5, none⟩ = some (.slice none 0 0)) ∧
  w.frozen? ⟨T, 0, none⟩ = false ∧ w.frozen? ⟨T, 1, none⟩ = false ∧ w.frozen? ⟨T, 2, none⟩ = false ∧ w.frozen? ⟨T, 3, none⟩ = false ∧ w.frozen? ⟨T, 4, none⟩ = false ∧ w.frozen? ⟨T, 5, none⟩ = false
theorem Reg.cells {F : Nat} {wr w0 : World} {o : Option Nat} (h : Reg F wr o w0) : ∀ T, o = some T → BoxZ w0 T := by
  intro T hT
  have := (h.box T hT).2
  unfold box0 at this
  exact ⟨six_of_block this, six_open this⟩
theorem Reg.on {F : Nat} {wr w0 w' : World} {o : Option Nat} (h : Reg F wr o w0) (hb : Below w0.heap.size w0 w') : Reg F wr o w' :=
  ⟨h.below.trans (hb.mono h.below.size), fun T hT => ⟨(h.box T hT).1, (hb.block _ (Array.getElem?_eq_some_iff.1 (h.box T hT).2).1).trans (h.box T hT).2⟩⟩
theorem Reg.begin {F : Nat} {wr : World} : Reg F wr none wr.drew := ⟨(Below.refl _ _).drew, fun T hT => by cases hT⟩
theorem Reg.enter {F : Nat} {wr w0 : World} (h : Reg F wr none w0) : Reg F wr (some w0.heap.size) (w0.alloc box0) :=
  ⟨h.below.alloc h.below.size _, fun T hT => by cases hT; exact ⟨h.below.size, heap_alloc_new _ _⟩⟩
theorem Reg.begin1 {F : Nat} {wr : World} : Reg F wr (some wr.heap.size) (wr.alloc box0).drew :=
  ⟨((Below.refl _ wr).alloc (Nat.le_refl _) _).drew, fun T hT => by cases hT; exact ⟨Nat.le_refl _, heap_alloc_new _ _⟩⟩
theorem Reg.free {F : Nat} {wr w0 : World} {o : Option Nat} (h : Reg F wr o w0) (hF : F < wr.heap.size) : ∀ k, w0.heap.size ≤ k → regS F o k = false := by
  intro k hk
  have h1 := h.below.size
  simp only [regS, decide_eq_false_iff_not]
  rintro (h2 | h2)
  · omega
  · have := (Array.getElem?_eq_some_iff.1 (h.box k h2).2).1
    omega
theorem Reg.carry {F : Nat} {wr w0 : World} {o : Option Nat} (h : Reg F wr o w0) {X : V} {cs : List Value} (hX : VAt (veil (svS F) wr) X cs) : VAt (veil (regS F o) w0) X cs := by
  refine hX.keeps (Keeps.veils h.below.size fun k hk hs => ⟨?_, h.below.block k hk⟩)
  simp [svS] at hs
  simp only [regS, decide_eq_false_iff_not]
  rintro (h2 | h2)
  · omega
  · have := (h.box k h2).1; omega
theorem carry_enter {F : Nat} {w0 : World} {X : V} {cs : List Value} {ob : Obj} (hX : VAt (veil (regS F none) w0) X cs) : VAt (veil (regS F (some w0.heap.size)) (w0.alloc ob)) X cs := by
  refine hX.keeps (Keeps.veils (by simp) fun k hk hs => ⟨?_, heap_alloc_old _ _ hk⟩)
  simp [regS] at hs
  simp [regS]; omega
theorem Reg.end1 {F : Nat} {wr w0 : World} (h : Reg F wr none w0) {X : V} {ba : Option Addr} {bc : Nat} {bk : Option Addr} {bkc : Nat} (hX : VAt (veil (regS F none) w0) X (vcs X ba bc bk bkc)) :
    (w0.alloc (box6 X ba bc bk bkc)).heap[w0.heap.size]? = some (box6 X ba bc bk bkc) ∧ VAt (veil (fun k => decide (k = w0.heap.size ∨ k ≤ F)) (w0.alloc (box6 X ba bc bk bkc))) X (vcs X ba bc bk bkc) ∧ Below wr.heap.size wr (w0.alloc (box6 X ba bc bk bkc)) ∧ wr.heap.size ≤ w0.heap.size := by
  refine ⟨heap_alloc_new _ _, hX.keeps (Keeps.veils (by simp) fun k hk hs => ⟨?_, heap_alloc_old _ _ hk⟩), h.below.alloc h.below.size _, h.below.size⟩
  simp [regS] at hs
  simp; omega
theorem Reg.end2 {F : Nat} {wr w0 : World} {T : Nat} (h : Reg F wr (some T) w0) {X : V} {ba : Option Addr} {bc : Nat} {bk : Option Addr} {bkc : Nat} (hX : VAt (veil (regS F (some T)) w0) X (vcs X ba bc bk bkc)) :
    (put6 w0 T (.int .i64 X.kd) (.bool X.bo) (.int .i64 X.nu) (.string X.tx) (.slice ba X.its.length bc) (.slice bk X.kys.length bkc)).heap[T]? = some (box6 X ba bc bk bkc) ∧ VAt (veil (fun k => decide (k = T ∨ k ≤ F)) (put6 w0 T (.int .i64 X.kd) (.bool X.bo) (.int .i64 X.nu) (.string X.tx) (.slice ba X.its.length bc) (.slice bk X.kys.length bkc))) X (vcs X ba bc bk bkc) ∧ Below wr.heap.size wr (put6 w0 T (.int .i64 X.kd) (.bool X.bo) (.int .i64 X.nu) (.string X.tx) (.slice ba X.its.length bc) (.slice bk X.kys.length bkc)) ∧ wr.heap.size ≤ T := by
  have hb := h.box T rfl
  refine ⟨put6_at rfl hb.2, hX.keeps (Keeps.veils (by rw [put6_size]; exact Nat.le_refl _) fun k hk hs => ?_), put6_below h.below hb.1, hb.1⟩
  simp [regS] at hs
  exact ⟨by simp; omega, put6_other (by omega)⟩
end Go.Proofs.YtejnoedlfbglcaaGreatDoor
