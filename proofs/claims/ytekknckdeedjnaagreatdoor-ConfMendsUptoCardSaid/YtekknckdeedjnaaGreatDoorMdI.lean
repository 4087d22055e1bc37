/- (differ).diff of two tables. Conditions: as stated. -/
import Derived.Test.YtekknckdeedjnaaGreatDoorMdH
import Derived.Test.YtekknckdeedjnaaGreatDoorKeX
import Derived.StillTailTactics
namespace Go.Proofs.YtekknckdeedjnaaGreatDoor
open Go.RowKit Mh
set_option linter.unusedVariables false

theorem union_nodes {a b : V} (ha : tab a) (hb : tab b) : ∀ j, j ≤ b.kys.length → (unionN a b j).nodes ≤ a.nodes + V.nodess (b.its.take j) := by
  intro j
  induction j with
  | zero => intro _; exact Nat.le_add_right _ _
  | succ j ih =>
    intro hj
    have hl := hb.len
    have h1 := ih (by omega)
    have hT := (union_tab ha hb j (by omega)).1
    have h2 := put_nodes hT (b.kys.getD j ⟨#[]⟩) (b.its.getD j V.nil)
    have e2 : b.its.getD j V.nil = b.its[j]'(by omega) := by simp [List.getD, show j < b.its.length by omega]
    have h3 : V.nodess (b.its.take (j + 1)) = V.nodess (b.its.take j) + (b.its[j]'(by omega)).nodes := by
      rw [List.take_succ_eq_append_getElem (by omega : j < b.its.length), nodess_app]
      simp [V.nodess]
    unfold unionN
    rw [e2] at h2 ⊢
    omega
/-- Hidden in the first loop. -/
def unS (D : Nat) (gv ov : Value) (AL k : Nat) : Bool := dfS D gv ov k || decide (k = AL)
theorem unS_false {D : Nat} {gv ov : Value} {AL k : Nat} : unS D gv ov AL k = false ↔ dfS D gv ov k = false ∧ k ≠ AL := by simp [unS]
structure UnIn (a b : V) (D : Nat) (gv ov : Value) (w : World) (xa : Option Addr) (xc : Nat) (xk : Option Addr) (xkc : Nat) (ya : Option Addr) (yc : Nat) (yk : Option Addr) (ykc : Nat) (AL : Nat) (wr : World) (j : Nat) (ua : Option Addr) (uc : Nat) (uk : Option Addr) (ukc : Nat) : Prop where
  le : j ≤ b.kys.length
  bx : wr.heap[w.heap.size]? = some (box6 a xa xc xk xkc)
  by_ : wr.heap[w.heap.size + 1]? = some (box6 b ya yc yk ykc)
  bl : wr.heap[AL]? = some (box6 (unionN a b j) ua uc uk ukc)
  u : VAt (veil (unS D gv ov AL) wr) (unionN a b j) (vcs (unionN a b j) ua uc uk ukc)
  below : Below w.heap.size w wr
  lo : w.heap.size + 2 ≤ AL
section
variable {a b : V} {D : Nat} {gv ov : Value} {w : World} {xa xk ya yk ua uk : Option Addr} {xc xkc yc ykc AL j uc ukc : Nat} {wr : World}
theorem UnIn.hi (h : UnIn a b D gv ov w xa xc xk xkc ya yc yk ykc AL wr j ua uc uk ukc) : AL < wr.heap.size := (Array.getElem?_eq_some_iff.1 h.bl).1
theorem UnIn.on {w2 : World} (h : UnIn a b D gv ov w xa xc xk xkc ya yc yk ykc AL wr j ua uc uk ukc) (hb : Below wr.heap.size wr w2) : UnIn a b D gv ov w xa xc xk xkc ya yc yk ykc AL w2 j ua uc uk ukc := by
  have h1 := h.hi
  have h2 := h.lo
  exact ⟨h.le, (hb.block _ (by omega)).trans h.bx, (hb.block _ (by omega)).trans h.by_, (hb.block _ h1).trans h.bl, h.u.keeps (Keeps.belows hb), h.below.trans (hb.mono h.below.size), h2⟩
theorem UnIn.new {G O : List Chg} {rg ro : List Value} (h : UnIn a b D gv ov w xa xc xk xkc ya yc yk ykc AL wr j ua uc uk ukc) (hd : DfAt w D gv ov G O rg ro) : ∀ k, wr.heap.size ≤ k → unS D gv ov AL k = false := fun k hk => by
  have h1 := h.hi
  have h2 := h.below.size
  rw [unS_false]
  exact ⟨dfS_new hd k (by omega), by omega⟩
theorem UnIn.keeps (h : UnIn a b D gv ov w xa xc xk xkc ya yc yk ykc AL wr j ua uc uk ukc) : Keeps (veil (dfS D gv ov) w) (veil (unS D gv ov AL) wr) := by
  have h2 := h.lo
  exact Keeps.veils h.below.size fun k hk hs => ⟨by rw [unS_false]; exact ⟨hs, by omega⟩, h.below.block k hk⟩
/-- One more key. -/
theorem UnIn.next {za zk : Option Addr} {zc zkc : Nat} {w2 : World} (h : UnIn a b D gv ov w xa xc xk xkc ya yc yk ykc AL wr j ua uc uk ukc) (hj : j < b.kys.length)
    (hb : Below wr.heap.size wr w2) (hz : VAt (veil (unS D gv ov AL) w2) (unionN a b (j + 1)) (vcs (unionN a b (j + 1)) za zc zk zkc)) :
    UnIn a b D gv ov w xa xc xk xkc ya yc yk ykc AL (put6 w2 AL (.int .i64 (unionN a b (j + 1)).kd) (.bool (unionN a b (j + 1)).bo) (.int .i64 (unionN a b (j + 1)).nu) (.string (unionN a b (j + 1)).tx) (.slice za (unionN a b (j + 1)).its.length zc) (.slice zk (unionN a b (j + 1)).kys.length zkc)) (j + 1) za zc zk zkc := by
  have h2 := h.on hb
  have hlo := h.lo
  exact ⟨hj, (put6_other (by omega)).trans h2.bx, (put6_other (by omega)).trans h2.by_, put6_at rfl h2.bl, hz.keeps (Keeps.veils (by rw [put6_size]; exact Nat.le_refl _) fun k hk hs => ⟨hs, put6_other (unS_false.1 hs).2⟩), put6_below h2.below (by omega), hlo⟩
end
/-- The items and keys of a value that is read behind a veil. -/
theorem veil_items {S : Nat → Bool} {w : World} {X : V} {ia ka : Option Addr} {ic kc : Nat} (h : VAt (veil S w) X (vcs X ia ic ka kc)) :
    (∀ k (hk : k < X.its.length), ∃ b off ja jc la lc, ia = some ⟨b, off, none⟩ ∧ b < w.heap.size ∧ S b = false ∧ VAt (veil S w) X.its[k] (vcs X.its[k] ja jc la lc) ∧ ∀ j (hj : j < 6), w.cell? ⟨b, off + k * 6 + j, none⟩ = some ((vcs X.its[k] ja jc la lc)[j]'hj)) ∧
    (∀ k (hk : k < X.kys.length), ∃ b off, ka = some ⟨b, off, none⟩ ∧ b < w.heap.size ∧ S b = false ∧ w.cell? ⟨b, off + k, none⟩ = some (.string X.kys[k]) ∧ X.kys[k].size ≤ maxLen) := by
  obtain ⟨hss, rows, hsl, hvs⟩ := h.vitems
  refine ⟨fun k hk => ?_, fun k hk => ?_⟩
  · obtain ⟨ao, c, he, hit⟩ := VsAt.item hsl hvs
    simp only [Value.slice.injEq, true_and] at he
    obtain ⟨rfl, rfl⟩ := he
    obtain ⟨b, off, ja, jc, la, lc, h1, h2, h3, h4⟩ := hit k hk
    refine ⟨b, off, ja, jc, la, lc, h1, by rwa [veil_size] at h2, (veil_cell (h4 0 (by omega))).1, h3, fun j hj => (veil_cell (h4 j hj)).2⟩
  · obtain ⟨ao, c, he, hit⟩ := Ss.key hss
    simp only [Value.slice.injEq, true_and] at he
    obtain ⟨rfl, rfl⟩ := he
    obtain ⟨b, off, h1, h2, h3, h4⟩ := hit k hk
    exact ⟨b, off, h1, by rwa [veil_size] at h2, (veil_cell h3).1, (veil_cell h3).2, h4⟩
theorem union_succ {a b : V} (hB : tab b) {j : Nat} (hj : j < b.kys.length) : unionN a b (j + 1) = putV (unionN a b j) b.kys[j] (b.its[j]'(by have := hB.len; omega)) := by
  have hl := hB.len
  have e1 : b.kys.getD j ⟨#[]⟩ = b.kys[j] := by simp [List.getD, hj]
  have e2 : b.its.getD j V.nil = b.its[j]'(by omega) := by simp [List.getD, show j < b.its.length by omega]
  show putV (unionN a b j) (b.kys.getD j ⟨#[]⟩) (b.its.getD j V.nil) = _
  rw [e1, e2]
/-- What the first j keys give. -/
def gjs (N : Nat) (a b : V) (j : Nat) : List Mh.Op := ((keysU a b).take j).flatMap fun k => pre k (keyP N a b k).1
def ojs (N : Nat) (a b : V) (j : Nat) : List Mh.Op := ((keysU a b).take j).flatMap fun k => pre k (keyP N a b k).2
theorem gjs_succ (N : Nat) (a b : V) {j : Nat} (hj : j < (keysU a b).length) (r : ByteArray) : (gjs N a b (j + 1)).map (Mh.Op.chgR r) = (gjs N a b j).map (Mh.Op.chgR r) ++ (keyP N a b (keysU a b)[j]).1.map (Mh.Op.chgR (joinR r (keysU a b)[j])) := by
  unfold gjs
  rw [List.take_succ_eq_append_getElem hj, List.flatMap_append, List.map_append, ← chgR_pre]
  simp
theorem ojs_succ (N : Nat) (a b : V) {j : Nat} (hj : j < (keysU a b).length) (r : ByteArray) : (ojs N a b (j + 1)).map (Mh.Op.chgR r) = (ojs N a b j).map (Mh.Op.chgR r) ++ (keyP N a b (keysU a b)[j]).2.map (Mh.Op.chgR (joinR r (keysU a b)[j])) := by
  unfold ojs
  rw [List.take_succ_eq_append_getElem hj, List.flatMap_append, List.map_append, ← chgR_pre]
  simp
theorem key_wsum (N : Nat) {a b : V} (hA : tab a) (hB : tab b) : ∀ k ∈ keysU a b, wsum (keyP N a b k).1 ≤ wt a k ∧ wsum (keyP N a b k).2 ≤ wt b k := by
  intro k hk
  unfold keyP wt
  cases hib : itemV b k with
  | none =>
    have hka : k ∈ a.kys := by
      rcases (keysU_mem hA hB k).1 hk with h | h
      · exact h
      · obtain ⟨x, hx, _⟩ := item_some hB h
        rw [hib] at hx; cases hx
    obtain ⟨x, hx, _⟩ := item_some hA hka
    rw [hx]
    exact ⟨nodes_pos x, Nat.zero_le _⟩
  | some y =>
    cases hia : itemV a k with
    | none => exact ⟨Nat.zero_le _, Nat.le_refl _⟩
    | some x => exact diff_wsum N x y (hA.items x (item_mem hA.asc hia).2) (hB.items y (item_mem hB.asc hib).2)
theorem jsum (N : Nat) {a b : V} (hA : tab a) (hB : tab b) {j : Nat} (hj : j < (keysU a b).length) : (gjs N a b j).length + wt a (keysU a b)[j] < a.nodes ∧ (ojs N a b j).length + wt b (keysU a b)[j] < b.nodes := by
  have hU := keysU_asc hA hB
  have hk := key_wsum N hA hB
  have h1 := wsum_flat (fun k => (keyP N a b k).1) (wt a) ((keysU a b).take j) fun k hm => (hk k (List.mem_of_mem_take hm)).1
  have h2 := wsum_flat (fun k => (keyP N a b k).2) (wt b) ((keysU a b).take j) fun k hm => (hk k (List.mem_of_mem_take hm)).2
  have l1 := wsum_len (gjs N a b j)
  have l2 := wsum_len (ojs N a b j)
  have e1 : wsum (gjs N a b j) = wsum (((keysU a b).take j).flatMap fun k => pre k (keyP N a b k).1) := rfl
  have e2 : wsum (ojs N a b j) = wsum (((keysU a b).take j).flatMap fun k => pre k (keyP N a b k).2) := rfl
  have s1 := wt_sum hA ((keysU a b).take (j + 1)) (hU.sublist (List.take_sublist _ _))
  have s2 := wt_sum hB ((keysU a b).take (j + 1)) (hU.sublist (List.take_sublist _ _))
  rw [List.take_succ_eq_append_getElem hj, List.map_append, List.sum_append] at s1 s2
  simp only [List.map_cons, List.map_nil, List.sum_cons, List.sum_nil, Nat.add_zero] at s1 s2
  have n1 := nodes_its a
  have n2 := nodes_its b
  omega
/-- What diff is asked of smaller values. -/
def DiffIH (a : V) (N : Nat) : Prop := ∀ (x y : V), SizeOf.sizeOf x < SizeOf.sizeOf a → x.good → y.good → x.nodes ≤ 1000 → y.nodes ≤ 1000 → ∀ (r : ByteArray) (D : Nat) (gv ov : Value) (G O : List Chg) (rg ro cs ds : List Value) (w : World), DfAt w D gv ov G O rg ro →
  VAt (veil (dfS D gv ov) w) x cs → VAt (veil (dfS D gv ov) w) y ds → r.size + 100 * x.lev ≤ 1000000 → G.length + x.nodes ≤ 4000 → O.length + y.nodes ≤ 4000 →
  Calls Tryz.prog 16 #[.pointer (some ⟨D, 0, none⟩), .agg cs.toArray, .agg ds.toArray, .string r] w (DiffOk x y N r D gv ov G O w)
end Go.Proofs.YtekknckdeedjnaaGreatDoor
