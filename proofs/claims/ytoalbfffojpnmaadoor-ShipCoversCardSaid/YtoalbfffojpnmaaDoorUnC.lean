/- strings.makeGenericReplacer at mark.Unescape's five pairs: the walk. Conditions: the strings in memory. -/
import Derived.Test.YtoalbfffojpnmaaDoorUnB
namespace Go.Proofs.YtoalbfffojpnmaaDoor
open Go.RowKit Mh
set_option linter.unusedVariables false

/-- A leaf, and the node that leads to it. -/
structure Ent where
  m : Nat
  c : UInt8
  rest : ByteArray
  val : ByteArray
  pri : Int
def ents : List Ent := [⟨5, 97, ⟨#[109, 112, 59]⟩, ⟨#[38]⟩, 10⟩, ⟨7, 108, ⟨#[116, 59]⟩, ⟨#[60]⟩, 8⟩, ⟨6, 103, ⟨#[116, 59]⟩, ⟨#[62]⟩, 6⟩, ⟨11, 113, ⟨#[117, 111, 116, 59]⟩, ⟨#[34]⟩, 4⟩, ⟨0, 35, ⟨#[51, 57, 59]⟩, ⟨#[39]⟩, 2⟩]
def EntAt (b0 : Nat) (W : World) (e : Ent) (b : Nat) : Prop := b0 ≤ b ∧ ∃ q, b0 ≤ q ∧ Nd W b ⟨#[]⟩ 0 e.rest (ptr q) nilT ∧ Nd W q e.val e.pri ⟨#[]⟩ nilP nilT
structure RowOk (b0 : Nat) (W : World) (es : List Ent) (row : List Value) : Prop where
  len : row.length = 14
  at_ : ∀ e ∈ es, ∃ b, row[e.m]? = some (ptr b) ∧ EntAt b0 W e b
  rest : ∀ j, j < 14 → (∀ e ∈ es, e.m ≠ j) → row[j]? = some nilP
def row14 : List Value := List.replicate 14 nilP
/-- What is below the root with k pairs put in. -/
def Sub (b0 : Nat) (W : World) (n1 : Nat) : Nat → Prop
  | 0 => True
  | 1 => b0 ≤ n1 ∧ ∃ q, b0 ≤ q ∧ Nd W n1 ⟨#[]⟩ 0 amp4 (ptr q) nilT ∧ Nd W q ⟨#[38]⟩ 10 ⟨#[]⟩ nilP nilT
  | k => b0 ≤ n1 ∧ ∃ T1 row, b0 ≤ T1 ∧ Nd W n1 ⟨#[]⟩ 0 ⟨#[]⟩ nilP (.slice (some ⟨T1, 0, none⟩) 14 14) ∧ W.heap[T1]? = some (.cells row.toArray 110 (0, 0)) ∧ RowOk b0 W (ents.take k) row
structure Tr (b0 : Nat) (W : World) (r : Nat) (k : Nat) : Prop where
  root : ∃ T0, b0 ≤ T0 ∧ W.heap[r]? = some (.cells (gRow (.slice (some ⟨T0, 0, none⟩) 14 14) 14 mpK).toArray 115 (0, 0)) ∧ ∃ n1, W.heap[T0]? = some (.cells (if k = 0 then row14 else row14.set 1 (ptr n1)).toArray 110 (0, 0)) ∧ Sub b0 W n1 k
  lo : b0 ≤ r
theorem EntAt.keep {b0 : Nat} {W W' : World} {e : Ent} {b T : Nat} {row : Array Value} (h : EntAt b0 W e b) (k : Kept [T] W W') (ht : W.heap[T]? = some (.cells row 110 (0, 0))) : EntAt b0 W' e b := by
  obtain ⟨h1, q, h2, h3, h4⟩ := h
  exact ⟨h1, q, h2, h3.kept k (by simpa using h3.ne_tab ht), h4.kept k (by simpa using h4.ne_tab ht)⟩
theorem mp38 : mpK 38 = 1 := by decide +kernel
theorem mp97 : mpK 97 = 5 := by decide +kernel
theorem mp108 : mpK 108 = 7 := by decide +kernel
theorem mp103 : mpK 103 = 6 := by decide +kernel
theorem mp113 : mpK 113 = 11 := by decide +kernel
theorem mp35 : mpK 35 = 0 := by decide +kernel
structure Rt (W : World) (r T0 : Nat) : Prop where
  c2 : W.cell? ⟨r, 2, none⟩ = some (.string ⟨#[]⟩)
  c4 : W.cell? ⟨r, 4, none⟩ = some (.slice (some ⟨T0, 0, none⟩) 14 14)
  c5 : W.cell? ⟨r, 5, none⟩ = some (.int .i64 14)
  cm : ∀ c, c < 256 → W.cell? ⟨r, 6 + c, none⟩ = some (.int .u8 (mpK c))
theorem rt_of {W : World} {r T0 : Nat} (h : W.heap[r]? = some (.cells (gRow (.slice (some ⟨T0, 0, none⟩) 14 14) 14 mpK).toArray 115 (0, 0))) : Rt W r T0 :=
  ⟨cellT h (by rw [List.getElem?_toArray]; rfl), cellT h (by rw [List.getElem?_toArray]; rfl), cellT h (by rw [List.getElem?_toArray]; rfl), fun c hc => cellT h (by rw [List.getElem?_toArray]; exact gRow_get _ _ _ hc)⟩
theorem gen_ne_tab {W : World} {r T : Nat} {a b : Array Value} (h : W.heap[r]? = some (.cells a 115 (0, 0))) (ht : W.heap[T]? = some (.cells b 110 (0, 0))) : r ≠ T := by
  rintro rfl; rw [h] at ht; simp at ht
theorem gen_ne_nd {W : World} {r n : Nat} {a : Array Value} {v pf : ByteArray} {p : Int} {nx tb : Value} (h : W.heap[r]? = some (.cells a 115 (0, 0))) (ht : Nd W n v p pf nx tb) : r ≠ n := by
  unfold Nd at ht
  rintro rfl; rw [h] at ht; simp at ht
theorem step0 (b0 r : Nat) (W : World) (h : Tr b0 W r 0) :
    Calls Tryd.prog 61 #[ptr r, .string ⟨#[38, 97, 109, 112, 59]⟩, .string ⟨#[38]⟩, .int .i64 10, ptr r] W fun e w' => e = .returned (.tuple #[]) ∧ Hid (Tr b0 w' r 1) ∧ Below b0 W w' := by
  obtain ⟨⟨T0, hT0, hr, n1, ht, hs⟩, hlo⟩ := h
  rw [if_pos rfl] at ht
  have R := rt_of hr
  have hrl := (Array.getElem?_eq_some_iff.1 hr).1
  refine (add_nil r T0 r 1 row14 ⟨#[38, 97, 109, 112, 59]⟩ ⟨#[38]⟩ 10 W (by decide) (ne_of_size (by decide)) R.c2 R.c4 (by have := R.cm 38 (by omega); rw [mp38] at this; exact this) (by omega) ht rfl (gen_ne_tab hr ht)).mono ?_
  rintro e w' ⟨rfl, HN, hk⟩
  obtain ⟨n, q, hn, hq, h1, h2, h3⟩ := HN.out
  refine ⟨rfl, ⟨⟨T0, hT0, (hk.block r hrl (by simpa using gen_ne_tab hr ht)).trans hr, n, ?_, ?_⟩, hlo⟩, hk.below (by omega) (by simpa using hT0)⟩
  · rw [if_neg (by omega)]; exact h3
  · exact ⟨by omega, q, by omega, h1, h2⟩
theorem step1 (b0 r : Nat) (W : World) (h : Tr b0 W r 1) :
    Calls Tryd.prog 61 #[ptr r, .string ⟨#[38, 108, 116, 59]⟩, .string ⟨#[60]⟩, .int .i64 8, ptr r] W fun e w' => e = .returned (.tuple #[]) ∧ Hid (Tr b0 w' r 2) ∧ Below b0 W w' := by
  obtain ⟨⟨T0, hT0, hr, n1, ht, hn1, q, hq, hs1, hs2⟩, hlo⟩ := h
  rw [if_neg (by omega)] at ht
  have R := rt_of hr
  have hrl := (Array.getElem?_eq_some_iff.1 hr).1
  have htl := (Array.getElem?_eq_some_iff.1 ht).1
  have hqn : q ≠ n1 := by
    rintro rfl
    unfold Nd at hs1 hs2
    rw [hs1] at hs2
    simp at hs2
  refine add_some r T0 n1 r 1 ⟨#[38, 108, 116, 59]⟩ ⟨#[60]⟩ 8 W (by decide) R.c2 R.c4 (by have := R.cm 38 (by omega); rw [mp38] at this; exact this) (by omega) (cellT ht (by rw [List.getElem?_toArray]; rfl)) (fun w1 sm => ?_) (fun e w' h => h.1)
  refine (add_split n1 q r ⟨#[60]⟩ 8 w1 (hs1.kept (sm.kept []) (by simp)) ((sm.cell _).trans R.c5) ((sm.cell _).trans (by have := R.cm 97 (by omega); rw [mp97] at this; exact this)) ((sm.cell _).trans (by have := R.cm 108 (by omega); rw [mp108] at this; exact this)) (fun e => gen_ne_nd hr hs1 e.symm)).mono ?_
  rintro e w' ⟨rfl, HN, hk1⟩
  have hk : Kept [n1] W w' := (sm.kept [n1]).trans hk1
  have hsz : w1.heap.size = W.heap.size := by rw [sm.heap]
  rw [hsz] at HN
  obtain ⟨n3, n4, q4, T1, l1, l2, l3, l4, m1, m2, m3, m4, m5⟩ := HN.out
  refine ⟨rfl, ⟨⟨T0, hT0, (hk.block r hrl (by simpa using gen_ne_nd hr hs1)).trans hr, n1, ?_, ?_⟩, hlo⟩, hk.below (by omega) (by simpa using hn1)⟩
  · rw [if_neg (by omega)]; exact (hk.block T0 htl (by simpa using fun e => hs1.ne_tab ht e.symm)).trans ht
  · refine ⟨hn1, T1, _, by omega, m1, m5, ⟨rfl, ?_, ?_⟩⟩
    · intro e he
      have : e = ⟨5, 97, ⟨#[109, 112, 59]⟩, ⟨#[38]⟩, 10⟩ ∨ e = ⟨7, 108, ⟨#[116, 59]⟩, ⟨#[60]⟩, 8⟩ := by simpa [ents] using he
      rcases this with rfl | rfl
      · exact ⟨n3, rfl, by omega, q, hq, m2, hs2.kept hk (by simpa using hqn)⟩
      · exact ⟨n4, rfl, by omega, q4, by omega, m3, m4⟩
    · intro j hj hne
      have h5 := hne ⟨5, 97, ⟨#[109, 112, 59]⟩, ⟨#[38]⟩, 10⟩ (by simp [ents])
      have h7 := hne ⟨7, 108, ⟨#[116, 59]⟩, ⟨#[60]⟩, 8⟩ (by simp [ents])
      simp only at h5 h7
      show (((List.replicate 14 nilP).set 5 _).set 7 _)[j]? = _
      rw [List.getElem?_set_ne h7, List.getElem?_set_ne h5, List.getElem?_replicate, if_pos hj]
theorem stepN (b0 r k : Nat) (e : Ent) (key : ByteArray) (W : World) (hk2 : 2 ≤ k) (hke : ents.take (k + 1) = ents.take k ++ [e]) (hks : 0 < key.size) (h38 : (key[0]'hks).toNat = 38) (hrs : 0 < (restB key).size) (hmp : mpK ((restB key)[0]'hrs).toNat = e.m) (hrest : restB (restB key) = e.rest) (hne : 0 < e.rest.size) (hm14 : e.m < 14) (hm1 : ∀ e' ∈ ents.take (k + 1), e'.m ≠ 1) (hfr : ∀ e' ∈ ents.take k, e'.m ≠ e.m) (h : Tr b0 W r k) :
    Calls Tryd.prog 61 #[ptr r, .string key, .string e.val, .int .i64 e.pri, ptr r] W fun e w' => e = .returned (.tuple #[]) ∧ Hid (Tr b0 w' r (k + 1)) ∧ Below b0 W w' := by
  obtain ⟨⟨T0, hT0, hr, n1, ht, hs⟩, hlo⟩ := h
  rw [if_neg (by omega)] at ht
  obtain ⟨j, rfl⟩ : ∃ j, k = j + 2 := ⟨k - 2, by omega⟩
  obtain ⟨hn1, T1, row, hT1, m1, m5, hrow⟩ := hs
  have R := rt_of hr
  have hrl := (Array.getElem?_eq_some_iff.1 hr).1
  have htl := (Array.getElem?_eq_some_iff.1 ht).1
  obtain ⟨c0, c1, c2, c3, c4, _⟩ := m1.cells
  have hTT : T0 ≠ T1 := by
    rintro rfl
    rw [ht] at m5
    have h1 : row14.set 1 (ptr n1) = row := by simpa using m5
    have h2 := hrow.rest 1 (by omega) (fun e' he => hm1 e' (by rw [hke]; exact List.mem_append_left _ he))
    rw [← h1] at h2
    simp [row14, ptr, nilP] at h2
  refine add_some r T0 n1 r 1 key e.val e.pri W hks R.c2 R.c4 (by have := R.cm 38 (by omega); rw [mp38] at this; rw [h38]; exact this) (by omega) (cellT ht (by rw [List.getElem?_toArray]; simp [row14])) (fun w1 sm => ?_) (fun e w' h => h.1)
  refine (add_nil n1 T1 r e.m row (restB key) e.val e.pri w1 hrs (by rw [hrest]; exact ne_of_size hne) ((sm.cell _).trans c2) ((sm.cell _).trans c4) ((sm.cell _).trans (by have := R.cm ((restB key)[0]'hrs).toNat (UInt8.toNat_lt _); rw [hmp] at this; exact this)) hm14 (by rw [sm.heap]; exact m5) (hrow.rest _ hm14 hfr) (m1.ne_tab m5)).mono ?_
  rintro e2 w' ⟨rfl, HN, hk1⟩
  have hk : Kept [T1] W w' := (sm.kept [T1]).trans hk1
  have hsz : w1.heap.size = W.heap.size := by rw [sm.heap]
  rw [hsz] at HN
  obtain ⟨n, q, l1, l2, a1, a2, a3⟩ := HN.out
  rw [hrest] at a1
  refine ⟨rfl, ⟨⟨T0, hT0, (hk.block r hrl (by simpa using gen_ne_tab hr m5)).trans hr, n1, ?_, ?_⟩, hlo⟩, hk.below (by omega) (by simpa using hT1)⟩
  · rw [if_neg (by omega)]; exact (hk.block T0 htl (by simpa using hTT)).trans ht
  · refine ⟨hn1, T1, _, hT1, m1.kept hk (by simpa using m1.ne_tab m5), a3, ⟨by rw [List.length_set]; exact hrow.len, ?_, ?_⟩⟩
    · intro e' he
      rw [show j + 1 + 1 + 1 = j + 2 + 1 from rfl, hke, List.mem_append] at he
      rcases he with he | he
      · obtain ⟨b, hb, hE⟩ := hrow.at_ e' he
        exact ⟨b, by rw [List.getElem?_set_ne (fun e => hfr e' he e.symm)]; exact hb, hE.keep hk m5⟩
      · obtain rfl : e' = e := by simpa using he
        exact ⟨n, by rw [List.getElem?_set_self (by rw [hrow.len]; exact hm14)], by omega, q, by omega, a1, a2⟩
    · intro i hi hne2
      rw [show j + 1 + 1 + 1 = j + 2 + 1 from rfl, hke] at hne2
      rw [List.getElem?_set_ne (hne2 e (List.mem_append_right _ (by simp)))]
      exact hrow.rest i hi (fun e' he => hne2 e' (List.mem_append_left _ he))
/-- One pair is put in. -/
theorem add_step (b0 r k : Nat) (hk : k < 5) (W : World) (h : Tr b0 W r k) :
    Calls Tryd.prog 61 #[ptr r, .string (unL.getD (2 * k) ⟨#[]⟩), .string (unL.getD (2 * k + 1) ⟨#[]⟩), .int .i64 (10 - 2 * (k : Int)), ptr r] W fun e w' => e = .returned (.tuple #[]) ∧ Hid (Tr b0 w' r (k + 1)) ∧ Below b0 W w' := by
  have hk5 : k = 0 ∨ k = 1 ∨ k = 2 ∨ k = 3 ∨ k = 4 := by omega
  rcases hk5 with rfl | rfl | rfl | rfl | rfl
  · exact step0 b0 r W h
  · exact step1 b0 r W h
  · exact stepN b0 r 2 ⟨6, 103, ⟨#[116, 59]⟩, ⟨#[62]⟩, 6⟩ ⟨#[38, 103, 116, 59]⟩ W (by omega) rfl (by decide) rfl (by decide) (by exact mp103) rfl (by decide) (by decide) (by decide) (by decide) h
  · exact stepN b0 r 3 ⟨11, 113, ⟨#[117, 111, 116, 59]⟩, ⟨#[34]⟩, 4⟩ ⟨#[38, 113, 117, 111, 116, 59]⟩ W (by omega) rfl (by decide) rfl (by decide) (by exact mp113) rfl (by decide) (by decide) (by decide) (by decide) h
  · exact stepN b0 r 4 ⟨0, 35, ⟨#[51, 57, 59]⟩, ⟨#[39]⟩, 2⟩ ⟨#[38, 35, 51, 57, 59]⟩ W (by omega) rfl (by decide) rfl (by decide) (by exact mp35) rfl (by decide) (by decide) (by decide) (by decide) h
end Go.Proofs.YtoalbfffojpnmaaDoor
