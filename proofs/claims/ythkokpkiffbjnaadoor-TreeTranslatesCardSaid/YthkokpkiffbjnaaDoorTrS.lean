/- A site in memory; tree's sections. Conditions: at most 1500 pages; strings of at most maxLen bytes. -/
import Derived.Test.YthkokpkiffbjnaaDoorTrE
import Derived.Test.YthkokpkiffbjnaaDoorTrK
import Derived.Test.YthkokpkiffbjnaaDoorMp
namespace Mh
open Go Go.RowKit
set_option linter.unusedVariables false
/-- A slice of pages. -/
def PsAt (w : World) (v : Value) (l : List Pg) : Prop := ∃ ao c, v = .slice ao l.length c ∧ l.length ≤ maxLen ∧ ∀ i (hi : i < l.length), ∃ b off ia ic ka kc fa fc, ao = some ⟨b, off, none⟩ ∧ l.length ≤ c ∧ c ≤ maxLen ∧ b < w.heap.size ∧
  PgAt w l[i] ia ic ka kc fa fc ∧ ∀ j (hj : j < 13), w.cell? ⟨b, off + i * 13 + j, none⟩ = some ((pg13 l[i] ia ic ka kc fa fc)[j]'hj)
theorem PsAt.keep {w w' : World} {v : Value} {l : List Pg} (h : PsAt w v l) (hb : Below w.heap.size w w') : PsAt w' v l := by
  obtain ⟨ao, c, hv, hm, h⟩ := h
  refine ⟨ao, c, hv, hm, fun i hi => ?_⟩
  obtain ⟨b, off, ia, ic, ka, kc, fa, fc, h1, h2, h3, h4, h5, h6⟩ := h i hi
  exact ⟨b, off, ia, ic, ka, kc, fa, fc, h1, h2, h3, Nat.lt_of_lt_of_le h4 hb.size, h5.keep hb, fun j hj => (hb.cell h4).trans (h6 j hj)⟩
theorem thirteen {w wr : World} {b o : Nat} {p : Pg} {ia ka fa : Option Addr} {ic kc fc : Nat} (hb : Below w.heap.size w wr) (hlt : b < w.heap.size)
    (h : ∀ j (hj : j < 13), w.cell? ⟨b, o + j, none⟩ = some ((pg13 p ia ic ka kc fa fc)[j]'hj)) :
    wr.cell? ⟨b, o, none⟩ = some (.string p.path) ∧ wr.cell? ⟨b, o + 1, none⟩ = some (.string p.key) ∧ wr.cell? ⟨b, o + 2, none⟩ = some (.string p.lang) ∧ wr.cell? ⟨b, o + 3, none⟩ = some (.string p.addr) ∧
      wr.cell? ⟨b, o + 4, none⟩ = some (.int .i64 p.kind) ∧ wr.cell? ⟨b, o + 5, none⟩ = some (.int .i64 p.set.kd) ∧ wr.cell? ⟨b, o + 6, none⟩ = some (.bool p.set.bo) ∧ wr.cell? ⟨b, o + 7, none⟩ = some (.int .i64 p.set.nu) ∧
      wr.cell? ⟨b, o + 8, none⟩ = some (.string p.set.tx) ∧ wr.cell? ⟨b, o + 9, none⟩ = some (.slice ia p.set.its.length ic) ∧ wr.cell? ⟨b, o + 10, none⟩ = some (.slice ka p.set.kys.length kc) ∧
      wr.cell? ⟨b, o + 11, none⟩ = some (.string p.rest) ∧ wr.cell? ⟨b, o + 12, none⟩ = some (.slice fa p.files.length fc) := by
  have g := fun j (hj : j < 13) => (hb.cell (p := ⟨b, o + j, none⟩) hlt).trans (h j hj)
  exact ⟨g 0 (by omega), g 1 (by omega), g 2 (by omega), g 3 (by omega), g 4 (by omega), g 5 (by omega), g 6 (by omega), g 7 (by omega), g 8 (by omega), g 9 (by omega), g 10 (by omega), g 11 (by omega), g 12 (by omega)⟩
/-- The first Section of a language with a key. -/
def secF (l : List Pg) (a b : ByteArray) : Option Nat := l.findIdx? (fun p => decide (p.kind = 2 ∧ p.lang = a ∧ p.key = b))
theorem secF_lt {l : List Pg} {a b : ByteArray} {i : Nat} (h : secF l a b = some i) : i < l.length := by
  unfold secF at h
  rw [List.findIdx?_eq_some_iff_getElem] at h
  exact h.1
theorem secF_snoc (l : List Pg) (p : Pg) (a b : ByteArray) : secF (l ++ [p]) a b = (secF l a b).or (if p.kind = 2 ∧ p.lang = a ∧ p.key = b then some l.length else none) := by
  unfold secF
  rw [List.findIdx?_append]
  congr 1
  by_cases h : p.kind = 2 ∧ p.lang = a ∧ p.key = b
  · simp [h]
  · rw [if_neg h]
    have : List.findIdx? (fun p : Pg => decide (p.kind = 2 ∧ p.lang = a ∧ p.key = b)) [p] = none := by
      rw [List.findIdx?_eq_none_iff]
      intro x hx
      rw [List.mem_singleton] at hx
      subst hx
      exact decide_eq_false h
    rw [this]; rfl
end Mh
namespace Go.Proofs.YthkokpkiffbjnaaDoor
open Go.RowKit Mh
open Go.WideMaps (KeyLaw ArrKey)
set_option linter.unusedVariables false
/-- The sections' map. -/
def SecM (w : World) (b n : Nat) (l : List Pg) : Prop := ∃ f, MapV Tryd.prog 56 w b n f ∧ ∀ a c, f (k2 a c) = (secF l a c).map fun i => Value.int .i64 (i : Int)
theorem SecM.block {w w' : World} {b n : Nat} {l : List Pg} (h : SecM w b n l) (hb : w'.heap[b]? = w.heap[b]?) : SecM w' b n l := by
  obtain ⟨f, h, h2⟩ := h; exact ⟨f, h.block hb, h2⟩
theorem SecM.lt {w : World} {b n : Nat} {l : List Pg} (h : SecM w b n l) : b < w.heap.size := by obtain ⟨f, h, _⟩ := h; exact h.lt
theorem SecM.look {w : World} {b n : Nat} {l : List Pg} (h : SecM w b n l) {a c : ByteArray} (ha : a.size ≤ maxLen) (hc : c.size ≤ maxLen) {r : Option Nat} (hr : secF l a c = r) :
    (Instr.lookup 44 (.map (some b)) (.agg #[.string a, .string c]) true).run Tryd.prog w = .ok (.tuple #[.int .i64 ((r.getD 0 : Nat) : Int), .bool r.isSome]) w := by
  obtain ⟨f, hM, hA⟩ := h
  obtain ⟨kl, hkl⟩ := key2_of ha hc
  have := hM.look_ok key2_arr.law Tryd.underlying44 (zInt w) hkl
  rw [hA a c, hr] at this
  unfold k2 at this
  rw [this]
  cases r <;> rfl
theorem SecM.put {w : World} {b n : Nat} {l : List Pg} (h : SecM w b n l) (p : Pg) (hl : p.lang.size ≤ maxLen) (hk : p.key.size ≤ maxLen) (hn : n < maxLen) (h2 : p.kind = 2) (hno : secF l p.lang p.key = none) :
    ∃ w', (Instr.mapUpdate 44 (.map (some b)) (.agg #[.string p.lang, .string p.key]) (.int .i64 (l.length : Int))).run Tryd.prog w = .ok () w' ∧ SecM w' b (n + 1) (l ++ [p]) ∧ w.grownBy w' (some b) := by
  obtain ⟨f, hM, hA⟩ := h
  obtain ⟨kl, hkl⟩ := key2_of hl hk
  obtain ⟨w', h1, h3, h4⟩ := hM.put key2_arr.law Tryd.underlying44 hn hkl (.int .i64 (l.length : Int))
  refine ⟨w', h1, ⟨_, h3, fun a c => ?_⟩, h4⟩
  rw [secF_snoc]
  by_cases e : p.lang = a ∧ p.key = c
  · obtain ⟨rfl, rfl⟩ := e
    rw [updV_same, hno, if_pos ⟨h2, rfl, rfl⟩]
    rfl
  · rw [updV_other _ _ (fun q => e (by rw [k2_inj] at q; exact ⟨q.1.symm, q.2.symm⟩)), if_neg (fun q => e q.2), hA a c]
    simp
theorem SecM.skip {w : World} {b n : Nat} {l : List Pg} (h : SecM w b n l) (p : Pg) (hs : p.kind ≠ 2 ∨ (secF l p.lang p.key).isSome = true) : SecM w b n (l ++ [p]) := by
  obtain ⟨f, hM, hA⟩ := h
  refine ⟨f, hM, fun a c => ?_⟩
  rw [hA a c, secF_snoc]
  congr 1
  by_cases e : p.kind = 2 ∧ p.lang = a ∧ p.key = c
  · obtain ⟨e1, rfl, rfl⟩ := e
    rcases hs with h | h
    · exact absurd e1 h
    · obtain ⟨i, hi⟩ := Option.isSome_iff_exists.1 h
      rw [hi]; rfl
  · rw [if_neg e]; simp
theorem below_of_grown {B b : Nat} {w w' : World} (h : w.grownBy w' (some b)) (hb : B ≤ b) (hB : B ≤ w.heap.size) : Below B w w' := ⟨h.os, h.tape, h.output, h.size, fun i hi => h.block i (by omega) (fun e => by cases e; omega)⟩
theorem secF_take {l : List Pg} {i : Nat} (hi : i < l.length) : l.take (i + 1) = l.take i ++ [l[i]] := by
  rw [List.take_add_one, List.getElem?_eq_getElem hi]; rfl
set_option maxHeartbeats 4000000 in
theorem sections_any (la : Option Addr) (ln lc : Nat) (pv : Value) (l : List Pg) (w : World) (h : PsAt w pv l) (hl : l.length ≤ 1500) :
    Calls Tryd.prog 11 #[.agg #[.slice la ln lc, pv]] w fun e w' => ∃ b n, e = .returned (.map (some b)) ∧ w.heap.size ≤ b ∧ n ≤ 1500 ∧ SecM w' b n l ∧ Below w.heap.size w w' := by
  obtain ⟨ao, c, rfl, hm, hat⟩ := h
  have HAT := Lib.hid hat
  unfold maxLen at hm
  clear hat
  have HX0 : Hid (((w.alloc (.cells #[.slice la ln lc, .slice ao l.length c] 25)).alloc (.map #[] 0)).heap[w.heap.size]? = some (.cells #[.slice la ln lc, .slice ao l.length c] 25 (0, 0))) := (heap_alloc_old _ _ (by simp)).trans (heap_alloc_new _ _)
  have HM0 : Hid (SecM ((w.alloc (.cells #[.slice la ln lc, .slice ao l.length c] 25)).alloc (.map #[] 0)) (w.heap.size + 1) 0 []) := by
    have := mapV_made (w.alloc (.cells #[.slice la ln lc, .slice ao l.length c] 25)) Tryd.prog 56
    have e : (w.alloc (.cells #[.slice la ln lc, .slice ao l.length c] 25)).heap.size = w.heap.size + 1 := by simp
    rw [e] at this
    exact ⟨_, this, fun a c => rfl⟩
  have HB0 : Hid (Below w.heap.size w ((w.alloc (.cells #[.slice la ln lc, .slice ao l.length c] 25)).alloc (.map #[] 0))) := ((Below.refl _ w).alloc (Nat.le_refl _) _).alloc (by simp) _
  go_enter Tryd.func11, Tryd.ntmps11
  go_wp2_with (rw [run_makeMap])
  go_loopw [12] (fun i wr => ∃ k : Nat, k ≤ l.length ∧ i = .int .i64 k ∧ Hid (SecM wr (w.heap.size + 1) k (l.take k)) ∧ Hid (Below w.heap.size w wr)) (fun i wr => l.length - (intOf i).toNat)
  case atStart => exact ⟨0, Nat.zero_le _, rfl, HM0, HB0⟩
  case round =>
    obtain ⟨k, hk, rfl, HM, HB⟩ := hrel
    clear HX0 HM0 HB0
    obtain ⟨wo, rfl⟩ : ∃ wo : World, wo = wr := ⟨_, rfl⟩
    by_cases hkl : k < l.length
    · obtain ⟨b, off, ia, ic, ka, kc, fa, fc, rfl, h1, h2, h3, h4, h5⟩ := HAT.out k hkl
      obtain ⟨x0, x1, x2, x3, x4, x5, x6, x7, x8, x9, x10, x11, x12⟩ := thirteen HB.out h3 h5
      have HPG := Lib.hid h4
      have HTK := Lib.hid (secF_take hkl)
      unfold maxLen at h2
      have hln : (l.take k).length = k := by rw [List.length_take]; omega
      have HSK : Hid (l[k].kind ≠ 2 ∨ (secF (l.take k) l[k].lang l[k].key).isSome = true → ∀ w', w'.heap[w.heap.size + 1]? = wo.heap[w.heap.size + 1]? → SecM w' (w.heap.size + 1) (k + 1) (l.take (k + 1))) := fun q w' (hb : w'.heap[w.heap.size + 1]? = wo.heap[w.heap.size + 1]?) => by
        rw [HTK.out]
        obtain ⟨f, g1, g2⟩ := (HM.out.block hb).skip l[k] q
        exact ⟨f, g1.mono (by omega), g2⟩
      have HLO := Lib.hid (fun (w' : World) (hb : w'.heap[w.heap.size + 1]? = wo.heap[w.heap.size + 1]?) r (hr : secF (l.take k) l[k].lang l[k].key = r) => (HM.out.block hb).look h4.lang h4.key hr)
      have HPU := Lib.hid (fun (w' : World) (hb : w'.heap[w.heap.size + 1]? = wo.heap[w.heap.size + 1]?) (q2 : l[k].kind = 2) (hr : secF (l.take k) l[k].lang l[k].key = none) => (HM.out.block hb).put l[k] h4.lang h4.key (by unfold maxLen; omega) q2 hr)
      have HZ : Hid (w.heap.size + 1 < wo.heap.size) := HM.out.lt
      rw [hln] at HPU
      rw [← HTK.out] at HPU
      clear h4 h5 hln
      generalize hkey : l[k].key = pk at *
      generalize hlang : l[k].lang = pl at *
      generalize hkind : l[k].kind = pd at *
      have hzb : Below wo.heap.size wo (wo.alloc (.cells #[.string l[k].path, .string pk, .string pl, .string l[k].addr, .int .i64 pd, .int .i64 l[k].set.kd, .bool l[k].set.bo, .int .i64 l[k].set.nu, .string l[k].set.tx, .slice ia l[k].set.its.length ic, .slice ka l[k].set.kys.length kc, .string l[k].rest, .slice fa l[k].files.length fc] 39)) := (Below.refl _ wo).alloc (Nat.le_refl _) _
      have HB1 := Lib.hid (HB.out.trans (hzb.mono HB.out.size))
      have HBK := Lib.hid (hzb.block _ HZ.out)
      clear hzb hkey hlang hkind HPG HTK
      by_cases hd : pd = 2
      rotate_left
      · have hdb : (pd == 2) = false := by rw [beq_eq_false_iff_ne]; exact hd
        have HS := Lib.hid (HSK.out (.inl hd) _ HBK.out)
        clear hd
        go_wp2_with fail
        go_roundw
        case rel => exact ⟨k + 1, by omega, by go_num, HS, HB1⟩
        case measure => simp [intOf]; omega
      subst hd
      cases hsec : secF (l.take k) pl pk with
      | some r =>
        have hrun := HLO.out _ HBK.out _ hsec
        have HS := Lib.hid (HSK.out (.inr (by rw [hsec]; rfl)) _ HBK.out)
        clear hsec
        go_wp2_with fail
        go_roundw
        case rel => exact ⟨k + 1, by omega, by go_num, HS, HB1⟩
        case measure => simp [intOf]; omega
      | none =>
        have hrun := HLO.out _ HBK.out _ hsec
        obtain ⟨w2, hrun2, hS2, hg2⟩ := HPU.out _ HBK.out rfl hsec
        have HS := Lib.hid hS2
        have HB2 := Lib.hid (HB1.out.trans (below_of_grown hg2 (by omega) HB1.out.size))
        clear hS2 hg2 hsec
        go_wp2_with fail
        go_roundw
        case rel => exact ⟨k + 1, by omega, by go_num, HS, HB2⟩
        case measure => simp [intOf]; omega
    · have hkk : k = l.length := by omega
      have HS : Hid (SecM wo (w.heap.size + 1) k l) := by have := HM.out; rw [hkk, List.take_length] at this; rw [hkk]; exact this
      go_wp2_with fail
      go_ret
      exact ⟨_, _, rfl, Nat.le_succ _, by omega, HS.out, HB.out⟩
end Go.Proofs.YthkokpkiffbjnaaDoor
