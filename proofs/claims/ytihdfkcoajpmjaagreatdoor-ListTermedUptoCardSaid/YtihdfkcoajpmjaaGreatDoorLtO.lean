/- sort.Slice as list.terms calls it: the terms by their names. Conditions: at most 2^31 terms. -/
import Derived.Test.YtihdfkcoajpmjaaGreatDoorLtR
import Derived.Shelf.SlSortFuncK.WholeK
import Derived.Shelf.GgSortFunc.Tiny
import Derived.BigQuiet
namespace Mh
open Go Go.RowKit
set_option linter.unusedVariables false
def klT (a b : ByteArray) : Bool := decide (a.data.toList < b.data.toList)
theorem klT_irrefl (a : ByteArray) : klT a a = false := decide_eq_false (List.lt_irrefl _)
theorem klT_trans {a b c : ByteArray} (h : klT a b = true) (h2 : klT b c = true) : klT a c = true := decide_eq_true (List.lt_trans (of_decide_eq_true h) (of_decide_eq_true h2))
theorem klT_total {a b : ByteArray} (h : klT a b = false) (h2 : klT b a = false) : a = b := by
  have h3 : a.data.toList = b.data.toList := List.le_antisymm (List.not_lt.1 (of_decide_eq_false h2)) (List.not_lt.1 (of_decide_eq_false h))
  cases a; cases b
  simpa [Array.toList_inj] using h3
def klR (x y : TmR) : Bool := klT x.t.nm y.t.nm
theorem swo_klR : Go.Sort.SWO klR := ⟨fun x => klT_irrefl _, fun x y z => klT_trans, fun x y z h1 h2 => by
  show klT x.t.nm z.t.nm = false
  cases h : klT x.t.nm z.t.nm with
  | false => rfl
  | true =>
    have h1' : klT x.t.nm y.t.nm = false := h1
    have h2' : klT y.t.nm z.t.nm = false := h2
    cases hy : klT y.t.nm x.t.nm with
    | true => have := klT_trans hy h; rw [h2'] at this; cases this
    | false => have := klT_total h1' hy; rw [this, h2'] at h; cases h⟩
end Mh
namespace Go.Proofs.YtihdfkcoajpmjaaGreatDoor
open Go.RowKit Mh Go.Sort
open Go.Lib (swapperK)
set_option linter.unusedVariables false
def slF : Value → Value
  | .slice a n c => .slice a n c
  | _ => .slice none 0 0
theorem slF_one (v : Value) : (slF v).oneCell' = true := by unfold slF; split <;> rfl
def trE (r : TmR) : List Value := [.string r.t.nm, .string r.t.ti, slF r.v]
theorem trE_len (x : TmR) : (trE x).length = 3 := rfl
theorem trE_eq {x : TmR} (h : ∃ a n c, x.v = .slice a n c) : trE x = trL x := by
  obtain ⟨a, n, c, e⟩ := h
  unfold trE trL; rw [e]; rfl
theorem flat_eq {l : List TmR} (h : ∀ x ∈ l, ∃ a n c, x.v = .slice a n c) : l.flatMap trE = l.flatMap trL := by
  induction l with
  | nil => rfl
  | cons x l ih => rw [List.flatMap_cons, List.flatMap_cons, trE_eq (h x (by simp)), ih (fun y hy => h y (by simp [hy]))]
theorem flat_len (l : List TmR) : (l.flatMap trE).length = l.length * 3 := by
  induction l with
  | nil => rfl
  | cons x l ih => rw [List.flatMap_cons, List.length_append, ih, trE_len, List.length_cons]; omega
theorem flat_get (l : List TmR) (i : Nat) (hi : i < l.length) (c : Nat) (hc : c < 3) : (l.flatMap trE)[i * 3 + c]? = (trE l[i])[c]? := by
  induction l generalizing i with
  | nil => simp at hi
  | cons t l ih =>
    rw [List.flatMap_cons]
    cases i with
    | zero => rw [List.getElem?_append_left (by rw [trE_len]; omega), Nat.zero_mul, Nat.zero_add]; rfl
    | succ i =>
      rw [List.getElem?_append_right (by rw [trE_len]; omega), show (i + 1) * 3 + c - (trE t).length = i * 3 + c by rw [trE_len]; omega]
      exact ih i (by simpa using hi)
theorem tless_any (blk off c G n : Nat) (W : World) (N : Nat → ByteArray) (hn : n ≤ 2097152000) (hs : W.cell? ⟨G, 0, none⟩ = some (.slice (some ⟨blk, off, none⟩) n c)) (hc : ∀ t, t < n → W.cell? ⟨blk, off + t * 3, none⟩ = some (.string (N t))) (i j : Nat) (hi : i < n) (hj : j < n) :
    Calls Tryz.prog 24 #[.int .i64 i, .int .i64 j, .pointer (some ⟨G, 0, none⟩)] W fun e w' => e = .returned (.bool (klT (N i) (N j))) ∧ ∃ q, w' = W.drewN q := by
  have ci := hc i hi
  have cj := hc j hj
  have HR : Hid (∀ a b : ByteArray, Op.bytesLess a.toList b.toList = klT a b) := fun a b => by rw [Go.Proofs.bytesLess_eq, Lib.toList_data, Lib.toList_data]; rfl
  have hkl := HR.out (N i) (N j)
  have hi0 : (i : Int) < n := by omega
  have hj0 : (j : Int) < n := by omega
  generalize klT (N i) (N j) = R at *
  generalize N i = x at *
  generalize N j = y at *
  clear hc
  go_enter Tryz.func24, Tryz.ntmps24
  go_wp2_with fail
  go_quiet (fail)
  go_wp2_with fail
  go_ret
  exact ⟨rfl, nq, rfl⟩
theorem infoTermO : (Tryz.prog.info? 30).map (fun i => (i.size, i.bytes, i.hasPointers)) = some (3, 56, true) := by kernel_rfl
/-- What the sort leaves. -/
def SortedT (L0 : List TmR) (v : Value) (base : Nat) (w w' : World) : Prop := ∃ L1 : List TmR, L1.Perm L0 ∧ (L1.Pairwise fun x y => klR y x = false) ∧ Sl 3 w' v L0.length (L1.flatMap trE) ∧ Below base w w' ∧ ∀ k, k < w.heap.size → v.ownBlock ≠ some k → w'.heap[k]? = w.heap[k]?
theorem tsort_any (L0 : List TmR) (hn : L0.length ≤ 2097152000) (v : Value) (w : World) (base G : Nat) (hown : w.ownsRow base 30 3 v L0.length (L0.flatMap trE)) (hG : w.heap[G]? = some (.cells #[v] 24 (0, 0))) (hGb : G < base) (hbw : base ≤ w.heap.size) :
    Calls Tryz.prog 23 #[.iface 24 v, .func (.func 24) #[] #[.pointer (some ⟨G, 0, none⟩)]] w fun e w' => e = .returned (.tuple #[]) ∧ SortedT L0 v base w w' := by
  obtain ⟨i, hi, hd⟩ := Option.map_eq_some_iff.1 (show (Tryz.prog.info? 24).map (·.desc) = some (.slice 30) by kernel_rfl)
  obtain ⟨ie, hie, hie2⟩ := Option.map_eq_some_iff.1 infoTermO
  simp only [Prod.mk.injEq] at hie2
  obtain ⟨hsz, hby, hpt⟩ := hie2
  have hke : ∀ w, (Extern.Rtype.kind 30).run Tryz.prog w = .ok 25 w := by intro w; kernel_rfl
  by_cases h2 : 2 ≤ L0.length
  · obtain ⟨hlen, ho⟩ := hown
    rcases ho with ⟨rfl, h0⟩ | ⟨g, cap, cur, rfl, hbg, hg, hncap, hcm, hcs, htake⟩
    · omega
    have hK : swapperK L0.length ie 25 = 9 := by
      unfold swapperK
      rw [hpt, hby]
      have e0 : (L0.length == 0) = false := by rw [beq_eq_false_iff_ne]; omega
      have e1 : (L0.length == 1) = false := by rw [beq_eq_false_iff_ne]; omega
      rw [e0, e1]; rfl
    have hgl : g < w.heap.size := (Array.getElem?_eq_some_iff.1 hg).1
    have hdsz : L0.toArray.size = L0.length := by simp
    have hH : HoldsK trE 3 w g 0 L0.toArray := by
      intro j hj
      have hj3 : j < L0.length * 3 := by rw [size_flatK] at hj; simpa using hj
      refine ⟨?_, frozenT hg⟩
      rw [get_flatK _ _ _ _ (by rw [hdsz]; exact hj3), Nat.zero_add, cell_of_row _ _ _ _ _ _ hg]
      have hd3 : j / 3 < L0.length := by omega
      have h5 := flat_get L0 (j / 3) hd3 (j % 3) (by omega)
      rw [show j / 3 * 3 + j % 3 = j by omega, ← htake, List.getElem?_take, if_pos hj3] at h5
      have h6 : (trE L0.toArray[j / 3]!)[j % 3]? = some ((trE L0.toArray[j / 3]!)[j % 3]!) := by
        have hl : j % 3 < (trE L0.toArray[j / 3]!).length := by rw [trE_len]; omega
        rw [List.getElem?_eq_getElem hl]
        exact congrArg some (getElem!_pos (trE L0.toArray[j / 3]!) (j % 3) hl).symm
      have h7 : L0.toArray[j / 3]! = L0[j / 3] := by rw [getElem!_pos _ _ (by simpa using hd3)]; simp
      rw [h7] at h6 ⊢
      rw [h6] at h5
      simpa using h5
    have hGl : G < w.heap.size := (Array.getElem?_eq_some_iff.1 hG).1
    have hless : LessReadsK Tryz.prog 24 #[.pointer (some ⟨G, 0, none⟩)] trE 3 klR g 0 L0.toArray.size w := by
      intro m os dk hs i j hi hj
      have e : sortWorldK trE 3 w g 0 m dk os = putRowK trE 3 (grow (Sort.ahead w m) os) g 0 dk := by
        unfold sortWorldK; rw [putRowK_grow _ _ (Sort.ahead w m) _ g 0 _ hgl]
      have hHg : HoldsK trE 3 (grow (Sort.ahead w m) os) g 0 L0.toArray := holdsK_grow _ _ _ _ g 0 _ hgl (holdsK_ahead _ _ _ _ _ _ _ hH)
      refine tless_any g 0 cap G L0.length _ (fun t => dk[t]!.t.nm) hn ?_ (fun t ht => ?_) i j (by omega) (by omega)
      · rw [e, cell?_putRowK_other _ _ _ g 0 dk _ (by show G ≠ g; omega), cell?_grow _ _ _ (by exact hGl)]; exact cellT hG rfl
      · rw [e]; exact ((holdsK_putRowK _ _ _ g 0 _ dk hHg hs).cell (i := t) (c := 0) (by omega) (by omega)).1
    have hc := Any.sort_Slice_cells_sorted Tryz.laysGg6 24 30 i ie hi hd (by kernel_rfl) hie 25 hke trE 3 (fun _ => rfl) hsz (fun _ => by kernel_rfl)
      (fun x v hv => by unfold trE at hv; simp only [List.mem_cons, List.not_mem_nil, or_false] at hv; rcases hv with rfl | rfl | rfl; rfl; rfl; exact slF_one _) klR swo_klR 24 #[.pointer (some ⟨G, 0, none⟩)]
      (enters_of Tryz.func24 (by kernel_rfl) rfl) g 0 cap L0.toArray (by simpa using h2) (by simp; omega) 63 (by rw [hdsz, hK]; kernel_rfl) false
      (fun args W => run_callFunc_extern Tryz.func63 (by kernel_rfl) (by kernel_rfl) (by kernel_rfl) (e := Extern.ReflectliteSwapper.swap false) (by kernel_rfl) args W) w hless hH hgl
    rw [hdsz] at hc
    refine hc.mono ?_
    rintro e w' ⟨rfl, d', q, os, hp, hso, rfl⟩
    have hds : d'.size = L0.length := by rw [hp.1, hdsz]
    have hHa : HoldsK trE 3 (Sort.ahead w q) g 0 L0.toArray := holdsK_ahead _ _ _ _ _ _ _ hH
    have hHp := holdsK_putRowK trE 3 (Sort.ahead w q) g 0 L0.toArray d' hHa (by rw [hds, hdsz])
    have hgl2 : g < (putRowK trE 3 (Sort.ahead w q) g 0 d').heap.size := by unfold putRowK putRow mapBlock; simpa using hgl
    have hHg := holdsK_grow trE 3 _ os g 0 d' hgl2 hHp
    have hhp : ∀ k, k < w.heap.size → k ≠ g → (grow (putRowK trE 3 (Sort.ahead w q) g 0 d') os).heap[k]? = w.heap[k]? := fun k hk hne => by
      rw [heap_grow_old _ _ (by unfold putRowK putRow mapBlock; simpa using hk)]
      unfold putRowK putRow mapBlock
      simp only [Array.getElem?_modify, if_neg (fun e : g = k => hne e.symm)]
      rfl
    have hsz2 : w.heap.size ≤ (grow (putRowK trE 3 (Sort.ahead w q) g 0 d') os).heap.size := by
      rw [size_grow]; unfold putRowK putRow mapBlock; simp
    refine ⟨rfl, d'.toList, ?_, ?_, ⟨by rw [flat_len, Array.length_toList, hds], .inr ⟨g, 0, cap, rfl, by omega, hncap, hcm, Nat.lt_of_lt_of_le hgl hsz2, fun j u hu => ?_⟩⟩, ⟨rfl, rfl, rfl, Nat.le_trans (by omega) hsz2, fun k hk => hhp k (by omega) (by omega)⟩, fun k hk hne => hhp k hk (fun e => hne (by rw [e]; rfl))⟩
    · have h5 := hp.2.2
      have e1 : d'.extract 0 L0.length = d' := by rw [← hds]; simp
      have e2 : L0.toArray.extract 0 L0.length = L0.toArray := by rw [← hdsz]; simp
      rw [e1, e2] at h5
      simpa using h5
    · rw [List.pairwise_iff_getElem]
      intro i j hi hj hij
      have hi' : i < d'.size := by simpa using hi
      have hj' : j < d'.size := by simpa using hj
      have h5 := hso i j (Nat.zero_le _) hij (by omega)
      rw [getElem!_pos d' i hi', getElem!_pos d' j hj'] at h5
      simpa using h5
    · have hj3 : j < L0.length * 3 := by have := (List.getElem?_eq_some_iff.1 hu).1; rw [flat_len, Array.length_toList, hds] at this; exact this
      have hd3 : j / 3 < d'.size := by omega
      have h5 := flat_get d'.toList (j / 3) (by simpa using hd3) (j % 3) (by omega)
      rw [show j / 3 * 3 + j % 3 = j by omega, hu] at h5
      have h6 := (hHg.cell (i := j / 3) (c := j % 3) hd3 (by omega)).1
      rw [show 0 + j / 3 * 3 + j % 3 = 0 + j by omega] at h6
      rw [h6]
      have h7 : d'[j / 3]! = d'.toList[j / 3]'(by simpa using hd3) := by rw [getElem!_pos d' (j / 3) hd3]; simp
      rw [h7]
      have hl : j % 3 < (trE (d'.toList[j / 3]'(by simpa using hd3))).length := by rw [trE_len]; omega
      rw [List.getElem?_eq_getElem hl] at h5
      rw [h5]
      exact congrArg some (getElem!_pos (trE (d'.toList[j / 3]'(by simpa using hd3))) (j % 3) hl)
  · have hSl := Sl.of_own hown (by decide)
    have hK : swapperK L0.length ie 25 = L0.length + 1 := by
      unfold swapperK
      have : L0.length = 0 ∨ L0.length = 1 := by omega
      rcases this with e | e <;> rw [e] <;> rfl
    obtain ⟨p, c, hv⟩ : ∃ p c, v = .slice p L0.length c := by
      rcases hown.2 with ⟨rfl, h0⟩ | ⟨g, cap, cur, rfl, _⟩
      · exact ⟨none, 0, by rw [h0]⟩
      · exact ⟨_, _, rfl⟩
    have hf : ∃ f, Tryz.prog.funcs.findIdx? (·.name == "internal/reflectlite" ++ ".Swapper$" ++ toString (swapperK L0.length ie 25)) = some f := by
      rw [hK]
      have : L0.length = 0 ∨ L0.length = 1 := by omega
      rcases this with e | e
      · rw [e]; exact ⟨55, by kernel_rfl⟩
      · rw [e]; exact ⟨56, by kernel_rfl⟩
    obtain ⟨f, hf⟩ := hf
    subst hv
    refine (Any.sort_Slice_tiny Tryz.laysGg6 24 30 i ie hi hd (by kernel_rfl) hie 25 hke p L0.length c (by omega) f hf (.func 24) #[] #[.pointer (some ⟨G, 0, none⟩)] w).mono ?_
    rintro e w' ⟨rfl, os, rfl⟩
    have hb : Below w.heap.size w (Go.Sort.grow w os) := ⟨rfl, rfl, rfl, by simp [Go.Sort.grow], fun k hk => Go.Sort.heap_grow_old _ _ hk⟩
    refine ⟨rfl, L0, List.Perm.refl _, ?_, hSl.below hb, hb.mono hbw, fun k hk _ => hb.block k hk⟩
    match L0, h2 with
    | [], _ => exact List.Pairwise.nil
    | [a], _ => simp
    | a :: b :: r, h => exact absurd (by simp) h
end Go.Proofs.YtihdfkcoajpmjaaGreatDoor
