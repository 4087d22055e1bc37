/- Rows of tokens; asset.plain, among, needed. Conditions: where the tokens lie; how many there are. -/
import Derived.Test.YtckinhebbhflgaaTkD
import Derived.Test.YtckinhebbhflgaaSl
import Derived.Maps.AppendAt
namespace Go.Proofs.Ytckinhebbhflgaa
open Go.RowKit Mh
set_option linter.unusedVariables false

theorem flat_get {α : Type} (f : α → List Value) (n : Nat) (hn : ∀ x, (f x).length = n) : ∀ (l : List α) (i : Nat) (h : i < l.length) (j : Nat), j < n → (l.flatMap f)[i * n + j]? = (f l[i])[j]?
  | [], i, h, _, _ => by simp at h
  | x :: l, i, h, j, hj => by
    rw [List.flatMap_cons]
    cases i with
    | zero => rw [List.getElem?_append_left (by rw [hn]; omega), Nat.zero_mul, Nat.zero_add]; rfl
    | succ i =>
      rw [List.getElem?_append_right (by rw [hn, Nat.succ_mul]; omega), hn, show (i + 1) * n + j - n = i * n + j by rw [Nat.succ_mul]; omega]
      exact flat_get f n hn l i (by simpa using h) j hj
theorem flat_len {α : Type} (f : α → List Value) (n : Nat) (hn : ∀ x, (f x).length = n) : ∀ l : List α, (l.flatMap f).length = l.length * n
  | [] => by simp
  | x :: l => by rw [List.flatMap_cons, List.length_append, hn, flat_len f n hn l, List.length_cons, Nat.succ_mul]; omega
def rowT (t : Tk) : List Value := [.int .i64 t.kind, .string ⟨t.text.toArray⟩]
def rowsT (l : List Tk) : List Value := l.flatMap rowT
theorem rowsT_snoc (l : List Tk) (t : Tk) : rowsT (l ++ [t]) = rowsT l ++ rowT t := by simp [rowsT]
/-- A slice's word and where its row lies. -/
theorem sl_shape {k : Nat} {w : World} {v : Value} {n : Nat} {xs : List Value} (h : Sl k w v n xs) :
    ∃ ao c, v = .slice ao n c ∧ (0 < n → ∃ b off, ao = some ⟨b, off, none⟩ ∧ n ≤ c ∧ c ≤ maxLen ∧ b < w.heap.size ∧ ∀ i u, xs[i]? = some u → w.cell? ⟨b, off + i, none⟩ = some u) := by
  rcases h.2 with ⟨rfl, a, c, rfl⟩ | ⟨b, off, c, rfl, h1, h2, h3, h4, h5⟩
  · exact ⟨a, c, rfl, fun h => absurd h (Nat.lt_irrefl _)⟩
  · exact ⟨_, c, rfl, fun _ => ⟨b, off, rfl, h2, h3, h4, h5⟩⟩
theorem tok_at {w : World} {v : Value} {l : List Tk} (h : Sl 2 w v l.length (rowsT l)) : ∃ ao c, v = .slice ao l.length c ∧ ∀ k (h : k < l.length), ∃ b off, ao = some ⟨b, off, none⟩ ∧ b < w.heap.size ∧
    w.cell? ⟨b, off + k * 2, none⟩ = some (.int .i64 l[k].kind) ∧ w.cell? ⟨b, off + k * 2 + 1, none⟩ = some (.string ⟨l[k].text.toArray⟩) := by
  obtain ⟨ao, c, rfl, hs⟩ := sl_shape h
  refine ⟨ao, c, rfl, fun k hk => ?_⟩
  obtain ⟨b, off, rfl, _, _, hlt, hc⟩ := hs (by omega)
  refine ⟨b, off, rfl, hlt, hc _ _ ?_, ?_⟩
  · have := flat_get rowT 2 (fun _ => rfl) l k hk 0 (by omega)
    rw [Nat.add_zero] at this
    exact this
  · rw [Nat.add_assoc]; exact hc _ _ (flat_get rowT 2 (fun _ => rfl) l k hk 1 (by omega))
theorem pl_at {w : World} {v : Value} {P : List PT} (h : Sl 4 w v P.length (rowsP P)) : ∃ ao c, v = .slice ao P.length c ∧ ∀ k (h : k < P.length), ∃ b off, ao = some ⟨b, off, none⟩ ∧ b < w.heap.size ∧
    w.cell? ⟨b, off + k * 4, none⟩ = some (.int .i64 P[k].1.kind) ∧ w.cell? ⟨b, off + k * 4 + 1, none⟩ = some (.string ⟨P[k].1.text.toArray⟩) ∧ w.cell? ⟨b, off + k * 4 + 2, none⟩ = some (.int .i64 P[k].2.1) ∧ w.cell? ⟨b, off + k * 4 + 3, none⟩ = some (.int .i64 P[k].2.2) := by
  obtain ⟨ao, c, rfl, hs⟩ := sl_shape h
  refine ⟨ao, c, rfl, fun k hk => ?_⟩
  obtain ⟨b, off, rfl, _, _, hlt, hc⟩ := hs (by omega)
  refine ⟨b, off, rfl, hlt, hc _ _ ?_, ?_, ?_, ?_⟩
  · have := flat_get rowP 4 (fun _ => rfl) P k hk 0 (by omega)
    rw [Nat.add_zero] at this
    exact this
  · rw [Nat.add_assoc]; exact hc _ _ (flat_get rowP 4 (fun _ => rfl) P k hk 1 (by omega))
  · rw [Nat.add_assoc]; exact hc _ _ (flat_get rowP 4 (fun _ => rfl) P k hk 2 (by omega))
  · rw [Nat.add_assoc]; exact hc _ _ (flat_get rowP 4 (fun _ => rfl) P k hk 3 (by omega))
theorem infoToken : (Try.prog.info? 33).map (fun i => (i.zero, i.size, i.bytes)) = some (some (.agg #[.int .i64 0, .string ⟨#[]⟩]), 2, 24) := by kernel_rfl
theorem info_token : ∃ i0, Try.prog.info? 33 = some i0 ∧ i0.zero = some (.agg #[.int .i64 0, .string ⟨#[]⟩]) ∧ i0.size = 2 ∧ i0.bytes = 24 := by
  have h := infoToken
  cases e : Try.prog.info? 33 with
  | none => rw [e] at h; cases h
  | some i0 =>
    rw [e] at h
    simp only [Option.map_some, Option.some.injEq, Prod.mk.injEq] at h
    exact ⟨i0, rfl, h⟩
theorem two_cells (w : World) (x0 x1 : Value) (t : TypeId) : ∀ j u, [x0, x1][j]? = some u → (w.alloc (.cells #[x0, x1] t)).cell? ((⟨w.heap.size, 0, none⟩ : Addr).add j) = some u := by
  intro j u hj
  rw [Addr.add_lit, cell_of_row _ _ _ _ _ _ (heap_alloc_new w _)]
  simpa using hj
/-- An append that grows only what lies from B on. -/
theorem below_grown {B : Nat} {w w' : World} {v : Value} {e k n : Nat} {xs : List Value} (hown : w.ownsRow B e k v n xs) (hg : w.grownBy w' v.ownBlock) (hB : B ≤ w.heap.size) : Below B w w' :=
  ⟨hg.os, hg.tape, hg.output, hg.size, fun i hi => hg.block i (by omega) (fun e => by
    rcases hown.2 with ⟨rfl, _⟩ | ⟨g, cap, cur, rfl, hbg, _⟩
    · cases e
    · simp only [Value.ownBlock, Option.some.injEq] at e; omega)⟩

set_option maxRecDepth 100000 in
set_option maxHeartbeats 4000000 in
theorem plain_any (P : List PT) (v : Value) (w : World) (h : Sl 4 w v P.length (rowsP P)) (hP : P.length ≤ 1000000) :
    Calls Try.prog 14 #[v] w fun e w' => ∃ v', e = .returned v' ∧ w'.ownsRow w.heap.size 33 2 v' P.length (rowsT (P.map (·.1))) ∧ Below w.heap.size w w' := by
  obtain ⟨i0, hi, iz0, iz1, iz2⟩ := info_token
  obtain ⟨ao, c, rfl, hk⟩ := pl_at h
  have HK := Lib.hid hk
  clear h hk
  go_enter Try.func14, Try.ntmps14
  go_wp2_with fail
  go_loopw [3, 8] (fun x i wr => ∃ k : Nat, k ≤ P.length ∧ i = .int .i64 k ∧ wr.ownsRow w.heap.size 33 2 x k (rowsT ((P.take k).map (·.1))) ∧ Hid (Below w.heap.size w wr)) (fun _ i _ => P.length - (intOf i).toNat)
  case atStart => exact ⟨0, Nat.zero_le _, rfl, World.ownsRow_nil _ _ _ _, Below.refl _ _⟩
  case round =>
    obtain ⟨k, hk, rfl, hown, HB⟩ := hrel
    have hzr := HB.out.size
    obtain ⟨xo, xc, rfl⟩ := ownsRow_form hown
    by_cases hkl : k < P.length
    · obtain ⟨b, off, rfl, hlt, c0, c1, c2, c3⟩ := HK.out k hkl
      have d0 := (HB.out.cell (p := ⟨b, off + k * 4, none⟩) hlt).trans c0
      have d1 := (HB.out.cell (p := ⟨b, off + k * 4 + 1, none⟩) hlt).trans c1
      have d2 := (HB.out.cell (p := ⟨b, off + k * 4 + 2, none⟩) hlt).trans c2
      have d3 := (HB.out.cell (p := ⟨b, off + k * 4 + 3, none⟩) hlt).trans c3
      have HT : Hid (rowsT ((P.take k).map (·.1)) ++ [.int .i64 P[k].1.kind, .string ⟨P[k].1.text.toArray⟩] = rowsT ((P.take (k + 1)).map (·.1))) := by
        show _ = _
        rw [List.take_succ_eq_append_getElem hkl, List.map_append, List.map_cons, List.map_nil, rowsT_snoc]
        rfl
      obtain ⟨K, hK⟩ : ∃ K, K = P[k].1.kind := ⟨_, rfl⟩
      obtain ⟨S, hS⟩ : ∃ S : ByteArray, S = ⟨P[k].1.text.toArray⟩ := ⟨_, rfl⟩
      rw [← hK] at d0 HT
      rw [← hS] at d1 HT
      clear c0 c1 c2 c3 hK hS
      have HOW := Lib.hid ((hown.alloc (.cells #[.int .i64 K, .string S, .int .i64 P[k].2.1, .int .i64 P[k].2.2] 72)).alloc (.cells #[.int .i64 K, .string S] 33))
      have HB1 : Hid (Below w.heap.size w ((wr.alloc (.cells #[.int .i64 K, .string S, .int .i64 P[k].2.1, .int .i64 P[k].2.2] 72)).alloc (.cells #[.int .i64 K, .string S] 33))) := (HB.out.alloc hzr _).alloc (by simp; omega) _
      clear hown
      go_wp2_with (at_builtin; go_loud (refine wpList_append_own_at _ rfl _ _ 27 rfl w.heap.size 33 i0 (.agg #[.int .i64 0, .string ⟨#[]⟩]) 2 24 Try.underlying27 hi iz0 iz1 iz2 rfl (by decide) _ _ _ rfl HOW.out ⟨wr.heap.size + 1, 0, none⟩ 1 1 [.int .i64 K, .string S] rfl rfl (by have := two_cells (wr.alloc (.cells #[.int .i64 K, .string S, .int .i64 P[k].2.1, .int .i64 P[k].2.2] 72)) (.int .i64 K) (.string S) 33; rw [World.size_alloc] at this; exact this) (by simp [Value.oneCell']) (by unfold maxLen; omega) (by omega) (by simp; omega) ?_); intro v' w' hown' hgr hnil hat)
      rw [HT.out] at hown'
      have HB2 : Hid (Below w.heap.size w w') := HB1.out.trans (below_grown HOW.out hgr HB1.out.size)
      go_roundw
      case rel => exact ⟨k + 1, by omega, by go_num, hown', HB2⟩
      case measure => simp [intOf]; omega
    · obtain rfl : k = P.length := by omega
      rw [List.take_length] at hown
      go_wp2_with fail
      go_ret
      exact ⟨_, rfl, hown, HB.out⟩
theorem among_any (k : Int) (S ms : ByteArray) (w : World) : Calls Try.prog 38 #[.agg #[.int .i64 k, .string S], .string ms] w fun e w' => e = .returned (.bool (am ⟨k, S.data.toList⟩ ms.data.toList)) ∧ Below w.heap.size w w' := by
  have HB : Hid (Below w.heap.size w (w.alloc (.cells #[.int .i64 k, .string S] 33))) := (Below.refl _ w).alloc (Nat.le_refl _) _
  have hl : S.data.toList.length = S.size := by simp
  by_cases hk : k = 3
  · subst hk
    by_cases h1 : S.size = 1
    · obtain ⟨c, hc⟩ : ∃ c, S.data.toList = [c] := by
        rw [h1] at hl
        match hh : S.data.toList, hl with
        | [c], _ => exact ⟨c, rfl⟩
      obtain rfl : S = ⟨#[c]⟩ := bx hc
      have HC := Lib.hid (fun w' => Try.strings_Contains_one ms c w')
      have HX : Hid (am ⟨3, (⟨#[c]⟩ : ByteArray).data.toList⟩ ms.data.toList = decide (0 ≤ Lib.indexByte ms.data.toList c)) := by
        show _ = _
        rw [idx_contains]
        rfl
      generalize am ⟨3, (⟨#[c]⟩ : ByteArray).data.toList⟩ ms.data.toList = X at *
      clear hc h1 hl
      go_enter Try.func38, Try.ntmps38
      go_wp2_with (go_at_call 44; refine (HC.out _).mono ?_; rintro e w' ⟨rfl, rfl⟩)
      go_ret
      exact ⟨by rw [HX.out]; rfl, HB.out⟩
    · have q : ((S.size : Int) == 1) = false := beq_eq_false_iff_ne.2 (by omega)
      have HX : Hid (am ⟨3, S.data.toList⟩ ms.data.toList = false) := by
        show _ = _
        unfold am
        split
        · rename_i c e
          exfalso
          have e : S.data.toList = [c] := e
          rw [e] at hl
          simp at hl
          omega
        · simp
      generalize am ⟨3, S.data.toList⟩ ms.data.toList = X at *
      clear hl
      go_enter Try.func38, Try.ntmps38
      go_wp2_with fail
      go_ret
      exact ⟨by rw [HX.out]; rfl, HB.out⟩
  · have q : (k == 3) = false := beq_eq_false_iff_ne.2 hk
    have HX : Hid (am ⟨k, S.data.toList⟩ ms.data.toList = false) := by
      show _ = _
      unfold am
      simp [hk]
    generalize am ⟨k, S.data.toList⟩ ms.data.toList = X at *
    clear hl hk
    go_enter Try.func38, Try.ntmps38
    go_wp2_with fail
    go_ret
    exact ⟨by rw [HX.out]; rfl, HB.out⟩
end Go.Proofs.Ytckinhebbhflgaa
