/- lang.insert: a row of strings that grows in order. Conditions: where the row lies; fewer than 10^9 strings. -/
import Derived.Test.YtdolpehcfifecaaDoorMcq
import Derived.Laws.CopyOwn
import Derived.IntWalk
namespace Mh
open Go Go.RowKit
set_option linter.unusedVariables false
def lessB (a b : ByteArray) : Bool := Op.bytesLess a.toList b.toList
def insPos (l : List ByteArray) (s : ByteArray) : Nat := (l.takeWhile fun x => lessB x s).length
def insL (l : List ByteArray) (s : ByteArray) : List ByteArray := if l[insPos l s]? = some s then l else l.take (insPos l s) ++ s :: l.drop (insPos l s)
theorem ins_len (l : List ByteArray) (s : ByteArray) : l.length ≤ (insL l s).length ∧ (insL l s).length ≤ l.length + 1 := by
  unfold insL
  split
  · omega
  · simp only [List.length_append, List.length_cons, List.length_take, List.length_drop]
    omega
theorem insPos_eq {l : List ByteArray} {s : ByteArray} {k : Nat} (hk : k ≤ l.length) (h1 : ∀ i (h : i < l.length), i < k → lessB l[i] s = true) (h2 : ∀ h : k < l.length, lessB l[k] s = false) : insPos l s = k := by
  unfold insPos
  have e : l = l.take k ++ l.drop k := (List.take_append_drop k l).symm
  have ht : (l.take k).all (fun x => lessB x s) = true := by
    rw [List.all_eq_true]
    intro x hx
    obtain ⟨i, hi, rfl⟩ := List.mem_iff_getElem.1 hx
    rw [List.getElem_take]
    rw [List.length_take] at hi
    exact h1 i (by omega) (by omega)
  have hd : ∀ c, (l.drop k).head? = some c → lessB c s = false := by
    intro c hc
    by_cases hkl : k < l.length
    · rw [List.drop_eq_getElem_cons hkl] at hc
      simp only [List.head?_cons, Option.some.injEq] at hc
      subst hc
      exact h2 hkl
    · rw [List.drop_eq_nil_of_le (by omega)] at hc; cases hc
  conv => lhs; rw [e]
  rw [tw_app (fun x => lessB x s) _ _ ht hd, List.length_take]
  omega
/-- From w to wr only the row ov has turned; it is the row v with the strings l. -/
structure SAt (st : TypeId) (base : Nat) (w : World) (ov : Value) (l : List ByteArray) (wr : World) (v : Value) : Prop where
  own : wr.ownsRow base st 1 v l.length (l.map Value.string)
  grown : w.grownBy wr ov.ownBlock
  at_ : v.ownBlock = ov.ownBlock ∨ ∃ k, w.heap.size ≤ k ∧ v.ownBlock = some k
theorem SAt.refl {st : TypeId} {base : Nat} {w : World} {ov : Value} {l : List ByteArray} (h : w.ownsRow base st 1 ov l.length (l.map Value.string)) : SAt st base w ov l w ov := ⟨h, ⟨rfl, rfl, rfl, Nat.le_refl _, fun _ _ _ => rfl⟩, .inl rfl⟩
theorem SAt.below {st : TypeId} {base : Nat} {w wr w2 : World} {ov v : Value} {l : List ByteArray} (h : SAt st base w ov l wr v) (hb : Below wr.heap.size wr w2) : SAt st base w ov l w2 v :=
  ⟨mown_below h.own hb, h.grown.trans (grown_below hb _), h.at_⟩
theorem SAt.trans {st : TypeId} {base : Nat} {w w2 w3 : World} {ov v v' : Value} {l l' : List ByteArray} (h : SAt st base w ov l w2 v) (k : SAt st base w2 v l' w3 v') : SAt st base w ov l' w3 v' := by
  refine ⟨k.own, h.grown.andThen k.grown fun q hq => ?_, ?_⟩
  · rcases h.at_ with e | ⟨r, hr, e⟩
    · right; rw [← e]; exact hq
    · left; rw [e] at hq; cases hq; omega
  · rcases k.at_ with e | ⟨r, hr, e⟩
    · rw [e]; exact h.at_
    · have := h.grown.size; exact .inr ⟨r, by omega, e⟩
theorem SAt.first {st : TypeId} {base : Nat} {w w1 wr : World} {ov v : Value} {l : List ByteArray} (hb : Below w.heap.size w w1) (h : SAt st base w1 ov l wr v) : SAt st base w ov l wr v :=
  ⟨h.own, (grown_below hb _).trans h.grown, h.at_.imp id fun ⟨k, hk, e⟩ => ⟨k, Nat.le_trans hb.size hk, e⟩⟩
theorem SAt.low {st : TypeId} {W0 w wr : World} {ov v : Value} {l : List ByteArray} (h : SAt st W0.heap.size w ov l wr v) (hb : Below W0.heap.size W0 w) (hlt : ∀ k, ov.ownBlock = some k → W0.heap.size ≤ k) : Below W0.heap.size W0 wr :=
  hb.grown h.grown hb.size hlt
theorem SAt.block {st : TypeId} {base : Nat} {w wr : World} {ov v : Value} {l : List ByteArray} {q : Nat} {o : Obj} (h : SAt st base w ov l wr v) (hq : w.heap[q]? = some o) (hne : ov.ownBlock ≠ some q) : wr.heap[q]? = some o ∧ v.ownBlock ≠ some q := by
  have hlt : q < w.heap.size := (Array.getElem?_eq_some_iff.1 hq).1
  refine ⟨(h.grown.block q hlt (fun e => hne e.symm)).trans hq, fun e => ?_⟩
  rcases h.at_ with e' | ⟨k, hk, e'⟩
  · exact hne (e' ▸ e)
  · rw [e'] at e; cases e; omega
/-- The row behind the copy and the store. -/
theorem splice_ins {cur : List Value} {l : List ByteArray} {s e : ByteArray} {k : Nat} (hk : k ≤ l.length) (hcur : cur.take (l.length + 1) = (l ++ [e]).map Value.string) (hlen : l.length + 1 ≤ cur.length) :
    ((splice cur (k + 1) ((l.drop k).map Value.string)).set k (.string s)).take (l.length + 1) = (l.take k ++ s :: l.drop k).map Value.string := by
  have hcl : cur = (l ++ [e]).map Value.string ++ cur.drop (l.length + 1) := by rw [← hcur, List.take_append_drop]
  generalize cur.drop (l.length + 1) = r at hcl
  have hl1 : ((l.drop k).map Value.string).length = l.length - k := by simp
  unfold splice
  rw [hl1, show k + 1 + (l.length - k) = l.length + 1 by omega]
  have hd : cur.drop (l.length + 1) = r := by rw [hcl]; exact List.drop_left' (by simp)
  rw [hd]
  have ht : cur.take (k + 1) = ((l ++ [e]).map Value.string).take (k + 1) := by
    rw [hcl, List.take_append_of_le_length (by simp; omega)]
  rw [ht]
  apply List.ext_getElem?
  intro i
  have hmap : (l.take k ++ s :: l.drop k).map Value.string = (l.take k).map Value.string ++ Value.string s :: (l.drop k).map Value.string := by simp
  rw [hmap]
  have hlt : (((l ++ [e]).map Value.string).take (k + 1)).length = k + 1 := by simp; omega
  by_cases hi : i < l.length + 1
  · rw [List.getElem?_take, if_pos hi, List.getElem?_set]
    by_cases hik : k = i
    · subst hik
      rw [if_pos rfl, if_pos (by simp; omega), List.getElem?_append_right (by simp; omega)]
      simp [Nat.min_eq_left hk]
    · rw [if_neg hik]
      by_cases hlt2 : i < k
      · rw [List.getElem?_append_left (by rw [hlt]; omega), List.getElem?_append_left (by simp; omega)]
        rw [List.getElem?_take, if_pos (by omega), List.getElem?_map, List.getElem?_append_left (by omega), List.getElem?_map, List.getElem?_take, if_pos hlt2]
      · rw [List.getElem?_append_right (by rw [hlt]; omega), hlt, List.getElem?_append_left (by rw [hl1]; omega), List.getElem?_append_right (by simp; omega)]
        have e1 : i - ((l.take k).map Value.string).length = (i - (k + 1)) + 1 := by simp; omega
        rw [e1, List.getElem?_cons_succ]
  · rw [List.getElem?_take, if_neg hi, List.getElem?_eq_none]
    simp; omega
theorem sl_one {w : World} {q : Nat} {x : Value} {t : TypeId} {fr : Nat × Nat} (h : w.heap[q]? = some (.cells #[x] t fr)) : Sl 1 w (.slice (some ⟨q, 0, none⟩) 1 1) 1 [x] :=
  ⟨rfl, .inr ⟨q, 0, 1, rfl, by omega, by omega, by unfold maxLen; omega, (Array.getElem?_eq_some_iff.1 h).1, fun j u hu => by rw [Nat.zero_add, cell_of_row _ _ _ _ _ _ h, ← Array.getElem?_toList]; exact hu⟩⟩
theorem own_pos1 {w : World} {base e : Nat} {v : Value} {n : Nat} {xs : List Value} (h : w.ownsRow base e 1 v n xs) (hn : 0 < n) :
    ∃ (g cap : Nat) (cur : List Value), v = .slice (some ⟨g, 0, none⟩) n cap ∧ base ≤ g ∧ w.heap[g]? = some (.cells cur.toArray e (0, 0)) ∧ n ≤ cap ∧ cap ≤ maxLen ∧ cur.length = cap ∧ cur.take n = xs := by
  rcases h.2 with ⟨_, h0⟩ | ⟨g, cap, cur, rfl, hb, hg, h1, h2, h3, h4⟩
  · omega
  · exact ⟨g, cap, cur.toList, rfl, hb, by simpa using hg, h1, h2, by simpa using h3, by simpa using h4⟩
theorem step_copy_at {P : Program} {ops : Array Oper} {o : Oper} {a : Act} {w : World} {K : Act → World → Prop} {Q : Exit → Act → World → Prop} {E : Prop} (hgd : o.guard = none) (d s : Operand) (dT sT : TypeId)
    (ho : o.op = .call { callee := .builtin .copy, args := #[d, s], argTypes := #[dT, sT] }) (elem : TypeId) (hu : P.underlying dT = some (.slice elem)) (hsz : (P.info? elem).map (·.size) = some 1)
    (dp sp : Option Addr) (dLen dCap sLen sCap : Nat) (hd : a.eval d = .slice dp dLen dCap) (hs : a.eval s = .slice sp sLen sCap)
    (g off : Nat) (cur : List Value) (t : TypeId) (hg : w.heap[g]? = some (.cells cur.toArray t (0, 0))) (cs : List Value) (hn : cs.length = Nat.min sLen dLen)
    (hpos : 0 < cs.length → dp = some ⟨g, off, none⟩ ∧ ∃ ad, sp = some ad ∧ ∀ j v, cs[j]? = some v → w.cell? (ad.add j) = some v)
    (hfit : off + cs.length ≤ cur.length) (h1 : ∀ v ∈ cs, v.oneCell' = true)
    (h : ∀ w', RowKit.Hid (w'.heap[g]? = some (.cells (splice cur off cs).toArray t (0, 0))) → w.grownBy w' (some g) → K (a.put o.dst (goInt cs.length)) w') :
    if Region.wanted o (yielded ops a.tmps) = true then Oper.wp P o a w K Q else E := by
  have hw : Region.wanted o (yielded ops a.tmps) = true := by simp [Region.wanted, hgd]
  rw [if_pos hw]
  by_cases h0 : cs.length = 0
  · obtain rfl : cs = [] := List.eq_nil_of_length_eq_zero h0
    have hrun := run_copy_none (P := P) w dT sT o.type elem dp sp dLen dCap sLen sCap hu hsz (by simpa using hn.symm)
    unfold Oper.wp
    simp [execOp, ho, resolve, invoke, builtin, hd, hs, hrun, Result.andThen]
    exact h w (show _ = _ by simpa [splice] using hg) ⟨rfl, rfl, rfl, Nat.le_refl _, fun _ _ _ => rfl⟩
  · obtain ⟨rfl, ad, rfl, hsrc⟩ := hpos (by omega)
    have hrun := run_copy_row (P := P) w dT sT o.type elem g off dLen dCap ad sLen sCap cur.toArray t cs hu hsz hg hn hsrc (by simpa using hfit) h1
    unfold Oper.wp
    simp [execOp, ho, resolve, invoke, builtin, hd, hs, hrun, Result.andThen]
    exact h _ (show _ = _ by simpa [splice] using setRow_heap w g _ _ t _ hg) ⟨rfl, rfl, rfl, by simp [World.setRow], fun k _ hk => setRow_other w g k _ (fun e => hk (by rw [e]))⟩
theorem grown_undrew {w w' : World} {r : Option Nat} (h : w.drew.grownBy w' r) : w.grownBy w' r := ⟨h.os, h.tape, h.output, h.size, h.block⟩
theorem grown_set (w : World) (g i : Nat) (v : Value) : w.grownBy (w.setCell ⟨g, i, none⟩ v) (some g) :=
  ⟨rfl, rfl, rfl, by simp, fun k _ hk => heap_setCell_other _ _ _ _ (fun e => hk (by rw [e]))⟩
theorem ins_src {w3 : World} {l : List ByteArray} {g k : Nat} {cu : List Value} {t : TypeId} (hg3 : w3.heap[g]? = some (.cells cu.toArray t (0, 0))) (htk : cu.take (l.length + 1) = l.map Value.string ++ [.string ⟨#[]⟩]) :
    ∀ j v, ((l.drop k).map Value.string)[j]? = some v → w3.cell? ((⟨g, k, none⟩ : Addr).add j) = some v := by
  intro j v hj
  rw [List.getElem?_map] at hj
  obtain ⟨x, hx, rfl⟩ := Option.map_eq_some_iff.1 hj
  rw [List.getElem?_drop] at hx
  have hlt := (List.getElem?_eq_some_iff.1 hx).1
  rw [Addr.add_lit]
  refine cellT hg3 ?_
  have h1 : (cu.take (l.length + 1))[k + j]? = some (Value.string x) := by
    rw [htk, List.getElem?_append_left (by simpa using hlt), List.getElem?_map, hx]; rfl
  rw [List.getElem?_take, if_pos (by omega)] at h1
  simpa using h1
/-- The row behind append, copy and store. -/
theorem ins_done {st : TypeId} {base : Nat} {w w3 w4 : World} {ov : Value} {l : List ByteArray} {s : ByteArray} {k g cp : Nat} {cu : List Value} (hk : k ≤ l.length) (hpos : insPos l s = k) (hnf : l[k]? ≠ some s)
    (hg03 : w.grownBy w3 ov.ownBlock) (hat : some g = ov.ownBlock ∨ ∃ q, w.heap.size ≤ q ∧ some g = some q) (hbg : base ≤ g) (hn3 : l.length + 1 ≤ cp) (hm3 : cp ≤ maxLen) (hcs : cu.length = cp)
    (htk : cu.take (l.length + 1) = l.map Value.string ++ [.string ⟨#[]⟩]) (hg4 : w4.heap[g]? = some (.cells (splice cu (k + 1) ((l.drop k).map Value.string)).toArray st (0, 0))) (hgr : w3.grownBy w4 (some g)) :
    SAt st base w ov (insL l s) (w4.setCell ⟨g, k, none⟩ (.string s)) (.slice (some ⟨g, 0, none⟩) (l.length + 1) cp) := by
  have hi : insL l s = l.take k ++ s :: l.drop k := by unfold insL; rw [hpos, if_neg hnf]
  have hil : (insL l s).length = l.length + 1 := by rw [hi]; simp only [List.length_append, List.length_cons, List.length_take, List.length_drop]; omega
  have hsp := splice_ins (cur := cu) (l := l) (s := s) (e := ⟨#[]⟩) hk (by rw [htk]; simp) (by omega)
  have hlen : (splice cu (k + 1) ((l.drop k).map Value.string)).length = cp := by rw [length_splice _ _ _ (by simp; omega), hcs]
  refine ⟨⟨by simp, .inr ⟨g, cp, _, by rw [hil], hbg, heap_setCell_same _ _ k _ _ _ hg4, by rw [hil]; exact hn3, hm3, by rw [Array.size_setIfInBounds, List.size_toArray, hlen, Nat.mul_one], ?_⟩⟩, ?_, ?_⟩
  · rw [hil, Nat.mul_one, hi, ← hsp]
    simp
  · refine (hg03.andThen hgr fun q hq => ?_).andThen (grown_set _ _ _ _) fun q hq => ?_
    · cases hq
      rcases hat with e | ⟨q, h1, h2⟩
      · exact .inr e.symm
      · cases h2; exact .inl h1
    · cases hq
      rcases hat with e | ⟨q, h1, h2⟩
      · exact .inr e.symm
      · cases h2; exact .inl h1
  · rcases hat with e | ⟨q, h1, h2⟩
    · exact .inl e
    · exact .inr ⟨q, h1, h2⟩
end Mh
namespace Go.Proofs.YtdolpehcfifecaaDoor
open Go.RowKit Mh
set_option linter.unusedVariables false
theorem infoStr : (Tryd.prog.info? 9).map (fun i => (i.zero, i.size, i.bytes)) = some (some (.string ⟨#[]⟩), 1, 16) := by kernel_rfl
theorem sizeStr : (Tryd.prog.info? 9).map (·.size) = some 1 := by kernel_rfl
set_option maxRecDepth 100000 in
set_option maxHeartbeats 8000000 in
theorem ginsert_any (base : Nat) (l : List ByteArray) (s : ByteArray) (ov : Value) (w : World) (hb : base ≤ w.heap.size) (ho : w.ownsRow base 9 1 ov l.length (l.map Value.string)) (hl : l.length + 1 ≤ 1000000000) :
    Calls Tryd.prog 35 #[ov, .string s] w fun e w' => ∃ v', e = .returned v' ∧ SAt 9 base w ov (insL l s) w' v' := by
  obtain ⟨si, hsi, hs0, hs1, hs2⟩ := info_parts infoStr
  have H1 := Lib.hid (SAt.refl ho)
  obtain ⟨va, vc, hv, _, hcell⟩ := sl_cells (Sl.of_own ho (by decide))
  have HCELL : Hid (∀ i (h : i < l.length), ∃ b off, va = some ⟨b, off, none⟩ ∧ w.cell? ⟨b, off + i, none⟩ = some (.string l[i])) := fun i h => by
    obtain ⟨b, off, e, _, hc⟩ := hcell i h
    exact ⟨b, off, e, hc i _ (by rw [List.getElem?_map, List.getElem?_eq_getElem h]; rfl)⟩
  have HSZ := Lib.hid hb
  subst hv
  clear ho hcell hb
  go_enter Tryd.func35, Tryd.ntmps35
  go_wp2_with fail
  go_loop [5] (fun i => ∃ k : Nat, k ≤ l.length ∧ i = .int .i64 k ∧ Hid (∀ i (h : i < l.length), i < k → lessB l[i] s = true)) (fun i => l.length - (intOf i).toNat)
  case atStart => exact ⟨0, Nat.zero_le _, rfl, fun j h hj => by omega⟩
  case round =>
    obtain ⟨k, hk, rfl, HA⟩ := hrel
    have HT : ∀ (h : k ≤ l.length), True := fun _ => trivial
    clear HT
    by_cases hlt : k < l.length
    · obtain ⟨b, off, rfl, hc⟩ := HCELL.out k hlt
      obtain ⟨x, hx⟩ : ∃ x, x = l[k] := ⟨_, rfl⟩
      rw [← hx] at hc
      have HX := Lib.hid hx
      clear hx
      cases q : Op.bytesLess x.toList s.toList with
      | true =>
        have HST : Hid (∀ i (h : i < l.length), i < k + 1 → lessB l[i] s = true) := by
          intro i h hi
          by_cases e : i = k
          · subst e; rw [← HX.out]; exact q
          · exact HA.out i h (by omega)
        go_wp2_with fail
        go_round
        case rel => exact ⟨k + 1, by omega, by go_num, HST⟩
        case measure => simp [intOf]; omega
      | false =>
        have HPOS : Hid (insPos l s = k) := insPos_eq hk HA.out (fun h => by rw [← HX.out]; exact q)
        by_cases he : x = s
        · have q2 : (x.toList == s.toList) = true := by rw [he]; simp
          have HF : Hid (insL l s = l) := by
            show _ = _
            unfold insL
            rw [HPOS.out, if_pos]
            rw [List.getElem?_eq_getElem hlt, ← HX.out, he]
          clear he
          go_wp2_with fail
          go_ret
          exact ⟨_, rfl, by rw [HF.out]; exact H1.out⟩
        · have q2 : (x.toList == s.toList) = false := by
            rw [beq_eq_false_iff_ne]
            intro e
            apply he
            rw [ByteArray.toList_eq, ByteArray.toList_eq] at e
            exact ByteArray.ext (Array.toList_inj.1 e)
          have HNF : Hid (l[k]? ≠ some s) := by
            show _ ≠ _
            rw [List.getElem?_eq_getElem hlt, ← HX.out]
            intro e; cases e; exact he rfl
          clear he
          have HAL : Hid (Below w.heap.size w (w.alloc (.cells #[.string ⟨#[]⟩] 9))) := (Below.refl _ w).alloc (Nat.le_refl _) _
          have HSZ2 : Hid (base ≤ (w.alloc (.cells #[.string ⟨#[]⟩] 9)).heap.size) := by have := HSZ.out; show _ ≤ _; simp; omega
          go_upto_region 7 with (at_builtin; refine wpList_append_sl _ rfl _ _ 25 rfl base 9 si (.string ⟨#[]⟩) 1 16 Tryd.underlying25 hsi hs0 hs1 hs2 rfl (by decide) _ l.length _ rfl (mown_below H1.out.own HAL.out) (.slice (some ⟨w.heap.size, 0, none⟩) 1 1) 1 [.string ⟨#[]⟩] rfl (sl_one (heap_alloc_new w _)) (by simp [Value.oneCell']) (by unfold maxLen; omega) (by omega) HSZ2.out ?_; intro v3 w3 hown3 hgr3 hat3; obtain ⟨g, cp, cu, rfl, hbg, hg3, hn3, hm3, hcs3, htk3⟩ := own_pos1 hown3 (Nat.succ_pos _); have HA3 : Hid (w.grownBy w3 (Value.slice (some ⟨b, off, none⟩) l.length vc).ownBlock ∧ (some g = (Value.slice (some ⟨b, off, none⟩) l.length vc).ownBlock ∨ ∃ q, w.heap.size ≤ q ∧ some g = some q) ∧ base ≤ g ∧ l.length + 1 ≤ cp ∧ cp ≤ maxLen ∧ cu.length = cp ∧ cu.take (l.length + 1) = l.map Value.string ++ [.string ⟨#[]⟩]) := ⟨(grown_below HAL.out _).trans hgr3, hat3.imp id fun e => ⟨_, HAL.out.size, e⟩, hbg, hn3, hm3, hcs3, htk3⟩; have HG3 := Lib.hid hg3; have HFIT : Hid (k + 1 + ((l.drop k).map Value.string).length ≤ cu.length) := (by show _ ≤ _; simp; omega); have hkc : k + 1 ≤ cp := (by omega); have hSRC : Hid (∀ j v, ((l.drop k).map Value.string)[j]? = some v → w3.cell? ((⟨g, k, none⟩ : Addr).add j) = some v) := ins_src hg3 htk3; clear hown3 hgr3 hat3 hbg hg3 hm3 hcs3 htk3)
          obtain ⟨CS, hCS⟩ : ∃ CS, CS = (l.drop k).map Value.string := ⟨_, rfl⟩
          have HCL : Hid (CS.length = l.length - k) := by show _ = _; rw [hCS]; simp
          have HONE : Hid (∀ v ∈ CS, v.oneCell' = true) := by intro v hv; rw [hCS] at hv; obtain ⟨x, _, rfl⟩ := List.mem_map.1 hv; rfl
          have HCSE : Hid ((l.drop k).map Value.string = CS) := hCS.symm
          rw [HCSE.out] at HFIT hSRC
          have HMIN : Hid (CS.length = Nat.min (l.length + 1 - k) (l.length - k)) := by have := HCL.out; show _ = _; rw [this]; exact (Nat.min_eq_right (by omega)).symm
          clear hCS
          have hne1 : ¬ cp = k := by omega
          have hne2 : ¬ cp = k + 1 := by omega
          have i1 : IntKind.i64.wrap ((k : Int) + 1) = (k : Int) + 1 := IntWalk.i64_in _ (by omega)
          have i2 : (0 : Int) ≤ (k : Int) + 1 := by omega
          have i3 : ((k : Int) + 1).toNat = k + 1 := by omega
          have i4 : (k : Int) + 1 ≤ (l.length : Int) + 1 := by omega
          have i5 : (k : Int) ≤ (l.length : Int) + 1 := by omega
          go_region_law (refine step_copy_at rfl (.tmp 39) (.tmp 42) 25 25 rfl 9 Tryd.underlying25 sizeStr (some ⟨g, k + 1, none⟩) (some ⟨g, k, none⟩) (l.length - k) (cp - (k + 1)) (l.length + 1 - k) (cp - k) (by simp [Act.eval, Act.put]) (by simp [Act.eval, Act.put]) g (k + 1) cu 9 HG3.out CS HMIN.out (fun _ => ⟨rfl, _, rfl, hSRC.out⟩) HFIT.out HONE.out ?_; intro w4 hg4 hgr4)
          all_goals
            clear i1 i2 i3 i4 i5
            have HD := Lib.hid (ins_done hk HPOS.out HNF.out HA3.out.1 HA3.out.2.1 HA3.out.2.2.1 HA3.out.2.2.2.1 HA3.out.2.2.2.2.1 HA3.out.2.2.2.2.2.1 HA3.out.2.2.2.2.2.2 (by rw [HCSE.out]; exact hg4.out) (grown_undrew hgr4))
            have hsl : (splice cu (k + 1) CS).length = cp := by rw [length_splice _ _ _ HFIT.out]; exact HA3.out.2.2.2.2.2.1
            have hkk : k < (splice cu (k + 1) CS).length := by rw [hsl]; omega
            have g4 : w4.cell? ⟨g, k, none⟩ = some ((splice cu (k + 1) CS)[k]'hkk) := cellT hg4.out (by simp [hkk])
            have f4 : w4.frozen? ⟨g, k, none⟩ = false := frozenT hg4.out
            generalize (splice cu (k + 1) CS)[k]'hkk = old at g4
            have j1 : (k : Int) < (l.length : Int) + 1 := by omega
            clear hsl hkk hg4 hgr4 hne1
            try generalize (if cp = k + 1 then (some ⟨g, 0, none⟩ : Option Addr) else some ⟨g, k + 1, none⟩) = dpv
            go_wp2_with fail
            go_ret
            first | exact ⟨_, rfl, HD.out⟩ | (rename_i hcp; exact ⟨_, rfl, hcp ▸ HD.out⟩) | (rename_i hcp _; exact ⟨_, rfl, hcp ▸ HD.out⟩) | (rename_i hcp _ _; exact ⟨_, rfl, hcp ▸ HD.out⟩)
    · have hke : k = l.length := by omega
      have HPOS : Hid (insPos l s = k) := insPos_eq hk HA.out (fun h => absurd h hlt)
      have HNF : Hid (l[k]? ≠ some s) := by show _ ≠ _; rw [List.getElem?_eq_none (by omega)]; simp
      have hd1 : decide ((k : Int) < (l.length : Int)) = false := decide_eq_false (by omega)
      have hd2 : decide (k < l.length) = false := decide_eq_false hlt
      have HKE := Lib.hid hke
      clear hke hlt
      have HAL : Hid (Below w.heap.size w (w.alloc (.cells #[.string ⟨#[]⟩] 9))) := (Below.refl _ w).alloc (Nat.le_refl _) _
      have HSZ2 : Hid (base ≤ (w.alloc (.cells #[.string ⟨#[]⟩] 9)).heap.size) := by have := HSZ.out; show _ ≤ _; simp; omega
      go_upto_region 7 with (at_builtin; refine wpList_append_sl _ rfl _ _ 25 rfl base 9 si (.string ⟨#[]⟩) 1 16 Tryd.underlying25 hsi hs0 hs1 hs2 rfl (by decide) _ l.length _ rfl (mown_below H1.out.own HAL.out) (.slice (some ⟨w.heap.size, 0, none⟩) 1 1) 1 [.string ⟨#[]⟩] rfl (sl_one (heap_alloc_new w _)) (by simp [Value.oneCell']) (by unfold maxLen; omega) (by omega) HSZ2.out ?_; intro v3 w3 hown3 hgr3 hat3; obtain ⟨g, cp, cu, rfl, hbg, hg3, hn3, hm3, hcs3, htk3⟩ := own_pos1 hown3 (Nat.succ_pos _); have HA3 : Hid (w.grownBy w3 (Value.slice va l.length vc).ownBlock ∧ (some g = (Value.slice va l.length vc).ownBlock ∨ ∃ q, w.heap.size ≤ q ∧ some g = some q) ∧ base ≤ g ∧ l.length + 1 ≤ cp ∧ cp ≤ maxLen ∧ cu.length = cp ∧ cu.take (l.length + 1) = l.map Value.string ++ [.string ⟨#[]⟩]) := ⟨(grown_below HAL.out _).trans hgr3, hat3.imp id fun e => ⟨_, HAL.out.size, e⟩, hbg, hn3, hm3, hcs3, htk3⟩; have HG3 := Lib.hid hg3; have HFIT : Hid (k + 1 + ((l.drop k).map Value.string).length ≤ cu.length) := (by show _ ≤ _; simp; omega); have hkc : k + 1 ≤ cp := (by omega); have hSRC : Hid (∀ j v, ((l.drop k).map Value.string)[j]? = some v → w3.cell? ((⟨g, k, none⟩ : Addr).add j) = some v) := ins_src hg3 htk3; clear hown3 hgr3 hat3 hbg hg3 hm3 hcs3 htk3)
      obtain ⟨CS, hCS⟩ : ∃ CS, CS = (l.drop k).map Value.string := ⟨_, rfl⟩
      have HCL : Hid (CS.length = l.length - k) := by show _ = _; rw [hCS]; simp
      have HONE : Hid (∀ v ∈ CS, v.oneCell' = true) := by intro v hv; rw [hCS] at hv; obtain ⟨x, _, rfl⟩ := List.mem_map.1 hv; rfl
      have HCSE : Hid ((l.drop k).map Value.string = CS) := hCS.symm
      rw [HCSE.out] at HFIT hSRC
      have HMIN : Hid (CS.length = Nat.min (l.length + 1 - k) (l.length - k)) := by have := HCL.out; show _ = _; rw [this]; exact (Nat.min_eq_right (by omega)).symm
      clear hCS
      have hne1 : ¬ cp = k := by omega
      have HC0 : Hid (CS.length = 0) := by have := HCL.out; have := HKE.out; show _ = _; omega
      have i1 : IntKind.i64.wrap ((k : Int) + 1) = (k : Int) + 1 := IntWalk.i64_in _ (by omega)
      have i2 : (0 : Int) ≤ (k : Int) + 1 := by omega
      have i3 : ((k : Int) + 1).toNat = k + 1 := by omega
      have i4 : (k : Int) + 1 ≤ (l.length : Int) + 1 := by omega
      have i5 : (k : Int) ≤ (l.length : Int) + 1 := by omega
      go_region_law (refine step_copy_at rfl (.tmp 39) (.tmp 42) 25 25 rfl 9 Tryd.underlying25 sizeStr (if cp = k + 1 then some ⟨g, 0, none⟩ else some ⟨g, k + 1, none⟩) (some ⟨g, k, none⟩) (l.length - k) (cp - (k + 1)) (l.length + 1 - k) (cp - k) (by simp [Act.eval, Act.put]) (by simp [Act.eval, Act.put]) g (k + 1) cu 9 HG3.out CS HMIN.out (fun h => absurd (HC0.out ▸ h) (Nat.lt_irrefl 0)) HFIT.out HONE.out ?_; intro w4 hg4 hgr4)
      all_goals
        clear i1 i2 i3 i4 i5
        have HD := Lib.hid (ins_done hk HPOS.out HNF.out HA3.out.1 HA3.out.2.1 HA3.out.2.2.1 HA3.out.2.2.2.1 HA3.out.2.2.2.2.1 HA3.out.2.2.2.2.2.1 HA3.out.2.2.2.2.2.2 (by rw [HCSE.out]; exact hg4.out) (grown_undrew hgr4))
        have hsl : (splice cu (k + 1) CS).length = cp := by rw [length_splice _ _ _ HFIT.out]; exact HA3.out.2.2.2.2.2.1
        have hkk : k < (splice cu (k + 1) CS).length := by rw [hsl]; omega
        have g4 : w4.cell? ⟨g, k, none⟩ = some ((splice cu (k + 1) CS)[k]'hkk) := cellT hg4.out (by simp [hkk])
        have f4 : w4.frozen? ⟨g, k, none⟩ = false := frozenT hg4.out
        generalize (splice cu (k + 1) CS)[k]'hkk = old at g4
        have j1 : (k : Int) < (l.length : Int) + 1 := by omega
        clear hsl hkk hg4 hgr4 hne1
        try generalize (if cp = k + 1 then (some ⟨g, 0, none⟩ : Option Addr) else some ⟨g, k + 1, none⟩) = dpv
        go_wp2_with fail
        go_ret
        first | exact ⟨_, rfl, HD.out⟩ | (rename_i hcp; exact ⟨_, rfl, hcp ▸ HD.out⟩) | (rename_i hcp _; exact ⟨_, rfl, hcp ▸ HD.out⟩) | (rename_i hcp _ _; exact ⟨_, rfl, hcp ▸ HD.out⟩)
end Go.Proofs.YtdolpehcfifecaaDoor
