/- (*parser).entries, the parts: a table that grows by new keys; what stands in its loop. -/
import Derived.Test.YtejnoedlfbglcaaGreatDoorPsL
import Derived.Test.YtejnoedlfbglcaaGreatDoorKeX
namespace Mh
open Go Go.RowKit
set_option linter.unusedVariables false

theorem asc_put {k : ByteArray} {ks : List ByteArray} (h : Asc ks) (hh : hit k ks = false) : Asc (ks.take (low k ks) ++ k :: ks.drop (low k ks)) := by
  obtain ⟨h1, h2⟩ := low_split k ks h
  have hp : Asc (ks.take (low k ks) ++ ks.drop (low k ks)) := by rw [List.take_append_drop]; exact h
  obtain ⟨p1, p2, p3⟩ := List.pairwise_append.1 hp
  have hd : ∀ x ∈ ks.drop (low k ks), kl k x = true := by
    intro x hx
    have hxk := h2 x hx
    by_cases hk : kl k x = true
    · exact hk
    · exfalso
      have e : x = k := kl_total hxk (by simpa using hk)
      subst e
      cases hds : ks.drop (low x ks) with
      | nil => rw [hds] at hx; simp at hx
      | cons a l =>
        have ha : ks[low x ks]? = some a := by
          have := congrArg List.head? hds
          rw [List.head?_drop] at this
          exact this
        rw [hds] at hx
        rcases List.mem_cons.1 hx with rfl | hx
        · unfold hit at hh
          rw [ha] at hh
          simp at hh
        · rw [hds] at p2
          have hax := (List.pairwise_cons.1 p2).1 x hx
          have := h2 a (by rw [hds]; simp)
          rw [hax] at this; cases this
  refine List.pairwise_append.2 ⟨p1, List.pairwise_cons.2 ⟨hd, p2⟩, fun a ha b hb => ?_⟩
  rcases List.mem_cons.1 hb with rfl | hb
  · exact h1 a ha
  · exact p3 a ha b hb
theorem key_len {w : List UInt8} (h : isKeyL w = true) : w.length ≤ 40 := (key_facts h).2.1
/-- What a table that is read keeps. -/
structure TbP (t : V) (n : Nat) : Prop where
  asc : Asc t.kys
  len : t.kys.length = t.its.length
  le : t.its.length ≤ n
  kd : t.kd = 6
  keys : ∀ k ∈ t.kys, k.size ≤ 40
theorem TbP.top {t : V} {n : Nat} (h : TbP t n) (hn : n ≤ 3999) : t.top := ⟨h.asc, fun _ => h.len, ⟨by have := h.le; omega, by have := h.le; have := h.len; omega⟩, h.keys⟩
theorem TbP.put {t : V} {n m : Nat} (h : TbP t n) {k : ByteArray} (x : V) (hh : hit k t.kys = false) (hk : k.size ≤ 40) (hm : n + 1 ≤ m) : TbP (putV t k x) m := by
  have hl := low_le k t.kys
  have hpa : putAt k t.kys = low k t.kys := by unfold putAt; rw [hh]; simp
  have hle := h.le
  have hln := h.len
  have e1 : (putV t k x).kys = t.kys.take (low k t.kys) ++ k :: t.kys.drop (low k t.kys) := by unfold putV; rw [hpa]; rfl
  have e2 : (putV t k x).its = t.its.take (low k t.kys) ++ x :: t.its.drop (low k t.kys) := by unfold putV; rw [hpa]; rfl
  refine ⟨by rw [e1]; exact asc_put h.asc hh, ?_, ?_, rfl, ?_⟩
  · rw [e1, e2]; simp only [List.length_append, List.length_cons, List.length_take, List.length_drop]; omega
  · rw [e2]; simp only [List.length_append, List.length_cons, List.length_take, List.length_drop]; omega
  · rw [e1]
    intro q hq
    rcases List.mem_append.1 hq with hq | hq
    · exact h.keys q (List.mem_of_mem_take hq)
    · rcases List.mem_cons.1 hq with rfl | hq
      · exact hk
      · exact h.keys q (List.mem_of_mem_drop hq)
theorem TbP.nil (n : Nat) : TbP (.mk 6 false 0 ⟨#[]⟩ [] []) n := ⟨List.Pairwise.nil, rfl, Nat.zero_le _, rfl, by simp [V.kys]⟩
theorem TbP.more {t : V} {n m : Nat} (h : TbP t n) (hm : n ≤ m) : TbP t m := ⟨h.asc, h.len, Nat.le_trans h.le hm, h.kd, h.keys⟩
end Mh
namespace Go.Proofs.YtejnoedlfbglcaaGreatDoor
open Go.RowKit Mh
set_option linter.unusedVariables false
/-- Where entries' loop stands. -/
def EnSt (d : Nat) (brace : Bool) (s : ByteArray) (o : Option (V × List UInt8 × Nat)) (q : Ps) (t : V) : Prop :=
  (q.e ≠ 0 ∧ o = none ∧ 0 ≤ q.at_ ∧ q.at_ ≤ s.size) ∨
  (q.e = 0 ∧ ∃ (tok : Tk) (n k : Nat), TkOf s q tok ∧ q.i ≤ s.size ∧ q.vs = (k : Int) ∧ k ≤ 1000 ∧ s.size - q.i + 1 ≤ n ∧ o = entriesF (valueF d) brace n tok (s.data.toList.drop q.i) k t)
/-- Where the passing of line ends stands. -/
def SkSt (s : ByteArray) (so : Option (Tk × List UInt8)) (k : Nat) (i0 : Nat) (q : Ps) : Prop :=
  (q.e ≠ 0 ∧ so = none ∧ 0 ≤ q.at_ ∧ q.at_ ≤ s.size) ∨
  (q.e = 0 ∧ ∃ (tok : Tk) (m : Nat), TkOf s q tok ∧ (i0 ≤ q.i ∧ q.i ≤ s.size) ∧ q.vs = (k : Int) ∧ ((1 ≤ m ∧ tok = .fin) ∨ s.size - q.i + 2 ≤ m) ∧ so = skipF m tok (s.data.toList.drop q.i))
theorem SkSt.next {s : ByteArray} {so : Option (Tk × List UInt8)} {k i0 : Nat} {q q' : Ps} {tok : Tk} {m : Nat} (h : Scan s q q' (nextF false false (s.data.toList.drop q.i))) (hi : i0 ≤ q.i) (hq : q.i ≤ s.size) (hvs : q.vs = (k : Int)) (hl : tok.line = true) (hm : s.size - q.i + 2 ≤ m) (ho : so = skipF m tok (s.data.toList.drop q.i)) : SkSt s so k i0 q' := by
  obtain ⟨m, rfl⟩ : ∃ j, m = j + 1 := ⟨m - 1, by omega⟩
  unfold skipF at ho
  rw [if_pos hl] at ho
  cases hn : nextF false false (s.data.toList.drop q.i) with
  | none =>
    rw [hn] at ho
    obtain ⟨h1, h2, h3, h4⟩ := h.bad hn
    exact .inl ⟨h1, ho, h3, h4⟩
  | some p =>
    obtain ⟨t, r⟩ := p
    rw [hn] at ho
    obtain ⟨h1, h2, h3, h4, h5⟩ := h.ok (by rw [drop_len]; omega) hn
    have hll := nextF_len false _ false t r hn
    rw [← h5, drop_len, drop_len] at hll
    refine .inr ⟨h1, t, m, h4, ⟨by omega, h3⟩, h2.trans hvs, ?_, by rw [h5]; exact ho⟩
    by_cases hf : t = .fin
    · exact .inl ⟨by omega, hf⟩
    · have := hll.2 hf
      exact .inr (by omega)
/-- What stands in memory in entries' loop. -/
structure EnIn (Q T : Nat) (s : ByteArray) (w wr : World) (q : Ps) (t : V) (ia : Option Addr) (ic : Nat) (ka : Option Addr) (kc : Nat) : Prop where
  p : PsAt Q T s q wr
  kept : Kept [Q] w wr
  b0 : wr.heap[w.heap.size]? = some box0
  bx : wr.heap[w.heap.size + 1]? = some (box6 t ia ic ka kc)
  at_ : VAt (veil (lowS w 2) wr) t (vcs t ia ic ka kc)
  size : w.heap.size + 2 ≤ wr.heap.size
theorem EnIn.on {Q T : Nat} {s : ByteArray} {w wr w2 : World} {q q' : Ps} {t : V} {ia ka : Option Addr} {ic kc : Nat} (h : EnIn Q T s w wr q t ia ic ka kc) (hQ : Q < w.heap.size) (hp : PsAt Q T s q' w2) (hk : Kept [Q] wr w2) : EnIn Q T s w w2 q' t ia ic ka kc := by
  have hz := h.size
  have hn : ∀ k, w.heap.size ≤ k → k ∉ [Q] := fun k hk hm => by simp at hm; omega
  exact ⟨hp, h.kept.trans hk, (hk.block _ (by omega) (hn _ (by omega))).trans h.b0, (hk.block _ (by omega) (hn _ (by omega))).trans h.bx, h.at_.keeps (Keeps.kept hk fun b hb => by simp at hb; subst hb; simp [lowS]; omega), Nat.le_trans hz hk.size⟩
/-- An entry more: what put has given goes into the box. -/
theorem EnIn.more {Q T : Nat} {s : ByteArray} {w wr w2 : World} {q : Ps} {t Y : V} {ia ka ya yk : Option Addr} {ic kc yc ykc : Nat} (h : EnIn Q T s w wr q t ia ic ka kc) (hQ : Q < w.heap.size) (hb : Below wr.heap.size wr w2) (hY : VAt (veil (lowS w 2) w2) Y (vcs Y ya yc yk ykc)) :
    EnIn Q T s w (put6 w2 (w.heap.size + 1) (.int .i64 Y.kd) (.bool Y.bo) (.int .i64 Y.nu) (.string Y.tx) (.slice ya Y.its.length yc) (.slice yk Y.kys.length ykc)) q Y ya yc yk ykc := by
  have hz := h.size
  have hs := hb.size
  refine ⟨(put6_other (by omega)).trans ((hb.block _ (by omega)).trans h.p), ?_, (put6_other (by omega)).trans ((hb.block _ (by omega)).trans h.b0), put6_at rfl ((hb.block _ (by omega)).trans h.bx), hY.keeps (Keeps.veils (by rw [put6_size]; exact Nat.le_refl _) fun k hk hs => ⟨hs, put6_other (fun e => by subst e; simp [lowS] at hs)⟩), by rw [put6_size]; omega⟩
  unfold put6
  exact ((((((h.kept.trans (Kept.of_below hb)).setNew _ _ (by omega) _).setNew _ _ (by omega) _).setNew _ _ (by omega) _).setNew _ _ (by omega) _).setNew _ _ (by omega) _).setNew _ _ (by omega) _
theorem EnIn.done {Q T : Nat} {s : ByteArray} {w wr : World} {q : Ps} {t : V} {ia ka : Option Addr} {ic kc : Nat} (h : EnIn Q T s w wr q t ia ic ka kc) (hQ : Q < w.heap.size) :
    (put6 wr w.heap.size (.int .i64 t.kd) (.bool t.bo) (.int .i64 t.nu) (.string t.tx) (.slice ia t.its.length ic) (.slice ka t.kys.length kc)).heap[w.heap.size]? = some (.cells #[.int .i64 t.kd, .bool t.bo, .int .i64 t.nu, .string t.tx, .slice ia t.its.length ic, .slice ka t.kys.length kc] 29 (0, 0)) ∧
    PsAt Q T s q (put6 wr w.heap.size (.int .i64 t.kd) (.bool t.bo) (.int .i64 t.nu) (.string t.tx) (.slice ia t.its.length ic) (.slice ka t.kys.length kc)) ∧ Kept [Q] w (put6 wr w.heap.size (.int .i64 t.kd) (.bool t.bo) (.int .i64 t.nu) (.string t.tx) (.slice ia t.its.length ic) (.slice ka t.kys.length kc)) ∧
    VAt (veil (oldS w) (put6 wr w.heap.size (.int .i64 t.kd) (.bool t.bo) (.int .i64 t.nu) (.string t.tx) (.slice ia t.its.length ic) (.slice ka t.kys.length kc))) t (vcs t ia ic ka kc) := by
  have hz := h.size
  refine ⟨put6_at rfl (by have := h.b0; unfold box0 at this; exact this), (put6_other (by omega)).trans h.p, ?_, h.at_.keeps (Keeps.veils (by rw [put6_size]; exact Nat.le_refl _) fun k hk hs => ?_)⟩
  · unfold put6
    exact (((((h.kept.setNew _ _ (Nat.le_refl _) _).setNew _ _ (Nat.le_refl _) _).setNew _ _ (Nat.le_refl _) _).setNew _ _ (Nat.le_refl _) _).setNew _ _ (Nat.le_refl _) _).setNew _ _ (Nat.le_refl _) _
  · have h1 := of_decide_eq_false hs
    exact ⟨oldS_ge _ _ (by omega), put6_other (by omega)⟩
theorem EnIn.start {Q T : Nat} {s : ByteArray} {w : World} {q : Ps} (hp : PsAt Q T s q w) : EnIn Q T s w ((w.alloc box0).alloc (box6 (.mk 6 false 0 ⟨#[]⟩ [] []) none 0 none 0)) q (.mk 6 false 0 ⟨#[]⟩ [] []) none 0 none 0 := by
  have hQ : Q < w.heap.size := (Array.getElem?_eq_some_iff.1 hp).1
  refine ⟨(heap_alloc_old _ _ (by simp; omega)).trans ((heap_alloc_old _ _ (by omega)).trans hp), ((Kept.refl _ _).alloc _).alloc _, (heap_alloc_old _ _ (by simp)).trans (heap_alloc_new _ _), heap_new_at (by simp), ?_, by simp⟩
  exact VAt.made (X := .mk 6 false 0 ⟨#[]⟩ [] []) rfl rfl (Nat.zero_le _) ⟨⟨rfl, .inl ⟨rfl, none, 0, rfl⟩⟩, by simp [V.kys]⟩ (rows := []) ⟨rfl, .inl ⟨rfl, none, 0, rfl⟩⟩ (by simp [VsAt, V.its])
set_option maxRecDepth 100000 in
set_option maxHeartbeats 4000000 in
theorem entries_no : EntNo := by
  intro L e Q T s q w hp he ha hb
  have H0 := Lib.hid (EnIn.start hp)
  have hQ : Q < w.heap.size := (Array.getElem?_eq_some_iff.1 hp).1
  have HE := Lib.hid he
  have be : (q.e == 0) = false := beq_false_of_ne he
  obtain ⟨c0, c1, c2, c3, c4, c5, c6, c7, fz⟩ := hp.cells
  clear hp he
  unfold box6 box0 at H0
  go_enter Tryz.func31, Tryz.ntmps31
  go_wp2_with fail
  go_loopw [] (fun wr => Hid (EnIn Q T s w wr q (.mk 6 false 0 ⟨#[]⟩ [] []) none 0 none 0)) (fun _ => 0)
  case atStart => exact H0
  case round =>
    clear c0 c1 c2 c3 c4 c5 c6 c7 fz
    have HI := hrel
    clear hrel H0
    obtain ⟨c0, c1, c2, c3, c4, c5, c6, c7, fz⟩ := HI.out.p.cells
    have hb0 := HI.out.b0
    have hbx := HI.out.bx
    unfold box0 at hb0
    unfold box6 at hbx
    obtain ⟨d0, d1, d2, d3, d4, d5⟩ := six_of_block hb0
    obtain ⟨f0, f1, f2, f3, f4, f5⟩ := six_open hb0
    obtain ⟨b0, b1, b2, b3, b4, b5⟩ := six_of_block hbx
    clear hb0 hbx
    go_wp2_with fail
    have hfin := HI.out.done hQ
    unfold put6 at hfin
    generalize hwf : World.setCell _ _ _ = wf at hfin ⊢
    clear hwf d0 d1 d2 d3 d4 d5 f0 f1 f2 f3 f4 f5 b0 b1 b2 b3 b4 b5 c0 c1 c2 c3 c4 c5 c6 c7 fz
    obtain ⟨s0, s1, s2, s3, s4, s5⟩ := six_of_block hfin.1
    exact bodyPost_ret (v := .agg (vcs (.mk 6 false 0 ⟨#[]⟩ [] []) none 0 none 0).toArray) (by simp [results, Tryz.results31, go_sem, vcs, s0, s1, s2, s3, s4, s5] <;> rfl) rfl ⟨q, _, _, rfl, hfin.2.1, hfin.2.2.1, hfin.2.2.2, HE.out, ha, hb⟩
end Go.Proofs.YtejnoedlfbglcaaGreatDoor
