/- asset.Bundle: what it returns. Conditions: the library's variable MaxLen holds an integer. -/
import Derived.Test.YtccmnhpkbbhomaaDoorProg
import Derived.Test.YtccmnhpkbbhomaaDoorShelf
import Derived.Test.YtccmnhpkbbhomaaDoorBf
import Derived.Test.YtccmnhpkbbhomaaDoorBld
import Derived.Test.YtccmnhpkbbhomaaDoorJoinK
import Derived.Test.YtccmnhpkbbhomaaDoorJoinO
import Derived.Deep.RegionHeld3
import Derived.Deep.RegionLaw
import Derived.Outline
namespace Go.Proofs.YtccmnhpkbbhomaaDoor
open Go.RowKit Mh
set_option linter.unusedVariables false

def pathsOf (L : List (ByteArray × ByteArray)) : List ByteArray := L.map (·.1)
def extsOf (L : List (ByteArray × ByteArray)) : List (List UInt8) := L.map fun x => extB x.2.data.toList
def sizesOf (L : List (ByteArray × ByteArray)) : List Nat := (extsOf L).map List.length
theorem sizesOf_len (L : List (ByteArray × ByteArray)) : (sizesOf L).length = L.length := by simp [sizesOf, extsOf]
theorem pathsOf_len (L : List (ByteArray × ByteArray)) : (pathsOf L).length = L.length := by simp [pathsOf]
theorem extsOf_len (L : List (ByteArray × ByteArray)) : (extsOf L).length = L.length := by simp [extsOf]
def BunBad (w : World) (e : Ending) (w' : World) : Prop := ∃ n : Int, n ≠ 0 ∧ e = .returned (.tuple #[.agg #[.string ⟨#[]⟩, .slice none 0 0, .slice none 0 0], .int .i64 n]) ∧ Below w.heap.size w w'
def BunOk (L : List (ByteArray × ByteArray)) (w : World) (e : Ending) (w' : World) : Prop :=
  ∃ (pv ev : Value) (body : ByteArray), e = .returned (.tuple #[.agg #[.string body, pv, ev], .int .i64 0]) ∧ Below w.heap.size w w' ∧ BG w' (pathsOf L) (sizesOf L) body pv ev ∧ goodL (pathsOf L) ∧
    body.data.toList = (extsOf L).flatten ∧ (∀ i (h : i < L.length), L[i].2.size ≤ 20000)
def BUN (L : List (ByteArray × ByteArray)) (w : World) (e : Ending) (w' : World) : Prop := BunBad w e w' ∨ BunOk L w e w'

theorem suffix10 (l : List UInt8) : Lib.hasSuffix l [10] = decide (l.getLast? = some 10) := by
  rw [Bool.eq_iff_iff, decide_eq_true_iff]
  unfold Lib.hasSuffix
  rw [List.isSuffixOf_iff_suffix]
  constructor
  · rintro ⟨t, rfl⟩; simp
  · intro h
    rw [List.getLast?_eq_some_iff] at h
    obtain ⟨t, rfl⟩ := h
    exact ⟨t, rfl⟩

theorem isB_alloc {T e : TypeId} {B b : Nat} {bs : List Value} {w : World} (h : Lib.IsBuilderF T e B b bs w) (o : Obj) : Lib.IsBuilderF T e B b bs (w.alloc o) := h.elim (fun x => .inl (x.alloc o)) (fun x => .inr (x.alloc o))
theorem flat_len (E : List (List UInt8)) (M : Nat) (h : ∀ e ∈ E, e.length ≤ M) : ∀ k, (E.take k).flatten.length ≤ k * M := by
  induction E with
  | nil => intro k; simp
  | cons e E ih =>
    intro k
    cases k with
    | zero => simp
    | succ k =>
      have := ih (fun x hx => h x (by simp [hx])) k
      have h1 := h e (by simp)
      rw [Nat.succ_mul]
      simp only [List.take_succ_cons, List.flatten_cons, List.length_append]
      omega
theorem exts_len (L : List (ByteArray × ByteArray)) (h : ∀ i (h : i < L.length), L[i].2.size ≤ 20000) (k : Nat) : ((extsOf L).take k).flatten.length ≤ k * 20001 := by
  refine flat_len _ _ ?_ k
  intro e he
  obtain ⟨x, hx, rfl⟩ := List.mem_map.1 he
  obtain ⟨i, hi, rfl⟩ := List.mem_iff_getElem.1 hx
  have h1 := h i hi
  have h2 := (extB_len L[i].2.data.toList).2
  have e : L[i].2.data.toList.length = L[i].2.size := by simp
  omega
theorem ext_step (L : List (ByteArray × ByteArray)) (k : Nat) (h : k < L.length) : ((extsOf L).take (k + 1)).flatten = ((extsOf L).take k).flatten ++ extB L[k].2.data.toList := by
  rw [List.take_succ_eq_append_getElem (by rw [extsOf_len]; exact h), List.flatten_append]
  simp [extsOf]
theorem sizes_sm (L : List (ByteArray × ByteArray)) (k : Nat) : sm (sizesOf L) k = ((extsOf L).take k).flatten.length := by
  unfold sm sizesOf
  rw [List.length_flatten, List.map_take]
theorem ownsRow_keep {w w' : World} {base e k : Nat} {v : Value} {n : Nat} {xs : List Value} (h : w.ownsRow base e k v n xs) (hb : Below w.heap.size w w') : w'.ownsRow base e k v n xs := by
  refine ⟨h.1, ?_⟩
  rcases h.2 with hn | ⟨g, cap, cur, rfl, hbs, hgg, rest⟩
  · exact .inl hn
  · exact .inr ⟨g, cap, cur, rfl, hbs, (hb.block g (Array.getElem?_eq_some_iff.1 hgg).1).trans hgg, rest⟩
theorem builder_keep {T e : TypeId} {B b : Nat} {p : Value} {bs : List Value} {w w' : World} (h : Lib.BuilderAtF T e B b p bs w) (hk : Below w.heap.size w w') : Lib.BuilderAtF T e B b p bs w' := by
  obtain ⟨hB, v, hb, hown, hne⟩ := h
  refine ⟨hB, v, (hk.block b (Array.getElem?_eq_some_iff.1 hb).1).trans hb, ⟨hown.1, ?_⟩, hne⟩
  rcases hown.2 with hn | ⟨g, cap, cur, fz, rfl, hbs, hgg, rest⟩
  · exact .inl hn
  · exact .inr ⟨g, cap, cur, fz, rfl, hbs, (hk.block g (Array.getElem?_eq_some_iff.1 hgg).1).trans hgg, rest⟩
theorem isB_keep {T e : TypeId} {B b : Nat} {bs : List Value} {w w' : World} (h : Lib.IsBuilderF T e B b bs w) (hk : Below w.heap.size w w') : Lib.IsBuilderF T e B b bs w' :=
  h.elim (fun x => .inl (builder_keep x hk)) (fun x => .inr (builder_keep x hk))
theorem infoStr : (Tryd.prog.info? 9).map (fun i => (i.zero, i.size, i.bytes)) = some (some (.string ⟨#[]⟩), 1, 16) := by kernel_rfl
theorem infoInt : (Tryd.prog.info? 3).map (fun i => (i.zero, i.size, i.bytes)) = some (some (.int .i64 0), 1, 8) := by kernel_rfl

set_option maxRecDepth 100000 in
set_option maxHeartbeats 4000000 in
theorem bun_any (L : List (ByteArray × ByteArray)) (v : Value) (w : World) (h : Fs w v L) (hml : ML 0 w) : Calls Tryd.prog 8 #[v] w (BUN L w) := by
  obtain ⟨si, hsi, hsz0, hsz1, hsz2⟩ := info_parts infoStr
  obtain ⟨ii, hii, hiz0, hiz1, hiz2⟩ := info_parts infoInt
  obtain ⟨va, vc, rfl, hnm, hvs⟩ := Sl.shape h.1
  have HC : Hid (∀ i (hi : i < L.length), ∃ b off, va = some ⟨b, off, none⟩ ∧ b < w.heap.size ∧ L.length ≤ vc ∧ w.cell? ⟨b, off + i * 2, none⟩ = some (.string L[i].1) ∧ w.cell? ⟨b, off + i * 2 + 1, none⟩ = some (.string L[i].2)) := by
    intro i hi
    obtain ⟨b, off, e, hnc, _, hlt, hc⟩ := hvs (by omega)
    have := flB_get L i hi
    exact ⟨b, off, e, hlt, hnc, hc _ _ this.1, by rw [Nat.add_assoc]; exact hc _ _ this.2⟩
  have HZ : Hid (∀ i (hi : i < L.length), L[i].1.size ≤ maxLen ∧ L[i].2.size ≤ maxLen) := fun i hi => h.2 _ (List.getElem_mem hi)
  have HML := Lib.hid hml
  unfold maxLen at hnm
  clear h hvs hml
  go_enter Tryd.func8, Tryd.ntmps8
  go_wp2_with fail
  go_loopw [13] (fun i wr => ∃ k : Nat, k ≤ L.length ∧ i = .int .i64 k ∧ Below (w.heap.size + 1) (w.alloc (.cells #[.string ⟨#[]⟩, .slice none 0 0, .slice none 0 0] 27)) wr ∧ Hid (∀ i (h : i < L.length), i < k → L[i].2.size ≤ 20000)) (fun i _ => L.length - (intOf i).toNat)
  case atStart => exact ⟨0, by omega, rfl, Below.refl _ _, fun i h h' => by omega⟩
  case round =>
    obtain ⟨k, hk, rfl, hbr, HS⟩ := hrel
    have hR := (hbr.block w.heap.size (by omega)).trans (heap_alloc_new _ _)
    have hBw : Below w.heap.size w wr := ((Below.refl _ w).alloc (Nat.le_refl _) _).trans (hbr.mono (by omega))
    have hzr : w.heap.size + 1 ≤ wr.heap.size := by have := hbr.size; simpa using this
    have r0 : wr.cell? ⟨w.heap.size, 0, none⟩ = some (.string ⟨#[]⟩) := cellT hR rfl
    have r1 : wr.cell? ⟨w.heap.size, 1, none⟩ = some (.slice none 0 0) := cellT hR rfl
    have r2 : wr.cell? ⟨w.heap.size, 2, none⟩ = some (.slice none 0 0) := cellT hR rfl
    have g0 : wr.frozen? ⟨w.heap.size, 0, none⟩ = false := frozenT hR
    have g1 : wr.frozen? ⟨w.heap.size, 1, none⟩ = false := frozenT hR
    have g2 : wr.frozen? ⟨w.heap.size, 2, none⟩ = false := frozenT hR
    by_cases hkl : k < L.length
    · obtain ⟨b, off, rfl, hlt, hvc, c0, c1⟩ := HC.out k hkl
      have d0 := (hBw.cell (p := ⟨b, off + k * 2, none⟩) hlt).trans c0
      have d1 := (hBw.cell (p := ⟨b, off + k * 2 + 1, none⟩) hlt).trans c1
      have hz := (HZ.out k hkl).2
      unfold maxLen at hz
      by_cases hbig : L[k].2.size ≤ 20000
      · have HN : Hid (∀ i (h : i < L.length), i < k + 1 → L[i].2.size ≤ 20000) := by
          intro i h h2
          by_cases e : i = k
          · subst e; exact hbig
          · exact HS.out i h (by omega)
        generalize L[k].1 = p at *
        generalize L[k].2 = q at *
        have HB := Lib.hid hBw
        have HBR := Lib.hid hbr
        clear hR hBw hbr c0 c1 r0 r1 r2 g0 g1 g2
        go_wp2_with fail
        go_roundw
        case rel => exact ⟨k + 1, by omega, by go_num, by have := HBR.out; exact this.alloc hzr _, HN⟩
        case measure => simp [intOf]; omega
      · generalize L[k].1 = p at *
        generalize L[k].2 = q at *
        have HB := Lib.hid hBw
        have hlt9 : w.heap.size < wr.heap.size := by omega
        clear hR hBw hbr c0 c1
        go_wp2_with fail
        refine bodyPost_ret (v := .tuple #[.agg #[.string ⟨#[]⟩, .slice none 0 0, .slice none 0 0], .int .i64 4]) ?_ rfl (.inl ⟨4, by decide, rfl, ?_⟩)
        · simp [results, Tryd.results8, go_sem, r0, r1, r2, hlt9]
        · repeat (first | with_reducible refine Below.drew ?_ | with_reducible refine Below.setCell ?_ (by simp) _ | with_reducible refine Below.alloc ?_ (by simp <;> omega) _)
          exact HB.out
    · obtain rfl : k = L.length := by omega
      have HS' : Hid (∀ i (h : i < L.length), L[i].2.size ≤ 20000) := fun i h => HS.out i h h
      have HB := Lib.hid hBw
      clear HS
      by_cases h40 : 40 < L.length
      · clear hR hBw hbr
        have hlt9 : w.heap.size < wr.heap.size := by omega
        go_wp2_with fail
        refine bodyPost_ret (v := .tuple #[.agg #[.string ⟨#[]⟩, .slice none 0 0, .slice none 0 0], .int .i64 4]) ?_ rfl (.inl ⟨4, by decide, rfl, ?_⟩)
        · simp [results, Tryd.results8, go_sem, r0, r1, r2]
        · repeat (first | with_reducible refine Below.drew ?_ | with_reducible refine Below.setCell ?_ (by simp) _ | with_reducible refine Below.alloc ?_ (by simp <;> omega) _)
          exact HB.out
      · have HR := Lib.hid hR
        clear hR hBw hbr r0 r1 r2 g0 g1 g2
        obtain ⟨wo, rfl⟩ : ∃ wo : World, wo = wr := ⟨_, rfl⟩
        go_wp2_with fail
        obtain ⟨ws, hws⟩ : ∃ ws, ws = (wo.alloc (.cells #[.string ⟨#[]⟩, .slice none 0 0, .slice none 0 0] 27)).alloc (.cells #[.pointer none, .slice none 0 0] 76) := ⟨_, rfl⟩
        rw [← hws]
        have hsb : ws.heap[wo.heap.size]? = some (.cells #[.string ⟨#[]⟩, .slice none 0 0, .slice none 0 0] 27 (0, 0)) := by rw [hws]; exact (heap_alloc_old _ _ (by simp)).trans (heap_alloc_new _ _)
        have hsl : ws.heap[wo.heap.size + 1]? = some (.cells #[.pointer none, .slice none 0 0] 76 (0, 0)) := by rw [hws]; exact heap_new_at (by simp)
        have hsz : wo.heap.size + 2 ≤ ws.heap.size := by rw [hws]; simp
        have HSW : Hid (Below wo.heap.size wo ws) := by rw [hws]; exact ((Below.refl _ wo).alloc (Nat.le_refl _) _).alloc (by simp) _
        clear hws
        go_loopw [30] (fun i wr => ∃ k : Nat, k ≤ L.length ∧ i = .int .i64 k ∧ Hid (Below wo.heap.size ws wr) ∧ wo.heap.size + 2 ≤ wr.heap.size ∧ ∃ pv ev : Value, Hid (wr.heap[wo.heap.size]? = some (.cells #[.string ⟨#[]⟩, pv, ev] 27 (0, 0))) ∧
            wr.ownsRow (wo.heap.size + 2) 9 1 pv k (((pathsOf L).take k).map Value.string) ∧ wr.ownsRow (wo.heap.size + 2) 3 1 ev k (((ends (sizesOf L)).take k).map (Value.int .i64)) ∧
            Lib.IsBuilderF 76 5 (wo.heap.size + 1) (wo.heap.size + 1) (Lib.byteCells ((extsOf L).take k).flatten) wr) (fun i _ => L.length - (intOf i).toNat)
        case atStart => exact ⟨0, by omega, rfl, Below.refl _ _, hsz, .slice none 0 0, .slice none 0 0, hsb, World.ownsRow_nil _ _ _ _, World.ownsRow_nil _ _ _ _, .inl ⟨Nat.le_refl _, .slice none 0 0, hsl, ⟨rfl, .inl ⟨rfl, rfl⟩⟩, by simp [Value.ownBlock]⟩⟩
        case round =>
          clear hsb hsl
          obtain ⟨k, hk, rfl, HBq, hzq, pv, ev, HTB, hpv, hev, hbl⟩ := hrel
          by_cases hkl : k < L.length
          · obtain ⟨b, off, rfl, hlt, hvc, c0, c1⟩ := HC.out k hkl
            have HBWq : Hid (Below w.heap.size w wr) := (HB.out.trans (HSW.out.mono HB.out.size)).trans (HBq.out.mono HB.out.size)
            have d0 := (HBWq.out.cell (p := ⟨b, off + k * 2, none⟩) hlt).trans c0
            have d1 := (HBWq.out.cell (p := ⟨b, off + k * 2 + 1, none⟩) hlt).trans c1
            have hz := (HZ.out k hkl).2
            have hz2 := HS'.out k hkl
            unfold maxLen at hz
            obtain ⟨p, hp⟩ : ∃ p, p = L[k].1 := ⟨_, rfl⟩
            obtain ⟨q, hq⟩ : ∃ q, q = L[k].2 := ⟨_, rfl⟩
            rw [← hp] at d0
            rw [← hq] at d1 hz hz2
            have HP := Lib.hid hp
            have HQ := Lib.hid hq
            obtain ⟨pa, pc, rfl⟩ := ownsRow_form hpv
            obtain ⟨ea, ec, rfl⟩ := ownsRow_form hev
            have e0 : wr.cell? ⟨wo.heap.size, 1, none⟩ = some (.slice pa k pc) := cellT HTB.out rfl
            have hltB : wo.heap.size < wr.heap.size := by omega
            have HPV := Lib.hid (hpv.alloc (.cells #[.string p, .string q] 34))
            have HEV := Lib.hid (hev.alloc (.cells #[.string p, .string q] 34))
            have HBL := Lib.hid hbl
            clear hp hq c0 c1 hpv hev hbl
            have hne1 : wo.heap.size ≠ wr.heap.size := by omega
            have hne2 : wr.heap.size ≠ wo.heap.size := by omega
            have hcl : ((wr.alloc (.cells #[.string p, .string q] 34)).alloc (.cells #[.string p] 9)).cell? ⟨wr.heap.size + 1, 0, none⟩ = some (.string p) := cellT (heap_new_at (by simp)) rfl
            go_wp2_with (at_builtin; refine wpList_appendG (B := wo.heap.size + 2) (W := wr) (((Below.refl _ wr).alloc (by omega) _).alloc (by simp; omega) _) rfl _ _ 24 rfl si (.string ⟨#[]⟩) 16 Tryd.underlying24 hsi hsz0 hsz1 hsz2 rfl _ _ _ rfl (HPV.out.alloc _) (wr.heap.size + 1) 1 rfl hcl rfl (by unfold maxLen; omega) (by omega) (Nat.le_refl _) (by simp; omega) ?_; intro g5 c5 w5 hown5 hbel5 hsz5 hkp5; have hT5 := hkp5 wo.heap.size _ ((heap_alloc_old _ _ (by simp; omega)).trans ((heap_alloc_old _ _ hltB).trans HTB.out)) (by simp) (fun c fz hc => by injection hc with _ h2 _; exact absurd h2 (by decide)); have cT5 : w5.cell? ⟨wo.heap.size, 1, none⟩ = some (.slice pa k pc) := cellT hT5 rfl; have fT5 : w5.frozen? ⟨wo.heap.size, 1, none⟩ = false := frozenT hT5; have hF5 := hkp5 wr.heap.size _ ((heap_alloc_old _ _ (by simp)).trans (heap_alloc_new _ _)) (by simp) (fun c fz hc => by injection hc with _ h2 _; exact absurd h2 (by decide)); have cF5 : w5.cell? ⟨wr.heap.size, 1, none⟩ = some (.string q) := cellT hF5 rfl)
            have hB6 : Lib.IsBuilderF 76 5 (wo.heap.size + 1) (wo.heap.size + 1) (Lib.byteCells ((extsOf L).take k).flatten) (w5.setCell ⟨wo.heap.size, 1, none⟩ (.slice (some ⟨g5, 0, none⟩) (k + 1) c5)) :=
              isBuilder_set (isBuilder_others (isB_alloc (isB_alloc HBL.out _) _) hkp5 (by decide) (by decide)) hT5 (by decide) (by decide) _
            have hT6 : (w5.setCell ⟨wo.heap.size, 1, none⟩ (.slice (some ⟨g5, 0, none⟩) (k + 1) c5)).heap[wo.heap.size]? = some (.cells #[.string ⟨#[]⟩, .slice (some ⟨g5, 0, none⟩) (k + 1) c5, .slice ea k ec] 27 (0, 0)) := heap_setCell_same _ _ 1 _ _ _ hT5
            have hF6 : (w5.setCell ⟨wo.heap.size, 1, none⟩ (.slice (some ⟨g5, 0, none⟩) (k + 1) c5)).heap[wr.heap.size]? = some (.cells #[.string p, .string q] 34 (0, 0)) := (heap_setCell_other _ _ _ _ hne2).trans hF5
            have hP6 := ownsRow_set (i := 1) hown5 hT5 (by decide) (.slice (some ⟨g5, 0, none⟩) (k + 1) c5)
            have hE6 := ownsRow_set (i := 1) (ownsRow_others (HEV.out.alloc (.cells #[.string p] 9)) hkp5 (by decide) (by simp)) hT5 (by decide) (.slice (some ⟨g5, 0, none⟩) (k + 1) c5)
            have hZ6 : wo.heap.size + 2 ≤ (w5.setCell ⟨wo.heap.size, 1, none⟩ (.slice (some ⟨g5, 0, none⟩) (k + 1) c5)).heap.size := by simp; omega
            have hW6 : Below wo.heap.size ws (w5.setCell ⟨wo.heap.size, 1, none⟩ (.slice (some ⟨g5, 0, none⟩) (k + 1) c5)) := (HBq.out.trans (hbel5.mono (by omega))).setCell (Nat.le_refl _) _
            have hP6' : (w5.setCell ⟨wo.heap.size, 1, none⟩ (.slice (some ⟨g5, 0, none⟩) (k + 1) c5)).ownsRow (wo.heap.size + 2) 9 1 (.slice (some ⟨g5, 0, none⟩) (k + 1) c5) (k + 1) (((pathsOf L).take (k + 1)).map Value.string) := by
              have e9 : (pathsOf L).take (k + 1) = (pathsOf L).take k ++ [p] := by
                rw [List.take_succ_eq_append_getElem (by rw [pathsOf_len]; exact hkl), HP.out]; simp [pathsOf]
              rw [e9]; simpa using hP6
            have hX := exts_len L HS'.out k
            have hXl : (Lib.byteCells ((extsOf L).take k).flatten).length + q.size ≤ 140737488355328 := by rw [Lib.byteCells_length]; omega
            refine (writeString_any (wo.heap.size + 1) (wo.heap.size + 1) _ q _ hB6 hXl (by omega)).mono ?_
            rintro e w7 ⟨rfl, hb7, hbel7, hk7⟩
            have hT7 := hk7 wo.heap.size _ hT6 (by simp) (fun c fz hc => by injection hc with _ h2 _; exact absurd h2 (by decide))
            have hF7 := hk7 wr.heap.size _ hF6 (by simp; omega) (fun c fz hc => by injection hc with _ h2 _; exact absurd h2 (by decide))
            have HP7 := Lib.hid (ownsRow_others hP6' hk7 (by decide) (fun g hg hc => by have := (hP6'.lt g hg).1; injection hc with hc; omega))
            have HE7 := Lib.hid (ownsRow_others hE6 hk7 (by decide) (fun g hg hc => by have := (hE6.lt g hg).1; injection hc with hc; omega))
            have HZ7 : Hid (wo.heap.size + 2 ≤ w7.heap.size) := Nat.le_trans hZ6 hbel7.size
            have HW7 : Hid (Below wo.heap.size ws w7) := hW6.trans (hbel7.mono (Nat.le_succ _))
            have cF7 : w7.cell? ⟨wr.heap.size, 1, none⟩ = some (.string q) := cellT hF7 rfl
            have HT7 := Lib.hid hT7
            have HF7 := Lib.hid hF7
            have HB7 : Hid (Lib.IsBuilderF 76 5 (wo.heap.size + 1) (wo.heap.size + 1) (Lib.byteCells (((extsOf L).take k).flatten ++ q.data.toList)) w7) := by
              have := hb7
              rw [Lib.strCells_eq, ← Lib.byteCells_append] at this
              exact .inr this
            have HST := Lib.hid (ext_step L k hkl)
            clear hb7 hbel7 hk7 hT7 hF7 hT6 hF6 hP6 hE6 hZ6 hW6 hP6' hX hXl hB6 hT5 cT5 fT5 hF5 cF5 hkp5 hown5 hbel5 hsz5 hcl d0 d1 e0
            have ways : (q.toList.isEmpty = true ∧ extB q.data.toList = q.data.toList) ∨ (q.toList.isEmpty = false ∧ Lib.hasSuffix q.data.toList [10] = true ∧ extB q.data.toList = q.data.toList) ∨ (q.toList.isEmpty = false ∧ Lib.hasSuffix q.data.toList [10] = false ∧ extB q.data.toList = q.data.toList ++ [10]) := by
              rw [ByteArray.toList_eq, suffix10]
              unfold extB
              by_cases h1 : q.data.toList = []
              · left; rw [h1]; exact ⟨rfl, rfl⟩
              · have h1' : q.data.toList.isEmpty = false := by simpa using h1
                by_cases h2 : q.data.toList.getLast? = some 10
                · right; left; exact ⟨h1', decide_eq_true h2, by rw [if_pos (.inr h2)]⟩
                · right; right; exact ⟨h1', decide_eq_false h2, by rw [if_neg (by rintro (h | h); exact h1 h; exact h2 h)]⟩
            have HSF := Lib.hid (fun w => (Tryd.strings_HasSuffix q ⟨#[10]⟩ w (by omega)).mono (R' := fun e w' => e = .returned (.bool (Lib.hasSuffix q.data.toList (⟨#[10]⟩ : ByteArray).data.toList)) ∧ w = w') fun _ _ h => ⟨h.1, h.2.symm⟩)
            rcases ways with ⟨a1, a2⟩ | ⟨a1, a3, a2⟩ | ⟨a1, a3, a2⟩
            all_goals
              have HA2 := Lib.hid a2
              clear a2
              try rw [show (⟨#[10]⟩ : ByteArray).data.toList = [10] from rfl, a3] at HSF
            · have HB8 : Hid (Lib.IsBuilderF 76 5 (wo.heap.size + 1) (wo.heap.size + 1) (Lib.byteCells ((extsOf L).take (k + 1)).flatten) w7) := by
                show Lib.IsBuilderF _ _ _ _ _ _
                rw [HST.out, ← HQ.out, HA2.out]; exact HB7.out
              have HT8 := HT7
              have HP8 := HP7
              have HE8 := HE7
              have HZ8 := HZ7
              have HX8 := HW7
              clear HT7 HP7 HE7 HZ7 HW7 HB7 HF7
              go_wp2_with fail
              have HL8 : Hid (∀ w', w7 = w' ∨ w7.drew = w' → Calls Tryd.prog 29 #[.pointer (some ⟨wo.heap.size + 1, 0, none⟩)] w' fun e w2 => e = .returned (.int .i64 (sm (sizesOf L) (k + 1) : Nat)) ∧ w' = w2) := by
                rintro w' hw'
                have hb9 : Lib.IsBuilderF 76 5 (wo.heap.size + 1) (wo.heap.size + 1) (Lib.byteCells ((extsOf L).take (k + 1)).flatten) w' := by rcases hw' with rfl | rfl; exact HB8.out; exact HB8.out
                have := Tryd.Builder_Len_f (wo.heap.size + 1) (wo.heap.size + 1) _ w' hb9
                rw [Lib.byteCells_length, ← sizes_sm] at this
                exact this.mono (fun e w2 h => ⟨h.1, h.2.symm⟩)
              have e2 : w7.cell? ⟨wo.heap.size, 2, none⟩ = some (.slice ea k ec) := cellT HT8.out rfl
              have hsmb : sm (sizesOf L) (k + 1) ≤ 1000000 := by have h8 := exts_len L HS'.out (k + 1); rw [sizes_sm]; omega
              have HED : Hid ((w7.drew).ownsRow (wo.heap.size + 2) 3 1 (.slice ea k ec) k (((ends (sizesOf L)).take k).map (Value.int .i64))) := HE8.out
              have hz8 := HZ8.out
              have hz8d : wo.heap.size + 2 ≤ w7.drew.heap.size := HZ8.out
              have hz8e : wo.heap.size < w7.drew.heap.size := by omega
              have hz8f : wo.heap.size < w7.heap.size := by omega
              have hz8g : w7.heap.size ≠ wo.heap.size := by omega
              have hz8h : wo.heap.size ≠ w7.heap.size := by omega
              obtain ⟨N, hN⟩ : ∃ N, N = sm (sizesOf L) (k + 1) := ⟨_, rfl⟩
              rw [← hN] at HL8 hsmb
              have HNN := Lib.hid hN
              clear hN
              have hcl8 : (w7.drew.alloc (.cells #[.int .i64 N] 3)).cell? ⟨w7.heap.size, 0, none⟩ = some (.int .i64 N) := cellT (heap_new_at (by simp)) rfl
              go_region_law (first | (refine step_appendG (B := wo.heap.size + 2) (W := w7) (((Below.refl _ w7).drew).alloc hz8d _) rfl _ _ 25 rfl ii (.int .i64 0) 8 Tryd.underlying25 hii hiz0 hiz1 hiz2 rfl _ _ _ rfl (HED.out.alloc _) w7.heap.size 1 rfl hcl8 rfl (by unfold maxLen; omega) (by omega) (Nat.le_refl _) (Nat.le_trans hz8d (by simp)) ?_; intro g9 c9 w9 hown9 hbel9 hsz9 hkp9; have hT9 := hkp9 wo.heap.size _ ((heap_alloc_old _ _ hz8e).trans HT8.out) (by simp) (fun c fz hc => by injection hc with _ h2 _; exact absurd h2 (by decide)); have cT9 : w9.cell? ⟨wo.heap.size, 2, none⟩ = some (.slice ea k ec) := cellT hT9 rfl; have fT9 : w9.frozen? ⟨wo.heap.size, 2, none⟩ = false := frozenT hT9) | (go_simp; go_at_call 29; first | ((with_reducible refine (HL8.out _ (.inl rfl)).mono ?_); rintro e w' ⟨rfl, rfl⟩) | ((with_reducible refine (HL8.out _ (.inr rfl)).mono ?_); rintro e w' ⟨rfl, rfl⟩)))
              all_goals
                have hb9 := isBuilder_set (i := 2) (isBuilder_others (isB_alloc (w := w7.drew) HB8.out (.cells #[.int .i64 N] 3)) hkp9 (by decide) (by decide)) hT9 (by decide) (by decide) (.slice (some ⟨g9, 0, none⟩) (k + 1) c9)
                have hP9 := ownsRow_set (i := 2) (ownsRow_others (World.ownsRow.alloc (w := w7.drew) HP8.out (.cells #[.int .i64 N] 3)) hkp9 (by decide) (by simp)) hT9 (by decide) (.slice (some ⟨g9, 0, none⟩) (k + 1) c9)
                have hE9 := ownsRow_set (i := 2) hown9 hT9 (by decide) (.slice (some ⟨g9, 0, none⟩) (k + 1) c9)
                have hT10 : (w9.setCell ⟨wo.heap.size, 2, none⟩ (.slice (some ⟨g9, 0, none⟩) (k + 1) c9)).heap[wo.heap.size]? = some (.cells #[.string ⟨#[]⟩, .slice (some ⟨g5, 0, none⟩) (k + 1) c5, .slice (some ⟨g9, 0, none⟩) (k + 1) c9] 27 (0, 0)) := heap_setCell_same _ _ 2 _ _ _ hT9
                have hE9' : (w9.setCell ⟨wo.heap.size, 2, none⟩ (.slice (some ⟨g9, 0, none⟩) (k + 1) c9)).ownsRow (wo.heap.size + 2) 3 1 (.slice (some ⟨g9, 0, none⟩) (k + 1) c9) (k + 1) (((ends (sizesOf L)).take (k + 1)).map (Value.int .i64)) := by
                  rw [ends_take _ _ (by rw [sizesOf_len]; exact hkl), ← HNN.out]; simpa using hE9
                have HT10 := Lib.hid hT10
                have hW10 : Below wo.heap.size ws (w9.setCell ⟨wo.heap.size, 2, none⟩ (.slice (some ⟨g9, 0, none⟩) (k + 1) c9)) := (HX8.out.trans (hbel9.mono (by omega))).setCell (Nat.le_refl _) _
                have hZ10 : wo.heap.size + 2 ≤ (w9.setCell ⟨wo.heap.size, 2, none⟩ (.slice (some ⟨g9, 0, none⟩) (k + 1) c9)).heap.size := by simp; omega
                have HR10 := Lib.hid hP9
                clear hT10 hT9 cT9 fT9
                go_wp2_with fail
                go_roundw
                case rel => exact ⟨k + 1, by omega, by go_num, hW10, hZ10, _, _, HT10, hP9, hE9', hb9⟩
                case measure => simp [intOf]; omega
            · have HB8 : Hid (Lib.IsBuilderF 76 5 (wo.heap.size + 1) (wo.heap.size + 1) (Lib.byteCells ((extsOf L).take (k + 1)).flatten) w7) := by
                show Lib.IsBuilderF _ _ _ _ _ _
                rw [HST.out, ← HQ.out, HA2.out]; exact HB7.out
              have HT8 := HT7
              have HP8 := HP7
              have HE8 := HE7
              have HZ8 := HZ7
              have HX8 := HW7
              clear HT7 HP7 HE7 HZ7 HW7 HB7 HF7
              go_wp2_with (go_at_call 27; refine (HSF.out _).mono ?_; rintro e w8 ⟨rfl, rfl⟩)
              have HL8 : Hid (∀ w', w7 = w' ∨ w7.drew = w' → Calls Tryd.prog 29 #[.pointer (some ⟨wo.heap.size + 1, 0, none⟩)] w' fun e w2 => e = .returned (.int .i64 (sm (sizesOf L) (k + 1) : Nat)) ∧ w' = w2) := by
                rintro w' hw'
                have hb9 : Lib.IsBuilderF 76 5 (wo.heap.size + 1) (wo.heap.size + 1) (Lib.byteCells ((extsOf L).take (k + 1)).flatten) w' := by rcases hw' with rfl | rfl; exact HB8.out; exact HB8.out
                have := Tryd.Builder_Len_f (wo.heap.size + 1) (wo.heap.size + 1) _ w' hb9
                rw [Lib.byteCells_length, ← sizes_sm] at this
                exact this.mono (fun e w2 h => ⟨h.1, h.2.symm⟩)
              have e2 : w7.cell? ⟨wo.heap.size, 2, none⟩ = some (.slice ea k ec) := cellT HT8.out rfl
              have hsmb : sm (sizesOf L) (k + 1) ≤ 1000000 := by have h8 := exts_len L HS'.out (k + 1); rw [sizes_sm]; omega
              have HED : Hid ((w7.drew).ownsRow (wo.heap.size + 2) 3 1 (.slice ea k ec) k (((ends (sizesOf L)).take k).map (Value.int .i64))) := HE8.out
              have hz8 := HZ8.out
              have hz8d : wo.heap.size + 2 ≤ w7.drew.heap.size := HZ8.out
              have hz8e : wo.heap.size < w7.drew.heap.size := by omega
              have hz8f : wo.heap.size < w7.heap.size := by omega
              have hz8g : w7.heap.size ≠ wo.heap.size := by omega
              have hz8h : wo.heap.size ≠ w7.heap.size := by omega
              obtain ⟨N, hN⟩ : ∃ N, N = sm (sizesOf L) (k + 1) := ⟨_, rfl⟩
              rw [← hN] at HL8 hsmb
              have HNN := Lib.hid hN
              clear hN
              have hcl8 : (w7.drew.alloc (.cells #[.int .i64 N] 3)).cell? ⟨w7.heap.size, 0, none⟩ = some (.int .i64 N) := cellT (heap_new_at (by simp)) rfl
              go_region_law (first | (refine step_appendG (B := wo.heap.size + 2) (W := w7) (((Below.refl _ w7).drew).alloc hz8d _) rfl _ _ 25 rfl ii (.int .i64 0) 8 Tryd.underlying25 hii hiz0 hiz1 hiz2 rfl _ _ _ rfl (HED.out.alloc _) w7.heap.size 1 rfl hcl8 rfl (by unfold maxLen; omega) (by omega) (Nat.le_refl _) (Nat.le_trans hz8d (by simp)) ?_; intro g9 c9 w9 hown9 hbel9 hsz9 hkp9; have hT9 := hkp9 wo.heap.size _ ((heap_alloc_old _ _ hz8e).trans HT8.out) (by simp) (fun c fz hc => by injection hc with _ h2 _; exact absurd h2 (by decide)); have cT9 : w9.cell? ⟨wo.heap.size, 2, none⟩ = some (.slice ea k ec) := cellT hT9 rfl; have fT9 : w9.frozen? ⟨wo.heap.size, 2, none⟩ = false := frozenT hT9) | (go_simp; go_at_call 29; first | ((with_reducible refine (HL8.out _ (.inl rfl)).mono ?_); rintro e w' ⟨rfl, rfl⟩) | ((with_reducible refine (HL8.out _ (.inr rfl)).mono ?_); rintro e w' ⟨rfl, rfl⟩)))
              all_goals
                have hb9 := isBuilder_set (i := 2) (isBuilder_others (isB_alloc (w := w7.drew) HB8.out (.cells #[.int .i64 N] 3)) hkp9 (by decide) (by decide)) hT9 (by decide) (by decide) (.slice (some ⟨g9, 0, none⟩) (k + 1) c9)
                have hP9 := ownsRow_set (i := 2) (ownsRow_others (World.ownsRow.alloc (w := w7.drew) HP8.out (.cells #[.int .i64 N] 3)) hkp9 (by decide) (by simp)) hT9 (by decide) (.slice (some ⟨g9, 0, none⟩) (k + 1) c9)
                have hE9 := ownsRow_set (i := 2) hown9 hT9 (by decide) (.slice (some ⟨g9, 0, none⟩) (k + 1) c9)
                have hT10 : (w9.setCell ⟨wo.heap.size, 2, none⟩ (.slice (some ⟨g9, 0, none⟩) (k + 1) c9)).heap[wo.heap.size]? = some (.cells #[.string ⟨#[]⟩, .slice (some ⟨g5, 0, none⟩) (k + 1) c5, .slice (some ⟨g9, 0, none⟩) (k + 1) c9] 27 (0, 0)) := heap_setCell_same _ _ 2 _ _ _ hT9
                have hE9' : (w9.setCell ⟨wo.heap.size, 2, none⟩ (.slice (some ⟨g9, 0, none⟩) (k + 1) c9)).ownsRow (wo.heap.size + 2) 3 1 (.slice (some ⟨g9, 0, none⟩) (k + 1) c9) (k + 1) (((ends (sizesOf L)).take (k + 1)).map (Value.int .i64)) := by
                  rw [ends_take _ _ (by rw [sizesOf_len]; exact hkl), ← HNN.out]; simpa using hE9
                have HT10 := Lib.hid hT10
                have hW10 : Below wo.heap.size ws (w9.setCell ⟨wo.heap.size, 2, none⟩ (.slice (some ⟨g9, 0, none⟩) (k + 1) c9)) := (HX8.out.trans (hbel9.mono (by omega))).setCell (Nat.le_refl _) _
                have hZ10 : wo.heap.size + 2 ≤ (w9.setCell ⟨wo.heap.size, 2, none⟩ (.slice (some ⟨g9, 0, none⟩) (k + 1) c9)).heap.size := by simp; omega
                have HR10 := Lib.hid hP9
                clear hT10 hT9 cT9 fT9
                go_wp2_with fail
                go_roundw
                case rel => exact ⟨k + 1, by omega, by go_num, hW10, hZ10, _, _, HT10, hP9, hE9', hb9⟩
                case measure => simp [intOf]; omega
            · go_wp2_with (go_at_call 27; refine (HSF.out _).mono ?_; rintro e w8 ⟨rfl, rfl⟩)
              have hX := exts_len L HS'.out k
              refine (writeByte_any (wo.heap.size + 1) (wo.heap.size + 1) _ 10 _ HB7.out (by rw [Lib.byteCells_length, List.length_append]; have : q.data.toList.length = q.size := (by simp); omega) (by have := HZ7.out; omega)).mono ?_
              rintro e w8 ⟨rfl, hb8, hbel8, hk8⟩
              have HB8 : Hid (Lib.IsBuilderF 76 5 (wo.heap.size + 1) (wo.heap.size + 1) (Lib.byteCells ((extsOf L).take (k + 1)).flatten) w8) := by
                show Lib.IsBuilderF _ _ _ _ _ _
                rw [HST.out, ← HQ.out, HA2.out, ← List.append_assoc, Lib.byteCells_append]; exact .inr hb8
              have HT8 := Lib.hid (hk8 wo.heap.size _ HT7.out (by simp) (fun c fz hc => by injection hc with _ h2 _; exact absurd h2 (by decide)))
              have HP8 := Lib.hid (ownsRow_others HP7.out hk8 (by decide) (fun g hg hc => by have := (HP7.out.lt g hg).1; injection hc with hc; omega))
              have HE8 := Lib.hid (ownsRow_others HE7.out hk8 (by decide) (fun g hg hc => by have := (HE7.out.lt g hg).1; injection hc with hc; omega))
              have HZ8 : Hid (wo.heap.size + 2 ≤ w8.heap.size) := Nat.le_trans HZ7.out hbel8.size
              have HX8 : Hid (Below wo.heap.size ws w8) := HW7.out.trans (hbel8.mono (Nat.le_succ _))
              clear hb8 hbel8 hk8 HT7 HP7 HE7 HZ7 HW7 HB7 HF7 hX cF7
              go_wp2_with fail
              have HL8 : Hid (∀ w', w8 = w' ∨ w8.drew = w' → Calls Tryd.prog 29 #[.pointer (some ⟨wo.heap.size + 1, 0, none⟩)] w' fun e w2 => e = .returned (.int .i64 (sm (sizesOf L) (k + 1) : Nat)) ∧ w' = w2) := by
                rintro w' hw'
                have hb9 : Lib.IsBuilderF 76 5 (wo.heap.size + 1) (wo.heap.size + 1) (Lib.byteCells ((extsOf L).take (k + 1)).flatten) w' := by rcases hw' with rfl | rfl; exact HB8.out; exact HB8.out
                have := Tryd.Builder_Len_f (wo.heap.size + 1) (wo.heap.size + 1) _ w' hb9
                rw [Lib.byteCells_length, ← sizes_sm] at this
                exact this.mono (fun e w2 h => ⟨h.1, h.2.symm⟩)
              have e2 : w8.cell? ⟨wo.heap.size, 2, none⟩ = some (.slice ea k ec) := cellT HT8.out rfl
              have hsmb : sm (sizesOf L) (k + 1) ≤ 1000000 := by have h8 := exts_len L HS'.out (k + 1); rw [sizes_sm]; omega
              have HED : Hid ((w8.drew).ownsRow (wo.heap.size + 2) 3 1 (.slice ea k ec) k (((ends (sizesOf L)).take k).map (Value.int .i64))) := HE8.out
              have hz8 := HZ8.out
              have hz8d : wo.heap.size + 2 ≤ w8.drew.heap.size := HZ8.out
              have hz8e : wo.heap.size < w8.drew.heap.size := by omega
              have hz8f : wo.heap.size < w8.heap.size := by omega
              have hz8g : w8.heap.size ≠ wo.heap.size := by omega
              have hz8h : wo.heap.size ≠ w8.heap.size := by omega
              obtain ⟨N, hN⟩ : ∃ N, N = sm (sizesOf L) (k + 1) := ⟨_, rfl⟩
              rw [← hN] at HL8 hsmb
              have HNN := Lib.hid hN
              clear hN
              have hcl8 : (w8.drew.alloc (.cells #[.int .i64 N] 3)).cell? ⟨w8.heap.size, 0, none⟩ = some (.int .i64 N) := cellT (heap_new_at (by simp)) rfl
              go_region_law (first | (refine step_appendG (B := wo.heap.size + 2) (W := w8) (((Below.refl _ w8).drew).alloc hz8d _) rfl _ _ 25 rfl ii (.int .i64 0) 8 Tryd.underlying25 hii hiz0 hiz1 hiz2 rfl _ _ _ rfl (HED.out.alloc _) w8.heap.size 1 rfl hcl8 rfl (by unfold maxLen; omega) (by omega) (Nat.le_refl _) (Nat.le_trans hz8d (by simp)) ?_; intro g9 c9 w9 hown9 hbel9 hsz9 hkp9; have hT9 := hkp9 wo.heap.size _ ((heap_alloc_old _ _ hz8e).trans HT8.out) (by simp) (fun c fz hc => by injection hc with _ h2 _; exact absurd h2 (by decide)); have cT9 : w9.cell? ⟨wo.heap.size, 2, none⟩ = some (.slice ea k ec) := cellT hT9 rfl; have fT9 : w9.frozen? ⟨wo.heap.size, 2, none⟩ = false := frozenT hT9) | (go_simp; go_at_call 29; first | ((with_reducible refine (HL8.out _ (.inl rfl)).mono ?_); rintro e w' ⟨rfl, rfl⟩) | ((with_reducible refine (HL8.out _ (.inr rfl)).mono ?_); rintro e w' ⟨rfl, rfl⟩)))
              all_goals
                have hb9 := isBuilder_set (i := 2) (isBuilder_others (isB_alloc (w := w8.drew) HB8.out (.cells #[.int .i64 N] 3)) hkp9 (by decide) (by decide)) hT9 (by decide) (by decide) (.slice (some ⟨g9, 0, none⟩) (k + 1) c9)
                have hP9 := ownsRow_set (i := 2) (ownsRow_others (World.ownsRow.alloc (w := w8.drew) HP8.out (.cells #[.int .i64 N] 3)) hkp9 (by decide) (by simp)) hT9 (by decide) (.slice (some ⟨g9, 0, none⟩) (k + 1) c9)
                have hE9 := ownsRow_set (i := 2) hown9 hT9 (by decide) (.slice (some ⟨g9, 0, none⟩) (k + 1) c9)
                have hT10 : (w9.setCell ⟨wo.heap.size, 2, none⟩ (.slice (some ⟨g9, 0, none⟩) (k + 1) c9)).heap[wo.heap.size]? = some (.cells #[.string ⟨#[]⟩, .slice (some ⟨g5, 0, none⟩) (k + 1) c5, .slice (some ⟨g9, 0, none⟩) (k + 1) c9] 27 (0, 0)) := heap_setCell_same _ _ 2 _ _ _ hT9
                have hE9' : (w9.setCell ⟨wo.heap.size, 2, none⟩ (.slice (some ⟨g9, 0, none⟩) (k + 1) c9)).ownsRow (wo.heap.size + 2) 3 1 (.slice (some ⟨g9, 0, none⟩) (k + 1) c9) (k + 1) (((ends (sizesOf L)).take (k + 1)).map (Value.int .i64)) := by
                  rw [ends_take _ _ (by rw [sizesOf_len]; exact hkl), ← HNN.out]; simpa using hE9
                have HT10 := Lib.hid hT10
                have hW10 : Below wo.heap.size ws (w9.setCell ⟨wo.heap.size, 2, none⟩ (.slice (some ⟨g9, 0, none⟩) (k + 1) c9)) := (HX8.out.trans (hbel9.mono (by omega))).setCell (Nat.le_refl _) _
                have hZ10 : wo.heap.size + 2 ≤ (w9.setCell ⟨wo.heap.size, 2, none⟩ (.slice (some ⟨g9, 0, none⟩) (k + 1) c9)).heap.size := by simp; omega
                have HR10 := Lib.hid hP9
                clear hT10 hT9 cT9 fT9
                go_wp2_with fail
                go_roundw
                case rel => exact ⟨k + 1, by omega, by go_num, hW10, hZ10, _, _, HT10, hP9, hE9', hb9⟩
                case measure => simp [intOf]; omega
          · obtain rfl : k = L.length := by omega
            have HBW : Hid (Below w.heap.size w wr) := (HB.out.trans (HSW.out.mono HB.out.size)).trans (HBq.out.mono HB.out.size)
            rw [List.take_of_length_le (by rw [pathsOf_len]; exact Nat.le_refl _)] at hpv
            rw [List.take_of_length_le (by rw [ends_len, sizesOf_len]; exact Nat.le_refl _)] at hev
            rw [List.take_of_length_le (by rw [extsOf_len]; exact Nat.le_refl _)] at hbl
            have hss : Ss wr pv (pathsOf L) := by
              refine ⟨by rw [pathsOf_len]; exact Sl.of_own hpv (by decide), fun s hs => ?_⟩
              obtain ⟨x, hx, rfl⟩ := List.mem_map.1 hs
              obtain ⟨i, hi, rfl⟩ := List.mem_iff_getElem.1 hx
              exact (HZ.out i hi).1
            have HPF := Lib.hid (pf_any pv (pathsOf L) wr hss (HML.out.below HBW.out HML.out.lt))
            have HRQ : Hid (wr.heap[w.heap.size]? = some (.cells #[.string ⟨#[]⟩, .slice none 0 0, .slice none 0 0] 27 (0, 0))) := by
              have h1 := HSW.out.block w.heap.size (by omega)
              have h2 := HBq.out.block w.heap.size (by omega)
              exact h2.trans (h1.trans HR.out)
            obtain ⟨pa, pc, rfl⟩ := ownsRow_form hpv
            obtain ⟨ea, ec, rfl⟩ := ownsRow_form hev
            have e0 : wr.cell? ⟨wo.heap.size, 1, none⟩ = some (.slice pa L.length pc) := cellT HTB.out rfl
            have HPV := Lib.hid hpv
            have HEV := Lib.hid hev
            have HBL := Lib.hid hbl
            have HZQ := Lib.hid hzq
            clear hss hpv hev hbl hzq
            go_wp2_with fail
            refine HPF.out.mono ?_
            rintro e w2 ⟨n, rfl, hn, hb2⟩
            have HN := Lib.hid hn
            have hr2 := (hb2.block w.heap.size (by have := HZQ.out; omega)).trans HRQ.out
            have ht2 := (hb2.block wo.heap.size (by have := HZQ.out; omega)).trans HTB.out
            have hbl2 := isB_keep HBL.out hb2
            have HP2 := Lib.hid (ownsRow_keep HPV.out hb2)
            have HE2 := Lib.hid (ownsRow_keep HEV.out hb2)
            have HW2 : Hid (Below w.heap.size w w2) := HBW.out.trans (hb2.mono HBW.out.size)
            have HZ2 : Hid (wo.heap.size + 2 ≤ w2.heap.size) := Nat.le_trans HZQ.out hb2.size
            clear hn hb2 e0
            by_cases hn0 : n = 0
            · have HG := Lib.hid (HN.out.1 hn0)
              subst hn0
              have t0 : w2.frozen? ⟨wo.heap.size, 0, none⟩ = false := frozenT ht2
              have t1 : w2.cell? ⟨wo.heap.size, 0, none⟩ = some (.string ⟨#[]⟩) := cellT ht2 rfl
              have HT2 := Lib.hid ht2
              have HR2 := Lib.hid hr2
              have HBL2 := Lib.hid hbl2
              clear ht2 hr2 hbl2 t0 t1
              go_wp2_with fail
              refine (Tryd.Builder_String_any_k (wo.heap.size + 1) (wo.heap.size + 1) _ _ HBL2.out (by have := HZ2.out; omega)).mono ?_
              rintro e w3 ⟨rfl, _, hb3, hk3⟩
              have ht3 := (hb3.block wo.heap.size (by omega)).trans HT2.out
              have hr3 := (hb3.block w.heap.size (by omega)).trans HR2.out
              have hP3 := ownsRow_others HP2.out hk3 (by decide) (fun g hg hc => by have := (HP2.out.lt g hg).1; injection hc with hc; omega)
              have hE3 := ownsRow_others HE2.out hk3 (by decide) (fun g hg hc => by have := (HE2.out.lt g hg).1; injection hc with hc; omega)
              have HW3 : Hid (Below w.heap.size w w3) := HW2.out.trans (hb3.mono (by omega))
              have hz3 : wo.heap.size + 2 ≤ w3.heap.size := Nat.le_trans HZ2.out hb3.size
              obtain ⟨body, hbody⟩ : ∃ b : ByteArray, b = ⟨((extsOf L).flatten).toArray⟩ := ⟨_, rfl⟩
              rw [← hbody]
              have hbz : body.size = (sizesOf L).sum := by rw [hbody]; show (extsOf L).flatten.toArray.size = _; simp only [List.size_toArray]; exact join_len _
              have hbm : body.size ≤ 1000000 := by
                rw [hbz, ← sm_all (sizesOf L) L.length (by rw [sizesOf_len]; exact Nat.le_refl _), sizes_sm]
                have := exts_len L HS'.out L.length
                omega
              have hbl3 : body.data.toList = (extsOf L).flatten := by rw [hbody]
              have HBD := Lib.hid hbl3
              have HBZ := Lib.hid hbz
              have c0 : w3.cell? ⟨wo.heap.size, 0, none⟩ = some (.string ⟨#[]⟩) := cellT ht3 rfl
              have c1 : w3.cell? ⟨wo.heap.size, 1, none⟩ = some (.slice pa L.length pc) := cellT ht3 rfl
              have c2 : w3.cell? ⟨wo.heap.size, 2, none⟩ = some (.slice ea L.length ec) := cellT ht3 rfl
              have f0 : w3.frozen? ⟨wo.heap.size, 0, none⟩ = false := frozenT ht3
              have r0 : w3.cell? ⟨w.heap.size, 0, none⟩ = some (.string ⟨#[]⟩) := cellT hr3 rfl
              have r1 : w3.cell? ⟨w.heap.size, 1, none⟩ = some (.slice none 0 0) := cellT hr3 rfl
              have r2 : w3.cell? ⟨w.heap.size, 2, none⟩ = some (.slice none 0 0) := cellT hr3 rfl
              have g0 : w3.frozen? ⟨w.heap.size, 0, none⟩ = false := frozenT hr3
              have g1 : w3.frozen? ⟨w.heap.size, 1, none⟩ = false := frozenT hr3
              have g2 : w3.frozen? ⟨w.heap.size, 2, none⟩ = false := frozenT hr3
              have HP3 := Lib.hid hP3
              have HE3 := Lib.hid hE3
              have n1 : w.heap.size ≠ wo.heap.size := by omega
              have n2 : wo.heap.size ≠ w.heap.size := by omega
              clear hb3 hk3 ht3 hr3 hP3 hE3 hbody hbz hbl3
              by_cases hbig : 200000 < body.size
              · have q : decide (200000 < (body.size : Int)) = true := decide_eq_true (by omega)
                go_wp2_with fail
                refine bodyPost_ret (v := .tuple #[.agg #[.string ⟨#[]⟩, .slice none 0 0, .slice none 0 0], .int .i64 4]) ?_ rfl (.inl ⟨4, by decide, rfl, ?_⟩)
                · simp [results, Tryd.results8, go_sem, r0, r1, r2, n1, n2]
                · repeat (first | with_reducible refine Below.drew ?_ | with_reducible refine Below.setCell ?_ (by simp <;> omega) _ | with_reducible refine Below.alloc ?_ (by simp <;> omega) _)
                  exact HW3.out
              · have q : decide (200000 < (body.size : Int)) = false := decide_eq_false (by omega)
                go_wp2_with fail
                refine bodyPost_ret (v := .tuple #[.agg #[.string body, .slice pa L.length pc, .slice ea L.length ec], .int .i64 0]) ?_ rfl (.inr ⟨.slice pa L.length pc, .slice ea L.length ec, body, rfl, ?_, ⟨⟨?_, fun s hs => ?_⟩, ?_, ?_, ?_, HBZ.out, ?_⟩, HG.out, HBD.out, HS'.out⟩)
                · simp [results, Tryd.results8, go_sem, r0, r1, r2, c1, c2, n1, n2]
                · repeat (first | with_reducible refine Below.drew ?_ | with_reducible refine Below.setCell ?_ (by simp <;> omega) _ | with_reducible refine Below.alloc ?_ (by simp <;> omega) _)
                  exact HW3.out
                · rw [pathsOf_len]
                  refine Sl.of_own (e := 9) (base := wo.heap.size + 2) ?_ (by decide)
                  repeat (with_reducible refine ownsRow_setCell_below ?_ (by simp <;> omega) _)
                  exact HP3.out
                · obtain ⟨x, hx, rfl⟩ := List.mem_map.1 hs
                  obtain ⟨i, hi, rfl⟩ := List.mem_iff_getElem.1 hx
                  exact (HZ.out i hi).1
                · rw [sizesOf_len]
                  refine Sl.of_own (e := 3) (base := wo.heap.size + 2) ?_ (by decide)
                  repeat (with_reducible refine ownsRow_setCell_below ?_ (by simp <;> omega) _)
                  exact HE3.out
                · rw [pathsOf_len, sizesOf_len]
                · rw [sizesOf_len]; omega
                · rw [← HBZ.out]; omega
            · have r0 : w2.cell? ⟨w.heap.size, 0, none⟩ = some (.string ⟨#[]⟩) := cellT hr2 rfl
              have r1 : w2.cell? ⟨w.heap.size, 1, none⟩ = some (.slice none 0 0) := cellT hr2 rfl
              have r2 : w2.cell? ⟨w.heap.size, 2, none⟩ = some (.slice none 0 0) := cellT hr2 rfl
              have g0 : w2.frozen? ⟨w.heap.size, 0, none⟩ = false := frozenT hr2
              have g1 : w2.frozen? ⟨w.heap.size, 1, none⟩ = false := frozenT hr2
              have g2 : w2.frozen? ⟨w.heap.size, 2, none⟩ = false := frozenT hr2
              have q : (n != 0) = true := by simpa using hn0
              have HN0 := Lib.hid hn0
              clear hr2 ht2 hbl2 hn0
              go_wp2_with fail
              refine bodyPost_ret (v := .tuple #[.agg #[.string ⟨#[]⟩, .slice none 0 0, .slice none 0 0], .int .i64 n]) ?_ rfl (.inl ⟨n, HN0.out, rfl, ?_⟩)
              · simp [results, Tryd.results8, go_sem, r0, r1, r2]
              · repeat (first | with_reducible refine Below.drew ?_ | with_reducible refine Below.setCell ?_ (by simp <;> omega) _ | with_reducible refine Below.alloc ?_ (by simp <;> omega) _)
                exact HW2.out
end Go.Proofs.YtccmnhpkbbhomaaDoor
