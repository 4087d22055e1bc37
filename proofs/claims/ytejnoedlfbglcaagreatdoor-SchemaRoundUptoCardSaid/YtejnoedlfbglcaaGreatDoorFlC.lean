/- conf.hasStar: whether one of the steps is a star. No conditions but on their number. · conf.fieldFault: whether a field is right. Conditions: how many values its default has; the cell of MaxLen. · conf.CheckSchema: whether a schema is right. Conditions: how many values each default has; the cell of MaxLen. -/
import Derived.Test.YtejnoedlfbglcaaGreatDoorFlS
import Derived.Test.YtejnoedlfbglcaaGreatDoorFlPl
import Derived.Test.YtejnoedlfbglcaaGreatDoorMp
import Derived.Test.YtejnoedlfbglcaaGreatDoorKeJ
import Derived.Deep.CutRange
import Derived.Carry
namespace Go.Proofs.YtejnoedlfbglcaaGreatDoor
open Go.RowKit Mh
set_option linter.unusedVariables false

def stK (s : St) : ByteArray := if s.star = true then ⟨#[]⟩ else s.key
def stN (s : St) : Int := if s.star = true then 0 else s.num
theorem stcS_eq (s : St) : stcS s = [.string (stK s), .int .i64 (stN s), .bool s.star] := by
  unfold stcS stK stN
  cases h : s.star
  · simp [stc]
  · simp
theorem stcsS_get : ∀ (l : List St) (i : Nat) (h : i < l.length) (j : Nat), j < 3 → (l.flatMap stcS)[i * 3 + j]? = (stcS l[i])[j]? := by
  intro l
  induction l with
  | nil => intro i h; simp at h
  | cons a l ih =>
    intro i h j hj
    rw [List.flatMap_cons]
    have ha : (stcS a).length = 3 := stcS_len a
    cases i with
    | zero => rw [List.getElem?_append_left (by omega)]; simp
    | succ i =>
      rw [List.getElem?_append_right (by omega), show (i + 1) * 3 + j - (stcS a).length = i * 3 + j by omega]
      exact ih i (by simpa using h) j hj
theorem StAtS.item {w : World} {v : Value} {l : List St} (h : StAtS w v l) :
    ∃ ao c, v = .slice ao l.length c ∧ l.length ≤ maxLen ∧ (0 < l.length → ∃ b off, ao = some ⟨b, off, none⟩ ∧ l.length ≤ c ∧ c ≤ maxLen ∧ b < w.heap.size ∧
      ∀ k (hk : k < l.length), w.cell? ⟨b, off + k * 3, none⟩ = some (.string (stK l[k])) ∧ w.cell? ⟨b, off + k * 3 + 1, none⟩ = some (.int .i64 (stN l[k])) ∧ w.cell? ⟨b, off + k * 3 + 2, none⟩ = some (.bool l[k].star)) := by
  obtain ⟨ao, c, rfl, hm, hs⟩ := Sl.shp h
  refine ⟨ao, c, rfl, hm, fun h0 => ?_⟩
  obtain ⟨b, off, rfl, h1, h2, h3, h4⟩ := hs h0
  refine ⟨b, off, rfl, h1, h2, h3, fun k hk => ?_⟩
  have g : ∀ j (hj : j < 3) u, (stcS l[k])[j]? = some u → w.cell? ⟨b, off + (k * 3 + j), none⟩ = some u := fun j hj u hu => h4 (k * 3 + j) u ((stcsS_get l k hk j hj).trans hu)
  have e := stcS_eq l[k]
  exact ⟨g 0 (by omega) _ (by rw [e]; rfl), by rw [Nat.add_assoc]; exact g 1 (by omega) _ (by rw [e]; rfl), by rw [Nat.add_assoc]; exact g 2 (by omega) _ (by rw [e]; rfl)⟩
theorem StAtS.below {w w' : World} {v : Value} {l : List St} (h : StAtS w v l) (hb : Below w.heap.size w w') : StAtS w' v l := Sl.below h hb
theorem any_take {l : List St} {j : Nat} (hj : j < l.length) (h : (l.take j).any St.star = false) (h2 : l[j].star = false) : (l.take (j + 1)).any St.star = false := by
  rw [List.take_succ_eq_append_getElem hj, List.any_append, h]
  simp [h2]
theorem any_at {l : List St} {j : Nat} (hj : j < l.length) (h2 : l[j].star = true) : l.any St.star = true := List.any_eq_true.2 ⟨_, List.getElem_mem hj, h2⟩
set_option maxHeartbeats 4000000 in
theorem hasStar_any (l : List St) (v : Value) (w : World) (h : StAtS w v l) (hl : l.length ≤ 1000000) :
    Calls Tryz.prog 57 #[v] w fun e w' => e = .returned (.bool (l.any St.star)) ∧ Below w.heap.size w w' := by
  obtain ⟨la, lc, rfl, _, hcell⟩ := h.item
  have HC := Lib.hid hcell
  clear hcell h
  go_enter Tryz.func57, Tryz.ntmps57
  go_wp2_with fail
  go_loopw [7] (fun i wr => ∃ (j : Nat), i = .int .i64 j ∧ Hid (j ≤ l.length ∧ (l.take j).any St.star = false ∧ Below w.heap.size w wr)) (fun i _ => l.length - (intOf i).toNat)
  case atStart => exact ⟨0, rfl, ⟨by omega, by simp, Below.refl _ _⟩⟩
  case round =>
    obtain ⟨j, rfl, HI⟩ := hrel
    have hle := HI.out.1
    by_cases hj : j < l.length
    · obtain ⟨b, off, rfl, h1, h2, h3, h4⟩ := HC.out (by omega)
      obtain ⟨c0, c1, c2⟩ := h4 j hj
      have d0 := (HI.out.2.2.cell (p := ⟨b, off + j * 3, none⟩) h3).trans c0
      have d1 := (HI.out.2.2.cell (p := ⟨b, off + j * 3 + 1, none⟩) h3).trans c1
      have d2 := (HI.out.2.2.cell (p := ⟨b, off + j * 3 + 2, none⟩) h3).trans c2
      have HBn : Hid (Below w.heap.size w (wr.alloc (.cells #[.string (stK l[j]), .int .i64 (stN l[j]), .bool l[j].star] 106))) := HI.out.2.2.alloc HI.out.2.2.size _
      clear c0 c1 c2 h1 h2 h4 HC
      cases hsb : l[j].star with
      | true =>
        have HS1 : Hid (l.any St.star = true) := any_at hj hsb
        rw [hsb] at d2 HBn
        clear hsb
        generalize stK l[j] = sk at *
        generalize stN l[j] = sn at *
        go_wp2_with fail
        go_ret
        exact ⟨by rw [HS1.out]; rfl, HBn.out⟩
      | false =>
        rw [hsb] at d2 HBn
        have HJ2 : Hid (j + 1 ≤ l.length ∧ (l.take (j + 1)).any St.star = false ∧ _) := ⟨hj, any_take hj HI.out.2.1 hsb, HBn.out⟩
        clear hsb
        generalize stK l[j] = sk at *
        generalize stN l[j] = sn at *
        go_wp2_with fail
        go_roundw
        case rel => exact ⟨j + 1, by go_num, HJ2⟩
        case measure => simp [intOf]; omega
    · obtain rfl : j = l.length := by omega
      have HS : Hid (l.any St.star = false) := by have := HI.out.2.1; rw [List.take_length] at this; exact this
      have HB : Hid (Below w.heap.size w wr) := HI.out.2.2
      clear HC
      go_wp2_with fail
      go_ret
      exact ⟨by rw [HS.out]; rfl, HB.out⟩
end Go.Proofs.YtejnoedlfbglcaaGreatDoor
namespace Go.Proofs.YtejnoedlfbglcaaGreatDoor
open Go.RowKit Mh
set_option linter.unusedVariables false

/-- A set of strings as a map. -/
def setF (L : List ByteArray) (s : ByteArray) : Option Value := if (L.any fun x => decide (x = s)) = true then some (.bool true) else none
theorem setF_in {L : List ByteArray} {s : ByteArray} (h : s ∈ L) : setF L s = some (.bool true) := by unfold setF; rw [if_pos]; exact List.any_eq_true.2 ⟨s, h, decide_eq_true rfl⟩
theorem setF_out {L : List ByteArray} {s : ByteArray} (h : s ∉ L) : setF L s = none := by
  unfold setF; rw [if_neg]
  intro h2
  obtain ⟨x, hx, he⟩ := List.any_eq_true.1 h2
  rw [of_decide_eq_true he] at hx
  exact h hx
theorem setF_put (L : List ByteArray) (k s : ByteArray) : setF (L ++ [k]) s = if s = k then some (.bool true) else setF L s := by
  by_cases h : s = k
  · subst h; rw [if_pos rfl, setF_in (by simp)]
  · rw [if_neg h]
    by_cases h2 : s ∈ L
    · rw [setF_in h2, setF_in (by simp [h2])]
    · rw [setF_out h2, setF_out (by simp [h2, h])]
/-- A test that is true where something is not right. -/
def Tst (b : Bool) (p : Prop) : Prop := match b with | true => ¬ p | false => p
def kindOk (f : Mh.Fd) : Prop := f.kind = -1 ∨ (0 ≤ f.kind ∧ f.kind ≤ 6)
def bndOk (f : Mh.Fd) : Prop := f.bnd = true ∨ (f.mn = 0 ∧ f.mx = 0)
def ordOk (f : Mh.Fd) : Prop := f.mn ≤ f.mx
def oneOk (f : Mh.Fd) : Prop := f.one = [] ∨ f.kind = 3
def strsOk (l : List ByteArray) : Prop := ∀ s ∈ l, s.size ≤ 5000 ∧ badL s.data.toList = false
def dkOk (f : Mh.Fd) : Prop := f.dv.kd = 0 ∨ f.kind = -1 ∨ f.dv.kd = f.kind
def starOk (f : Mh.Fd) (l : List St) : Prop := f.dv.kd = 0 ∨ l.any St.star = false
theorem ok_iff {f : Mh.Fd} {l : List St} (h : stepsS f.route = some l) (hl : l ≠ []) : f.ok ↔ kindOk f ∧ bndOk f ∧ ordOk f ∧ oneOk f ∧ strsOk f.one ∧ f.dv.okc ∧ dkOk f ∧ starOk f l := by
  have e : (l.any St.star = false) ↔ ∀ s ∈ l, s.star = false := by simp
  unfold Mh.Fd.ok starOk
  rw [e]
  constructor
  · rintro ⟨l', h1, h2, h3, h4, h5, h6, h7, h8, h9, h10⟩
    rw [h] at h1
    cases h1
    exact ⟨h3, h4, h5, h6, h7, h8, h9, h10⟩
  · rintro ⟨h3, h4, h5, h6, h7, h8, h9, h10⟩
    exact ⟨l, h, hl, h3, h4, h5, h6, h7, h8, h9, h10⟩
theorem ok_none {f : Mh.Fd} (h : stepsS f.route = none ∨ stepsS f.route = some []) : ¬ f.ok := by
  rintro ⟨l, h1, h2, _⟩
  rcases h with h | h
  · rw [h] at h1; cases h1
  · rw [h] at h1; cases h1; exact h2 rfl
theorem strs_next {l : List ByteArray} {j : Nat} (hj : j < l.length) (h : strsOk (l.take j)) (h2 : l[j].size ≤ 5000 ∧ badL l[j].data.toList = false) : strsOk (l.take (j + 1)) := by
  intro s hs
  rw [List.take_succ_eq_append_getElem hj] at hs
  rcases List.mem_append.1 hs with hs | hs
  · exact h s hs
  · simp only [List.mem_cons, List.not_mem_nil, or_false] at hs
    subst hs
    exact h2
theorem fcs_arr (f : Mh.Fd) (oa ia ka : Option Addr) (oc ic kc : Nat) : (fcs f oa oc ia ic ka kc).toArray = #[.string f.route, .int .i64 f.kind, .bool f.need, .bool f.bnd, .int .i64 f.mn, .int .i64 f.mx, .slice oa f.one.length oc, .int .i64 f.dv.kd, .bool f.dv.bo, .int .i64 f.dv.nu, .string f.dv.tx, .slice ia f.dv.its.length ic, .slice ka f.dv.kys.length kc] := rfl
theorem thirteen_of_block {w : World} {g : Nat} {T : TypeId} {a b c d e f g' h i j k l m : Value} (H : w.heap[g]? = some (.cells #[a, b, c, d, e, f, g', h, i, j, k, l, m] T (0, 0))) :
    w.cell? ⟨g, 0, none⟩ = some a ∧ w.cell? ⟨g, 1, none⟩ = some b ∧ w.cell? ⟨g, 2, none⟩ = some c ∧ w.cell? ⟨g, 3, none⟩ = some d ∧ w.cell? ⟨g, 4, none⟩ = some e ∧ w.cell? ⟨g, 5, none⟩ = some f ∧ w.cell? ⟨g, 6, none⟩ = some g' ∧
    w.cell? ⟨g, 7, none⟩ = some h ∧ w.cell? ⟨g, 8, none⟩ = some i ∧ w.cell? ⟨g, 9, none⟩ = some j ∧ w.cell? ⟨g, 10, none⟩ = some k ∧ w.cell? ⟨g, 11, none⟩ = some l ∧ w.cell? ⟨g, 12, none⟩ = some m :=
  ⟨cellT H rfl, cellT H rfl, cellT H rfl, cellT H rfl, cellT H rfl, cellT H rfl, cellT H rfl, cellT H rfl, cellT H rfl, cellT H rfl, cellT H rfl, cellT H rfl, cellT H rfl⟩
theorem zeroBool (w : World) : (zeroValue 4).run Tryz.prog w = .ok (.bool false) w := by kernel_rfl
set_option maxRecDepth 100000 in
set_option maxHeartbeats 8000000 in
theorem fieldFault_any (f : Mh.Fd) (cs : List Value) (w : World) (b n : Nat) (L : List ByteArray) (m : Int) (hm : w.cell? ⟨1, 0, none⟩ = some (.int .i64 m)) (hf : FdAt w f cs) (hn : f.dv.nodes ≤ 1099511627776) (hM : MapF Tryz.prog 9 w b n (setF L)) :
    Calls Tryz.prog 37 #[.agg cs.toArray, .map (some b)] w fun e w' => ∃ c : Int, e = .returned (.int .i64 c) ∧ (c = 0 ↔ f.ok ∧ f.route ∉ L) ∧ Below w.heap.size w w' := by
  obtain ⟨oa, oc, ia, ic, ka, kc, rfl, hfi⟩ := hf
  have C1 := Lib.hid (fun w' (hb : Below w.heap.size w w') => star_any f.route w' m ((hb.cell (World.block_lt_of_cell? w _ hm)).trans hm) hfi.rt)
  have C2 := Lib.hid (fun w' (hb : Below w.heap.size w w') => check_any f.dv hn _ w' (hfi.dv.keep hb))
  rw [vcs_arr] at C2
  have HRT := Lib.hid hfi.rt
  have HM := Lib.hid (fun w' (hb : Below w.heap.size w w') => hM.below hb)
  obtain ⟨_, _, he, hol, hone⟩ := Sl.shp hfi.one.1
  cases he
  have HC := Lib.hid hone
  have HZ := Lib.hid hfi.one.2
  have HB0 : Hid (Below w.heap.size w (w.alloc (box13 f oa oc ia ic ka kc 52))) := (Below.refl w.heap.size w).alloc (Nat.le_refl _) _
  have HX0 : Hid ((w.alloc (box13 f oa oc ia ic ka kc 52)).heap[w.heap.size]? = some (box13 f oa oc ia ic ka kc 52)) := heap_alloc_new _ _
  unfold box13 at HB0 HX0
  rw [fcs_arr] at HB0 HX0
  rw [fcs_arr]
  clear hfi hm hn hM hone
  go_enter Tryz.func37, Tryz.ntmps37
  obtain ⟨x0, x1, x2, x3, x4, x5, x6, x7, x8, x9, x10, x11, x12⟩ := thirteen_of_block HX0.out
  go_wp2_with fail
  refine (C1.out _ HB0.out).mono ?_
  cases hst : stepsS f.route with
  | none =>
    rintro e w1 ⟨v, rfl, hv, hb1⟩
    have HB1 : Hid (Below w.heap.size w w1) := HB0.out.trans (hb1.mono (by simp <;> omega))
    have HN : Hid (¬ f.ok) := ok_none (.inl hst)
    simp only [Option.isSome_none, Option.getD_none] at hv ⊢
    clear x0 x1 x2 x3 x4 x5 x6 x7 x8 x9 x10 x11 x12 hst hb1
    go_wp2_with fail
    go_ret
    exact ⟨3, rfl, ⟨(fun h => by cases h), fun h => absurd h.1 HN.out⟩, HB1.out⟩
  | some l =>
    rintro e w1 ⟨v, rfl, hv, hb1⟩
    have HB1 : Hid (Below w.heap.size w w1) := HB0.out.trans (hb1.mono (by simp <;> omega))
    have hz1 : w.heap.size + 1 ≤ w1.heap.size := by have := hb1.size; simp at this; omega
    have HX1 := Lib.hid ((hb1.block _ (by simp)).trans HX0.out)
    have HM1 := Lib.hid (HM.out _ HB1.out)
    have HLL := Lib.hid (stepsS_len hst)
    simp only [Option.isSome_some, Option.getD_some] at hv ⊢
    have HST := Lib.hid hst
    have HV := Lib.hid hv
    obtain ⟨la, lc, rfl, _, _⟩ := hv.item
    clear x0 x1 x2 x3 x4 x5 x6 x7 x8 x9 x10 x11 x12 hst hb1 HX0 HB0 HM hv C1
    obtain ⟨x0, x1, x2, x3, x4, x5, x6, x7, x8, x9, x10, x11, x12⟩ := thirteen_of_block HX1.out
    by_cases hl : l = []
    · subst hl
      have HN : Hid (¬ f.ok) := ok_none (.inr HST.out)
      go_wp2_with fail
      go_ret
      exact ⟨3, rfl, ⟨(fun h => by cases h), fun h => absurd h.1 HN.out⟩, HB1.out⟩
    have HO := Lib.hid (ok_iff HST.out hl)
    have hl0 : ((l.length : Int) == 0) = false := by rw [beq_eq_false_iff_ne]; intro h; exact hl (List.length_eq_zero_iff.1 (by omega))
    clear hl
    have hzm := HRT.out
    by_cases hs : f.route ∈ L
    · have HS := Lib.hid hs
      clear hs
      go_wp2_with (at_lookup; refine wpList_lookF _ rfl _ _ 78 rfl 9 4 Tryz.underlying9 Tryz.underlying78 (.bool false) (zeroBool _) b n _ rfl HM1.out f.route rfl hzm (.bool true) (by rw [setF_in HS.out]; rfl) ?_)
      go_ret
      exact ⟨6, rfl, ⟨(fun h => by cases h), fun h => absurd HS.out h.2⟩, HB1.out⟩
    have HS := Lib.hid hs
    clear hs
    go_upto_region 6 with (at_lookup; refine wpList_lookF _ rfl _ _ 78 rfl 9 4 Tryz.underlying9 Tryz.underlying78 (.bool false) (zeroBool _) b n _ rfl HM1.out f.route rfl hzm (.bool false) (by rw [setF_out HS.out]; rfl) ?_)
    go_cut [29] from 30 to 42 (fun v wx => (∃ b : Bool, v = .bool b ∧ Hid (Tst b (kindOk f))) ∧ wx = w1)
    case first =>
      by_cases k1 : f.kind = -1
      · have hq : (f.kind != -1) = false := by rw [k1]; rfl
        have HR : Hid (Tst false (kindOk f)) := .inl k1
        clear k1
        go_wp2_with fail
        go_meet
        exact ⟨⟨_, rfl, HR⟩, rfl⟩
      · have hq : (f.kind != -1) = true := by rw [bne_iff_ne]; exact k1
        by_cases k2 : f.kind < 0
        · have hq2 : decide (f.kind < 0) = true := decide_eq_true k2
          have HR : Hid (Tst true (kindOk f)) := fun h => by rcases h with h | h; exact k1 h; omega
          clear k1 k2
          go_wp2_with fail
          go_meet
          exact ⟨⟨_, rfl, HR⟩, rfl⟩
        · have hq2 : decide (f.kind < 0) = false := decide_eq_false k2
          by_cases k3 : 6 < f.kind
          · have hq3 : decide (6 < f.kind) = true := decide_eq_true k3
            have HR : Hid (Tst true (kindOk f)) := fun h => by rcases h with h | h; exact k1 h; omega
            clear k1 k2 k3
            go_wp2_with fail
            go_meet
            exact ⟨⟨_, rfl, HR⟩, rfl⟩
          · have hq3 : decide (6 < f.kind) = false := decide_eq_false k3
            have HR : Hid (Tst false (kindOk f)) := .inr ⟨by omega, by omega⟩
            clear k1 k2 k3
            go_wp2_with fail
            go_meet
            exact ⟨⟨_, rfl, HR⟩, rfl⟩
    case rest =>
    obtain ⟨⟨b3, rfl, HB3⟩, rfl⟩ := hcut
    cases b3 with
    | true =>
      go_wp2_with fail
      go_ret
      exact ⟨10, rfl, ⟨(fun h => by cases h), fun h => absurd (HO.out.1 h.1).1 HB3.out⟩, HB1.out⟩
    | false =>
    have HK3 : Hid (kindOk f) := HB3.out
    clear HB3
    go_upto_region 8 with fail
    go_cut [43] from 44 to 56 (fun v wx => (∃ b : Bool, v = .bool b ∧ Hid (Tst b (bndOk f))) ∧ wx = wc)
    case first =>
      by_cases k1 : f.bnd = true
      · have HR : Hid (Tst false (bndOk f)) := .inl k1
        rw [k1] at x3
        clear k1
        go_wp2_with fail
        go_meet
        exact ⟨⟨_, rfl, HR⟩, rfl⟩
      · have k1 : f.bnd = false := by simpa using k1
        rw [k1] at x3
        by_cases k2 : f.mn = 0
        · have hq2 : (f.mn != 0) = false := by rw [k2]; rfl
          by_cases k3 : f.mx = 0
          · have hq3 : (f.mx != 0) = false := by rw [k3]; rfl
            have HR : Hid (Tst false (bndOk f)) := .inr ⟨k2, k3⟩
            clear k1 k2 k3
            go_wp2_with fail
            go_meet
            exact ⟨⟨_, rfl, HR⟩, rfl⟩
          · have hq3 : (f.mx != 0) = true := by rw [bne_iff_ne]; exact k3
            have HR : Hid (Tst true (bndOk f)) := fun h => by rcases h with h | h; rw [k1] at h; cases h; exact k3 h.2
            clear k1 k2 k3
            go_wp2_with fail
            go_meet
            exact ⟨⟨_, rfl, HR⟩, rfl⟩
        · have hq2 : (f.mn != 0) = true := by rw [bne_iff_ne]; exact k2
          have HR : Hid (Tst true (bndOk f)) := fun h => by rcases h with h | h; rw [k1] at h; cases h; exact k2 h.1
          clear k1 k2
          go_wp2_with fail
          go_meet
          exact ⟨⟨_, rfl, HR⟩, rfl⟩
    case rest =>
    obtain ⟨⟨b4, rfl, HB4⟩, rfl⟩ := hcut
    cases b4 with
    | true =>
      go_wp2_with fail
      go_ret
      exact ⟨1, rfl, ⟨(fun h => by cases h), fun h => absurd (HO.out.1 h.1).2.1 HB4.out⟩, HB1.out⟩
    | false =>
    have HK4 : Hid (bndOk f) := HB4.out
    clear HB4
    by_cases k5 : f.mx < f.mn
    · have hq : decide (f.mx < f.mn) = true := decide_eq_true k5
      have HR : Hid (¬ ordOk f) := fun h => by have : f.mn ≤ f.mx := h; omega
      clear k5
      go_wp2_with fail
      go_ret
      exact ⟨5, rfl, ⟨(fun h => by cases h), fun h => absurd (HO.out.1 h.1).2.2.1 HR.out⟩, HB1.out⟩
    have hq5 : decide (f.mx < f.mn) = false := decide_eq_false k5
    have HK5 : Hid (ordOk f) := by show f.mn ≤ f.mx; omega
    clear k5
    go_upto_region 12 with fail
    go_cut [63] from 64 to 72 (fun v wx => (∃ b : Bool, v = .bool b ∧ Hid (Tst b (oneOk f))) ∧ wx = wc)
    case first =>
      by_cases k1 : f.one = []
      · have hq : decide (0 < (f.one.length : Int)) = false := by rw [k1]; rfl
        have hq' : decide (0 < f.one.length) = false := by rw [k1]; rfl
        have HR : Hid (Tst false (oneOk f)) := .inl k1
        clear k1
        go_wp2_with fail
        go_meet
        exact ⟨⟨_, rfl, HR⟩, rfl⟩
      · have hq : decide (0 < (f.one.length : Int)) = true := decide_eq_true (by have := List.length_pos_iff.2 k1; omega)
        have hq' : decide (0 < f.one.length) = true := decide_eq_true (List.length_pos_iff.2 k1)
        by_cases k2 : f.kind = 3
        · have hq2 : (f.kind != 3) = false := by rw [k2]; rfl
          have HR : Hid (Tst false (oneOk f)) := .inr k2
          clear k1 k2
          go_wp2_with fail
          go_meet
          exact ⟨⟨_, rfl, HR⟩, rfl⟩
        · have hq2 : (f.kind != 3) = true := by rw [bne_iff_ne]; exact k2
          have HR : Hid (Tst true (oneOk f)) := fun h => by rcases h with h | h; exact k1 h; exact k2 h
          clear k1 k2
          go_wp2_with fail
          go_meet
          exact ⟨⟨_, rfl, HR⟩, rfl⟩
    case rest =>
    obtain ⟨⟨b6, rfl, HB6⟩, rfl⟩ := hcut
    cases b6 with
    | true =>
      go_wp2_with fail
      go_ret
      exact ⟨1, rfl, ⟨(fun h => by cases h), fun h => absurd (HO.out.1 h.1).2.2.2.1 HB6.out⟩, HB1.out⟩
    | false =>
    have HK6 : Hid (oneOk f) := HB6.out
    clear HB6
    go_wp2_with fail
    go_loopw [76] (fun i wr => ∃ (j : Nat), i = .int .i64 j ∧ Hid (j ≤ f.one.length ∧ strsOk (f.one.take j)) ∧ wr = wc) (fun i _ => f.one.length - (intOf i).toNat)
    case atStart => exact ⟨0, rfl, ⟨by omega, fun s hs => by simp at hs⟩, rfl⟩
    case round =>
      obtain ⟨j, rfl, HJ, rfl⟩ := hrel
      unfold maxLen at hol
      have hle := HJ.out.1
      by_cases hj : j < f.one.length
      · obtain ⟨bb, off, rfl, _, _, hlt, hcl⟩ := HC.out (by omega)
        have hcj := hcl j (.string f.one[j]) (by simp [hj])
        have c0 : wr.cell? ⟨bb, off + j, none⟩ = some (.string f.one[j]) := (HB1.out.cell (p := ⟨bb, off + j, none⟩) hlt).trans hcj
        have hsz : f.one[j].size ≤ maxLen := HZ.out _ (List.getElem_mem hj)
        have HSN : Hid (∀ (h : f.one[j].size ≤ 5000 ∧ badL f.one[j].data.toList = false), strsOk (f.one.take (j + 1))) := fun h => strs_next hj HJ.out.2 h
        have HSF : Hid (∀ (h : ¬ (f.one[j].size ≤ 5000 ∧ badL f.one[j].data.toList = false)), ¬ strsOk f.one) := fun h h2 => h (h2 _ (List.getElem_mem hj))
        have CB := Lib.hid (badBytes_any f.one[j] wr hsz)
        clear hlt hcl hcj HC
        by_cases h5 : 5000 < f.one[j].size
        · have hq : decide (5000 < (f.one[j].size : Int)) = true := decide_eq_true (by omega)
          have HN : Hid (¬ strsOk f.one) := HSF.out fun h => by omega
          clear HSN HSF CB h5 hsz
          generalize f.one[j] = s at *
          go_wp2_with fail
          go_ret
          exact ⟨4, rfl, ⟨(fun h => by cases h), fun h => absurd (HO.out.1 h.1).2.2.2.2.1 HN.out⟩, HB1.out⟩
        · have hq : decide (5000 < (f.one[j].size : Int)) = false := decide_eq_false (by omega)
          by_cases hb : badL f.one[j].data.toList = true
          · have HN : Hid (¬ strsOk f.one) := HSF.out fun h => by rw [hb] at h; cases h.2
            have CB2 := CB.out
            rw [hb] at CB2
            have CB3 := Lib.hid CB2
            clear HSN HSF CB CB2 h5 hsz hb
            generalize f.one[j] = s at *
            go_wp2_with fail
            refine CB3.out.mono ?_
            rintro e w2 ⟨rfl, rfl⟩
            go_wp2_with fail
            go_ret
            exact ⟨9, rfl, ⟨(fun h => by cases h), fun h => absurd (HO.out.1 h.1).2.2.2.2.1 HN.out⟩, HB1.out⟩
          · have hb : badL f.one[j].data.toList = false := by simpa using hb
            have HJ2 : Hid (j + 1 ≤ f.one.length ∧ strsOk (f.one.take (j + 1))) := ⟨hj, HSN.out ⟨by omega, hb⟩⟩
            have CB2 := CB.out
            rw [hb] at CB2
            have CB3 := Lib.hid CB2
            clear HSN HSF CB CB2 h5 hsz hb
            generalize f.one[j] = s at *
            go_wp2_with fail
            refine CB3.out.mono ?_
            rintro e w2 ⟨rfl, rfl⟩
            go_wp2_with fail
            go_roundw
            case rel => exact ⟨j + 1, by go_num, HJ2, (by first | trivial | rfl)⟩
            case measure => simp [intOf]; omega
      · obtain rfl : j = f.one.length := by omega
        have HK7 : Hid (strsOk f.one) := by have := HJ.out.2; rw [List.take_length] at this; exact this
        have C21 := Lib.hid (C2.out _ HB1.out)
        clear HJ HC HZ C2
        go_wp2_with fail
        refine C21.out.mono ?_
        rintro e w2 ⟨c, rfl, hc, hb2⟩
        have HB2 : Hid (Below w.heap.size w w2) := HB1.out.trans (hb2.mono (by have := HB1.out.size; omega))
        by_cases hc0 : c = 0
        · subst hc0
          have HK8 : Hid f.dv.okc := hc.1 rfl
          have HX2 := Lib.hid ((hb2.block w.heap.size (by omega)).trans HX1.out)
          have HV2 := Lib.hid (HV.out.below hb2)
          clear hc hb2 x0 x1 x2 x3 x4 x5 x6 x7 x8 x9 x10 x11 x12 HX1 HV HB1 C21
          obtain ⟨x0, x1, x2, x3, x4, x5, x6, x7, x8, x9, x10, x11, x12⟩ := thirteen_of_block HX2.out
          go_upto_region 25 with fail
          go_cut [108] from 92 to 107 (fun v wx => (∃ b : Bool, v = .bool b ∧ Hid (Tst b (dkOk f))) ∧ wx = w2)
          case first =>
            by_cases k1 : f.dv.kd = 0
            · have hq : (f.dv.kd != 0) = false := by rw [k1]; rfl
              have HR : Hid (Tst false (dkOk f)) := .inl k1
              clear k1
              go_wp2_with fail
              go_meet
              exact ⟨⟨_, rfl, HR⟩, rfl⟩
            · have hq : (f.dv.kd != 0) = true := by rw [bne_iff_ne]; exact k1
              by_cases k2 : f.kind = -1
              · have hq2 : (f.kind != -1) = false := by rw [k2]; rfl
                have HR : Hid (Tst false (dkOk f)) := .inr (.inl k2)
                clear k1 k2
                go_wp2_with fail
                go_meet
                exact ⟨⟨_, rfl, HR⟩, rfl⟩
              · have hq2 : (f.kind != -1) = true := by rw [bne_iff_ne]; exact k2
                by_cases k3 : f.dv.kd = f.kind
                · have hq3 : (f.dv.kd != f.kind) = false := by rw [k3]; simp
                  have HR : Hid (Tst false (dkOk f)) := .inr (.inr k3)
                  clear k1 k2 k3
                  go_wp2_with fail
                  go_meet
                  exact ⟨⟨_, rfl, HR⟩, rfl⟩
                · have hq3 : (f.dv.kd != f.kind) = true := by rw [bne_iff_ne]; exact k3
                  have HR : Hid (Tst true (dkOk f)) := fun h => by rcases h with h | h | h; exact k1 h; exact k2 h; exact k3 h
                  clear k1 k2 k3
                  go_wp2_with fail
                  go_meet
                  exact ⟨⟨_, rfl, HR⟩, rfl⟩
          case rest =>
          obtain ⟨⟨b9, rfl, HB9⟩, rfl⟩ := hcut
          cases b9 with
          | true =>
            go_wp2_with fail
            go_ret
            exact ⟨10, rfl, ⟨(fun h => by cases h), fun h => absurd (HO.out.1 h.1).2.2.2.2.2.2.1 HB9.out⟩, HB2.out⟩
          | false =>
          have HK9 : Hid (dkOk f) := HB9.out
          clear HB9
          by_cases k1 : f.dv.kd = 0
          · have hq : (f.dv.kd != 0) = false := by rw [k1]; rfl
            have HK10 : Hid (starOk f l) := .inl k1
            clear k1
            go_wp2_with fail
            go_ret
            exact ⟨0, rfl, ⟨fun _ => ⟨HO.out.2 ⟨HK3.out, HK4.out, HK5.out, HK6.out, HK7.out, HK8.out, HK9.out, HK10.out⟩, HS.out⟩, fun _ => rfl⟩, HB2.out⟩
          · have hq : (f.dv.kd != 0) = true := by rw [bne_iff_ne]; exact k1
            have HK1 := Lib.hid k1
            clear k1
            go_wp2_with fail
            refine (hasStar_any l _ _ HV2.out (by have := HLL.out; omega)).mono ?_
            rintro e w3 ⟨rfl, hb3⟩
            have HB3 : Hid (Below w.heap.size w w3) := HB2.out.trans (hb3.mono HB2.out.size)
            clear hb3
            cases hs : l.any St.star with
            | true =>
              have HR : Hid (¬ starOk f l) := fun h => by rcases h with h | h; exact HK1.out h; rw [hs] at h; cases h
              clear hs
              go_wp2_with fail
              go_ret
              exact ⟨1, rfl, ⟨(fun h => by cases h), fun h => absurd (HO.out.1 h.1).2.2.2.2.2.2.2 HR.out⟩, HB3.out⟩
            | false =>
              have HK10 : Hid (starOk f l) := .inr hs
              clear hs
              go_wp2_with fail
              go_ret
              exact ⟨0, rfl, ⟨fun _ => ⟨HO.out.2 ⟨HK3.out, HK4.out, HK5.out, HK6.out, HK7.out, HK8.out, HK9.out, HK10.out⟩, HS.out⟩, fun _ => rfl⟩, HB3.out⟩
        · have hq : (c != 0) = true := by rw [bne_iff_ne]; exact hc0
          have HC0 := Lib.hid hc0
          have HCC := Lib.hid hc
          clear hc0 hc hb2
          go_wp2_with fail
          go_ret
          exact ⟨c, rfl, ⟨fun h => absurd h HC0.out, fun h => absurd (HCC.out.2 (HO.out.1 h.1).2.2.2.2.2.1) HC0.out⟩, HB2.out⟩
end Go.Proofs.YtejnoedlfbglcaaGreatDoor
namespace Go.Proofs.YtejnoedlfbglcaaGreatDoor
open Go.RowKit Mh
set_option linter.unusedVariables false

/-- What stands in the loop: j fields are right, and their routes are in the map. -/
structure CsIn (fs : List Mh.Fd) (w wr : World) (b j : Nat) : Prop where
  le : j ≤ fs.length
  ok : ∀ i (h : i < fs.length), i < j → fs[i].ok ∧ fs[i].route ∉ (fs.take i).map Mh.Fd.route
  map : MapF Tryz.prog 9 wr b j (setF ((fs.take j).map Mh.Fd.route))
  below : Below w.heap.size w wr
  big : w.heap.size ≤ b
  bs : ∃ c0 c1, wr.heap[w.heap.size]? = some (.cells #[c0, c1] 24 (0, 0))
theorem CsIn.next {fs : List Mh.Fd} {w wr w3 w4 : World} {b j : Nat} (h : CsIn fs w wr b j) (hj : j < fs.length) (hok : fs[j].ok ∧ fs[j].route ∉ (fs.take j).map Mh.Fd.route)
    (hb : Below wr.heap.size wr w3) (hM : MapF Tryz.prog 9 w4 b (j + 1) (fun q => if q = fs[j].route then some (.bool true) else setF ((fs.take j).map Mh.Fd.route) q)) (hg : w3.grownBy w4 (some b)) (hne : b ≠ w.heap.size) : CsIn fs w w4 b (j + 1) := by
  have hz := h.below.size
  have hb3 : Below w.heap.size w w3 := h.below.trans (hb.mono hz)
  refine ⟨hj, ?_, ?_, hb3.grown hg hb3.size (fun k hk => by cases hk; exact h.big), h.big, ?_⟩
  · intro i hi hij
    by_cases e : i = j
    · subst e; exact hok
    · exact h.ok i hi (by omega)
  · refine hM.ext fun s _ => ?_
    rw [List.take_succ_eq_append_getElem hj, List.map_append]
    exact setF_put _ _ _
  · obtain ⟨c0, c1, hc⟩ := h.bs
    have hlt : w.heap.size < wr.heap.size := by
      rcases Nat.lt_or_ge w.heap.size wr.heap.size with h1 | h1
      · exact h1
      · rw [Array.getElem?_eq_none h1] at hc; cases hc
    refine ⟨c0, c1, ?_⟩
    rw [hg.block w.heap.size (by have := hb.size; omega) (by simp [Ne.symm hne]), hb.block _ hlt]
    exact hc
set_option maxRecDepth 100000 in
set_option maxHeartbeats 8000000 in
theorem checkSchema_any (fs : List Mh.Fd) (fv : Value) (sb : Bool) (w : World) (m : Int) (hm : w.cell? ⟨1, 0, none⟩ = some (.int .i64 m)) (h : FsAt w fv fs) (hn : ∀ f ∈ fs, f.dv.nodes ≤ 1099511627776) :
    Calls Tryz.prog 16 #[.agg #[fv, .bool sb]] w fun e w' => ∃ c : Int, e = .returned (.int .i64 c) ∧ (c = 0 ↔ fdsOk fs) ∧ Below w.heap.size w w' := by
  obtain ⟨ao, ac, rfl, hlm, hfield⟩ := h.field
  have HC := Lib.hid hfield
  have C1 := Lib.hid (fun (f : Mh.Fd) (cs : List Value) (b n : Nat) (L : List ByteArray) w' (hb : Below w.heap.size w w') (hf : FdAt w' f cs) (hn : f.dv.nodes ≤ 1099511627776) (hM : MapF Tryz.prog 9 w' b n (setF L)) => fieldFault_any f cs w' b n L m ((hb.cell (World.block_lt_of_cell? w _ hm)).trans hm) hf hn hM)
  have HN := Lib.hid hn
  have HB0 : Hid (Below w.heap.size w (w.alloc (.cells #[.slice ao fs.length ac, .bool sb] 24))) := (Below.refl w.heap.size w).alloc (Nat.le_refl _) _
  have HX0 : Hid ((w.alloc (.cells #[.slice ao fs.length ac, .bool sb] 24)).heap[w.heap.size]? = some (.cells #[.slice ao fs.length ac, .bool sb] 24)) := heap_alloc_new _ _
  have HI0 : Hid (CsIn fs w ((w.alloc (.cells #[.slice ao fs.length ac, .bool sb] 24)).alloc (.map #[] 0)) (w.heap.size + 1) 0) := by
    refine ⟨Nat.zero_le _, fun i hi h => by omega, ?_, HB0.out.alloc (by simp) _, by omega, ⟨_, _, (heap_alloc_old _ _ (by simp)).trans HX0.out⟩⟩
    have := mapF_made (w.alloc (.cells #[.slice ao fs.length ac, .bool sb] 24)) Tryz.prog 9
    rw [show (w.alloc (.cells #[.slice ao fs.length ac, .bool sb] 24)).heap.size = w.heap.size + 1 by simp] at this
    exact this.ext fun s _ => rfl
  unfold maxLen at hlm
  clear hfield h hm hn
  go_enter Tryz.func16, Tryz.ntmps16
  by_cases h1 : 100 < fs.length
  · have hq : decide (100 < (fs.length : Int)) = true := decide_eq_true (by omega)
    have HF : Hid (¬ fdsOk fs) := fun h => by have := h.1; omega
    clear h1
    go_wp2_with fail
    go_ret
    exact ⟨4, rfl, ⟨(fun h => by cases h), fun h => absurd h HF.out⟩, HB0.out⟩
  have hq : decide (100 < (fs.length : Int)) = false := decide_eq_false (by omega)
  have h100 : fs.length ≤ 100 := by omega
  clear h1
  go_wp2_with (rw [run_makeMap])
  go_loopw [15] (fun i wr => ∃ (j : Nat), i = .int .i64 j ∧ Hid (CsIn fs w wr (w.heap.size + 1) j)) (fun i _ => fs.length - (intOf i).toNat)
  case atStart => exact ⟨0, rfl, HI0⟩
  case round =>
    obtain ⟨j, rfl, HI⟩ := hrel
    have hle := HI.out.le
    by_cases hj : j < fs.length
    · obtain ⟨bb, off, oa, oc, ia, ic, ka, kc, rfl, hlt, hfd, hcl⟩ := HC.out j hj
      obtain ⟨y0, y1, y2, y3, y4, y5, y6, y7, y8, y9, y10, y11, y12⟩ := thirteen_later HI.out.below hlt hcl
      have HFD := Lib.hid (hfd.keep HI.out.below)
      have HNJ := Lib.hid (HN.out fs[j] (List.getElem_mem hj))
      have HJN : Hid (∀ (hok : fs[j].ok ∧ fs[j].route ∉ (fs.take j).map Mh.Fd.route) w3 w4 (hb : Below wr.heap.size wr w3) (hM : MapF Tryz.prog 9 w4 (w.heap.size + 1) (j + 1) (fun q => if q = fs[j].route then some (.bool true) else setF ((fs.take j).map Mh.Fd.route) q)) (hg : w3.grownBy w4 (some (w.heap.size + 1))), CsIn fs w w4 (w.heap.size + 1) (j + 1)) := fun hok w3 w4 hb hM hg => HI.out.next hj hok hb hM hg (by omega)
      have HJF : Hid (∀ (hok : ¬ (fs[j].ok ∧ fs[j].route ∉ (fs.take j).map Mh.Fd.route)), ¬ fdsOk fs) := fun h h2 => h (h2.2 j hj)
      have hz := HI.out.below.size
      have hbz : w.heap.size + 1 < wr.heap.size := HI.out.map.lt
      generalize fs[j] = f at *
      generalize hL : (fs.take j).map Mh.Fd.route = L at *
      have HB1 : Hid (Below wr.heap.size wr (wr.alloc (box13 f oa oc ia ic ka kc 52))) := (Below.refl _ wr).alloc (Nat.le_refl _) _
      have HX1 : Hid ((wr.alloc (box13 f oa oc ia ic ka kc 52)).heap[wr.heap.size]? = some (box13 f oa oc ia ic ka kc 52)) := heap_alloc_new _ _
      have hM1 : MapF Tryz.prog 9 (wr.alloc (box13 f oa oc ia ic ka kc 52)) (w.heap.size + 1) j (setF L) := by have := HI.out.map; rw [hL] at this; exact this.alloc _
      have HM1 := Lib.hid hM1
      have CF := Lib.hid (C1.out f _ _ _ _ _ (HI.out.below.trans (HB1.out.mono hz)) ⟨oa, oc, ia, ic, ka, kc, rfl, hfd.keep (HI.out.below.trans (HB1.out.mono hz))⟩ HNJ.out hM1)
      have hrz := hfd.rt
      unfold box13 at HB1 HX1 HM1 CF
      rw [fcs_arr] at HB1 HX1 HM1 CF
      have HZJ : Hid (j < maxLen) := by unfold maxLen; show _ < _; omega
      clear hlt hcl hfd hM1 HNJ HFD HC C1 HN hL
      go_wp2_with fail
      refine CF.out.mono ?_
      rintro e w3 ⟨c, rfl, hc, hb3⟩
      have HB3 : Hid (Below wr.heap.size wr w3) := HB1.out.trans (hb3.mono (by simp))
      have HX3 := Lib.hid ((hb3.block _ (by simp)).trans HX1.out)
      have HM3 := Lib.hid (HM1.out.below hb3)
      by_cases hc0 : c = 0
      · subst hc0
        have HOK := Lib.hid (hc.1 rfl)
        clear y0 y1 y2 y3 y4 y5 y6 y7 y8 y9 y10 y11 y12 hc hb3 HX1 HM1 HB1 CF
        obtain ⟨y0, y1, y2, y3, y4, y5, y6, y7, y8, y9, y10, y11, y12⟩ := thirteen_of_block HX3.out
        go_wp2_with (at_mapUpdate; refine wpList_putF _ rfl _ _ _ 78 rfl 9 4 Tryz.underlying9 Tryz.underlying78 (w.heap.size + 1) j _ rfl HM3.out HZJ.out f.route rfl hrz (.bool true) rfl ?_; intro w4 hM4 hg4)
        have HI4 := Lib.hid (HJN.out HOK.out w3 w4 HB3.out hM4 hg4)
        clear hM4 hg4 y0 y1 y2 y3 y4 y5 y6 y7 y8 y9 y10 y11 y12 HX3 HM3 HB3 HJN HJF HI
        go_roundw
        case rel => exact ⟨j + 1, by go_num, HI4⟩
        case measure => simp [intOf]; omega
      · have hq : (c != 0) = true := by rw [bne_iff_ne]; exact hc0
        have HC0 := Lib.hid hc0
        have HF : Hid (¬ fdsOk fs) := HJF.out fun h => hc0 (hc.2 h)
        have HBF : Hid (Below w.heap.size w w3) := HI.out.below.trans (HB3.out.mono hz)
        clear hc hc0 hb3
        go_wp2_with fail
        go_ret
        exact ⟨c, rfl, ⟨fun h => absurd h HC0.out, fun h => absurd h HF.out⟩, HBF.out⟩
    · obtain rfl : j = fs.length := by omega
      have HF : Hid (fdsOk fs) := ⟨h100, fun i hi => HI.out.ok i hi hi⟩
      have HBF := Lib.hid HI.out.below
      clear HI HC HN C1
      go_wp2_with fail
      go_ret
      exact ⟨0, rfl, ⟨fun _ => HF.out, fun _ => rfl⟩, HBF.out⟩
end Go.Proofs.YtejnoedlfbglcaaGreatDoor
