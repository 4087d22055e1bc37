/- ship.Moved. Conditions: the library's variable MaxLen holds an integer; strings of redirects of at most 2^40 bytes. -/
import Derived.Test.YtdjcificgilimaaDoorMvR
import Derived.Test.YtdjcificgilimaaDoorStM
import Derived.WalkMore
import Derived.WideMake
import Derived.Maps.AppendAt
namespace Mh
open Go Go.RowKit
set_option linter.unusedVariables false
theorem take_next {α : Type} {l : List α} {k : Nat} (h : k < l.length) : l.take (k + 1) = l.take k ++ [l[k]] := by rw [List.take_add_one, List.getElem?_eq_getElem h]; rfl
theorem suf_idxE (a : ByteArray) : Lib.hasSuffix a.data.toList (⟨#[47, 105, 110, 100, 101, 120, 46, 104, 116, 109, 108]⟩ : ByteArray).data.toList = idxE a := rfl
/-- The keys of the first redirects are all different. -/
def Apart (rs : List O) : Prop := rs.Pairwise (fun r q => key0 r.p ≠ key0 q.p)
theorem nextF_none {rs : List O} {k : ByteArray} (h : nextF rs k = none) : ∀ r ∈ rs, key0 r.p ≠ k := fun r hr => bodF_none h ⟨key0 r.p, key0 r.b⟩ (List.mem_map.2 ⟨r, hr, rfl⟩)
theorem nextF_some {rs : List O} {k a : ByteArray} (h : nextF rs k = some a) : ∃ r ∈ rs, key0 r.p = k := by
  obtain ⟨x, hx, h1, h2⟩ := bodF_mem h
  obtain ⟨r, hr, rfl⟩ := List.mem_map.1 hx
  exact ⟨r, hr, h1⟩
theorem nextF_size {rs : List O} {k a : ByteArray} (h : nextF rs k = some a) : a.size ≤ maxLen := by
  obtain ⟨x, hx, h1, h2⟩ := bodF_mem h
  obtain ⟨r, hr, rfl⟩ := List.mem_map.1 hx
  rw [← h2]
  exact Nat.le_trans key0_size (by decide)
theorem apart_snoc {rs : List O} {r : O} (h : Apart rs) (hn : nextF rs (key0 r.p) = none) : Apart (rs ++ [r]) := by
  unfold Apart
  rw [List.pairwise_append]
  refine ⟨h, by simp, fun a ha b hb => ?_⟩
  rw [List.mem_singleton] at hb
  subst hb
  exact nextF_none hn a ha
theorem apart_not {rs : List O} {k : Nat} (hk : k < rs.length) {a : ByteArray} (hn : nextF (rs.take k) (key0 rs[k].p) = some a) : ¬ Apart rs := fun h => by
  obtain ⟨r, hr, e⟩ := nextF_some hn
  obtain ⟨j, hj, rfl⟩ := List.mem_take_iff_getElem.1 hr
  unfold Apart at h
  rw [List.pairwise_iff_getElem] at h
  exact h j k (by omega) hk (by omega) e
end Mh
namespace Go.Proofs.YtdjcificgilimaaDoor
open Go.RowKit Mh
set_option linter.unusedVariables false
theorem address_okM (o : O) (ho : o.p.size ≤ maxLen) (hp : pathB o.p.data.toList = true) (m : Int) (w : World) (hm : w.cell? ⟨0, 0, none⟩ = some (.int .i64 m)) :
    Calls Tryd.prog 12 #[.string o.p] w fun e w' => e = .returned (.tuple #[.string (adBP o), .int .i64 0]) ∧ Below w.heap.size w w' := by
  refine (address_any o.p ho m w hm).mono ?_
  rintro e w' ⟨a, r, rfl, hb, h⟩
  obtain ⟨rfl, h2⟩ := h.out.1 hp
  have : a = adBP o := bytes_eq h2
  exact ⟨by rw [this], hb⟩
theorem two_cells (w : World) (x0 x1 : Value) (t : TypeId) : ∀ j u, [x0, x1][j]? = some u → (w.alloc (.cells #[x0, x1] t)).cell? ((⟨w.heap.size, 0, none⟩ : Addr).add j) = some u := by
  intro j u hu
  rcases j with _ | _ | j
  · exact cellT (heap_alloc_new w _) hu
  · exact cellT (heap_alloc_new w _) hu
  · simp at hu
def MovG (l rs : List O) (w : World) (e : Ending) (w' : World) : Prop := ∃ (gv lv : Value) (r : Int), e = .returned (.tuple #[gv, lv, .int .i64 r]) ∧ Below w.heap.size w w' ∧ (r = 0 ↔ Outs l ∧ MovOk rs) ∧ (r ≠ 0 → gv = .slice none 0 0 ∧ lv = .slice none 0 0) ∧
  (r = 0 → OsAt w' gv (sortR rs l) ∧ OsAt w' lv (leftR rs l))
attribute [local go_sem ↓] run_makeMap_plain
set_option maxRecDepth 100000 in
set_option maxHeartbeats 8000000 in
theorem moved_any (v u : Value) (l rs : List O) (m : Int) (w : World) (hm : w.cell? ⟨0, 0, none⟩ = some (.int .i64 m)) (hv : OsAt w v l) (hu : OsAt w u rs) (hsz : ∀ r ∈ rs, r.p.size ≤ 1099511627776 ∧ r.b.size ≤ 1099511627776) : Calls Tryd.prog 5 #[v, u] w (MovG l rs w) := by
  have hmz : 0 < w.heap.size := World.block_lt_of_cell? w _ hm
  have HML : Hid (∀ w', Below w.heap.size w w' → w'.cell? ⟨0, 0, none⟩ = some (.int .i64 m)) := fun w' hb => (hb.cell hmz).trans hm
  obtain ⟨ao, c, rfl, hlen, hat⟩ := hv.open
  have HAT := Lib.hid hat
  obtain ⟨bo, c2, rfl, hlen2, hat2⟩ := hu.open
  have HAU := Lib.hid hat2
  have C1 := Lib.hid (checkOuts_any _ l m w hm hv)
  have HKE := Lib.hid (fun (a : ByteArray) (ha : a.size ≤ 1099511627776) w' (hb : Below w.heap.size w w') => keyB_any a ha m w' (HML.out w' hb))
  have HTS := Lib.hid (fun (s : ByteArray) (hs : s.size ≤ 9223372036854775807) w' => Tryd.strings_TrimSuffix s ⟨#[47]⟩ w' hs)
  have HSF : Hid (∀ (s : ByteArray) (hs : s.size ≤ 9223372036854775807) w', Calls Tryd.prog 11 #[.string s, .string ⟨#[47, 105, 110, 100, 101, 120, 46, 104, 116, 109, 108]⟩] w' fun e w'' => e = .returned (.bool (idxE s)) ∧ w'' = w') := fun s hs w' => Tryd.strings_HasSuffix s ⟨#[47, 105, 110, 100, 101, 120, 46, 104, 116, 109, 108]⟩ w' hs
  have HSZ := Lib.hid hsz
  unfold maxLen at hlen hlen2
  clear hv hat hm hu hat2 hsz
  go_enter Tryd.func5, Tryd.ntmps5
  go_wp2_with fail
  go_step3
  go_wp2_with fail
  refine C1.out.mono ?_
  rintro e w1 ⟨r1, rfl, hr1, hb1⟩
  have HB1 := Lib.hid hb1
  clear hb1 C1
  by_cases h1 : r1 = 0
  case neg =>
    have hq : (r1 != 0) = true := by rw [bne_iff_ne]; exact h1
    have HR : Hid (r1 ≠ 0 ∧ (r1 = 0 ↔ Outs l)) := ⟨h1, hr1⟩
    clear h1 hr1
    go_wp2_with fail
    rw [Exit.noGoto_ret]
    exact bodyPost_ret (v := .tuple #[.slice none 0 0, .slice none 0 0, .int .i64 r1]) (by simp [results, Tryd.results5, go_sem]) rfl ⟨_, _, _, rfl, HB1.out, ⟨fun h => absurd h HR.out.1, fun h => absurd (HR.out.2.2 h.1) HR.out.1⟩, fun _ => ⟨rfl, rfl⟩, fun h => absurd h HR.out.1⟩
  have HO := Lib.hid (hr1.1 h1)
  have hq : (r1 != 0) = false := by rw [bne_eq_false_iff_eq]; exact h1
  have hl480 := HO.out.1
  clear h1 hr1
  by_cases h60 : 60 < rs.length
  · have q1 : decide ((60 : Int) < rs.length) = true := decide_eq_true (by omega)
    have q2 : decide (60 < rs.length) = true := decide_eq_true h60
    have HN : Hid (¬ MovOk rs) := fun h => by have := h.1; omega
    clear h60
    go_wp2_with fail
    rw [Exit.noGoto_ret]
    exact bodyPost_ret (v := .tuple #[.slice none 0 0, .slice none 0 0, .int .i64 4]) (by simp [results, Tryd.results5, go_sem]) rfl ⟨_, _, _, rfl, HB1.out, ⟨fun h => absurd h (by decide), fun h => absurd h.2 HN.out⟩, fun _ => ⟨rfl, rfl⟩, fun h => absurd h (by decide)⟩
  have hr60 : rs.length ≤ 60 := by omega
  have q1 : decide ((60 : Int) < rs.length) = false := decide_eq_false (by omega)
  have q2 : decide (60 < rs.length) = false := decide_eq_false h60
  have HM0 : Hid (StrM (w1.alloc (.map #[] 0)) w1.heap.size 0 (nextF (rs.take 0))) := StrM.made w1
  have HB0 : Hid (Below w.heap.size w (w1.alloc (.map #[] 0))) := HB1.out.alloc HB1.out.size _
  have hw1 : w.heap.size ≤ w1.heap.size := HB1.out.size
  clear h60
  go_wp2_with fail
  clear q1 q2 hq
  go_loopw [45] (fun i wr => ∃ k : Nat, k ≤ rs.length ∧ i = .int .i64 k ∧ Hid (StrM wr w1.heap.size k (nextF (rs.take k))) ∧ Hid ((∀ r ∈ rs.take k, RedOk r) ∧ Apart (rs.take k)) ∧ Hid (Below w.heap.size w wr)) (fun i wr => rs.length - (intOf i).toNat)
  case atStart => exact ⟨0, Nat.zero_le _, rfl, HM0, ⟨fun r h => by simp at h, by unfold Apart; simp⟩, HB0⟩
  case round =>
    as_aux_lemma =>
    clear HM0 HB0
    obtain ⟨k, hk, rfl, HM, HI, HB⟩ := hrel
    obtain ⟨wo, rfl⟩ : ∃ wo : World, wo = wr := ⟨_, rfl⟩
    by_cases hkl : k < rs.length
    · obtain ⟨b, off, rfl, hc1, hc2, hlt, hc, hps, hbs⟩ := HAU.out k hkl
      -- S1
      obtain ⟨d0, d1⟩ := two_later HB.out hlt hc
      have hszk := HSZ.out rs[k] (List.getElem_mem hkl)
      have HX1 : Hid ((wo.alloc (.cells #[.string rs[k].p, .string rs[k].b] 29)).heap[wo.heap.size]? = some (.cells #[.string rs[k].p, .string rs[k].b] 29 (0, 0))) := heap_alloc_new _ _
      have HBX : Hid (Below wo.heap.size wo (wo.alloc (.cells #[.string rs[k].p, .string rs[k].b] 29))) := below_alloc _ _
      have HBW : Hid (Below w.heap.size w (wo.alloc (.cells #[.string rs[k].p, .string rs[k].b] 29))) := HB.out.trans (HBX.out.mono HB.out.size)
      have HK1 := Lib.hid (fun w' (hb : Below w.heap.size w w') => HKE.out rs[k].p hszk.1 w' hb)
      have HK2 := Lib.hid (fun w' (hb : Below w.heap.size w w') => HKE.out rs[k].b hszk.2 w' hb)
      have HF1 := Lib.hid (fun w' => HSF.out rs[k].p (by omega) w')
      have HF2 := Lib.hid (fun w' => HSF.out rs[k].b (by omega) w')
      have HRE : Hid (RedOk rs[k] ↔ (keyB rs[k].p).isSome = true ∧ (keyB rs[k].b).isSome = true ∧ idxE rs[k].p = false ∧ idxE rs[k].b = false) := Iff.rfl
      have HBAD : Hid (¬ RedOk rs[k] → ¬ MovOk rs) := fun h g => h (g.2.1 _ (List.getElem_mem hkl))
      have HTK := Lib.hid (take_next hkl)
      have HAP : Hid (∀ a, nextF (rs.take k) (key0 rs[k].p) = some a → ¬ MovOk rs) := fun a h g => apart_not hkl h g.2.2
      have HSN : Hid (∀ q, nextF (rs.take (k + 1)) q = if q = key0 rs[k].p then some (key0 rs[k].b) else nextF (rs.take k) q) := fun q => by rw [HTK.out]; exact nextF_snoc _ _ _
      have HIN : Hid (RedOk rs[k] → nextF (rs.take k) (key0 rs[k].p) = none → (∀ r ∈ rs.take (k + 1), RedOk r) ∧ Apart (rs.take (k + 1))) := fun h1 h2 => by
        rw [HTK.out]
        refine ⟨fun r hr => ?_, apart_snoc HI.out.2 h2⟩
        rcases List.mem_append.1 hr with hr | hr
        · exact HI.out.1 r hr
        · rw [List.mem_singleton] at hr; subst hr; exact h1
      have hk1 : (key0 rs[k].p).size ≤ maxLen := Nat.le_trans key0_size (by decide)
      have HKS := Lib.hid hk1
      clear hc hszk hk1 HTK
      generalize key0 rs[k].p = k1 at *
      generalize key0 rs[k].b = k2 at *
      generalize keyB rs[k].p = o1 at *
      generalize keyB rs[k].b = o2 at *
      generalize idxE rs[k].p = x1 at *
      generalize idxE rs[k].b = x2 at *
      generalize RedOk rs[k] = RO at *
      generalize rs[k] = r at *
      go_wp2_with fail
      refine (HK1.out _ HBW.out).mono ?_
      rintro e w2 ⟨rfl, hb2⟩
      have HB2 : Hid (Below w.heap.size w w2) := HBW.out.trans (hb2.mono HBW.out.size)
      have HX2 := Lib.hid ((hb2.block _ (Array.getElem?_eq_some_iff.1 HX1.out).1).trans HX1.out)
      have HM2 := Lib.hid (HM.out.block ((hb2.block _ (Nat.lt_of_lt_of_le HM.out.lt HBX.out.size)).trans (HBX.out.block _ HM.out.lt)))
      obtain ⟨e0, e1⟩ := pair_of_block HX2.out
      clear hb2 d0 d1
      go_wp2_with fail
      refine (HK2.out _ HB2.out).mono ?_
      rintro e w3 ⟨rfl, hb3⟩
      have HB3 : Hid (Below w.heap.size w w3) := HB2.out.trans (hb3.mono HB2.out.size)
      have HX3 := Lib.hid ((hb3.block _ (Array.getElem?_eq_some_iff.1 HX2.out).1).trans HX2.out)
      have HM3 := Lib.hid (HM2.out.below hb3)
      clear hb3 e0 e1 HX1 HX2 HM HM2 HK1 HK2 HBX HBW HB2
      obtain ⟨e0, e1⟩ := pair_of_block HX3.out
      have BADR : Hid (¬ RO → bodyPost Tryd.prog Tryd.f5 (fun e w' => True) .ret ⟨#[], []⟩ w3 → True) := fun _ _ => trivial
      clear BADR
      cases hs1 : o1.isSome with
      | false =>
        have HN := Lib.hid (HBAD.out fun h => by have := (HRE.out.1 h).1; rw [hs1] at this; cases this)
        go_wp2_with fail
        rw [Exit.noGoto_ret]
        exact bodyPost_ret (v := .tuple #[.slice none 0 0, .slice none 0 0, .int .i64 3]) (by simp [results, Tryd.results5, go_sem]) rfl ⟨_, _, _, rfl, HB3.out, ⟨fun h => absurd h (by decide), fun h => absurd h.2 HN.out⟩, fun _ => ⟨rfl, rfl⟩, fun h => absurd h (by decide)⟩
      | true =>
      cases hs2 : o2.isSome with
      | false =>
        have HN := Lib.hid (HBAD.out fun h => by have := (HRE.out.1 h).2.1; rw [hs2] at this; cases this)
        go_wp2_with fail
        rw [Exit.noGoto_ret]
        exact bodyPost_ret (v := .tuple #[.slice none 0 0, .slice none 0 0, .int .i64 3]) (by simp [results, Tryd.results5, go_sem]) rfl ⟨_, _, _, rfl, HB3.out, ⟨fun h => absurd h (by decide), fun h => absurd h.2 HN.out⟩, fun _ => ⟨rfl, rfl⟩, fun h => absurd h (by decide)⟩
      | true =>
      cases hx1 : x1 with
      | true =>
        have HN := Lib.hid (HBAD.out fun h => by have := (HRE.out.1 h).2.2.1; rw [hx1] at this; cases this)
        rw [hx1] at HF1
        go_wp2_with (go_at_call 11; refine (HF1.out _).mono ?_; rintro e w' ⟨rfl, rfl⟩)
        rw [Exit.noGoto_ret]
        exact bodyPost_ret (v := .tuple #[.slice none 0 0, .slice none 0 0, .int .i64 3]) (by simp [results, Tryd.results5, go_sem]) rfl ⟨_, _, _, rfl, HB3.out, ⟨fun h => absurd h (by decide), fun h => absurd h.2 HN.out⟩, fun _ => ⟨rfl, rfl⟩, fun h => absurd h (by decide)⟩
      | false =>
      cases hx2 : x2 with
      | true =>
        have HN := Lib.hid (HBAD.out fun h => by have := (HRE.out.1 h).2.2.2; rw [hx2] at this; cases this)
        rw [hx1] at HF1
        rw [hx2] at HF2
        go_wp2_with (go_at_call 11; first | (refine (HF1.out _).mono ?_; rintro e w' ⟨rfl, rfl⟩) | (refine (HF2.out _).mono ?_; rintro e w' ⟨rfl, rfl⟩))
        rw [Exit.noGoto_ret]
        exact bodyPost_ret (v := .tuple #[.slice none 0 0, .slice none 0 0, .int .i64 3]) (by simp [results, Tryd.results5, go_sem]) rfl ⟨_, _, _, rfl, HB3.out, ⟨fun h => absurd h (by decide), fun h => absurd h.2 HN.out⟩, fun _ => ⟨rfl, rfl⟩, fun h => absurd h (by decide)⟩
      | false =>
        have HRO : Hid RO := HRE.out.2 ⟨hs1, hs2, hx1, hx2⟩
        rw [hx1] at HF1
        rw [hx2] at HF2
        cases hnx : nextF (rs.take k) k1 with
        | some a =>
          have HN := Lib.hid (HAP.out a hnx)
          have hrun := HM3.out.look_ok HKS.out hnx
          clear hnx
          go_wp2_with (go_at_call 11; first | (refine (HF1.out _).mono ?_; rintro e w' ⟨rfl, rfl⟩) | (refine (HF2.out _).mono ?_; rintro e w' ⟨rfl, rfl⟩))
          rw [Exit.noGoto_ret]
          exact bodyPost_ret (v := .tuple #[.slice none 0 0, .slice none 0 0, .int .i64 6]) (by simp [results, Tryd.results5, go_sem]) rfl ⟨_, _, _, rfl, HB3.out, ⟨fun h => absurd h (by decide), fun h => absurd h.2 HN.out⟩, fun _ => ⟨rfl, rfl⟩, fun h => absurd h (by decide)⟩
        | none =>
          have HIN2 := Lib.hid (HIN.out HRO.out hnx)
          have hrun := HM3.out.look_ok HKS.out hnx
          obtain ⟨w4, hrun2, hm4, hg4⟩ := HM3.out.put (by unfold maxLen; omega) HKS.out k2
          have HM4 : Hid (StrM w4 w1.heap.size (k + 1) (nextF (rs.take (k + 1)))) := hm4.congr HSN.out
          have HB4 := Lib.hid (below_grownS HB3.out hg4 hw1)
          clear hnx hm4 hg4
          go_wp2_with (go_at_call 11; first | (refine (HF1.out _).mono ?_; rintro e w' ⟨rfl, rfl⟩) | (refine (HF2.out _).mono ?_; rintro e w' ⟨rfl, rfl⟩))
          go_roundw
          case rel => exact ⟨k + 1, by omega, by go_num, HM4, HIN2, HB4⟩
          case measure => simp [intOf]; omega
      -- E1
    · have hkk : k = rs.length := by omega
      have HOKM : Hid (MovOk rs) := by
        have := HI.out
        rw [hkk, List.take_length] at this
        exact ⟨hr60, this.1, this.2⟩
      have HNX : Hid (StrM wo w1.heap.size 60 (nextF rs)) := by
        have := HM.out
        rw [hkk, List.take_length] at this
        exact this.mono hr60
      have HO0 : Hid (StrM (wo.alloc (.map #[] 0)) wo.heap.size 0 (outF (l.take 0))) := StrM.made wo
      have HB2 : Hid (Below wo.heap.size wo (wo.alloc (.map #[] 0))) := below_alloc _ _
      clear HM HI hkk
      go_wp2_with fail
      go_loopw [91] (fun i wr => ∃ k : Nat, k ≤ l.length ∧ i = .int .i64 k ∧ Hid (StrM wr wo.heap.size k (outF (l.take k))) ∧ Hid (Below wo.heap.size wo wr)) (fun i wr => l.length - (intOf i).toNat)
      case atStart => exact ⟨0, Nat.zero_le _, rfl, HO0, HB2⟩
      case round =>
        as_aux_lemma =>
        clear HO0 HB2
        obtain ⟨k, hk, rfl, HM, HB2⟩ := hrel
        obtain ⟨wp, rfl⟩ : ∃ wp : World, wp = wr := ⟨_, rfl⟩
        have HBP : Hid (Below w.heap.size w wp) := HB.out.trans (HB2.out.mono HB.out.size)
        by_cases hkl : k < l.length
        · obtain ⟨b, off, rfl, hc1, hc2, hlt, hc, hps, hbs⟩ := HAT.out k hkl
          -- S2
          obtain ⟨d0, d1⟩ := two_later HBP.out hlt hc
          have hbx := below_alloc wp (.cells #[.string l[k].p, .string l[k].b] 41)
          have HBW : Hid (Below w.heap.size w (wp.alloc (.cells #[.string l[k].p, .string l[k].b] 41))) := HBP.out.trans (hbx.mono HBP.out.size)
          have HX1 : Hid ((wp.alloc (.cells #[.string l[k].p, .string l[k].b] 41)).heap[wp.heap.size]? = some (.cells #[.string l[k].p, .string l[k].b] 41 (0, 0))) := heap_alloc_new _ _
          have HM1 := Lib.hid (HM.out.below hbx)
          have HB3 := Lib.hid (HB2.out.trans (hbx.mono HB2.out.size))
          have HAD := Lib.hid (address_okM l[k] hps (HO.out.2 k hkl).1 m _ (HML.out _ HBW.out))
          obtain ⟨e0, e1⟩ := pair_of_block HX1.out
          have hpl := path_len (HO.out.2 k hkl).1
          have hal := addr_len l[k].p.data.toList
          have hadz : (adBP l[k]).size ≤ 201 := by
            show (addrL l[k].p.data.toList).toArray.size ≤ 201
            rw [List.size_toArray]; omega
          have htkz : (tkB l[k]).size ≤ 201 := by
            show (Lib.trimSuffix (addrL l[k].p.data.toList) [47]).toArray.size ≤ 201
            rw [List.size_toArray]
            unfold Lib.trimSuffix
            split
            · rw [List.length_take]; omega
            · omega
          have HTR : Hid (∀ w', Calls Tryd.prog 13 #[.string (adBP l[k]), .string ⟨#[47]⟩] w' fun e w'' => e = .returned (.string (tkB l[k])) ∧ w'' = w') := fun w' => HTS.out (adBP l[k]) (by omega) w'
          have HTKZ : Hid ((tkB l[k]).size ≤ maxLen) := Nat.le_trans htkz (by decide)
          have HSN : Hid (∀ q, outF (l.take (k + 1)) q = if q = tkB l[k] then some (adBP l[k]) else outF (l.take k) q) := fun q => by rw [take_next hkl]; exact outF_snoc _ _ _
          clear hc hpl hal hadz htkz hbx
          generalize tkB l[k] = kk at *
          generalize adBP l[k] = ad at *
          generalize l[k] = o at *
          go_wp2_with fail
          refine HAD.out.mono ?_
          rintro e w5 ⟨rfl, hb5⟩
          have HB5 := Lib.hid (HB3.out.trans (hb5.mono HB3.out.size))
          have HM5 := Lib.hid (HM1.out.below hb5)
          obtain ⟨w6, hrun, hm6, hg6⟩ := HM5.out.put (by unfold maxLen; omega) HTKZ.out ad
          have HM6 : Hid (StrM w6 wo.heap.size (k + 1) (outF (l.take (k + 1)))) := hm6.congr HSN.out
          have HB6 := Lib.hid (below_grownS HB5.out hg6 (Nat.le_refl _))
          clear hb5 hm6 hg6 e0 e1 d0 d1 HX1
          go_wp2_with (go_at_call 13; refine (HTR.out _).mono ?_; rintro e w' ⟨rfl, rfl⟩)
          go_roundw
          case rel => exact ⟨k + 1, by omega, by go_num, HM6, HB6⟩
          case measure => simp [intOf]; omega
          -- E2
        · have HOU : Hid (StrM wp wo.heap.size 480 (outF l)) := by
            have := HM.out
            rw [show k = l.length by omega, List.take_length] at this
            exact this.mono (by omega)
          have HNY : Hid (StrM wp w1.heap.size 60 (nextF rs)) := HNX.out.below HB2.out
          have HBQ : Hid (Below w.heap.size w (wp.alloc (.cells #[.slice none 0 0] 23))) := HBP.out.trans ((below_alloc wp _).mono HBP.out.size)
          have HR0 : Hid (RdAt (wp.alloc (.cells #[.slice none 0 0] 23)) wp.heap.size (.slice none 0 0) (.slice none 0 0) ((rs.take 0).filterMap (goodOf rs l)) ((rs.take 0).filter fun r => (resR rs l r).isNone)) := ⟨heap_alloc_new _ _, World.ownsRow_nil _ _ _ _, World.ownsRow_nil _ _ _ _, fun k h => by cases h⟩
          have HBZ : Hid (Below wp.heap.size wp (wp.alloc (.cells #[.slice none 0 0] 23))) := below_alloc wp _
          clear HM HNX
          have HL3 : ∀ gv lv : Value, True := fun _ _ => trivial
          clear HL3
          go_wp2_with fail
          go_step3
          go_wp2_with fail
          go_loopw [23, 108] (fun lv i wr => ∃ (k : Nat) (gv : Value), k ≤ rs.length ∧ i = .int .i64 k ∧ Hid (RdAt wr wp.heap.size gv lv ((rs.take k).filterMap (goodOf rs l)) ((rs.take k).filter fun r => (resR rs l r).isNone)) ∧ Hid (Below wp.heap.size wp wr)) (fun lv i wr => rs.length - (intOf i).toNat)
          case atStart => exact ⟨0, _, Nat.zero_le _, rfl, HR0, HBZ⟩
          case round =>
            as_aux_lemma =>
            clear HR0 HBZ HBQ
            clear hkl hk
            obtain ⟨k, gv, hk, rfl, HR, HB3⟩ := hrel
            obtain ⟨wq, rfl⟩ : ∃ wq : World, wq = wr := ⟨_, rfl⟩
            obtain ⟨lv, rfl⟩ : ∃ lv : Value, lv = u23 := ⟨_, rfl⟩
            have HBW : Hid (Below w.heap.size w wq) := HBP.out.trans (HB3.out.mono HBP.out.size)
            by_cases hkl : k < rs.length
            · obtain ⟨b, off, rfl, hc1, hc2, hlt, hc, hps, hbs⟩ := HAU.out k hkl
              obtain ⟨d0, d1⟩ := two_later HBW.out hlt hc
              have hszk := HSZ.out rs[k] (List.getElem_mem hkl)
              have HX1 : Hid ((wq.alloc (.cells #[.string rs[k].p, .string rs[k].b] 29)).heap[wq.heap.size]? = some (.cells #[.string rs[k].p, .string rs[k].b] 29 (0, 0))) := heap_alloc_new _ _
              have hbx := below_alloc wq (.cells #[.string rs[k].p, .string rs[k].b] 29)
              have HBW2 : Hid (Below w.heap.size w (wq.alloc (.cells #[.string rs[k].p, .string rs[k].b] 29))) := HBW.out.trans (hbx.mono HBW.out.size)
              have HR2 := Lib.hid (HR.out.on hbx)
              have HB4 : Hid (Below wp.heap.size wp (wq.alloc (.cells #[.string rs[k].p, .string rs[k].b] 29))) := HB3.out.trans (hbx.mono HB3.out.size)
              have HK1 := Lib.hid (HKE.out rs[k].p hszk.1 _ HBW2.out)
              have HRES : Hid (resR rs l rs[k] = if (outF l (key0 rs[k].p)).isSome then none else goR (nextF rs) (outF l) (rs.length + 1) (key0 rs[k].p)) := rfl
              have HGD : Hid (∀ x, resR rs l rs[k] = x → (rs.take (k + 1)).filterMap (goodOf rs l) = (rs.take k).filterMap (goodOf rs l) ++ (x.map fun q => (⟨rs[k].p, q⟩ : O)).toList) := fun x hx => by
                rw [take_next hkl, List.filterMap_append]
                subst hx
                unfold goodOf
                cases h : resR rs l rs[k] <;> simp [h]
              have HLF : Hid (∀ x, resR rs l rs[k] = x → (rs.take (k + 1)).filter (fun r => (resR rs l r).isNone) = (rs.take k).filter (fun r => (resR rs l r).isNone) ++ (if x.isNone then [rs[k]] else [])) := fun x hx => by
                rw [take_next hkl, List.filter_append]
                subst hx
                cases h : resR rs l rs[k] <;> simp [h]
              have hk1 : Hid ((key0 rs[k].p).size ≤ maxLen) := Nat.le_trans key0_size (by decide)
              clear hc hszk hbx
              generalize resR rs l rs[k] = rr at HRES HGD HLF
              generalize key0 rs[k].p = k1 at *
              generalize keyB rs[k].p = o1 at *
              generalize rs[k] = r at *
              go_wp2_with fail
              refine HK1.out.mono ?_
              rintro e w5 ⟨rfl, hb5⟩
              have HB5 := Lib.hid (HB4.out.trans (hb5.mono HB4.out.size))
              have HR5 := Lib.hid (HR2.out.on hb5)
              have HX5 := Lib.hid ((hb5.block _ (Array.getElem?_eq_some_iff.1 HX1.out).1).trans HX1.out)
              have HOU5 := Lib.hid (HOU.out.below HB5.out)
              have HNY5 := Lib.hid (HNY.out.below HB5.out)
              have hrun1 := HOU5.out.look_ok hk1.out rfl
              generalize hou : outF l k1 = ou1 at hrun1
              clear hb5 d0 d1 HX1 HR2 HB4 HBW2 HK1
              cases ou1 with
              | some a0 =>
                -- S3
                have hrr : rr = none := by have := HRES.out; rw [hou] at this; exact this
                have HG2 := Lib.hid (HGD.out none hrr)
                have HL2 := Lib.hid (HLF.out none hrr)
                clear HRES HGD HLF hrr
                have HG3 : Hid ((rs.take (k + 1)).filterMap (goodOf rs l) = (rs.take k).filterMap (goodOf rs l)) := HG2.out.trans (List.append_nil _)
                have HL3 : Hid ((rs.take (k + 1)).filter (fun r => (resR rs l r).isNone) = (rs.take k).filter (fun r => (resR rs l r).isNone) ++ [r]) := HL2.out
                have HLN : Hid (((rs.take k).filter (fun r => (resR rs l r).isNone)).length ≤ 60) := Nat.le_trans (List.length_filter_le _ _) (by rw [List.length_take]; omega)
                clear HG2 HL2
                go_wp2_with fail
                go_loopw [26, 30] (fun x i wr => i = .int .i64 0 ∧ wr = w5) (fun _ _ _ => 0)
                case atStart => exact ⟨rfl, rfl⟩
                case round =>
                  obtain ⟨rfl, rfl⟩ := hrel
                  obtain ⟨e0, e1⟩ := pair_of_block HX5.out
                  obtain ⟨i0, hi, hx⟩ := Option.map_eq_some_iff.1 infoRedirect2
                  simp only [Prod.mk.injEq] at hx
                  obtain ⟨iz0, iz1, iz2⟩ := hx
                  have HR6 := Lib.hid (HR5.out.on (below_alloc wr (.cells #[.string r.p, .string r.b] 29)))
                  have HB6 := Lib.hid (HB5.out.trans ((below_alloc wr (.cells #[.string r.p, .string r.b] 29)).mono HB5.out.size))
                  have hln := HLN.out
                  have hz6 := HR6.out.hi
                  go_wp2_with (at_builtin; go_loud (refine wpList_append_own_at _ rfl _ _ 23 rfl (wp.heap.size + 1) 29 i0 (.agg #[.string ⟨#[]⟩, .string ⟨#[]⟩]) 2 32 Tryd.underlying23 hi iz0 iz1 iz2 rfl (by decide) _ _ _ rfl HR6.out.ol ⟨wr.heap.size, 0, none⟩ 1 1 [.string r.p, .string r.b] rfl rfl (two_cells _ _ _ _) (by simp [Value.oneCell']) (by unfold maxLen; omega) (by omega) hz6 ?_); intro v' w' hown' hgr hnil hat)
                  have HUP := Lib.hid (HR6.out.leftUp r hown' hgr hat)
                  clear hown' hgr hnil hat
                  go_roundw
                  case rel => exact ⟨k + 1, gv, by omega, by go_num, by rw [HG3.out, HL3.out]; exact HUP.out.1, HB6.out.trans HUP.out.2⟩
                  case measure => simp [intOf]; omega
                -- E3
              | none =>
                have HLN : Hid (((rs.take k).filter (fun r => (resR rs l r).isNone)).length ≤ 60) := Nat.le_trans (List.length_filter_le _ _) (by rw [List.length_take]; omega)
                have HGN : Hid (((rs.take k).filterMap (goodOf rs l)).length ≤ 60) := Nat.le_trans (List.length_filterMap_le _ _) (by rw [List.length_take]; omega)
                have HRR : Hid (rr = goR (nextF rs) (outF l) (rs.length + 1) k1) := by have := HRES.out; rw [hou] at this; exact this
                clear HRES
                go_wp2_with fail
                go_loopw [26, 30] (fun x i wr => ∃ (n : Nat) (kk : ByteArray), n ≤ rs.length + 1 ∧ i = .int .i64 n ∧ x = .string kk ∧ wr = w5 ∧ Hid (kk.size ≤ maxLen) ∧ Hid (rr = goR (nextF rs) (outF l) (rs.length + 1 - n) kk)) (fun x i wr => rs.length + 1 - (intOf i).toNat)
                case atStart => exact ⟨0, k1, Nat.zero_le _, rfl, rfl, rfl, hk1, HRR⟩
                case round =>
                  as_aux_lemma =>
                  clear HRR hrun1
                  obtain ⟨n, kk, hn, rfl, rfl, rfl, HKK, HGO⟩ := hrel
                  obtain ⟨e0, e1⟩ := pair_of_block HX5.out
                  obtain ⟨i0, hi, hx⟩ := Option.map_eq_some_iff.1 infoRedirect2
                  simp only [Prod.mk.injEq] at hx
                  obtain ⟨iz0, iz1, iz2⟩ := hx
                  have hln := HLN.out
                  have hgn := HGN.out
                  by_cases hnl : n ≤ rs.length
                  · have hrunN := HNY5.out.look_ok HKK.out rfl
                    have HGS : Hid (goR (nextF rs) (outF l) (rs.length + 1 - n) kk = match nextF rs kk with
                      | none => none
                      | some k' => match outF l k' with
                        | some tgt => some tgt
                        | none => goR (nextF rs) (outF l) (rs.length - n) k') := by
                      have : rs.length + 1 - n = (rs.length - n) + 1 := by omega
                      unfold Hid; rw [this]; rfl
                    generalize hnx : nextF rs kk = nx1 at hrunN
                    cases nx1 with
                    | none =>
                      -- S4
                      have hrr : rr = none := by have := HGO.out; rw [HGS.out, hnx] at this; exact this
                      clear HGS HGO
                      have HG2 := Lib.hid (HGD.out none hrr)
                      have HL2 := Lib.hid (HLF.out none hrr)
                      clear hrr
                      have HG3 : Hid ((rs.take (k + 1)).filterMap (goodOf rs l) = (rs.take k).filterMap (goodOf rs l)) := HG2.out.trans (List.append_nil _)
                      have HL3 : Hid ((rs.take (k + 1)).filter (fun r => (resR rs l r).isNone) = (rs.take k).filter (fun r => (resR rs l r).isNone) ++ [r]) := HL2.out
                      clear HG2 HL2
                      have HR6 := Lib.hid (HR5.out.on (below_alloc wr (.cells #[.string r.p, .string r.b] 29)))
                      have HB6 := Lib.hid (HB5.out.trans ((below_alloc wr (.cells #[.string r.p, .string r.b] 29)).mono HB5.out.size))
                      have hz6 := HR6.out.hi
                      go_wp2_with (at_builtin; go_loud (refine wpList_append_own_at _ rfl _ _ 23 rfl (wp.heap.size + 1) 29 i0 (.agg #[.string ⟨#[]⟩, .string ⟨#[]⟩]) 2 32 Tryd.underlying23 hi iz0 iz1 iz2 rfl (by decide) _ _ _ rfl HR6.out.ol ⟨wr.heap.size, 0, none⟩ 1 1 [.string r.p, .string r.b] rfl rfl (two_cells _ _ _ _) (by simp [Value.oneCell']) (by unfold maxLen; omega) (by omega) hz6 ?_); intro v' w' hown' hgr hnil hat)
                      have HUP := Lib.hid (HR6.out.leftUp r hown' hgr hat)
                      clear hown' hgr hnil hat
                      go_roundw
                      case rel => exact ⟨k + 1, gv, by omega, by go_num, by rw [HG3.out, HL3.out]; exact HUP.out.1, HB6.out.trans HUP.out.2⟩
                      case measure => simp [intOf]; omega
                      -- E4
                    | some k2 =>
                      have HK2 : Hid (k2.size ≤ maxLen) := nextF_size hnx
                      have hrunO := HOU5.out.look_ok HK2.out rfl
                      generalize hox : outF l k2 = ox at hrunO
                      cases ox with
                      | some tgt =>
                        -- S5
                        have hrr : rr = some tgt := by have := HGO.out; rw [HGS.out, hnx] at this; simp only [hox] at this; exact this
                        clear HGS HGO
                        have HG2 := Lib.hid (HGD.out (some tgt) hrr)
                        have HL2 := Lib.hid (HLF.out (some tgt) hrr)
                        clear hrr
                        have HG3 : Hid ((rs.take (k + 1)).filterMap (goodOf rs l) = (rs.take k).filterMap (goodOf rs l) ++ [(⟨r.p, tgt⟩ : O)]) := HG2.out
                        have HL3 : Hid ((rs.take (k + 1)).filter (fun r => (resR rs l r).isNone) = (rs.take k).filter (fun r => (resR rs l r).isNone)) := HL2.out.trans (List.append_nil _)
                        clear HG2 HL2
                        have HR6 := Lib.hid (HR5.out.on (below_alloc wr (.cells #[.string r.p, .string tgt] 29)))
                        have HB6 := Lib.hid (HB5.out.trans ((below_alloc wr (.cells #[.string r.p, .string tgt] 29)).mono HB5.out.size))
                        have hz6 := HR6.out.hi
                        have c0 := cellT (i := 0) HR5.out.bd rfl
                        go_wp2_with (at_builtin; go_loud (refine wpList_append_own_at _ rfl _ _ 23 rfl (wp.heap.size + 1) 29 i0 (.agg #[.string ⟨#[]⟩, .string ⟨#[]⟩]) 2 32 Tryd.underlying23 hi iz0 iz1 iz2 rfl (by decide) _ _ _ rfl HR6.out.og ⟨wr.heap.size, 0, none⟩ 1 1 [.string r.p, .string tgt] rfl rfl (two_cells _ _ _ _) (by simp [Value.oneCell']) (by unfold maxLen; omega) (by omega) hz6 ?_); intro v' w' hown' hgr hnil hat; obtain ⟨a9, c9, rfl⟩ := ownsRow_form hown'; have hbd9 : w'.heap[wp.heap.size]? = some (.cells #[gv] 23 (0, 0)) := (hgr.block _ HR6.out.hi (fun e => by have := HR6.out.og.lt _ e.symm; omega)).trans HR6.out.bd; have g5 : w'.cell? ⟨wp.heap.size, 0, none⟩ = some gv := cellT hbd9 rfl; have f5 : w'.frozen? ⟨wp.heap.size, 0, none⟩ = false := frozenT hbd9; have HOW2 := Lib.hid hown'; have HGR2 := Lib.hid hgr; have HAT2 := Lib.hid hat; clear hown' hgr hnil hat hbd9)
                        have HUP := Lib.hid (HR6.out.goodUp ⟨r.p, tgt⟩ HOW2.out HGR2.out HAT2.out)
                        clear HOW2 HGR2 HAT2 g5 f5
                        go_roundw
                        case rel => exact ⟨k + 1, _, by omega, by go_num, by rw [HG3.out, HL3.out]; exact HUP.out.1, HB6.out.trans HUP.out.2⟩
                        case measure => simp [intOf]; omega
                        -- E5
                      | none =>
                        -- S6
                        have HRR2 : Hid (rr = goR (nextF rs) (outF l) (rs.length + 1 - (n + 1)) k2) := by
                          have := HGO.out; rw [HGS.out, hnx] at this; simp only [hox] at this
                          unfold Hid; rw [this]; congr 1; omega
                        clear HGS HGO
                        go_wp2_with fail
                        go_roundw
                        case rel => exact ⟨n + 1, k2, by omega, by go_num, (by first | rfl | trivial), (by first | rfl | trivial), HK2, HRR2⟩
                        case measure => simp [intOf]; omega
                        -- E6
                  · have hrr : rr = none := by have := HGO.out; rw [show rs.length + 1 - n = 0 by omega] at this; exact this
                    -- S7
                    clear HGO
                    have HG2 := Lib.hid (HGD.out none hrr)
                    have HL2 := Lib.hid (HLF.out none hrr)
                    clear hrr
                    have HG3 : Hid ((rs.take (k + 1)).filterMap (goodOf rs l) = (rs.take k).filterMap (goodOf rs l)) := HG2.out.trans (List.append_nil _)
                    have HL3 : Hid ((rs.take (k + 1)).filter (fun r => (resR rs l r).isNone) = (rs.take k).filter (fun r => (resR rs l r).isNone) ++ [r]) := HL2.out
                    clear HG2 HL2
                    have HR6 := Lib.hid (HR5.out.on (below_alloc wr (.cells #[.string r.p, .string r.b] 29)))
                    have HB6 := Lib.hid (HB5.out.trans ((below_alloc wr (.cells #[.string r.p, .string r.b] 29)).mono HB5.out.size))
                    have hz6 := HR6.out.hi
                    go_wp2_with (at_builtin; go_loud (refine wpList_append_own_at _ rfl _ _ 23 rfl (wp.heap.size + 1) 29 i0 (.agg #[.string ⟨#[]⟩, .string ⟨#[]⟩]) 2 32 Tryd.underlying23 hi iz0 iz1 iz2 rfl (by decide) _ _ _ rfl HR6.out.ol ⟨wr.heap.size, 0, none⟩ 1 1 [.string r.p, .string r.b] rfl rfl (two_cells _ _ _ _) (by simp [Value.oneCell']) (by unfold maxLen; omega) (by omega) hz6 ?_); intro v' w' hown' hgr hnil hat)
                    have HUP := Lib.hid (HR6.out.leftUp r hown' hgr hat)
                    clear hown' hgr hnil hat
                    go_roundw
                    case rel => exact ⟨k + 1, gv, by omega, by go_num, by rw [HG3.out, HL3.out]; exact HUP.out.1, HB6.out.trans HUP.out.2⟩
                    case measure => simp [intOf]; omega
                    -- E7
            · have HRF : Hid (RdAt wq wp.heap.size gv lv (goodR rs l) (leftR rs l)) := by
                have := HR.out
                rw [show k = rs.length by omega, List.take_length] at this
                exact this
              -- S8
              have hpl := parts_len rs l
              have hsl := sort_len rs l
              have HST := Lib.hid (movSort_any (goodR rs l) (by omega) gv wq (wp.heap.size + 1) wp.heap.size HRF.out.og HRF.out.bd (by omega) HRF.out.hi)
              have HBD := Lib.hid HRF.out.bd
              have c0 := cellT (i := 0) HBD.out rfl
              clear hpl hsl
              go_wp2_with fail
              refine HST.out.mono ?_
              rintro e w9 ⟨rfl, hs9, hb9, hf9⟩
              have HF9 : Hid (w9.heap[wp.heap.size]? = some (.cells #[gv] 23 (0, 0))) := (hb9.block _ (by omega)).trans HBD.out
              have c9 := cellT (i := 0) HF9.out rfl
              have HOL : Hid (w9.ownsRow (wp.heap.size + 1) 29 2 lv (leftR rs l).length (rowsO (leftR rs l))) := by
                refine ⟨HRF.out.ol.1, ?_⟩
                rcases HRF.out.ol.2 with h2 | ⟨g, cap, cur, e, hbg, hgk, h4⟩
                · exact .inl h2
                · exact .inr ⟨g, cap, cur, e, hbg, (hf9 g (Array.getElem?_eq_some_iff.1 hgk).1 (fun eg => HRF.out.ne g eg (by rw [e]; rfl))).trans hgk, h4⟩
              have HS9 := Lib.hid hs9
              have HB9 : Hid (Below w.heap.size w w9) := HBW.out.trans (hb9.mono (by have := HBP.out.size; omega))
              clear hs9 hb9 hf9 c0
              have HZ1 : Hid (∀ o ∈ sortR rs l, o.p.size ≤ maxLen ∧ o.b.size ≤ maxLen) := fun o ho => by
                obtain ⟨r, hr, hp, hres⟩ := good_mem (sort_mem.1 ho)
                obtain ⟨_, q, hq, hb⟩ := res_some hres
                obtain ⟨j, hj, rfl⟩ := List.getElem_of_mem hq
                have h1 := path_len (HO.out.2 j hj).1
                have h2 := addr_len l[j].p.data.toList
                have h3 : (adBP l[j]).size ≤ 201 := by
                  show (addrL l[j].p.data.toList).toArray.size ≤ 201
                  rw [List.size_toArray]; omega
                have h4 := HSZ.out r hr
                unfold maxLen
                rw [hp, ← hb]
                exact ⟨by omega, by omega⟩
              have HZ2 : Hid (∀ o ∈ leftR rs l, o.p.size ≤ maxLen ∧ o.b.size ≤ maxLen) := fun o ho => by
                have h4 := HSZ.out o (List.mem_filter.1 ho).1
                unfold maxLen
                exact ⟨by omega, by omega⟩
              have HS8 : Hid (Sl 2 w9 gv (sortR rs l).length (rowsO (sortR rs l))) := by rw [sort_len]; exact HS9.out
              go_wp2_with fail
              rw [Exit.noGoto_ret]
              exact bodyPost_ret (v := .tuple #[gv, lv, .int .i64 0]) (by simp [results, Tryd.results5, go_sem]) rfl ⟨_, _, _, rfl, HB9.out, ⟨fun _ => ⟨HO.out, HOKM.out⟩, fun _ => rfl⟩, fun h => absurd rfl h, fun _ => ⟨⟨HS8.out, HZ1.out⟩, ⟨Sl.of_own HOL.out (by decide), HZ2.out⟩⟩⟩
              -- E8
end Go.Proofs.YtdjcificgilimaaDoor
