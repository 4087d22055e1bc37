/- ship.redirected. Conditions: the library's variable MaxLen holds an integer; strings of redirects of at most 2^40 bytes. -/
import Derived.Test.YtdjcificgilimaaDoorMvM
namespace Mh
open Go Go.RowKit
set_option linter.unusedVariables false
/-- Where the redirects' keys lead. -/
def fromF (gs : List O) : ByteArray → Option ByteArray := bodF (gs.map fun r => ⟨key0 r.p, r.b⟩)
theorem fromF_snoc (gs : List O) (r : O) (k : ByteArray) : fromF (gs ++ [r]) k = if k = key0 r.p then some r.b else fromF gs k := by
  unfold fromF; rw [List.map_append]; exact bodF_app _ _ _
theorem key_inj {rs : List O} (h : MovOk rs) {r x : O} (hr : r ∈ rs) (hx : x ∈ rs) (e : key0 r.p = key0 x.p) : r = x := by
  obtain ⟨i, hi, rfl⟩ := List.mem_iff_getElem.1 hr
  obtain ⟨j, hj, rfl⟩ := List.mem_iff_getElem.1 hx
  have hp := h.2.2
  rw [List.pairwise_iff_getElem] at hp
  rcases Nat.lt_trichotomy i j with q | q | q
  · exact absurd e (hp i j hi hj q)
  · subst q; rfl
  · exact absurd e.symm (hp j i hj hi q)
theorem fromF_at {rs l : List O} (h : MovOk rs) {q : O} (hq : q ∈ sortR rs l) : fromF (sortR rs l) (key0 q.p) = some q.b := by
  cases hb : fromF (sortR rs l) (key0 q.p) with
  | none => exact absurd rfl (bodF_none hb ⟨key0 q.p, q.b⟩ (List.mem_map.2 ⟨q, hq, rfl⟩))
  | some a =>
    obtain ⟨x, hx, h1, h2⟩ := bodF_mem hb
    obtain ⟨x', hx', rfl⟩ := List.mem_map.1 hx
    obtain ⟨r, hr, e1, e2⟩ := good_mem (sort_mem.1 hq)
    obtain ⟨y, hy, e3, e4⟩ := good_mem (sort_mem.1 hx')
    have h1 : key0 x'.p = key0 q.p := h1
    have h2 : x'.b = a := h2
    rw [e1, e3] at h1
    have := key_inj h hy hr h1
    subst this
    rw [e2] at e4
    rw [← h2, ← Option.some.inj e4]
end Mh
namespace Go.Proofs.YtdjcificgilimaaDoor
open Go.RowKit Mh
set_option linter.unusedVariables false
def RedP (l rs : List O) (w : World) (e : Ending) (w' : World) : Prop := ∃ (u : Value) (r : Int), e = .returned (.tuple #[u, .int .i64 r]) ∧ Below w.heap.size w w' ∧ (r = 0 ↔ Outs l ∧ MovOk rs) ∧ (r = 0 → ∃ b, u = .map (some b) ∧ Hid (StrM w' b 60 (fromF (sortR rs l))))
attribute [local go_sem ↓] run_makeMap_plain
set_option maxRecDepth 100000 in
set_option maxHeartbeats 4000000 in
theorem redirected_any (v u : Value) (l rs : List O) (m : Int) (w : World) (hm : w.cell? ⟨0, 0, none⟩ = some (.int .i64 m)) (hv : OsAt w v l) (hu : OsAt w u rs) (hsz : ∀ r ∈ rs, r.p.size ≤ 1099511627776 ∧ r.b.size ≤ 1099511627776) :
    Calls Tryd.prog 18 #[v, u] w (RedP l rs w) := by
  have hmz : 0 < w.heap.size := World.block_lt_of_cell? w _ hm
  have HML : Hid (∀ w', Below w.heap.size w w' → w'.cell? ⟨0, 0, none⟩ = some (.int .i64 m)) := fun w' hb => (hb.cell hmz).trans hm
  have HKE := Lib.hid (fun (a : ByteArray) (ha : a.size ≤ 1099511627776) w' (hb : Below w.heap.size w w') => keyB_any a ha m w' (HML.out w' hb))
  have C1 := Lib.hid (moved_any v u l rs m w hm hv hu hsz)
  have HSZ := Lib.hid hsz
  clear hm hv hu hsz
  go_enter Tryd.func18, Tryd.ntmps18
  go_wp2_with fail
  refine C1.out.mono ?_
  rintro e w1 ⟨gv, lv, r1, rfl, hb1, hr1, hz1, ho1⟩
  have HB1 := Lib.hid hb1
  have HR := Lib.hid hr1
  clear hb1 C1 hr1
  by_cases h1 : r1 = 0
  case neg =>
    have hq : (r1 != 0) = true := by rw [bne_iff_ne]; exact h1
    have H1 := Lib.hid h1
    obtain ⟨rfl, rfl⟩ := hz1 h1
    clear h1 hz1 ho1
    go_wp2_with fail
    go_ret2
    exact ⟨_, r1, rfl, HB1.out, HR.out, fun h => absurd h H1.out⟩
  have hq : (r1 != 0) = false := by rw [bne_eq_false_iff_eq]; exact h1
  have HO := Lib.hid (HR.out.1 h1)
  obtain ⟨hg, hl⟩ := ho1 h1
  have HG60 : (sortR rs l).length ≤ 60 := by have := parts_len rs l; have := HO.out.2.1; omega
  have HMEM : Hid (∀ q ∈ sortR rs l, q.p.size ≤ 1099511627776) := fun q hq => by
    obtain ⟨r, hr, e1, _⟩ := good_mem (sort_mem.1 hq)
    rw [e1]
    exact (HSZ.out r hr).1
  obtain ⟨ga, gc, rfl, hglen, hgat⟩ := hg.open
  obtain ⟨la, lc, rfl, hllen, _⟩ := hl.open
  have HGAT := Lib.hid hgat
  clear h1 hz1 ho1 hgat hg hl
  have HM0 : Hid (StrM (w1.alloc (.map #[] 0)) w1.heap.size 0 (fromF ((sortR rs l).take 0))) := StrM.made w1
  have HB2 : Hid (Below w1.heap.size w1 (w1.alloc (.map #[] 0))) := below_alloc _ _
  generalize hgs : sortR rs l = gs at *
  have HGS := Lib.hid hgs
  clear hgs
  unfold maxLen at hglen
  go_wp2_with fail
  go_loopw [27] (fun i wr => ∃ k : Nat, k ≤ gs.length ∧ i = .int .i64 k ∧ Hid (StrM wr w1.heap.size k (fromF (gs.take k))) ∧ Hid (Below w1.heap.size w1 wr)) (fun i wr => gs.length - (intOf i).toNat)
  case atStart => exact ⟨0, Nat.zero_le _, rfl, HM0, HB2⟩
  case round =>
    clear HM0 HB2
    obtain ⟨k, hk, rfl, HM, HB⟩ := hrel
    obtain ⟨wo, rfl⟩ : ∃ wo : World, wo = wr := ⟨_, rfl⟩
    by_cases hkl : k < gs.length
    · obtain ⟨b, off, rfl, hc1, hc2, hlt, hc, hps, hbs⟩ := HGAT.out k hkl
      obtain ⟨d0, d1⟩ := two_later HB.out hlt hc
      have hbx := below_alloc wo (.cells #[.string gs[k].p, .string gs[k].b] 29)
      have HBX : Hid (Below w1.heap.size w1 (wo.alloc (.cells #[.string gs[k].p, .string gs[k].b] 29))) := HB.out.trans (hbx.mono HB.out.size)
      have HX1 : Hid ((wo.alloc (.cells #[.string gs[k].p, .string gs[k].b] 29)).heap[wo.heap.size]? = some (.cells #[.string gs[k].p, .string gs[k].b] 29 (0, 0))) := heap_alloc_new _ _
      have HM1 := Lib.hid (HM.out.below hbx)
      have HK1 := Lib.hid (HKE.out gs[k].p (HMEM.out _ (List.getElem_mem hkl)) _ (HB1.out.trans (HBX.out.mono HB1.out.size)))
      obtain ⟨e0, e1⟩ := pair_of_block HX1.out
      have HSN : Hid (∀ q, fromF (gs.take (k + 1)) q = if q = key0 gs[k].p then some gs[k].b else fromF (gs.take k) q) := fun q => by rw [take_next hkl]; exact fromF_snoc _ _ _
      have HKS : Hid ((key0 gs[k].p).size ≤ maxLen) := Nat.le_trans key0_size (by decide)
      clear hc hbx
      generalize key0 gs[k].p = k1 at *
      generalize (keyB gs[k].p).isSome = o1 at *
      generalize gs[k] = r at *
      go_wp2_with fail
      refine HK1.out.mono ?_
      rintro e w5 ⟨rfl, hb5⟩
      have HB5 := Lib.hid (HBX.out.trans (hb5.mono HBX.out.size))
      have HM5 := Lib.hid (HM1.out.below hb5)
      have HX5 := Lib.hid ((hb5.block _ (Array.getElem?_eq_some_iff.1 HX1.out).1).trans HX1.out)
      obtain ⟨w6, hrun, hm6, hg6⟩ := HM5.out.put (by unfold maxLen; omega) HKS.out r.b
      have HM6 : Hid (StrM w6 w1.heap.size (k + 1) (fromF (gs.take (k + 1)))) := hm6.congr HSN.out
      have HB6 := Lib.hid (below_grownS HB5.out hg6 (Nat.le_refl _))
      clear hb5 hm6 hg6 e0 e1 d0 d1 HX1
      obtain ⟨e0, e1⟩ := pair_of_block HX5.out
      go_wp2_with fail
      go_roundw
      case rel => exact ⟨k + 1, by omega, by go_num, HM6, HB6⟩
      case measure => simp [intOf]; omega
    · have HM2 : Hid (StrM wo w1.heap.size 60 (fromF gs)) := by
        have := HM.out
        rw [show k = gs.length by omega, List.take_length] at this
        exact this.mono HG60
      have HBE : Hid (Below w.heap.size w wo) := HB1.out.trans (HB.out.mono HB1.out.size)
      go_wp2_with fail
      go_ret2
      exact ⟨_, 0, rfl, HBE.out, ⟨fun _ => HO.out, fun _ => rfl⟩, fun _ => ⟨_, rfl, by rw [HGS.out]; exact HM2⟩⟩
end Go.Proofs.YtdjcificgilimaaDoor
