/- slices.IsSorted of ascending positions; list.Terms. Conditions: items of bounded size. -/
import Derived.Test.YtihdfkcoajpmjaaGreatDoorLtT
import Derived.Deep.RegionHeld3
namespace Go.Proofs.YtihdfkcoajpmjaaGreatDoor
open Go.RowKit Mh
set_option linter.unusedVariables false
/-- A world that has grown. -/
structure GW (w : World) where
  w' : World
  h : Below w.heap.size w w'
instance gw_some (w : World) : Nonempty (GW w) := ⟨⟨w, Below.refl _ _⟩⟩
/-- A region that draws its order, whose operations read and whose callees make memory at most, walked once, in the text's order. -/
theorem wp_region_quiet_gw {P : Program} {id : Nat} {Q : Exit → Act → World → Prop} {a : Act} {w : World} {l : List Oper} (hm : P.follows .mixedOrders = true) (hB : Region.lexB .any l.toArray = true)
    (h : wpQuiet P l.toArray (fun w' => ∃ u : GW w, w' = u.w') (fun a' => ∀ w', (∃ u : GW w, w' = u.w') → Q .normal a' w') l a) : (Code.region id l.toArray true).wp P Q a w :=
  wp_region_quiet (C := fun w' => ∃ u : GW w, w' = u.w') hm hB ⟨⟨w.drew, (Below.refl _ w).drew⟩, rfl⟩ (by simpa using h)
theorem gw_call {P : Program} {f : FuncId} {args : Array Value} {w : World} {u : GW w} {v : Value} (h : Calls P f args u.w' fun e w' => e = .returned v ∧ Below u.w'.heap.size u.w' w') : Calls P f args u.w' fun e w'' => e = .returned v ∧ ∃ u' : GW w, w'' = u'.w' :=
  h.mono fun _ w3 ⟨he, hb⟩ => ⟨he, ⟨w3, u.h.trans (hb.mono u.h.size)⟩, rfl⟩
theorem below_drewU (w : World) (n : Nat) : Below w.heap.size w (w.drewN n) := ⟨rfl, rfl, rfl, Nat.le_refl _, fun _ _ => rfl⟩
set_option maxHeartbeats 4000000 in
theorem isSortedN_any (v : Value) (l : List Nat) (hp : l.Pairwise (· < ·)) (hn : l.length ≤ 1000000) (w : World) (h : Sl 1 w v l.length (l.map encN)) :
    Calls Tryz.prog 7 #[v] w fun e w' => e = .returned (.bool true) ∧ Below w.heap.size w w' := by
  obtain ⟨ao, c, rfl, hm, hc⟩ := h.shp
  have HC : Hid (∀ i (hi : i < l.length), ∃ b off, ao = some ⟨b, off, none⟩ ∧ l.length ≤ c ∧ c ≤ maxLen ∧ b < w.heap.size ∧ w.cell? ⟨b, off + i, none⟩ = some (.int .i64 (l[i] : Nat))) := fun i hi => by
    obtain ⟨b, off, h1, h2, h3, h4, h5⟩ := hc (by omega)
    exact ⟨b, off, h1, h2, h3, h4, h5 i _ (by rw [List.getElem?_map, List.getElem?_eq_getElem hi]; rfl)⟩
  have HL := Lib.hid (fun x y w' => Tryz.cmp_Less_int2 x y w')
  have HPW : Hid (∀ j (h : j + 1 < l.length), l[j] < l[j + 1]) := fun j h => List.pairwise_iff_getElem.1 hp j (j + 1) (by omega) h (by omega)
  clear h hc hm hp
  go_enter Tryz.func7, Tryz.ntmps7
  go_wp2_with fail
  go_loopw [3] (fun i wr => ∃ k : Int, -1 ≤ k ∧ k ≤ (l.length : Int) - 1 ∧ i = .int .i64 k ∧ Hid (Below w.heap.size w wr)) (fun i wr => (intOf i).toNat)
  case atStart => exact ⟨(l.length : Int) - 1, by omega, by omega, rfl, Below.refl _ _⟩
  case round =>
    obtain ⟨k, hk1, hk2, rfl, HB⟩ := hrel
    by_cases hk : 0 < k
    · obtain ⟨j, rfl⟩ : ∃ j : Nat, k = (j : Int) + 1 := ⟨(k - 1).toNat, by omega⟩
      have hj : j + 1 < l.length := by omega
      obtain ⟨b, off, rfl, hc1, hc2, hlt, hca⟩ := HC.out j (by omega)
      obtain ⟨b', off', hbo, _, _, _, hcb⟩ := HC.out (j + 1) hj
      simp only [Option.some.injEq, Addr.mk.injEq, and_true] at hbo
      obtain ⟨rfl, rfl⟩ := hbo
      have d0 := (HB.out.cell (p := ⟨b, off + j, none⟩) hlt).trans hca
      have d1 := (HB.out.cell (p := ⟨b, off + (j + 1), none⟩) hlt).trans hcb
      have hlt2 := HPW.out j hj
      generalize l[j] = p at *
      generalize l[j + 1] = q at *
      have HQ : Hid (∀ w', Calls Tryz.prog 14 #[.int .i64 (q : Int), .int .i64 (p : Int)] w' fun e w'' => e = .returned (.bool false) ∧ w'' = w') := fun w' => by
        have h := HL.out (q : Int) (p : Int) w'
        rw [show decide ((q : Int) < (p : Int)) = false from decide_eq_false (by omega)] at h
        exact h
      unfold maxLen at hc2
      clear hca hcb hlt2
      go_upto_region 4 with fail
      go_quiet ((go_at_call 14; refine Calls.quiet_of_same (HQ.out _)))
      go_wp2_with fail
      exact ⟨⟨j, by omega, by omega, rfl, HB.out.trans ((below_drewU wr _).mono HB.out.size)⟩, by simp [intOf]⟩
    · go_wp2_with fail
      go_ret
      exact ⟨rfl, HB.out⟩
/-- What Terms lets pass. -/
def TermsOk (r : ByteArray) (l : List V) : Prop := ItemsOk l ∧ (lsSteps r).isSome = true ∧ ∀ X ∈ l, TermOk r X
def TermsRes (b0 : Nat) (r : ByteArray) (l : List V) (w' : World) (v : Value) (n : Int) : Prop := (n = 0 ↔ TermsOk r l) ∧ (n ≠ 0 → v = .slice none 0 0) ∧ (n = 0 → OutT b0 w' v r l)
set_option maxHeartbeats 4000000 in
theorem termsP_any (u : Value) (l : List V) (r : ByteArray) (w : World) (hr : r.size ≤ maxLen) (hn : ∀ X ∈ l, X.nodes ≤ 1048576) (h : VsL w u l) :
    Calls Tryz.prog 5 #[u, .string r] w fun e w' => ∃ (v : Value) (n : Int), e = .returned (.tuple #[v, .int .i64 n]) ∧ Hid (TermsRes w.heap.size r l w' v n) ∧ Hid (Below w.heap.size w w') := by
  have HR := Lib.hid (routed_any u l r hr hn w h)
  have HT := Lib.hid (fun (hi : ItemsOk l) w1 (hb : Below w.heap.size w w1) => terms_any u l r w1 hr (fun X hX => (hi.2 X hX).2.2) hn hi.1 (h.keep hb))
  clear hr hn h
  go_enter Tryz.func5, Tryz.ntmps5
  go_wp2_with fail
  refine HR.out.mono ?_
  rintro e w1 ⟨n, rfl, hn0, HB1⟩
  have HN := Lib.hid hn0.out
  clear hn0
  by_cases hz : n = 0
  · have q1 : (n != 0) = false := by rw [bne_eq_false_iff_eq]; exact hz
    have HOKI := Lib.hid (HN.out.1 hz)
    have HTC := Lib.hid (HT.out HOKI.out.1 w1 HB1.out)
    clear hz HN HT HR
    go_wp2_with fail
    refine HTC.out.mono ?_
    rintro e w2 ⟨v, n2, rfl, HS, HB2⟩
    have HB3 : Hid (Below w.heap.size w w2) := HB1.out.trans (HB2.out.mono HB1.out.size)
    have HRES : Hid (TermsRes w.heap.size r l w2 v n2) := by
      rcases HS.out with ⟨h1, h2, h3⟩ | ⟨h1, h2, h3⟩
      · exact ⟨⟨fun e => absurd e h1, fun e => absurd e.2.2 h2⟩, fun _ => h3, fun e => absurd e h1⟩
      · refine ⟨⟨fun _ => ⟨HOKI.out.1, HOKI.out.2, h2⟩, fun _ => h1⟩, fun e => absurd h1 e, fun _ => ?_⟩
        obtain ⟨L1, a1, a2, a3, a4⟩ := h3
        exact ⟨L1, a1, a2, a3, fun x hx => own_baseL (a4 x hx) HB1.out.size⟩
    clear HS HB2
    go_wp2_with fail
    go_ret2
    exact ⟨_, _, rfl, HRES.out, HB3.out⟩
  · have q1 : (n != 0) = true := by rw [bne_iff_ne]; exact hz
    have HNO : Hid (¬ (ItemsOk l ∧ (lsSteps r).isSome = true)) := fun h => hz (HN.out.2 h)
    have HZ := Lib.hid hz
    clear hz HN HT HR
    go_wp2_with fail
    go_ret2
    exact ⟨_, _, rfl, ⟨⟨fun h => absurd h HZ.out, fun h => absurd ⟨h.1, h.2.1⟩ HNO.out⟩, fun _ => rfl, fun h => absurd h HZ.out⟩, HB1.out⟩
end Go.Proofs.YtihdfkcoajpmjaaGreatDoor
