/- lang's reader of rules: some, at the right text. Conditions: as stated. -/
import Derived.Test.YtgfoangacbajlaaDoorRuC
import Derived.Maps.AppendAt
namespace Go.Proofs.YtgfoangacbajlaaDoor
open Go.RowKit Mh
set_option linter.unusedVariables false

theorem infoTest : (Tryd.prog.info? 42).map (fun i => (i.zero, i.size, i.bytes)) = some (some (.agg #[.int .i64 0, .int .i64 0, .int .i64 0, .int .i64 0, .slice none 0 0]), 5, 56) := by kernel_rfl
theorem info_test : ∃ i0, Tryd.prog.info? 42 = some i0 ∧ i0.zero = some (.agg #[.int .i64 0, .int .i64 0, .int .i64 0, .int .i64 0, .slice none 0 0]) ∧ i0.size = 5 ∧ i0.bytes = 56 := by
  have h := infoTest
  cases e : Tryd.prog.info? 42 with
  | none => rw [e] at h; cases h
  | some i0 =>
    rw [e] at h
    simp only [Option.map_some, Option.some.injEq, Prod.mk.injEq] at h
    exact ⟨i0, rfl, h⟩
theorem tailB_len : ∀ l : List (List UInt8), l.length ≤ (tailB sOr l).length
  | [] => by simp
  | p :: l => by
    have := tailB_len l
    have e : sOr.length = 3 := rfl
    rw [tailB_cons]
    simp only [List.length_append, List.length_cons, e]
    omega
theorem itm_pos (k : T) : 0 ≤ (itm k).length := Nat.zero_le _
theorem own_kept {w w' : World} {base e k : Nat} {v : Value} {n : Nat} {xs : List Value} {b : Nat} (h : w.ownsRow base e k v n xs) (hK : Kept [b] w w') (hb : b < base) : w'.ownsRow base e k v n xs := by
  refine ⟨h.1, ?_⟩
  rcases h.2 with h2 | ⟨g, cap, cur, rfl, hbg, hg, h4⟩
  · exact .inl h2
  · exact .inr ⟨g, cap, cur, rfl, hbg, (hK.block g (Array.getElem?_eq_some_iff.1 hg).1 (by simp; omega)).trans hg, h4⟩
theorem five_cells (w : World) (x0 x1 x2 x3 x4 : Value) (t : TypeId) : ∀ j u, [x0, x1, x2, x3, x4][j]? = some u → (w.alloc (.cells #[x0, x1, x2, x3, x4] t)).cell? ((⟨w.heap.size, 0, none⟩ : Addr).add j) = some u := by
  intro j u hj
  rw [Addr.add_lit, cell_of_row _ _ _ _ _ _ (heap_alloc_new w _)]
  simpa using hj
def lenV : Value → Nat
  | .slice _ n _ => n
  | _ => 0
/-- What stands in some's loop: j items read, their rows in v. -/
def SomeIn (b : Nat) (s : ByteArray) (w : World) (sg : List UInt8) (it : T → List UInt8) (ks : List T) (r : List UInt8) (j : Nat) (rows : List Value) (v : Value) (wr : World) : Prop :=
  1 ≤ j ∧ j ≤ ks.length ∧ wr.ownsRow w.heap.size 42 5 v j rows ∧ TsAt (fresh w.heap.size v.ownBlock wr) (ks.take j) rows ∧ SR b s (tailB sg ((ks.drop j).map it) ++ r) wr ∧ Kept [b] w wr

theorem SomeIn.more {b : Nat} {s : ByteArray} {w : World} {sg : List UInt8} {it : T → List UInt8} {L : List T} {r : List UInt8} {j : Nat} {rows : List Value} {v : Value} {wr : World} (h : SomeIn b s w sg it L r j rows v wr) (hj : j < L.length) :
    SR b s (sg ++ (it L[j] ++ (tailB sg ((L.drop (j + 1)).map it) ++ r))) wr := by
  have := h.2.2.2.2.1
  rw [List.drop_eq_getElem_cons hj, List.map_cons, tailB_cons, List.append_assoc, List.append_assoc] at this
  exact this
theorem own_lt {w : World} {base e k : Nat} {v : Value} {n : Nat} {xs : List Value} (h : w.ownsRow base e k v n xs) : ∀ g, v.ownBlock = some g → base ≤ g ∧ g < w.heap.size := by
  intro g hg
  rcases h.2 with ⟨rfl, _⟩ | ⟨g', cap, cur, rfl, hbg, hg2, _⟩
  · cases hg
  · simp only [Value.ownBlock, Option.some.injEq] at hg
    subst hg
    exact ⟨hbg, (Array.getElem?_eq_some_iff.1 hg2).1⟩
theorem SomeIn.step {b : Nat} {s : ByteArray} {w : World} {sg : List UInt8} {it : T → List UInt8} {L : List T} {r : List UInt8} {j : Nat} {rows row : List Value} {v v' : Value} {wr w2 w3 w' : World} {o : Obj} (h : SomeIn b s w sg it L r j rows v wr) (hb : b < w.heap.size) (hj : j < L.length)
    (hK2 : Kept [b] wr w2) (hK3 : Kept [b] wr w3) (hT3 : TAt (fresh w2.heap.size none w3) L[j] row) (hS3 : SR b s (tailB sg ((L.drop (j + 1)).map it) ++ r) w3)
    (hown' : w'.ownsRow w.heap.size 42 5 v' (j + 1) (rows ++ row)) (hgr : (w3.alloc o).grownBy w' v.ownBlock) (hat : v'.ownBlock = v.ownBlock ∨ v'.ownBlock = some (w3.alloc o).heap.size) : SomeIn b s w sg it L r (j + 1) (rows ++ row) v' w' := by
  obtain ⟨h1, h2, h3, h4, h5, h6⟩ := h
  have hol := own_lt h3
  have hz3 : w.heap.size ≤ w3.heap.size := Nat.le_trans h6.size hK3.size
  have hne : ∀ k, k < w.heap.size → some k ≠ v.ownBlock := fun k hk e => by have := hol k e.symm; omega
  refine ⟨by omega, by omega, hown', ?_, ?_, ?_⟩
  · rw [List.take_succ_eq_append_getElem hj]
    refine TsAt.append _ _ _ _ ?_ (TsAt.one ?_)
    · exact (((FrKept.of_kept hK3 hb).trans (FrKept.alloc w3 o)).trans (FrKept.grown hgr hat)).tsat _ _ h4
    · have hw : FrKept w2.heap.size none w3 w.heap.size v.ownBlock w3 := FrKept.wider (Nat.le_trans h6.size hK2.size) (fun k e => by have := hol k e; have := hK2.size; omega)
      exact ((hw.trans (FrKept.alloc w3 o)).trans (FrKept.grown hgr hat)).tat hT3
  · have hlt := hS3.lt
    exact (hS3.alloc o).block (hgr.block b (by simp; omega) (hne b hb))
  · have hk := (h6.trans hK3).alloc o
    exact ⟨hgr.os.trans hk.os, hgr.tape.trans hk.tape, hgr.output.trans hk.output, Nat.le_trans hk.size hgr.size, fun k hk1 hk2 => (hgr.block k (by have := hk.size; omega) (hne k hk1)).trans (hk.block k hk1 hk2)⟩
theorem SomeIn.done {b : Nat} {s : ByteArray} {w : World} {sg : List UInt8} {it : T → List UInt8} {L : List T} {r : List UInt8} {j : Nat} {rows : List Value} {v : Value} {wr w2 : World} (h : SomeIn b s w sg it L r j rows v wr) (hb : b < w.heap.size) (hj : ¬ j < L.length) (hK : Kept [b] wr w2) (hS : SR b s r w2) : GotTs b s L r w (.returned v) w2 := by
  obtain ⟨h1, h2, h3, h4, h5, h6⟩ := h
  obtain rfl : j = L.length := by omega
  rw [List.take_length] at h4
  exact ⟨v, rows, rfl, Sl.of_own_fresh (own_kept h3 hK hb), ((FrKept.of_kept hK hb).trans (FrKept.drop w2)).tsat _ _ h4, hS, h6.trans hK⟩

set_option maxRecDepth 100000 in
set_option maxHeartbeats 4000000 in
theorem some_walk (N : Nat) (hall : AllOk N) : SomeOk N := by
  intro k ks hk nn hn b s r w hs hr h
  obtain ⟨i0, hi, hz0, hz1, hz2⟩ := info_test
  have HALL := Lib.hid hall
  have HR := Lib.hid hr
  have hk0 := hk k (by simp)
  have HA1 : Hid (Calls Tryd.prog 41 #[.pointer (some ⟨b, 0, none⟩), .bool nn] w (GotT b s k (tailB sOr (ks.map itm) ++ r) w)) :=
    hall k hk0.1 hk0.2.1 hk0.2.2 nn (fun e => hn k (by simp) e) b s _ w hs (restA_or hr _) h
  have HS0 := Lib.hid h
  have hb := h.lt
  clear hall hr h
  go_enter Tryd.func27, Tryd.ntmps27
  go_wp2_with fail
  refine HA1.out.mono ?_
  rintro e w1 ⟨cs, rfl, hT, hS, hK⟩
  obtain ⟨a, c, rfl⟩ := hT.five
  have HT := Lib.hid hT
  have HS := Lib.hid hS
  have HK := Lib.hid hK
  have hsz := hK.size
  clear hT hS hK
  go_wp2_with fail
  obtain ⟨L, hL⟩ : ∃ L, L = k :: ks := ⟨_, rfl⟩
  have HLN : Hid (L.length ≤ 2001) := by
    show _ ≤ _
    obtain ⟨i, h1, h2, _⟩ := HS0.out
    have h3 := congrArg List.length h2
    have hl : s.data.toList.length = s.size := by simp
    have h4 := tailB_len (ks.map itm)
    simp only [List.length_drop, List.length_append, List.length_map] at h3 h4
    have h5 := itm_pos k
    rw [hL, List.length_cons]
    omega
  have HL := Lib.hid hL
  have HK0 := Lib.hid hk
  have HN0 := Lib.hid hn
  have hlen2 := HLN.out
  clear hk hn hk0 hL
  go_loopw [5] (fun v wr => ∃ (j : Nat) (rows : List Value), j ≤ 2001 ∧ wr.ownsRow w.heap.size 42 5 v j rows ∧ Hid (SomeIn b s w sOr itm L r j rows v wr)) (fun v _ => L.length - lenV v)
  case atStart =>
    refine ⟨1, [.int .i64 k.op, .int .i64 k.mod, .int .i64 k.lo, .int .i64 k.hi, .slice a k.ks.length c], by omega, ?own, ?hid⟩
    case own => exact ⟨rfl, .inr ⟨_, 1, _, rfl, by omega, heap_alloc_new _ _, by omega, by unfold maxLen; omega, rfl, rfl⟩⟩
    case hid =>
      refine ⟨by omega, by rw [HL.out]; simp, ⟨rfl, .inr ⟨_, 1, _, rfl, by omega, heap_alloc_new _ _, by omega, by unfold maxLen; omega, rfl, rfl⟩⟩, ?_, ?_, ?_⟩
      · rw [HL.out]; exact TsAt.one ((FrKept.newRow _ _).tat HT.out)
      · rw [HL.out]; exact HS.out.alloc _
      · exact HK.out.alloc _
  case round =>
    obtain ⟨j, rows, hj, hown, HI⟩ := hrel
    obtain ⟨ao, ac, rfl⟩ := ownsRow_form hown
    have hzr : w.heap.size ≤ wr.heap.size := HI.out.2.2.2.2.2.size
    by_cases hlt : j < L.length
    · have hx : L[j] ∈ k :: ks := by rw [← HL.out]; exact List.getElem_mem _
      have HX : Hid (SizeOf.sizeOf L[j] < N ∧ L[j].form = true ∧ L[j].rng = true) := HK0.out _ hx
      have HM := Lib.hid (sr_more_yes (sign := ⟨#[32, 124, 32]⟩) (HI.out.more hlt) hs rfl)
      have HAL : Hid (∀ w', SR b s (itm L[j] ++ (tailB sOr ((L.drop (j + 1)).map itm) ++ r)) w' → Calls Tryd.prog 41 #[.pointer (some ⟨b, 0, none⟩), .bool nn] w' (GotT b s L[j] (tailB sOr ((L.drop (j + 1)).map itm) ++ r) w')) :=
        fun w' h => HALL.out _ HX.out.1 HX.out.2.1 HX.out.2.2 nn (HN0.out _ hx) b s _ w' hs (restA_or HR.out _) h
      obtain ⟨X, hX⟩ : ∃ X, X = L[j] := ⟨_, rfl⟩
      rw [← hX] at HM HAL
      have HXX := Lib.hid hX
      clear hX hx HX
      go_wp2_with fail
      refine HM.out.mono ?_
      rintro e w2 ⟨rfl, hS2, hK2⟩
      have HS2 := Lib.hid hS2
      have HK2 := Lib.hid hK2
      clear hS2 hK2
      go_wp2_with fail
      refine (HAL.out _ HS2.out).mono ?_
      rintro e w3 ⟨cs, rfl, hT3, hS3, hK3⟩
      obtain ⟨a', c', rfl⟩ := hT3.five
      have HT3 := Lib.hid hT3
      have HS3 := Lib.hid hS3
      have HK3 := Lib.hid (HK2.out.trans hK3)
      have HK3' := Lib.hid hK3
      have hown3 := own_kept hown HK3.out hb
      have hz3 : w.heap.size ≤ w3.heap.size := Nat.le_trans hzr HK3.out.size
      clear hT3 hS3 hK3
      go_wp2_with (at_builtin; go_loud (refine wpList_append_own_at _ rfl _ _ 22 rfl w.heap.size 42 i0 (.agg #[.int .i64 0, .int .i64 0, .int .i64 0, .int .i64 0, .slice none 0 0]) 5 56 Tryd.underlying22 hi hz0 hz1 hz2 rfl (by decide) _ _ _ rfl (hown3.alloc _) ⟨w3.heap.size, 0, none⟩ 1 1 [.int .i64 X.op, .int .i64 X.mod, .int .i64 X.lo, .int .i64 X.hi, .slice a' X.ks.length c'] rfl rfl (five_cells _ _ _ _ _ _ _) (by simp [Value.oneCell']) (by unfold maxLen; omega) (by omega) (by simp; omega) ?_); intro v' w' hown' hgr hnil hat)
      go_roundw
      case rel =>
        refine ⟨j + 1, _, by omega, hown', ?_⟩
        exact HI.out.step hb hlt HK2.out HK3.out (by rw [← HXX.out]; exact HT3.out) HS3.out hown' hgr hat
      case measure =>
        obtain ⟨x, y, e⟩ := ownsRow_form hown'
        subst e
        simp only [lenV]
        omega
    · have HMN : Hid (Calls Tryd.prog 42 #[.pointer (some ⟨b, 0, none⟩), .string ⟨#[32, 124, 32]⟩] wr fun e w' => e = .returned (.bool false) ∧ SR b s r w' ∧ Kept [b] wr w') := by
        have h5 := HI.out.2.2.2.2.1
        rw [List.drop_eq_nil_of_le (by omega)] at h5
        exact sr_more_no h5 hs rfl HR.out.2
      go_wp2_with fail
      refine HMN.out.mono ?_
      rintro e w2 ⟨rfl, hS2, hK2⟩
      have HS2 := Lib.hid hS2
      have HK2 := Lib.hid hK2
      clear hS2 hK2
      go_wp2_with fail
      go_ret
      rw [← HL.out]
      exact HI.out.done hb hlt HK2.out HS2.out
end Go.Proofs.YtgfoangacbajlaaDoor
