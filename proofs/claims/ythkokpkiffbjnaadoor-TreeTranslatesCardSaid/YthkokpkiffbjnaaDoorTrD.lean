/- A page in memory; tree.filesFault, setting and translation. Conditions: strings of at most maxLen bytes; the key of at most 1000; the library's variable MaxLen holds an integer. -/
import Derived.Test.YthkokpkiffbjnaaDoorTrC
namespace Mh
open Go Go.RowKit
set_option linter.unusedVariables false
structure Pg where
  path : ByteArray
  key : ByteArray
  lang : ByteArray
  addr : ByteArray
  kind : Int
  set : V
  rest : ByteArray
  files : List ByteArray
/-- A page's thirteen cells. -/
def pg13 (p : Pg) (ia : Option Addr) (ic : Nat) (ka : Option Addr) (kc : Nat) (fa : Option Addr) (fc : Nat) : Array Value :=
  #[.string p.path, .string p.key, .string p.lang, .string p.addr, .int .i64 p.kind, .int .i64 p.set.kd, .bool p.set.bo, .int .i64 p.set.nu, .string p.set.tx, .slice ia p.set.its.length ic, .slice ka p.set.kys.length kc, .string p.rest, .slice fa p.files.length fc]
/-- A page read at a world. -/
structure PgAt (w : World) (p : Pg) (ia : Option Addr) (ic : Nat) (ka : Option Addr) (kc : Nat) (fa : Option Addr) (fc : Nat) : Prop where
  set : VAt w p.set (vcs p.set ia ic ka kc)
  files : Ss w (.slice fa p.files.length fc) p.files
  path : p.path.size ≤ maxLen
  key : p.key.size ≤ maxLen
  lang : p.lang.size ≤ maxLen
  addr : p.addr.size ≤ maxLen
  rest : p.rest.size ≤ maxLen
theorem PgAt.keep {w w' : World} {p : Pg} {ia ka fa : Option Addr} {ic kc fc : Nat} (h : PgAt w p ia ic ka kc fa fc) (hb : Below w.heap.size w w') : PgAt w' p ia ic ka kc fa fc :=
  ⟨h.set.keep hb, h.files.below hb, h.path, h.key, h.lang, h.addr, h.rest⟩
theorem pg_open {w : World} {g : Nat} {T : TypeId} {c0 c1 c2 c3 c4 c5 c6 c7 c8 c9 c10 c11 c12 : Value} (h : w.heap[g]? = some (.cells #[c0, c1, c2, c3, c4, c5, c6, c7, c8, c9, c10, c11, c12] T (0, 0))) :
    w.cell? ⟨g, 0, none⟩ = some c0 ∧ w.cell? ⟨g, 1, none⟩ = some c1 ∧ w.cell? ⟨g, 2, none⟩ = some c2 ∧ w.cell? ⟨g, 3, none⟩ = some c3 ∧ w.cell? ⟨g, 4, none⟩ = some c4 ∧ w.cell? ⟨g, 5, none⟩ = some c5 ∧ w.cell? ⟨g, 6, none⟩ = some c6 ∧
      w.cell? ⟨g, 7, none⟩ = some c7 ∧ w.cell? ⟨g, 8, none⟩ = some c8 ∧ w.cell? ⟨g, 9, none⟩ = some c9 ∧ w.cell? ⟨g, 10, none⟩ = some c10 ∧ w.cell? ⟨g, 11, none⟩ = some c11 ∧ w.cell? ⟨g, 12, none⟩ = some c12 :=
  ⟨cellT h rfl, cellT h rfl, cellT h rfl, cellT h rfl, cellT h rfl, cellT h rfl, cellT h rfl, cellT h rfl, cellT h rfl, cellT h rfl, cellT h rfl, cellT h rfl, cellT h rfl⟩
end Mh
namespace Go.Proofs.YthkokpkiffbjnaaDoor
open Go.RowKit Mh
set_option linter.unusedVariables false
theorem path_len {l : List UInt8} (h : pathB l = true) : l.length ≤ 200 := by unfold pathB at h; rw [Bool.and_eq_true] at h; exact of_decide_eq_true h.1
set_option maxHeartbeats 4000000 in
theorem filesFault_any (p : Pg) (ia ka fa : Option Addr) (ic kc fc : Nat) (w : World) (h : PgAt w p ia ic ka kc fa fc) (hk : p.key.size ≤ 1000) (m : Int) (hml : w.cell? ⟨0, 0, none⟩ = some (.int .i64 m)) :
    Calls Tryd.prog 25 #[.agg (pg13 p ia ic ka kc fa fc)] w fun e w' => ∃ r : Int, e = .returned (.int .i64 r) ∧ (r = 0 ↔ FilesOk p.kind p.key p.files) ∧ Below w.heap.size w w' := by
  have hmz : 0 < w.heap.size := World.block_lt_of_cell? w _ hml
  obtain ⟨ao, c, hv, hm, hat⟩ := h.files.get
  simp only [Value.slice.injEq, true_and] at hv
  obtain ⟨rfl, rfl⟩ := hv
  have HAT := Lib.hid hat
  have HP := Lib.hid (fun (s : ByteArray) (hs : s.size ≤ maxLen) w' (hb : Below w.heap.size w w') => tpath_any s w' hs ⟨m, (hb.cell hmz).trans hml⟩)
  have HHP := Lib.hid (fun (s p : ByteArray) w' => Tryd.strings_HasPrefix s p w')
  unfold maxLen at hm
  unfold pg13
  generalize p.set.kd = y0 at *
  generalize p.set.bo = y1 at *
  generalize p.set.nu = y2 at *
  generalize p.set.tx = y3 at *
  generalize p.set.its.length = y4 at *
  generalize p.set.kys.length = y5 at *
  generalize p.files = F at *
  generalize p.key = key at *
  generalize p.kind = kind at *
  clear hat h hml
  have HX0 := Lib.hid (heap_alloc_new w (.cells #[.string p.path, .string key, .string p.lang, .string p.addr, .int .i64 kind, .int .i64 y0, .bool y1, .int .i64 y2, .string y3, .slice ia y4 ic, .slice ka y5 kc, .string p.rest, .slice fa F.length fc] 39))
  have HB0 : Hid (Below w.heap.size w (w.alloc (.cells #[.string p.path, .string key, .string p.lang, .string p.addr, .int .i64 kind, .int .i64 y0, .bool y1, .int .i64 y2, .string y3, .slice ia y4 ic, .slice ka y5 kc, .string p.rest, .slice fa F.length fc] 39))) := (Below.refl _ w).alloc (Nat.le_refl _) _
  go_enter Tryd.func25, Tryd.ntmps25
  go_wp2_with fail
  go_loopw [8] (fun i wr => ∃ k : Nat, k ≤ F.length ∧ i = .int .i64 k ∧ Hid (∀ j (hj : j < F.length), j < k → FileAt kind key F j hj) ∧ Hid (Below w.heap.size w wr) ∧ Hid (wr.heap[w.heap.size]? = some (.cells #[.string p.path, .string key, .string p.lang, .string p.addr, .int .i64 kind, .int .i64 y0, .bool y1, .int .i64 y2, .string y3, .slice ia y4 ic, .slice ka y5 kc, .string p.rest, .slice fa F.length fc] 39 (0, 0)))) (fun i wr => F.length - (intOf i).toNat)
  case atStart => exact ⟨0, Nat.zero_le _, rfl, fun j hj h => by omega, HB0, HX0⟩
  case round =>
    obtain ⟨k, hk, rfl, HO, HB, HX⟩ := hrel
    clear HX0 HB0
    obtain ⟨wo, rfl⟩ : ∃ wo : World, wo = wr := ⟨_, rfl⟩
    have HZ : Hid (w.heap.size < wo.heap.size) := (Array.getElem?_eq_some_iff.1 HX.out).1
    by_cases hkl : k < F.length
    · obtain ⟨b, off, rfl, h1, h2, h3, h4, h5⟩ := HAT.out k hkl
      have h4' := (HB.out.cell (p := ⟨b, off + k, none⟩) h3).trans h4
      obtain ⟨x0, x1, x2, x3, x4, x5, x6, x7, x8, x9, x10, x11, x12⟩ := pg_open HX.out
      unfold maxLen at h2
      have NO : Hid (∀ P : Prop, (FileAt kind key F k hkl → P) → (FilesOk kind key F → P)) := fun P f h => f (h k hkl)
      by_cases hk1 : kind = 1
      rotate_left
      · have HN : Hid (¬ FilesOk kind key F) := NO.out _ fun h => hk1 h.1
        have hd : (kind != 1) = true := by rw [bne_iff_ne]; exact hk1
        go_wp2_with fail
        go_ret
        exact ⟨1, rfl, ⟨fun h => absurd h (by decide), fun h => absurd h HN.out⟩, HB.out⟩
      have HPK := Lib.hid (HP.out F[k] h5 wo HB.out)
      have HK1 := Lib.hid hk1
      subst hk1
      cases hpb : pathB F[k].data.toList with
      | false =>
        rw [hpb] at HPK
        have HN : Hid (¬ FilesOk 1 key F) := NO.out _ fun h => by have := h.2.1; rw [hpb] at this; cases this
        clear hpb
        go_wp2_with fail
        refine HPK.out.mono ?_
        rintro e w2 ⟨rfl, hb2⟩
        have HB2 := Lib.hid (HB.out.trans (hb2.mono HB.out.size))
        clear hb2
        go_wp2_with fail
        go_ret
        exact ⟨3, rfl, ⟨fun h => absurd h (by decide), fun h => absurd h HN.out⟩, HB2.out⟩
      | true =>
        have HPT := Lib.hid hpb
        rw [hpb] at HPK
        have h200 : F[k].size ≤ 200 := by have := path_len hpb; rw [Array.length_toList] at this; exact this
        have HPRE := Lib.hid (fun w' => HHP.out F[k] (key ++ ⟨#[47]⟩) w')
        clear hpb
        go_wp2_with fail
        refine HPK.out.mono ?_
        rintro e w2 ⟨rfl, hb2⟩
        have HB2 := Lib.hid (HB.out.trans (hb2.mono HB.out.size))
        have HX2 := Lib.hid ((hb2.block _ HZ.out).trans HX.out)
        clear hb2 x0 x1 x2 x3 x4 x5 x6 x7 x8 x9 x10 x11 x12
        obtain ⟨x0, x1, x2, x3, x4, x5, x6, x7, x8, x9, x10, x11, x12⟩ := pg_open HX2.out
        have h4'' := (HB2.out.cell (p := ⟨b, off + k, none⟩) h3).trans h4
        cases hpre : Lib.hasPrefix F[k].data.toList (key ++ ⟨#[47]⟩).data.toList with
        | false =>
          rw [hpre] at HPRE
          have HN : Hid (¬ FilesOk 1 key F) := NO.out _ fun h => by have := h.2.2.1; rw [hpre] at this; cases this
          clear hpre
          go_wp2_with (go_at_call 40; refine (HPRE.out _).mono ?_; rintro e w' ⟨rfl, rfl⟩)
          go_ret
          exact ⟨3, rfl, ⟨fun h => absurd h (by decide), fun h => absurd h HN.out⟩, HB2.out⟩
        | true =>
          have HPR := Lib.hid hpre
          rw [hpre] at HPRE
          clear hpre
          go_upto_region 8 with (go_at_call 40; refine (HPRE.out _).mono ?_; rintro e w' ⟨rfl, rfl⟩)
          by_cases hk0 : k = 0
          · have hkd : decide ((0 : Int) < (k : Int)) = false := decide_eq_false (by omega)
            have hkd2 : decide (0 < k) = false := decide_eq_false (by omega)
            have HA : Hid (∀ j (hj : j < F.length), j < k + 1 → FileAt 1 key F j hj) := fun j hj h => by
              by_cases e : j = k
              · subst e; exact ⟨rfl, HPT.out, HPR.out, fun h0 => by omega⟩
              · exact HO.out j hj (by omega)
            clear hk0
            go_wp2_with fail
            go_roundw
            case rel => exact ⟨k + 1, by omega, by go_num, HA, HB2, HX2⟩
            case measure => simp [intOf]; omega
          · obtain ⟨j, rfl⟩ : ∃ j, k = j + 1 := ⟨k - 1, by omega⟩
            have hpos : decide (0 < j + 1) = true := decide_eq_true (by omega)
            have hpos2 : decide ((0 : Int) < ((j + 1 : Nat) : Int)) = true := decide_eq_true (by omega)
            have hsub : ((j + 1 : Nat) : Int) - 1 = ((j : Nat) : Int) := by omega
            have hjl : j < F.length := by omega
            obtain ⟨b', off', hbo, _, _, _, h4j, h5j⟩ := HAT.out j hjl
            simp only [Option.some.injEq, Addr.mk.injEq, and_true] at hbo
            obtain ⟨rfl, rfl⟩ := hbo
            have h4j' := (HB2.out.cell (p := ⟨b, off + j, none⟩) h3).trans h4j
            have HYA : Hid (kl F[j] F[j + 1] = true → ∀ i (hi : i < F.length), i < j + 1 + 1 → FileAt 1 key F i hi) := fun q i hi h => by
              by_cases e : i = j + 1
              · subst e; exact ⟨rfl, HPT.out, HPR.out, fun h0 => by simpa using q⟩
              · exact HO.out i hi (by omega)
            have HNA : Hid (kl F[j] F[j + 1] = false → ¬ FilesOk 1 key F) := fun q => NO.out _ fun h => by
              have := h.2.2.2 (by omega)
              simp only [Nat.add_sub_cancel] at this
              rw [q] at this; cases this
            rcases lt_cases F[j + 1] F[j] with ⟨q1, q2, q3⟩ | ⟨q1, q2⟩ | ⟨q1, q2, q3⟩
            · have HA := Lib.hid (HYA.out q1)
              clear q1
              go_wp2_with fail
              go_roundw
              case rel => exact ⟨j + 1 + 1, by omega, by go_num, HA, HB2, HX2⟩
              case measure => simp [intOf]; omega
            · have HN := Lib.hid (HNA.out q1)
              clear q1
              go_wp2_with fail
              go_ret
              exact ⟨5, rfl, ⟨fun h => absurd h (by decide), fun h => absurd h HN.out⟩, HB2.out⟩
            · have HN := Lib.hid (HNA.out q1)
              clear q1
              go_wp2_with fail
              go_ret
              exact ⟨5, rfl, ⟨fun h => absurd h (by decide), fun h => absurd h HN.out⟩, HB2.out⟩
    · have HY : Hid (FilesOk kind key F) := fun i hi => HO.out i hi (by omega)
      go_wp2_with fail
      go_ret
      exact ⟨0, rfl, ⟨fun _ => HY.out, fun _ => rfl⟩, HB.out⟩
end Go.Proofs.YthkokpkiffbjnaaDoor
