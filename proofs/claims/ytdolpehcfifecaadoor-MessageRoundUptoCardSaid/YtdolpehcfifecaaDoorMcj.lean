/- lang.piecesTwice. Conditions: none but where the pieces lie. -/
import Derived.Test.YtdolpehcfifecaaDoorMch
import Derived.Test.YtdolpehcfifecaaDoorTrM
import Derived.KernelRfl
import Derived.WideMake
import Derived.Deep.Cut
namespace Mh
open Go Go.RowKit Go.MapKept Go.ChangeMaps Go.WideElems Go.WideShapes
open Go.WideMaps (KeyLaw)
set_option linter.unusedVariables false
/-- A set of keys in memory. -/
def SetM {α : Type} (P : Program) (k : TypeId) (w : World) (b n : Nat) (key : α → Value) (A : α → Prop) : Prop :=
  ∃ f, MapV P k w b n f ∧ ∀ s, (A s → f (key s) = some (.bool true)) ∧ (¬ A s → f (key s) = none)
theorem SetM.lt {α : Type} {P : Program} {k : TypeId} {w : World} {b n : Nat} {key : α → Value} {A : α → Prop} (h : SetM P k w b n key A) : b < w.heap.size := by obtain ⟨f, h, _⟩ := h; exact h.lt
theorem SetM.block {α : Type} {P : Program} {k : TypeId} {w w' : World} {b n : Nat} {key : α → Value} {A : α → Prop} (h : SetM P k w b n key A) (hb : w'.heap[b]? = w.heap[b]?) : SetM P k w' b n key A := by
  obtain ⟨f, h, h2⟩ := h; exact ⟨f, h.block hb, h2⟩
theorem SetM.below {α : Type} {P : Program} {k : TypeId} {w w' : World} {b n : Nat} {key : α → Value} {A : α → Prop} (h : SetM P k w b n key A) (hb : Below w.heap.size w w') : SetM P k w' b n key A := h.block (hb.block _ h.lt)
theorem SetM.made {α : Type} (w : World) (P : Program) (k : TypeId) (key : α → Value) : SetM P k (w.alloc (.map #[] 0)) w.heap.size 0 key (fun _ => False) :=
  ⟨_, mapV_made w P k, fun s => ⟨fun h => h.elim, fun _ => rfl⟩⟩
theorem SetM.same {α : Type} {P : Program} {k : TypeId} {w : World} {b n : Nat} {key : α → Value} {A B : α → Prop} (h : SetM P k w b n key A) (hab : ∀ s, A s ↔ B s) : SetM P k w b n key B := by
  obtain ⟨f, h, h2⟩ := h; exact ⟨f, h, fun s => ⟨fun hb => (h2 s).1 ((hab s).2 hb), fun hb => (h2 s).2 fun ha => hb ((hab s).1 ha)⟩⟩
theorem setM_look {α : Type} {P : Program} {k t e : TypeId} {w : World} {b n : Nat} {key : α → Value} {A : α → Prop} (h : SetM P k w b n key A) (K : KeyLaw P k) (ht : P.underlying t = some (.map k e)) (hz : (zeroValue e).run P w = .ok (.bool false) w) (s : α) (hs : ∃ kl, keyOf P k (key s) = some kl) (r : Bool) (hr : r = true ↔ A s) :
    (Instr.lookup t (.map (some b)) (key s) false).run P w = .ok (.bool r) w := by
  obtain ⟨f, hM, hA⟩ := h
  obtain ⟨kl, hkl⟩ := hs
  rw [hM.look K ht hz hkl]
  cases r with
  | true => rw [(hA s).1 (hr.1 rfl)]; rfl
  | false => rw [(hA s).2 (fun h => by have := hr.2 h; cases this)]; rfl
theorem setM_put {α : Type} {P : Program} {k t e : TypeId} {w : World} {b n : Nat} {key : α → Value} {A : α → Prop} (h : SetM P k w b n key A) (K : KeyLaw P k) (ht : P.underlying t = some (.map k e)) (hinj : ∀ x y, key x = key y → x = y) (hn : n < maxLen) (s : α) (hs : ∃ kl, keyOf P k (key s) = some kl) :
    ∃ w', (Instr.mapUpdate t (.map (some b)) (key s) (.bool true)).run P w = .ok () w' ∧ SetM P k w' b (n + 1) key (fun q => A q ∨ q = s) ∧ w.grownBy w' (some b) := by
  obtain ⟨f, hM, hA⟩ := h
  obtain ⟨kl, hkl⟩ := hs
  obtain ⟨w', r, m, g⟩ := hM.put K ht hn hkl (.bool true)
  refine ⟨w', r, ⟨_, m, fun q => ?_⟩, g⟩
  by_cases e : q = s
  · subst e
    exact ⟨fun _ => updV_same _ _ _, fun h => absurd (.inr rfl) h⟩
  · have hne : key q ≠ key s := fun h => e (hinj _ _ h)
    rw [updV_other _ _ hne]
    exact ⟨fun h => (hA q).1 (h.resolve_right e), fun h => (hA q).2 fun h2 => h (.inl h2)⟩
/-- The key of a way. -/
def kw (s : ByteArray × Int × Int) : Value := .agg #[.string s.1, .int .i64 s.2.1, .int .i64 s.2.2]
theorem kw_inj (x y : ByteArray × Int × Int) (h : kw x = kw y) : x = y := by
  obtain ⟨a, b, c⟩ := x
  obtain ⟨d, e, f⟩ := y
  unfold kw at h
  simp only [Value.agg.injEq, Array.mk.injEq, List.cons.injEq, Value.string.injEq, Value.int.injEq, true_and, and_true] at h
  obtain ⟨h1, h2, h3⟩ := h
  rw [h1, h2, h3]
def wk (y : Wy) : ByteArray × Int × Int := (y.wd, y.ex, y.fm)
theorem seen_iff (l : List Wy) (wd : ByteArray) (ex fm : Int) : l.any (fun y => sameWy y (.mk wd ex fm [])) = true ↔ ∃ y ∈ l, wk y = (wd, ex, fm) := by
  rw [List.any_eq_true]
  constructor
  · rintro ⟨y, hy, h⟩
    refine ⟨y, hy, ?_⟩
    unfold sameWy at h
    simp only [Bool.and_eq_true, decide_eq_true_eq] at h
    unfold wk
    rw [h.1, h.2.1, h.2.2]
    rfl
  · rintro ⟨y, hy, h⟩
    refine ⟨y, hy, ?_⟩
    unfold wk at h
    injection h with h1 h
    injection h with h2 h3
    unfold sameWy
    simp only [Bool.and_eq_true, decide_eq_true_eq]
    exact ⟨h1, h2, h3⟩
end Mh
namespace Go.Proofs.YtdolpehcfifecaaDoor
open Go.RowKit Mh Go.MapKept
open Go.WideMaps (KeyLaw)
set_option linter.unusedVariables false
theorem laidOut : laidOutB Tryd.prog = true := by kernel_rfl
theorem wkey_row : (85 : TypeId) < Tryd.prog.types.size := of_decide_eq_true (by kernel_rfl)
theorem wkey_law : KeyLaw Tryd.prog 85 := deep_law_laid laidOut (m := 3) (by omega) wkey_row (by kernel_rfl) (by rw [Tryd.underlying85])
theorem wkey_of {s : ByteArray × Int × Int} (h1 : s.1.size ≤ maxLen) (h2 : (Lit.int .i64 s.2.1).wf = true) (h3 : (Lit.int .i64 s.2.2).wf = true) : ∃ kl, keyOf Tryd.prog 85 (kw s) = some kl := by
  obtain ⟨m, hm⟩ : ∃ m, Tryd.prog.types.size + 1 = m + 2 := ⟨Tryd.prog.types.size - 1, by have : 1 ≤ Tryd.prog.types.size := by { have : Tryd.prog.types.size = Tryd.prog.types.size := rfl; exact Nat.le_of_ble_eq_true (by kernel_rfl) }; omega⟩
  have hc : Tryd.prog.cellsOf 85 = 3 := by kernel_rfl
  have hc1 : Tryd.prog.cellsOf 9 = 1 := by kernel_rfl
  have hc2 : Tryd.prog.cellsOf 3 = 1 := by kernel_rfl
  have hk : Tryd.prog.keyType 85 = true := by kernel_rfl
  refine ⟨.string (keyBytes [.string s.1.data.toList, .int .i64 s.2.1, .int .i64 s.2.2]), ?_⟩
  unfold keyOf kw
  rw [Tryd.underlying85, hk, hm]
  simp only [Value.formed, Tryd.underlying85, hc, Program.keyLits, Value.cells]
  simp [h1, h2, h3, hc1, hc2, Tryd.underlying9, Tryd.underlying3]
theorem zBool (w : World) : (zeroValue 4).run Tryd.prog w = .ok (.bool false) w := by kernel_rfl
set_option maxHeartbeats 4000000 in
theorem gtwice_any : ∀ (M : Nat) (ps : List Pc), SizeOf.sizeOf ps < M → ∀ (v : Value) (w : World), PsIn w v ps →
    Calls Tryd.prog 25 #[v] w fun e w' => e = .returned (.bool (twicePs ps)) ∧ Below w.heap.size w w' := by
  intro M
  induction M with
  | zero => intro X h; omega
  | succ M ih =>
    intro ps hX v w h
    obtain ⟨ao, c, rfl, hlen, hk⟩ := h.item
    have HK := Lib.hid hk
    unfold maxLen at hlen
    have HIH : Hid (∀ qs : List Pc, SizeOf.sizeOf qs < SizeOf.sizeOf ps → ∀ (v : Value) (w : World), PsIn w v qs → Calls Tryd.prog 25 #[v] w fun e w' => e = .returned (.bool (twicePs qs)) ∧ Below w.heap.size w w') := by
      intro qs hq
      exact ih _ (by omega)
    obtain ⟨R, hR⟩ : ∃ R, R = twicePs ps := ⟨_, rfl⟩
    rw [← hR]
    have HR := Lib.hid hR
    have HB0 : Hid (Below w.heap.size w w) := Below.refl _ _
    clear h hk ih hX hR
    go_enter Tryd.func25, Tryd.ntmps25
    go_wp2_with fail
    go_loopw [11] (fun i wr => ∃ (k : Nat), k ≤ ps.length ∧ i = .int .i64 k ∧ Hid (twicePs (ps.drop k) = R) ∧ Hid (Below w.heap.size w wr)) (fun i _ => ps.length - (intOf i).toNat)
    case atStart => exact ⟨0, by omega, rfl, by show _ = _; rw [List.drop_zero, HR.out], HB0⟩
    case round =>
      obtain ⟨k, hk, rfl, HI, HB⟩ := hrel
      by_cases hkl : k < ps.length
      · obtain ⟨kd, tx, ws, b, off, xa, xc, rfl, hlt, hdr, hsz, hws, _, _, hcc⟩ := HK.out k hkl
        obtain ⟨c0, c1, c2⟩ := hcc.later HB.out hlt
        have hI := HI.out
        rw [hdr, twicePs] at hI
        obtain ⟨hwl, hwk⟩ := ws_item hws
        have HWK := Lib.hid hwk
        unfold maxLen at hwl
        have HSZ := Lib.hid hsz
        obtain ⟨rest, hrest⟩ : ∃ rest, rest = twicePs (ps.drop (k + 1)) := ⟨_, rfl⟩
        rw [← hrest] at hI
        have HRE := Lib.hid hrest
        have HI1 : Hid ((twiceWs ((ws.take 0).map stripW) (ws.drop 0) || rest) = R) := hI
        obtain ⟨mb, hmb⟩ : ∃ mb, mb = wr.heap.size + 1 := ⟨_, rfl⟩
        have HBn : Hid (Below w.heap.size w ((wr.alloc (.cells #[.int .i64 kd, .string tx, .slice xa ws.length xc] 66)).alloc (.map #[] 0))) := (HB.out.alloc HB.out.size _).alloc (by have := HB.out.size; simp; omega) _
        have HM0 : Hid (SetM Tryd.prog 85 ((wr.alloc (.cells #[.int .i64 kd, .string tx, .slice xa ws.length xc] 66)).alloc (.map #[] 0)) mb 0 kw (fun s => ∃ y ∈ (ws.take 0).map stripW, wk y = s)) := by
          have := SetM.made (wr.alloc (.cells #[.int .i64 kd, .string tx, .slice xa ws.length xc] 66)) Tryd.prog 85 kw
          rw [show (wr.alloc (.cells #[.int .i64 kd, .string tx, .slice xa ws.length xc] 66)).heap.size = mb by rw [hmb]; simp] at this
          exact this.same fun s => ⟨fun h => h.elim, fun h => by simp at h⟩
        have HMB : Hid (w.heap.size ≤ mb) := by have := HB.out.size; show _ ≤ _; omega
        clear hdr hI HI hcc hws hwk hlt hsz hrest
        obtain ⟨wo, rfl⟩ : ∃ wo : World, wo = wr := ⟨_, rfl⟩
        go_wp2_with (rw [run_makeMap])
        generalize hW1 : (wo.alloc (.cells #[.int .i64 kd, .string tx, .slice xa ws.length xc] 66)).alloc (.map #[] 0) = W1 at HBn HM0 ⊢
        have hsn1 : (wo.alloc (.cells #[.int .i64 kd, .string tx, .slice xa ws.length xc] 66)).heap.size = mb := by rw [hmb]; simp
        first | rw [hsn1] | rw [← hmb] | skip
        clear c0 c1 c2 hW1 hsn1 hmb
        go_loopw [19] (fun i wr => ∃ (j : Nat), j ≤ ws.length ∧ i = .int .i64 j ∧ Hid ((twiceWs ((ws.take j).map stripW) (ws.drop j) || rest) = R) ∧ Hid (Below w.heap.size w wr) ∧ Hid (SetM Tryd.prog 85 wr mb j kw (fun s => ∃ y ∈ (ws.take j).map stripW, wk y = s))) (fun i _ => ws.length - (intOf i).toNat)
        case atStart => exact ⟨0, by omega, rfl, HI1, HBn, HM0⟩
        case round =>
          clear HI1 HBn HM0
          obtain ⟨j, hj, rfl, HJ, HB2, HM⟩ := hrel
          by_cases hjl : j < ws.length
          · obtain ⟨wd, ex, fm, qs, b2, off2, ya, yc, rfl, hlt2, hdw, hsz2, hps, hwd, hex, hfm, hcc2⟩ := HWK.out j hjl
            have hB02 : Below w.heap.size w wr := HB2.out
            obtain ⟨d0, d1, d2, d3⟩ := hcc2.later hB02 hlt2
            have hJ := HJ.out
            rw [hdw, twiceWs] at hJ
            have htk : ws.take (j + 1) = ws.take j ++ [.mk wd ex fm qs] := by
              have h1 := List.drop_eq_getElem_cons hjl
              rw [hdw] at h1
              injection h1 with h1 _
              rw [List.take_succ_eq_append_getElem hjl, ← h1]
            have hst : (ws.take (j + 1)).map stripW = (ws.take j).map stripW ++ [.mk wd ex fm []] := by rw [htk, List.map_append]; rfl
            obtain ⟨sn, hsn⟩ : ∃ sn, sn = (ws.take j).map stripW := ⟨_, rfl⟩
            rw [← hsn] at hJ hst HM
            have hiff := seen_iff sn wd ex fm
            obtain ⟨r, hr⟩ : ∃ r, r = sn.any (fun y => sameWy y (.mk wd ex fm [])) := ⟨_, rfl⟩
            rw [← hr] at hJ hiff
            obtain ⟨W2, hW2⟩ : ∃ W2, W2 = (wr.alloc (.cells #[.string wd, .int .i64 ex, .int .i64 fm, .slice ya qs.length yc] 73)).alloc (.cells #[.string wd, .int .i64 ex, .int .i64 fm] 85) := ⟨_, rfl⟩
            have hb12 : Below wr.heap.size wr W2 := by rw [hW2]; exact ((Below.refl _ wr).alloc (Nat.le_refl _) _).alloc (by simp) _
            have hBn2 : Below w.heap.size w W2 := HB2.out.trans (hb12.mono HB2.out.size)
            have HBn2 := Lib.hid hBn2
            have hkb : W2.heap[wr.heap.size + 1]? = some (.cells #[.string wd, .int .i64 ex, .int .i64 fm] 85 (0, 0)) := by
              rw [hW2]; have := heap_alloc_new (wr.alloc (.cells #[.string wd, .int .i64 ex, .int .i64 fm, .slice ya qs.length yc] 73)) (.cells #[.string wd, .int .i64 ex, .int .i64 fm] 85)
              simpa using this
            have hwb : W2.heap[wr.heap.size]? = some (.cells #[.string wd, .int .i64 ex, .int .i64 fm, .slice ya qs.length yc] 73 (0, 0)) := by
              rw [hW2, heap_alloc_old _ _ (by simp)]; exact heap_alloc_new _ _
            have HKB := Lib.hid hkb
            have hsz22 : W2.heap.size = wr.heap.size + 2 := by rw [hW2]; simp
            have HS22 := Lib.hid hsz22
            have HM2 := Lib.hid (HM.out.below hb12)
            have hlook := setM_look HM2.out wkey_law Tryd.underlying83 (zBool _) (wd, ex, fm) (wkey_of hwd hex hfm) r hiff
            unfold kw at hlook
            simp only at hlook
            have HCALL := Lib.hid (HIH.out qs (by have := HSZ.out; omega) _ _ (hps.keep hBn2))
            obtain ⟨t, ht⟩ : ∃ t, t = twicePs qs := ⟨_, rfl⟩
            rw [← ht] at hJ HCALL
            have HJ2 := Lib.hid hJ
            have HST := Lib.hid hst
            have HHH := Lib.hid (And.intro hwd (And.intro hex hfm))
            have HMBL : Hid (j < maxLen) := by show _ < _; unfold maxLen; omega
            have e0 : W2.cell? ⟨wr.heap.size + 1, 0, none⟩ = some (.string wd) := cellT hkb rfl
            have e1 : W2.cell? ⟨wr.heap.size + 1, 1, none⟩ = some (.int .i64 ex) := cellT hkb rfl
            have e2 : W2.cell? ⟨wr.heap.size + 1, 2, none⟩ = some (.int .i64 fm) := cellT hkb rfl
            have e3 : W2.cell? ⟨wr.heap.size, 3, none⟩ = some (.slice ya qs.length yc) := cellT hwb rfl
            clear hJ HJ hcc2 hps hBn2 ht hlt2 hdw hsz2 hB02 hr hiff htk hst hsn hkb hwb hb12 HM hwd hex hfm hsz22
            go_upto_region 9 with fail
            rw [← hW2]
            clear d0 d1 d2 d3 hW2
            cases r with
            | true =>
              have HF : Hid (R = true) := by show _ = _; rw [← HJ2.out]; rfl
              go_wp2_with fail
              go_ret
              exact ⟨by rw [HF.out]; rfl, HBn2.out⟩
            | false =>
              go_wp2_with fail
              refine HCALL.out.mono ?_
              rintro e w3 ⟨rfl, hb3⟩
              have HB3 : Hid (Below w.heap.size w w3) := HBn2.out.trans (hb3.mono HBn2.out.size)
              have hkb3 := (hb3.block _ (by rw [HS22.out]; omega)).trans HKB.out
              have hM3 := HM2.out.below hb3
              clear hlook e0 e1 e2 e3
              have e0 : w3.cell? ⟨wr.heap.size + 1, 0, none⟩ = some (.string wd) := cellT hkb3 rfl
              have e1 : w3.cell? ⟨wr.heap.size + 1, 1, none⟩ = some (.int .i64 ex) := cellT hkb3 rfl
              have e2 : w3.cell? ⟨wr.heap.size + 1, 2, none⟩ = some (.int .i64 fm) := cellT hkb3 rfl
              clear hb3 hkb3
              cases t with
              | true =>
                have HF : Hid (R = true) := by show _ = _; rw [← HJ2.out]; rfl
                go_wp2_with fail
                go_ret
                exact ⟨by rw [HF.out]; rfl, HB3.out⟩
              | false =>
                obtain ⟨w4, hput, hM4, hg4⟩ := setM_put hM3 wkey_law Tryd.underlying83 kw_inj HMBL.out (wd, ex, fm) (wkey_of HHH.out.1 HHH.out.2.1 HHH.out.2.2)
                unfold kw at hput
                simp only at hput
                have HB4 : Hid (Below w.heap.size w w4) := HB3.out.grown hg4 HB3.out.size (fun k hk => by cases hk; exact HMB.out)
                have HM4 : Hid (SetM Tryd.prog 85 w4 mb (j + 1) kw (fun s => ∃ y ∈ (ws.take (j + 1)).map stripW, wk y = s)) := hM4.same fun s => by
                  rw [HST.out]
                  constructor
                  · rintro (⟨y, hy, h⟩ | h)
                    · exact ⟨y, List.mem_append.2 (.inl hy), h⟩
                    · exact ⟨_, List.mem_append.2 (.inr (List.mem_singleton.2 rfl)), h.symm⟩
                  · rintro ⟨y, hy, h⟩
                    rcases List.mem_append.1 hy with hy | hy
                    · exact .inl ⟨y, hy, h⟩
                    · rw [List.mem_singleton.1 hy] at h; exact .inr h.symm
                have HJ3 : Hid ((twiceWs ((ws.take (j + 1)).map stripW) (ws.drop (j + 1)) || rest) = R) := by show _ = _; rw [← HJ2.out, HST.out]; rfl
                clear hM3 hM4 hg4
                go_wp2_with fail
                go_roundw
                case rel => exact ⟨j + 1, by omega, by go_num, HJ3, HB4, HM4⟩
                case measure => simp [intOf]; omega
          · have HI2 : Hid (twicePs (ps.drop (k + 1)) = R) := by
              have := HJ.out
              rw [List.drop_eq_nil_of_le (by omega), twiceWs, Bool.false_or] at this
              show _ = _
              rw [← HRE.out, this]
            go_wp2_with fail
            go_roundw
            case rel => exact ⟨k + 1, by omega, by go_num, HI2, HB2⟩
            case measure => simp [intOf]; omega
      · have HF : Hid (R = false) := by
          have := HI.out
          rw [List.drop_eq_nil_of_le (by omega), twicePs] at this
          exact this.symm
        go_wp2_with fail
        go_ret
        exact ⟨by rw [HF.out]; rfl, HB.out⟩
end Go.Proofs.YtdolpehcfifecaaDoor
