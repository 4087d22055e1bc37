/- SchemaRound: the walk. Conditions: how many values the defaults have and how many strings; the cells of MaxLen and kindNames. -/
import Derived.Test.YtejnoedlfbglcaaGreatDoorScC
import Derived.Test.YtejnoedlfbglcaaGreatDoorScG
import Derived.Test.YtejnoedlfbglcaaGreatDoorKeO
import Derived.Test.YtejnoedlfbglcaaGreatDoorAwC3
namespace Go.Proofs.YtejnoedlfbglcaaGreatDoor
open Go.RowKit Mh
set_option linter.unusedVariables false

theorem cmp_same (X : V) : (V.cmp X X == 0) = true := by rw [cmp_self _ X (Nat.lt_succ_self _)]; rfl
set_option maxRecDepth 100000 in
set_option maxHeartbeats 16000000 in
theorem schema_walk (fs : List Mh.Fd) (fv : Value) (sb : Bool) (w : World) (m : Int) (hm : w.cell? ⟨1, 0, none⟩ = some (.int .i64 m)) (hK : KNames w) (hF : FsAt w fv fs) (hn : ∀ f ∈ fs, f.dv.nodes ≤ 2097152 ∧ f.one.length ≤ 2097152) :
    Calls Tryz.prog 3 #[.agg #[fv, .bool sb]] w fun e w' => e = .returned (.bool true) ∧ Below w.heap.size w w' := by
  have HML : Hid (∀ w', Below w.heap.size w w' → w'.cell? ⟨1, 0, none⟩ = some (.int .i64 m)) := fun w' hb => (hb.cell (World.block_lt_of_cell? w _ hm)).trans hm
  have HKN : Hid (∀ w', Below w.heap.size w w' → KNames w') := fun w' hb => hK.keep hb
  have HA := Lib.hid (fun w' => awakeConf_any w')
  have C1 := Lib.hid (fun w' (hb : Below w.heap.size w w') => schemaValue_any fs fv sb w' m (HML.out w' hb) (HKN.out w' hb) (hF.keep hb) hn)
  have CM := Lib.hid (fun (Y : V) (es fs' : List Value) w' (hY : VAt w' Y es) (hZ : VAt w' Y fs') => same_any Y Y es fs' w' hY hZ)
  have CZ := Lib.hid (fun w' => same_any V.nil V.nil zv zv w' (zv_at _) (zv_at _))
  rw [cmp_same] at CZ
  simp only [cmp_same] at CM
  have HWF : Hid (∀ f ∈ fs, FdWf f) := by
    obtain ⟨_, _, _, _, hfield⟩ := hF.field
    intro f hf
    obtain ⟨i, hi, rfl⟩ := List.mem_iff_getElem.1 hf
    obtain ⟨_, _, _, _, _, _, _, _, _, _, h, _⟩ := hfield i hi
    exact ⟨h.rt, h.kd, h.mn, h.mx, h.one.2⟩
  have C2 := Lib.hid (fun (cs : List Value) w' (hb : Below w.heap.size w w') (hok : fdsOk fs) (hoc : (schemaV fs sb).okc) (h : VAt w' (schemaV fs sb) cs) => readSchema_any fs sb hok HWF.out hoc cs w' m (HML.out w' hb) (HKN.out w' hb) h)
  have C3 := Lib.hid (fun (fv' : Value) w' (hb : Below w.heap.size w w') (h : FsAt w' fv' fs) => schemaValue_any fs fv' sb w' m (HML.out w' hb) (HKN.out w' hb) h hn)
  obtain ⟨ao, ac, rfl, hlm, _⟩ := hF.field
  have HB0 : Hid (Below w.heap.size w (w.alloc (.cells #[.slice ao fs.length ac, .bool sb] 24))) := below_alloc _ _
  have HS0 : Hid ((w.alloc (.cells #[.slice ao fs.length ac, .bool sb] 24)).heap[w.heap.size]? = some (.cells #[.slice ao fs.length ac, .bool sb] 24)) := heap_alloc_new _ _
  unfold zv at CZ
  clear hF hm hK hn
  go_enter Tryz.func3, Tryz.ntmps3
  go_wp2_with fail
  refine (HA.out _).mono ?_
  rintro e w1 ⟨rfl, hb1⟩
  have hS1 := (hb1.block _ (by simp)).trans HS0.out
  have HB1 : Hid (Below w.heap.size w w1) := HB0.out.trans (hb1.mono (by simp))
  have hz1 : w.heap.size < w1.heap.size := by have := hb1.size; simp at this; omega
  have q0 : w1.cell? ⟨w.heap.size, 0, none⟩ = some (.slice ao fs.length ac) := cellT hS1 rfl
  have q1 : w1.cell? ⟨w.heap.size, 1, none⟩ = some (.bool sb) := cellT hS1 rfl
  clear hb1 hS1 HS0 HB0 HA
  go_wp2_with fail
  refine (C1.out _ HB1.out).mono ?_
  rintro e w2 ⟨c, ds, rfl, hb2, hway, _⟩
  have HB2 : Hid (Below w.heap.size w w2) := HB1.out.trans (hb2.mono (by omega))
  clear q0 q1 hb2 C1 HB1
  rcases hway with ⟨hc, rfl⟩ | ⟨rfl, hok, hoc, hv⟩
  · have hq : (c != 0) = true := by rw [bne_iff_ne]; exact hc
    have HB3 : Hid (Below w.heap.size w (w2.alloc box0)) := HB2.out.alloc HB2.out.size _
    unfold box0 at HB3
    unfold zv
    clear hc CM C2 C3 HML HKN HWF
    go_wp2_with fail
    refine (CZ.out _).mono ?_
    rintro e w3 ⟨rfl, hb3⟩
    have HB4 : Hid (Below w.heap.size w w3) := HB3.out.trans (hb3.mono HB3.out.size)
    clear hb3 HB3 CZ
    go_wp2_with fail
    go_ret
    exact ⟨rfl, HB4.out⟩
  · have HOK := Lib.hid hok
    have HOC := Lib.hid hoc
    obtain ⟨X, hX⟩ : ∃ X, schemaV fs sb = X := ⟨_, rfl⟩
    have HXE := Lib.hid hX
    rw [hX] at hv
    clear hX
    obtain ⟨xa, xc, xk, xkc, rfl, _⟩ := hv.opened
    have hB3 : Below w2.heap.size w2 (w2.alloc (box6 X xa xc xk xkc)) := below_alloc _ _
    have HB3 : Hid (Below w.heap.size w (w2.alloc (box6 X xa xc xk xkc))) := HB2.out.trans (hB3.mono HB2.out.size)
    have HX3 : Hid ((w2.alloc (box6 X xa xc xk xkc)).heap[w2.heap.size]? = some (box6 X xa xc xk xkc)) := heap_alloc_new _ _
    have HV3 := Lib.hid (hv.keep hB3)
    have C23 := Lib.hid (C2.out (vcs X xa xc xk xkc) _ HB3.out HOK.out HOC.out (by rw [HXE.out]; exact HV3.out))
    have HN3 : Hid ((w2.alloc (box6 X xa xc xk xkc)).heap.size = w2.heap.size + 1) := by show _ = _; simp
    unfold box6 at HB3 HX3 HV3 C23 HN3
    rw [vcs_arr] at C23
    rw [vcs_arr]
    clear hB3 hv hok hoc C2 CZ HWF
    go_wp2_with fail
    refine C23.out.mono ?_
    rintro e w4 ⟨fv', rfl, hf4, hb4⟩
    obtain ⟨ao', ac', rfl, _, _⟩ := hf4.field
    have hz4 : w2.heap.size + 1 ≤ w4.heap.size := by have := hb4.size; rw [HN3.out] at this; exact this
    have hB4 : Below w.heap.size w w4 := HB3.out.trans (hb4.mono HB3.out.size)
    have hX4 := (hb4.block _ (by rw [HN3.out]; omega)).trans HX3.out
    have hV4 := HV3.out.keep hb4
    have hB5 : Below w4.heap.size w4 (w4.alloc (.cells #[.slice ao' fs.length ac', .bool sb] 24)) := below_alloc _ _
    have HB5 : Hid (Below w.heap.size w (w4.alloc (.cells #[.slice ao' fs.length ac', .bool sb] 24))) := hB4.trans (hB5.mono hB4.size)
    have HX5 := Lib.hid ((hB5.block _ (by omega)).trans hX4)
    have HV5 := Lib.hid (hV4.keep hB5)
    have C35 := Lib.hid (C3.out _ _ HB5.out (hf4.keep hB5))
    have HN5 : Hid ((w4.alloc (.cells #[.slice ao' fs.length ac', .bool sb] 24)).heap.size = w4.heap.size + 1) := by show _ = _; simp
    clear hb4 hf4 hB4 hX4 hV4 hB5 HB3 HX3 HV3 C23 C3 HN3
    go_wp2_with fail
    refine C35.out.mono ?_
    rintro e w6 ⟨c, ds, rfl, hb6, hway, hz⟩
    obtain rfl : c = 0 := hz HOK.out HOC.out
    rcases hway with ⟨hc, _⟩ | ⟨_, _, _, hv6⟩
    · exact absurd rfl hc
    rw [HXE.out] at hv6
    obtain ⟨ya, yc, yk, ykc, rfl, _⟩ := hv6.opened
    have hz6 : w4.heap.size + 1 ≤ w6.heap.size := by have := hb6.size; rw [HN5.out] at this; exact this
    have hB6 : Below w.heap.size w w6 := HB5.out.trans (hb6.mono HB5.out.size)
    have hX6 := (hb6.block _ (by rw [HN5.out]; omega)).trans HX5.out
    have hV6 := HV5.out.keep hb6
    have hB7 : Below w6.heap.size w6 (w6.alloc (box6 X ya yc yk ykc)) := below_alloc _ _
    have HB7 : Hid (Below w.heap.size w (w6.alloc (box6 X ya yc yk ykc))) := hB6.trans (hB7.mono hB6.size)
    have HX7 := Lib.hid ((hB7.block _ (by omega)).trans hX6)
    have CM7 := Lib.hid (CM.out X _ _ _ (hV6.keep hB7) (hv6.keep hB7))
    unfold box6 at HB7 HX7 CM7
    rw [vcs_arr, vcs_arr] at CM7
    rw [vcs_arr]
    obtain ⟨r0, r1, r2, r3, r4, r5⟩ := six_of_block HX7.out
    clear hb6 hv6 hB6 hX6 hV6 hB7 HB5 HX5 HV5 C35 CM hz HN5
    go_wp2_with fail
    refine CM7.out.mono ?_
    rintro e w8 ⟨rfl, hb8⟩
    have HB8 : Hid (Below w.heap.size w w8) := HB7.out.trans (hb8.mono HB7.out.size)
    clear hb8 HB7 CM7 r0 r1 r2 r3 r4 r5
    go_wp2_with fail
    go_ret
    exact ⟨rfl, HB8.out⟩
end Go.Proofs.YtejnoedlfbglcaaGreatDoor
