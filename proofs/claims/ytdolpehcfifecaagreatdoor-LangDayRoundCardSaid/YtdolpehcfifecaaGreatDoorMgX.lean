/- lang.isOther, countWay. Conditions: a word that is not empty; the variable strconv.ErrRange holds an error. -/
import Derived.Test.YtdolpehcfifecaaGreatDoorMgW
import Derived.Test.YtdolpehcfifecaaGreatDoorMgM
namespace Mh
open Go Go.RowKit
set_option linter.unusedVariables false
/-- A four-cell block that is written over. -/
def put4 (w : World) (g : Nat) (a b c d : Value) : World := (((w.setCell ⟨g, 0, none⟩ a).setCell ⟨g, 1, none⟩ b).setCell ⟨g, 2, none⟩ c).setCell ⟨g, 3, none⟩ d
theorem put4_at {w : World} {g : Nat} {T : TypeId} {a b c d a' b' c' d' : Value} (h : w.heap[g]? = some (.cells #[a', b', c', d'] T (0, 0))) : (put4 w g a b c d).heap[g]? = some (.cells #[a, b, c, d] T (0, 0)) :=
  heap_setCell_same _ _ 3 _ _ _ (heap_setCell_same _ _ 2 _ _ _ (heap_setCell_same _ _ 1 _ _ _ (heap_setCell_same _ _ 0 _ _ _ h)))
theorem put4_below {w w' : World} {B g : Nat} {a b c d : Value} (h : Below B w w') (hg : B ≤ g) : Below B w (put4 w' g a b c d) := by
  unfold put4
  exact ((((h.setCell hg _).setCell hg _).setCell hg _).setCell hg _)
theorem put4_other {w : World} {g k : Nat} {a b c d : Value} (h : k ≠ g) : (put4 w g a b c d).heap[k]? = w.heap[k]? := by
  unfold put4
  rw [heap_setCell_other _ _ _ _ h, heap_setCell_other _ _ _ _ h, heap_setCell_other _ _ _ _ h, heap_setCell_other _ _ _ _ h]
theorem put4_size {w : World} {g : Nat} {a b c d : Value} : (put4 w g a b c d).heap.size = w.heap.size := by simp [put4]
theorem four_of_block {w : World} {g : Nat} {T : TypeId} {a b c d : Value} (h : w.heap[g]? = some (.cells #[a, b, c, d] T (0, 0))) :
    w.cell? ⟨g, 0, none⟩ = some a ∧ w.cell? ⟨g, 1, none⟩ = some b ∧ w.cell? ⟨g, 2, none⟩ = some c ∧ w.cell? ⟨g, 3, none⟩ = some d ∧ ∀ j, w.frozen? ⟨g, j, none⟩ = false :=
  ⟨cellT h rfl, cellT h rfl, cellT h rfl, cellT h rfl, fun _ => frozenT h⟩
end Mh
namespace Go.Proofs.YtdolpehcfifecaaGreatDoor
open Go.RowKit Mh
set_option linter.unusedVariables false
theorem gother_any (kd : Int) (W : Wy) (pv : Value) (w : World) (hpv : ∃ a n c, pv = .slice a n c) : Calls Tryz.prog 54 #[.int .i64 kd, .agg #[.string W.wd, .int .i64 W.ex, .int .i64 W.fm, pv]] w fun e w' => e = .returned (.bool (isOther kd W)) ∧ Below w.heap.size w w' := by
  obtain ⟨a, n, c, rfl⟩ := hpv
  have HR : Hid (isOther kd W = if kd = 2 then decide (W.wd.size = 0) else decide (W.fm = 7)) := rfl
  by_cases hk : kd = 2
  · have b : (kd == 2) = true := by rw [beq_iff_eq]; exact hk
    rw [if_pos hk] at HR
    have he : W.wd.toList.isEmpty = decide (W.wd.size = 0) := by
      rw [ByteArray.toList_eq]
      have h : W.wd.data.toList.length = W.wd.size := by simp
      cases hc : W.wd.data.toList with
      | nil => rw [hc] at h; simp at h; simp [← h]
      | cons a l => rw [hc] at h; simp at h; simp [← h]
    rw [← he] at HR
    clear he hk
    go_enter Tryz.func54, Tryz.ntmps54
    go_wp2_with fail
    go_ret
    exact ⟨by rw [HR.out]; rfl, (Below.refl _ _).alloc (Nat.le_refl _) _⟩
  · have b : (kd == 2) = false := by rw [beq_eq_false_iff_ne]; exact hk
    rw [if_neg hk] at HR
    have he : (W.fm == 7) = decide (W.fm = 7) := by rw [Bool.eq_iff_iff]; simp
    rw [← he] at HR
    clear he hk
    go_enter Tryz.func54, Tryz.ntmps54
    go_wp2_with fail
    go_ret
    exact ⟨by rw [HR.out]; rfl, (Below.refl _ _).alloc (Nat.le_refl _) _⟩
/-- What countWay gives. -/
def CwR (p : Wy × Int) (w : World) (e : Ending) (w' : World) : Prop := e = .returned (.tuple #[.agg #[.string p.1.wd, .int .i64 p.1.ex, .int .i64 p.1.fm, .slice none 0 0], .int .i64 p.2]) ∧ Below w.heap.size w w'
set_option maxRecDepth 100000 in
set_option maxHeartbeats 4000000 in
theorem gcountWay_any (s : ByteArray) (w : World) (hs : s.size ≤ 1000000) (h0 : 0 < s.size) (hev : EvAt w) : Calls Tryz.prog 63 #[.string s] w (CwR (countP s) w) := by
  have HEV := Lib.hid hev
  clear hev
  have HP : Hid (countP s = if s = otherW then (.mk ⟨#[]⟩ 0 7 [], 0) else if s.data.toList.head? = some 61 then (.mk ⟨#[]⟩ (intP s.data.toList.tail).1 (-1) [], (intP s.data.toList.tail).2) else match s.data.toList with
    | [c] => if 48 ≤ c.toNat ∧ c.toNat ≤ 54 then (.mk ⟨#[]⟩ 0 (c.toNat - 48 : Nat) [], 0) else (.mk ⟨#[]⟩ 0 0 [], 8)
    | _ => (.mk ⟨#[]⟩ 0 0 [], 8)) := rfl
  by_cases ho : s = otherW
  · have HR : Hid (countP s = (.mk ⟨#[]⟩ 0 7 [], 0)) := by show _ = _; rw [HP.out, if_pos ho]
    have q : (s.toList == [111, 116, 104, 101, 114]) = true := mlist_at (by rw [ho]; rfl)
    clear ho HP
    go_enter Tryz.func63, Tryz.ntmps63
    go_wp2_with fail
    obtain ⟨s0, s1, s2, s3, _⟩ := four_of_block (heap_alloc_new w (.cells #[.string ⟨#[]⟩, .int .i64 0, .int .i64 7, .slice none 0 0] 94))
    exact bodyPost_ret (v := .tuple #[.agg #[.string ⟨#[]⟩, .int .i64 0, .int .i64 7, .slice none 0 0], .int .i64 0]) (by simp [results, Tryz.results63, go_sem, s0, s1, s2, s3]) rfl ⟨by rw [HR.out]; rfl, (Below.refl _ _).alloc (Nat.le_refl _) _⟩
  have q : (s.toList == [111, 116, 104, 101, 114]) = false := mlist_not (fun h => ho (by cases s with | mk d => cases d with | mk l => simp only at h; rw [h]; rfl))
  have HH := Lib.hid (mhead_at h0)
  by_cases h61 : s[0].toNat = 61
  · have b61 : ((s[0].toNat : Int) == 61) = true := by rw [beq_iff_eq]; omega
    have HR : Hid (countP s = (.mk ⟨#[]⟩ (intP s.data.toList.tail).1 (-1) [], (intP s.data.toList.tail).2)) := by
      show _ = _
      rw [HP.out, if_neg ho, if_pos (by rw [HH.out]; congr 1; exact UInt8.toNat_inj.1 h61)]
    have hx : (s.extract 1 s.size).data.toList = s.data.toList.tail := by
      simp [ByteArray.data_extract, List.extract_eq_take_drop, List.drop_one]
      exact List.take_of_length_le (by simp)
    have hxs : (s.extract 1 s.size).size ≤ 1000000 := by simp [ByteArray.size_extract]; omega
    have HI : Hid (∀ w, EvAt w → Calls Tryz.prog 68 #[.string (s.extract 1 s.size)] w (IntR (intP s.data.toList.tail) w)) := fun w h => by rw [← hx]; exact ginteger_any _ w hxs h
    generalize intP s.data.toList.tail = IP at HR HI
    obtain ⟨n, er⟩ := IP
    clear ho HP h61 HH hx hxs
    have HW1 := Lib.hid (HI.out (w.alloc (.cells #[.string ⟨#[]⟩, .int .i64 0, .int .i64 0, .slice none 0 0] 94)) (HEV.out.keep ((Below.refl _ w).alloc (Nat.le_refl _) _) HEV.out.size))
    go_enter Tryz.func63, Tryz.ntmps63
    go_wp2_with fail
    refine HW1.out.mono ?_
    rintro e w2 ⟨rfl, hb⟩
    have hz := hb.size
    simp at hz
    have HB2 : Hid (Below w.heap.size w w2) := ((Below.refl _ w).alloc (Nat.le_refl _) _).trans (hb.mono (by simp))
    have HL2 : Hid (w2.heap[w.heap.size]? = some (.cells #[.string ⟨#[]⟩, .int .i64 0, .int .i64 0, .slice none 0 0] 94 (0, 0))) := (hb.block _ (by simp)).trans (heap_alloc_new _ _)
    obtain ⟨s0, s1, s2, s3, fz⟩ := four_of_block HL2.out
    clear hb
    go_wp2_with fail
    have hput := put4_at (a := .string ⟨#[]⟩) (b := .int .i64 n) (c := .int .i64 (-1)) (d := .slice none 0 0) HL2.out
    have hbel := put4_below (a := .string ⟨#[]⟩) (b := .int .i64 n) (c := .int .i64 (-1)) (d := .slice none 0 0) HB2.out (Nat.le_refl w.heap.size)
    unfold put4 at hput hbel
    generalize hwf : World.setCell _ _ _ = wf at hput hbel ⊢
    clear hwf s0 s1 s2 s3 fz
    obtain ⟨s0, s1, s2, s3, _⟩ := four_of_block hput
    exact bodyPost_ret (v := .tuple #[.agg #[.string ⟨#[]⟩, .int .i64 n, .int .i64 (-1), .slice none 0 0], .int .i64 er]) (by simp [results, Tryz.results63, go_sem, s0, s1, s2, s3]) rfl ⟨by rw [HR.out]; rfl, hbel⟩
  have b61 : ((s[0].toNat : Int) == 61) = false := by rw [beq_eq_false_iff_ne]; omega
  have HP : Hid (countP s = match s.data.toList with
    | [c] => if 48 ≤ c.toNat ∧ c.toNat ≤ 54 then (.mk ⟨#[]⟩ 0 (c.toNat - 48 : Nat) [], 0) else (.mk ⟨#[]⟩ 0 0 [], 8)
    | _ => (.mk ⟨#[]⟩ 0 0 [], 8)) := by
    show _ = _
    rw [HP.out, if_neg ho, if_neg]
    intro h
    rw [HH.out] at h
    exact h61 (by rw [Option.some.inj h]; rfl)
  clear ho h61 HH
  have hlen : s.data.toList.length = s.size := by simp
  by_cases h1 : s.size = 1
  · have q1 : ((s.size : Int) == 1) = true := by rw [beq_iff_eq]; omega
    have hl : s.data.toList = [s[0]] := by
      have hd := mdrop_at h0
      rw [mdrop_end (j := 0 + 1) (by omega)] at hd
      exact hd
    have HP : Hid (countP s = if 48 ≤ s[0].toNat ∧ s[0].toNat ≤ 54 then (.mk ⟨#[]⟩ 0 (s[0].toNat - 48 : Nat) [], 0) else (.mk ⟨#[]⟩ 0 0 [], 8)) := by show _ = _; rw [HP.out, hl]
    clear hl hlen h1
    by_cases c1 : 48 ≤ s[0].toNat
    · have d1 : decide ((48 : Int) ≤ (s[0].toNat : Int)) = true := decide_eq_true (by omega)
      by_cases c2 : s[0].toNat ≤ 54
      · have d2 : decide ((s[0].toNat : Int) ≤ 54) = true := decide_eq_true (by omega)
        have HR : Hid (countP s = (.mk ⟨#[]⟩ 0 ((s[0].toNat : Int) - 48) [], 0)) := by show _ = _; rw [HP.out, if_pos ⟨c1, c2⟩]; congr 2; omega
        clear HP
        go_enter Tryz.func63, Tryz.ntmps63
        go_wp2_with fail
        obtain ⟨s0, s1, s2, s3, _⟩ := four_of_block (heap_alloc_new w (.cells #[.string ⟨#[]⟩, .int .i64 0, .int .i64 ((s[0].toNat : Int) - 48), .slice none 0 0] 94))
        exact bodyPost_ret (v := .tuple #[.agg #[.string ⟨#[]⟩, .int .i64 0, .int .i64 ((s[0].toNat : Int) - 48), .slice none 0 0], .int .i64 0]) (by simp [results, Tryz.results63, go_sem, s0, s1, s2, s3]) rfl ⟨by rw [HR.out]; rfl, (Below.refl _ _).alloc (Nat.le_refl _) _⟩
      · have d2 : decide ((s[0].toNat : Int) ≤ 54) = false := decide_eq_false (by omega)
        have HR : Hid (countP s = (.mk ⟨#[]⟩ 0 0 [], 8)) := by show _ = _; rw [HP.out, if_neg (fun h => c2 h.2)]
        clear HP
        go_enter Tryz.func63, Tryz.ntmps63
        go_wp2_with fail
        obtain ⟨s0, s1, s2, s3, _⟩ := four_of_block (heap_alloc_new w (.cells #[.string ⟨#[]⟩, .int .i64 0, .int .i64 0, .slice none 0 0] 94))
        exact bodyPost_ret (v := .tuple #[.agg #[.string ⟨#[]⟩, .int .i64 0, .int .i64 0, .slice none 0 0], .int .i64 8]) (by simp [results, Tryz.results63, go_sem, s0, s1, s2, s3]) rfl ⟨by rw [HR.out]; rfl, (Below.refl _ _).alloc (Nat.le_refl _) _⟩
    · have d1 : decide ((48 : Int) ≤ (s[0].toNat : Int)) = false := decide_eq_false (by omega)
      have HR : Hid (countP s = (.mk ⟨#[]⟩ 0 0 [], 8)) := by show _ = _; rw [HP.out, if_neg (fun h => c1 h.1)]
      clear HP
      go_enter Tryz.func63, Tryz.ntmps63
      go_wp2_with fail
      obtain ⟨s0, s1, s2, s3, _⟩ := four_of_block (heap_alloc_new w (.cells #[.string ⟨#[]⟩, .int .i64 0, .int .i64 0, .slice none 0 0] 94))
      exact bodyPost_ret (v := .tuple #[.agg #[.string ⟨#[]⟩, .int .i64 0, .int .i64 0, .slice none 0 0], .int .i64 8]) (by simp [results, Tryz.results63, go_sem, s0, s1, s2, s3]) rfl ⟨by rw [HR.out]; rfl, (Below.refl _ _).alloc (Nat.le_refl _) _⟩
  · have q1 : ((s.size : Int) == 1) = false := by rw [beq_eq_false_iff_ne]; omega
    have HR : Hid (countP s = (.mk ⟨#[]⟩ 0 0 [], 8)) := by
      show _ = _
      rw [HP.out]
      split
      · rename_i c hc; rw [hc] at hlen; simp at hlen; omega
      · rfl
    clear HP hlen h1
    go_enter Tryz.func63, Tryz.ntmps63
    go_wp2_with fail
    obtain ⟨s0, s1, s2, s3, _⟩ := four_of_block (heap_alloc_new w (.cells #[.string ⟨#[]⟩, .int .i64 0, .int .i64 0, .slice none 0 0] 94))
    exact bodyPost_ret (v := .tuple #[.agg #[.string ⟨#[]⟩, .int .i64 0, .int .i64 0, .slice none 0 0], .int .i64 8]) (by simp [results, Tryz.results63, go_sem, s0, s1, s2, s3]) rfl ⟨by rw [HR.out]; rfl, (Below.refl _ _).alloc (Nat.le_refl _) _⟩
end Go.Proofs.YtdolpehcfifecaaGreatDoor
