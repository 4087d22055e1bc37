/- asset.cutLast, digitsAt: what each returns. Conditions: those named. -/
import Derived.Test.YtjmnnnjddbmiaaaDoorFingP
import Derived.Test.YtjmnnnjddbmiaaaDoorDig
import Derived.Deep.QuietTactic
import Derived.BigQuiet
namespace Go.Proofs.YtjmnnnjddbmiaaaDoor
open Go.RowKit Mh
set_option linter.unusedVariables false

theorem ext_front (s : ByteArray) (d b : List UInt8) (h : s.data.toList = d ++ b) : s.extract 0 d.length = ⟨d.toArray⟩ := by
  apply bytes_ext
  rw [Lib.extract_data, h]
  simp
theorem ext_back (s : ByteArray) (d b : List UInt8) (h : s.data.toList = d ++ b) : s.extract d.length s.size = ⟨b.toArray⟩ := by
  apply bytes_ext
  rw [Lib.extract_to_end, h]
  simp

theorem cutLast_any (s : ByteArray) (d b : List UInt8) (w : World) (h : s.data.toList = d ++ b) (hd : DirB d) (hb : 47 ∉ b) (hs : s.size ≤ 1000000) :
    Calls Tryd.prog 21 #[.string s] w fun e w' => e = .returned (.tuple #[.string ⟨d.toArray⟩, .string ⟨b.toArray⟩]) ∧ Below w.heap.size w w' := by
  have hl := last_dir s d b h hd hb
  have HF := Lib.hid (ext_front s d b h)
  have HB := Lib.hid (ext_back s d b h)
  have hsz : d.length ≤ s.size := by
    have : s.data.toList.length = s.size := by simp
    rw [← this, h]; simp
  have HL := Lib.hid (show Lib.lastIndexByte s 47 = (d.length : Int) - 1 by omega)
  have hq : (d.length : Int) ≤ (s.size : Int) := by omega
  clear hl h
  go_enter Tryd.func21, Tryd.ntmps21
  go_wp2_with fail
  refine (Tryd.strings_LastIndexByte s 47 (by omega) w).mono ?_
  rintro e w' ⟨rfl, rfl⟩
  rw [HL.out]
  go_wp2_with fail
  go_quiet (fail)
  go_wp2_with fail
  go_ret2
  exact ⟨by rw [← HF.out, ← HB.out]; rfl, ⟨rfl, rfl, rfl, Nat.le_refl _, fun _ _ => rfl⟩⟩

/-- 12 digits of base 16. -/
def hexB (l : List UInt8) : Prop := l.length = 12 ∧ ∀ c ∈ l, c ∈ hexD
theorem hex_index (c : UInt8) (h : c ∈ hexD) : 0 ≤ Lib.indexByte hexD c := by
  have h1 : ∀ c ∈ hexD, 0 ≤ Lib.indexByte hexD c := by decide
  exact h1 c h

set_option maxHeartbeats 1000000 in
theorem digitsAt_yes (s : ByteArray) (p : List UInt8) (D : List UInt8) (r : List UInt8) (w : World) (h : s.data.toList = p ++ 46 :: (D ++ r)) (hp : p ≠ []) (hD : hexB D) (hs : s.size ≤ 1000000) :
    Calls Tryd.prog 23 #[.string s, .int .i64 ((p.length : Int) + 1)] w fun e w' => e = .returned (.bool true) ∧ w = w' := by
  have hsz : s.size = p.length + 1 + 12 + r.length := by
    have : s.data.toList.length = s.size := by simp
    rw [← this, h]; simp [hD.1]; omega
  have hp1 : 1 ≤ p.length := by
    cases p with
    | nil => exact absurd rfl hp
    | cons a l => simp
  have hin0 : p.length < s.size := by omega
  have hdot : s[p.length] = 46 := by
    have h1 := get_data s p.length (by omega)
    rw [h, List.getElem?_append_right (Nat.le_refl _), Nat.sub_self] at h1
    simpa using h1.symm
  have hbn : ((s[p.length]).toNat : Int) = 46 := by rw [hdot]; rfl
  have hdig : ∀ k (hk : k < 12) (hb : p.length + 1 + k < s.size), s[p.length + 1 + k] ∈ hexD := by
    intro k hk hb
    have h1 := get_data s (p.length + 1 + k) (by omega)
    rw [h, List.getElem?_append_right (by omega), show p.length + 1 + k - p.length = k + 1 by omega, List.getElem?_cons_succ, List.getElem?_append_left (by rw [hD.1]; exact hk)] at h1
    exact hD.2 _ (List.mem_of_getElem? h1)
  have HD := Lib.hid hdig
  have hl1 : p.length + 13 ≤ s.size := by omega
  have hb2 : (((s[p.length]).toNat : Int) != 46) = false := by rw [hbn]; rfl
  clear hdig hsz h hdot hbn hD
  generalize p.length = n at *
  go_enter Tryd.func23, Tryd.ntmps23
  go_wp2_with fail
  go_loop [5] (fun i => ∃ k : Nat, k ≤ 12 ∧ i = .int .i64 ((n : Int) + 1 + k)) (fun i => n + 13 - (intOf i).toNat)
  case atStart => exact ⟨0, by omega, by simp⟩
  case round =>
    obtain ⟨k, hk, rfl⟩ := hrel
    by_cases hk2 : k < 12
    · have hin : n + 1 + k < s.size := by omega
      have hm := HD.out k hk2 hin
      have hi := hex_index _ hm
      have HI := Lib.hid (Tryd.strings_IndexByte ⟨#[48, 49, 50, 51, 52, 53, 54, 55, 56, 57, 97, 98, 99, 100, 101, 102]⟩ ((s[n + 1 + k]).toNat : Int))
      have e : ((s[n + 1 + k]).toNat : Int).toNat.toUInt8 = s[n + 1 + k] := by simp
      rw [e] at HI
      have hi2 : 0 ≤ Lib.indexByte (⟨#[48, 49, 50, 51, 52, 53, 54, 55, 56, 57, 97, 98, 99, 100, 101, 102]⟩ : ByteArray).data.toList s[n + 1 + k] := hi
      generalize Lib.indexByte (⟨#[48, 49, 50, 51, 52, 53, 54, 55, 56, 57, 97, 98, 99, 100, 101, 102]⟩ : ByteArray).data.toList s[n + 1 + k] = q at *
      clear hi hm e
      go_wp2_with (go_at_call 41; refine (HI.out _).mono ?_; rintro e w' ⟨rfl, rfl⟩)
      go_round
      case rel => exact ⟨k + 1, by omega, by go_num⟩
      case measure => simp [intOf]; omega
    · have e : k = 12 := by omega
      go_wp2_with fail
      go_ret
      exact ⟨rfl, rfl⟩
theorem digitsAt_low (s : ByteArray) (k : Int) (w : World) (hs : s.size ≤ 1000000) (hk : k < 2) :
    Calls Tryd.prog 23 #[.string s, .int .i64 k] w fun e w' => e = .returned (.bool false) ∧ w = w' := by
  go_enter Tryd.func23, Tryd.ntmps23
  go_wp2_with fail
  go_ret
  exact ⟨rfl, rfl⟩
theorem digitsAt_no (s : ByteArray) (k : Nat) (w : World) (hs : s.size ≤ 1000000) (hk : 1 ≤ k) (hk2 : k < s.size) (hc : s[k] ≠ 46) :
    Calls Tryd.prog 23 #[.string s, .int .i64 ((k : Int) + 1)] w fun e w' => e = .returned (.bool false) ∧ w = w' := by
  have hb : ((s[k].toNat : Int) != 46) = true := by
    rw [bne_iff_ne]
    intro h
    exact hc (UInt8.toNat_inj.1 (by exact_mod_cast h))
  clear hc
  by_cases h12 : k + 13 ≤ s.size
  · have hd : decide ((s.size : Int) < (k : Int) + 1 + 12) = false := decide_eq_false (by omega)
    go_enter Tryd.func23, Tryd.ntmps23
    go_wp2_with fail
    go_ret
    exact ⟨rfl, rfl⟩
  · have hd : decide ((s.size : Int) < (k : Int) + 1 + 12) = true := decide_eq_true (by omega)
    go_enter Tryd.func23, Tryd.ntmps23
    go_wp2_with fail
    go_ret
    exact ⟨rfl, rfl⟩

theorem ext_mid (s : ByteArray) (p q r : List UInt8) (h : s.data.toList = p ++ (q ++ r)) (a b : Nat) (ha : a = p.length) (hb : b = p.length + q.length) : s.extract a b = ⟨q.toArray⟩ := by
  subst ha hb
  apply bytes_ext
  rw [Lib.extract_data, h]
  simp
theorem size_list (s : ByteArray) : s.size = s.data.toList.length := by simp
theorem str_append (a b : List UInt8) : (⟨a.toArray⟩ : ByteArray) ++ ⟨b.toArray⟩ = ⟨(a ++ b).toArray⟩ := by
  apply bytes_ext
  rw [Joins.data_append]

/-- A name with digits that stand before the last point. -/
theorem plain_dot (s : ByteArray) (d a D y : List UInt8) (w : World) (h : s.data.toList = d ++ (a ++ 46 :: (D ++ 46 :: y))) (hd : DirB d) (hs : s.size ≤ 1000000) (h47 : 47 ∉ a ++ 46 :: (D ++ 46 :: y)) (ha : a ≠ []) (hD : hexB D) (hy : 46 ∉ y) :
    Calls Tryd.prog 8 #[.string s] w fun e w' => e = .returned (.tuple #[.string ⟨(d ++ (a ++ 46 :: y)).toArray⟩, .string ⟨D.toArray⟩, .bool true]) ∧ Below w.heap.size w w' := by
  have HC := Lib.hid (cutLast_any s d (a ++ 46 :: (D ++ 46 :: y)) w h hd h47 hs)
  generalize hq : (⟨(a ++ 46 :: (D ++ 46 :: y)).toArray⟩ : ByteArray) = q at *
  have hql : q.data.toList = a ++ 46 :: (D ++ 46 :: y) := by rw [← hq]
  have hqs : q.size = a.length + 14 + y.length := by rw [size_list, hql]; simp [hD.1]; omega
  have hss : s.size = d.length + q.size := by rw [size_list, h, size_list, hql]; simp
  have hlast : Lib.lastIndexByte q 46 = ((a.length + 13 : Nat) : Int) := by
    have := last_at q 46 (a ++ 46 :: D) y (by rw [hql]; simp) hy
    rw [show (46 : Int) = ((46 : UInt8).toNat : Int) from rfl, this]
    simp [hD.1]
  have e1 : q.extract 0 a.length = ⟨a.toArray⟩ := ext_mid q [] a (46 :: (D ++ 46 :: y)) (by rw [hql]; rfl) _ _ rfl (by simp)
  have e2 : q.extract (a.length + 13) q.size = ⟨(46 :: y).toArray⟩ := by
    have := ext_back q (a ++ 46 :: D) (46 :: y) (by rw [hql]; simp)
    rw [← this]
    congr 1
    simp [hD.1]
  have e3 : q.extract (a.length + 1) (a.length + 13) = ⟨D.toArray⟩ := ext_mid q (a ++ [46]) D (46 :: y) (by rw [hql]; simp) _ _ (by simp) (by simp [hD.1])
  have HD := Lib.hid (fun w => digitsAt_yes q a D (46 :: y) w hql ha hD (by omega))
  have HL := Lib.hid hlast
  have E1 := Lib.hid e1
  have E2 := Lib.hid e2
  have E3 := Lib.hid e3
  have hdz : (⟨d.toArray⟩ : ByteArray).size = d.length := by rw [size_list]
  have hbz : a.length + 14 + y.length ≤ q.size := by omega
  have HQ := Lib.hid hqs
  have hS : d.length + q.size ≤ 1000000 := by omega
  have EQ : Hid ((⟨d.toArray⟩ : ByteArray) ++ ⟨a.toArray⟩ ++ ⟨(46 :: y).toArray⟩ = ⟨(d ++ (a ++ 46 :: y)).toArray⟩) := by
    show _ = _
    rw [str_append, str_append, List.append_assoc]
  have haz : (⟨a.toArray⟩ : ByteArray).size ≤ 1000000 := by rw [size_list]; simp; omega
  have hyz : (⟨(46 :: y).toArray⟩ : ByteArray).size ≤ 1000000 := by rw [size_list]; simp; omega
  generalize (⟨d.toArray⟩ : ByteArray) = ds at *
  generalize (⟨a.toArray⟩ : ByteArray) = aa at *
  generalize (⟨(46 :: y).toArray⟩ : ByteArray) = ys at *
  generalize (⟨D.toArray⟩ : ByteArray) = Ds at *
  have HDS := Lib.hid hdz
  have hds : ds.size ≤ 1000000 := by omega
  clear e1 e2 e3 hlast hql hq hqs hss h hdz ha hD hd h47 hy hs
  generalize a.length = n at *
  have hsub : (((n + 13 : Nat) : Int) - 12) = (n : Int) + 1 := by omega
  go_enter Tryd.func8, Tryd.ntmps8
  go_wp2_with fail
  refine HC.out.mono ?_
  rintro e w1 ⟨rfl, hb⟩
  go_wp2_with fail
  refine (Tryd.strings_LastIndexByte q 46 (by omega) _).mono ?_
  rintro e w2 ⟨rfl, rfl⟩
  rw [HL.out]
  go_wp2_with fail
  rw [show ((n : Int) + 13 - 12) = (n : Int) + 1 from by omega]
  refine (HD.out _).mono ?_
  rintro e w3 ⟨rfl, rfl⟩
  go_wp2_with fail
  have f1 : IntKind.i64.wrap ((n : Int) + 13 - 13) = (n : Int) := by rw [IntWalk.i64_in _ (by omega)]; omega
  have f2 : IntKind.i64.wrap ((n : Int) + 13 - 12) = (n : Int) + 1 := by rw [IntWalk.i64_in _ (by omega)]; omega
  have f5 : IntKind.i64.wrap (n : Int) = (n : Int) := IntWalk.i64_in _ (by omega)
  have f6 : IntKind.i64.wrap ((n : Int) + 1) = (n : Int) + 1 := IntWalk.i64_in _ (by omega)
  have q1 : (n : Int) ≤ (q.size : Int) := by omega
  have q2 : (n : Int) + 13 ≤ (q.size : Int) := by omega
  have q3 : (n : Int) + 1 ≤ (n : Int) + 13 := by omega
  have q4 : (0 : Int) ≤ (n : Int) + 1 := by omega
  have q5 : (0 : Int) ≤ (n : Int) + 13 := by omega
  have f3 : ((n : Int) + 13).toNat = n + 13 := by omega
  have f4 : ((n : Int) + 1).toNat = n + 1 := by omega
  have a1 := fun w => run_string_add_sum (P := Tryd.prog) (w := w) ds aa (by omega)
  have a2 := fun w => run_string_add_sum (P := Tryd.prog) (w := w) (ds ++ aa) ys (by rw [ByteArray.size_append]; omega)
  have g1 := E1.out
  have g2 := E2.out
  have g3 := E3.out
  go_quiet (fail)
  go_wp2_with fail
  go_ret3
  exact ⟨by rw [← EQ.out]; rfl, hb.trans ⟨rfl, rfl, rfl, Nat.le_refl _, fun _ _ => rfl⟩⟩

theorem hex_no_dot {D : List UInt8} (h : hexB D) : 46 ∉ D ∧ 47 ∉ D := by
  have h1 : (46 : UInt8) ∉ hexD := by decide
  have h2 : (47 : UInt8) ∉ hexD := by decide
  exact ⟨fun h3 => h1 (h.2 _ h3), fun h3 => h2 (h.2 _ h3)⟩

/-- A name with digits at its end. -/
theorem plain_end (s : ByteArray) (d a D : List UInt8) (w : World) (h : s.data.toList = d ++ (a ++ 46 :: D)) (hd : DirB d) (hs : s.size ≤ 1000000) (h47 : 47 ∉ a ++ 46 :: D) (ha : a ≠ []) (hD : hexB D) (hy : ∀ i, 1 ≤ i → a[i]? ≠ some 46) :
    Calls Tryd.prog 8 #[.string s] w fun e w' => e = .returned (.tuple #[.string ⟨(d ++ a).toArray⟩, .string ⟨D.toArray⟩, .bool true]) ∧ Below w.heap.size w w' := by
  have HC := Lib.hid (cutLast_any s d (a ++ 46 :: D) w h hd h47 hs)
  generalize hq : (⟨(a ++ 46 :: D).toArray⟩ : ByteArray) = q at *
  have hql : q.data.toList = a ++ 46 :: D := by rw [← hq]
  have hqs : q.size = a.length + 13 := by rw [size_list, hql]; simp [hD.1]
  have hss : s.size = d.length + q.size := by rw [size_list, h, size_list, hql]; simp
  have hlast : Lib.lastIndexByte q 46 = (a.length : Int) := by
    rw [show (46 : Int) = ((46 : UInt8).toNat : Int) from rfl, last_at q 46 a D hql (hex_no_dot hD).1]
  have ha1 : 1 ≤ a.length := by
    cases a with
    | nil => exact absurd rfl ha
    | cons x l => simp
  have e1 : q.extract 0 a.length = ⟨a.toArray⟩ := ext_mid q [] a (46 :: D) (by rw [hql]; rfl) _ _ rfl (by simp)
  have e3 : q.extract (a.length + 1) q.size = ⟨D.toArray⟩ := by
    have := ext_back q (a ++ [46]) D (by rw [hql]; simp)
    rw [← this]
    congr 1
    simp
  have HD := Lib.hid (fun w => digitsAt_yes q a D [] w (by rw [hql, List.append_nil]) ha hD (by omega))
  have HNo : Hid (∀ w, Calls Tryd.prog 23 #[.string q, .int .i64 ((a.length : Int) - 12)] w fun e w' => e = .returned (.bool false) ∧ w = w') := by
    intro w
    by_cases hk : (a.length : Int) - 12 < 2
    · exact digitsAt_low q _ w (by omega) hk
    · have hk2 : 1 ≤ a.length - 13 := by omega
      have hk3 : a.length - 13 < q.size := by omega
      have := digitsAt_no q (a.length - 13) w (by omega) hk2 hk3 (by
        intro he
        have h1 := get_data q (a.length - 13) hk3
        rw [he, hql, List.getElem?_append_left (by omega)] at h1
        exact hy _ hk2 h1)
      rwa [show (((a.length - 13 : Nat) : Int) + 1) = (a.length : Int) - 12 from by omega] at this
  have HL := Lib.hid hlast
  have E1 := Lib.hid e1
  have E3 := Lib.hid e3
  have hdz : (⟨d.toArray⟩ : ByteArray).size = d.length := by rw [size_list]
  have hbz : a.length + 13 ≤ q.size := by omega
  have hbz2 : q.size ≤ a.length + 13 := by omega
  have EQ : Hid ((⟨d.toArray⟩ : ByteArray) ++ ⟨a.toArray⟩ = ⟨(d ++ a).toArray⟩) := str_append _ _
  have haz : (⟨a.toArray⟩ : ByteArray).size ≤ 1000000 := by rw [size_list]; simp; omega
  generalize (⟨d.toArray⟩ : ByteArray) = ds at *
  generalize (⟨a.toArray⟩ : ByteArray) = aa at *
  generalize (⟨D.toArray⟩ : ByteArray) = Ds at *
  have hds : ds.size ≤ 1000000 := by omega
  have hS : q.size ≤ 1000000 := by omega
  clear e1 e3 hlast hql hq hqs hss h hdz ha hD hd h47 hy hs
  generalize a.length = n at *
  go_enter Tryd.func8, Tryd.ntmps8
  go_wp2_with fail
  refine HC.out.mono ?_
  rintro e w1 ⟨rfl, hb⟩
  go_wp2_with fail
  refine (Tryd.strings_LastIndexByte q 46 (by omega) _).mono ?_
  rintro e w2 ⟨rfl, rfl⟩
  rw [HL.out]
  go_wp2_with fail
  refine (HNo.out _).mono ?_
  rintro e w3 ⟨rfl, rfl⟩
  have hsz2 : (q.size : Int) - 12 = (n : Int) + 1 := by omega
  have HSZ := Lib.hid hsz2
  clear hsz2
  go_wp2_with fail
  rw [HSZ.out]
  refine (HD.out _).mono ?_
  rintro e w3 ⟨rfl, rfl⟩
  go_wp2_with fail
  have f1 : IntKind.i64.wrap ((n : Int) + 1 - 1) = (n : Int) := by rw [IntWalk.i64_in _ (by omega)]; omega
  have f5 : IntKind.i64.wrap (n : Int) = (n : Int) := IntWalk.i64_in _ (by omega)
  have q1 : (n : Int) ≤ (q.size : Int) := by omega
  have q2 : (n : Int) + 1 ≤ (q.size : Int) := by omega
  have q4 : (0 : Int) ≤ (n : Int) + 1 := by omega
  have f4 : ((n : Int) + 1).toNat = n + 1 := by omega
  have a1 := fun w => run_string_add_sum (P := Tryd.prog) (w := w) ds aa (by omega)
  have g1 := E1.out
  have g3 := E3.out
  go_quiet (fail)
  go_wp2_with fail
  go_ret3
  exact ⟨by rw [← EQ.out]; rfl, hb.trans ⟨rfl, rfl, rfl, Nat.le_refl _, fun _ _ => rfl⟩⟩
end Go.Proofs.YtjmnnnjddbmiaaaDoor
