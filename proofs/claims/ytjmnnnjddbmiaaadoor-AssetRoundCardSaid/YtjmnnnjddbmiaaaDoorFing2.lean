/- asset.Fingerprint at a path: the name with digits, where that is a path, else an error. Conditions: those named. -/
import Derived.Test.YtjmnnnjddbmiaaaDoorFing
import Derived.Deep.RegionWith
namespace Go.Proofs.YtjmnnnjddbmiaaaDoor
open Go.RowKit Mh
set_option linter.unusedVariables false

/-- What Fingerprint leaves where the path is one: the name, if it is a path. -/
def FingPost (S : List UInt8) (w : World) (e : Ending) (w' : World) : Prop :=
  Below w.heap.size w w' ∧ ((pathB S = true ∧ e = .returned (.tuple #[.string ⟨S.toArray⟩, .int .i64 0])) ∨ (pathB S = false ∧ e = .returned (.tuple #[.string ⟨#[]⟩, .int .i64 3])))

set_option maxHeartbeats 1000000 in
theorem finger_dot (path body : ByteArray) (d a x : List UInt8) (w : World) (hml : ML 0 w) (h : path.data.toList = d ++ (a ++ x)) (hd : DirB d) (h47 : 47 ∉ a ++ x) (ha : a ≠ []) (y : List UInt8) (hx : x = 46 :: y) (hy : 46 ∉ y) (hp : pathB path.data.toList = true) (hpz : path.size ≤ 200) (hb : body.size ≤ 200000) :
    Calls Tryd.prog 7 #[.string path, .string body] w (FingPost (d ++ (a ++ 46 :: ((digest body).take 12 ++ x))) w) := by
  have HC := Lib.hid (fun w => cutLast_any path d (a ++ x) w h hd h47 (by omega))
  generalize hq : (⟨(a ++ x).toArray⟩ : ByteArray) = q at *
  have hql : q.data.toList = a ++ x := by rw [← hq]
  have hqs : q.size = a.length + x.length := by rw [size_list, hql]; simp
  have hss : path.size = d.length + q.size := by rw [size_list, h, size_list, hql]; simp
  have ha1 : 1 ≤ a.length := by
    cases a with
    | nil => exact absurd rfl ha
    | cons x l => simp
  have hlast : Lib.lastIndexByte q 46 = (a.length : Int) := by
    rw [show (46 : Int) = ((46 : UInt8).toNat : Int) from rfl, last_at q 46 a y (by rw [hql, hx]) hy]
  have HL := Lib.hid hlast
  clear hlast
  have e1 : q.extract 0 a.length = ⟨a.toArray⟩ := ext_mid q [] a x (by rw [hql]; rfl) _ _ rfl (by simp)
  have e2 : q.extract a.length q.size = ⟨x.toArray⟩ := ext_back q a x hql
  have hdz : (⟨d.toArray⟩ : ByteArray).size = d.length := by rw [size_list]
  have hgz : (⟨(digest body).toArray⟩ : ByteArray).size = 32 := by rw [size_list]; exact digest_length body
  have e3 : (⟨(digest body).toArray⟩ : ByteArray).extract 0 12 = ⟨((digest body).take 12).toArray⟩ := by
    apply bytes_ext
    rw [Lib.extract_data]
    rfl
  have EQ : Hid ((⟨d.toArray⟩ : ByteArray) ++ ⟨a.toArray⟩ ++ ⟨#[46]⟩ ++ ⟨((digest body).take 12).toArray⟩ ++ ⟨x.toArray⟩ = ⟨(d ++ (a ++ 46 :: ((digest body).take 12 ++ x))).toArray⟩) := by
    show _ = _
    rw [str_append, show (⟨#[46]⟩ : ByteArray) = ⟨([46] : List UInt8).toArray⟩ from rfl, str_append, str_append, str_append]
    simp
  have hgz2 : (⟨((digest body).take 12).toArray⟩ : ByteArray).size ≤ 12 := by rw [size_list]; simp; omega
  have haz : (⟨a.toArray⟩ : ByteArray).size ≤ 200 := by rw [size_list]; simp; omega
  have hxz : (⟨x.toArray⟩ : ByteArray).size ≤ 200 := by rw [size_list]; simp; omega
  have hSz : (⟨(d ++ (a ++ 46 :: ((digest body).take 12 ++ x))).toArray⟩ : ByteArray).size ≤ 10000 := by rw [size_list]; simp; omega
  have HDG := Lib.hid (fun w => digest_any body w (by unfold maxLen; omega))
  have HP := Lib.hid (fun w hm => aPath_any path w (by unfold maxLen; omega) hm)
  rw [hp] at HP
  have HS := Lib.hid (fun w hm => aPath_any ⟨(d ++ (a ++ 46 :: ((digest body).take 12 ++ x))).toArray⟩ w (by unfold maxLen; omega) hm)
  have hSl : (⟨(d ++ (a ++ 46 :: ((digest body).take 12 ++ x))).toArray⟩ : ByteArray).data.toList = d ++ (a ++ 46 :: ((digest body).take 12 ++ x)) := by simp
  rw [hSl] at HS
  clear hSl
  have HZ := Lib.hid hgz
  unfold FingPost
  generalize (d ++ (a ++ 46 :: ((digest body).take 12 ++ x))) = S at *
  generalize (⟨(digest body).toArray⟩ : ByteArray) = gs at *
  generalize (⟨((digest body).take 12).toArray⟩ : ByteArray) = gt at *
  generalize (⟨d.toArray⟩ : ByteArray) = ds at *
  generalize (⟨a.toArray⟩ : ByteArray) = aa at *
  generalize (⟨x.toArray⟩ : ByteArray) = xs at *
  have hds : ds.size ≤ 200 := by omega
  have hqz : q.size ≤ 200 := by omega
  have hnq : a.length ≤ q.size := by omega
  have hgs : 32 ≤ gs.size := by omega
  have E1 := Lib.hid e1
  have E2 := Lib.hid e2
  have E3 := Lib.hid e3
  have HML := Lib.hid hml

  clear e1 e2 e3 hql hq hqs hss h hdz hd h47 hp hgz hml ha
  generalize a.length = n at *
  go_enter Tryd.func7, Tryd.ntmps7
  go_wp2_with fail
  refine (HP.out _ HML.out).mono ?_
  rintro e w1 ⟨rfl, hb1⟩
  go_wp2_with fail
  refine (HC.out _).mono ?_
  rintro e w2 ⟨rfl, hb2⟩
  go_wp2_with fail
  refine (Tryd.strings_LastIndexByte q 46 (by omega) _).mono ?_
  rintro e w3 ⟨rfl, rfl⟩
  rw [HL.out]
  go_wp2_with fail
  have q1 : (n : Int) ≤ (q.size : Int) := by omega
  have q2 : (12 : Int) ≤ (gs.size : Int) := by omega
  have a1 := fun w => run_string_add_sum (P := Tryd.prog) (w := w) ds aa (by omega)
  have a2 := fun w => run_string_add_sum (P := Tryd.prog) (w := w) (ds ++ aa) ⟨#[46]⟩ (by rw [ByteArray.size_append]; have : (⟨#[46]⟩ : ByteArray).size = 1 := rfl; omega)
  have a3 := fun w => run_string_add_sum (P := Tryd.prog) (w := w) (ds ++ aa ++ ⟨#[46]⟩) gt (by rw [ByteArray.size_append, ByteArray.size_append]; have : (⟨#[46]⟩ : ByteArray).size = 1 := rfl; omega)
  have a4 := fun w => run_string_add_sum (P := Tryd.prog) (w := w) (ds ++ aa ++ ⟨#[46]⟩ ++ gt) xs (by rw [ByteArray.size_append, ByteArray.size_append, ByteArray.size_append]; have : (⟨#[46]⟩ : ByteArray).size = 1 := rfl; omega)
  have g1 := E1.out
  have g2 := E2.out
  have g3 := E3.out
  go_region_with (go_at_call 10; refine (HDG.out _).mono ?_; rintro e w4 ⟨rfl, hb3⟩)
  all_goals go_wp2_with fail
  clear g1 g2 g3 a1 a2 a3 a4
  have hb3' : Below w3.heap.size w3 w4 := ⟨hb3.os, hb3.tape, hb3.output, hb3.size, hb3.block⟩
  have hall : Below w.heap.size w w4 := hb1.trans ((hb2.mono hb1.size).trans (hb3'.mono (Nat.le_trans hb1.size hb2.size)))
  rw [EQ.out]
  refine (HS.out _ (HML.out.next hall)).mono ?_
  rintro e w5 ⟨rfl, hb5⟩
  have hend : Below w.heap.size w w5 := hall.trans (hb5.mono hall.size)
  cases hpS : pathB S with
  | true =>
    go_wp2_with fail
    go_ret2
    exact ⟨hend, .inl ⟨hpS, rfl⟩⟩
  | false =>
    go_wp2_with fail
    go_ret2
    exact ⟨hend, .inr ⟨hpS, rfl⟩⟩
set_option maxHeartbeats 1000000 in
theorem finger_end (path body : ByteArray) (d a x : List UInt8) (w : World) (hml : ML 0 w) (h : path.data.toList = d ++ (a ++ x)) (hd : DirB d) (h47 : 47 ∉ a ++ x) (ha : a ≠ []) (hx : x = []) (hy : ∀ i, 1 ≤ i → a[i]? ≠ some 46) (hp : pathB path.data.toList = true) (hpz : path.size ≤ 200) (hb : body.size ≤ 200000) :
    Calls Tryd.prog 7 #[.string path, .string body] w (FingPost (d ++ (a ++ 46 :: ((digest body).take 12 ++ x))) w) := by
  have HC := Lib.hid (fun w => cutLast_any path d (a ++ x) w h hd h47 (by omega))
  generalize hq : (⟨(a ++ x).toArray⟩ : ByteArray) = q at *
  have hql : q.data.toList = a ++ x := by rw [← hq]
  have hqs : q.size = a.length + x.length := by rw [size_list, hql]; simp
  have hss : path.size = d.length + q.size := by rw [size_list, h, size_list, hql]; simp
  have ha1 : 1 ≤ a.length := by
    cases a with
    | nil => exact absurd rfl ha
    | cons x l => simp
  have hlast : Lib.lastIndexByte q 46 = -1 ∨ Lib.lastIndexByte q 46 = 0 := by
    rw [hx, List.append_nil] at hql
    rcases last_cut 46 a with hn | ⟨p, r, hpr, hr⟩
    · left
      rw [show (46 : Int) = ((46 : UInt8).toNat : Int) from rfl, last_none q 46 (by rw [hql]; exact hn)]
    · right
      rw [show (46 : Int) = ((46 : UInt8).toNat : Int) from rfl, last_at q 46 p r (by rw [hql, hpr]) hr]
      by_cases hp0 : p.length = 0
      · rw [hp0]; rfl
      · exfalso
        refine hy p.length (by omega) ?_
        rw [hpr, List.getElem?_append_right (Nat.le_refl _), Nat.sub_self]
        rfl
  have hqn : q.size = a.length := by rw [hqs, hx]; rfl
  have HL := Lib.hid hlast
  have HQN := Lib.hid hqn
  clear hlast hqn
  have e1 : q.extract 0 a.length = ⟨a.toArray⟩ := ext_mid q [] a x (by rw [hql]; rfl) _ _ rfl (by simp)
  have e2 : q.extract a.length q.size = ⟨x.toArray⟩ := ext_back q a x hql
  have hdz : (⟨d.toArray⟩ : ByteArray).size = d.length := by rw [size_list]
  have hgz : (⟨(digest body).toArray⟩ : ByteArray).size = 32 := by rw [size_list]; exact digest_length body
  have e3 : (⟨(digest body).toArray⟩ : ByteArray).extract 0 12 = ⟨((digest body).take 12).toArray⟩ := by
    apply bytes_ext
    rw [Lib.extract_data]
    rfl
  have EQ : Hid ((⟨d.toArray⟩ : ByteArray) ++ ⟨a.toArray⟩ ++ ⟨#[46]⟩ ++ ⟨((digest body).take 12).toArray⟩ ++ ⟨x.toArray⟩ = ⟨(d ++ (a ++ 46 :: ((digest body).take 12 ++ x))).toArray⟩) := by
    show _ = _
    rw [str_append, show (⟨#[46]⟩ : ByteArray) = ⟨([46] : List UInt8).toArray⟩ from rfl, str_append, str_append, str_append]
    simp
  have hgz2 : (⟨((digest body).take 12).toArray⟩ : ByteArray).size ≤ 12 := by rw [size_list]; simp; omega
  have haz : (⟨a.toArray⟩ : ByteArray).size ≤ 200 := by rw [size_list]; simp; omega
  have hxz : (⟨x.toArray⟩ : ByteArray).size ≤ 200 := by rw [size_list]; simp; omega
  have hSz : (⟨(d ++ (a ++ 46 :: ((digest body).take 12 ++ x))).toArray⟩ : ByteArray).size ≤ 10000 := by rw [size_list]; simp; omega
  have HDG := Lib.hid (fun w => digest_any body w (by unfold maxLen; omega))
  have HP := Lib.hid (fun w hm => aPath_any path w (by unfold maxLen; omega) hm)
  rw [hp] at HP
  have HS := Lib.hid (fun w hm => aPath_any ⟨(d ++ (a ++ 46 :: ((digest body).take 12 ++ x))).toArray⟩ w (by unfold maxLen; omega) hm)
  have hSl : (⟨(d ++ (a ++ 46 :: ((digest body).take 12 ++ x))).toArray⟩ : ByteArray).data.toList = d ++ (a ++ 46 :: ((digest body).take 12 ++ x)) := by simp
  rw [hSl] at HS
  clear hSl
  have HZ := Lib.hid hgz
  unfold FingPost
  generalize (d ++ (a ++ 46 :: ((digest body).take 12 ++ x))) = S at *
  generalize (⟨(digest body).toArray⟩ : ByteArray) = gs at *
  generalize (⟨((digest body).take 12).toArray⟩ : ByteArray) = gt at *
  generalize (⟨d.toArray⟩ : ByteArray) = ds at *
  generalize (⟨a.toArray⟩ : ByteArray) = aa at *
  generalize (⟨x.toArray⟩ : ByteArray) = xs at *
  have hds : ds.size ≤ 200 := by omega
  have hqz : q.size ≤ 200 := by omega
  have hnq : a.length ≤ q.size := by omega
  have hgs : 32 ≤ gs.size := by omega
  have E1 := Lib.hid e1
  have E2 := Lib.hid e2
  have E3 := Lib.hid e3
  have HML := Lib.hid hml

  clear e1 e2 e3 hql hq hqs hss h hdz hd h47 hp hgz hml ha
  generalize a.length = n at *
  go_enter Tryd.func7, Tryd.ntmps7
  go_wp2_with fail
  refine (HP.out _ HML.out).mono ?_
  rintro e w1 ⟨rfl, hb1⟩
  go_wp2_with fail
  refine (HC.out _).mono ?_
  rintro e w2 ⟨rfl, hb2⟩
  go_wp2_with fail
  refine (Tryd.strings_LastIndexByte q 46 (by omega) _).mono ?_
  rintro e w3 ⟨rfl, rfl⟩
  have key : ∀ z : Int, z = -1 ∨ z = 0 → z < 1 := by omega
  have hz1 := key _ HL.out
  clear key
  generalize Lib.lastIndexByte q 46 = z at *
  have hd1 : decide (z < 1) = true := decide_eq_true hz1
  go_wp2_with fail
  rw [HQN.out]
  have q1 : (n : Int) ≤ (q.size : Int) := by omega
  have q2 : (12 : Int) ≤ (gs.size : Int) := by omega
  have a1 := fun w => run_string_add_sum (P := Tryd.prog) (w := w) ds aa (by omega)
  have a2 := fun w => run_string_add_sum (P := Tryd.prog) (w := w) (ds ++ aa) ⟨#[46]⟩ (by rw [ByteArray.size_append]; have : (⟨#[46]⟩ : ByteArray).size = 1 := rfl; omega)
  have a3 := fun w => run_string_add_sum (P := Tryd.prog) (w := w) (ds ++ aa ++ ⟨#[46]⟩) gt (by rw [ByteArray.size_append, ByteArray.size_append]; have : (⟨#[46]⟩ : ByteArray).size = 1 := rfl; omega)
  have a4 := fun w => run_string_add_sum (P := Tryd.prog) (w := w) (ds ++ aa ++ ⟨#[46]⟩ ++ gt) xs (by rw [ByteArray.size_append, ByteArray.size_append, ByteArray.size_append]; have : (⟨#[46]⟩ : ByteArray).size = 1 := rfl; omega)
  have g1 := E1.out
  have g2 := E2.out
  have g3 := E3.out
  go_region_with (go_at_call 10; refine (HDG.out _).mono ?_; rintro e w4 ⟨rfl, hb3⟩)
  all_goals go_wp2_with fail
  clear g1 g2 g3 a1 a2 a3 a4
  have hb3' : Below w3.heap.size w3 w4 := ⟨hb3.os, hb3.tape, hb3.output, hb3.size, hb3.block⟩
  have hall : Below w.heap.size w w4 := hb1.trans ((hb2.mono hb1.size).trans (hb3'.mono (Nat.le_trans hb1.size hb2.size)))
  rw [EQ.out]
  refine (HS.out _ (HML.out.next hall)).mono ?_
  rintro e w5 ⟨rfl, hb5⟩
  have hend : Below w.heap.size w w5 := hall.trans (hb5.mono hall.size)
  cases hpS : pathB S with
  | true =>
    go_wp2_with fail
    go_ret2
    exact ⟨hend, .inl ⟨hpS, rfl⟩⟩
  | false =>
    go_wp2_with fail
    go_ret2
    exact ⟨hend, .inr ⟨hpS, rfl⟩⟩

theorem finger_large (path body : ByteArray) (w : World) (hb : body.size ≤ maxLen) (hl : 200000 < body.size) :
    Calls Tryd.prog 7 #[.string path, .string body] w fun e w' => e = .returned (.tuple #[.string ⟨#[]⟩, .int .i64 4]) ∧ Below w.heap.size w w' := by
  unfold maxLen at hb
  go_enter Tryd.func7, Tryd.ntmps7
  go_wp2_with fail
  go_ret2
  exact ⟨rfl, Below.refl _ _⟩
theorem finger_bad (path body : ByteArray) (w : World) (hml : ML 0 w) (hpz : path.size ≤ maxLen) (hb : body.size ≤ 200000) (hp : pathB path.data.toList = false) :
    Calls Tryd.prog 7 #[.string path, .string body] w fun e w' => e = .returned (.tuple #[.string ⟨#[]⟩, .int .i64 3]) ∧ Below w.heap.size w w' := by
  have HP := Lib.hid (aPath_any path w hpz hml)
  rw [hp] at HP
  go_enter Tryd.func7, Tryd.ntmps7
  go_wp2_with fail
  refine HP.out.mono ?_
  rintro e w1 ⟨rfl, hb1⟩
  go_wp2_with fail
  go_ret2
  exact ⟨rfl, hb1⟩

theorem hexWord_mem (n : Int) (j : Nat) : ∀ c ∈ hexWord n j, c ∈ hexD := by
  intro c hc
  obtain ⟨i, _, rfl⟩ := List.mem_map.1 hc
  have h : (n / 2 ^ (28 - 4 * i) % 16).toNat < hexD.length := by
    show _ < 16
    omega
  rw [List.getD, List.getElem?_eq_getElem h]
  exact List.getElem_mem h
theorem digest_hex (s : ByteArray) : ∀ c ∈ digest s, c ∈ hexD := by
  intro c hc
  obtain ⟨j, _, hj⟩ := List.mem_flatMap.1 hc
  exact hexWord_mem _ _ c hj
theorem dig12 (s : ByteArray) : hexB ((digest s).take 12) := ⟨by rw [List.length_take, digest_length]; rfl, fun c hc => digest_hex s c (List.mem_of_mem_take hc)⟩
end Go.Proofs.YtjmnnnjddbmiaaaDoor
