/- ship.key, whole; the comparison of Moved. Conditions: the library's variable MaxLen holds an integer. -/
import Derived.Test.YtdjcificgilimaaDoorShC
import Derived.Test.YtdjcificgilimaaDoorMvP
import Derived.Test.YtdjcificgilimaaDoorSrU
namespace Mh
open Go Go.RowKit
set_option linter.unusedVariables false
theorem key0_size {a : ByteArray} : (key0 a).size ≤ 201 := by
  unfold key0
  cases h : keyB a with
  | none => exact Nat.zero_le _
  | some k =>
    obtain ⟨p, h1, h2⟩ := key_some h
    obtain ⟨s, _, _, h3⟩ := pathOf_some h1
    have h4 := path_len h3
    have h5 := addr_len p
    have h6 : k.data.toList.length = k.size := Array.length_toList
    rw [h2] at h6
    have h7 : (trimS (addrL p)).length ≤ (addrL p).length := by
      unfold trimS Lib.trimSuffix
      split
      · rw [List.length_take]; omega
      · exact Nat.le_refl _
    show k.size ≤ 201
    omega
theorem key0_path {a : ByteArray} {p : List UInt8} (h : pathOfL a.data.toList = some p) : keyB a = some ⟨(trimS (addrL p)).toArray⟩ := by unfold keyB keyL; rw [h]; rfl
theorem key0_nopath {a : ByteArray} (h : pathOfL a.data.toList = none) : keyB a = none := by unfold keyB keyL; rw [h]; rfl
end Mh
namespace Go.Proofs.YtdjcificgilimaaDoor
open Go.RowKit Mh
set_option linter.unusedVariables false
set_option maxHeartbeats 4000000 in
theorem keyB_any (a : ByteArray) (ha : a.size ≤ 1099511627776) (m : Int) (w : World) (hm : w.cell? ⟨0, 0, none⟩ = some (.int .i64 m)) :
    Calls Tryd.prog 10 #[.string a] w fun e w' => e = .returned (.tuple #[.string (key0 a), .bool (keyB a).isSome]) ∧ Below w.heap.size w w' := by
  have hmz : 0 < w.heap.size := World.block_lt_of_cell? w _ hm
  have HP := Lib.hid (path_any a ha m w hm)
  have HA := Lib.hid (fun (p : ByteArray) (hp : p.size ≤ maxLen) w' (hb : Below w.heap.size w w') => address_any p hp m w' ((hb.cell hmz).trans hm))
  have HT := Lib.hid (fun (s : ByteArray) (hs : s.size ≤ 9223372036854775807) w' => Tryd.strings_TrimSuffix s ⟨#[47]⟩ w' hs)
  clear hm
  cases hpo : pathOfL a.data.toList with
  | none =>
    have hk := key0_nopath hpo
    have HK : Hid (key0 a = ⟨#[]⟩ ∧ (keyB a).isSome = false) := ⟨by unfold key0; rw [hk]; rfl, by rw [hk]; rfl⟩
    go_enter Tryd.func10, Tryd.ntmps10
    go_wp2_with fail
    refine HP.out.mono ?_
    rintro e w1 ⟨s, r, rfl, hb1, hs⟩
    have HB1 := Lib.hid hb1
    have h := hs.out
    rw [hpo] at h
    have hq : (r != 0) = true := by rw [bne_iff_ne]; exact h.1
    clear hb1 HP hs h hpo hk HA HT
    go_wp2_with fail
    go_ret2
    exact ⟨by rw [HK.out.1, HK.out.2]; rfl, HB1.out⟩
  | some p =>
    have hk := key0_path hpo
    have HK : Hid (key0 a = ⟨(trimS (addrL p)).toArray⟩ ∧ (keyB a).isSome = true) := ⟨by unfold key0; rw [hk]; rfl, by rw [hk]; rfl⟩
    go_enter Tryd.func10, Tryd.ntmps10
    go_wp2_with fail
    refine HP.out.mono ?_
    rintro e w1 ⟨s, r, rfl, hb1, hs⟩
    have HB1 := Lib.hid hb1
    have h := hs.out
    rw [hpo] at h
    obtain ⟨rfl, hsp, hpb⟩ := h
    have hz : s.size ≤ 200 := by
      have := path_len hpb
      rw [← hsp, Array.length_toList] at this
      exact this
    have HA1 := Lib.hid (HA.out s (by unfold maxLen; omega) w1 HB1.out)
    have HSP := Lib.hid hsp
    have HPB := Lib.hid hpb
    clear hb1 HP hs hpo hk HA hsp hpb
    go_wp2_with fail
    refine HA1.out.mono ?_
    rintro e w2 ⟨b, r, rfl, hb2, hs2⟩
    have hbz := hs2.out.2.2
    have hbd : b.data.toList = addrL p := by
      have := (hs2.out.1 (by rw [HSP.out]; exact HPB.out)).2
      rw [this, HSP.out]
    have HB2 : Hid (Below w.heap.size w w2) := HB1.out.trans (hb2.mono HB1.out.size)
    have HT2 := Lib.hid (HT.out b (by omega) w2)
    rw [hbd] at HT2
    have hkk : (⟨(Lib.trimSuffix (addrL p) ((⟨#[47]⟩ : ByteArray).data.toList)).toArray⟩ : ByteArray) = key0 a := by rw [HK.out.1]; rfl
    rw [hkk] at HT2
    clear hs2 hb2 HT hbz hbd hkk
    go_wp2_with (go_at_call 13; refine HT2.out.mono ?_; rintro e w' ⟨rfl, rfl⟩)
    go_ret2
    exact ⟨by rw [HK.out.2]; rfl, HB2.out⟩
end Go.Proofs.YtdjcificgilimaaDoor
