/- tree.Translations, and TreeTranslates: the walk. Conditions: strings of at most maxLen bytes; the library's variable MaxLen holds an integer. -/
import Derived.Test.YthkokpkiffbjnaaDoorTrI
import Derived.Test.YthkokpkiffbjnaaDoorShp
namespace Mh
open Go Go.RowKit
set_option linter.unusedVariables false
def intsL (ks : List Nat) : List Int := ks.map fun k => ((k : Nat) : Int)
theorem intsL_len (ks : List Nat) : (intsL ks).length = ks.length := List.length_map ..
theorem intsL_get (ks : List Nat) (j : Nat) (hj : j < ks.length) : (intsL ks).getD j 0 = ((ks[j] : Nat) : Int) := by
  unfold intsL
  rw [List.getD, List.getElem?_map, List.getElem?_eq_getElem hj]; rfl
end Mh
namespace Go.Proofs.YthkokpkiffbjnaaDoor
open Go.RowKit Mh
open Go.WideMaps (KeyLaw ArrKey)
open Go.MapKept Go.ChangeMaps Go.WideElems Go.WideShapes
set_option linter.unusedVariables false
theorem nats_at {w : World} {v : Value} {ks : List Nat} (h : Sl 1 w v ks.length (natsV ks)) (hn : 0 < ks.length) : ∃ b off c, v = .slice (some ⟨b, off, none⟩) ks.length c ∧ ks.length ≤ c ∧ c ≤ maxLen ∧ b < w.heap.size ∧ ∀ j (hj : j < ks.length), w.cell? ⟨b, off + j, none⟩ = some (.int .i64 (ks[j] : Nat)) := by
  obtain ⟨a, c, rfl, hm, hs⟩ := Sl.shape h
  obtain ⟨b, off, rfl, h1, h2, h3, h4⟩ := hs hn
  refine ⟨b, off, c, rfl, h1, h2, h3, fun j hj => h4 j _ ?_⟩
  unfold natsV
  rw [List.getElem?_map, List.getElem?_eq_getElem hj]
  rfl
theorem contains_any (ks : List Nat) (k : Nat) (hk : k ∈ ks) (v : Value) (w : World) (h : Sl 1 w v ks.length (natsV ks)) :
    Calls Tryd.prog 7 #[v, .int .i64 (k : Int)] w fun e w' => e = .returned (.bool true) ∧ w' = w := by
  obtain ⟨b, off, c, rfl, h1, h2, h3, h4⟩ := nats_at h (List.length_pos_of_mem hk)
  refine (Tryd.slices_Contains_int b off ks.length c (intsL ks) k w (by rw [intsL_len]; exact Nat.le_refl _) (by unfold maxLen at h2; omega) (fun j hj => by rw [intsL_len] at hj; rw [intsL_get ks j hj]; exact h4 j hj)).mono ?_
  rintro e w' ⟨rfl, rfl⟩
  refine ⟨?_, rfl⟩
  have : ((intsL ks).take ks.length).contains (k : Int) = true := by
    rw [← intsL_len ks, List.take_length, List.contains_iff_mem]
    exact List.mem_map.2 ⟨k, hk, rfl⟩
  rw [this]
theorem equal_any (ks : List Nat) (v1 v2 : Value) (w : World) (hn : 0 < ks.length) (g1 : Sl 1 w v1 ks.length (natsV ks)) (g2 : Sl 1 w v2 ks.length (natsV ks)) :
    Calls Tryd.prog 8 #[v1, v2] w fun e w' => e = .returned (.bool true) ∧ ∃ q, w' = w.drewN q := by
  obtain ⟨b, off, c, rfl, h1, h2, h3, h4⟩ := nats_at g1 hn
  obtain ⟨b', off', c', rfl, h1', h2', h3', h4'⟩ := nats_at g2 hn
  unfold maxLen at h2 h2'
  have key : ∀ (b o : Nat), (∀ j (hj : j < ks.length), w.cell? ⟨b, o + j, none⟩ = some (.int .i64 (ks[j] : Nat))) → ∀ j, j < (intsL ks).length → w.cell? ⟨b, o + j, none⟩ = some (.int .i64 ((intsL ks).getD j 0)) := fun b o h j hj => by
    rw [intsL_len] at hj; rw [intsL_get ks j hj]; exact h j hj
  refine (Tryd.slices_Equal_int b off ks.length c b' off' ks.length c' (intsL ks) (intsL ks) w (by rw [intsL_len]; exact Nat.le_refl _) (by rw [intsL_len]; exact Nat.le_refl _) (by omega) (by omega) (key b off h4) (key b' off' h4')).mono ?_
  rintro e w' ⟨rfl, q, rfl⟩
  exact ⟨by simp, q, rfl⟩
theorem TTranslations_any (L : List ByteArray) (l : List Pg) (hok : SiteOk L l) (i : Nat) (hi : i < l.length) (w : World) (la pa : Option Addr) (lc pc : Nat) (hL : Ss w (.slice la L.length lc) L) (hP : PsAt w (.slice pa l.length pc) l) (m : Int) (hml : w.cell? ⟨0, 0, none⟩ = some (.int .i64 m)) :
    Calls Tryd.prog 6 #[.agg #[.slice la L.length lc, .slice pa l.length pc], .int .i64 (i : Int)] w fun e w' => ∃ v, e = .returned (.tuple #[v, .int .i64 0]) ∧ Sl 1 w' v (trsTo l (trk l[i]) l.length).length (natsV (trsTo l (trk l[i]) l.length)) ∧ Below w.heap.size w w' := by
  have hmz : 0 < w.heap.size := World.block_lt_of_cell? w _ hml
  have HC := Lib.hid (fun w' (hb : Below w.heap.size w w') => numbered_ok L l hok i hi w' la pa lc pc (hL.below hb) (hP.keep hb) m ((hb.cell hmz).trans hml))
  have hgd : ∀ p ∈ l, p.set.kd = 6 → p.set.kys.length = p.set.its.length := fun p hp => by
    obtain ⟨j, hj, rfl⟩ := List.mem_iff_getElem.1 hp
    exact (good_facts (hok.2.2.2 j hj).2.2.2.2.1.2.2).2.1
  have HT := Lib.hid (fun w' (hb : Below w.heap.size w w') => translations_any L l hok.2.1 hgd i hi w' la pa lc pc (hP.keep hb))
  have HB0 : Hid (Below w.heap.size w (w.alloc (.cells #[.slice la L.length lc, .slice pa l.length pc] 25))) := (Below.refl _ w).alloc (Nat.le_refl _) _
  have HX0 : Hid ((w.alloc (.cells #[.slice la L.length lc, .slice pa l.length pc] 25)).heap[w.heap.size]? = some (.cells #[.slice la L.length lc, .slice pa l.length pc] 25 (0, 0))) := heap_alloc_new _ _
  clear hL hP hml hok hgd
  go_enter Tryd.func6, Tryd.ntmps6
  go_wp2_with fail
  refine (HC.out _ HB0.out).mono ?_
  rintro e w1 ⟨rfl, hb1⟩
  have HX1 := (hb1.block _ (by simp)).trans HX0.out
  have b0 := cellT HX1 (i := 0) rfl
  have b1 := cellT HX1 (i := 1) rfl
  have HB1 : Hid (Below w.heap.size w w1) := HB0.out.trans (hb1.mono (by simp))
  clear hb1 HX1 HX0
  go_wp2_with fail
  refine (HT.out _ HB1.out).mono ?_
  rintro e w2 ⟨v, rfl, hs, hb2⟩
  have HS := Lib.hid hs
  have HB2 : Hid (Below w.heap.size w w2) := HB1.out.trans (hb2.mono HB1.out.size)
  clear hs hb2
  go_wp2_with fail
  go_ret2
  exact ⟨v, rfl, HS.out, HB2.out⟩
theorem awakeTree_any (m : Int) (w : World) (hm : w.cell? ⟨0, 0, none⟩ = some (.int .i64 m)) :
    Calls Tryd.prog 4 #[] w fun e w' => e = .returned (.bool true) ∧ Below w.heap.size w w' := by
  have HC := Lib.hid (checkPath_any ⟨#[]⟩ w (Nat.zero_le _) ⟨m, hm⟩)
  have e : pathB (⟨#[]⟩ : ByteArray).data.toList = false := by decide +kernel
  rw [e] at HC
  go_enter Tryd.func4, Tryd.ntmps4
  go_wp2_with fail
  refine HC.out.mono ?_
  rintro e w1 ⟨rfl, hb⟩
  have HB := Lib.hid hb
  clear hb
  go_wp2_with fail
  go_ret
  exact ⟨rfl, HB.out⟩
end Go.Proofs.YthkokpkiffbjnaaDoor
