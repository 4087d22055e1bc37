/- AssetRound holds for every input: Plain takes out what Fingerprint has put in. No conditions; the listed variables are tied to the program's text. -/
import Derived.Test.YtjmnnnjddbmiaaaDoorCards
import Derived.Test.YtjmnnnjddbmiaaaDoorTie
import Derived.Test.YtjmnnnjddbmiaaaDoorFing2
import Derived.Test.YtjmnnnjddbmiaaaDoorAwake
import Derived.Test.YtjmnnnjddbmiaaaDoorLawKit
import Derived.Test.YtjmnnnjddbmiaaaDoorLaid
import Derived.Deep.DeepHandedRow
import Derived.Lib.LaidTab
namespace Go.Proofs.YtjmnnnjddbmiaaaDoor.LRound
open Go.ChangeShapes Go.WideShapes Go.ChangeAt Go.RowKit Mh
open Go.ChangeMaps (open_string shut_string)
set_option linter.unusedVariables false

theorem own : ownKnob Tryd.prog.godebug = none := by kernel_rfl

theorem walk_err (path body : ByteArray) (k : Int) (w : World) (hk : (k != 0) = true)
    (hF : ∀ w, ML 0 w → Calls Tryd.prog 7 #[.string path, .string body] w fun e w' => e = .returned (.tuple #[.string ⟨#[]⟩, .int .i64 k]) ∧ Below w.heap.size w w') (hml : ML 0 w) :
    Calls Tryd.prog 3 #[.string path, .string body] w fun e w' => e = .returned (.bool true) ∧ Below w.heap.size w w' := by
  have HF := Lib.hid hF
  have HM := Lib.hid hml
  clear hF hml
  go_enter Tryd.func3, Tryd.ntmps3
  go_wp2_with fail
  refine (awake_any w).mono ?_
  rintro e w1 ⟨rfl, hb⟩
  go_wp2_with fail
  refine (HF.out _ (HM.out.next hb)).mono ?_
  rintro e w2 ⟨rfl, hb2⟩
  go_wp2_with fail
  go_ret
  exact ⟨rfl, hb.trans (hb2.mono hb.size)⟩

set_option maxHeartbeats 1000000 in
theorem walk_ok (path body : ByteArray) (S : List UInt8) (w : World) (hS : S.length ≤ 10000) (hb : body.size ≤ 200000)
    (hF : ∀ w, ML 0 w → Calls Tryd.prog 7 #[.string path, .string body] w (FingPost S w))
    (hP : ∀ w, Calls Tryd.prog 8 #[.string ⟨S.toArray⟩] w fun e w' => e = .returned (.tuple #[.string path, .string ⟨((digest body).take 12).toArray⟩, .bool true]) ∧ Below w.heap.size w w') (hml : ML 0 w) :
    Calls Tryd.prog 3 #[.string path, .string body] w fun e w' => e = .returned (.bool true) ∧ Below w.heap.size w w' := by
  have HF := Lib.hid hF
  have HP := Lib.hid hP
  have HM := Lib.hid hml
  clear hF hP hml
  have hSl : (⟨S.toArray⟩ : ByteArray).data.toList = S := by simp
  have HCK := Lib.hid (fun w hm => checkPath_any ⟨S.toArray⟩ w (by unfold maxLen; rw [size_list, hSl]; omega) hm)
  rw [hSl] at HCK
  have HD := Lib.hid (fun w => digest_any body w (by unfold maxLen; omega))
  have hpre : Lib.hasPrefix (⟨(digest body).toArray⟩ : ByteArray).data.toList (⟨((digest body).take 12).toArray⟩ : ByteArray).data.toList = true := by
    show List.isPrefixOf _ _ = true
    rw [List.isPrefixOf_iff_prefix]
    exact List.take_prefix _ _
  have HPre := Lib.hid hpre
  have hdz : (⟨((digest body).take 12).toArray⟩ : ByteArray).size = 12 := by rw [size_list]; exact (dig12 body).1
  have HZ := Lib.hid hdz
  clear hpre hSl
  generalize (⟨((digest body).take 12).toArray⟩ : ByteArray) = gt at *
  generalize (⟨(digest body).toArray⟩ : ByteArray) = gs at *
  have hz12 : ((gt.size : Int) == 12) = true := by rw [hdz]; rfl
  clear hdz
  go_enter Tryd.func3, Tryd.ntmps3
  go_wp2_with fail
  refine (awake_any w).mono ?_
  rintro e w1 ⟨rfl, hb1⟩
  go_wp2_with fail
  refine (HF.out _ (HM.out.next hb1)).mono ?_
  rintro e w2 ⟨hb2, ⟨hpS, rfl⟩ | ⟨hpS, rfl⟩⟩
  · have h2 : Below w.heap.size w w2 := hb1.trans (hb2.mono hb1.size)
    go_wp2_with fail
    refine (HP.out _).mono ?_
    rintro e w3 ⟨rfl, hb3⟩
    have h3 : Below w.heap.size w w3 := h2.trans (hb3.mono h2.size)
    go_wp2_with fail
    refine (HD.out _).mono ?_
    rintro e w4 ⟨rfl, hb4⟩
    have h4 : Below w.heap.size w w4 := h3.trans (hb4.mono h3.size)
    go_wp2_with fail
    refine (Tryd.strings_HasPrefix _ _ _).mono ?_
    rintro e w5 ⟨rfl, rfl⟩
    rw [HPre.out]
    go_wp2_with fail
    refine (HCK.out _ (HM.out.next h4)).mono ?_
    rintro e w6 ⟨rfl, hb6⟩
    rw [hpS]
    go_wp2_with fail
    go_ret
    exact ⟨rfl, h4.trans (hb6.mono h4.size)⟩
  · go_wp2_with fail
    go_ret
    exact ⟨rfl, hb1.trans (hb2.mono hb1.size)⟩

theorem walk (path body : ByteArray) (hp : path.size ≤ maxLen) (hb : body.size ≤ maxLen) (w : World) (hml : ML 0 w) :
    Calls Tryd.prog 3 #[.string path, .string body] w fun e w' => e = .returned (.bool true) ∧ Below w.heap.size w w' := by
  by_cases hbl : 200000 < body.size
  · exact walk_err path body 4 w rfl (fun w _ => finger_large path body w hb hbl) hml
  cases hpb : pathB path.data.toList with
  | false => exact walk_err path body 3 w rfl (fun w hm => finger_bad path body w hm hp (by omega) hpb) hml
  | true =>
    obtain ⟨d, b, hdb, hd, h47⟩ := dir_cut path.data.toList
    have hl := path_last (by rw [← hdb]; exact hpb) hd h47
    have hpz : path.size ≤ 200 := by rw [size_list, hdb]; exact hl.2
    have hdl : d.length + b.length ≤ 200 := by have := hl.2; rw [List.length_append] at this; exact this
    have hend : (∀ i, 1 ≤ i → b[i]? ≠ some 46) → Calls Tryd.prog 3 #[.string path, .string body] w fun e w' => e = .returned (.bool true) ∧ Below w.heap.size w w' := by
      intro hy
      have hS : (d ++ (b ++ 46 :: (digest body).take 12)).length ≤ 10000 := by simp; omega
      refine walk_ok path body (d ++ (b ++ 46 :: (digest body).take 12)) w hS (by omega) ?_ ?_ hml
      · intro w hm
        have := finger_end path body d b [] w hm (by rw [hdb, List.append_nil]) hd (by rw [List.append_nil]; exact h47) hl.1 rfl hy hpb hpz (by omega)
        rwa [List.append_nil] at this
      · intro w
        have hpe : path = ⟨(d ++ b).toArray⟩ := by rw [← hdb, Joins.bytes_eta]
        have := plain_end ⟨(d ++ (b ++ 46 :: (digest body).take 12)).toArray⟩ d b ((digest body).take 12) w (by simp) hd (by rw [size_list]; simp; omega)
          (by
            intro hm
            rcases List.mem_append.1 hm with h1 | h1
            · exact h47 h1
            · rcases List.mem_cons.1 h1 with h2 | h2
              · cases h2
              · exact (hex_no_dot (dig12 body)).2 h2) hl.1 (dig12 body) hy
        rwa [← hpe] at this
    rcases last_cut 46 b with hn | ⟨p, y, hpy, hy⟩
    · exact hend (fun i _ he => hn (List.mem_of_getElem? he))
    · by_cases hp0 : p = []
      · refine hend (fun i hi he => ?_)
        rw [hpy, hp0, List.nil_append] at he
        cases i with
        | zero => omega
        | succ i => exact hy (List.mem_of_getElem? (by simpa using he))
      · have hS : (d ++ (p ++ 46 :: ((digest body).take 12 ++ 46 :: y))).length ≤ 10000 := by
          rw [hpy] at hdl
          simp at hdl ⊢
          omega
        refine walk_ok path body (d ++ (p ++ 46 :: ((digest body).take 12 ++ 46 :: y))) w hS (by omega) ?_ ?_ hml
        · intro w hm
          exact finger_dot path body d p (46 :: y) w hm (by rw [hdb, hpy]) hd (by rw [← hpy]; exact h47) hp0 y rfl hy hpb hpz (by omega)
        · intro w
          have hpe : path = ⟨(d ++ (p ++ 46 :: y)).toArray⟩ := by rw [← hpy, ← hdb, Joins.bytes_eta]
          have := plain_dot ⟨(d ++ (p ++ 46 :: ((digest body).take 12 ++ 46 :: y))).toArray⟩ d p ((digest body).take 12) y w (by simp) hd (by rw [size_list]; simpa using Nat.le_trans hS (by decide))
            (by
              rw [hpy] at h47
              intro hm
              rcases List.mem_append.1 hm with h1 | h1
              · exact h47 (List.mem_append_left _ h1)
              · rcases List.mem_cons.1 h1 with h2 | h2
                · cases h2
                · rcases List.mem_append.1 h2 with h3 | h3
                  · exact (hex_no_dot (dig12 body)).2 h3
                  · exact h47 (List.mem_append_right _ h3)) hp0 (dig12 body) hy
          rwa [← hpe] at this

/-- A world for the witness: the settled one, the two tables laid. -/
noncomputable def laidWorld (os : Os) : World :=
  layTab 2 Rows.laid_unicode_utf8_first (layTab 3 Rows.laid_unicode_utf8_acceptRanges (World.holding Tryd.prog os ⟨#[], #[], []⟩))
theorem laid_met (os : Os) : laidMet Tryd.prog Rows.assetRoundRow.laid ((laidWorld os).forCall (fun _ _ => 0) ⟨#[], #[.string ByteArray.empty, .string ByteArray.empty], []⟩).memory :=
  laidMet_of_run' 8 (by kernel_rfl) (by kernel_rfl)
theorem reads (os : Os) {H : Type} (enc : TypeId × Value → H) : ∃ places, DataW.whole enc Tryd.prog ((laidWorld os).forCall (fun _ _ => 0) ⟨#[], #[.string ByteArray.empty, .string ByteArray.empty], []⟩).memory Tryd.f3.params.toList Rows.assetRoundSpec.vars false #[Value.string ByteArray.empty, Value.string ByteArray.empty].toList 8 = some ([.lit (.string []), .lit (.string [])], [], places) :=
  ⟨[], by kernel_rfl⟩

set_option maxRecDepth 100000 in
theorem lifted (os : Os) (started : os.Started) (H : Type) (enc : TypeId × Value → H) (F : Stop.Interp) :
    ReturnsInHanded {} Tryd.checked os 3 .any ((OpenSpec.ofChange Rows.assetRoundSpec).preRow enc Tryd.prog Tryd.f3 Rows.assetRoundRow.domain false Rows.assetRoundRow.laid) (((OpenSpec.ofChange Rows.assetRoundSpec).at F).post enc Tryd.prog Tryd.f3 false true false false) := by
  obtain ⟨places, hx⟩ := reads os enc
  refine returnsInHanded_of_row (C := Tryd.checked) (s := OpenSpec.ofChange Rows.assetRoundSpec) own started (by kernel_rfl) Tryd.func3
    (witness_row_at (enc := enc) (C := Tryd.checked) false (laidWorld os) #[.string ByteArray.empty, .string ByteArray.empty] rfl (by kernel_rfl) (by kernel_rfl) (by kernel_rfl)
      (OpenSpec.preRow_of_cond 8 hx (by kernel_rfl) (fun k hk => by cases hk) (by kernel_rfl) (laid_met os))) ?_
  intro W base args ds gs before hval0 hW hcnd hcond hsz hL hsh _
  have hval : ∀ (j : Nat) t v, Tryd.f3.params[j]? = some t → args[j]? = some v → Value.okWide Tryd.prog W .any base t v := hval0
  have hW' := hW
  obtain ⟨p, q, hA0, hV, rfl, hfz, hnd⟩ := hW
  have hA : DataW.TrodAll enc Tryd.prog W 0 (fun _ => true) true Tryd.f3.params.toList args.toList ds p := hA0
  rw [Tryd.params3] at hA hval
  obtain ⟨v0, vs0, d0, ds0, p0, q0, hargs, rfl, rfl, h0, r0⟩ := trodAll_cons hA
  obtain ⟨v1, vs1, d1, ds1, p1, q1, hargs1, rfl, rfl, h1, r1⟩ := trodAll_cons r0
  obtain ⟨rfl, rfl, rfl⟩ := trodAll_nil r1
  obtain rfl : args = #[v0, v1] := by cases args; simp_all
  obtain ⟨rfl, rfl⟩ := trodVars_none hV
  obtain ⟨a0, rfl, rfl, rfl, w0⟩ := open_string Tryd.underlying9 (hval 0 9 v0 rfl rfl) h0
  obtain ⟨a1, rfl, rfl, rfl, w1⟩ := open_string Tryd.underlying9 (hval 1 9 v1 rfl rfl) h1
  clear hA0 hval0
  simp only [List.append_nil] at hW'
  have hml : ML 0 W := Go.Proofs.cell_of_shapedOpen_int (zero := #[.int .i64 0]) (t := 3) hsh (of_decide_eq_true (by kernel_rfl)) (by kernel_rfl) rfl (by kernel_rfl) (by kernel_rfl) Tryd.underlying3
  refine (walk a0 a1 w0 w1 W hml).mono fun e W' ⟨he, hg⟩ => ?_
  subst he
  exact ⟨_, rfl, law_post (tb := 4) (by kernel_rfl) (by kernel_rfl) rfl rfl Tryd.underlying4 hW' rfl rfl rfl hg⟩

theorem said : Rows.AssetRoundSaid :=
  OpenClaim.holds_of_cond 3 Tryd.f3 rfl rfl rfl rfl rfl rfl rfl ⟨rfl, rfl, rfl, rfl, rfl⟩ rfl rfl rfl rfl rfl (by kernel_rfl) Tryd.func3 (by kernel_rfl)
    (of_decide_eq_true (by kernel_rfl)) (by unfold Func.isWrapper; first | (rw [if_pos (by decide +kernel)]; kernel_rfl) | (rw [if_neg (by decide +kernel)]; exact ⟨rfl, rfl⟩))
    (fun os started H enc _ F => by rw [OpenClaim.pre_eq_preRow]; exact lifted os started H enc F)

theorem plain (f : FuncId) (fn : Func) (hf : Tryd.pinned.checked.prog.funcNamed "masthead/mastkeep2.AssetRound" = some f) (hfn : Tryd.pinned.checked.prog.funcs[f]? = some fn) :
    false = Tryd.pinned.checked.prog.looks [] ∧ ∀ (j : Nat) t, fn.params[j]? = some t → Tryd.pinned.checked.prog.wantsStandIn t = false := by
  obtain rfl : f = 3 := Option.some.inj ((show Tryd.prog.funcNamed "masthead/mastkeep2.AssetRound" = some 3 by kernel_rfl).symm.trans hf) |>.symm
  obtain rfl : fn = Tryd.f3 := (Option.some.inj (Tryd.func3.symm.trans hfn)).symm
  refine ⟨by kernel_rfl, fun j t ht => ?_⟩
  rw [Tryd.params3] at ht
  obtain rfl : t = 9 := by simpa using Array.mem_of_getElem? ht
  exact (show Tryd.prog.wantsStandIn 9 = false by kernel_rfl)

/-- The statement. -/
theorem card : Rows.AssetRoundCardSaid :=
  Claim7.holds_tied_plain_at .later [] _ _ _ _ said (fun _ h => by cases h) (by kernel_rfl) (fun _ h => by cases h) assetRound_row_tie rfl ⟨rfl, rfl⟩ (by kernel_rfl) rfl plain (by kernel_rfl)
#print axioms card
end Go.Proofs.YtjmnnnjddbmiaaaDoor.LRound
