/- ship's chars, begins, isRaw: tokens of characters. Conditions: the scanner and its tokens in memory. -/
import Derived.Test.YtoalbfffojpnmaaDoorTnB
import Derived.Test.YtoalbfffojpnmaaDoorApLw
import Derived.Test.YtoalbfffojpnmaaDoorUnI
namespace Go.Proofs.YtoalbfffojpnmaaDoor
open Go.RowKit Mh
set_option linter.unusedVariables false

/-- A token. -/
structure Tk where
  k : Int
  a : Nat
  nm : ByteArray
  tx : ByteArray
  at_ : Value
def Tk.cells (t : Tk) : List Value := [.int .i64 t.k, .int .i64 t.a, .string t.nm, .string t.tx, t.at_]
/-- The scanner with the tokens that it has read. -/
structure St (b0 X : Nat) (s : ByteArray) (i : Nat) (l : List Tk) (W : World) : Prop where
  ex : ∃ v, Scn s X i v W ∧ W.ownsRow b0 29 5 v l.length (l.flatMap Tk.cells) ∧ v.ownBlock ≠ some X
  lo : b0 ≤ X
  okc : ∀ t ∈ l, ∃ a n c, t.at_ = .slice a n c
theorem St.same {b0 X : Nat} {s : ByteArray} {i : Nat} {l : List Tk} {W W1 : World} (h : St b0 X s i l W) (sm : Same W W1) : St b0 X s i l W1 := by
  obtain ⟨v, h1, h2, h3⟩ := h.ex
  exact ⟨⟨v, h1.same sm, by unfold World.ownsRow at *; rw [sm.heap]; exact h2, h3⟩, h.lo, h.okc⟩
theorem St.drew {b0 X : Nat} {s : ByteArray} {i : Nat} {l : List Tk} {W : World} (h : St b0 X s i l W) : St b0 X s i l W.drew := h.same (Same.refl W).drew
theorem infoTok : (Tryd.prog.info? 29).map (fun i => (i.zero, i.size, i.bytes)) = some (some (.agg #[.int .i64 0, .int .i64 0, .string ⟨#[]⟩, .string ⟨#[]⟩, .slice none 0 0]), 5, 72) := by kernel_rfl
theorem Sl.one {w : World} {b e : Nat} {cs : List Value} {k : Nat} (hk : cs.length = k) (hb : w.heap[b]? = some (.cells cs.toArray e (0, 0))) : Sl k w (.slice (some ⟨b, 0, none⟩) 1 1) 1 cs := by
  refine ⟨by omega, .inr ⟨b, 0, 1, rfl, by omega, by omega, by unfold maxLen; omega, (Array.getElem?_eq_some_iff.1 hb).1, fun i u hu => ?_⟩⟩
  rw [Nat.zero_add, cell_of_row _ _ _ _ _ _ hb]
  simpa using hu
theorem own_below {w w' : World} {base e k : Nat} {v : Value} {n : Nat} {xs : List Value} (h : w.ownsRow base e k v n xs) (hb : Below w.heap.size w w') : w'.ownsRow base e k v n xs := by
  refine ⟨h.1, ?_⟩
  rcases h.2 with h2 | ⟨g, cap, cur, rfl, hbg, hg, h4⟩
  · exact .inl h2
  · exact .inr ⟨g, cap, cur, rfl, hbg, (hb.block g (Array.getElem?_eq_some_iff.1 hg).1).trans hg, h4⟩
theorem own_same {w w' : World} {base e k : Nat} {v : Value} {n : Nat} {xs : List Value} (h : w.ownsRow base e k v n xs) (sm : Same w w') : w'.ownsRow base e k v n xs := by
  unfold World.ownsRow at *; rw [sm.heap]; exact h
theorem own_kept {w w' : World} {base e k : Nat} {v : Value} {n : Nat} {xs : List Value} {S : List Nat} (h : w.ownsRow base e k v n xs) (hb : Kept S w w') (hS : ∀ g, v.ownBlock = some g → g ∉ S) : w'.ownsRow base e k v n xs := by
  refine ⟨h.1, ?_⟩
  rcases h.2 with h2 | ⟨g, cap, cur, rfl, hbg, hg, h4⟩
  · exact .inl h2
  · exact .inr ⟨g, cap, cur, rfl, hbg, (hb.block g (Array.getElem?_eq_some_iff.1 hg).1 (hS g rfl)).trans hg, h4⟩
set_option maxRecDepth 100000 in
set_option maxHeartbeats 8000000 in
theorem chars_any (b0 X : Nat) (s : ByteArray) (i : Nat) (l : List Tk) (fr en : Nat) (w : World) (h : St b0 X s i l w) (hft : fr < en) (hto : en ≤ s.size) (hl : l.length ≤ 1000000) :
    Calls Tryd.prog 9 #[ptr X, .int .i64 (fr : Int), .int .i64 (en : Int)] w fun e w' => e = .returned (.tuple #[]) ∧ Hid (St b0 X s i (l ++ [⟨1, fr, ⟨#[]⟩, s.extract fr en, .slice none 0 0⟩]) w') ∧ Hid (Below b0 w w') := by
  obtain ⟨v, hs, hown, hne⟩ := h.ex
  obtain ⟨c0, c1, c2, f1, f2⟩ := hs.cells
  obtain ⟨va, vc, rfl⟩ := ownsRow_form hown
  obtain ⟨vi, hvi, hv0, hv1, hv2⟩ := info_parts infoTok
  have hd : decide ((fr : Int) < en) = true := decide_eq_true (by omega)
  have hftI : (fr : Int) ≤ en := by omega
  have htoI : (en : Int) ≤ s.size := by omega
  have HO := Lib.hid hown
  have HS := Lib.hid hs
  have HNE := Lib.hid hne
  have HLO := Lib.hid h.lo
  have HOK := Lib.hid h.okc
  have hXl := hs.lt
  have z0 : ∀ ob, (w.alloc ob).cell? ⟨X, 0, none⟩ = some (.string s) := fun ob => by rw [World.cell?_alloc_lt _ _ _ hXl]; exact c0
  have z2 : ∀ ob, (w.alloc ob).cell? ⟨X, 2, none⟩ = some (.slice va l.length vc) := fun ob => by rw [World.cell?_alloc_lt _ _ _ hXl]; exact c2
  clear h hs hown hne
  unfold ptr
  go_enter Tryd.func9, Tryd.ntmps9
  go_wp2_with fail
  have HX : Hid (∀ W, W = w.alloc (.cells #[.int .i64 1, .int .i64 (fr : Int), .string ⟨#[]⟩, .string (s.extract fr en), .slice none 0 0] 29 (0, 0)) ∨ W = (w.alloc (.cells #[.int .i64 1, .int .i64 (fr : Int), .string ⟨#[]⟩, .string (s.extract fr en), .slice none 0 0] 29 (0, 0))).drew → W.ownsRow b0 29 5 (.slice va l.length vc) l.length (l.flatMap Tk.cells) ∧ Sl 5 W (.slice (some ⟨w.heap.size, 0, none⟩) 1 1) 1 (Tk.cells ⟨1, fr, ⟨#[]⟩, s.extract fr en, .slice none 0 0⟩) ∧ b0 ≤ W.heap.size ∧ Scn s X i (.slice va l.length vc) W ∧ Below w.heap.size w W) := by
    intro W hW
    have hb : Below w.heap.size w W := by
      rcases hW with rfl | rfl
      · exact below_new w _
      · exact (below_new w _).drew
    have hc : W.heap[w.heap.size]? = some (.cells #[.int .i64 1, .int .i64 (fr : Int), .string ⟨#[]⟩, .string (s.extract fr en), .slice none 0 0] 29 (0, 0)) := by
      rcases hW with rfl | rfl
      · exact heap_alloc_new _ _
      · exact heap_alloc_new _ _
    have h1 := HS.out.lt
    have h2 := HLO.out
    have h3 := hb.size
    exact ⟨own_below HO.out hb, Sl.one rfl hc, by omega, HS.out.below hb, hb⟩
  have HY : Hid (∀ W w3 a3 c3, (W = w.alloc (.cells #[.int .i64 1, .int .i64 (fr : Int), .string ⟨#[]⟩, .string (s.extract fr en), .slice none 0 0] 29 (0, 0)) ∨ W = (w.alloc (.cells #[.int .i64 1, .int .i64 (fr : Int), .string ⟨#[]⟩, .string (s.extract fr en), .slice none 0 0] 29 (0, 0))).drew) → W.grownBy w3 (Value.slice va l.length vc).ownBlock → w3.ownsRow b0 29 5 (.slice a3 (l.length + 1) c3) (l.length + 1) (l.flatMap Tk.cells ++ Tk.cells ⟨1, fr, ⟨#[]⟩, s.extract fr en, .slice none 0 0⟩) → ((Value.slice a3 (l.length + 1) c3).ownBlock = (Value.slice va l.length vc).ownBlock ∨ (Value.slice a3 (l.length + 1) c3).ownBlock = some W.heap.size) →
      w3.cell? ⟨X, 2, none⟩ = some (.slice va l.length vc) ∧ w3.frozen? ⟨X, 2, none⟩ = false ∧ Hid (St b0 X s i (l ++ [⟨1, fr, ⟨#[]⟩, s.extract fr en, .slice none 0 0⟩]) (w3.setCell ⟨X, 2, none⟩ (.slice a3 (l.length + 1) c3))) ∧ Hid (Below b0 w (w3.setCell ⟨X, 2, none⟩ (.slice a3 (l.length + 1) c3)))) := by
    intro W w3 a3 c3 hW hg ho hat
    obtain ⟨o1, o2, o3, sc, hb⟩ := HX.out W hW
    have hXW := sc.lt
    have hXw := HS.out.lt
    have hWs := hb.size
    have sc3 : Scn s X i (.slice va l.length vc) w3 := (hg.block X hXW (fun e => HNE.out e.symm)).trans sc
    have hne : (Value.slice a3 (l.length + 1) c3).ownBlock ≠ some X := by
      rcases hat with e | e
      · rw [e]; exact HNE.out
      · rw [e]; simp; omega
    have sc4 : Scn s X i (.slice a3 (l.length + 1) c3) (w3.setCell ⟨X, 2, none⟩ (.slice a3 (l.length + 1) c3)) := by
      unfold Scn; rw [heap_setCell_same _ _ 2 _ _ _ sc3]; rfl
    refine ⟨sc3.cells.2.2.1, sc3.cells.2.2.2.2, ⟨⟨_, sc4, ?_, hne⟩, HLO.out, ?_⟩, ?_⟩
    · have := own_setNe (u := .slice a3 (l.length + 1) c3) (o := 2) ho hne
      simpa using this
    · intro t ht
      rw [List.mem_append] at ht
      rcases ht with ht | ht
      · exact HOK.out t ht
      · obtain rfl := List.mem_singleton.1 ht; exact ⟨_, _, _, rfl⟩
    · exact ((((hb.mono (by have := HLO.out; omega)).grown hg o3 (fun k hk => (World.ownsRow.lt o1 k hk).1))).setCell HLO.out _)
  go_region_law (refine step_append_sl _ rfl _ _ 23 rfl b0 29 vi (.agg #[.int .i64 0, .int .i64 0, .string ⟨#[]⟩, .string ⟨#[]⟩, .slice none 0 0]) 5 72 Tryd.underlying23 hvi hv0 hv1 hv2 rfl (by decide) (.slice va l.length vc) l.length (l.flatMap Tk.cells) rfl (HX.out _ (by first | exact .inl rfl | exact .inr rfl)).1 _ 1 _ rfl (HX.out _ (by first | exact .inl rfl | exact .inr rfl)).2.1 (by simp [Tk.cells, Value.oneCell']) (by unfold maxLen; omega) (by omega) (HX.out _ (by first | exact .inl rfl | exact .inr rfl)).2.2.1 ?_; intro v3 w3 hown3 hgr3 hat3; obtain ⟨a3, c3, rfl⟩ := ownsRow_form hown3; obtain ⟨z0, z1, HSt, HBl⟩ := HY.out _ _ _ _ (by first | exact .inl rfl | exact .inr rfl) hgr3 hown3 hat3)
  all_goals
    go_wp2_with fail
    go_end0
    exact ⟨rfl, by first | exact HSt | exact HSt.out.drew, by first | exact HBl | exact HBl.out.drew⟩
end Go.Proofs.YtoalbfffojpnmaaDoor
