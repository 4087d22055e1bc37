/- What ReadImage meets in an image's text: the first line, its parts, their numbers. Plain; and the library's Cut and Split at them. -/
import Derived.Test.YtjmnnnjddbmiaaaDoorProg
import Derived.Test.YtjmnnnjddbmiaaaDoorShelf
import Derived.Test.YtjmnnnjddbmiaaaDoorTxt
import Derived.Test.YtjmnnnjddbmiaaaDoorFingP
import Derived.Test.YtjmnnnjddbmiaaaDoorImgS
import Derived.Test.YtjmnnnjddbmiaaaDoorSide
namespace Go.Proofs.YtjmnnnjddbmiaaaDoor
open Go.RowKit Mh
set_option linter.unusedVariables false

theorem byte_at (c : UInt8) : ∀ (p r : List UInt8), c ∉ p → Lib.indexByte (p ++ c :: r) c = (p.length : Int)
  | [], r, _ => by simp [Lib.indexByte]
  | b :: p, r, h => by
    have hb : (b == c) = false := by rw [beq_eq_false_iff_ne]; exact fun e => h (by rw [e]; exact List.mem_cons_self)
    have ih := byte_at c p r (fun h2 => h (List.mem_cons_of_mem _ h2))
    have e1 : ((p.length : Int) == -1) = false := by rw [beq_eq_false_iff_ne]; omega
    simp [Lib.indexByte, hb, ih, e1]
theorem cut_at (c : UInt8) (p r : List UInt8) (h : c ∉ p) : Lib.cut (p ++ c :: r) [c] = (p, r, true) := by
  unfold Lib.cut
  rw [Lib.index_one, byte_at c p r h, if_pos (by omega)]
  have e : ((p.length : Int).toNat + [c].length) = (p ++ [c]).length := by simp
  rw [e]
  have e2 : p ++ c :: r = (p ++ [c]) ++ r := by simp
  rw [e2, List.drop_left, ← e2, Int.toNat_natCast, List.take_left]

def lineB (W H : Nat) : List UInt8 := [105, 109, 97, 103, 101] ++ 32 :: (Lib.decDigits W ++ 32 :: Lib.decDigits H)
theorem imgHead_line (W H : Nat) : imgHead W H = lineB W H ++ [10] := by simp [imgHead, lineB]

theorem dec_all (i : Nat) (h : i < 100) (h1 : 1 ≤ i) : (Lib.decDigits i).all (fun c => decide (48 ≤ c.toNat ∧ c.toNat ≤ 57)) = true ∧ 1 ≤ (Lib.decDigits i).length ∧ (Lib.decDigits i).head? ≠ some 48 ∧ dvl (Lib.decDigits i) = i := by
  have : ∀ i, i < 100 → 1 ≤ i → (Lib.decDigits i).all (fun c => decide (48 ≤ c.toNat ∧ c.toNat ≤ 57)) = true ∧ 1 ≤ (Lib.decDigits i).length ∧ (Lib.decDigits i).head? ≠ some 48 ∧ dvl (Lib.decDigits i) = i := by decide +kernel
  exact this i h h1
theorem dec_mem (i : Nat) (h : i < 100) (h1 : 1 ≤ i) (c : UInt8) (hc : c ∈ Lib.decDigits i) : 48 ≤ c.toNat ∧ c.toNat ≤ 57 := by
  have := List.all_eq_true.1 (dec_all i h h1).1 c hc
  simpa using this
theorem dec_no (i : Nat) (h : i < 100) (h1 : 1 ≤ i) (c : UInt8) (hc : c.toNat < 48) : c ∉ Lib.decDigits i := fun hm => by
  have := dec_mem i h h1 c hm
  omega
theorem line_no10 (W H : Nat) (hW : 1 ≤ W ∧ W ≤ 64) (hH : 1 ≤ H ∧ H ≤ 64) : (10 : UInt8) ∉ lineB W H := by
  intro hm
  have a := dec_no W (by omega) hW.1 10 (by decide)
  have b := dec_no H (by omega) hH.1 10 (by decide)
  simp [lineB, a, b] at hm
theorem spl_line (W H : Nat) (hW : 1 ≤ W ∧ W ≤ 64) (hH : 1 ≤ H ∧ H ≤ 64) : spl 32 (lineB W H) = [[105, 109, 97, 103, 101], Lib.decDigits W, Lib.decDigits H] := by
  unfold lineB
  rw [spl_at 32 _ _ (by decide), spl_at 32 _ _ (dec_no W (by omega) hW.1 32 (by decide)), spl_none 32 _ (dec_no H (by omega) hH.1 32 (by decide))]

theorem side_dec (i : Nat) (h : 1 ≤ i ∧ i ≤ 64) (w : World) : Calls Tryd.prog 40 #[.string ⟨(Lib.decDigits i).toArray⟩] w fun e w' => e = .returned (.tuple #[.int .i64 (i : Int), .bool true]) ∧ w = w' := by
  obtain ⟨h1, h2, h3, h4⟩ := dec_all i (by omega) h.1
  have hl := dec_len i (by omega)
  have hsz : (⟨(Lib.decDigits i).toArray⟩ : ByteArray).size = (Lib.decDigits i).length := by
    show (Lib.decDigits i).toArray.size = _
    simp
  have hd : ∀ j (hj : j < (⟨(Lib.decDigits i).toArray⟩ : ByteArray).size), (⟨(Lib.decDigits i).toArray⟩ : ByteArray)[j] ∈ Lib.decDigits i := by
    intro j hj
    show (Lib.decDigits i).toArray[j]'hj ∈ _
    simp
  have := side_num ⟨(Lib.decDigits i).toArray⟩ w (by omega) (by omega) (fun j hj => dec_mem i (by omega) h.1 _ (hd j hj)) (by
    intro e
    apply h3
    have e1 : (⟨(Lib.decDigits i).toArray⟩ : ByteArray)[0] = 48 := UInt8.toNat_inj.1 e
    cases hc : Lib.decDigits i with
    | nil => rw [hc] at h2; simp at h2
    | cons a l =>
      have e2 : (⟨(Lib.decDigits i).toArray⟩ : ByteArray).data[0]'(by rw [hc]; simp) = 48 := e1
      simp only [hc] at e2
      simpa using e2)
  rw [h4] at this
  exact this

theorem below_drewN (w : World) (n : Nat) : Below w.heap.size w (w.drewN n) := ⟨rfl, rfl, rfl, Nat.le_refl _, fun _ _ => rfl⟩
theorem cut_text (W H : Nat) (L : List Int) (w : World) (hW : 1 ≤ W ∧ W ≤ 64) (hH : 1 ≤ H ∧ H ≤ 64) (hml : ML 0 w) (hs : (imgText W H L).length ≤ 20000) :
    Calls Tryd.prog 35 #[.string ⟨(imgText W H L).toArray⟩, .string ⟨#[10]⟩] w fun e w' => e = .returned (.tuple #[.string ⟨(lineB W H).toArray⟩, .string ⟨(imgRows W L (H * (W + 1))).toArray⟩, .bool true]) ∧ Below w.heap.size w w' := by
  obtain ⟨m, hm⟩ := hml
  have h0 := Tryd.strings_Cut ⟨(imgText W H L).toArray⟩ ⟨#[10]⟩ m w (by show (imgText W H L).toArray.size < _; simp; omega) hm
  have h1 : Lib.cut (⟨(imgText W H L).toArray⟩ : ByteArray).data.toList (⟨#[10]⟩ : ByteArray).data.toList = (lineB W H, imgRows W L (H * (W + 1)), true) := by
    show Lib.cut (imgText W H L) [10] = _
    unfold imgText
    rw [imgHead_line, List.append_assoc]
    exact cut_at 10 _ _ (line_no10 W H hW hH)
  rw [h1] at h0
  refine h0.mono ?_
  rintro e w' ⟨rfl, n, rfl⟩
  exact ⟨rfl, below_drewN _ _⟩

theorem split_line (W H : Nat) (w : World) (hW : 1 ≤ W ∧ W ≤ 64) (hH : 1 ≤ H ∧ H ≤ 64) (hml : ML 0 w) :
    Calls Tryd.prog 39 #[.string ⟨(lineB W H).toArray⟩, .string ⟨#[32]⟩] w fun e w' => e = .returned (.slice (some ⟨w.heap.size, 0, none⟩) 3 3) ∧
      w' = w.alloc (.cells #[.string ⟨#[105, 109, 97, 103, 101]⟩, .string ⟨(Lib.decDigits W).toArray⟩, .string ⟨(Lib.decDigits H).toArray⟩] 9) := by
  obtain ⟨m, hm⟩ := hml
  have hl1 := dec_len W (by omega)
  have hl2 := dec_len H (by omega)
  have h0 := Tryd.strings_Split ⟨(lineB W H).toArray⟩ ⟨#[32]⟩ m w (by show (lineB W H).toArray.size < _; simp [lineB]; omega) hm (Nat.le_refl 1)
  have h1 := splitB_spl 32 ⟨(lineB W H).toArray⟩
  have h2 := splitB_len 32 ⟨(lineB W H).toArray⟩
  have h3 : spl 32 (⟨(lineB W H).toArray⟩ : ByteArray).data.toList = [[105, 109, 97, 103, 101], Lib.decDigits W, Lib.decDigits H] := spl_line W H hW hH
  rw [h3] at h1
  have h4 : Lib.splitB ⟨#[32]⟩ 0 (Lib.countB ⟨(lineB W H).toArray⟩ ⟨#[32]⟩) ⟨(lineB W H).toArray⟩ = [⟨#[105, 109, 97, 103, 101]⟩, ⟨(Lib.decDigits W).toArray⟩, ⟨(Lib.decDigits H).toArray⟩] := by
    generalize Lib.splitB ⟨#[32]⟩ 0 (Lib.countB ⟨(lineB W H).toArray⟩ ⟨#[32]⟩) ⟨(lineB W H).toArray⟩ = ps at *
    rcases ps with _ | ⟨a, _ | ⟨b, _ | ⟨c, _ | ⟨d, r⟩⟩⟩⟩ <;> simp only [List.map_cons, List.map_nil, List.cons.injEq, and_true, reduceCtorEq, and_false] at h1
    obtain ⟨ha, hb, hc⟩ := h1
    rw [show a = ⟨#[105, 109, 97, 103, 101]⟩ from bytes_ext ha, show b = ⟨(Lib.decDigits W).toArray⟩ from bytes_ext (by rw [hb]), show c = ⟨(Lib.decDigits H).toArray⟩ from bytes_ext (by rw [hc])]
  rw [h4] at h0 h2
  have h5 : Lib.countB ⟨(lineB W H).toArray⟩ ⟨#[32]⟩ + 1 = 3 := h2.symm
  rw [h5] at h0
  exact h0
end Go.Proofs.YtjmnnnjddbmiaaaDoor
