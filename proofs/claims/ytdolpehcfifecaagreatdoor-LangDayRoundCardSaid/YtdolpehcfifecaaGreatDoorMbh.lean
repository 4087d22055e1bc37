/- Collate: units of a word and their order (plain law). No program. -/
import Derived.Test.YtdolpehcfifecaaGreatDoorVal
import Derived.Test.YtdolpehcfifecaaGreatDoorTxt
namespace Mh
open Go Go.RowKit
set_option linter.unusedVariables false
def preB (t s : ByteArray) : Bool := Lib.hasPrefix s.data.toList t.data.toList
/-- The longest letter so far that a word begins with; -1: none. -/
def bestF (ls : List ByteArray) (s : ByteArray) : Nat → Int
  | 0 => -1
  | k + 1 => if h : k < ls.length then (if preB ls[k] s = true ∧ (bestF ls s k < 0 ∨ (ls.getD (bestF ls s k).toNat ⟨#[]⟩).size < ls[k].size) then (k : Int) else bestF ls s k) else bestF ls s k
theorem bestF_lt (ls : List ByteArray) (s : ByteArray) : ∀ k, bestF ls s k < k ∧ -1 ≤ bestF ls s k := by
  intro k
  induction k with
  | zero => exact ⟨by show (-1 : Int) < 0; decide, by show (-1 : Int) ≤ -1; decide⟩
  | succ k ih =>
    unfold bestF
    split
    · split
      · exact ⟨by omega, by omega⟩
      · exact ⟨by omega, by omega⟩
    · exact ⟨by omega, by omega⟩
theorem bestF_pre (ls : List ByteArray) (s : ByteArray) : ∀ k, 0 ≤ bestF ls s k → ∃ h : (bestF ls s k).toNat < ls.length, preB ls[(bestF ls s k).toNat] s = true := by
  intro k
  induction k with
  | zero => intro h; exact absurd h (by show ¬ (0 : Int) ≤ -1; decide)
  | succ k ih =>
    intro h
    unfold bestF at h ⊢
    split at h
    · rename_i hk
      split at h
      · rename_i h2
        simp only [dif_pos hk, if_pos h2]
        exact ⟨hk, h2.1⟩
      · rename_i h2
        simp only [dif_pos hk, if_neg h2]
        exact ih h
    · rename_i hk
      simp only [dif_neg hk]
      exact ih h
/-- The units of a word. -/
def unitsF (ls : List ByteArray) : Nat → ByteArray → List Int
  | 0, _ => []
  | n + 1, s => match s.data.toList with
    | [] => []
    | c :: r => if bestF ls s ls.length < 0 then (200 + (c.toNat : Int)) :: unitsF ls n (s.extract 1 s.size)
      else bestF ls s ls.length :: unitsF ls n (s.extract (ls.getD (bestF ls s ls.length).toNat ⟨#[]⟩).size s.size)
/-- What a unit stands for. -/
def unitT (ls : List ByteArray) (u : Int) : List UInt8 := if u < 200 then (ls.getD u.toNat ⟨#[]⟩).data.toList else [UInt8.ofNat (u - 200).toNat]
theorem ext_list (s : ByteArray) (k : Nat) : (s.extract k s.size).data.toList = s.data.toList.drop k := by
  rw [ByteArray.data_extract, Array.toList_extract]
  exact List.take_of_length_le (by simp)
theorem pre_split {t s : ByteArray} (h : preB t s = true) : s.data.toList = t.data.toList ++ s.data.toList.drop t.size := by
  unfold preB Lib.hasPrefix at h
  have h2 := List.isPrefixOf_iff_prefix.1 h
  obtain ⟨r, hr⟩ := h2
  rw [← hr]
  have e : t.size = t.data.toList.length := by simp
  rw [e, List.drop_left]
theorem units_text (ls : List ByteArray) (hl : ls.length ≤ 200) (hne : ∀ t ∈ ls, t.size ≠ 0) : ∀ (n : Nat) (s : ByteArray), s.size ≤ n → (unitsF ls n s).flatMap (unitT ls) = s.data.toList := by
  intro n
  induction n with
  | zero =>
    intro s h
    have e : s.data.toList.length = s.size := by simp
    have : s.data.toList = [] := List.length_eq_zero_iff.1 (by omega)
    rw [this]; rfl
  | succ n ih =>
    intro s h
    have e : s.data.toList.length = s.size := by simp
    unfold unitsF
    split
    · rename_i hs; rw [hs]; rfl
    · rename_i c r hs
      split
      · rename_i hb
        rw [List.flatMap_cons, ih _ (by rw [ByteArray.size_extract]; omega), ext_list, hs]
        have hc : unitT ls (200 + (c.toNat : Int)) = [c] := by
          unfold unitT
          rw [if_neg (by omega)]
          congr 1
          have : (200 + (c.toNat : Int) - 200).toNat = c.toNat := by omega
          rw [this]; simp
        rw [hc]; rfl
      · rename_i hb
        obtain ⟨hk, hp⟩ := bestF_pre ls s ls.length (by omega)
        have hlt := (bestF_lt ls s ls.length).1
        have hg : ls.getD (bestF ls s ls.length).toNat ⟨#[]⟩ = ls[(bestF ls s ls.length).toNat] := by rw [List.getD, List.getElem?_eq_getElem hk]; rfl
        have hsz := hne _ (List.getElem_mem hk)
        rw [List.flatMap_cons, ih _ (by rw [ByteArray.size_extract, hg]; omega), ext_list, hg]
        have hu : unitT ls (bestF ls s ls.length) = ls[(bestF ls s ls.length).toNat].data.toList := by
          unfold unitT
          rw [if_pos (by omega), hg]
        rw [hu]
        exact (pre_split hp).symm
theorem units_inj (ls : List ByteArray) (hl : ls.length ≤ 200) (hne : ∀ t ∈ ls, t.size ≠ 0) (a b : ByteArray) (n m : Nat) (ha : a.size ≤ n) (hb : b.size ≤ m) (h : unitsF ls n a = unitsF ls m b) : a = b := by
  have h1 := units_text ls hl hne n a ha
  have h2 := units_text ls hl hne m b hb
  rw [h, h2] at h1
  cases a with | mk x => cases b with | mk y => cases x; cases y; simp only at h1; rw [h1]
def cmpI (a b : List Int) : Int := lexL sgn a b
theorem cmpI_zero : ∀ a b : List Int, cmpI a b = 0 ↔ a = b := by
  intro a
  induction a with
  | nil => intro b; cases b <;> simp [cmpI, lexL]
  | cons x a ih =>
    intro b
    cases b with
    | nil => simp [cmpI, lexL]
    | cons y b =>
      have := ih b
      unfold cmpI at this ⊢
      simp only [lexL, lex_zero, this, List.cons.injEq]
      have h2 : sgn x y = 0 ↔ x = y := by
        rcases sgn_cases x y with ⟨h, e⟩ | ⟨h, e⟩ | ⟨h, e⟩ <;> rw [e] <;> constructor <;> intro h3 <;> omega
      rw [h2]
theorem cmpI_neg (a b : List Int) : cmpI b a = - cmpI a b := lexL_neg a b (fun x _ y => sgn_neg x y)
theorem cmpI_tr (a b c : List Int) : Tr (cmpI a b) (cmpI b c) (cmpI a c) := lexL_tr a b c (fun x _ y z => sgn_tr x y z)
theorem cmpI_drop (a b : List Int) (k : Nat) (ha : k < a.length) (hb : k < b.length) : cmpI (a.drop k) (b.drop k) = if a[k] = b[k] then cmpI (a.drop (k + 1)) (b.drop (k + 1)) else sgn a[k] b[k] := by
  unfold cmpI
  rw [List.drop_eq_getElem_cons ha, List.drop_eq_getElem_cons hb]
  simp only [lexL]
  have h2 : sgn a[k] b[k] = 0 ↔ a[k] = b[k] := by
    rcases sgn_cases a[k] b[k] with ⟨h, e⟩ | ⟨h, e⟩ | ⟨h, e⟩ <;> rw [e] <;> constructor <;> intro h3 <;> omega
  unfold lex
  split
  · rename_i h; rw [if_pos (h2.1 h)]
  · rename_i h; rw [if_neg (fun e => h (h2.2 e))]
end Mh
