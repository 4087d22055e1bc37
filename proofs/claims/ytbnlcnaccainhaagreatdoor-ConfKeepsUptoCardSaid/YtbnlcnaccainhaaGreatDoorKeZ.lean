/- Routes: how many, how long. No program. -/
import Derived.Test.YtbnlcnaccainhaaGreatDoorKeT
namespace Mh
open Go
set_option linter.unusedVariables false
theorem rts_lenN : ∀ (N : Nat) (v : V), sizeOf v < N → ∀ r, (V.rts v r).length ≤ v.nodes := by
  intro N
  induction N with
  | zero => intro v h; omega
  | succ N ih =>
    rintro ⟨k, b, n, t, is, ks⟩ h r
    have hm : ∀ x ∈ is, ∀ r, (V.rts x r).length ≤ x.nodes := fun x hx r => ih x (by have := size_item (k := k) (b := b) (n := n) (t := t) (ks := ks) hx; omega) r
    have gen : ∀ (l : List V), (∀ x ∈ l, ∀ r, (V.rts x r).length ≤ x.nodes) → ∀ i, (V.rtss k ks l i r).length ≤ V.nodess l := by
      intro l
      induction l with
      | nil => intro _ i; simp [V.rtss]
      | cons y ys ihy =>
        intro hl i
        simp only [V.rtss, V.nodess, List.length_append]
        have h1 := hl y (by simp) (joinR r (partB k ks i))
        have h2 := ihy (fun x hx => hl x (by simp [hx])) (i + 1)
        omega
    simp only [V.nodes]
    cases is with
    | nil => simp [V.rts]
    | cons x xs =>
      have := gen (x :: xs) hm 0
      simp only [V.rts]
      omega
theorem rts_len (v : V) (r : ByteArray) : (V.rts v r).length ≤ v.nodes := rts_lenN _ v (Nat.lt_succ_self _) r
theorem joinR_size (r p : ByteArray) : (joinR r p).size ≤ r.size + 1 + p.size := by
  unfold joinR
  split
  · omega
  · have : (r ++ ⟨#[46]⟩ ++ p).size = r.size + 1 + p.size := by rw [ByteArray.size_append, ByteArray.size_append]; rfl
    omega
theorem partB_size {v : V} (h : v.mid) (i : Nat) (hi : i < v.its.length) : (partB v.kd v.kys i).size ≤ 40 := by
  have hl := h.len
  unfold partB
  split
  · rename_i h6
    have he := (good_facts h.1).2.1 h6
    have : v.kys.getD i ⟨#[]⟩ = v.kys[i]'(by omega) := by simp [List.getD, show i < v.kys.length by omega]
    rw [this]
    exact good_keyB h.1 _ (List.getElem_mem _)
  · have h1 := decK_len 3 i (by omega)
    have : (bz (Lib.decDigits i)).size = (Lib.decDigits i).length := by simp [bz, ByteArray.size]
    omega
end Mh
