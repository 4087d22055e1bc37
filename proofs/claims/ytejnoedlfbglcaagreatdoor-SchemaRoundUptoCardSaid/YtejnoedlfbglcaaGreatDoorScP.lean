/- The plain law of schemas: a schema as a value, and what reading it gives. No program. -/
import Derived.Test.YtejnoedlfbglcaaGreatDoorFlPl
import Derived.KernelRfl
namespace Mh
open Go
set_option linter.unusedVariables false

def strV (s : ByteArray) : V := .mk 3 false 0 s [] []
def yesV (b : Bool) : V := .mk 1 b 0 ⟨#[]⟩ [] []
def wholeV (n : Int) : V := .mk 2 false n ⟨#[]⟩ [] []
def listV (l : List V) : V := .mk 5 false 0 ⟨#[]⟩ l []
def tabV (l : List (ByteArray × V)) : V := .mk 6 false 0 ⟨#[]⟩ (l.map Prod.snd) (l.map Prod.fst)
def qDefault : ByteArray := ⟨#[100, 101, 102, 97, 117, 108, 116]⟩
def qKind : ByteArray := ⟨#[107, 105, 110, 100]⟩
def qMax : ByteArray := ⟨#[109, 97, 120]⟩
def qMin : ByteArray := ⟨#[109, 105, 110]⟩
def qNeed : ByteArray := ⟨#[110, 101, 101, 100]⟩
def qOneof : ByteArray := ⟨#[111, 110, 101, 111, 102]⟩
def qRoute : ByteArray := ⟨#[114, 111, 117, 116, 101]⟩
def qFields : ByteArray := ⟨#[102, 105, 101, 108, 100, 115]⟩
def qStrict : ByteArray := ⟨#[115, 116, 114, 105, 99, 116]⟩
def qAny : ByteArray := ⟨#[97, 110, 121]⟩
/-- The names of the kinds. -/
def kname (k : Nat) : ByteArray := match k with
  | 0 => ⟨#[110, 105, 108]⟩
  | 1 => ⟨#[98, 111, 111, 108]⟩
  | 2 => ⟨#[105, 110, 116]⟩
  | 3 => ⟨#[115, 116, 114, 105, 110, 103]⟩
  | 4 => ⟨#[100, 97, 121]⟩
  | 5 => ⟨#[108, 105, 115, 116]⟩
  | _ => ⟨#[116, 97, 98, 108, 101]⟩
def knameI (k : Int) : ByteArray := if k = -1 then qAny else kname k.toNat
theorem kname_ne (i j : Nat) (hi : i < 7) (hj : j < 7) (h : i ≠ j) : kname i ≠ kname j := by
  have : ∀ i, i < 7 → ∀ j, j < 7 → i ≠ j → kname i ≠ kname j := by decide
  exact this i hi j hj h
theorem kname_any (i : Nat) (hi : i < 7) : kname i ≠ qAny := by
  have : ∀ i, i < 7 → kname i ≠ qAny := by decide
  exact this i hi

theorem knameI_le (k : Int) (h : k = -1 ∨ (0 ≤ k ∧ k ≤ 6)) : (knameI k).size ≤ 100 := by
  rcases h with rfl | ⟨h1, h2⟩
  · decide
  · obtain ⟨n, rfl⟩ := Int.eq_ofNat_of_zero_le h1
    have : ∀ n : Nat, n < 7 → (knameI (n : Int)).size ≤ 100 := by decide
    exact this n (by omega)
/-- The stages of a field's table. -/
def fv1 (f : Fd) : V := putV (.mk 6 false 0 ⟨#[]⟩ [] []) qRoute (strV f.route)
def fv2 (f : Fd) : V := putV (fv1 f) qKind (strV (knameI f.kind))
def fv3 (f : Fd) : V := putV (fv2 f) qNeed (yesV f.need)
def fv4a (f : Fd) : V := putV (fv3 f) qMax (wholeV f.mx)
def fv4b (f : Fd) : V := putV (fv4a f) qMin (wholeV f.mn)
def fv4 (f : Fd) : V := if f.bnd = true then fv4b f else fv3 f
def fv5b (f : Fd) : V := putV (fv4 f) qOneof (listV (f.one.map strV))
def fv5 (f : Fd) : V := if f.one = [] then fv4 f else fv5b f
def fieldVb (f : Fd) : V := putV (fv5 f) qDefault f.dv
def fieldV (f : Fd) : V := if f.dv.kd = 0 then fv5 f else fieldVb f
def prow (f : Fd) : List (ByteArray × V) :=
  (if f.dv.kd = 0 then [] else [(qDefault, f.dv)]) ++ (qKind, strV (knameI f.kind)) :: ((if f.bnd = true then [(qMax, wholeV f.mx), (qMin, wholeV f.mn)] else []) ++ (qNeed, yesV f.need) :: ((if f.one = [] then [] else [(qOneof, listV (f.one.map strV))]) ++ [(qRoute, strV f.route)]))

theorem put_tab (l : List (ByteArray × V)) (k : ByteArray) (x : V) (n : Nat) (h1 : low k (l.map Prod.fst) = n) (h2 : hit k (l.map Prod.fst) = false) : putV (tabV l) k x = tabV (l.take n ++ (k, x) :: l.drop n) := by
  have hp : putAt k (l.map Prod.fst) = n := by unfold putAt; rw [h1, if_neg (by rw [h2]; simp)]; omega
  show V.mk 6 false 0 ⟨#[]⟩ ((l.map Prod.snd).take (low k (l.map Prod.fst)) ++ x :: (l.map Prod.snd).drop (putAt k (l.map Prod.fst))) ((l.map Prod.fst).take (low k (l.map Prod.fst)) ++ k :: (l.map Prod.fst).drop (putAt k (l.map Prod.fst))) = _
  rw [hp, h1]
  simp [tabV, List.map_take, List.map_drop]
theorem fv1_eq (f : Fd) : fv1 f = tabV [(qRoute, strV f.route)] := put_tab [] qRoute _ 0 rfl rfl
theorem fv2_eq (f : Fd) : fv2 f = tabV [(qKind, strV (knameI f.kind)), (qRoute, strV f.route)] := by
  unfold fv2; rw [fv1_eq, put_tab _ qKind _ 0 (by kernel_rfl) (by kernel_rfl)]; rfl
theorem fv3_eq (f : Fd) : fv3 f = tabV [(qKind, strV (knameI f.kind)), (qNeed, yesV f.need), (qRoute, strV f.route)] := by
  unfold fv3; rw [fv2_eq, put_tab _ qNeed _ 1 (by kernel_rfl) (by kernel_rfl)]; rfl
theorem fv4a_eq (f : Fd) : fv4a f = tabV [(qKind, strV (knameI f.kind)), (qMax, wholeV f.mx), (qNeed, yesV f.need), (qRoute, strV f.route)] := by
  unfold fv4a; rw [fv3_eq, put_tab _ qMax _ 1 (by kernel_rfl) (by kernel_rfl)]; rfl
theorem fv4_eq (f : Fd) : fv4 f = tabV ((qKind, strV (knameI f.kind)) :: ((if f.bnd = true then [(qMax, wholeV f.mx), (qMin, wholeV f.mn)] else []) ++ [(qNeed, yesV f.need), (qRoute, strV f.route)])) := by
  unfold fv4
  cases hb : f.bnd with
  | false => simp only [Bool.false_eq_true, if_false, List.nil_append]; exact fv3_eq f
  | true => simp only [if_true]; unfold fv4b; rw [fv4a_eq, put_tab _ qMin _ 2 (by kernel_rfl) (by kernel_rfl)]; rfl
theorem fv5_eq (f : Fd) : fv5 f = tabV ((qKind, strV (knameI f.kind)) :: ((if f.bnd = true then [(qMax, wholeV f.mx), (qMin, wholeV f.mn)] else []) ++ (qNeed, yesV f.need) :: ((if f.one = [] then [] else [(qOneof, listV (f.one.map strV))]) ++ [(qRoute, strV f.route)]))) := by
  unfold fv5
  by_cases ho : f.one = []
  · rw [if_pos ho, if_pos ho, fv4_eq]; rfl
  · rw [if_neg ho, if_neg ho]; unfold fv5b; rw [fv4_eq]
    cases hb : f.bnd with
    | false => simp only [Bool.false_eq_true, if_false, List.nil_append]; rw [put_tab _ qOneof _ 2 (by kernel_rfl) (by kernel_rfl)]; rfl
    | true => simp only [if_true]; rw [put_tab _ qOneof _ 4 (by kernel_rfl) (by kernel_rfl)]; rfl
theorem fieldV_eq (f : Fd) : fieldV f = tabV (prow f) := by
  unfold fieldV prow
  by_cases hd : f.dv.kd = 0
  · rw [if_pos hd, if_pos hd, fv5_eq]; rfl
  · rw [if_neg hd, if_neg hd]; unfold fieldVb; rw [fv5_eq]
    by_cases ho : f.one = []
    · rw [if_pos ho]
      cases hb : f.bnd with
      | false => simp only [Bool.false_eq_true, if_false, List.nil_append]; rw [put_tab _ qDefault _ 0 (by kernel_rfl) (by kernel_rfl)]; rfl
      | true => simp only [if_true]; rw [put_tab _ qDefault _ 0 (by kernel_rfl) (by kernel_rfl)]; rfl
    · rw [if_neg ho]
      cases hb : f.bnd with
      | false => simp only [Bool.false_eq_true, if_false, List.nil_append]; rw [put_tab _ qDefault _ 0 (by kernel_rfl) (by kernel_rfl)]; rfl
      | true => simp only [if_true]; rw [put_tab _ qDefault _ 0 (by kernel_rfl) (by kernel_rfl)]; rfl

instance (ks : List ByteArray) : Decidable (Asc ks) := inferInstanceAs (Decidable (ks.Pairwise _))
theorem tab_top (l : List (ByteArray × V)) (h1 : Asc (l.map Prod.fst)) (h2 : l.length ≤ 100) (h3 : ∀ k ∈ l.map Prod.fst, k.size ≤ 40) : (tabV l).top := by
  refine ⟨h1, fun _ => ?_, ⟨?_, ?_⟩, h3⟩ <;> simp [tabV, V.kys, V.its] <;> omega
theorem fv0_top : (V.mk 6 false 0 ⟨#[]⟩ [] []).top := tab_top [] (by decide) (by decide) (by decide)
theorem fv1_top (f : Fd) : (fv1 f).top := by rw [fv1_eq]; exact tab_top _ (of_decide_eq_true (by kernel_rfl)) (by simp) (by simp; decide +kernel)
theorem fv2_top (f : Fd) : (fv2 f).top := by rw [fv2_eq]; exact tab_top _ (of_decide_eq_true (by kernel_rfl)) (by simp) (by simp; decide +kernel)
theorem fv3_top (f : Fd) : (fv3 f).top := by rw [fv3_eq]; exact tab_top _ (of_decide_eq_true (by kernel_rfl)) (by simp) (by simp; decide +kernel)
theorem fv4a_top (f : Fd) : (fv4a f).top := by rw [fv4a_eq]; exact tab_top _ (of_decide_eq_true (by kernel_rfl)) (by simp) (by simp; decide +kernel)
theorem fv4_top (f : Fd) : (fv4 f).top := by
  rw [fv4_eq]
  cases hb : f.bnd with
  | false => exact tab_top _ (of_decide_eq_true (by kernel_rfl)) (by simp) (by simp; decide +kernel)
  | true => exact tab_top _ (of_decide_eq_true (by kernel_rfl)) (by simp) (by simp; decide +kernel)
theorem fv5_top (f : Fd) : (fv5 f).top := by
  rw [fv5_eq]
  by_cases ho : f.one = [] <;> cases hb : f.bnd <;> simp only [ho, if_true, if_false, Bool.false_eq_true] <;> exact tab_top _ (of_decide_eq_true (by kernel_rfl)) (by simp) (by simp; decide +kernel)
theorem fv_kd (f : Fd) : (fv1 f).kd = 6 ∧ (fv2 f).kd = 6 ∧ (fv3 f).kd = 6 ∧ (fv4a f).kd = 6 ∧ (fv4 f).kd = 6 ∧ (fv5 f).kd = 6 ∧ (fieldV f).kd = 6 := by
  rw [fv1_eq, fv2_eq, fv3_eq, fv4a_eq, fv4_eq, fv5_eq, fieldV_eq]
  exact ⟨rfl, rfl, rfl, rfl, rfl, rfl, rfl⟩
/-- A schema as a value. -/
def schemaV (fs : List Fd) (sb : Bool) : V := putV (putV (.mk 6 false 0 ⟨#[]⟩ [] []) qFields (listV (fs.map fieldV))) qStrict (yesV sb)
theorem sv1_eq (F : V) : putV (.mk 6 false 0 ⟨#[]⟩ [] []) qFields F = tabV [(qFields, F)] := put_tab [] qFields _ 0 rfl rfl
theorem sv1_top (F : V) : (putV (.mk 6 false 0 ⟨#[]⟩ [] []) qFields F).top := by rw [sv1_eq]; exact tab_top _ (of_decide_eq_true (by kernel_rfl)) (by simp) (by simp; decide +kernel)
theorem schemaV_eq (fs : List Fd) (sb : Bool) : schemaV fs sb = tabV [(qFields, listV (fs.map fieldV)), (qStrict, yesV sb)] := by
  unfold schemaV; rw [sv1_eq, put_tab _ qStrict _ 1 (by kernel_rfl) (by kernel_rfl)]; rfl

/-! How much it holds. -/
theorem nodes_tab (l : List (ByteArray × V)) : (tabV l).nodes = 1 + V.nodess (l.map Prod.snd) := by simp [tabV, V.nodes]; omega
theorem nodess_cons (x : V) (l : List V) : V.nodess (x :: l) = x.nodes + V.nodess l := by simp [V.nodess]
theorem nodess_str (l : List ByteArray) : V.nodess (l.map strV) = l.length := by
  induction l with
  | nil => rfl
  | cons a l ih => simp only [List.map_cons, nodess_cons, ih, List.length_cons]; simp [strV, V.nodes, V.nodess]; omega
theorem nodess_append (a b : List V) : V.nodess (a ++ b) = V.nodess a + V.nodess b := by
  induction a with
  | nil => simp [V.nodess]
  | cons x a ih => simp only [List.cons_append, nodess_cons, ih]; omega
theorem fieldV_nodes (f : Fd) : (fieldV f).nodes ≤ f.dv.nodes + f.one.length + 10 := by
  rw [fieldV_eq, nodes_tab]
  unfold prow
  by_cases hd : f.dv.kd = 0 <;> by_cases ho : f.one = [] <;> cases hb : f.bnd <;>
    simp [hd, ho, V.nodess, V.nodes, strV, yesV, wholeV, listV, nodess_str] <;> omega
theorem nodess_le (l : List V) (B : Nat) (h : ∀ x ∈ l, x.nodes ≤ B) : V.nodess l ≤ l.length * B := by
  induction l with
  | nil => simp [V.nodess]
  | cons x l ih =>
    rw [nodess_cons, List.length_cons, Nat.add_mul]
    have h1 := h x (by simp)
    have h2 := ih (fun y hy => h y (by simp [hy]))
    omega
theorem schemaV_nodes (fs : List Fd) (sb : Bool) (hl : fs.length ≤ 100) (h : ∀ f ∈ fs, f.dv.nodes ≤ 2097152 ∧ f.one.length ≤ 2097152) : (schemaV fs sb).nodes ≤ 1099511627776 := by
  rw [schemaV_eq, nodes_tab]
  have h1 : V.nodess (fs.map fieldV) ≤ (fs.map fieldV).length * 4194400 := nodess_le _ _ fun x hx => by
    obtain ⟨f, hf, rfl⟩ := List.mem_map.1 hx
    have := fieldV_nodes f
    have := h f hf
    omega
  rw [List.length_map] at h1
  have h2 : fs.length * 4194400 ≤ 100 * 4194400 := Nat.mul_le_mul_right _ hl
  simp only [List.map_cons, List.map_nil, nodess_cons]
  simp only [listV, yesV, V.nodes, V.nodess]
  omega

/-! What is read. -/
def fd0 : Fd := ⟨⟨#[]⟩, 0, false, false, 0, 0, [], V.nil⟩
/-- The kind of which an item is. -/
def fkind (k : ByteArray) : Int := if k = qRoute ∨ k = qKind then 3 else if k = qNeed then 1 else if k = qMax ∨ k = qMin then 2 else if k = qOneof then 5 else -1
def kofI (s : ByteArray) : Int := if s = qAny then -1 else if s = kname 1 then 1 else if s = kname 2 then 2 else if s = kname 3 then 3 else if s = kname 4 then 4 else if s = kname 5 then 5 else if s = kname 6 then 6 else 0
theorem kofI_name (k : Int) (h : k = -1 ∨ (0 ≤ k ∧ k ≤ 6)) : kofI (knameI k) = k := by
  rcases h with rfl | ⟨h1, h2⟩
  · rfl
  · obtain ⟨n, rfl⟩ := Int.eq_ofNat_of_zero_le h1
    have : ∀ n : Nat, n < 7 → kofI (knameI (n : Int)) = (n : Int) := by decide
    exact this n (by omega)
/-- A name of a kind. -/
def kinds (s : ByteArray) : Prop := ∃ k : Int, (k = -1 ∨ (0 ≤ k ∧ k ≤ 6)) ∧ s = knameI k
def readIt (f : Fd) (p : ByteArray × V) : Fd :=
  if p.1 = qRoute then { f with route := p.2.tx } else if p.1 = qKind then { f with kind := kofI p.2.tx } else if p.1 = qNeed then { f with need := p.2.bo }
  else if p.1 = qMin then { f with bnd := true, mn := p.2.nu } else if p.1 = qMax then { f with bnd := true, mx := p.2.nu }
  else if p.1 = qOneof then { f with one := f.one ++ p.2.its.map V.tx } else if p.1 = qDefault then { f with dv := p.2 } else f
theorem map_tx (l : List ByteArray) : (l.map strV).map V.tx = l := by
  induction l with
  | nil => rfl
  | cons a l ih => simp only [List.map_cons, ih]; rfl
theorem map_tx2 (l : List ByteArray) : l.map (V.tx ∘ strV) = l := by rw [← List.map_map]; exact map_tx l
theorem unused_nil {v : V} (h : v.good) (h0 : v.kd = 0) : v = V.nil := by
  obtain ⟨k, b, n, t, is, ks⟩ := v
  simp only [V.good, V.good1] at h
  obtain ⟨⟨hk, hu, _⟩, _⟩ := h
  simp only [V.kd] at h0
  subst h0
  simp only [unusedV, Bool.or_eq_false_iff, Bool.and_eq_false_iff, Bool.not_eq_false', decide_eq_true_eq, decide_eq_false_iff_not] at hu
  simp at hu
  obtain ⟨⟨⟨⟨hb, hn⟩, ht⟩, hi⟩, hs⟩ := hu
  subst hb hn hi hs
  cases t with
  | mk d =>
    have : d = #[] := by have := congrArg ByteArray.data ht; exact this
    subst this; rfl
theorem read_row (f : Fd) (h : f.ok) : (prow f).foldl readIt fd0 = f := by
  obtain ⟨l, _, _, hk, hb, _, _, _, hd, _, _⟩ := h
  have hk2 := kofI_name f.kind hk
  have hz : f.dv.kd = 0 → V.nil = f.dv := fun h0 => (unused_nil hd.2.2 h0).symm
  obtain ⟨route, kind, need, bnd, mn, mx, one, dv⟩ := f
  simp only at hk2 hz hb
  unfold prow
  have r1 : ∀ (g : Fd) x, readIt g (qRoute, x) = { g with route := x.tx } := fun g x => by unfold readIt; rw [if_pos rfl]
  have r2 : ∀ (g : Fd) x, readIt g (qKind, x) = { g with kind := kofI x.tx } := fun g x => by unfold readIt; rw [if_neg (by dsimp only; decide), if_pos rfl]
  have r3 : ∀ (g : Fd) x, readIt g (qNeed, x) = { g with need := x.bo } := fun g x => by unfold readIt; rw [if_neg (by dsimp only; decide), if_neg (by dsimp only; decide), if_pos rfl]
  have r4 : ∀ (g : Fd) x, readIt g (qMin, x) = { g with bnd := true, mn := x.nu } := fun g x => by unfold readIt; rw [if_neg (by dsimp only; decide), if_neg (by dsimp only; decide), if_neg (by dsimp only; decide), if_pos rfl]
  have r5 : ∀ (g : Fd) x, readIt g (qMax, x) = { g with bnd := true, mx := x.nu } := fun g x => by unfold readIt; rw [if_neg (by dsimp only; decide), if_neg (by dsimp only; decide), if_neg (by dsimp only; decide), if_neg (by dsimp only; decide), if_pos rfl]
  have r6 : ∀ (g : Fd) x, readIt g (qOneof, x) = { g with one := g.one ++ x.its.map V.tx } := fun g x => by unfold readIt; rw [if_neg (by dsimp only; decide), if_neg (by dsimp only; decide), if_neg (by dsimp only; decide), if_neg (by dsimp only; decide), if_neg (by dsimp only; decide), if_pos rfl]
  have r7 : ∀ (g : Fd) x, readIt g (qDefault, x) = { g with dv := x } := fun g x => by unfold readIt; rw [if_neg (by dsimp only; decide), if_neg (by dsimp only; decide), if_neg (by dsimp only; decide), if_neg (by dsimp only; decide), if_neg (by dsimp only; decide), if_neg (by dsimp only; decide), if_pos rfl]
  by_cases hd0 : dv.kd = 0 <;> by_cases ho : one = [] <;> cases bnd <;>
    simp [hd0, ho, List.foldl, r1, r2, r3, r4, r5, r6, r7, fd0, strV, yesV, wholeV, listV, V.tx, V.bo, V.nu, V.its] at hb ⊢ <;>
    simp [hk2, hz, hd0, hb, map_tx2]
/-- What an item of a field's row is like. -/
structure PairOk (p : ByteArray × V) : Prop where
  kind : fkind p.1 = -1 → p.1 = qDefault
  kd : fkind p.1 ≠ -1 → p.2.kd = fkind p.1
  one : p.1 = qOneof → ∀ x ∈ p.2.its, x.kd = 3
  name : p.1 = qKind → kinds p.2.tx
theorem prow_ok (f : Fd) (h : f.kind = -1 ∨ (0 ≤ f.kind ∧ f.kind ≤ 6)) : ∀ p ∈ prow f, PairOk p := by
  intro p hp
  have h1 : p = (qDefault, f.dv) ∨ p = (qKind, strV (knameI f.kind)) ∨ p = (qMax, wholeV f.mx) ∨ p = (qMin, wholeV f.mn) ∨ p = (qNeed, yesV f.need) ∨ p = (qOneof, listV (f.one.map strV)) ∨ p = (qRoute, strV f.route) := by
    unfold prow at hp
    rcases List.mem_append.1 hp with hp | hp
    · split at hp
      · simp at hp
      · simp only [List.mem_cons, List.not_mem_nil, or_false] at hp; exact .inl hp
    rcases List.mem_cons.1 hp with hp | hp
    · exact .inr (.inl hp)
    rcases List.mem_append.1 hp with hp | hp
    · split at hp
      · simp only [List.mem_cons, List.not_mem_nil, or_false] at hp
        rcases hp with hp | hp
        · exact .inr (.inr (.inl hp))
        · exact .inr (.inr (.inr (.inl hp)))
      · simp at hp
    rcases List.mem_cons.1 hp with hp | hp
    · exact .inr (.inr (.inr (.inr (.inl hp))))
    rcases List.mem_append.1 hp with hp | hp
    · split at hp
      · simp at hp
      · simp only [List.mem_cons, List.not_mem_nil, or_false] at hp; exact .inr (.inr (.inr (.inr (.inr (.inl hp)))))
    · simp only [List.mem_cons, List.not_mem_nil, or_false] at hp; exact .inr (.inr (.inr (.inr (.inr (.inr hp)))))
  have d1 : fkind qDefault = -1 := by decide
  have d2 : fkind qKind = 3 := by decide
  have d3 : fkind qMax = 2 := by decide
  have d4 : fkind qMin = 2 := by decide
  have d5 : fkind qNeed = 1 := by decide
  have d6 : fkind qOneof = 5 := by decide
  have d7 : fkind qRoute = 3 := by decide
  rcases h1 with rfl | rfl | rfl | rfl | rfl | rfl | rfl
  · exact ⟨fun _ => rfl, fun h => absurd d1 h, fun h => absurd h (by dsimp only; decide), fun h => absurd h (by dsimp only; decide)⟩
  · exact ⟨fun h => absurd (d2.symm.trans h) (by decide), fun _ => d2.symm, fun h => absurd h (by dsimp only; decide), fun _ => ⟨f.kind, h, rfl⟩⟩
  · exact ⟨fun h => absurd (d3.symm.trans h) (by decide), fun _ => d3.symm, fun h => absurd h (by dsimp only; decide), fun h => absurd h (by dsimp only; decide)⟩
  · exact ⟨fun h => absurd (d4.symm.trans h) (by decide), fun _ => d4.symm, fun h => absurd h (by dsimp only; decide), fun h => absurd h (by dsimp only; decide)⟩
  · exact ⟨fun h => absurd (d5.symm.trans h) (by decide), fun _ => d5.symm, fun h => absurd h (by dsimp only; decide), fun h => absurd h (by dsimp only; decide)⟩
  · refine ⟨fun h => absurd (d6.symm.trans h) (by decide), fun _ => d6.symm, fun _ x hx => ?_, fun h => absurd h (by dsimp only; decide)⟩
    obtain ⟨s, _, rfl⟩ := List.mem_map.1 hx
    rfl
  · exact ⟨fun h => absurd (d7.symm.trans h) (by decide), fun _ => d7.symm, fun h => absurd h (by dsimp only; decide), fun h => absurd h (by dsimp only; decide)⟩
/-- What lacks. -/
theorem keys_has (f : Fd) : hit qRoute ((prow f).map Prod.fst) = true ∧ hit qKind ((prow f).map Prod.fst) = true ∧ hit qMin ((prow f).map Prod.fst) = f.bnd ∧ hit qMax ((prow f).map Prod.fst) = f.bnd := by
  unfold prow
  by_cases hd : f.dv.kd = 0 <;> by_cases ho : f.one = [] <;> cases hb : f.bnd <;> simp only [hd, ho, if_true, if_false, Bool.false_eq_true] <;> exact ⟨by kernel_rfl, by kernel_rfl, by kernel_rfl, by kernel_rfl⟩
theorem keys_asc_row (f : Fd) : Asc ((prow f).map Prod.fst) := by
  unfold prow
  by_cases hd : f.dv.kd = 0 <;> by_cases ho : f.one = [] <;> cases hb : f.bnd <;> simp only [hd, ho, if_true, if_false, Bool.false_eq_true] <;> exact of_decide_eq_true (by kernel_rfl)
theorem prow_len (f : Fd) : (prow f).length ≤ 7 := by
  unfold prow
  by_cases hd : f.dv.kd = 0 <;> by_cases ho : f.one = [] <;> cases hb : f.bnd <;> simp [hd, ho]
end Mh
