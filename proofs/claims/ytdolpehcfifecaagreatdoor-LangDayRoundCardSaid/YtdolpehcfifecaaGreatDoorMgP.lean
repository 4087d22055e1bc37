/- Messages: the reader of package lang as plain functions on positions (mirror of the code). No program. -/
import Derived.Test.YtdolpehcfifecaaGreatDoorKePl
import Derived.Lib.AtoiAll
namespace Mh
open Go Go.RowKit
set_option linter.unusedVariables false
mutual
/-- A piece of a message. -/
inductive Pc where
  | mk (kind : Int) (text : ByteArray) (ways : List Wy)
/-- A way of a piece. -/
inductive Wy where
  | mk (word : ByteArray) (exact form : Int) (pieces : List Pc)
end
def Pc.kd : Pc → Int | .mk k _ _ => k
def Pc.tx : Pc → ByteArray | .mk _ t _ => t
def Pc.ws : Pc → List Wy | .mk _ _ w => w
def Wy.wd : Wy → ByteArray | .mk w _ _ _ => w
def Wy.ex : Wy → Int | .mk _ e _ _ => e
def Wy.fm : Wy → Int | .mk _ _ f _ => f
def Wy.ps : Wy → List Pc | .mk _ _ _ p => p
/-- The reader: where it stands, its first error, and the pieces counted. -/
structure Ms where
  i : Nat
  a : Int
  e : Int
  n : Nat
def Ms.fail (m : Ms) (a : Int) (e : Int) : Ms := if m.e = 0 then { m with a := a, e := e } else m
def mctlB (c : UInt8) : Bool := decide (c.toNat < 32) && (!decide (c.toNat = 9) && !decide (c.toNat = 10))
def mletB (c : UInt8) : Bool := smallB c || (decide (65 ≤ c.toNat) && decide (c.toNat ≤ 90))
def mwordB (c : UInt8) : Bool := mletB c || digB c || decide (c.toNat = 45) || decide (c.toNat = 95)
def byteAt (s : ByteArray) (i : Nat) : Option UInt8 := s.data.toList[i]?
def Ms.wrong (s : ByteArray) (m : Ms) : Ms := m.fail m.i (if (byteAt s m.i).any mctlB = true then 9 else 8)
def Ms.piece (m : Ms) (a : Nat) : Ms := let m2 := { m with n := m.n + 1 }; if 100 < m2.n then m2.fail a 4 else m2
/-- The first position from i on that is no blank. -/
def skipP (s : ByteArray) (i : Nat) : Nat := i + ((s.data.toList.drop i).takeWhile fun c => decide (c.toNat = 32) || decide (c.toNat = 9) || decide (c.toNat = 10)).length
def wordEnd (s : ByteArray) (i : Nat) : Nat :=
  let k := if byteAt s i = some 61 then i + 1 else i
  k + ((s.data.toList.drop k).takeWhile mwordB).length
/-- word: the word, where it begins, the reader behind it. -/
def Ms.word (s : ByteArray) (m : Ms) : ByteArray × Nat × Ms :=
  let a := skipP s m.i
  let k := wordEnd s a
  let m1 := { m with i := a }
  let m2 := if k = a then Ms.wrong s m1 else m1
  (s.extract a k, a, { m2 with i := k })
def Ms.take (s : ByteArray) (c : UInt8) (m : Ms) : Ms :=
  if m.e ≠ 0 then m else
    let m1 := { m with i := skipP s m.i }
    if byteAt s m1.i = some c then { m1 with i := m1.i + 1 } else Ms.wrong s m1
def flushL (out : List Pc) (pl : List UInt8) : List Pc := if pl = [] then out else out ++ [.mk 0 ⟨pl.toArray⟩ []]
def mescB (c : UInt8) : Bool := decide (c.toNat = 123) || decide (c.toNat = 125) || decide (c.toNat = 35) || decide (c.toNat = 92)
/-- The end of a message. -/
def mfin (s : ByteArray) (d : Nat) (m : Ms) (out : List Pc) (pl : List UInt8) : Ms × List Pc := (if 1 < d then Ms.wrong s m else m, flushL out pl)
def otherW : ByteArray := ⟨#[111, 116, 104, 101, 114]⟩
def isOther (kind : Int) (w : Wy) : Bool := if kind = 2 then decide (w.wd.size = 0) else decide (w.fm = 7)
def Ms.at (m : Ms) (i : Nat) : Ms := ⟨i, m.a, m.e, m.n⟩
def chooseW : ByteArray := ⟨#[99, 104, 111, 111, 115, 101]⟩
def countW : ByteArray := ⟨#[99, 111, 117, 110, 116]⟩
/-- integer: the number, and the error. -/
def intP (l : List UInt8) : Int × Int :=
  let ds := Lib.trimPrefix l [45]
  if ds = [] ∨ (ds.head? = some 48 ∧ l ≠ [48]) ∨ ds.all digB = false then (0, 8)
  else match Lib.atoiAll l with
    | .ok n => (n, 0)
    | _ => (0, 2)
/-- countWay. -/
def countP (s : ByteArray) : Wy × Int :=
  if s = otherW then (.mk ⟨#[]⟩ 0 7 [], 0)
  else if s.data.toList.head? = some 61 then (.mk ⟨#[]⟩ (intP s.data.toList.tail).1 (-1) [], (intP s.data.toList.tail).2)
  else match s.data.toList with
    | [c] => if 48 ≤ c.toNat ∧ c.toNat ≤ 54 then (.mk ⟨#[]⟩ 0 (c.toNat - 48 : Nat) [], 0) else (.mk ⟨#[]⟩ 0 0 [], 8)
    | _ => (.mk ⟨#[]⟩ 0 0 [], 8)
def sameWy (x w : Wy) : Bool := decide (x.wd = w.wd) && (decide (x.ex = w.ex) && decide (x.fm = w.fm))
/-- A way's word, where the reader is right: the way, and its error. -/
def wayP (kd : Int) (ws : List Wy) (s : ByteArray) : Wy × Int :=
  let r : Wy × Int := if kd = 3 then countP s
    else if s = otherW ∧ ws ≠ [] then (.mk ⟨#[]⟩ 0 0 [], 0)
    else if s = otherW ∨ s.data.toList.head? = some 61 then (.mk s 0 0 [], 8)
    else (.mk s 0 0 [], 0)
  (r.1, if r.2 = 0 ∧ ws.any (fun x => sameWy x r.1) = true then 6 else r.2)
def Ms.way (s : ByteArray) (kd : Int) (ws : List Wy) (m : Ms) : Ms × Wy :=
  let w := Ms.word s m
  if w.2.2.e ≠ 0 then (w.2.2, .mk w.1 0 0 [])
  else
    let r := wayP kd ws w.1
    (if r.2 ≠ 0 then w.2.2.fail w.2.1 r.2 else w.2.2, r.1)
def Wy.withPs (w : Wy) (ps : List Pc) : Wy := .mk w.wd w.ex w.fm ps
def mwend (s : ByteArray) (kd : Int) (name : ByteArray) (m : Ms) (ws : List Wy) : Ms × Pc := (Ms.take s 125 m, .mk kd name ws)
/-- What braces reads up to the ways: the name, the kind, the reader; none: the piece is read. -/
def mhead (s : ByteArray) (m : Ms) : ByteArray × Option Int × Ms :=
  let w := Ms.word s m
  let m1 := if w.2.2.e = 0 ∧ isKeyL w.1.data.toList = false then w.2.2.fail w.2.1 8 else w.2.2
  if m1.e ≠ 0 then (w.1, none, m1)
  else
    let m2 := m1.at (skipP s m1.i)
    if byteAt s m2.i = some 125 then (w.1, none, m2.at (m2.i + 1))
    else
      let m3 := Ms.take s 44 m2
      if m3.e ≠ 0 then (w.1, none, m3)
      else
        let v := Ms.word s m3
        let kd : Int := if v.2.2.e ≠ 0 then 1 else if v.1 = chooseW then 2 else if v.1 = countW then 3 else 1
        let m4 := if v.2.2.e = 0 ∧ kd = 1 then v.2.2.fail v.2.1 8 else v.2.2
        (w.1, some kd, Ms.take s 44 m4)
/-- A way up to its brace: the reader, the way, whether the word was wrong. -/
def mopen (s : ByteArray) (d : Nat) (kd : Int) (ws : List Wy) (m : Ms) : Ms × Wy × Bool :=
  let w := Ms.way s kd ws m
  if w.1.e ≠ 0 then (w.1, w.2, true)
  else
    let m2 := Ms.take s 123 w.1
    (if m2.e = 0 ∧ d = 12 then m2.fail ((m2.i : Int) - 1) 13 else m2, w.2, false)
/-- Behind a message in braces. -/
def mclose (m : Ms) : Ms := if m.e = 0 then m.at (m.i + 1) else m
theorem mclose_le (m : Ms) : m.i ≤ (mclose m).i := by
  unfold mclose
  split
  · exact Nat.le_succ _
  · exact Nat.le_refl _
mutual
/-- message's loop. -/
def mloop (s : ByteArray) (d : Nat) (cnt : Bool) (m : Ms) (out : List Pc) (pl : List UInt8) : Ms × List Pc :=
  if h : m.e = 0 ∧ m.i < s.size then
    let c := s[m.i]'h.2
    if c.toNat = 125 ∧ 1 < d then (m, flushL out pl)
    else if c.toNat = 125 ∨ mctlB c = true then mfin s d (Ms.wrong s m) out pl
    else if c.toNat = 123 then
      let m1 := (m.piece m.i).at (m.i + 1)
      if m1.e = 0 then
        match mbrace s d cnt m1 with
        | (m2, p) => if m.i < m2.i then mloop s d cnt m2 (flushL out pl ++ [p]) [] else (m, [])
      else mfin s d m1 (flushL out pl) []
    else if c.toNat = 35 ∧ cnt = true then mloop s d cnt ((m.piece m.i).at (m.i + 1)) (flushL out pl ++ [.mk 4 ⟨#[]⟩ []]) []
    else
      let m1 := if pl = [] then m.piece m.i else m
      if c.toNat = 92 then
        match byteAt s (m.i + 1) with
        | none => mfin s d (Ms.wrong s (m1.at (m.i + 1))) out pl
        | some c2 => if mescB c2 = true then mloop s d cnt (m1.at (m.i + 2)) out (pl ++ [c2]) else mfin s d (Ms.wrong s (m1.at (m.i + 1))) out pl
      else mloop s d cnt (m1.at (m.i + 1)) out (pl ++ [c])
  else mfin s d m out pl
termination_by 2 * (s.size - m.i)
decreasing_by all_goals (first | omega | (simp only [Ms.at]; omega))
/-- braces. -/
def mbrace (s : ByteArray) (d : Nat) (cnt : Bool) (m : Ms) : Ms × Pc :=
  match mhead s m with
  | (name, none, m2) => (m2, .mk 1 name [])
  | (name, some kd, m2) => if m.i ≤ m2.i then mways s d cnt kd name m2 [] else (m, .mk 0 name [])
termination_by 2 * (s.size - m.i) + 1
decreasing_by all_goals omega
/-- The ways of a piece. -/
def mways (s : ByteArray) (d : Nat) (cnt : Bool) (kd : Int) (name : ByteArray) (m : Ms) (ws : List Wy) : Ms × Pc :=
  if m.e = 0 then
    match mopen s d kd ws m with
    | (m3, w, true) => mwend s kd name m3 ws
    | (m3, w, false) =>
      if m3.e = 0 then
        if m.i < m3.i ∧ m.i < s.size then
          match mloop s (d + 1) (cnt || decide (kd = 3)) m3 [] [] with
          | (m5, ps) =>
            if isOther kd w = true then mwend s kd name (mclose m5) (ws ++ [w.withPs ps])
            else if m.i < m5.i then mways s d cnt kd name (mclose m5) (ws ++ [w.withPs ps]) else (m, .mk 0 name [])
        else (m, .mk 0 name [])
      else mwend s kd name m3 (ws ++ [w])
  else mwend s kd name m ws
termination_by 2 * (s.size - m.i)
decreasing_by
  · omega
  · have := mclose_le m5; omega
end
/-- ReadMessage: its error, where it is, and the pieces. -/
def readM (s : ByteArray) : Int × Int × List Pc :=
  if 2000 < s.size then (4, 0, [])
  else
    let r := mloop s 1 false ⟨0, 0, 0, 0⟩ [] []
    if r.1.e ≠ 0 then (r.1.e, r.1.a, []) else (0, 0, r.2)
end Mh
