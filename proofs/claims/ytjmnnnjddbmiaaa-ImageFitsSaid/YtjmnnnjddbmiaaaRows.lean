/-
  No cell of these rows narrows 'for every input' (looked for: loops, veiled, ifaces, maps, wideKeys, modest, calm, conditions, laid).
  DERIVED. THE GIVEN ROWS OF THIS SEAT. 3 by the template 'for every input the law returns true; each argument reads behind the call as it read before'; 0 by the template 'total and deterministic' (their statements: YtjmnnnjddbmiaaaTotals.lean).
  GIVEN WITH THE SEED: the statements are not yours to turn. If you find one false, say at which input.
  Laid BY PROGRAM, IN A SANDBOX (cutbox-rows.mjs): the forced cells as the released guide's own fill.sh prints them over the translation 58aa44ecc04fbf69… (all of the seat's roots in one cut). By AI agents, Wed Nov 11 2026. No macro, syntax, notation, axiom, sorry.
-/
import Derived.Test.YtjmnnnjddbmiaaaChecked
import GoSem.Claim
import GoSem.ClaimJoined
import GoSem.ClaimMapViews
import Derived.JoinedTies
import Derived.KernelRfl
namespace Go.Proofs.Ytjmnnnjddbmiaaa
/- THE CELL 'sum', in the pinned program and in every row, IS THE sha256 OF THE DUMP (.gsa) THAT YtjmnnnjddbmiaaaProg.lean LOADS. Nothing in Lean hashes anything: it is a label: what it is worth is what the hold of that sum in a sandbox is worth. -/
noncomputable def Try.pinned : Pinned := { name := "ytjmnnnjddbmiaaa", sum := "58aa44ecc04fbf698cdc19bc730ce4c9772d1865212a5943f48fd2d0e892658e", checked := Try.checked }
namespace Rows
def none {H : Type} : Left H := { results := [], args := [] }

/-- 'mastkeep2.AssetCoded': WHATEVER THE INPUT: true; the input reads as it did. -/
def assetCodedSpec : ChangeSpec := { name := "assetCoded", fn := fun _ => fun
  | [d] => { results := [.lit (.bool true)], args := [d] }
  | _ => none }
def assetCodedRow : OpenClaim := { program := "ytjmnnnjddbmiaaa", sum := "58aa44ecc04fbf698cdc19bc730ce4c9772d1865212a5943f48fd2d0e892658e", func := "masthead/mastkeep2.AssetCoded", spec := "assetCoded", inPlace := ["internal/bytealg.IndexByteString"], unfollowed := true, recurses := true, apart := false }
def AssetCodedSaid : Prop := assetCodedRow.holds Try.pinned (OpenSpec.ofChange assetCodedSpec)

/-- ITS FALSE NEIGHBOUR: 'it returns false'. Refute it at one input. -/
def assetCodedWrong : ChangeSpec := { name := "assetCoded", fn := fun _ => fun
  | [d] => { results := [.lit (.bool false)], args := [d] }
  | _ => none }
def AssetCodedWrongFalsely : Prop := assetCodedRow.holds Try.pinned (OpenSpec.ofChange assetCodedWrong)

/-- 'mastkeep2.ImageFits': WHATEVER THE INPUT: true; the input reads as it did. -/
def imageFitsSpec : ChangeSpec := { name := "imageFits", fn := fun _ => fun
  | [d1, d2] => { results := [.lit (.bool true)], args := [d1, d2] }
  | _ => none }
def imageFitsRow : OpenClaim := { program := "ytjmnnnjddbmiaaa", sum := "58aa44ecc04fbf698cdc19bc730ce4c9772d1865212a5943f48fd2d0e892658e", func := "masthead/mastkeep2.ImageFits", spec := "imageFits", unfollowed := true, recurses := true, apart := false }
def ImageFitsSaid : Prop := imageFitsRow.holds Try.pinned (OpenSpec.ofChange imageFitsSpec)

/-- ITS FALSE NEIGHBOUR: 'it returns false'. Refute it at one input. -/
def imageFitsWrong : ChangeSpec := { name := "imageFits", fn := fun _ => fun
  | [d1, d2] => { results := [.lit (.bool false)], args := [d1, d2] }
  | _ => none }
def ImageFitsWrongFalsely : Prop := imageFitsRow.holds Try.pinned (OpenSpec.ofChange imageFitsWrong)

/-- 'mastkeep2.AssetSame': WHATEVER THE INPUT: true; the input reads as it did. -/
def assetSameSpec : ChangeSpec := { name := "assetSame", fn := fun _ => fun
  | [d1, d2] => { results := [.lit (.bool true)], args := [d1, d2] }
  | _ => none }
def assetSameRow : OpenClaim := { program := "ytjmnnnjddbmiaaa", sum := "58aa44ecc04fbf698cdc19bc730ce4c9772d1865212a5943f48fd2d0e892658e", func := "masthead/mastkeep2.AssetSame", spec := "assetSame", inPlace := ["internal/bytealg.IndexByteString", "internal/bytealg.IndexString", "internal/abi.NoEscape"], unfollowed := true, recurses := true, named := ["internal/bytealg.MaxLen"], apart := false }
def AssetSameSaid : Prop := assetSameRow.holds Try.pinned (OpenSpec.ofChange assetSameSpec)

/-- ITS FALSE NEIGHBOUR: 'it returns false'. Refute it at one input. -/
def assetSameWrong : ChangeSpec := { name := "assetSame", fn := fun _ => fun
  | [d1, d2] => { results := [.lit (.bool false)], args := [d1, d2] }
  | _ => none }
def AssetSameWrongFalsely : Prop := assetSameRow.holds Try.pinned (OpenSpec.ofChange assetSameWrong)

/- THE SECOND FORM. 'bulk': how many values and letters a reading holds, each counted each time it is reached (what is shared counts as often as it is met; a slice's spare places count too). A statement '..UptoSaid' is the law's where the arguments, and the package variables that the reading takes, are together of bulk at most 1048576: NARROWER than '..Said'. Prove '..Said' where nothing that the law and all that it calls make is longer than what came in: it says more and counts as full. Else prove '..UptoSaid'. A law counts once. -/
mutual
def uptoBulk {H : Type} : DataW H → Nat
  | .lit (.string bytes) => bytes.length + 1
  | .lit _ => 1
  | .nil => 1
  | .ptr d => uptoBulk d + 1
  | .slice elems spare => uptoBulkAll elems + uptoBulkAll spare + 1
  | .agg parts => uptoBulkAll parts + 1
  | .iface _ d => uptoBulk d + 1
  | .map entries => uptoBulkEntries entries + 1
  | .held _ => 1
def uptoBulkAll {H : Type} : List (DataW H) → Nat
  | [] => 0
  | d :: r => uptoBulk d + uptoBulkAll r
def uptoBulkEntries {H : Type} : List (Lit × DataW H) → Nat
  | [] => 0
  | x :: r => uptoBulkEntry x + uptoBulkEntries r
def uptoBulkEntry {H : Type} : Lit × DataW H → Nat
  | (.string bytes, d) => bytes.length + uptoBulk d + 1
  | (_, d) => uptoBulk d + 1
 end
def uptoSmall : (H : Type) → List (DataW H) → Bool := fun _ ds => decide (uptoBulkAll ds ≤ 1048576)
def OpenSpec.upto (s : _root_.Go.ChangeSpec) : _root_.Go.OpenSpec := { _root_.Go.OpenSpec.ofChange s with cond := some uptoSmall }

/-- 'mastkeep2.AssetCoded', WHERE WHAT IT READS IS OF BULK AT MOST 1048576: true; the input reads as it did. -/
def assetCodedUptoRow : OpenClaim := { program := "ytjmnnnjddbmiaaa", sum := "58aa44ecc04fbf698cdc19bc730ce4c9772d1865212a5943f48fd2d0e892658e", func := "masthead/mastkeep2.AssetCoded", spec := "assetCoded", inPlace := ["internal/bytealg.IndexByteString"], unfollowed := true, recurses := true, apart := false, narrowed := true }
def AssetCodedUptoSaid : Prop := assetCodedUptoRow.holds Try.pinned (OpenSpec.upto assetCodedSpec)

/-- 'mastkeep2.ImageFits', WHERE WHAT IT READS IS OF BULK AT MOST 1048576: true; the input reads as it did. -/
def imageFitsUptoRow : OpenClaim := { program := "ytjmnnnjddbmiaaa", sum := "58aa44ecc04fbf698cdc19bc730ce4c9772d1865212a5943f48fd2d0e892658e", func := "masthead/mastkeep2.ImageFits", spec := "imageFits", unfollowed := true, recurses := true, apart := false, narrowed := true }
def ImageFitsUptoSaid : Prop := imageFitsUptoRow.holds Try.pinned (OpenSpec.upto imageFitsSpec)

/-- 'mastkeep2.AssetSame', WHERE WHAT IT READS IS OF BULK AT MOST 1048576: true; the input reads as it did. -/
def assetSameUptoRow : OpenClaim := { program := "ytjmnnnjddbmiaaa", sum := "58aa44ecc04fbf698cdc19bc730ce4c9772d1865212a5943f48fd2d0e892658e", func := "masthead/mastkeep2.AssetSame", spec := "assetSame", inPlace := ["internal/bytealg.IndexByteString", "internal/bytealg.IndexString", "internal/abi.NoEscape"], unfollowed := true, recurses := true, named := ["internal/bytealg.MaxLen"], apart := false, narrowed := true }
def AssetSameUptoSaid : Prop := assetSameUptoRow.holds Try.pinned (OpenSpec.upto assetSameSpec)

end Rows
end Go.Proofs.Ytjmnnnjddbmiaaa
