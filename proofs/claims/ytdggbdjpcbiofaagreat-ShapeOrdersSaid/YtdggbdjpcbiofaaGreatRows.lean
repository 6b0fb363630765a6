/-
  No cell of these rows narrows 'for every input' (looked for: loops, veiled, ifaces, maps, wideKeys, modest, calm, conditions, laid).
  DERIVED. THE GIVEN ROWS OF THIS SEAT. 10 by the template 'for every input the law returns true; each argument reads behind the call as it read before'; 0 by the template 'total and deterministic' (their statements: YtdggbdjpcbiofaaGreatTotals.lean).
  GIVEN WITH THE SEED: the statements are not yours to turn. If you find one false, say at which input.
  Laid BY PROGRAM, IN A SANDBOX (cutbox-rows.mjs): the forced cells as the released guide's own fill.sh prints them over the translation 36658106d824ad53… (all of the seat's roots in one cut). By AI agents, Wed Nov 11 2026. No macro, syntax, notation, axiom, sorry.
-/
import Derived.Test.YtdggbdjpcbiofaaGreatChecked
import GoSem.Claim
import GoSem.ClaimJoined
import GoSem.ClaimMapViews
import Derived.JoinedTies
import Derived.KernelRfl
namespace Go.Proofs.YtdggbdjpcbiofaaGreat
/- THE CELL 'sum', in the pinned program and in every row, IS THE sha256 OF THE DUMP (.gsa) THAT YtdggbdjpcbiofaaGreatProg.lean LOADS. Nothing in Lean hashes anything: it is a label: what it is worth is what the hold of that sum in a sandbox is worth. -/
noncomputable def Tryz.pinned : Pinned := { name := "ytdggbdjpcbiofaagreat", sum := "36658106d824ad53c9c3490baa59e10ef7c80a0c32181a7ac7b94f106c11cffa", checked := Tryz.checked }
namespace Rows
def none {H : Type} : Left H := { results := [], args := [] }

/-- 'parolelaw06.ShapeSites': WHATEVER THE INPUT: true; the input reads as it did. -/
def shapeSitesSpec : ChangeSpec := { name := "shapeSites", fn := fun _ => fun
  | [d1, d2] => { results := [.lit (.bool true)], args := [d1, d2] }
  | _ => none }
def shapeSitesRow : OpenClaim := { program := "ytdggbdjpcbiofaagreat", sum := "36658106d824ad53c9c3490baa59e10ef7c80a0c32181a7ac7b94f106c11cffa", func := "parole/parolelaw06.ShapeSites", spec := "shapeSites", unfollowed := true, recurses := true, apart := false }
def ShapeSitesSaid : Prop := shapeSitesRow.holds Tryz.pinned (OpenSpec.ofChange shapeSitesSpec)

/-- ITS FALSE NEIGHBOUR: 'it returns false'. Refute it at one input. -/
def shapeSitesWrong : ChangeSpec := { name := "shapeSites", fn := fun _ => fun
  | [d1, d2] => { results := [.lit (.bool false)], args := [d1, d2] }
  | _ => none }
def ShapeSitesWrongFalsely : Prop := shapeSitesRow.holds Tryz.pinned (OpenSpec.ofChange shapeSitesWrong)

/-- 'parolelaw06.ShapeOrders': WHATEVER THE INPUT: true; the input reads as it did. -/
def shapeOrdersSpec : ChangeSpec := { name := "shapeOrders", fn := fun _ => fun
  | [d1, d2] => { results := [.lit (.bool true)], args := [d1, d2] }
  | _ => none }
def shapeOrdersRow : OpenClaim := { program := "ytdggbdjpcbiofaagreat", sum := "36658106d824ad53c9c3490baa59e10ef7c80a0c32181a7ac7b94f106c11cffa", func := "parole/parolelaw06.ShapeOrders", spec := "shapeOrders", unfollowed := true, recurses := true, apart := false }
def ShapeOrdersSaid : Prop := shapeOrdersRow.holds Tryz.pinned (OpenSpec.ofChange shapeOrdersSpec)

/-- ITS FALSE NEIGHBOUR: 'it returns false'. Refute it at one input. -/
def shapeOrdersWrong : ChangeSpec := { name := "shapeOrders", fn := fun _ => fun
  | [d1, d2] => { results := [.lit (.bool false)], args := [d1, d2] }
  | _ => none }
def ShapeOrdersWrongFalsely : Prop := shapeOrdersRow.holds Tryz.pinned (OpenSpec.ofChange shapeOrdersWrong)

/-- 'parolelaw06.ShapeCloses': WHATEVER THE INPUT: true; the input reads as it did. -/
def shapeClosesSpec : ChangeSpec := { name := "shapeCloses", fn := fun _ => fun
  | [d1, d2] => { results := [.lit (.bool true)], args := [d1, d2] }
  | _ => none }
def shapeClosesRow : OpenClaim := { program := "ytdggbdjpcbiofaagreat", sum := "36658106d824ad53c9c3490baa59e10ef7c80a0c32181a7ac7b94f106c11cffa", func := "parole/parolelaw06.ShapeCloses", spec := "shapeCloses", unfollowed := true, recurses := true, apart := false }
def ShapeClosesSaid : Prop := shapeClosesRow.holds Tryz.pinned (OpenSpec.ofChange shapeClosesSpec)

/-- ITS FALSE NEIGHBOUR: 'it returns false'. Refute it at one input. -/
def shapeClosesWrong : ChangeSpec := { name := "shapeCloses", fn := fun _ => fun
  | [d1, d2] => { results := [.lit (.bool false)], args := [d1, d2] }
  | _ => none }
def ShapeClosesWrongFalsely : Prop := shapeClosesRow.holds Tryz.pinned (OpenSpec.ofChange shapeClosesWrong)

/-- 'parolelaw27.MergeConflicts': WHATEVER THE INPUT: true; the input reads as it did. -/
def mergeConflictsSpec : ChangeSpec := { name := "mergeConflicts", fn := fun _ => fun
  | [d] => { results := [.lit (.bool true)], args := [d] }
  | _ => none }
def mergeConflictsRow : OpenClaim := { program := "ytdggbdjpcbiofaagreat", sum := "36658106d824ad53c9c3490baa59e10ef7c80a0c32181a7ac7b94f106c11cffa", func := "parole/parolelaw27.MergeConflicts", spec := "mergeConflicts", unfollowed := true, recurses := true, apart := false }
def MergeConflictsSaid : Prop := mergeConflictsRow.holds Tryz.pinned (OpenSpec.ofChange mergeConflictsSpec)

/-- ITS FALSE NEIGHBOUR: 'it returns false'. Refute it at one input. -/
def mergeConflictsWrong : ChangeSpec := { name := "mergeConflicts", fn := fun _ => fun
  | [d] => { results := [.lit (.bool false)], args := [d] }
  | _ => none }
def MergeConflictsWrongFalsely : Prop := mergeConflictsRow.holds Tryz.pinned (OpenSpec.ofChange mergeConflictsWrong)

/-- 'parolelaw27.MergeAgain': WHATEVER THE INPUT: true; the input reads as it did. -/
def mergeAgainSpec : ChangeSpec := { name := "mergeAgain", fn := fun _ => fun
  | [d] => { results := [.lit (.bool true)], args := [d] }
  | _ => none }
def mergeAgainRow : OpenClaim := { program := "ytdggbdjpcbiofaagreat", sum := "36658106d824ad53c9c3490baa59e10ef7c80a0c32181a7ac7b94f106c11cffa", func := "parole/parolelaw27.MergeAgain", spec := "mergeAgain", unfollowed := true, recurses := true, apart := false }
def MergeAgainSaid : Prop := mergeAgainRow.holds Tryz.pinned (OpenSpec.ofChange mergeAgainSpec)

/-- ITS FALSE NEIGHBOUR: 'it returns false'. Refute it at one input. -/
def mergeAgainWrong : ChangeSpec := { name := "mergeAgain", fn := fun _ => fun
  | [d] => { results := [.lit (.bool false)], args := [d] }
  | _ => none }
def MergeAgainWrongFalsely : Prop := mergeAgainRow.holds Tryz.pinned (OpenSpec.ofChange mergeAgainWrong)

/-- 'parolelaw06.ShapeRefuses': WHATEVER THE INPUT: true; the input reads as it did. -/
def shapeRefusesSpec : ChangeSpec := { name := "shapeRefuses", fn := fun _ => fun
  | [d1, d2] => { results := [.lit (.bool true)], args := [d1, d2] }
  | _ => none }
def shapeRefusesRow : OpenClaim := { program := "ytdggbdjpcbiofaagreat", sum := "36658106d824ad53c9c3490baa59e10ef7c80a0c32181a7ac7b94f106c11cffa", func := "parole/parolelaw06.ShapeRefuses", spec := "shapeRefuses", unfollowed := true, recurses := true, apart := false }
def ShapeRefusesSaid : Prop := shapeRefusesRow.holds Tryz.pinned (OpenSpec.ofChange shapeRefusesSpec)

/-- ITS FALSE NEIGHBOUR: 'it returns false'. Refute it at one input. -/
def shapeRefusesWrong : ChangeSpec := { name := "shapeRefuses", fn := fun _ => fun
  | [d1, d2] => { results := [.lit (.bool false)], args := [d1, d2] }
  | _ => none }
def ShapeRefusesWrongFalsely : Prop := shapeRefusesRow.holds Tryz.pinned (OpenSpec.ofChange shapeRefusesWrong)

/-- 'parolelaw27.MergeMatchesReference': WHATEVER THE INPUT: true; the input reads as it did. -/
def mergeMatchesReferenceSpec : ChangeSpec := { name := "mergeMatchesReference", fn := fun _ => fun
  | [d1, d2] => { results := [.lit (.bool true)], args := [d1, d2] }
  | _ => none }
def mergeMatchesReferenceRow : OpenClaim := { program := "ytdggbdjpcbiofaagreat", sum := "36658106d824ad53c9c3490baa59e10ef7c80a0c32181a7ac7b94f106c11cffa", func := "parole/parolelaw27.MergeMatchesReference", spec := "mergeMatchesReference", unfollowed := true, recurses := true, apart := false }
def MergeMatchesReferenceSaid : Prop := mergeMatchesReferenceRow.holds Tryz.pinned (OpenSpec.ofChange mergeMatchesReferenceSpec)

/-- ITS FALSE NEIGHBOUR: 'it returns false'. Refute it at one input. -/
def mergeMatchesReferenceWrong : ChangeSpec := { name := "mergeMatchesReference", fn := fun _ => fun
  | [d1, d2] => { results := [.lit (.bool false)], args := [d1, d2] }
  | _ => none }
def MergeMatchesReferenceWrongFalsely : Prop := mergeMatchesReferenceRow.holds Tryz.pinned (OpenSpec.ofChange mergeMatchesReferenceWrong)

/-- 'parolelaw27.MergeSides': WHATEVER THE INPUT: true; the input reads as it did. -/
def mergeSidesSpec : ChangeSpec := { name := "mergeSides", fn := fun _ => fun
  | [d] => { results := [.lit (.bool true)], args := [d] }
  | _ => none }
def mergeSidesRow : OpenClaim := { program := "ytdggbdjpcbiofaagreat", sum := "36658106d824ad53c9c3490baa59e10ef7c80a0c32181a7ac7b94f106c11cffa", func := "parole/parolelaw27.MergeSides", spec := "mergeSides", unfollowed := true, recurses := true, apart := false }
def MergeSidesSaid : Prop := mergeSidesRow.holds Tryz.pinned (OpenSpec.ofChange mergeSidesSpec)

/-- ITS FALSE NEIGHBOUR: 'it returns false'. Refute it at one input. -/
def mergeSidesWrong : ChangeSpec := { name := "mergeSides", fn := fun _ => fun
  | [d] => { results := [.lit (.bool false)], args := [d] }
  | _ => none }
def MergeSidesWrongFalsely : Prop := mergeSidesRow.holds Tryz.pinned (OpenSpec.ofChange mergeSidesWrong)

/-- 'parolelaw27.MergeSymmetric': WHATEVER THE INPUT: true; the input reads as it did. -/
def mergeSymmetricSpec : ChangeSpec := { name := "mergeSymmetric", fn := fun _ => fun
  | [d] => { results := [.lit (.bool true)], args := [d] }
  | _ => none }
def mergeSymmetricRow : OpenClaim := { program := "ytdggbdjpcbiofaagreat", sum := "36658106d824ad53c9c3490baa59e10ef7c80a0c32181a7ac7b94f106c11cffa", func := "parole/parolelaw27.MergeSymmetric", spec := "mergeSymmetric", unfollowed := true, recurses := true, apart := false }
def MergeSymmetricSaid : Prop := mergeSymmetricRow.holds Tryz.pinned (OpenSpec.ofChange mergeSymmetricSpec)

/-- ITS FALSE NEIGHBOUR: 'it returns false'. Refute it at one input. -/
def mergeSymmetricWrong : ChangeSpec := { name := "mergeSymmetric", fn := fun _ => fun
  | [d] => { results := [.lit (.bool false)], args := [d] }
  | _ => none }
def MergeSymmetricWrongFalsely : Prop := mergeSymmetricRow.holds Tryz.pinned (OpenSpec.ofChange mergeSymmetricWrong)

/-- 'parolelaw27.MergeEntries': WHATEVER THE INPUT: true; the input reads as it did. -/
def mergeEntriesSpec : ChangeSpec := { name := "mergeEntries", fn := fun _ => fun
  | [d] => { results := [.lit (.bool true)], args := [d] }
  | _ => none }
def mergeEntriesRow : OpenClaim := { program := "ytdggbdjpcbiofaagreat", sum := "36658106d824ad53c9c3490baa59e10ef7c80a0c32181a7ac7b94f106c11cffa", func := "parole/parolelaw27.MergeEntries", spec := "mergeEntries", unfollowed := true, recurses := true, apart := false }
def MergeEntriesSaid : Prop := mergeEntriesRow.holds Tryz.pinned (OpenSpec.ofChange mergeEntriesSpec)

/-- ITS FALSE NEIGHBOUR: 'it returns false'. Refute it at one input. -/
def mergeEntriesWrong : ChangeSpec := { name := "mergeEntries", fn := fun _ => fun
  | [d] => { results := [.lit (.bool false)], args := [d] }
  | _ => none }
def MergeEntriesWrongFalsely : Prop := mergeEntriesRow.holds Tryz.pinned (OpenSpec.ofChange mergeEntriesWrong)

/- THE SECOND FORM. 'bulk': how many values and letters a reading holds, each counted each time it is reached (what is shared counts as often as it is met; a slice's spare places count too). A statement '..UptoSaid' is the law's where the arguments, and the package variables that the reading takes, are together of bulk at most 1048576: NARROWER than '..Said'. Prove '..Said' where nothing that the law and all that it calls make is longer than what came in: it says more and counts as full. Else prove '..UptoSaid'. A law counts once. -/
mutual
def uptoBulk {H : Type} : DataW H → Nat
  | .lit (.string bytes) => bytes.length + 1
  | .lit _ => 1
  | .nil => 1
  | .ptr d => uptoBulk d + 1
  | .slice elems spare => uptoBulkAll elems + uptoBulkAll spare + 1
  | .agg parts => uptoBulkAll parts + 1
  | .iface _ d => uptoBulk d + 1
  | .map entries => uptoBulkEntries entries + 1
  | .held _ => 1
def uptoBulkAll {H : Type} : List (DataW H) → Nat
  | [] => 0
  | d :: r => uptoBulk d + uptoBulkAll r
def uptoBulkEntries {H : Type} : List (Lit × DataW H) → Nat
  | [] => 0
  | x :: r => uptoBulkEntry x + uptoBulkEntries r
def uptoBulkEntry {H : Type} : Lit × DataW H → Nat
  | (.string bytes, d) => bytes.length + uptoBulk d + 1
  | (_, d) => uptoBulk d + 1
 end
def uptoSmall : (H : Type) → List (DataW H) → Bool := fun _ ds => decide (uptoBulkAll ds ≤ 1048576)
def OpenSpec.upto (s : _root_.Go.ChangeSpec) : _root_.Go.OpenSpec := { _root_.Go.OpenSpec.ofChange s with cond := some uptoSmall }

/-- 'parolelaw06.ShapeSites', WHERE WHAT IT READS IS OF BULK AT MOST 1048576: true; the input reads as it did. -/
def shapeSitesUptoRow : OpenClaim := { program := "ytdggbdjpcbiofaagreat", sum := "36658106d824ad53c9c3490baa59e10ef7c80a0c32181a7ac7b94f106c11cffa", func := "parole/parolelaw06.ShapeSites", spec := "shapeSites", unfollowed := true, recurses := true, apart := false, narrowed := true }
def ShapeSitesUptoSaid : Prop := shapeSitesUptoRow.holds Tryz.pinned (OpenSpec.upto shapeSitesSpec)

/-- 'parolelaw06.ShapeOrders', WHERE WHAT IT READS IS OF BULK AT MOST 1048576: true; the input reads as it did. -/
def shapeOrdersUptoRow : OpenClaim := { program := "ytdggbdjpcbiofaagreat", sum := "36658106d824ad53c9c3490baa59e10ef7c80a0c32181a7ac7b94f106c11cffa", func := "parole/parolelaw06.ShapeOrders", spec := "shapeOrders", unfollowed := true, recurses := true, apart := false, narrowed := true }
def ShapeOrdersUptoSaid : Prop := shapeOrdersUptoRow.holds Tryz.pinned (OpenSpec.upto shapeOrdersSpec)

/-- 'parolelaw06.ShapeCloses', WHERE WHAT IT READS IS OF BULK AT MOST 1048576: true; the input reads as it did. -/
def shapeClosesUptoRow : OpenClaim := { program := "ytdggbdjpcbiofaagreat", sum := "36658106d824ad53c9c3490baa59e10ef7c80a0c32181a7ac7b94f106c11cffa", func := "parole/parolelaw06.ShapeCloses", spec := "shapeCloses", unfollowed := true, recurses := true, apart := false, narrowed := true }
def ShapeClosesUptoSaid : Prop := shapeClosesUptoRow.holds Tryz.pinned (OpenSpec.upto shapeClosesSpec)

/-- 'parolelaw27.MergeConflicts', WHERE WHAT IT READS IS OF BULK AT MOST 1048576: true; the input reads as it did. -/
def mergeConflictsUptoRow : OpenClaim := { program := "ytdggbdjpcbiofaagreat", sum := "36658106d824ad53c9c3490baa59e10ef7c80a0c32181a7ac7b94f106c11cffa", func := "parole/parolelaw27.MergeConflicts", spec := "mergeConflicts", unfollowed := true, recurses := true, apart := false, narrowed := true }
def MergeConflictsUptoSaid : Prop := mergeConflictsUptoRow.holds Tryz.pinned (OpenSpec.upto mergeConflictsSpec)

/-- 'parolelaw27.MergeAgain', WHERE WHAT IT READS IS OF BULK AT MOST 1048576: true; the input reads as it did. -/
def mergeAgainUptoRow : OpenClaim := { program := "ytdggbdjpcbiofaagreat", sum := "36658106d824ad53c9c3490baa59e10ef7c80a0c32181a7ac7b94f106c11cffa", func := "parole/parolelaw27.MergeAgain", spec := "mergeAgain", unfollowed := true, recurses := true, apart := false, narrowed := true }
def MergeAgainUptoSaid : Prop := mergeAgainUptoRow.holds Tryz.pinned (OpenSpec.upto mergeAgainSpec)

/-- 'parolelaw06.ShapeRefuses', WHERE WHAT IT READS IS OF BULK AT MOST 1048576: true; the input reads as it did. -/
def shapeRefusesUptoRow : OpenClaim := { program := "ytdggbdjpcbiofaagreat", sum := "36658106d824ad53c9c3490baa59e10ef7c80a0c32181a7ac7b94f106c11cffa", func := "parole/parolelaw06.ShapeRefuses", spec := "shapeRefuses", unfollowed := true, recurses := true, apart := false, narrowed := true }
def ShapeRefusesUptoSaid : Prop := shapeRefusesUptoRow.holds Tryz.pinned (OpenSpec.upto shapeRefusesSpec)

/-- 'parolelaw27.MergeMatchesReference', WHERE WHAT IT READS IS OF BULK AT MOST 1048576: true; the input reads as it did. -/
def mergeMatchesReferenceUptoRow : OpenClaim := { program := "ytdggbdjpcbiofaagreat", sum := "36658106d824ad53c9c3490baa59e10ef7c80a0c32181a7ac7b94f106c11cffa", func := "parole/parolelaw27.MergeMatchesReference", spec := "mergeMatchesReference", unfollowed := true, recurses := true, apart := false, narrowed := true }
def MergeMatchesReferenceUptoSaid : Prop := mergeMatchesReferenceUptoRow.holds Tryz.pinned (OpenSpec.upto mergeMatchesReferenceSpec)

/-- 'parolelaw27.MergeSides', WHERE WHAT IT READS IS OF BULK AT MOST 1048576: true; the input reads as it did. -/
def mergeSidesUptoRow : OpenClaim := { program := "ytdggbdjpcbiofaagreat", sum := "36658106d824ad53c9c3490baa59e10ef7c80a0c32181a7ac7b94f106c11cffa", func := "parole/parolelaw27.MergeSides", spec := "mergeSides", unfollowed := true, recurses := true, apart := false, narrowed := true }
def MergeSidesUptoSaid : Prop := mergeSidesUptoRow.holds Tryz.pinned (OpenSpec.upto mergeSidesSpec)

/-- 'parolelaw27.MergeSymmetric', WHERE WHAT IT READS IS OF BULK AT MOST 1048576: true; the input reads as it did. -/
def mergeSymmetricUptoRow : OpenClaim := { program := "ytdggbdjpcbiofaagreat", sum := "36658106d824ad53c9c3490baa59e10ef7c80a0c32181a7ac7b94f106c11cffa", func := "parole/parolelaw27.MergeSymmetric", spec := "mergeSymmetric", unfollowed := true, recurses := true, apart := false, narrowed := true }
def MergeSymmetricUptoSaid : Prop := mergeSymmetricUptoRow.holds Tryz.pinned (OpenSpec.upto mergeSymmetricSpec)

/-- 'parolelaw27.MergeEntries', WHERE WHAT IT READS IS OF BULK AT MOST 1048576: true; the input reads as it did. -/
def mergeEntriesUptoRow : OpenClaim := { program := "ytdggbdjpcbiofaagreat", sum := "36658106d824ad53c9c3490baa59e10ef7c80a0c32181a7ac7b94f106c11cffa", func := "parole/parolelaw27.MergeEntries", spec := "mergeEntries", unfollowed := true, recurses := true, apart := false, narrowed := true }
def MergeEntriesUptoSaid : Prop := mergeEntriesUptoRow.holds Tryz.pinned (OpenSpec.upto mergeEntriesSpec)

end Rows
end Go.Proofs.YtdggbdjpcbiofaaGreat
