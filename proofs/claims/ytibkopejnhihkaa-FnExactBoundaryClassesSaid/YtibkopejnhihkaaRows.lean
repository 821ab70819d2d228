/-
  No cell of these rows narrows 'for every input' (looked for: loops, veiled, ifaces, maps, wideKeys, modest, calm, conditions, laid).
  DERIVED. THE GIVEN ROWS OF THIS SEAT. 12 by the template 'for every input the law returns true; each argument reads behind the call as it read before'; 0 by the template 'total and deterministic' (their statements: YtibkopejnhihkaaTotals.lean).
  GIVEN WITH THE SEED: the statements are not yours to turn. If you find one false, say at which input.
  Laid BY PROGRAM, IN A SANDBOX (cutbox-rows.mjs): the forced cells as the released guide's own fill.sh prints them over the translation bfd457b50996079a… (all of the seat's roots in one cut). By AI agents, Wed Nov 11 2026. No macro, syntax, notation, axiom, sorry.
-/
import Derived.Test.YtibkopejnhihkaaChecked
import GoSem.Claim
import GoSem.ClaimJoined
import GoSem.ClaimMapViews
import Derived.JoinedTies
import Derived.KernelRfl
namespace Go.Proofs.Ytibkopejnhihkaa
/- THE CELL 'sum', in the pinned program and in every row, IS THE sha256 OF THE DUMP (.gsa) THAT YtibkopejnhihkaaProg.lean LOADS. Nothing in Lean hashes anything: it is a label: what it is worth is what the hold of that sum in a sandbox is worth. -/
noncomputable def Try.pinned : Pinned := { name := "ytibkopejnhihkaa", sum := "bfd457b50996079a35dd63c69c999ffa10c3b16e7846e65fc848319b6757de15", checked := Try.checked }
namespace Rows
def none {H : Type} : Left H := { results := [], args := [] }

/-- 'laws.FnExactCellCount': WHATEVER THE INPUT: true; the input reads as it did. -/
def fnExactCellCountSpec : ChangeSpec := { name := "fnExactCellCount", fn := fun _ => fun
  | [d1, d2] => { results := [.lit (.bool true)], args := [d1, d2] }
  | _ => none }
def fnExactCellCountRow : OpenClaim := { program := "ytibkopejnhihkaa", sum := "bfd457b50996079a35dd63c69c999ffa10c3b16e7846e65fc848319b6757de15", func := "loop.example/g00870/laws.FnExactCellCount", spec := "fnExactCellCount", unfollowed := true, recurses := true, apart := false }
def FnExactCellCountSaid : Prop := fnExactCellCountRow.holds Try.pinned (OpenSpec.ofChange fnExactCellCountSpec)

/-- ITS FALSE NEIGHBOUR: 'it returns false'. Refute it at one input. -/
def fnExactCellCountWrong : ChangeSpec := { name := "fnExactCellCount", fn := fun _ => fun
  | [d1, d2] => { results := [.lit (.bool false)], args := [d1, d2] }
  | _ => none }
def FnExactCellCountWrongFalsely : Prop := fnExactCellCountRow.holds Try.pinned (OpenSpec.ofChange fnExactCellCountWrong)

/-- 'laws.FnExactEulerOf': WHATEVER THE INPUT: true; the input reads as it did. -/
def fnExactEulerOfSpec : ChangeSpec := { name := "fnExactEulerOf", fn := fun _ => fun
  | [d] => { results := [.lit (.bool true)], args := [d] }
  | _ => none }
def fnExactEulerOfRow : OpenClaim := { program := "ytibkopejnhihkaa", sum := "bfd457b50996079a35dd63c69c999ffa10c3b16e7846e65fc848319b6757de15", func := "loop.example/g00870/laws.FnExactEulerOf", spec := "fnExactEulerOf", unfollowed := true, recurses := true, apart := false }
def FnExactEulerOfSaid : Prop := fnExactEulerOfRow.holds Try.pinned (OpenSpec.ofChange fnExactEulerOfSpec)

/-- ITS FALSE NEIGHBOUR: 'it returns false'. Refute it at one input. -/
def fnExactEulerOfWrong : ChangeSpec := { name := "fnExactEulerOf", fn := fun _ => fun
  | [d] => { results := [.lit (.bool false)], args := [d] }
  | _ => none }
def FnExactEulerOfWrongFalsely : Prop := fnExactEulerOfRow.holds Try.pinned (OpenSpec.ofChange fnExactEulerOfWrong)

/-- 'laws.FnExactEdgeDegrees': WHATEVER THE INPUT: true; the input reads as it did. -/
def fnExactEdgeDegreesSpec : ChangeSpec := { name := "fnExactEdgeDegrees", fn := fun _ => fun
  | [d] => { results := [.lit (.bool true)], args := [d] }
  | _ => none }
def fnExactEdgeDegreesRow : OpenClaim := { program := "ytibkopejnhihkaa", sum := "bfd457b50996079a35dd63c69c999ffa10c3b16e7846e65fc848319b6757de15", func := "loop.example/g00870/laws.FnExactEdgeDegrees", spec := "fnExactEdgeDegrees", unfollowed := true, recurses := true, apart := false }
def FnExactEdgeDegreesSaid : Prop := fnExactEdgeDegreesRow.holds Try.pinned (OpenSpec.ofChange fnExactEdgeDegreesSpec)

/-- ITS FALSE NEIGHBOUR: 'it returns false'. Refute it at one input. -/
def fnExactEdgeDegreesWrong : ChangeSpec := { name := "fnExactEdgeDegrees", fn := fun _ => fun
  | [d] => { results := [.lit (.bool false)], args := [d] }
  | _ => none }
def FnExactEdgeDegreesWrongFalsely : Prop := fnExactEdgeDegreesRow.holds Try.pinned (OpenSpec.ofChange fnExactEdgeDegreesWrong)

/-- 'laws.FnExactClassCounts': WHATEVER THE INPUT: true; the input reads as it did. -/
def fnExactClassCountsSpec : ChangeSpec := { name := "fnExactClassCounts", fn := fun _ => fun
  | [d] => { results := [.lit (.bool true)], args := [d] }
  | _ => none }
def fnExactClassCountsRow : OpenClaim := { program := "ytibkopejnhihkaa", sum := "bfd457b50996079a35dd63c69c999ffa10c3b16e7846e65fc848319b6757de15", func := "loop.example/g00870/laws.FnExactClassCounts", spec := "fnExactClassCounts", unfollowed := true, recurses := true, apart := false }
def FnExactClassCountsSaid : Prop := fnExactClassCountsRow.holds Try.pinned (OpenSpec.ofChange fnExactClassCountsSpec)

/-- ITS FALSE NEIGHBOUR: 'it returns false'. Refute it at one input. -/
def fnExactClassCountsWrong : ChangeSpec := { name := "fnExactClassCounts", fn := fun _ => fun
  | [d] => { results := [.lit (.bool false)], args := [d] }
  | _ => none }
def FnExactClassCountsWrongFalsely : Prop := fnExactClassCountsRow.holds Try.pinned (OpenSpec.ofChange fnExactClassCountsWrong)

/-- 'laws.FnExactIsReversedEdge': WHATEVER THE INPUT: true; the input reads as it did. -/
def fnExactIsReversedEdgeSpec : ChangeSpec := { name := "fnExactIsReversedEdge", fn := fun _ => fun
  | [d1, d2] => { results := [.lit (.bool true)], args := [d1, d2] }
  | _ => none }
def fnExactIsReversedEdgeRow : OpenClaim := { program := "ytibkopejnhihkaa", sum := "bfd457b50996079a35dd63c69c999ffa10c3b16e7846e65fc848319b6757de15", func := "loop.example/g00870/laws.FnExactIsReversedEdge", spec := "fnExactIsReversedEdge", unfollowed := true, recurses := true, apart := false }
def FnExactIsReversedEdgeSaid : Prop := fnExactIsReversedEdgeRow.holds Try.pinned (OpenSpec.ofChange fnExactIsReversedEdgeSpec)

/-- ITS FALSE NEIGHBOUR: 'it returns false'. Refute it at one input. -/
def fnExactIsReversedEdgeWrong : ChangeSpec := { name := "fnExactIsReversedEdge", fn := fun _ => fun
  | [d1, d2] => { results := [.lit (.bool false)], args := [d1, d2] }
  | _ => none }
def FnExactIsReversedEdgeWrongFalsely : Prop := fnExactIsReversedEdgeRow.holds Try.pinned (OpenSpec.ofChange fnExactIsReversedEdgeWrong)

/-- 'laws.FnExactEdgeSigns': WHATEVER THE INPUT: true; the input reads as it did. -/
def fnExactEdgeSignsSpec : ChangeSpec := { name := "fnExactEdgeSigns", fn := fun _ => fun
  | [d] => { results := [.lit (.bool true)], args := [d] }
  | _ => none }
def fnExactEdgeSignsRow : OpenClaim := { program := "ytibkopejnhihkaa", sum := "bfd457b50996079a35dd63c69c999ffa10c3b16e7846e65fc848319b6757de15", func := "loop.example/g00870/laws.FnExactEdgeSigns", spec := "fnExactEdgeSigns", unfollowed := true, recurses := true, apart := false }
def FnExactEdgeSignsSaid : Prop := fnExactEdgeSignsRow.holds Try.pinned (OpenSpec.ofChange fnExactEdgeSignsSpec)

/-- ITS FALSE NEIGHBOUR: 'it returns false'. Refute it at one input. -/
def fnExactEdgeSignsWrong : ChangeSpec := { name := "fnExactEdgeSigns", fn := fun _ => fun
  | [d] => { results := [.lit (.bool false)], args := [d] }
  | _ => none }
def FnExactEdgeSignsWrongFalsely : Prop := fnExactEdgeSignsRow.holds Try.pinned (OpenSpec.ofChange fnExactEdgeSignsWrong)

/-- 'laws.FnExactAngleDefect': WHATEVER THE INPUT: true; the input reads as it did. -/
def fnExactAngleDefectSpec : ChangeSpec := { name := "fnExactAngleDefect", fn := fun _ => fun
  | [d] => { results := [.lit (.bool true)], args := [d] }
  | _ => none }
def fnExactAngleDefectRow : OpenClaim := { program := "ytibkopejnhihkaa", sum := "bfd457b50996079a35dd63c69c999ffa10c3b16e7846e65fc848319b6757de15", func := "loop.example/g00870/laws.FnExactAngleDefect", spec := "fnExactAngleDefect", unfollowed := true, recurses := true, apart := false }
def FnExactAngleDefectSaid : Prop := fnExactAngleDefectRow.holds Try.pinned (OpenSpec.ofChange fnExactAngleDefectSpec)

/-- ITS FALSE NEIGHBOUR: 'it returns false'. Refute it at one input. -/
def fnExactAngleDefectWrong : ChangeSpec := { name := "fnExactAngleDefect", fn := fun _ => fun
  | [d] => { results := [.lit (.bool false)], args := [d] }
  | _ => none }
def FnExactAngleDefectWrongFalsely : Prop := fnExactAngleDefectRow.holds Try.pinned (OpenSpec.ofChange fnExactAngleDefectWrong)

/-- 'laws.FnExactSkeletonOf': WHATEVER THE INPUT: true; the input reads as it did. -/
def fnExactSkeletonOfSpec : ChangeSpec := { name := "fnExactSkeletonOf", fn := fun _ => fun
  | [d] => { results := [.lit (.bool true)], args := [d] }
  | _ => none }
def fnExactSkeletonOfRow : OpenClaim := { program := "ytibkopejnhihkaa", sum := "bfd457b50996079a35dd63c69c999ffa10c3b16e7846e65fc848319b6757de15", func := "loop.example/g00870/laws.FnExactSkeletonOf", spec := "fnExactSkeletonOf", unfollowed := true, recurses := true, apart := false }
def FnExactSkeletonOfSaid : Prop := fnExactSkeletonOfRow.holds Try.pinned (OpenSpec.ofChange fnExactSkeletonOfSpec)

/-- ITS FALSE NEIGHBOUR: 'it returns false'. Refute it at one input. -/
def fnExactSkeletonOfWrong : ChangeSpec := { name := "fnExactSkeletonOf", fn := fun _ => fun
  | [d] => { results := [.lit (.bool false)], args := [d] }
  | _ => none }
def FnExactSkeletonOfWrongFalsely : Prop := fnExactSkeletonOfRow.holds Try.pinned (OpenSpec.ofChange fnExactSkeletonOfWrong)

/-- 'laws.FnExactBoundaryClasses': WHATEVER THE INPUT: true; the input reads as it did. -/
def fnExactBoundaryClassesSpec : ChangeSpec := { name := "fnExactBoundaryClasses", fn := fun _ => fun
  | [d] => { results := [.lit (.bool true)], args := [d] }
  | _ => none }
def fnExactBoundaryClassesRow : OpenClaim := { program := "ytibkopejnhihkaa", sum := "bfd457b50996079a35dd63c69c999ffa10c3b16e7846e65fc848319b6757de15", func := "loop.example/g00870/laws.FnExactBoundaryClasses", spec := "fnExactBoundaryClasses", unfollowed := true, recurses := true, apart := false }
def FnExactBoundaryClassesSaid : Prop := fnExactBoundaryClassesRow.holds Try.pinned (OpenSpec.ofChange fnExactBoundaryClassesSpec)

/-- ITS FALSE NEIGHBOUR: 'it returns false'. Refute it at one input. -/
def fnExactBoundaryClassesWrong : ChangeSpec := { name := "fnExactBoundaryClasses", fn := fun _ => fun
  | [d] => { results := [.lit (.bool false)], args := [d] }
  | _ => none }
def FnExactBoundaryClassesWrongFalsely : Prop := fnExactBoundaryClassesRow.holds Try.pinned (OpenSpec.ofChange fnExactBoundaryClassesWrong)

/-- 'laws.FnExactOrientationPath': WHATEVER THE INPUT: true; the input reads as it did. -/
def fnExactOrientationPathSpec : ChangeSpec := { name := "fnExactOrientationPath", fn := fun _ => fun
  | [d] => { results := [.lit (.bool true)], args := [d] }
  | _ => none }
def fnExactOrientationPathRow : OpenClaim := { program := "ytibkopejnhihkaa", sum := "bfd457b50996079a35dd63c69c999ffa10c3b16e7846e65fc848319b6757de15", func := "loop.example/g00870/laws.FnExactOrientationPath", spec := "fnExactOrientationPath", unfollowed := true, recurses := true, apart := false }
def FnExactOrientationPathSaid : Prop := fnExactOrientationPathRow.holds Try.pinned (OpenSpec.ofChange fnExactOrientationPathSpec)

/-- ITS FALSE NEIGHBOUR: 'it returns false'. Refute it at one input. -/
def fnExactOrientationPathWrong : ChangeSpec := { name := "fnExactOrientationPath", fn := fun _ => fun
  | [d] => { results := [.lit (.bool false)], args := [d] }
  | _ => none }
def FnExactOrientationPathWrongFalsely : Prop := fnExactOrientationPathRow.holds Try.pinned (OpenSpec.ofChange fnExactOrientationPathWrong)

/-- 'laws.FnExactAngleMatrix': WHATEVER THE INPUT: true; the input reads as it did. -/
def fnExactAngleMatrixSpec : ChangeSpec := { name := "fnExactAngleMatrix", fn := fun _ => fun
  | [d] => { results := [.lit (.bool true)], args := [d] }
  | _ => none }
def fnExactAngleMatrixRow : OpenClaim := { program := "ytibkopejnhihkaa", sum := "bfd457b50996079a35dd63c69c999ffa10c3b16e7846e65fc848319b6757de15", func := "loop.example/g00870/laws.FnExactAngleMatrix", spec := "fnExactAngleMatrix", unfollowed := true, recurses := true, apart := false }
def FnExactAngleMatrixSaid : Prop := fnExactAngleMatrixRow.holds Try.pinned (OpenSpec.ofChange fnExactAngleMatrixSpec)

/-- ITS FALSE NEIGHBOUR: 'it returns false'. Refute it at one input. -/
def fnExactAngleMatrixWrong : ChangeSpec := { name := "fnExactAngleMatrix", fn := fun _ => fun
  | [d] => { results := [.lit (.bool false)], args := [d] }
  | _ => none }
def FnExactAngleMatrixWrongFalsely : Prop := fnExactAngleMatrixRow.holds Try.pinned (OpenSpec.ofChange fnExactAngleMatrixWrong)

/-- 'laws.FnExactEdgeRing': WHATEVER THE INPUT: true; the input reads as it did. -/
def fnExactEdgeRingSpec : ChangeSpec := { name := "fnExactEdgeRing", fn := fun _ => fun
  | [d1, d2] => { results := [.lit (.bool true)], args := [d1, d2] }
  | _ => none }
def fnExactEdgeRingRow : OpenClaim := { program := "ytibkopejnhihkaa", sum := "bfd457b50996079a35dd63c69c999ffa10c3b16e7846e65fc848319b6757de15", func := "loop.example/g00870/laws.FnExactEdgeRing", spec := "fnExactEdgeRing", unfollowed := true, recurses := true, apart := false }
def FnExactEdgeRingSaid : Prop := fnExactEdgeRingRow.holds Try.pinned (OpenSpec.ofChange fnExactEdgeRingSpec)

/-- ITS FALSE NEIGHBOUR: 'it returns false'. Refute it at one input. -/
def fnExactEdgeRingWrong : ChangeSpec := { name := "fnExactEdgeRing", fn := fun _ => fun
  | [d1, d2] => { results := [.lit (.bool false)], args := [d1, d2] }
  | _ => none }
def FnExactEdgeRingWrongFalsely : Prop := fnExactEdgeRingRow.holds Try.pinned (OpenSpec.ofChange fnExactEdgeRingWrong)

/- THE SECOND FORM. 'bulk': how many values and letters a reading holds, each counted each time it is reached (what is shared counts as often as it is met; a slice's spare places count too). A statement '..UptoSaid' is the law's where the arguments, and the package variables that the reading takes, are together of bulk at most 1048576: NARROWER than '..Said'. Prove '..Said' where nothing that the law and all that it calls make is longer than what came in: it says more and counts as full. Else prove '..UptoSaid'. A law counts once. -/
mutual
def uptoBulk {H : Type} : DataW H → Nat
  | .lit (.string bytes) => bytes.length + 1
  | .lit _ => 1
  | .nil => 1
  | .ptr d => uptoBulk d + 1
  | .slice elems spare => uptoBulkAll elems + uptoBulkAll spare + 1
  | .agg parts => uptoBulkAll parts + 1
  | .iface _ d => uptoBulk d + 1
  | .map entries => uptoBulkEntries entries + 1
  | .held _ => 1
def uptoBulkAll {H : Type} : List (DataW H) → Nat
  | [] => 0
  | d :: r => uptoBulk d + uptoBulkAll r
def uptoBulkEntries {H : Type} : List (Lit × DataW H) → Nat
  | [] => 0
  | x :: r => uptoBulkEntry x + uptoBulkEntries r
def uptoBulkEntry {H : Type} : Lit × DataW H → Nat
  | (.string bytes, d) => bytes.length + uptoBulk d + 1
  | (_, d) => uptoBulk d + 1
 end
def uptoSmall : (H : Type) → List (DataW H) → Bool := fun _ ds => decide (uptoBulkAll ds ≤ 1048576)
def OpenSpec.upto (s : _root_.Go.ChangeSpec) : _root_.Go.OpenSpec := { _root_.Go.OpenSpec.ofChange s with cond := some uptoSmall }

/-- 'laws.FnExactCellCount', WHERE WHAT IT READS IS OF BULK AT MOST 1048576: true; the input reads as it did. -/
def fnExactCellCountUptoRow : OpenClaim := { program := "ytibkopejnhihkaa", sum := "bfd457b50996079a35dd63c69c999ffa10c3b16e7846e65fc848319b6757de15", func := "loop.example/g00870/laws.FnExactCellCount", spec := "fnExactCellCount", unfollowed := true, recurses := true, apart := false, narrowed := true }
def FnExactCellCountUptoSaid : Prop := fnExactCellCountUptoRow.holds Try.pinned (OpenSpec.upto fnExactCellCountSpec)

/-- 'laws.FnExactEulerOf', WHERE WHAT IT READS IS OF BULK AT MOST 1048576: true; the input reads as it did. -/
def fnExactEulerOfUptoRow : OpenClaim := { program := "ytibkopejnhihkaa", sum := "bfd457b50996079a35dd63c69c999ffa10c3b16e7846e65fc848319b6757de15", func := "loop.example/g00870/laws.FnExactEulerOf", spec := "fnExactEulerOf", unfollowed := true, recurses := true, apart := false, narrowed := true }
def FnExactEulerOfUptoSaid : Prop := fnExactEulerOfUptoRow.holds Try.pinned (OpenSpec.upto fnExactEulerOfSpec)

/-- 'laws.FnExactEdgeDegrees', WHERE WHAT IT READS IS OF BULK AT MOST 1048576: true; the input reads as it did. -/
def fnExactEdgeDegreesUptoRow : OpenClaim := { program := "ytibkopejnhihkaa", sum := "bfd457b50996079a35dd63c69c999ffa10c3b16e7846e65fc848319b6757de15", func := "loop.example/g00870/laws.FnExactEdgeDegrees", spec := "fnExactEdgeDegrees", unfollowed := true, recurses := true, apart := false, narrowed := true }
def FnExactEdgeDegreesUptoSaid : Prop := fnExactEdgeDegreesUptoRow.holds Try.pinned (OpenSpec.upto fnExactEdgeDegreesSpec)

/-- 'laws.FnExactClassCounts', WHERE WHAT IT READS IS OF BULK AT MOST 1048576: true; the input reads as it did. -/
def fnExactClassCountsUptoRow : OpenClaim := { program := "ytibkopejnhihkaa", sum := "bfd457b50996079a35dd63c69c999ffa10c3b16e7846e65fc848319b6757de15", func := "loop.example/g00870/laws.FnExactClassCounts", spec := "fnExactClassCounts", unfollowed := true, recurses := true, apart := false, narrowed := true }
def FnExactClassCountsUptoSaid : Prop := fnExactClassCountsUptoRow.holds Try.pinned (OpenSpec.upto fnExactClassCountsSpec)

/-- 'laws.FnExactIsReversedEdge', WHERE WHAT IT READS IS OF BULK AT MOST 1048576: true; the input reads as it did. -/
def fnExactIsReversedEdgeUptoRow : OpenClaim := { program := "ytibkopejnhihkaa", sum := "bfd457b50996079a35dd63c69c999ffa10c3b16e7846e65fc848319b6757de15", func := "loop.example/g00870/laws.FnExactIsReversedEdge", spec := "fnExactIsReversedEdge", unfollowed := true, recurses := true, apart := false, narrowed := true }
def FnExactIsReversedEdgeUptoSaid : Prop := fnExactIsReversedEdgeUptoRow.holds Try.pinned (OpenSpec.upto fnExactIsReversedEdgeSpec)

/-- 'laws.FnExactEdgeSigns', WHERE WHAT IT READS IS OF BULK AT MOST 1048576: true; the input reads as it did. -/
def fnExactEdgeSignsUptoRow : OpenClaim := { program := "ytibkopejnhihkaa", sum := "bfd457b50996079a35dd63c69c999ffa10c3b16e7846e65fc848319b6757de15", func := "loop.example/g00870/laws.FnExactEdgeSigns", spec := "fnExactEdgeSigns", unfollowed := true, recurses := true, apart := false, narrowed := true }
def FnExactEdgeSignsUptoSaid : Prop := fnExactEdgeSignsUptoRow.holds Try.pinned (OpenSpec.upto fnExactEdgeSignsSpec)

/-- 'laws.FnExactAngleDefect', WHERE WHAT IT READS IS OF BULK AT MOST 1048576: true; the input reads as it did. -/
def fnExactAngleDefectUptoRow : OpenClaim := { program := "ytibkopejnhihkaa", sum := "bfd457b50996079a35dd63c69c999ffa10c3b16e7846e65fc848319b6757de15", func := "loop.example/g00870/laws.FnExactAngleDefect", spec := "fnExactAngleDefect", unfollowed := true, recurses := true, apart := false, narrowed := true }
def FnExactAngleDefectUptoSaid : Prop := fnExactAngleDefectUptoRow.holds Try.pinned (OpenSpec.upto fnExactAngleDefectSpec)

/-- 'laws.FnExactSkeletonOf', WHERE WHAT IT READS IS OF BULK AT MOST 1048576: true; the input reads as it did. -/
def fnExactSkeletonOfUptoRow : OpenClaim := { program := "ytibkopejnhihkaa", sum := "bfd457b50996079a35dd63c69c999ffa10c3b16e7846e65fc848319b6757de15", func := "loop.example/g00870/laws.FnExactSkeletonOf", spec := "fnExactSkeletonOf", unfollowed := true, recurses := true, apart := false, narrowed := true }
def FnExactSkeletonOfUptoSaid : Prop := fnExactSkeletonOfUptoRow.holds Try.pinned (OpenSpec.upto fnExactSkeletonOfSpec)

/-- 'laws.FnExactBoundaryClasses', WHERE WHAT IT READS IS OF BULK AT MOST 1048576: true; the input reads as it did. -/
def fnExactBoundaryClassesUptoRow : OpenClaim := { program := "ytibkopejnhihkaa", sum := "bfd457b50996079a35dd63c69c999ffa10c3b16e7846e65fc848319b6757de15", func := "loop.example/g00870/laws.FnExactBoundaryClasses", spec := "fnExactBoundaryClasses", unfollowed := true, recurses := true, apart := false, narrowed := true }
def FnExactBoundaryClassesUptoSaid : Prop := fnExactBoundaryClassesUptoRow.holds Try.pinned (OpenSpec.upto fnExactBoundaryClassesSpec)

/-- 'laws.FnExactOrientationPath', WHERE WHAT IT READS IS OF BULK AT MOST 1048576: true; the input reads as it did. -/
def fnExactOrientationPathUptoRow : OpenClaim := { program := "ytibkopejnhihkaa", sum := "bfd457b50996079a35dd63c69c999ffa10c3b16e7846e65fc848319b6757de15", func := "loop.example/g00870/laws.FnExactOrientationPath", spec := "fnExactOrientationPath", unfollowed := true, recurses := true, apart := false, narrowed := true }
def FnExactOrientationPathUptoSaid : Prop := fnExactOrientationPathUptoRow.holds Try.pinned (OpenSpec.upto fnExactOrientationPathSpec)

/-- 'laws.FnExactAngleMatrix', WHERE WHAT IT READS IS OF BULK AT MOST 1048576: true; the input reads as it did. -/
def fnExactAngleMatrixUptoRow : OpenClaim := { program := "ytibkopejnhihkaa", sum := "bfd457b50996079a35dd63c69c999ffa10c3b16e7846e65fc848319b6757de15", func := "loop.example/g00870/laws.FnExactAngleMatrix", spec := "fnExactAngleMatrix", unfollowed := true, recurses := true, apart := false, narrowed := true }
def FnExactAngleMatrixUptoSaid : Prop := fnExactAngleMatrixUptoRow.holds Try.pinned (OpenSpec.upto fnExactAngleMatrixSpec)

/-- 'laws.FnExactEdgeRing', WHERE WHAT IT READS IS OF BULK AT MOST 1048576: true; the input reads as it did. -/
def fnExactEdgeRingUptoRow : OpenClaim := { program := "ytibkopejnhihkaa", sum := "bfd457b50996079a35dd63c69c999ffa10c3b16e7846e65fc848319b6757de15", func := "loop.example/g00870/laws.FnExactEdgeRing", spec := "fnExactEdgeRing", unfollowed := true, recurses := true, apart := false, narrowed := true }
def FnExactEdgeRingUptoSaid : Prop := fnExactEdgeRingUptoRow.holds Try.pinned (OpenSpec.upto fnExactEdgeRingSpec)

end Rows
end Go.Proofs.Ytibkopejnhihkaa
