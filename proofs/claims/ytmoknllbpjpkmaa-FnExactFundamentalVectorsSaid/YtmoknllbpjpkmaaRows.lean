/-
  No cell of these rows narrows 'for every input' (looked for: loops, veiled, ifaces, maps, wideKeys, modest, calm, conditions, laid).
  DERIVED. THE GIVEN ROWS OF THIS SEAT. 10 by the template 'for every input the law returns true; each argument reads behind the call as it read before'; 0 by the template 'total and deterministic' (their statements: YtmoknllbpjpkmaaTotals.lean).
  GIVEN WITH THE SEED: the statements are not yours to turn. If you find one false, say at which input.
  Laid BY PROGRAM, IN A SANDBOX (cutbox-rows.mjs): the forced cells as the released guide's own fill.sh prints them over the translation b5df2ea21b21a73f… (all of the seat's roots in one cut). By AI agents, Wed Nov 11 2026. No macro, syntax, notation, axiom, sorry.
-/
import Derived.Test.YtmoknllbpjpkmaaChecked
import GoSem.Claim
import GoSem.ClaimJoined
import GoSem.ClaimMapViews
import Derived.JoinedTies
import Derived.KernelRfl
namespace Go.Proofs.Ytmoknllbpjpkmaa
/- THE CELL 'sum', in the pinned program and in every row, IS THE sha256 OF THE DUMP (.gsa) THAT YtmoknllbpjpkmaaProg.lean LOADS. Nothing in Lean hashes anything: it is a label: what it is worth is what the hold of that sum in a sandbox is worth. -/
noncomputable def Try.pinned : Pinned := { name := "ytmoknllbpjpkmaa", sum := "b5df2ea21b21a73f6cea8006b44786091504b55e20f5998b26d010fcedd22ef0", checked := Try.checked }
namespace Rows
def none {H : Type} : Left H := { results := [], args := [] }

/-- 'laws.FnExactIsFundamental': WHATEVER THE INPUT: true; the input reads as it did. -/
def fnExactIsFundamentalSpec : ChangeSpec := { name := "fnExactIsFundamental", fn := fun _ => fun
  | [d1, d2] => { results := [.lit (.bool true)], args := [d1, d2] }
  | _ => none }
def fnExactIsFundamentalRow : OpenClaim := { program := "ytmoknllbpjpkmaa", sum := "b5df2ea21b21a73f6cea8006b44786091504b55e20f5998b26d010fcedd22ef0", func := "loop.example/g00870/laws.FnExactIsFundamental", spec := "fnExactIsFundamental", unfollowed := true, recurses := true, apart := false }
def FnExactIsFundamentalSaid : Prop := fnExactIsFundamentalRow.holds Try.pinned (OpenSpec.ofChange fnExactIsFundamentalSpec)

/-- ITS FALSE NEIGHBOUR: 'it returns false'. Refute it at one input. -/
def fnExactIsFundamentalWrong : ChangeSpec := { name := "fnExactIsFundamental", fn := fun _ => fun
  | [d1, d2] => { results := [.lit (.bool false)], args := [d1, d2] }
  | _ => none }
def FnExactIsFundamentalWrongFalsely : Prop := fnExactIsFundamentalRow.holds Try.pinned (OpenSpec.ofChange fnExactIsFundamentalWrong)

/-- 'laws.FnExactBoundaryArcs': WHATEVER THE INPUT: true; the input reads as it did. -/
def fnExactBoundaryArcsSpec : ChangeSpec := { name := "fnExactBoundaryArcs", fn := fun _ => fun
  | [d1, d2] => { results := [.lit (.bool true)], args := [d1, d2] }
  | _ => none }
def fnExactBoundaryArcsRow : OpenClaim := { program := "ytmoknllbpjpkmaa", sum := "b5df2ea21b21a73f6cea8006b44786091504b55e20f5998b26d010fcedd22ef0", func := "loop.example/g00870/laws.FnExactBoundaryArcs", spec := "fnExactBoundaryArcs", unfollowed := true, recurses := true, apart := false }
def FnExactBoundaryArcsSaid : Prop := fnExactBoundaryArcsRow.holds Try.pinned (OpenSpec.ofChange fnExactBoundaryArcsSpec)

/-- ITS FALSE NEIGHBOUR: 'it returns false'. Refute it at one input. -/
def fnExactBoundaryArcsWrong : ChangeSpec := { name := "fnExactBoundaryArcs", fn := fun _ => fun
  | [d1, d2] => { results := [.lit (.bool false)], args := [d1, d2] }
  | _ => none }
def FnExactBoundaryArcsWrongFalsely : Prop := fnExactBoundaryArcsRow.holds Try.pinned (OpenSpec.ofChange fnExactBoundaryArcsWrong)

/-- 'laws.FnExactEdgeWeights': WHATEVER THE INPUT: true; the input reads as it did. -/
def fnExactEdgeWeightsSpec : ChangeSpec := { name := "fnExactEdgeWeights", fn := fun _ => fun
  | [d1, d2] => { results := [.lit (.bool true)], args := [d1, d2] }
  | _ => none }
def fnExactEdgeWeightsRow : OpenClaim := { program := "ytmoknllbpjpkmaa", sum := "b5df2ea21b21a73f6cea8006b44786091504b55e20f5998b26d010fcedd22ef0", func := "loop.example/g00870/laws.FnExactEdgeWeights", spec := "fnExactEdgeWeights", unfollowed := true, recurses := true, apart := false }
def FnExactEdgeWeightsSaid : Prop := fnExactEdgeWeightsRow.holds Try.pinned (OpenSpec.ofChange fnExactEdgeWeightsSpec)

/-- ITS FALSE NEIGHBOUR: 'it returns false'. Refute it at one input. -/
def fnExactEdgeWeightsWrong : ChangeSpec := { name := "fnExactEdgeWeights", fn := fun _ => fun
  | [d1, d2] => { results := [.lit (.bool false)], args := [d1, d2] }
  | _ => none }
def FnExactEdgeWeightsWrongFalsely : Prop := fnExactEdgeWeightsRow.holds Try.pinned (OpenSpec.ofChange fnExactEdgeWeightsWrong)

/-- 'laws.FnExactIsAngles': WHATEVER THE INPUT: true; the input reads as it did. -/
def fnExactIsAnglesSpec : ChangeSpec := { name := "fnExactIsAngles", fn := fun _ => fun
  | [d1, d2] => { results := [.lit (.bool true)], args := [d1, d2] }
  | _ => none }
def fnExactIsAnglesRow : OpenClaim := { program := "ytmoknllbpjpkmaa", sum := "b5df2ea21b21a73f6cea8006b44786091504b55e20f5998b26d010fcedd22ef0", func := "loop.example/g00870/laws.FnExactIsAngles", spec := "fnExactIsAngles", unfollowed := true, recurses := true, apart := false }
def FnExactIsAnglesSaid : Prop := fnExactIsAnglesRow.holds Try.pinned (OpenSpec.ofChange fnExactIsAnglesSpec)

/-- ITS FALSE NEIGHBOUR: 'it returns false'. Refute it at one input. -/
def fnExactIsAnglesWrong : ChangeSpec := { name := "fnExactIsAngles", fn := fun _ => fun
  | [d1, d2] => { results := [.lit (.bool false)], args := [d1, d2] }
  | _ => none }
def FnExactIsAnglesWrongFalsely : Prop := fnExactIsAnglesRow.holds Try.pinned (OpenSpec.ofChange fnExactIsAnglesWrong)

/-- 'laws.FnExactIsStrict': WHATEVER THE INPUT: true; the input reads as it did. -/
def fnExactIsStrictSpec : ChangeSpec := { name := "fnExactIsStrict", fn := fun _ => fun
  | [d1, d2] => { results := [.lit (.bool true)], args := [d1, d2] }
  | _ => none }
def fnExactIsStrictRow : OpenClaim := { program := "ytmoknllbpjpkmaa", sum := "b5df2ea21b21a73f6cea8006b44786091504b55e20f5998b26d010fcedd22ef0", func := "loop.example/g00870/laws.FnExactIsStrict", spec := "fnExactIsStrict", unfollowed := true, recurses := true, apart := false }
def FnExactIsStrictSaid : Prop := fnExactIsStrictRow.holds Try.pinned (OpenSpec.ofChange fnExactIsStrictSpec)

/-- ITS FALSE NEIGHBOUR: 'it returns false'. Refute it at one input. -/
def fnExactIsStrictWrong : ChangeSpec := { name := "fnExactIsStrict", fn := fun _ => fun
  | [d1, d2] => { results := [.lit (.bool false)], args := [d1, d2] }
  | _ => none }
def FnExactIsStrictWrongFalsely : Prop := fnExactIsStrictRow.holds Try.pinned (OpenSpec.ofChange fnExactIsStrictWrong)

/-- 'laws.FnExactPartsOf': WHATEVER THE INPUT: true; the input reads as it did. -/
def fnExactPartsOfSpec : ChangeSpec := { name := "fnExactPartsOf", fn := fun _ => fun
  | [d1, d2] => { results := [.lit (.bool true)], args := [d1, d2] }
  | _ => none }
def fnExactPartsOfRow : OpenClaim := { program := "ytmoknllbpjpkmaa", sum := "b5df2ea21b21a73f6cea8006b44786091504b55e20f5998b26d010fcedd22ef0", func := "loop.example/g00870/laws.FnExactPartsOf", spec := "fnExactPartsOf", unfollowed := true, recurses := true, apart := false }
def FnExactPartsOfSaid : Prop := fnExactPartsOfRow.holds Try.pinned (OpenSpec.ofChange fnExactPartsOfSpec)

/-- ITS FALSE NEIGHBOUR: 'it returns false'. Refute it at one input. -/
def fnExactPartsOfWrong : ChangeSpec := { name := "fnExactPartsOf", fn := fun _ => fun
  | [d1, d2] => { results := [.lit (.bool false)], args := [d1, d2] }
  | _ => none }
def FnExactPartsOfWrongFalsely : Prop := fnExactPartsOfRow.holds Try.pinned (OpenSpec.ofChange fnExactPartsOfWrong)

/-- 'laws.FnExactFirstSplit': WHATEVER THE INPUT: true; the input reads as it did. -/
def fnExactFirstSplitSpec : ChangeSpec := { name := "fnExactFirstSplit", fn := fun _ => fun
  | [d1, d2] => { results := [.lit (.bool true)], args := [d1, d2] }
  | _ => none }
def fnExactFirstSplitRow : OpenClaim := { program := "ytmoknllbpjpkmaa", sum := "b5df2ea21b21a73f6cea8006b44786091504b55e20f5998b26d010fcedd22ef0", func := "loop.example/g00870/laws.FnExactFirstSplit", spec := "fnExactFirstSplit", unfollowed := true, recurses := true, apart := false }
def FnExactFirstSplitSaid : Prop := fnExactFirstSplitRow.holds Try.pinned (OpenSpec.ofChange fnExactFirstSplitSpec)

/-- ITS FALSE NEIGHBOUR: 'it returns false'. Refute it at one input. -/
def fnExactFirstSplitWrong : ChangeSpec := { name := "fnExactFirstSplit", fn := fun _ => fun
  | [d1, d2] => { results := [.lit (.bool false)], args := [d1, d2] }
  | _ => none }
def FnExactFirstSplitWrongFalsely : Prop := fnExactFirstSplitRow.holds Try.pinned (OpenSpec.ofChange fnExactFirstSplitWrong)

/-- 'laws.FnExactFundamentalVectors': WHATEVER THE INPUT: true; the input reads as it did. -/
def fnExactFundamentalVectorsSpec : ChangeSpec := { name := "fnExactFundamentalVectors", fn := fun _ => fun
  | [d1, d2] => { results := [.lit (.bool true)], args := [d1, d2] }
  | _ => none }
def fnExactFundamentalVectorsRow : OpenClaim := { program := "ytmoknllbpjpkmaa", sum := "b5df2ea21b21a73f6cea8006b44786091504b55e20f5998b26d010fcedd22ef0", func := "loop.example/g00870/laws.FnExactFundamentalVectors", spec := "fnExactFundamentalVectors", unfollowed := true, recurses := true, apart := false }
def FnExactFundamentalVectorsSaid : Prop := fnExactFundamentalVectorsRow.holds Try.pinned (OpenSpec.ofChange fnExactFundamentalVectorsSpec)

/-- ITS FALSE NEIGHBOUR: 'it returns false'. Refute it at one input. -/
def fnExactFundamentalVectorsWrong : ChangeSpec := { name := "fnExactFundamentalVectors", fn := fun _ => fun
  | [d1, d2] => { results := [.lit (.bool false)], args := [d1, d2] }
  | _ => none }
def FnExactFundamentalVectorsWrongFalsely : Prop := fnExactFundamentalVectorsRow.holds Try.pinned (OpenSpec.ofChange fnExactFundamentalVectorsWrong)

/-- 'laws.FnExactTautAngles': WHATEVER THE INPUT: true; the input reads as it did. -/
def fnExactTautAnglesSpec : ChangeSpec := { name := "fnExactTautAngles", fn := fun _ => fun
  | [d1, d2] => { results := [.lit (.bool true)], args := [d1, d2] }
  | _ => none }
def fnExactTautAnglesRow : OpenClaim := { program := "ytmoknllbpjpkmaa", sum := "b5df2ea21b21a73f6cea8006b44786091504b55e20f5998b26d010fcedd22ef0", func := "loop.example/g00870/laws.FnExactTautAngles", spec := "fnExactTautAngles", unfollowed := true, recurses := true, apart := false }
def FnExactTautAnglesSaid : Prop := fnExactTautAnglesRow.holds Try.pinned (OpenSpec.ofChange fnExactTautAnglesSpec)

/-- ITS FALSE NEIGHBOUR: 'it returns false'. Refute it at one input. -/
def fnExactTautAnglesWrong : ChangeSpec := { name := "fnExactTautAngles", fn := fun _ => fun
  | [d1, d2] => { results := [.lit (.bool false)], args := [d1, d2] }
  | _ => none }
def FnExactTautAnglesWrongFalsely : Prop := fnExactTautAnglesRow.holds Try.pinned (OpenSpec.ofChange fnExactTautAnglesWrong)

/-- 'laws.FnExactTautChoices': WHATEVER THE INPUT: true; the input reads as it did. -/
def fnExactTautChoicesSpec : ChangeSpec := { name := "fnExactTautChoices", fn := fun _ => fun
  | [d] => { results := [.lit (.bool true)], args := [d] }
  | _ => none }
def fnExactTautChoicesRow : OpenClaim := { program := "ytmoknllbpjpkmaa", sum := "b5df2ea21b21a73f6cea8006b44786091504b55e20f5998b26d010fcedd22ef0", func := "loop.example/g00870/laws.FnExactTautChoices", spec := "fnExactTautChoices", unfollowed := true, recurses := true, apart := false }
def FnExactTautChoicesSaid : Prop := fnExactTautChoicesRow.holds Try.pinned (OpenSpec.ofChange fnExactTautChoicesSpec)

/-- ITS FALSE NEIGHBOUR: 'it returns false'. Refute it at one input. -/
def fnExactTautChoicesWrong : ChangeSpec := { name := "fnExactTautChoices", fn := fun _ => fun
  | [d] => { results := [.lit (.bool false)], args := [d] }
  | _ => none }
def FnExactTautChoicesWrongFalsely : Prop := fnExactTautChoicesRow.holds Try.pinned (OpenSpec.ofChange fnExactTautChoicesWrong)

/- THE SECOND FORM. 'bulk': how many values and letters a reading holds, each counted each time it is reached (what is shared counts as often as it is met; a slice's spare places count too). A statement '..UptoSaid' is the law's where the arguments, and the package variables that the reading takes, are together of bulk at most 1048576: NARROWER than '..Said'. Prove '..Said' where nothing that the law and all that it calls make is longer than what came in: it says more and counts as full. Else prove '..UptoSaid'. A law counts once. -/
mutual
def uptoBulk {H : Type} : DataW H → Nat
  | .lit (.string bytes) => bytes.length + 1
  | .lit _ => 1
  | .nil => 1
  | .ptr d => uptoBulk d + 1
  | .slice elems spare => uptoBulkAll elems + uptoBulkAll spare + 1
  | .agg parts => uptoBulkAll parts + 1
  | .iface _ d => uptoBulk d + 1
  | .map entries => uptoBulkEntries entries + 1
  | .held _ => 1
def uptoBulkAll {H : Type} : List (DataW H) → Nat
  | [] => 0
  | d :: r => uptoBulk d + uptoBulkAll r
def uptoBulkEntries {H : Type} : List (Lit × DataW H) → Nat
  | [] => 0
  | x :: r => uptoBulkEntry x + uptoBulkEntries r
def uptoBulkEntry {H : Type} : Lit × DataW H → Nat
  | (.string bytes, d) => bytes.length + uptoBulk d + 1
  | (_, d) => uptoBulk d + 1
 end
def uptoSmall : (H : Type) → List (DataW H) → Bool := fun _ ds => decide (uptoBulkAll ds ≤ 1048576)
def OpenSpec.upto (s : _root_.Go.ChangeSpec) : _root_.Go.OpenSpec := { _root_.Go.OpenSpec.ofChange s with cond := some uptoSmall }

/-- 'laws.FnExactIsFundamental', WHERE WHAT IT READS IS OF BULK AT MOST 1048576: true; the input reads as it did. -/
def fnExactIsFundamentalUptoRow : OpenClaim := { program := "ytmoknllbpjpkmaa", sum := "b5df2ea21b21a73f6cea8006b44786091504b55e20f5998b26d010fcedd22ef0", func := "loop.example/g00870/laws.FnExactIsFundamental", spec := "fnExactIsFundamental", unfollowed := true, recurses := true, apart := false, narrowed := true }
def FnExactIsFundamentalUptoSaid : Prop := fnExactIsFundamentalUptoRow.holds Try.pinned (OpenSpec.upto fnExactIsFundamentalSpec)

/-- 'laws.FnExactBoundaryArcs', WHERE WHAT IT READS IS OF BULK AT MOST 1048576: true; the input reads as it did. -/
def fnExactBoundaryArcsUptoRow : OpenClaim := { program := "ytmoknllbpjpkmaa", sum := "b5df2ea21b21a73f6cea8006b44786091504b55e20f5998b26d010fcedd22ef0", func := "loop.example/g00870/laws.FnExactBoundaryArcs", spec := "fnExactBoundaryArcs", unfollowed := true, recurses := true, apart := false, narrowed := true }
def FnExactBoundaryArcsUptoSaid : Prop := fnExactBoundaryArcsUptoRow.holds Try.pinned (OpenSpec.upto fnExactBoundaryArcsSpec)

/-- 'laws.FnExactEdgeWeights', WHERE WHAT IT READS IS OF BULK AT MOST 1048576: true; the input reads as it did. -/
def fnExactEdgeWeightsUptoRow : OpenClaim := { program := "ytmoknllbpjpkmaa", sum := "b5df2ea21b21a73f6cea8006b44786091504b55e20f5998b26d010fcedd22ef0", func := "loop.example/g00870/laws.FnExactEdgeWeights", spec := "fnExactEdgeWeights", unfollowed := true, recurses := true, apart := false, narrowed := true }
def FnExactEdgeWeightsUptoSaid : Prop := fnExactEdgeWeightsUptoRow.holds Try.pinned (OpenSpec.upto fnExactEdgeWeightsSpec)

/-- 'laws.FnExactIsAngles', WHERE WHAT IT READS IS OF BULK AT MOST 1048576: true; the input reads as it did. -/
def fnExactIsAnglesUptoRow : OpenClaim := { program := "ytmoknllbpjpkmaa", sum := "b5df2ea21b21a73f6cea8006b44786091504b55e20f5998b26d010fcedd22ef0", func := "loop.example/g00870/laws.FnExactIsAngles", spec := "fnExactIsAngles", unfollowed := true, recurses := true, apart := false, narrowed := true }
def FnExactIsAnglesUptoSaid : Prop := fnExactIsAnglesUptoRow.holds Try.pinned (OpenSpec.upto fnExactIsAnglesSpec)

/-- 'laws.FnExactIsStrict', WHERE WHAT IT READS IS OF BULK AT MOST 1048576: true; the input reads as it did. -/
def fnExactIsStrictUptoRow : OpenClaim := { program := "ytmoknllbpjpkmaa", sum := "b5df2ea21b21a73f6cea8006b44786091504b55e20f5998b26d010fcedd22ef0", func := "loop.example/g00870/laws.FnExactIsStrict", spec := "fnExactIsStrict", unfollowed := true, recurses := true, apart := false, narrowed := true }
def FnExactIsStrictUptoSaid : Prop := fnExactIsStrictUptoRow.holds Try.pinned (OpenSpec.upto fnExactIsStrictSpec)

/-- 'laws.FnExactPartsOf', WHERE WHAT IT READS IS OF BULK AT MOST 1048576: true; the input reads as it did. -/
def fnExactPartsOfUptoRow : OpenClaim := { program := "ytmoknllbpjpkmaa", sum := "b5df2ea21b21a73f6cea8006b44786091504b55e20f5998b26d010fcedd22ef0", func := "loop.example/g00870/laws.FnExactPartsOf", spec := "fnExactPartsOf", unfollowed := true, recurses := true, apart := false, narrowed := true }
def FnExactPartsOfUptoSaid : Prop := fnExactPartsOfUptoRow.holds Try.pinned (OpenSpec.upto fnExactPartsOfSpec)

/-- 'laws.FnExactFirstSplit', WHERE WHAT IT READS IS OF BULK AT MOST 1048576: true; the input reads as it did. -/
def fnExactFirstSplitUptoRow : OpenClaim := { program := "ytmoknllbpjpkmaa", sum := "b5df2ea21b21a73f6cea8006b44786091504b55e20f5998b26d010fcedd22ef0", func := "loop.example/g00870/laws.FnExactFirstSplit", spec := "fnExactFirstSplit", unfollowed := true, recurses := true, apart := false, narrowed := true }
def FnExactFirstSplitUptoSaid : Prop := fnExactFirstSplitUptoRow.holds Try.pinned (OpenSpec.upto fnExactFirstSplitSpec)

/-- 'laws.FnExactFundamentalVectors', WHERE WHAT IT READS IS OF BULK AT MOST 1048576: true; the input reads as it did. -/
def fnExactFundamentalVectorsUptoRow : OpenClaim := { program := "ytmoknllbpjpkmaa", sum := "b5df2ea21b21a73f6cea8006b44786091504b55e20f5998b26d010fcedd22ef0", func := "loop.example/g00870/laws.FnExactFundamentalVectors", spec := "fnExactFundamentalVectors", unfollowed := true, recurses := true, apart := false, narrowed := true }
def FnExactFundamentalVectorsUptoSaid : Prop := fnExactFundamentalVectorsUptoRow.holds Try.pinned (OpenSpec.upto fnExactFundamentalVectorsSpec)

/-- 'laws.FnExactTautAngles', WHERE WHAT IT READS IS OF BULK AT MOST 1048576: true; the input reads as it did. -/
def fnExactTautAnglesUptoRow : OpenClaim := { program := "ytmoknllbpjpkmaa", sum := "b5df2ea21b21a73f6cea8006b44786091504b55e20f5998b26d010fcedd22ef0", func := "loop.example/g00870/laws.FnExactTautAngles", spec := "fnExactTautAngles", unfollowed := true, recurses := true, apart := false, narrowed := true }
def FnExactTautAnglesUptoSaid : Prop := fnExactTautAnglesUptoRow.holds Try.pinned (OpenSpec.upto fnExactTautAnglesSpec)

/-- 'laws.FnExactTautChoices', WHERE WHAT IT READS IS OF BULK AT MOST 1048576: true; the input reads as it did. -/
def fnExactTautChoicesUptoRow : OpenClaim := { program := "ytmoknllbpjpkmaa", sum := "b5df2ea21b21a73f6cea8006b44786091504b55e20f5998b26d010fcedd22ef0", func := "loop.example/g00870/laws.FnExactTautChoices", spec := "fnExactTautChoices", unfollowed := true, recurses := true, apart := false, narrowed := true }
def FnExactTautChoicesUptoSaid : Prop := fnExactTautChoicesUptoRow.holds Try.pinned (OpenSpec.upto fnExactTautChoicesSpec)

end Rows
end Go.Proofs.Ytmoknllbpjpkmaa
