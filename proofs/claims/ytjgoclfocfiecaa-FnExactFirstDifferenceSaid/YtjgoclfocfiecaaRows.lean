/-
  No cell of these rows narrows 'for every input' (looked for: loops, veiled, ifaces, maps, wideKeys, modest, calm, conditions, laid).
  DERIVED. THE GIVEN ROWS OF THIS SEAT. 4 by the template 'for every input the law returns true; each argument reads behind the call as it read before'; 0 by the template 'total and deterministic' (their statements: YtjgoclfocfiecaaTotals.lean).
  GIVEN WITH THE SEED: the statements are not yours to turn. If you find one false, say at which input.
  Laid BY PROGRAM, IN A SANDBOX (cutbox-rows.mjs): the forced cells as the released guide's own fill.sh prints them over the translation 7435bcfec6f1451c… (all of the seat's roots in one cut). By AI agents, Wed Nov 11 2026. No macro, syntax, notation, axiom, sorry.
-/
import Derived.Test.YtjgoclfocfiecaaChecked
import GoSem.Claim
import GoSem.ClaimJoined
import GoSem.ClaimMapViews
import Derived.JoinedTies
import Derived.KernelRfl
namespace Go.Proofs.Ytjgoclfocfiecaa
/- THE CELL 'sum', in the pinned program and in every row, IS THE sha256 OF THE DUMP (.gsa) THAT YtjgoclfocfiecaaProg.lean LOADS. Nothing in Lean hashes anything: it is a label: what it is worth is what the hold of that sum in a sandbox is worth. -/
noncomputable def Try.pinned : Pinned := { name := "ytjgoclfocfiecaa", sum := "7435bcfec6f1451cabace2a6ed88c9505b3a432a88be6927beca6d066cf1f6d2", checked := Try.checked }
namespace Rows
def none {H : Type} : Left H := { results := [], args := [] }

/-- 'laws.FnExactOppositeEdge': WHATEVER THE INPUT: true; the input reads as it did. -/
def fnExactOppositeEdgeSpec : ChangeSpec := { name := "fnExactOppositeEdge", fn := fun _ => fun
  | [d] => { results := [.lit (.bool true)], args := [d] }
  | _ => none }
def fnExactOppositeEdgeRow : OpenClaim := { program := "ytjgoclfocfiecaa", sum := "7435bcfec6f1451cabace2a6ed88c9505b3a432a88be6927beca6d066cf1f6d2", func := "loop.example/g00870/laws.FnExactOppositeEdge", spec := "fnExactOppositeEdge", apart := false }
def FnExactOppositeEdgeSaid : Prop := fnExactOppositeEdgeRow.holds Try.pinned (OpenSpec.ofChange fnExactOppositeEdgeSpec)

/-- ITS FALSE NEIGHBOUR: 'it returns false'. Refute it at one input. -/
def fnExactOppositeEdgeWrong : ChangeSpec := { name := "fnExactOppositeEdge", fn := fun _ => fun
  | [d] => { results := [.lit (.bool false)], args := [d] }
  | _ => none }
def FnExactOppositeEdgeWrongFalsely : Prop := fnExactOppositeEdgeRow.holds Try.pinned (OpenSpec.ofChange fnExactOppositeEdgeWrong)

/-- 'laws.FnExactEdgeEnds': WHATEVER THE INPUT: true; the input reads as it did. -/
def fnExactEdgeEndsSpec : ChangeSpec := { name := "fnExactEdgeEnds", fn := fun _ => fun
  | [d] => { results := [.lit (.bool true)], args := [d] }
  | _ => none }
def fnExactEdgeEndsRow : OpenClaim := { program := "ytjgoclfocfiecaa", sum := "7435bcfec6f1451cabace2a6ed88c9505b3a432a88be6927beca6d066cf1f6d2", func := "loop.example/g00870/laws.FnExactEdgeEnds", spec := "fnExactEdgeEnds", apart := false }
def FnExactEdgeEndsSaid : Prop := fnExactEdgeEndsRow.holds Try.pinned (OpenSpec.ofChange fnExactEdgeEndsSpec)

/-- ITS FALSE NEIGHBOUR: 'it returns false'. Refute it at one input. -/
def fnExactEdgeEndsWrong : ChangeSpec := { name := "fnExactEdgeEnds", fn := fun _ => fun
  | [d] => { results := [.lit (.bool false)], args := [d] }
  | _ => none }
def FnExactEdgeEndsWrongFalsely : Prop := fnExactEdgeEndsRow.holds Try.pinned (OpenSpec.ofChange fnExactEdgeEndsWrong)

/-- 'laws.FnExactFirstDifference': WHATEVER THE INPUT: true; the input reads as it did. -/
def fnExactFirstDifferenceSpec : ChangeSpec := { name := "fnExactFirstDifference", fn := fun _ => fun
  | [d1, d2] => { results := [.lit (.bool true)], args := [d1, d2] }
  | _ => none }
def fnExactFirstDifferenceRow : OpenClaim := { program := "ytjgoclfocfiecaa", sum := "7435bcfec6f1451cabace2a6ed88c9505b3a432a88be6927beca6d066cf1f6d2", func := "loop.example/g00870/laws.FnExactFirstDifference", spec := "fnExactFirstDifference", apart := false }
def FnExactFirstDifferenceSaid : Prop := fnExactFirstDifferenceRow.holds Try.pinned (OpenSpec.ofChange fnExactFirstDifferenceSpec)

/-- ITS FALSE NEIGHBOUR: 'it returns false'. Refute it at one input. -/
def fnExactFirstDifferenceWrong : ChangeSpec := { name := "fnExactFirstDifference", fn := fun _ => fun
  | [d1, d2] => { results := [.lit (.bool false)], args := [d1, d2] }
  | _ => none }
def FnExactFirstDifferenceWrongFalsely : Prop := fnExactFirstDifferenceRow.holds Try.pinned (OpenSpec.ofChange fnExactFirstDifferenceWrong)

/-- 'laws.FnLaurentRing': WHATEVER THE INPUT: true; the input reads as it did. -/
def fnLaurentRingSpec : ChangeSpec := { name := "fnLaurentRing", fn := fun _ => fun
  | [d] => { results := [.lit (.bool true)], args := [d] }
  | _ => none }
def fnLaurentRingRow : OpenClaim := { program := "ytjgoclfocfiecaa", sum := "7435bcfec6f1451cabace2a6ed88c9505b3a432a88be6927beca6d066cf1f6d2", func := "loop.example/g00870/laws.FnLaurentRing", spec := "fnLaurentRing", unfollowed := true, recurses := true, apart := false }
def FnLaurentRingSaid : Prop := fnLaurentRingRow.holds Try.pinned (OpenSpec.ofChange fnLaurentRingSpec)

/-- ITS FALSE NEIGHBOUR: 'it returns false'. Refute it at one input. -/
def fnLaurentRingWrong : ChangeSpec := { name := "fnLaurentRing", fn := fun _ => fun
  | [d] => { results := [.lit (.bool false)], args := [d] }
  | _ => none }
def FnLaurentRingWrongFalsely : Prop := fnLaurentRingRow.holds Try.pinned (OpenSpec.ofChange fnLaurentRingWrong)

/- THE SECOND FORM. 'bulk': how many values and letters a reading holds, each counted each time it is reached (what is shared counts as often as it is met; a slice's spare places count too). A statement '..UptoSaid' is the law's where the arguments, and the package variables that the reading takes, are together of bulk at most 1048576: NARROWER than '..Said'. Prove '..Said' where nothing that the law and all that it calls make is longer than what came in: it says more and counts as full. Else prove '..UptoSaid'. A law counts once. -/
mutual
def uptoBulk {H : Type} : DataW H → Nat
  | .lit (.string bytes) => bytes.length + 1
  | .lit _ => 1
  | .nil => 1
  | .ptr d => uptoBulk d + 1
  | .slice elems spare => uptoBulkAll elems + uptoBulkAll spare + 1
  | .agg parts => uptoBulkAll parts + 1
  | .iface _ d => uptoBulk d + 1
  | .map entries => uptoBulkEntries entries + 1
  | .held _ => 1
def uptoBulkAll {H : Type} : List (DataW H) → Nat
  | [] => 0
  | d :: r => uptoBulk d + uptoBulkAll r
def uptoBulkEntries {H : Type} : List (Lit × DataW H) → Nat
  | [] => 0
  | x :: r => uptoBulkEntry x + uptoBulkEntries r
def uptoBulkEntry {H : Type} : Lit × DataW H → Nat
  | (.string bytes, d) => bytes.length + uptoBulk d + 1
  | (_, d) => uptoBulk d + 1
 end
def uptoSmall : (H : Type) → List (DataW H) → Bool := fun _ ds => decide (uptoBulkAll ds ≤ 1048576)
def OpenSpec.upto (s : _root_.Go.ChangeSpec) : _root_.Go.OpenSpec := { _root_.Go.OpenSpec.ofChange s with cond := some uptoSmall }

/-- 'laws.FnExactOppositeEdge', WHERE WHAT IT READS IS OF BULK AT MOST 1048576: true; the input reads as it did. -/
def fnExactOppositeEdgeUptoRow : OpenClaim := { program := "ytjgoclfocfiecaa", sum := "7435bcfec6f1451cabace2a6ed88c9505b3a432a88be6927beca6d066cf1f6d2", func := "loop.example/g00870/laws.FnExactOppositeEdge", spec := "fnExactOppositeEdge", apart := false, narrowed := true }
def FnExactOppositeEdgeUptoSaid : Prop := fnExactOppositeEdgeUptoRow.holds Try.pinned (OpenSpec.upto fnExactOppositeEdgeSpec)

/-- 'laws.FnExactEdgeEnds', WHERE WHAT IT READS IS OF BULK AT MOST 1048576: true; the input reads as it did. -/
def fnExactEdgeEndsUptoRow : OpenClaim := { program := "ytjgoclfocfiecaa", sum := "7435bcfec6f1451cabace2a6ed88c9505b3a432a88be6927beca6d066cf1f6d2", func := "loop.example/g00870/laws.FnExactEdgeEnds", spec := "fnExactEdgeEnds", apart := false, narrowed := true }
def FnExactEdgeEndsUptoSaid : Prop := fnExactEdgeEndsUptoRow.holds Try.pinned (OpenSpec.upto fnExactEdgeEndsSpec)

/-- 'laws.FnExactFirstDifference', WHERE WHAT IT READS IS OF BULK AT MOST 1048576: true; the input reads as it did. -/
def fnExactFirstDifferenceUptoRow : OpenClaim := { program := "ytjgoclfocfiecaa", sum := "7435bcfec6f1451cabace2a6ed88c9505b3a432a88be6927beca6d066cf1f6d2", func := "loop.example/g00870/laws.FnExactFirstDifference", spec := "fnExactFirstDifference", apart := false, narrowed := true }
def FnExactFirstDifferenceUptoSaid : Prop := fnExactFirstDifferenceUptoRow.holds Try.pinned (OpenSpec.upto fnExactFirstDifferenceSpec)

/-- 'laws.FnLaurentRing', WHERE WHAT IT READS IS OF BULK AT MOST 1048576: true; the input reads as it did. -/
def fnLaurentRingUptoRow : OpenClaim := { program := "ytjgoclfocfiecaa", sum := "7435bcfec6f1451cabace2a6ed88c9505b3a432a88be6927beca6d066cf1f6d2", func := "loop.example/g00870/laws.FnLaurentRing", spec := "fnLaurentRing", unfollowed := true, recurses := true, apart := false, narrowed := true }
def FnLaurentRingUptoSaid : Prop := fnLaurentRingUptoRow.holds Try.pinned (OpenSpec.upto fnLaurentRingSpec)

end Rows
end Go.Proofs.Ytjgoclfocfiecaa
