/-
  No cell of these rows narrows 'for every input' (looked for: loops, veiled, ifaces, maps, wideKeys, modest, calm, conditions, laid).
  DERIVED. THE GIVEN ROWS OF THIS SEAT. 8 by the template 'for every input the law returns true; each argument reads behind the call as it read before'; 0 by the template 'total and deterministic' (their statements: YtpbbfephfmdgmaaTotals.lean).
  GIVEN WITH THE SEED: the statements are not yours to turn. If you find one false, say at which input.
  Laid BY PROGRAM, IN A SANDBOX (cutbox-rows.mjs): the forced cells as the released guide's own fill.sh prints them over the translation 7545531398ef7341… (all of the seat's roots in one cut). By AI agents, Wed Nov 11 2026. No macro, syntax, notation, axiom, sorry.
-/
import Derived.Test.YtpbbfephfmdgmaaChecked
import GoSem.Claim
import GoSem.ClaimJoined
import GoSem.ClaimMapViews
import Derived.JoinedTies
import Derived.KernelRfl
namespace Go.Proofs.Ytpbbfephfmdgmaa
/- THE CELL 'sum', in the pinned program and in every row, IS THE sha256 OF THE DUMP (.gsa) THAT YtpbbfephfmdgmaaProg.lean LOADS. Nothing in Lean hashes anything: it is a label: what it is worth is what the hold of that sum in a sandbox is worth. -/
noncomputable def Try.pinned : Pinned := { name := "ytpbbfephfmdgmaa", sum := "7545531398ef73417838eca3fece5e5f44348b1b8a5fff65df1aa848bd207a10", checked := Try.checked }
namespace Rows
def none {H : Type} : Left H := { results := [], args := [] }

/-- 'laws.FnExactIsDiagram': WHATEVER THE INPUT: true; the input reads as it did. -/
def fnExactIsDiagramSpec : ChangeSpec := { name := "fnExactIsDiagram", fn := fun _ => fun
  | [d] => { results := [.lit (.bool true)], args := [d] }
  | _ => none }
def fnExactIsDiagramRow : OpenClaim := { program := "ytpbbfephfmdgmaa", sum := "7545531398ef73417838eca3fece5e5f44348b1b8a5fff65df1aa848bd207a10", func := "loop.example/g00870/laws.FnExactIsDiagram", spec := "fnExactIsDiagram", unfollowed := true, recurses := true, apart := false }
def FnExactIsDiagramSaid : Prop := fnExactIsDiagramRow.holds Try.pinned (OpenSpec.ofChange fnExactIsDiagramSpec)

/-- ITS FALSE NEIGHBOUR: 'it returns false'. Refute it at one input. -/
def fnExactIsDiagramWrong : ChangeSpec := { name := "fnExactIsDiagram", fn := fun _ => fun
  | [d] => { results := [.lit (.bool false)], args := [d] }
  | _ => none }
def FnExactIsDiagramWrongFalsely : Prop := fnExactIsDiagramRow.holds Try.pinned (OpenSpec.ofChange fnExactIsDiagramWrong)

/-- 'laws.FnExactWrithe': WHATEVER THE INPUT: true; the input reads as it did. -/
def fnExactWritheSpec : ChangeSpec := { name := "fnExactWrithe", fn := fun _ => fun
  | [d] => { results := [.lit (.bool true)], args := [d] }
  | _ => none }
def fnExactWritheRow : OpenClaim := { program := "ytpbbfephfmdgmaa", sum := "7545531398ef73417838eca3fece5e5f44348b1b8a5fff65df1aa848bd207a10", func := "loop.example/g00870/laws.FnExactWrithe", spec := "fnExactWrithe", unfollowed := true, recurses := true, apart := false }
def FnExactWritheSaid : Prop := fnExactWritheRow.holds Try.pinned (OpenSpec.ofChange fnExactWritheSpec)

/-- ITS FALSE NEIGHBOUR: 'it returns false'. Refute it at one input. -/
def fnExactWritheWrong : ChangeSpec := { name := "fnExactWrithe", fn := fun _ => fun
  | [d] => { results := [.lit (.bool false)], args := [d] }
  | _ => none }
def FnExactWritheWrongFalsely : Prop := fnExactWritheRow.holds Try.pinned (OpenSpec.ofChange fnExactWritheWrong)

/-- 'laws.FnExactReverseDiagram': WHATEVER THE INPUT: true; the input reads as it did. -/
def fnExactReverseDiagramSpec : ChangeSpec := { name := "fnExactReverseDiagram", fn := fun _ => fun
  | [d] => { results := [.lit (.bool true)], args := [d] }
  | _ => none }
def fnExactReverseDiagramRow : OpenClaim := { program := "ytpbbfephfmdgmaa", sum := "7545531398ef73417838eca3fece5e5f44348b1b8a5fff65df1aa848bd207a10", func := "loop.example/g00870/laws.FnExactReverseDiagram", spec := "fnExactReverseDiagram", unfollowed := true, recurses := true, apart := false }
def FnExactReverseDiagramSaid : Prop := fnExactReverseDiagramRow.holds Try.pinned (OpenSpec.ofChange fnExactReverseDiagramSpec)

/-- ITS FALSE NEIGHBOUR: 'it returns false'. Refute it at one input. -/
def fnExactReverseDiagramWrong : ChangeSpec := { name := "fnExactReverseDiagram", fn := fun _ => fun
  | [d] => { results := [.lit (.bool false)], args := [d] }
  | _ => none }
def FnExactReverseDiagramWrongFalsely : Prop := fnExactReverseDiagramRow.holds Try.pinned (OpenSpec.ofChange fnExactReverseDiagramWrong)

/-- 'laws.FnExactRegionsOf': WHATEVER THE INPUT: true; the input reads as it did. -/
def fnExactRegionsOfSpec : ChangeSpec := { name := "fnExactRegionsOf", fn := fun _ => fun
  | [d] => { results := [.lit (.bool true)], args := [d] }
  | _ => none }
def fnExactRegionsOfRow : OpenClaim := { program := "ytpbbfephfmdgmaa", sum := "7545531398ef73417838eca3fece5e5f44348b1b8a5fff65df1aa848bd207a10", func := "loop.example/g00870/laws.FnExactRegionsOf", spec := "fnExactRegionsOf", unfollowed := true, recurses := true, apart := false }
def FnExactRegionsOfSaid : Prop := fnExactRegionsOfRow.holds Try.pinned (OpenSpec.ofChange fnExactRegionsOfSpec)

/-- ITS FALSE NEIGHBOUR: 'it returns false'. Refute it at one input. -/
def fnExactRegionsOfWrong : ChangeSpec := { name := "fnExactRegionsOf", fn := fun _ => fun
  | [d] => { results := [.lit (.bool false)], args := [d] }
  | _ => none }
def FnExactRegionsOfWrongFalsely : Prop := fnExactRegionsOfRow.holds Try.pinned (OpenSpec.ofChange fnExactRegionsOfWrong)

/-- 'laws.FnExactMirrorDiagram': WHATEVER THE INPUT: true; the input reads as it did. -/
def fnExactMirrorDiagramSpec : ChangeSpec := { name := "fnExactMirrorDiagram", fn := fun _ => fun
  | [d] => { results := [.lit (.bool true)], args := [d] }
  | _ => none }
def fnExactMirrorDiagramRow : OpenClaim := { program := "ytpbbfephfmdgmaa", sum := "7545531398ef73417838eca3fece5e5f44348b1b8a5fff65df1aa848bd207a10", func := "loop.example/g00870/laws.FnExactMirrorDiagram", spec := "fnExactMirrorDiagram", unfollowed := true, recurses := true, apart := false }
def FnExactMirrorDiagramSaid : Prop := fnExactMirrorDiagramRow.holds Try.pinned (OpenSpec.ofChange fnExactMirrorDiagramSpec)

/-- ITS FALSE NEIGHBOUR: 'it returns false'. Refute it at one input. -/
def fnExactMirrorDiagramWrong : ChangeSpec := { name := "fnExactMirrorDiagram", fn := fun _ => fun
  | [d] => { results := [.lit (.bool false)], args := [d] }
  | _ => none }
def FnExactMirrorDiagramWrongFalsely : Prop := fnExactMirrorDiagramRow.holds Try.pinned (OpenSpec.ofChange fnExactMirrorDiagramWrong)

/-- 'laws.FnExactLinkingNumber': WHATEVER THE INPUT: true; the input reads as it did. -/
def fnExactLinkingNumberSpec : ChangeSpec := { name := "fnExactLinkingNumber", fn := fun _ => fun
  | [d1, d2, d3] => { results := [.lit (.bool true)], args := [d1, d2, d3] }
  | _ => none }
def fnExactLinkingNumberRow : OpenClaim := { program := "ytpbbfephfmdgmaa", sum := "7545531398ef73417838eca3fece5e5f44348b1b8a5fff65df1aa848bd207a10", func := "loop.example/g00870/laws.FnExactLinkingNumber", spec := "fnExactLinkingNumber", unfollowed := true, recurses := true, apart := false }
def FnExactLinkingNumberSaid : Prop := fnExactLinkingNumberRow.holds Try.pinned (OpenSpec.ofChange fnExactLinkingNumberSpec)

/-- ITS FALSE NEIGHBOUR: 'it returns false'. Refute it at one input. -/
def fnExactLinkingNumberWrong : ChangeSpec := { name := "fnExactLinkingNumber", fn := fun _ => fun
  | [d1, d2, d3] => { results := [.lit (.bool false)], args := [d1, d2, d3] }
  | _ => none }
def FnExactLinkingNumberWrongFalsely : Prop := fnExactLinkingNumberRow.holds Try.pinned (OpenSpec.ofChange fnExactLinkingNumberWrong)

/-- 'laws.FnExactUnionDiagrams': WHATEVER THE INPUT: true; the input reads as it did. -/
def fnExactUnionDiagramsSpec : ChangeSpec := { name := "fnExactUnionDiagrams", fn := fun _ => fun
  | [d1, d2] => { results := [.lit (.bool true)], args := [d1, d2] }
  | _ => none }
def fnExactUnionDiagramsRow : OpenClaim := { program := "ytpbbfephfmdgmaa", sum := "7545531398ef73417838eca3fece5e5f44348b1b8a5fff65df1aa848bd207a10", func := "loop.example/g00870/laws.FnExactUnionDiagrams", spec := "fnExactUnionDiagrams", unfollowed := true, recurses := true, apart := false }
def FnExactUnionDiagramsSaid : Prop := fnExactUnionDiagramsRow.holds Try.pinned (OpenSpec.ofChange fnExactUnionDiagramsSpec)

/-- ITS FALSE NEIGHBOUR: 'it returns false'. Refute it at one input. -/
def fnExactUnionDiagramsWrong : ChangeSpec := { name := "fnExactUnionDiagrams", fn := fun _ => fun
  | [d1, d2] => { results := [.lit (.bool false)], args := [d1, d2] }
  | _ => none }
def FnExactUnionDiagramsWrongFalsely : Prop := fnExactUnionDiagramsRow.holds Try.pinned (OpenSpec.ofChange fnExactUnionDiagramsWrong)

/-- 'laws.FnExactLinkComponents': WHATEVER THE INPUT: true; the input reads as it did. -/
def fnExactLinkComponentsSpec : ChangeSpec := { name := "fnExactLinkComponents", fn := fun _ => fun
  | [d] => { results := [.lit (.bool true)], args := [d] }
  | _ => none }
def fnExactLinkComponentsRow : OpenClaim := { program := "ytpbbfephfmdgmaa", sum := "7545531398ef73417838eca3fece5e5f44348b1b8a5fff65df1aa848bd207a10", func := "loop.example/g00870/laws.FnExactLinkComponents", spec := "fnExactLinkComponents", unfollowed := true, recurses := true, apart := false }
def FnExactLinkComponentsSaid : Prop := fnExactLinkComponentsRow.holds Try.pinned (OpenSpec.ofChange fnExactLinkComponentsSpec)

/-- ITS FALSE NEIGHBOUR: 'it returns false'. Refute it at one input. -/
def fnExactLinkComponentsWrong : ChangeSpec := { name := "fnExactLinkComponents", fn := fun _ => fun
  | [d] => { results := [.lit (.bool false)], args := [d] }
  | _ => none }
def FnExactLinkComponentsWrongFalsely : Prop := fnExactLinkComponentsRow.holds Try.pinned (OpenSpec.ofChange fnExactLinkComponentsWrong)

/- THE SECOND FORM. 'bulk': how many values and letters a reading holds, each counted each time it is reached (what is shared counts as often as it is met; a slice's spare places count too). A statement '..UptoSaid' is the law's where the arguments, and the package variables that the reading takes, are together of bulk at most 1048576: NARROWER than '..Said'. Prove '..Said' where nothing that the law and all that it calls make is longer than what came in: it says more and counts as full. Else prove '..UptoSaid'. A law counts once. -/
mutual
def uptoBulk {H : Type} : DataW H → Nat
  | .lit (.string bytes) => bytes.length + 1
  | .lit _ => 1
  | .nil => 1
  | .ptr d => uptoBulk d + 1
  | .slice elems spare => uptoBulkAll elems + uptoBulkAll spare + 1
  | .agg parts => uptoBulkAll parts + 1
  | .iface _ d => uptoBulk d + 1
  | .map entries => uptoBulkEntries entries + 1
  | .held _ => 1
def uptoBulkAll {H : Type} : List (DataW H) → Nat
  | [] => 0
  | d :: r => uptoBulk d + uptoBulkAll r
def uptoBulkEntries {H : Type} : List (Lit × DataW H) → Nat
  | [] => 0
  | x :: r => uptoBulkEntry x + uptoBulkEntries r
def uptoBulkEntry {H : Type} : Lit × DataW H → Nat
  | (.string bytes, d) => bytes.length + uptoBulk d + 1
  | (_, d) => uptoBulk d + 1
 end
def uptoSmall : (H : Type) → List (DataW H) → Bool := fun _ ds => decide (uptoBulkAll ds ≤ 1048576)
def OpenSpec.upto (s : _root_.Go.ChangeSpec) : _root_.Go.OpenSpec := { _root_.Go.OpenSpec.ofChange s with cond := some uptoSmall }

/-- 'laws.FnExactIsDiagram', WHERE WHAT IT READS IS OF BULK AT MOST 1048576: true; the input reads as it did. -/
def fnExactIsDiagramUptoRow : OpenClaim := { program := "ytpbbfephfmdgmaa", sum := "7545531398ef73417838eca3fece5e5f44348b1b8a5fff65df1aa848bd207a10", func := "loop.example/g00870/laws.FnExactIsDiagram", spec := "fnExactIsDiagram", unfollowed := true, recurses := true, apart := false, narrowed := true }
def FnExactIsDiagramUptoSaid : Prop := fnExactIsDiagramUptoRow.holds Try.pinned (OpenSpec.upto fnExactIsDiagramSpec)

/-- 'laws.FnExactWrithe', WHERE WHAT IT READS IS OF BULK AT MOST 1048576: true; the input reads as it did. -/
def fnExactWritheUptoRow : OpenClaim := { program := "ytpbbfephfmdgmaa", sum := "7545531398ef73417838eca3fece5e5f44348b1b8a5fff65df1aa848bd207a10", func := "loop.example/g00870/laws.FnExactWrithe", spec := "fnExactWrithe", unfollowed := true, recurses := true, apart := false, narrowed := true }
def FnExactWritheUptoSaid : Prop := fnExactWritheUptoRow.holds Try.pinned (OpenSpec.upto fnExactWritheSpec)

/-- 'laws.FnExactReverseDiagram', WHERE WHAT IT READS IS OF BULK AT MOST 1048576: true; the input reads as it did. -/
def fnExactReverseDiagramUptoRow : OpenClaim := { program := "ytpbbfephfmdgmaa", sum := "7545531398ef73417838eca3fece5e5f44348b1b8a5fff65df1aa848bd207a10", func := "loop.example/g00870/laws.FnExactReverseDiagram", spec := "fnExactReverseDiagram", unfollowed := true, recurses := true, apart := false, narrowed := true }
def FnExactReverseDiagramUptoSaid : Prop := fnExactReverseDiagramUptoRow.holds Try.pinned (OpenSpec.upto fnExactReverseDiagramSpec)

/-- 'laws.FnExactRegionsOf', WHERE WHAT IT READS IS OF BULK AT MOST 1048576: true; the input reads as it did. -/
def fnExactRegionsOfUptoRow : OpenClaim := { program := "ytpbbfephfmdgmaa", sum := "7545531398ef73417838eca3fece5e5f44348b1b8a5fff65df1aa848bd207a10", func := "loop.example/g00870/laws.FnExactRegionsOf", spec := "fnExactRegionsOf", unfollowed := true, recurses := true, apart := false, narrowed := true }
def FnExactRegionsOfUptoSaid : Prop := fnExactRegionsOfUptoRow.holds Try.pinned (OpenSpec.upto fnExactRegionsOfSpec)

/-- 'laws.FnExactMirrorDiagram', WHERE WHAT IT READS IS OF BULK AT MOST 1048576: true; the input reads as it did. -/
def fnExactMirrorDiagramUptoRow : OpenClaim := { program := "ytpbbfephfmdgmaa", sum := "7545531398ef73417838eca3fece5e5f44348b1b8a5fff65df1aa848bd207a10", func := "loop.example/g00870/laws.FnExactMirrorDiagram", spec := "fnExactMirrorDiagram", unfollowed := true, recurses := true, apart := false, narrowed := true }
def FnExactMirrorDiagramUptoSaid : Prop := fnExactMirrorDiagramUptoRow.holds Try.pinned (OpenSpec.upto fnExactMirrorDiagramSpec)

/-- 'laws.FnExactLinkingNumber', WHERE WHAT IT READS IS OF BULK AT MOST 1048576: true; the input reads as it did. -/
def fnExactLinkingNumberUptoRow : OpenClaim := { program := "ytpbbfephfmdgmaa", sum := "7545531398ef73417838eca3fece5e5f44348b1b8a5fff65df1aa848bd207a10", func := "loop.example/g00870/laws.FnExactLinkingNumber", spec := "fnExactLinkingNumber", unfollowed := true, recurses := true, apart := false, narrowed := true }
def FnExactLinkingNumberUptoSaid : Prop := fnExactLinkingNumberUptoRow.holds Try.pinned (OpenSpec.upto fnExactLinkingNumberSpec)

/-- 'laws.FnExactUnionDiagrams', WHERE WHAT IT READS IS OF BULK AT MOST 1048576: true; the input reads as it did. -/
def fnExactUnionDiagramsUptoRow : OpenClaim := { program := "ytpbbfephfmdgmaa", sum := "7545531398ef73417838eca3fece5e5f44348b1b8a5fff65df1aa848bd207a10", func := "loop.example/g00870/laws.FnExactUnionDiagrams", spec := "fnExactUnionDiagrams", unfollowed := true, recurses := true, apart := false, narrowed := true }
def FnExactUnionDiagramsUptoSaid : Prop := fnExactUnionDiagramsUptoRow.holds Try.pinned (OpenSpec.upto fnExactUnionDiagramsSpec)

/-- 'laws.FnExactLinkComponents', WHERE WHAT IT READS IS OF BULK AT MOST 1048576: true; the input reads as it did. -/
def fnExactLinkComponentsUptoRow : OpenClaim := { program := "ytpbbfephfmdgmaa", sum := "7545531398ef73417838eca3fece5e5f44348b1b8a5fff65df1aa848bd207a10", func := "loop.example/g00870/laws.FnExactLinkComponents", spec := "fnExactLinkComponents", unfollowed := true, recurses := true, apart := false, narrowed := true }
def FnExactLinkComponentsUptoSaid : Prop := fnExactLinkComponentsUptoRow.holds Try.pinned (OpenSpec.upto fnExactLinkComponentsSpec)

end Rows
end Go.Proofs.Ytpbbfephfmdgmaa
