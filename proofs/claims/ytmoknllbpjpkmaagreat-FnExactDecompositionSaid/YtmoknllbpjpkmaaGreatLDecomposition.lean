/- The row of the law FnExactDecomposition: whatever triangulation and vector come in, the program's decomposition is the specification's, in rows of their own. No condition. -/
import Derived.Test.YtmoknllbpjpkmaaGreatRows
import Derived.Test.YtmoknllbpjpkmaaGreatV5
import Derived.Test.YtmoknllbpjpkmaaGreatZedD
import Derived.ProofKit
import Derived.OpenShut
import Derived.ShutString
import Derived.ChangeOld
import Derived.SizedLaws
namespace Go.Proofs.YtmoknllbpjpkmaaGreat.fnExactDecomposition
open Go Go.ChangeShapes Go.WideShapes Go.ChangeAt Go.RowKit Go.Proofs.YtmoknllbpjpkmaaGreat.Zed
open Go.ChangeMaps (open_string shut_string)
set_option linter.unusedVariables false
theorem own : ownKnob Tryz.prog.godebug = none := by kernel_rfl
theorem laidOut : laidOutB Tryz.prog = true := by kernel_rfl
abbrev goodF (x : Int × Int) : Prop := (Lit.int .i64 x.1).wf = true ∧ (Lit.int .i64 x.2).wf = true
abbrev goodR (r : List (Int × Int)) : Prop := r.length ≤ maxLen ∧ ∀ x ∈ r, goodF x
abbrev goodT (T : List (List (Int × Int))) : Prop := T.length ≤ maxLen ∧ ∀ r ∈ T, goodR r
abbrev fZ (x : Int × Int) : List Value := [I x.1] ++ [I x.2]
theorem opensF : AOpen Tryz.prog 87 fZ goodF :=
  aopen_struct (sz := 2) Tryz.underlying87 rfl (by kernel_rfl) (aopenL_cons (sz := 1) (sz2 := 1) rfl rfl (by kernel_rfl) (aopen_int (P := Tryz.prog) Tryz.underlying2) (aopenL_one rfl rfl (by kernel_rfl) (aopen_int (P := Tryz.prog) Tryz.underlying2)))
theorem opensR : AOpen Tryz.prog 57 (fun l : List (Int × Int) => [FZ 2 l.length (l.flatMap fZ)]) goodR := aopen_slice (P := Tryz.prog) (sz := 2) Tryz.underlying57 (by kernel_rfl) (by decide) opensF
theorem opensRs : AOpen Tryz.prog 22 (fun T : List (List (Int × Int)) => [FZ 1 T.length (T.flatMap fun l => [FZ 2 l.length (l.flatMap fZ)])]) goodT := aopen_slice (P := Tryz.prog) (sz := 1) Tryz.underlying22 (by kernel_rfl) (by decide) opensR
theorem opensT : AOpen Tryz.prog 24 (fun T : List (List (Int × Int)) => [FZ 1 T.length (T.flatMap fun l => [FZ 2 l.length (l.flatMap fZ)])]) goodT :=
  aopen_struct (sz := 1) Tryz.underlying24 rfl (by kernel_rfl) (aopenL_one rfl rfl (by kernel_rfl) opensRs)
theorem p2_is (l : List (Int × Int)) : l.flatMap fZ = p2 l := by
  induction l with
  | nil => rfl
  | cons x l ih => rw [List.flatMap_cons, ih]; simp [p2]
theorem zT_is (T : List (List (Int × Int))) : Value.agg #[FZ 1 T.length (T.flatMap fun l => [FZ 2 l.length (l.flatMap fZ)])] = zT T := by
  have : (T.flatMap fun l => [FZ 2 l.length (l.flatMap fZ)]) = T.map fun r => zP r := by
    induction T with
    | nil => rfl
    | cons l T ih => rw [List.flatMap_cons, ih, List.map_cons, p2_is]; rfl
  rw [this]
theorem opensI : AOpen Tryz.prog 25 (fun l : List Int => [FZ 1 l.length (l.flatMap fun n => [I n])]) (fun l => l.length ≤ maxLen ∧ ∀ x ∈ l, (Lit.int .i64 x).wf = true) := aopen_slice (P := Tryz.prog) (sz := 1) Tryz.underlying25 (by kernel_rfl) (by decide) (aopen_int (P := Tryz.prog) Tryz.underlying2)
theorem in_is (l : List Int) : FZ 1 l.length (l.flatMap fun n => [I n]) = zI l := by
  have : (l.flatMap fun n => [I n]) = ints l := by
    induction l with
    | nil => rfl
    | cons n l ih => rw [List.flatMap_cons, ih]; rfl
  rw [this]
set_option maxRecDepth 100000 in
set_option maxHeartbeats 1000000 in
theorem lifted (os : Os) (started : os.Started) (H : Type) (enc : TypeId × Value → H) :
    ReturnsInHanded {} Tryz.checked os 4 .any (Rows.fnExactDecompositionSpec.pre6 enc Tryz.prog Tryz.f4 Rows.fnExactDecompositionRow.domain false) (Rows.fnExactDecompositionSpec.post enc Tryz.prog Tryz.f4 false true false false) := by
  refine returnsInHanded_of_change_sized (C := Tryz.checked) own started (by kernel_rfl) Tryz.func4
    (ChangeSpec.witness6 (enc := enc) (C := Tryz.checked) false ⟨#[], #[.agg #[.slice none 0 0], .slice none 0 0], []⟩ 8 (by kernel_rfl) (by kernel_rfl) (by kernel_rfl) (by kernel_rfl)) ?_
  intro W base args ds gs before hval0 hW hcnd hsz0 _
  have hval : ∀ (j : Nat) t v, Tryz.f4.params[j]? = some t → args[j]? = some v → Value.okWide Tryz.prog W .any base t v := hval0
  have hW' := hW
  obtain ⟨p, q, hA0, hV, rfl, hfz, hnd⟩ := hW
  have hA : DataW.TrodAll enc Tryz.prog W 0 (fun _ => true) true Tryz.f4.params.toList args.toList ds p := hA0
  rw [Tryz.params4] at hA hval
  obtain ⟨v0, vs0, d0, ds0, p0, q0, hargs, rfl, rfl, h0, r0⟩ := trodAll_cons hA
  obtain ⟨v1, vs1, d1, ds1, p1, q1, rfl, rfl, rfl, h1, r1⟩ := trodAll_cons r0
  obtain ⟨rfl, rfl, rfl⟩ := trodAll_nil r1
  obtain rfl : args = #[v0, v1] := by cases args; simp_all
  obtain ⟨rfl, rfl⟩ := trodVars_none hV
  have k0 := h0
  have lt0 : ∀ x ∈ p0, x.block < W.heap.size := by obtain ⟨m, hm⟩ := k0; exact DataW.trod_lt m _ _ _ hm
  obtain ⟨cs0, rfl, hs0⟩ := okWide_struct Tryz.underlying24 (hval 0 24 v0 rfl rfl)
  obtain ⟨fuel0, hf0⟩ := h0
  obtain ⟨T, ⟨gT1, gT2⟩, hRL⟩ := opensT hf0
  have k1 := h1
  have lt1 : ∀ x ∈ p1, x.block < W.heap.size := by obtain ⟨m, hm⟩ := k1; exact DataW.trod_lt m _ _ _ hm
  obtain ⟨sa, sl, sc, rfl⟩ := okWide_slice Tryz.underlying25 (hval 1 25 v1 rfl rfl)
  obtain ⟨fuel1, hf1⟩ := h1
  obtain ⟨y, ⟨gA1, _⟩, hRA⟩ := opensI hf1
  clear hA0 hval0 hsz0
  have hS : Short T 9223372036854775807 := ⟨gT1, fun j hj => by
    have := (gT2 (T.getD j []) (by simp [hj])).1
    exact this⟩
  have hcall := calls_true (W := W) (args' := #[.agg cs0, .slice sa sl sc]) (lawDecomposition_z hS y gA1) (by
    have h1 : R (worldR W) H0.has (zT T) (.agg cs0) := by
      rw [← zT_is]
      exact R.agg_mk (by have := hRL.toArray; simpa [Value.cells] using this)
    have h2 : R (worldR W) H0.has (zI y) (.slice sa sl sc) := by
      rw [← in_is]
      exact hRA.2 0 _ _ rfl (by simp [Value.cells])
    exact (RL.cons h1 (RL.cons h2 RL.nil)).toArray)
  refine hcall.mono fun e W' ⟨he, bel⟩ => ?_
  subst he
  exact ⟨_, rfl, _, _, _, [], _, [], hW', trodAll_mk1 (shut_bool Tryz.underlying4 _), (trodAll_cons_mk (Below.trod laidOut (by kernel_rfl) (of_decide_eq_true (by kernel_rfl)) k0 bel lt0) (trodAll_cons_mk (Below.trod laidOut (by kernel_rfl) (of_decide_eq_true (by kernel_rfl)) k1 bel lt1) trodAll_mk0)), rfl, bel.frame _, fun h => (by cases h)⟩
theorem over : Rows.fnExactDecompositionRow.holds Tryz.pinned (OpenSpec.ofChange Rows.fnExactDecompositionSpec) :=
  OpenClaim.holds_of_wide 4 Tryz.f4 rfl rfl rfl rfl rfl rfl rfl ⟨rfl, rfl, rfl, rfl, rfl⟩ rfl rfl rfl rfl rfl (by kernel_rfl) Tryz.func4 (by kernel_rfl)
    (of_decide_eq_true (by kernel_rfl)) (by unfold Func.isWrapper; first | (rw [if_pos (by decide +kernel)]; kernel_rfl) | (rw [if_neg (by decide +kernel)]; exact ⟨rfl, rfl⟩))
    (fun os started H enc _ => lifted os started H enc)
theorem proved : Rows.FnExactDecompositionSaid := over
#print axioms proved
end Go.Proofs.YtmoknllbpjpkmaaGreat.fnExactDecomposition
namespace Go.Proofs.YtmoknllbpjpkmaaGreat
/-- The row, under a short name, for the claim. -/
theorem fnExactDecomposition_holds : Rows.FnExactDecompositionSaid := fnExactDecomposition.proved
end Go.Proofs.YtmoknllbpjpkmaaGreat
