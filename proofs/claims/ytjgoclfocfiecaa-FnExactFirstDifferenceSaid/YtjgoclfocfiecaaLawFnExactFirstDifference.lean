/- The row of the law FnExactFirstDifference, out of its one pure statement (YtjgoclfocfiecaaPureFnExactFirstDifference) and the walk of its Go text. -/
import Derived.Test.YtjgoclfocfiecaaRows
import Derived.Test.YtjgoclfocfiecaaPFnExactFirstDifferencex3
import Derived.Test.YtjgoclfocfiecaaPureFnExactFirstDifference
import Derived.Test.YtjgoclfocfiecaaOpens
import Derived.WalkKit
import Derived.ProofKit
import Derived.OpenShut
import Derived.ShutString
import Derived.ChangeOld
import Derived.Below
import Derived.SizedLaws
namespace Go.Proofs.Ytjgoclfocfiecaa.fnExactFirstDifference
open Go.ChangeShapes Go.WideShapes Go.ChangeAt Go.RowKit Opens Go.Proofs.Ytjgoclfocfiecaa.PFnExactFirstDifference Go.Proofs.YtjgoclfocfiecaaW.PrintWords Go.Proofs.YtjgoclfocfiecaaW.PrintLast
open Go.ChangeMaps (open_string shut_string)
set_option linter.unusedVariables false
theorem own : ownKnob Try.prog.godebug = none := by kernel_rfl
theorem laidOut : laidOutB Try.prog = true := by kernel_rfl
theorem opens28 : Opens Try.prog 28 k28 good28 := by
  intro H enc w base spare held fuel cs x h
  obtain ⟨y, hy, gy⟩ := (opens_struct (g := (fun p => (⟨p.1, p.2⟩ : S28))) (f := (fun x : S28 => (x.f0, x.f1))) Try.underlying28 rfl (by kernel_rfl) (fun _ => rfl) (opensL_cons rfl rfl (by kernel_rfl) (opens_int (P := Try.prog) Try.underlying2) (opensL_one rfl rfl (by kernel_rfl) (opens_slice (P := Try.prog) Try.underlying26 (by kernel_rfl) (opens_int (P := Try.prog) Try.underlying2))))) h
  exact ⟨y, hy, gy⟩
theorem opens30 : Opens Try.prog 30 k30 good30 := by
  intro H enc w base spare held fuel cs x h
  obtain ⟨y, hy, gy⟩ := (opens_struct (g := (fun p => (⟨p.1, p.2.1, p.2.2.1, p.2.2.2⟩ : S30))) (f := (fun x : S30 => (x.f0, x.f1, x.f2, x.f3))) Try.underlying30 rfl (by kernel_rfl) (fun _ => rfl) (opensL_cons rfl rfl (by kernel_rfl) (opens_bool (P := Try.prog) Try.underlying4) (opensL_cons rfl rfl (by kernel_rfl) (opens_bool (P := Try.prog) Try.underlying4) (opensL_cons rfl rfl (by kernel_rfl) opens28 (opensL_one rfl rfl (by kernel_rfl) (opens_slice (P := Try.prog) Try.underlying26 (by kernel_rfl) (opens_int (P := Try.prog) Try.underlying2))))))) h
  exact ⟨y, hy, gy⟩
set_option maxRecDepth 100000 in
set_option maxHeartbeats 1000000 in
theorem lifted (os : Os) (started : os.Started) (H : Type) (enc : TypeId × Value → H) :
    ReturnsInHanded {} Try.checked os 5 .any (Rows.fnExactFirstDifferenceSpec.pre6 enc Try.prog Try.f5 Rows.fnExactFirstDifferenceRow.domain false) (Rows.fnExactFirstDifferenceSpec.post enc Try.prog Try.f5 false true false false) := by
  refine returnsInHanded_of_change_sized (C := Try.checked) own started (by kernel_rfl) Try.func5
    (ChangeSpec.witness6 (enc := enc) (C := Try.checked) false ⟨#[], #[.agg #[.bool false, .bool false, .int .i64 0, .slice none 0 0, .slice none 0 0], .agg #[.bool false, .bool false, .int .i64 0, .slice none 0 0, .slice none 0 0]], []⟩ 8 (by kernel_rfl) (by kernel_rfl) (by kernel_rfl) (by kernel_rfl)) ?_
  intro W base args ds gs before hval0 hW hcnd hsz0 _
  have hval : ∀ (j : Nat) t v, Try.f5.params[j]? = some t → args[j]? = some v → Value.okWide Try.prog W .any base t v := hval0
  have hW' := hW
  obtain ⟨p, q, hA0, hV, rfl, hfz, hnd⟩ := hW
  have hA : DataW.TrodAll enc Try.prog W 0 (fun _ => true) true Try.f5.params.toList args.toList ds p := hA0
  rw [Try.params5] at hA hval
  obtain ⟨v0, vs0, d0, ds0, p0, q0, hargs, rfl, rfl, h0, r0⟩ := trodAll_cons hA
  obtain ⟨v1, vs1, d1, ds1, p1, q1, rfl, rfl, rfl, h1, r1⟩ := trodAll_cons r0
  obtain ⟨rfl, rfl, rfl⟩ := trodAll_nil r1
  obtain rfl : args = #[v0, v1] := by cases args; simp_all
  obtain ⟨rfl, rfl⟩ := trodVars_none hV
  have k0 := h0
  have lt0 : ∀ x ∈ p0, x.block < W.heap.size := by obtain ⟨m, hm⟩ := k0; exact DataW.trod_lt m _ _ _ hm
  obtain ⟨cs0, rfl, hs0⟩ := okWide_struct Try.underlying30 (hval 0 30 v0 rfl rfl)
  obtain ⟨fuel0, hf0⟩ := h0
  obtain ⟨x0, hk0, g0⟩ := opens30 hf0
  obtain ⟨A0_3, c0_3, A0_4, c0_4, e0, l0_3, hr0_3, l0_4, hr0_4⟩ := k30_open hk0
  have e0' : cs0 = #[.bool x0.f0, .bool x0.f1, .int .i64 x0.f2.f0, .slice A0_3 (x0.f2.f1).length c0_3, .slice A0_4 (x0.f3).length c0_4] := by apply Array.toList_inj.1; simpa [Value.cells] using e0
  have k1 := h1
  have lt1 : ∀ x ∈ p1, x.block < W.heap.size := by obtain ⟨m, hm⟩ := k1; exact DataW.trod_lt m _ _ _ hm
  obtain ⟨cs1, rfl, hs1⟩ := okWide_struct Try.underlying30 (hval 1 30 v1 rfl rfl)
  obtain ⟨fuel1, hf1⟩ := h1
  obtain ⟨x1, hk1, g1⟩ := opens30 hf1
  obtain ⟨A1_3, c1_3, A1_4, c1_4, e1, l1_3, hr1_3, l1_4, hr1_4⟩ := k30_open hk1
  have e1' : cs1 = #[.bool x1.f0, .bool x1.f1, .int .i64 x1.f2.f0, .slice A1_3 (x1.f2.f1).length c1_3, .slice A1_4 (x1.f3).length c1_4] := by apply Array.toList_inj.1; simpa [Value.cells] using e1
  have z0 := e0'
  have z1 := e1'
  clear hA0 hval0 hsz0
  obtain ⟨k, h⟩ := Pure.FnExactFirstDifference x0 x1 g0 g1
  have hcall := PFnExactFirstDifference.laws_FnExactFirstDifference.calls k (x0.f0) (x0.f1) (x0.f2.f0) A0_3 c0_3 (x0.f2.f1) A0_4 c0_4 (x0.f3) (x1.f0) (x1.f1) (x1.f2.f0) A1_3 c1_3 (x1.f2.f1) A1_4 c1_4 (x1.f3) true W hr0_3 l0_3 hr0_4 l0_4 hr1_3 l1_3 hr1_4 l1_4 h ⟨rfl⟩
  rw [← e0', ← e1'] at hcall
  refine hcall.mono fun e W' ⟨he, bel0⟩ => ?_
  have bel : Below W.heap.size W W' := bel0
  subst he
  exact ⟨_, rfl, _, _, _, [], _, [], hW', trodAll_mk1 (shut_bool Try.underlying4 _), (trodAll_cons_mk (Below.trod laidOut (by kernel_rfl) (of_decide_eq_true (by kernel_rfl)) k0 bel lt0) (trodAll_cons_mk (Below.trod laidOut (by kernel_rfl) (of_decide_eq_true (by kernel_rfl)) k1 bel lt1) trodAll_mk0)), rfl, bel.frame _, fun h => by cases h⟩
theorem over : Rows.fnExactFirstDifferenceRow.holds Try.pinned (OpenSpec.ofChange Rows.fnExactFirstDifferenceSpec) :=
  OpenClaim.holds_of_wide 5 Try.f5 rfl rfl rfl rfl rfl rfl rfl ⟨rfl, rfl, rfl, rfl, rfl⟩ rfl rfl rfl rfl rfl (by kernel_rfl) Try.func5 (by kernel_rfl)
    (of_decide_eq_true (by kernel_rfl)) (by unfold Func.isWrapper; first | (rw [if_pos (by decide +kernel)]; kernel_rfl) | (rw [if_neg (by decide +kernel)]; exact ⟨rfl, rfl⟩))
    (fun os started H enc _ => lifted os started H enc)
theorem proved : Rows.FnExactFirstDifferenceSaid := over
#print axioms proved
end Go.Proofs.Ytjgoclfocfiecaa.fnExactFirstDifference
namespace Go.Proofs.Ytjgoclfocfiecaa
/-- The row, under a short name, for the claim. -/
theorem fnExactFirstDifference_holds : Rows.FnExactFirstDifferenceSaid := fnExactFirstDifference.proved
end Go.Proofs.Ytjgoclfocfiecaa
