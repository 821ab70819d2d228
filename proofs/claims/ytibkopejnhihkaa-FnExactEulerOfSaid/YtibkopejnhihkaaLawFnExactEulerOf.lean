/- The row of the law FnExactEulerOf, out of its one pure statement (YtibkopejnhihkaaPureFnExactEulerOf) and the walk of its Go text. -/
import Derived.Test.YtibkopejnhihkaaRows
import Derived.Test.YtibkopejnhihkaaPFnExactEulerOfx11
import Derived.Test.YtibkopejnhihkaaPureFnExactEulerOf
import Derived.Test.YtibkopejnhihkaaOpens
import Derived.WalkKit
import Derived.ProofKit
import Derived.OpenShut
import Derived.ShutString
import Derived.ChangeOld
import Derived.Below
import Derived.SizedLaws
namespace Go.Proofs.Ytibkopejnhihkaa.fnExactEulerOf
open Go.ChangeShapes Go.WideShapes Go.ChangeAt Go.RowKit Opens Go.Proofs.Ytibkopejnhihkaa.PFnExactEulerOf Go.Proofs.YtibkopejnhihkaaW.PrintWords Go.Proofs.YtibkopejnhihkaaW.PrintLast
open Go.ChangeMaps (open_string shut_string)
set_option linter.unusedVariables false
theorem own : ownKnob Try.prog.godebug = none := by kernel_rfl
theorem laidOut : laidOutB Try.prog = true := by kernel_rfl
theorem opens144 : Opens Try.prog 144 k144 good144 := by
  intro H enc w base spare held fuel cs x h
  obtain ⟨y, hy, gy⟩ := (opens_struct (g := (fun p => (⟨p.1, p.2⟩ : S144))) (f := (fun x : S144 => (x.f0, x.f1))) Try.underlying144 rfl (by kernel_rfl) (fun _ => rfl) (opensL_cons rfl rfl (by kernel_rfl) (opens_int (P := Try.prog) Try.underlying2) (opensL_one rfl rfl (by kernel_rfl) (opens_int (P := Try.prog) Try.underlying2)))) h
  exact ⟨y, hy, gy⟩
theorem opens24 : Opens Try.prog 24 k24 good24 := by
  intro H enc w base spare held fuel cs x h
  obtain ⟨y, hy, gy⟩ := (opens_struct (g := (fun p => (⟨p⟩ : S24))) (f := (fun x : S24 => x.f0)) Try.underlying24 rfl (by kernel_rfl) (fun _ => rfl) (opensL_one rfl rfl (by kernel_rfl) (opens_slice (P := Try.prog) Try.underlying22 (by kernel_rfl) (opens_slice (P := Try.prog) Try.underlying109 (by kernel_rfl) opens144)))) h
  exact ⟨y, hy, gy⟩
set_option maxRecDepth 100000 in
set_option maxHeartbeats 1000000 in
theorem lifted (os : Os) (started : os.Started) (H : Type) (enc : TypeId × Value → H) :
    ReturnsInHanded {} Try.checked os 4 .any (Rows.fnExactEulerOfSpec.pre6 enc Try.prog Try.f4 Rows.fnExactEulerOfRow.domain false) (Rows.fnExactEulerOfSpec.post enc Try.prog Try.f4 false true false false) := by
  refine returnsInHanded_of_change_sized (C := Try.checked) own started (by kernel_rfl) Try.func4
    (ChangeSpec.witness6 (enc := enc) (C := Try.checked) false ⟨#[], #[.agg #[.slice none 0 0]], []⟩ 8 (by kernel_rfl) (by kernel_rfl) (by kernel_rfl) (by kernel_rfl)) ?_
  intro W base args ds gs before hval0 hW hcnd hsz0 _
  have hval : ∀ (j : Nat) t v, Try.f4.params[j]? = some t → args[j]? = some v → Value.okWide Try.prog W .any base t v := hval0
  have hW' := hW
  obtain ⟨p, q, hA0, hV, rfl, hfz, hnd⟩ := hW
  have hA : DataW.TrodAll enc Try.prog W 0 (fun _ => true) true Try.f4.params.toList args.toList ds p := hA0
  rw [Try.params4] at hA hval
  obtain ⟨v0, vs0, d0, ds0, p0, q0, hargs, rfl, rfl, h0, r0⟩ := trodAll_cons hA
  obtain ⟨rfl, rfl, rfl⟩ := trodAll_nil r0
  obtain rfl : args = #[v0] := by cases args; simp_all
  obtain ⟨rfl, rfl⟩ := trodVars_none hV
  have k0 := h0
  have lt0 : ∀ x ∈ p0, x.block < W.heap.size := by obtain ⟨m, hm⟩ := k0; exact DataW.trod_lt m _ _ _ hm
  obtain ⟨cs0, rfl, hs0⟩ := okWide_struct Try.underlying24 (hval 0 24 v0 rfl rfl)
  obtain ⟨fuel0, hf0⟩ := h0
  obtain ⟨x0, hk0, g0⟩ := opens24 hf0
  obtain ⟨A0_0, c0_0, e0, l0_0, hr0_0⟩ := k24_open hk0
  have e0' : cs0 = #[.slice A0_0 (x0.f0).length c0_0] := by apply Array.toList_inj.1; simpa [Value.cells] using e0
  have z0 := e0'
  clear hA0 hval0 hsz0
  obtain ⟨k, h⟩ := Pure.FnExactEulerOf x0 g0
  have hcall := PFnExactEulerOf.laws_FnExactEulerOf.calls k A0_0 c0_0 (x0.f0) true W hr0_0 l0_0 h ⟨rfl⟩
  rw [← e0'] at hcall
  refine hcall.mono fun e W' ⟨he, bel0⟩ => ?_
  have bel : Below W.heap.size W W' := bel0
  subst he
  exact ⟨_, rfl, _, _, _, [], _, [], hW', trodAll_mk1 (shut_bool Try.underlying4 _), (trodAll_cons_mk (Below.trod laidOut (by kernel_rfl) (of_decide_eq_true (by kernel_rfl)) k0 bel lt0) trodAll_mk0), rfl, bel.frame _, fun h => by cases h⟩
theorem over : Rows.fnExactEulerOfRow.holds Try.pinned (OpenSpec.ofChange Rows.fnExactEulerOfSpec) :=
  OpenClaim.holds_of_wide 4 Try.f4 rfl rfl rfl rfl rfl rfl rfl ⟨rfl, rfl, rfl, rfl, rfl⟩ rfl rfl rfl rfl rfl (by kernel_rfl) Try.func4 (by kernel_rfl)
    (of_decide_eq_true (by kernel_rfl)) (by unfold Func.isWrapper; first | (rw [if_pos (by decide +kernel)]; kernel_rfl) | (rw [if_neg (by decide +kernel)]; exact ⟨rfl, rfl⟩))
    (fun os started H enc _ => lifted os started H enc)
theorem proved : Rows.FnExactEulerOfSaid := over
#print axioms proved
end Go.Proofs.Ytibkopejnhihkaa.fnExactEulerOf
namespace Go.Proofs.Ytibkopejnhihkaa
/-- The row, under a short name, for the claim. -/
theorem fnExactEulerOf_holds : Rows.FnExactEulerOfSaid := fnExactEulerOf.proved
end Go.Proofs.Ytibkopejnhihkaa
