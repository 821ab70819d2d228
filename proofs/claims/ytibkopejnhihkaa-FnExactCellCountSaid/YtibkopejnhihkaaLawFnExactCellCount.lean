/- The row of the law FnExactCellCount, out of its one pure statement (YtibkopejnhihkaaPureFnExactCellCount) and the walk of its Go text. -/
import Derived.Test.YtibkopejnhihkaaRows
import Derived.Test.YtibkopejnhihkaaPFnExactCellCountx11
import Derived.Test.YtibkopejnhihkaaPureFnExactCellCount
import Derived.Test.YtibkopejnhihkaaOpens
import Derived.WalkKit
import Derived.ProofKit
import Derived.OpenShut
import Derived.ShutString
import Derived.ChangeOld
import Derived.Below
import Derived.SizedLaws
namespace Go.Proofs.Ytibkopejnhihkaa.fnExactCellCount
open Go.ChangeShapes Go.WideShapes Go.ChangeAt Go.RowKit Opens Go.Proofs.Ytibkopejnhihkaa.PFnExactCellCount Go.Proofs.YtibkopejnhihkaaW.PrintWords Go.Proofs.YtibkopejnhihkaaW.PrintLast
open Go.ChangeMaps (open_string shut_string)
set_option linter.unusedVariables false
theorem own : ownKnob Try.prog.godebug = none := by kernel_rfl
theorem laidOut : laidOutB Try.prog = true := by kernel_rfl
theorem opens144 : Opens Try.prog 144 k144 good144 := by
  intro H enc w base spare held fuel cs x h
  obtain ⟨y, hy, gy⟩ := (opens_struct (g := (fun p => (⟨p.1, p.2⟩ : S144))) (f := (fun x : S144 => (x.f0, x.f1))) Try.underlying144 rfl (by kernel_rfl) (fun _ => rfl) (opensL_cons rfl rfl (by kernel_rfl) (opens_int (P := Try.prog) Try.underlying2) (opensL_one rfl rfl (by kernel_rfl) (opens_int (P := Try.prog) Try.underlying2)))) h
  exact ⟨y, hy, gy⟩
theorem opens24 : Opens Try.prog 24 k24 good24 := by
  intro H enc w base spare held fuel cs x h
  obtain ⟨y, hy, gy⟩ := (opens_struct (g := (fun p => (⟨p⟩ : S24))) (f := (fun x : S24 => x.f0)) Try.underlying24 rfl (by kernel_rfl) (fun _ => rfl) (opensL_one rfl rfl (by kernel_rfl) (opens_slice (P := Try.prog) Try.underlying22 (by kernel_rfl) (opens_slice (P := Try.prog) Try.underlying109 (by kernel_rfl) opens144)))) h
  exact ⟨y, hy, gy⟩
set_option maxRecDepth 100000 in
set_option maxHeartbeats 1000000 in
theorem lifted (os : Os) (started : os.Started) (H : Type) (enc : TypeId × Value → H) :
    ReturnsInHanded {} Try.checked os 3 .any (Rows.fnExactCellCountSpec.pre6 enc Try.prog Try.f3 Rows.fnExactCellCountRow.domain false) (Rows.fnExactCellCountSpec.post enc Try.prog Try.f3 false true false false) := by
  refine returnsInHanded_of_change_sized (C := Try.checked) own started (by kernel_rfl) Try.func3
    (ChangeSpec.witness6 (enc := enc) (C := Try.checked) false ⟨#[], #[.agg #[.slice none 0 0], .int .i64 0], []⟩ 8 (by kernel_rfl) (by kernel_rfl) (by kernel_rfl) (by kernel_rfl)) ?_
  intro W base args ds gs before hval0 hW hcnd hsz0 _
  have hval : ∀ (j : Nat) t v, Try.f3.params[j]? = some t → args[j]? = some v → Value.okWide Try.prog W .any base t v := hval0
  have hW' := hW
  obtain ⟨p, q, hA0, hV, rfl, hfz, hnd⟩ := hW
  have hA : DataW.TrodAll enc Try.prog W 0 (fun _ => true) true Try.f3.params.toList args.toList ds p := hA0
  rw [Try.params3] at hA hval
  obtain ⟨v0, vs0, d0, ds0, p0, q0, hargs, rfl, rfl, h0, r0⟩ := trodAll_cons hA
  obtain ⟨v1, vs1, d1, ds1, p1, q1, rfl, rfl, rfl, h1, r1⟩ := trodAll_cons r0
  obtain ⟨rfl, rfl, rfl⟩ := trodAll_nil r1
  obtain rfl : args = #[v0, v1] := by cases args; simp_all
  obtain ⟨rfl, rfl⟩ := trodVars_none hV
  have k0 := h0
  have lt0 : ∀ x ∈ p0, x.block < W.heap.size := by obtain ⟨m, hm⟩ := k0; exact DataW.trod_lt m _ _ _ hm
  obtain ⟨cs0, rfl, hs0⟩ := okWide_struct Try.underlying24 (hval 0 24 v0 rfl rfl)
  obtain ⟨fuel0, hf0⟩ := h0
  obtain ⟨x0, hk0, g0⟩ := opens24 hf0
  obtain ⟨A0_0, c0_0, e0, l0_0, hr0_0⟩ := k24_open hk0
  have e0' : cs0 = #[.slice A0_0 (x0.f0).length c0_0] := by apply Array.toList_inj.1; simpa [Value.cells] using e0
  have k1 := h1
  have lt1 : ∀ x ∈ p1, x.block < W.heap.size := by obtain ⟨m, hm⟩ := k1; exact DataW.trod_lt m _ _ _ hm
  obtain ⟨x1, rfl, rfl, rfl, g1⟩ := open_int Try.underlying2 (hval 1 2 v1 rfl rfl) h1
  have z0 := e0'
  clear hA0 hval0 hsz0
  obtain ⟨k, h⟩ := Pure.FnExactCellCount x0 x1 g0 g1
  have hcall := PFnExactCellCount.laws_FnExactCellCount.calls k A0_0 c0_0 (x0.f0) x1 true W hr0_0 l0_0 h ⟨rfl⟩
  rw [← e0'] at hcall
  refine hcall.mono fun e W' ⟨he, bel0⟩ => ?_
  have bel : Below W.heap.size W W' := bel0
  subst he
  exact ⟨_, rfl, _, _, _, [], _, [], hW', trodAll_mk1 (shut_bool Try.underlying4 _), (trodAll_cons_mk (Below.trod laidOut (by kernel_rfl) (of_decide_eq_true (by kernel_rfl)) k0 bel lt0) (trodAll_cons_mk (Below.trod laidOut (by kernel_rfl) (of_decide_eq_true (by kernel_rfl)) k1 bel lt1) trodAll_mk0)), rfl, bel.frame _, fun h => by cases h⟩
theorem over : Rows.fnExactCellCountRow.holds Try.pinned (OpenSpec.ofChange Rows.fnExactCellCountSpec) :=
  OpenClaim.holds_of_wide 3 Try.f3 rfl rfl rfl rfl rfl rfl rfl ⟨rfl, rfl, rfl, rfl, rfl⟩ rfl rfl rfl rfl rfl (by kernel_rfl) Try.func3 (by kernel_rfl)
    (of_decide_eq_true (by kernel_rfl)) (by unfold Func.isWrapper; first | (rw [if_pos (by decide +kernel)]; kernel_rfl) | (rw [if_neg (by decide +kernel)]; exact ⟨rfl, rfl⟩))
    (fun os started H enc _ => lifted os started H enc)
theorem proved : Rows.FnExactCellCountSaid := over
#print axioms proved
end Go.Proofs.Ytibkopejnhihkaa.fnExactCellCount
namespace Go.Proofs.Ytibkopejnhihkaa
/-- The row, under a short name, for the claim. -/
theorem fnExactCellCount_holds : Rows.FnExactCellCountSaid := fnExactCellCount.proved
end Go.Proofs.Ytibkopejnhihkaa
