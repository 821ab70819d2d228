/- The row of the law FnExactUnionDiagrams: two diagrams side by side are as the specification's. No condition. -/
import Derived.Test.YtpbbfephfmdgmaaRows
import Derived.Test.YtpbbfephfmdgmaaEK
import Derived.Test.YtpbbfephfmdgmaaRaiC
import Derived.ProofKit
import Derived.OpenShut
import Derived.ShutString
import Derived.ChangeOld
import Derived.SizedLaws
namespace Go.Proofs.Ytpbbfephfmdgmaa.fnExactUnionDiagrams
open Go Go.ChangeShapes Go.WideShapes Go.ChangeAt Go.RowKit Go.Proofs.Ytpbbfephfmdgmaa.Rai
open Go.ChangeMaps (open_string shut_string)
set_option linter.unusedVariables false
theorem own : ownKnob Try.prog.godebug = none := by kernel_rfl
theorem laidOut : laidOutB Try.prog = true := by kernel_rfl
abbrev G (n : Int) : Prop := (Lit.int .i64 n).wf = true
abbrev C5 := Int × Int × Int × Int × Int
abbrev A5 : Heap → C5 → List Value → Prop := APr (AInt .i64) (APr (AInt .i64) (APr (AInt .i64) (APr (AInt .i64) (AInt .i64))))
abbrev good5 (x : C5) : Prop := G x.1 ∧ G x.2.1 ∧ G x.2.2.1 ∧ G x.2.2.2.1 ∧ G x.2.2.2.2
theorem stab5 : Stab A5 := stab_pr (stab_int _) (stab_pr (stab_int _) (stab_pr (stab_int _) (stab_pr (stab_int _) (stab_int _))))
theorem oi : AOpen Try.prog 2 (AInt .i64) G := aopen_int (P := Try.prog) Try.underlying2
theorem opensC : AOpen Try.prog 78 A5 good5 :=
  aopen_struct (sz := 5) Try.underlying78 rfl (by kernel_rfl) (aopenL_cons (sz := 1) (sz2 := 4) rfl rfl (by kernel_rfl) (stab_int _) oi (aopenL_cons (sz := 1) (sz2 := 3) rfl rfl (by kernel_rfl) (stab_int _) oi (aopenL_cons (sz := 1) (sz2 := 2) rfl rfl (by kernel_rfl) (stab_int _) oi (aopenL_cons (sz := 1) (sz2 := 1) rfl rfl (by kernel_rfl) (stab_int _) oi (aopenL_one rfl rfl (by kernel_rfl) oi)))))
theorem opensCs : AOpen Try.prog 22 (ASl 5 A5) (fun l => l.length ≤ maxLen ∧ ∀ x ∈ l, good5 x) := aopen_slice (P := Try.prog) (sz := 5) Try.underlying22 (by kernel_rfl) (by decide) stab5 opensC
theorem opensD : AOpen Try.prog 24 (APr (ASl 5 A5) (AInt .i64)) (fun y => (y.1.length ≤ maxLen ∧ ∀ x ∈ y.1, good5 x) ∧ G y.2) :=
  aopen_struct (sz := 2) Try.underlying24 rfl (by kernel_rfl) (aopenL_cons (sz := 1) (sz2 := 1) rfl rfl (by kernel_rfl) (stab_sl stab5) opensCs (aopenL_one rfl rfl (by kernel_rfl) oi))
def cr (x : C5) : Cr := ⟨x.1, x.2.1, x.2.2.1, x.2.2.2.1, x.2.2.2.2⟩
theorem rdD {H : Heap} {y : List C5 × Int} {cs : List Value} (h : APr (ASl 5 A5) (AInt .i64) H y cs) : ∃ v, cs = [v, I y.2] ∧ RdC H v (y.1.map cr) := by
  obtain ⟨c1, c2, rfl, ⟨p, k, rfl, hp, hh⟩, rfl⟩ := h
  refine ⟨_, rfl, p, k, by rw [List.length_map], hp, fun i hi => ?_⟩
  rw [List.length_map] at hi
  obtain ⟨b, ds, ro, h1, h2, h3, h4, x1, x2, h5, h6, y1, y2, h7, h8, z1, z2, h9, h10, w1, w2, h11, h12, h13⟩ := hh i _ (List.getElem?_eq_getElem hi)
  refine ⟨b, ds, ro, h1, h2, h3, h4, ?_⟩
  rw [h5, h6, h7, h8, h9, h10, h11, h12, h13]
  have e : (y.1.map cr).getD i cr0 = cr y.1[i] := by simp [hi]
  rw [e]
  rfl
set_option maxRecDepth 100000 in
set_option maxHeartbeats 1000000 in
theorem lifted (os : Os) (started : os.Started) (H : Type) (enc : TypeId × Value → H) :
    ReturnsInHanded {} Try.checked os 9 .any (Rows.fnExactUnionDiagramsSpec.pre6 enc Try.prog Try.f9 Rows.fnExactUnionDiagramsRow.domain false) (Rows.fnExactUnionDiagramsSpec.post enc Try.prog Try.f9 false true false false) := by
  refine returnsInHanded_of_change_sized (C := Try.checked) own started (by kernel_rfl) Try.func9
    (ChangeSpec.witness6 (enc := enc) (C := Try.checked) false ⟨#[], #[.agg #[.slice none 0 0, .int .i64 0], .agg #[.slice none 0 0, .int .i64 0]], []⟩ 8 (by kernel_rfl) (by kernel_rfl) (by kernel_rfl) (by kernel_rfl)) ?_
  intro W base args ds gs before hval0 hW hcnd hsz0 _
  have hval : ∀ (j : Nat) t v, Try.f9.params[j]? = some t → args[j]? = some v → Value.okWide Try.prog W .any base t v := hval0
  have hW' := hW
  obtain ⟨p, q, hA0, hV, rfl, hfz, hnd⟩ := hW
  have hA : DataW.TrodAll enc Try.prog W 0 (fun _ => true) true Try.f9.params.toList args.toList ds p := hA0
  rw [Try.params9] at hA hval
  obtain ⟨v0, vs0, d0, ds0, p0, q0, hargs, rfl, rfl, h0, r0⟩ := trodAll_cons hA
  obtain ⟨v1, vs1, d1, ds1, p1, q1, rfl, rfl, rfl, h1, r1⟩ := trodAll_cons r0
  obtain ⟨rfl, rfl, rfl⟩ := trodAll_nil r1
  obtain rfl : args = #[v0, v1] := by cases args; simp_all
  obtain ⟨rfl, rfl⟩ := trodVars_none hV
  have k0 := h0
  have lt0 : ∀ x ∈ p0, x.block < W.heap.size := by obtain ⟨m, hm⟩ := k0; exact DataW.trod_lt m _ _ _ hm
  obtain ⟨cs0, rfl, hs0⟩ := okWide_struct Try.underlying24 (hval 0 24 v0 rfl rfl)
  obtain ⟨fuel0, hf0⟩ := h0
  obtain ⟨y, ⟨⟨gT1, _⟩, _⟩, hb⟩ := opensD hf0
  obtain ⟨φ, Hh, cs, hh, hro, _, _, hAT, hRL⟩ := hb _ H0 (H0_holds W) H0_ro
  have k1 := h1
  have lt1 : ∀ x ∈ p1, x.block < W.heap.size := by obtain ⟨m, hm⟩ := k1; exact DataW.trod_lt m _ _ _ hm
  obtain ⟨cs1, rfl, hs1⟩ := okWide_struct Try.underlying24 (hval 1 24 v1 rfl rfl)
  obtain ⟨fuel1, hf1⟩ := h1
  obtain ⟨y2, ⟨⟨gT2, _⟩, _⟩, hb2⟩ := opensD hf1
  obtain ⟨φ2, Hh2, csb, hh2, hro2, hxe, hm, hAT2, hRL2⟩ := hb2 φ Hh hh hro
  obtain ⟨v, rfl, hRT⟩ := rdD (stab_pr (stab_sl stab5) (stab_int _) _ _ _ _ hAT hxe)
  obtain ⟨v2, rfl, hRT2⟩ := rdD hAT2
  clear hA0 hval0 hsz0
  have hS : (y.1.map cr).length ≤ 9223372036854775807 := by rw [List.length_map]; exact gT1
  have hT : (y2.1.map cr).length ≤ 9223372036854775807 := by rw [List.length_map]; exact gT2
  have hcall := calls_true (args' := #[.agg cs0, .agg cs1]) ((lawUnionDiagrams_c y.2 y2.2 hRT hRT2 hS hT).mono fun _ _ h => h) hh2 hro2 (by
    have h1 : R φ2 Hh2.has (.agg #[v, I y.2]) (.agg cs0) := R.agg_mk (by have := (hRL.mono hm).toArray; simpa [Value.cells] using this)
    have h2 : R φ2 Hh2.has (.agg #[v2, I y2.2]) (.agg cs1) := R.agg_mk (by have := hRL2.toArray; simpa [Value.cells] using this)
    exact (RL.cons h1 (RL.cons h2 RL.nil)).toArray)
  refine hcall.mono fun e W' ⟨he, bel⟩ => ?_
  subst he
  exact ⟨_, rfl, _, _, _, [], _, [], hW', trodAll_mk1 (shut_bool Try.underlying4 _), (trodAll_cons_mk (Below.trod laidOut (by kernel_rfl) (of_decide_eq_true (by kernel_rfl)) k0 bel lt0) (trodAll_cons_mk (Below.trod laidOut (by kernel_rfl) (of_decide_eq_true (by kernel_rfl)) k1 bel lt1) trodAll_mk0)), rfl, bel.frame _, fun h => (by cases h)⟩
theorem over : Rows.fnExactUnionDiagramsRow.holds Try.pinned (OpenSpec.ofChange Rows.fnExactUnionDiagramsSpec) :=
  OpenClaim.holds_of_wide 9 Try.f9 rfl rfl rfl rfl rfl rfl rfl ⟨rfl, rfl, rfl, rfl, rfl⟩ rfl rfl rfl rfl rfl (by kernel_rfl) Try.func9 (by kernel_rfl)
    (of_decide_eq_true (by kernel_rfl)) (by unfold Func.isWrapper; first | (rw [if_pos (by decide +kernel)]; kernel_rfl) | (rw [if_neg (by decide +kernel)]; exact ⟨rfl, rfl⟩))
    (fun os started H enc _ => lifted os started H enc)
theorem proved : Rows.FnExactUnionDiagramsSaid := over
#print axioms proved
end Go.Proofs.Ytpbbfephfmdgmaa.fnExactUnionDiagrams
namespace Go.Proofs.Ytpbbfephfmdgmaa
/-- The row, under a short name, for the claim. -/
theorem fnExactUnionDiagrams_holds : Rows.FnExactUnionDiagramsSaid := fnExactUnionDiagrams.proved
end Go.Proofs.Ytpbbfephfmdgmaa
