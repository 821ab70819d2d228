/- The row of the law FnExactEdgeDegrees: whatever triangulation comes in, the program's edge degrees are the specification's. No condition. -/
import Derived.Test.YtibkopejnhihkaaRows
import Derived.Test.YtibkopejnhihkaaF24
import Derived.Test.YtibkopejnhihkaaRaiC
import Derived.ProofKit
import Derived.OpenShut
import Derived.ShutString
import Derived.ChangeOld
import Derived.SizedLaws
namespace Go.Proofs.Ytibkopejnhihkaa.fnExactEdgeDegrees
open Go Go.ChangeShapes Go.WideShapes Go.ChangeAt Go.RowKit Go.Proofs.Ytibkopejnhihkaa.Rai
open Go.ChangeMaps (open_string shut_string)
set_option linter.unusedVariables false
theorem own : ownKnob Try.prog.godebug = none := by kernel_rfl
theorem laidOut : laidOutB Try.prog = true := by kernel_rfl
abbrev goodF (x : Int × Int) : Prop := (Lit.int .i64 x.1).wf = true ∧ (Lit.int .i64 x.2).wf = true
abbrev goodR (r : List (Int × Int)) : Prop := r.length ≤ maxLen ∧ ∀ x ∈ r, goodF x
abbrev goodT (T : List (List (Int × Int))) : Prop := T.length ≤ maxLen ∧ ∀ r ∈ T, goodR r
theorem opensF : AOpen Try.prog 144 (APr (AInt .i64) (AInt .i64)) goodF :=
  aopen_struct (sz := 2) Try.underlying144 rfl (by kernel_rfl) (aopenL_cons (sz := 1) (sz2 := 1) rfl rfl (by kernel_rfl) (stab_int _) (aopen_int (P := Try.prog) Try.underlying2) (aopenL_one rfl rfl (by kernel_rfl) (aopen_int (P := Try.prog) Try.underlying2)))
theorem opensR : AOpen Try.prog 109 (ASl 2 (APr (AInt .i64) (AInt .i64))) goodR := aopen_slice (P := Try.prog) (sz := 2) Try.underlying109 (by kernel_rfl) (by decide) (stab_pr (stab_int _) (stab_int _)) opensF
theorem opensRs : AOpen Try.prog 22 (ASl 1 (ASl 2 (APr (AInt .i64) (AInt .i64)))) goodT := aopen_slice (P := Try.prog) (sz := 1) Try.underlying22 (by kernel_rfl) (by decide) (stab_sl (stab_pr (stab_int _) (stab_int _))) opensR
theorem opensT : AOpen Try.prog 24 (ASl 1 (ASl 2 (APr (AInt .i64) (AInt .i64)))) goodT :=
  aopen_struct (sz := 1) Try.underlying24 rfl (by kernel_rfl) (aopenL_one rfl rfl (by kernel_rfl) opensRs)
theorem rowT {H : Heap} {T : List (List (Int × Int))} {cs : List Value} (h : ASl 1 (ASl 2 (APr (AInt .i64) (AInt .i64))) H T cs) : ∃ v, cs = [v] ∧ RowT H v T := by
  obtain ⟨p, k, rfl, hp, hh⟩ := h
  refine ⟨_, rfl, p, k, rfl, hp, fun a ha => ?_⟩
  obtain ⟨b, ds, ro, hb1, hb2, hb3, hb4, p2, k2, e, hp2, hh2⟩ := hh a _ (List.getElem?_eq_getElem ha)
  have hd : T.getD a [] = T[a] := by simp [ha]
  rw [hd]
  refine ⟨b, ds, ro, .slice p2 T[a].length k2, hb1, hb2, hb3, ?_, p2, k2, rfl, hp2, fun j hj => ?_⟩
  · have h0 : ((ds.drop (a * 1)).take 1)[0]? = some (.slice p2 T[a].length k2) := by rw [e]; rfl
    rw [List.getElem?_take, if_pos (by omega), List.getElem?_drop] at h0
    simpa using h0
  · obtain ⟨b2, ds2, ro2, h1, h2, h3, h4, c1, c2, h5, h6, h7⟩ := hh2 j _ (List.getElem?_eq_getElem hj)
    have hd2 : T[a].getD j (0, 0) = T[a][j] := by simp [hj]
    rw [hd2]
    exact ⟨b2, ds2, ro2, h1, h2, h3, h4, by rw [h5, h6, h7]; rfl⟩
set_option maxRecDepth 100000 in
set_option maxHeartbeats 1000000 in
theorem lifted (os : Os) (started : os.Started) (H : Type) (enc : TypeId × Value → H) :
    ReturnsInHanded {} Try.checked os 5 .any (Rows.fnExactEdgeDegreesSpec.pre6 enc Try.prog Try.f5 Rows.fnExactEdgeDegreesRow.domain false) (Rows.fnExactEdgeDegreesSpec.post enc Try.prog Try.f5 false true false false) := by
  refine returnsInHanded_of_change_sized (C := Try.checked) own started (by kernel_rfl) Try.func5
    (ChangeSpec.witness6 (enc := enc) (C := Try.checked) false ⟨#[], #[.agg #[.slice none 0 0]], []⟩ 8 (by kernel_rfl) (by kernel_rfl) (by kernel_rfl) (by kernel_rfl)) ?_
  intro W base args ds gs before hval0 hW hcnd hsz0 _
  have hval : ∀ (j : Nat) t v, Try.f5.params[j]? = some t → args[j]? = some v → Value.okWide Try.prog W .any base t v := hval0
  have hW' := hW
  obtain ⟨p, q, hA0, hV, rfl, hfz, hnd⟩ := hW
  have hA : DataW.TrodAll enc Try.prog W 0 (fun _ => true) true Try.f5.params.toList args.toList ds p := hA0
  rw [Try.params5] at hA hval
  obtain ⟨v0, vs0, d0, ds0, p0, q0, hargs, rfl, rfl, h0, r0⟩ := trodAll_cons hA
  obtain ⟨rfl, rfl, rfl⟩ := trodAll_nil r0
  obtain rfl : args = #[v0] := by cases args; simp_all
  obtain ⟨rfl, rfl⟩ := trodVars_none hV
  have k0 := h0
  have lt0 : ∀ x ∈ p0, x.block < W.heap.size := by obtain ⟨m, hm⟩ := k0; exact DataW.trod_lt m _ _ _ hm
  obtain ⟨cs0, rfl, hs0⟩ := okWide_struct Try.underlying24 (hval 0 24 v0 rfl rfl)
  obtain ⟨fuel0, hf0⟩ := h0
  obtain ⟨T, ⟨gT1, gT2⟩, hb⟩ := opensT hf0
  obtain ⟨φ, Hh, cs, hh, hro, _, _, hAT, hRL⟩ := hb _ H0 (H0_holds W) H0_ro
  obtain ⟨v, rfl, hRT⟩ := rowT hAT
  clear hA0 hval0 hsz0
  have hS : Short T 9223372036854775807 := ⟨gT1, fun j hj => by
    have := (gT2 (T.getD j []) (by simp [hj])).1
    exact this⟩
  have hcall := calls_true (args' := #[.agg cs0]) ((lawEdgeDegrees_c hRT hS).mono fun _ _ h => h) hh hro (by
    have h1 : R φ Hh.has (.agg #[v]) (.agg cs0) := R.agg_mk (by have := hRL.toArray; simpa [Value.cells] using this)
    exact (RL.cons h1 RL.nil).toArray)
  refine hcall.mono fun e W' ⟨he, bel⟩ => ?_
  subst he
  exact ⟨_, rfl, _, _, _, [], _, [], hW', trodAll_mk1 (shut_bool Try.underlying4 _), (trodAll_cons_mk (Below.trod laidOut (by kernel_rfl) (of_decide_eq_true (by kernel_rfl)) k0 bel lt0) trodAll_mk0), rfl, bel.frame _, fun h => (by cases h)⟩
theorem over : Rows.fnExactEdgeDegreesRow.holds Try.pinned (OpenSpec.ofChange Rows.fnExactEdgeDegreesSpec) :=
  OpenClaim.holds_of_wide 5 Try.f5 rfl rfl rfl rfl rfl rfl rfl ⟨rfl, rfl, rfl, rfl, rfl⟩ rfl rfl rfl rfl rfl (by kernel_rfl) Try.func5 (by kernel_rfl)
    (of_decide_eq_true (by kernel_rfl)) (by unfold Func.isWrapper; first | (rw [if_pos (by decide +kernel)]; kernel_rfl) | (rw [if_neg (by decide +kernel)]; exact ⟨rfl, rfl⟩))
    (fun os started H enc _ => lifted os started H enc)
theorem proved : Rows.FnExactEdgeDegreesSaid := over
#print axioms proved
end Go.Proofs.Ytibkopejnhihkaa.fnExactEdgeDegrees
namespace Go.Proofs.Ytibkopejnhihkaa
/-- The row, under a short name, for the claim. -/
theorem fnExactEdgeDegrees_holds : Rows.FnExactEdgeDegreesSaid := fnExactEdgeDegrees.proved
end Go.Proofs.Ytibkopejnhihkaa
