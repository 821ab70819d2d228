-- Written by a program of this session, out of the translation.
import Derived.Test.YtibkopejnhihkaaPFnExactEulerOfx0
import Derived.Test.YtibkopejnhihkaaPFnExactEulerOfx2
import Derived.Test.YtibkopejnhihkaaPFnExactEulerOfx3
import Derived.Test.YtibkopejnhihkaaPFnExactEulerOfx9
import Derived.Test.YtibkopejnhihkaaPFnExactEulerOfx10
namespace Go.Proofs.Ytibkopejnhihkaa.PFnExactEulerOf
open Go.RowKit Go.Proofs.YtibkopejnhihkaaW.PrintWords Go.Proofs.YtibkopejnhihkaaW.PrintLast Go.Proofs.YtibkopejnhihkaaW.PrintMore
attribute [local go_sem] max2_int min2_int max_two min_two max_three min_three max_four min_four   -- for this text's walks alone
set_option linter.unusedVariables false
set_option linter.unusedSimpArgs false

/-! ### impl_isTriangulation: function 63 -/
/-- The face f of the tetrahedron a. -/
def tface (T : List (List S110)) (a f : Int) : S110 := (T.getD a.toNat ([] : List S110)).getD f.toNat z110
/-- Is it as in a valid triangulation? -/
def tgood (T : List (List S110)) (a f : Int) : Bool :=
 if (tface T a f).f0 = -1 then (tface T a f).f1 == 0
 else if 0 ≤ (tface T a f).f0 ∧ (tface T a f).f0 < T.length ∧ 0 ≤ (tface T a f).f1 ∧ (tface T a f).f1 < 24 then
  decide ((tface T (tface T a f).f0 (Core.pm (tface T a f).f1 f)).f0 = a ∧ (tface T (tface T a f).f0 (Core.pm (tface T a f).f1 f)).f1 = Core.invL (tface T a f).f1) && (decide ((tface T a f).f0 ≠ a) || decide (Core.pm (tface T a f).f1 f ≠ f))
 else false
def tfour (T : List (List S110)) : Bool := T.all fun x => decide (x.length = 4)
def tall (T : List (List S110)) (n : Nat) : Bool := (List.range n).all fun a => (List.range 4).all fun f => tgood T a f
/-- A valid triangulation. -/
def tri (T : List (List S110)) : Bool := decide (T.length ≤ 8) && (tfour T && tall T T.length)
theorem pm_bd (p f : Int) (h0 : 0 ≤ p) (h1 : p < 24) (hf0 : 0 ≤ f) (hf1 : f < 4) : 0 ≤ Core.pm p f ∧ Core.pm p f < 4 := by
 have h := Core.pmL_bd p h0 h1
 unfold Core.pm
 have hl : f.toNat < (Core.pmL p).length := by omega
 have hm := h.2 _ (List.getElem_mem hl)
 rw [List.getD_eq_getElem?_getD, List.getElem?_eq_getElem hl]
 simp only [Option.getD_some]
 omega
theorem row_four {T : List (List S110)} (h : tfour T = true) {a : Int} (h0 : 0 ≤ a) (h1 : a < T.length) : (T.getD a.toNat ([] : List S110)).length = 4 := by
 have hl : a.toNat < T.length := by omega
 unfold tfour at h
 rw [List.all_eq_true] at h
 have := h _ (List.getElem_mem hl)
 rw [List.getD_eq_getElem?_getD, List.getElem?_eq_getElem hl]
 simpa using this
theorem isGood_is (T : List (List S110)) (hn : T.length ≤ 8) (h4 : tfour T = true) (a f : Int) (ha0 : 0 ≤ a) (ha1 : a < T.length) (hf0 : 0 ≤ f) (hf1 : f < 4) : impl_Triangulation_isGood.f 1 T a f = some (tgood T a f) := by
 have hrow := row_four h4 ha0 ha1
 unfold impl_Triangulation_isGood.f
 rw [if_pos ha0, if_pos ha1, if_pos hf0]
 show (if f < ((T.getD a.toNat ([] : List S110)).length : Int) then _ else _) = _
 rw [if_pos (by omega)]
 show (if (tface T a f).f0 = -1 then some ((tface T a f).f1 == 0) else (impl_Face_153.f T (tface T a f).f0).bind _) = _
 unfold tgood
 by_cases h1 : (tface T a f).f0 = -1
 ·rw [if_pos h1, if_pos h1]
 ·rw [if_neg h1, if_neg h1]
  have hw : wrap64 ((T.length : Int) - 1) = T.length - 1 := by unfold wrap64; omega
  have hidx : impl_Face_153.f T (tface T a f).f0 = some (decide (0 ≤ (tface T a f).f0) && decide ((tface T a f).f0 ≤ T.length - 1)) := by
   unfold impl_Face_153.f impl_Face_81.f impl_inRange.f
   simp only [Option.bind_some, hw]
   by_cases h : 0 ≤ (tface T a f).f0 <;> simp [h]
  have hperm : impl_isPerm.f (tface T a f).f1 = some (decide (0 ≤ (tface T a f).f1) && decide ((tface T a f).f1 ≤ 23)) := by
   unfold impl_isPerm.f impl_inRange.f
   by_cases h : 0 ≤ (tface T a f).f1 <;> simp [h]
  rw [hidx]
  simp only [Option.bind_some]
  by_cases h2 : 0 ≤ (tface T a f).f0 ∧ (tface T a f).f0 < T.length
  ·have e2 : (decide (0 ≤ (tface T a f).f0) && decide ((tface T a f).f0 ≤ T.length - 1)) = true := by simp; omega
   rw [if_pos e2]
   show ((impl_isPerm.f (tface T a f).f1).bind _) = _
   rw [hperm]
   simp only [Option.bind_some]
   by_cases h3 : 0 ≤ (tface T a f).f1 ∧ (tface T a f).f1 < 24
   ·have e3 : (decide (0 ≤ (tface T a f).f1) && decide ((tface T a f).f1 ≤ 23)) = true := by simp; omega
    rw [e3, if_pos ⟨h2.1, h2.2, h3.1, h3.2⟩]
    show impl_Triangulation_isGood.j0 1 a f false T (tface T a f).f0 (tface T a f).f1 = _
    have hg := pm_bd (tface T a f).f1 f h3.1 h3.2 hf0 hf1
    have hrow2 := row_four h4 h2.1 h2.2
    simp only [impl_Triangulation_isGood.j0]
    unfold impl_Face_target.f
    rw [if_neg (by simp), if_pos ⟨h3.1, h3.2, hf0, hf1⟩]
    simp only [Option.bind_some]
    rw [if_pos h2.1, if_pos h2.2, if_pos hg.1]
    show (if Core.pm (tface T a f).f1 f < ((T.getD (tface T a f).f0.toNat ([] : List S110)).length : Int) then _ else _) = _
    rw [if_pos (by omega)]
    unfold impl_Face_partner.f impl_invert.f
    rw [if_pos ⟨h3.1, h3.2⟩]
    simp only [Option.bind_some]
    show (if ((tface T (tface T a f).f0 (Core.pm (tface T a f).f1 f)).f0 == a && ((tface T (tface T a f).f0 (Core.pm (tface T a f).f1 f)).f1 == Core.invL (tface T a f).f1)) = true then _ else _) = _
    by_cases h5 : (tface T (tface T a f).f0 (Core.pm (tface T a f).f1 f)).f0 = a ∧ (tface T (tface T a f).f0 (Core.pm (tface T a f).f1 f)).f1 = Core.invL (tface T a f).f1
    ·rw [if_pos (by simp [h5.1, h5.2])]
     by_cases h6 : (tface T a f).f0 = a
     ·rw [if_pos h6]; simp [h5.1, h5.2, h6]; rw [h6] at h5; simp [h5.1, h5.2]; by_cases h7 : Core.pm (tface T a f).f1 f = f <;> simp [h7]
     ·rw [if_neg h6]; simp [h5.1, h5.2, h6]
    ·rw [if_neg (by simpa using h5)]
     simp only [h5, decide_false, Bool.false_and]
   ·have e3 : (decide (0 ≤ (tface T a f).f1) && decide ((tface T a f).f1 ≤ 23)) = false := by simp; omega
    rw [e3, if_neg (by omega)]
    show impl_Triangulation_isGood.j0 1 a f true T (tface T a f).f0 (tface T a f).f1 = _
    simp only [impl_Triangulation_isGood.j0, if_true]
  ·have e2 : (decide (0 ≤ (tface T a f).f0) && decide ((tface T a f).f0 ≤ T.length - 1)) = false := by simp; omega
   rw [if_neg (by rw [e2]; simp), if_neg (by omega)]
   simp only [impl_Triangulation_isGood.j0, if_true]
/-- The faces as pairs. -/
def prs (T : List (List S110)) : List (List (Int × Int)) := T.map (List.map fun x => (x.f0, x.f1))
theorem prs_len (T : List (List S110)) : (prs T).length = T.length := by simp [prs]
theorem prs_four (T : List (List S110)) : ((prs T).all fun x => decide (x.length = 4)) = tfour T := by
 unfold prs tfour
 rw [List.all_map]
 congr 1
 funext x
 simp
theorem prs_tri (T : List (List S110)) : Core.triL (prs T) (fun a f => tgood T a f) = tri T := by
 unfold Core.triL tri
 rw [prs_len, prs_four]
 rfl
def impl_isTriangulation.f (l0_0 : List (List (S110))) : Option (Bool) := some (tri l0_0)
theorem impl_isTriangulation.calls (A0_0 : Option Addr) (c0_0 : Nat) (l0_0 : List (List (S110))) (r : Bool) (w : World) (hr0_0 : Kd.C (Kd.slice 110 k110) w A0_0 l0_0.length l0_0) (hc0_0 : l0_0.length ≤ c0_0) (h : impl_isTriangulation.f l0_0 = some r) :
  Calls Try.prog 63 #[.agg #[.slice A0_0 l0_0.length c0_0]] w fun e w' => e = .returned (.bool r) ∧ Below w.heap.size w w' := by
 obtain rfl := Option.some.inj h
 have hl := prs_len l0_0
 have hC : Kd.C (Kd.slice 110 Core.FK) w A0_0 (prs l0_0).length (prs l0_0) := by rw [hl]; exact Core.C_faces _ hr0_0
 rw [← prs_tri, ← hl]
 refine Core.isTriangulation_calls (prs l0_0) (fun a f => tgood l0_0 a f) A0_0 c0_0 w hC ?_
 intro h8 h4 a f W ha hf hB
 rw [prs_four] at h4
 rw [hl] at h8 ha ⊢
 exact impl_Triangulation_isGood.calls 1 A0_0 c0_0 l0_0 a f _ W (Kd.C_below hr0_0 hB) hc0_0 (isGood_is l0_0 h8 h4 a f (by omega) (by omega) (by omega) (by omega))

/-! ### impl_counting: function 97 -/
/-! ### impl_Face_isBoundary: function 135 -/
-- NOT PRINTED: function 117 (impl_Triangulation_glued)

-- NOT PRINTED: function 122 (impl_numbered)

-- NOT PRINTED: function 69 (impl_Triangulation_edgeClasses)

-- NOT PRINTED: function 123 (slices_Max_int64_int64)

-- NOT PRINTED: function 70 (impl_classCount)

-- NOT PRINTED: function 82 (impl_Triangulation_vertexClasses)

-- NOT PRINTED: function 83 (impl_Triangulation_faceClasses)

/-! ### impl_Triangulation_counts: function 65 -/
def impl_Triangulation_counts.f (l0_0 : List (List (S110))) : Option (List Int) := if tri l0_0 = true then some (Core.countsL (prs l0_0)) else none
theorem tri_fine {T : List (List S110)} (h : tri T = true) : Core.Fine (prs T) := by
 unfold tri at h
 simp only [Bool.and_eq_true, decide_eq_true_eq] at h
 obtain ⟨h8, h4, hA⟩ := h
 have hl := prs_len T
 refine ⟨by rw [hl]; exact h8, fun a ha => ?_⟩
 rw [hl] at ha
 have e1 : (prs T).getD a [] = (T.getD a []).map fun x => (x.f0, x.f1) := by
  simp [prs, List.getD_eq_getElem?_getD, List.getElem?_map, List.getElem?_eq_getElem ha]
 have r4 := row_four h4 (a := (a : Int)) (by omega) (by omega)
 rw [Int.toNat_natCast] at r4
 refine ⟨by rw [e1, List.length_map]; exact r4, fun f hf h0 => ?_⟩
 have e2 : ((prs T).getD a []).getD f (0, 0) = ((tface T a f).f0, (tface T a f).f1) := by
  rw [e1]
  unfold tface
  rw [Int.toNat_natCast, Int.toNat_natCast]
  have hf2 : f < (T.getD a []).length := by omega
  generalize T.getD a ([] : List S110) = row at hf2 ⊢
  rw [List.getD_eq_getElem?_getD, List.getD_eq_getElem?_getD, List.getElem?_map, List.getElem?_eq_getElem hf2]
  rfl
 rw [e2] at h0 ⊢
 unfold tall at hA
 rw [List.all_eq_true] at hA
 have hg := hA a (List.mem_range.2 ha)
 rw [List.all_eq_true] at hg
 have hg := hg f (List.mem_range.2 hf)
 unfold tgood at hg
 dsimp only at h0 ⊢
 rw [if_neg (by omega)] at hg
 rw [hl]
 split at hg
 ·rename_i h3
  exact ⟨h3.2.1, h3.2.2.1, h3.2.2.2⟩
 ·exact Bool.noConfusion hg
theorem impl_Triangulation_counts.calls (A0_0 : Option Addr) (c0_0 : Nat) (l0_0 : List (List (S110))) (r : List Int) (w : World) (hr0_0 : Kd.C (Kd.slice 110 k110) w A0_0 l0_0.length l0_0) (hc0_0 : l0_0.length ≤ c0_0) (h : impl_Triangulation_counts.f l0_0 = some r) :
  Calls Try.prog 65 #[.agg #[.slice A0_0 l0_0.length c0_0]] w fun e w' => ∃ v_, e = .returned v_ ∧ Kd.R (Kd.int .i64) 2 w' w.heap.size (fun _ => True) v_ r ∧ Below w.heap.size w w' := by
 unfold impl_Triangulation_counts.f at h
 split at h
 ·rename_i hc
  obtain rfl := Option.some.inj h
  have hl := prs_len l0_0
  have hC : Kd.C (Kd.slice 110 Core.FK) w A0_0 (prs l0_0).length (prs l0_0) := by rw [hl]; exact Core.C_faces _ hr0_0
  rw [← hl]
  exact Core.counts_calls (prs l0_0) (tri_fine hc) A0_0 c0_0 w hC
 ·exact absurd h (by simp)

/-! ### impl_EulerOf: function 21 -/
def impl_EulerOf.f (l0_0 : List (List (S110))) : Option (Int × Int) := (impl_isTriangulation.f l0_0).bind fun t334 => (if t334 = true then ((impl_Triangulation_counts.f l0_0).bind fun t335 => (if 0 < (t335.length : Int) then (if 1 < (t335.length : Int) then (if 2 < (t335.length : Int) then (if 3 < (t335.length : Int) then (some (wrap64 ((wrap64 ((wrap64 ((rd t335 0) - (rd t335 1))) + (rd t335 2))) - (rd t335 3)), 0)) else (none)) else (none)) else (none)) else (none))) else (some (0, 1)))
set_option maxHeartbeats 8000000 in
set_option maxRecDepth 100000 in
theorem impl_EulerOf.calls (A0_0 : Option Addr) (c0_0 : Nat) (l0_0 : List (List (S110))) (r1 : Int) (r2 : Int) (w : World) (hr0_0 : Kd.C (Kd.slice 110 k110) w A0_0 l0_0.length l0_0) (hc0_0 : l0_0.length ≤ c0_0) (h : impl_EulerOf.f l0_0 = some (r1, r2)) :
  Calls Try.prog 21 #[.agg #[.slice A0_0 l0_0.length c0_0]] w fun e w' => e = .returned (.tuple #[.int .i64 r1, .int .i64 r2]) ∧ Below w.heap.size w w' := by
 have hu29 := Try.underlying29
 have HR0_0 := Aside0.mk hr0_0
 have HC0_0 := Aside0.mk hc0_0
 clear hr0_0 hc0_0
 have HB := Aside0.mk (Below.refl w.heap.size w)
 have H : ((impl_isTriangulation.f l0_0).bind fun t334 => (if t334 = true then ((impl_Triangulation_counts.f l0_0).bind fun t335 => (if 0 < (t335.length : Int) then (if 1 < (t335.length : Int) then (if 2 < (t335.length : Int) then (if 3 < (t335.length : Int) then (some (wrap64 ((wrap64 ((wrap64 ((rd t335 0) - (rd t335 1))) + (rd t335 2))) - (rd t335 3)), 0)) else (none)) else (none)) else (none)) else (none))) else (some (0, 1)))) = some (r1, r2) := h
 clear h
 replace H := Option.bind_eq_some_iff.mp H
 obtain ⟨t334, A20, H⟩ := H
 replace H : (if t334 = true then ((impl_Triangulation_counts.f l0_0).bind fun t335 => (if 0 < (t335.length : Int) then (if 1 < (t335.length : Int) then (if 2 < (t335.length : Int) then (if 3 < (t335.length : Int) then (some (wrap64 ((wrap64 ((wrap64 ((rd t335 0) - (rd t335 1))) + (rd t335 2))) - (rd t335 3)), 0)) else (none)) else (none)) else (none)) else (none))) else (some (0, 1))) = some (r1, r2) := H
 have A2 := Aside0.mk A20
 clear A20
 by_cases c3 : t334 = true
 ·subst c3
  have H1 : ((impl_Triangulation_counts.f l0_0).bind fun t335 => (if 0 < (t335.length : Int) then (if 1 < (t335.length : Int) then (if 2 < (t335.length : Int) then (if 3 < (t335.length : Int) then (some (wrap64 ((wrap64 ((wrap64 ((rd t335 0) - (rd t335 1))) + (rd t335 2))) - (rd t335 3)), 0)) else (none)) else (none)) else (none)) else (none))) = some (r1, r2) := by rw [if_pos rfl] at H; exact H
  clear H
  have H := H1
  clear H1
  replace H := Option.bind_eq_some_iff.mp H
  obtain ⟨t335, A40, H⟩ := H
  replace H : (if 0 < (t335.length : Int) then (if 1 < (t335.length : Int) then (if 2 < (t335.length : Int) then (if 3 < (t335.length : Int) then (some (wrap64 ((wrap64 ((wrap64 ((rd t335 0) - (rd t335 1))) + (rd t335 2))) - (rd t335 3)), 0)) else (none)) else (none)) else (none)) else (none)) = some (r1, r2) := H
  have A4 := Aside0.mk A40
  clear A40
  by_cases c5 : 0 < (t335.length : Int)
  ·rw [if_pos c5] at H
   have c5b0 : decide (0 < (t335.length : Int)) = true := decide_eq_true c5
   have c5b1 : decide (0 < t335.length) = true := decide_eq_true (by omega)
   clear c5
   by_cases c6 : 1 < (t335.length : Int)
   ·rw [if_pos c6] at H
    have c6b0 : decide (1 < (t335.length : Int)) = true := decide_eq_true c6
    have c6b1 : decide (1 < t335.length) = true := decide_eq_true (by omega)
    clear c6
    by_cases c7 : 2 < (t335.length : Int)
    ·rw [if_pos c7] at H
     have c7b0 : decide (2 < (t335.length : Int)) = true := decide_eq_true c7
     have c7b1 : decide (2 < t335.length) = true := decide_eq_true (by omega)
     clear c7
     by_cases c8 : 3 < (t335.length : Int)
     ·rw [if_pos c8] at H
      have c8b0 : decide (3 < (t335.length : Int)) = true := decide_eq_true c8
      have c8b1 : decide (3 < t335.length) = true := decide_eq_true (by omega)
      clear c8
      simp only [Option.some.injEq, Prod.mk.injEq] at H
      obtain ⟨rfl, rfl⟩ := H
      go_enter Try.func21, Try.ntmps21
      go_wp2_with (first | ((with_reducible refine gate_dst (N := 1) rfl ?_); refine box_event ?hg (N := 1) ?hd (cs := #[.slice A0_0 l0_0.length c0_0]) (t := 29) ?hr ?_; (case hd => rfl); (case hg => rfl); (case hr => first | (go_simp; done) | (go_simp; rfl)); intro gb333 hg w9 hbox hb; have n0_ := Aside0.mk (below_step (by repeat (first | (with_reducible first | exact HB.out | apply below_alloc | apply pw_below_drewN | apply below_drew1) | exact HB.out)) hb); have n1_ := Aside0.mk (hbox); have n2_ := Aside0.mk ((by rw [hg]; exact (below_size (by repeat (first | (with_reducible first | exact HB.out | apply below_alloc | apply pw_below_drewN | apply below_drew1) | exact HB.out))) : w.heap.size ≤ gb333)); have n3_ := Aside0.mk ((by rw [hg]; exact (below_size (by repeat (first | (with_reducible first | exact HB.out | apply below_alloc | apply pw_below_drewN | apply below_drew1) | exact HB.out))) : w.heap.size ≤ gb333)); clear HB; have HB := n0_; have BK333 := n1_; have GW333 := n2_; have GE333 := n3_; clear n0_ n1_ n2_ n3_; clear hb hbox hg; have hcz10_0 : w9.cell? ⟨gb333, 0, none⟩ = some (.slice A0_0 l0_0.length c0_0) := (blk_cell BK333.out 0).trans rfl; have hfz10_0 := blk_frozen BK333.out 0) | (go_at_call 63; (with_reducible refine (impl_isTriangulation.calls _ _ l0_0 true _ ?side1 ?side2 A2.out).mono ?_); (case side1 => repeat (first | exact (Kd.C_below HR0_0.out HB.out) | (with_reducible refine Kd.C_alloc ?_ _) | (with_reducible refine Kd.C_drewN ?_ _) | (with_reducible refine Kd.C_drew ?_))); (case side2 => exact HC0_0.out); rintro e w11 ⟨rfl, hb⟩; have n0_ := Aside0.mk (blk_below (g := gb333) (o := .cells #[.slice A0_0 l0_0.length c0_0] 29 (0, 0)) (by (with_reducible repeat (first | refine blk_drewN ?_ _ | refine blk_drew ?_ | refine blk_alloc ?_ _)); exact BK333.out) hb); have n1_ := Aside0.mk (below_step (by repeat (first | (with_reducible first | exact HB.out | apply below_alloc | apply pw_below_drewN | apply below_drew1 | refine below_set ?_ GE333.out) | exact HB.out)) hb); clear BK333; clear HB; have BK333 := n0_; have HB := n1_; clear n0_ n1_; (try clear hb); (try clear hb2); (try clear hk); (try clear hi); have hcz12_0 : w11.cell? ⟨gb333, 0, none⟩ = some (.slice A0_0 l0_0.length c0_0) := (blk_cell BK333.out 0).trans rfl; have hfz12_0 := blk_frozen BK333.out 0) | (go_at_call 65; (with_reducible refine (impl_Triangulation_counts.calls _ _ l0_0 t335 _ ?side1 ?side2 A4.out).mono ?_); (case side1 => repeat (first | exact (Kd.C_below HR0_0.out HB.out) | (with_reducible refine Kd.C_alloc ?_ _) | (with_reducible refine Kd.C_drewN ?_ _) | (with_reducible refine Kd.C_drew ?_))); (case side2 => exact HC0_0.out); rintro e w13 ⟨v336, rfl, ho0, hb⟩; have n0_ := Aside0.mk (Kd.R_lower ho0 (below_size (by repeat (first | (with_reducible first | exact HB.out | apply below_alloc | apply pw_below_drewN | apply below_drew1 | refine below_set ?_ GE333.out) | exact HB.out)))); have n1_ := Aside0.mk (blk_below (g := gb333) (o := .cells #[.slice A0_0 l0_0.length c0_0] 29 (0, 0)) (by (with_reducible repeat (first | refine blk_drewN ?_ _ | refine blk_drew ?_ | refine blk_alloc ?_ _)); exact BK333.out) hb); have n2_ := Aside0.mk (below_step (by repeat (first | (with_reducible first | exact HB.out | apply below_alloc | apply pw_below_drewN | apply below_drew1 | refine below_set ?_ GE333.out) | exact HB.out)) hb); clear BK333; clear HB; have HO337 := n0_; have BK333 := n1_; have HB := n2_; clear n0_ n1_ n2_; (try clear hb); (try clear hb2); (try clear hk); (try clear hi); (try clear ho0); obtain ⟨Ao14, co14, eo14⟩ := Kd.R_slice HO337.out; subst eo14; have p338 : 0 ≤ (0 : Int) := (by omega); have q338 : 0 < (t335.length : Int) := of_decide_eq_true (by first | (with_reducible assumption) | assumption); obtain ⟨ad338, e338, hx338_0⟩ := Kd.at_int (Kd.R_reads' HO337.out).2.2 0 p338 q338; cases e338; have qi338 : (0 < t335.length) = True := eq_true (by omega); (try rw [show ((0 : Int)).toNat = 0 from rfl] at hx338_0); (try rw [Addr.add_zero'] at hx338_0); replace p338 := eq_true p338; replace q338 := eq_true q338; have p339 : 0 ≤ (1 : Int) := (by omega); have q339 : 1 < (t335.length : Int) := of_decide_eq_true (by first | (with_reducible assumption) | assumption); obtain ⟨ad339, e339, hx339_0⟩ := Kd.at_int (Kd.R_reads' HO337.out).2.2 1 p339 q339; obtain rfl : ad338 = ad339 := (by injection e339); (try simp only [show (1 : Int).toNat = 1 from rfl, Nat.reduceMul, Nat.reduceEqDiff, Go.Addr.add, ↓reduceIte] at hx339_0); have qi339 : (1 < t335.length) = True := eq_true (by omega); (try rw [show ((1 : Int)).toNat = 1 from rfl] at hx339_0); replace p339 := eq_true p339; replace q339 := eq_true q339; have p340 : 0 ≤ (2 : Int) := (by omega); have q340 : 2 < (t335.length : Int) := of_decide_eq_true (by first | (with_reducible assumption) | assumption); obtain ⟨ad340, e340, hx340_0⟩ := Kd.at_int (Kd.R_reads' HO337.out).2.2 2 p340 q340; obtain rfl : ad338 = ad340 := (by injection e340); (try simp only [show (2 : Int).toNat = 2 from rfl, Nat.reduceMul, Nat.reduceEqDiff, Go.Addr.add, ↓reduceIte] at hx340_0); have qi340 : (2 < t335.length) = True := eq_true (by omega); (try rw [show ((2 : Int)).toNat = 2 from rfl] at hx340_0); replace p340 := eq_true p340; replace q340 := eq_true q340; have p341 : 0 ≤ (3 : Int) := (by omega); have q341 : 3 < (t335.length : Int) := of_decide_eq_true (by first | (with_reducible assumption) | assumption); obtain ⟨ad341, e341, hx341_0⟩ := Kd.at_int (Kd.R_reads' HO337.out).2.2 3 p341 q341; obtain rfl : ad338 = ad341 := (by injection e341); (try simp only [show (3 : Int).toNat = 3 from rfl, Nat.reduceMul, Nat.reduceEqDiff, Go.Addr.add, ↓reduceIte] at hx341_0); have qi341 : (3 < t335.length) = True := eq_true (by omega); (try rw [show ((3 : Int)).toNat = 3 from rfl] at hx341_0); replace p341 := eq_true p341; replace q341 := eq_true q341))
      repeat (go_quiet (first | ((with_reducible refine gate_dst (N := 1) rfl ?_); refine box_event ?hg (N := 1) ?hd (cs := #[.slice A0_0 l0_0.length c0_0]) (t := 29) ?hr ?_; (case hd => rfl); (case hg => rfl); (case hr => first | (go_simp; done) | (go_simp; rfl)); intro gb333 hg w9 hbox hb; have n0_ := Aside0.mk (below_step (by repeat (first | (with_reducible first | exact HB.out | apply below_alloc | apply pw_below_drewN | apply below_drew1) | exact HB.out)) hb); have n1_ := Aside0.mk (hbox); have n2_ := Aside0.mk ((by rw [hg]; exact (below_size (by repeat (first | (with_reducible first | exact HB.out | apply below_alloc | apply pw_below_drewN | apply below_drew1) | exact HB.out))) : w.heap.size ≤ gb333)); have n3_ := Aside0.mk ((by rw [hg]; exact (below_size (by repeat (first | (with_reducible first | exact HB.out | apply below_alloc | apply pw_below_drewN | apply below_drew1) | exact HB.out))) : w.heap.size ≤ gb333)); clear HB; have HB := n0_; have BK333 := n1_; have GW333 := n2_; have GE333 := n3_; clear n0_ n1_ n2_ n3_; clear hb hbox hg; have hcz10_0 : w9.cell? ⟨gb333, 0, none⟩ = some (.slice A0_0 l0_0.length c0_0) := (blk_cell BK333.out 0).trans rfl; have hfz10_0 := blk_frozen BK333.out 0) | (go_at_call 63; (with_reducible refine (impl_isTriangulation.calls _ _ l0_0 true _ ?side1 ?side2 A2.out).mono ?_); (case side1 => repeat (first | exact (Kd.C_below HR0_0.out HB.out) | (with_reducible refine Kd.C_alloc ?_ _) | (with_reducible refine Kd.C_drewN ?_ _) | (with_reducible refine Kd.C_drew ?_))); (case side2 => exact HC0_0.out); rintro e w11 ⟨rfl, hb⟩; have n0_ := Aside0.mk (blk_below (g := gb333) (o := .cells #[.slice A0_0 l0_0.length c0_0] 29 (0, 0)) (by (with_reducible repeat (first | refine blk_drewN ?_ _ | refine blk_drew ?_ | refine blk_alloc ?_ _)); exact BK333.out) hb); have n1_ := Aside0.mk (below_step (by repeat (first | (with_reducible first | exact HB.out | apply below_alloc | apply pw_below_drewN | apply below_drew1 | refine below_set ?_ GE333.out) | exact HB.out)) hb); clear BK333; clear HB; have BK333 := n0_; have HB := n1_; clear n0_ n1_; (try clear hb); (try clear hb2); (try clear hk); (try clear hi); have hcz12_0 : w11.cell? ⟨gb333, 0, none⟩ = some (.slice A0_0 l0_0.length c0_0) := (blk_cell BK333.out 0).trans rfl; have hfz12_0 := blk_frozen BK333.out 0) | (go_at_call 65; (with_reducible refine (impl_Triangulation_counts.calls _ _ l0_0 t335 _ ?side1 ?side2 A4.out).mono ?_); (case side1 => repeat (first | exact (Kd.C_below HR0_0.out HB.out) | (with_reducible refine Kd.C_alloc ?_ _) | (with_reducible refine Kd.C_drewN ?_ _) | (with_reducible refine Kd.C_drew ?_))); (case side2 => exact HC0_0.out); rintro e w13 ⟨v336, rfl, ho0, hb⟩; have n0_ := Aside0.mk (Kd.R_lower ho0 (below_size (by repeat (first | (with_reducible first | exact HB.out | apply below_alloc | apply pw_below_drewN | apply below_drew1 | refine below_set ?_ GE333.out) | exact HB.out)))); have n1_ := Aside0.mk (blk_below (g := gb333) (o := .cells #[.slice A0_0 l0_0.length c0_0] 29 (0, 0)) (by (with_reducible repeat (first | refine blk_drewN ?_ _ | refine blk_drew ?_ | refine blk_alloc ?_ _)); exact BK333.out) hb); have n2_ := Aside0.mk (below_step (by repeat (first | (with_reducible first | exact HB.out | apply below_alloc | apply pw_below_drewN | apply below_drew1 | refine below_set ?_ GE333.out) | exact HB.out)) hb); clear BK333; clear HB; have HO337 := n0_; have BK333 := n1_; have HB := n2_; clear n0_ n1_ n2_; (try clear hb); (try clear hb2); (try clear hk); (try clear hi); (try clear ho0); obtain ⟨Ao14, co14, eo14⟩ := Kd.R_slice HO337.out; subst eo14; have p338 : 0 ≤ (0 : Int) := (by omega); have q338 : 0 < (t335.length : Int) := of_decide_eq_true (by first | (with_reducible assumption) | assumption); obtain ⟨ad338, e338, hx338_0⟩ := Kd.at_int (Kd.R_reads' HO337.out).2.2 0 p338 q338; cases e338; have qi338 : (0 < t335.length) = True := eq_true (by omega); (try rw [show ((0 : Int)).toNat = 0 from rfl] at hx338_0); (try rw [Addr.add_zero'] at hx338_0); replace p338 := eq_true p338; replace q338 := eq_true q338; have p339 : 0 ≤ (1 : Int) := (by omega); have q339 : 1 < (t335.length : Int) := of_decide_eq_true (by first | (with_reducible assumption) | assumption); obtain ⟨ad339, e339, hx339_0⟩ := Kd.at_int (Kd.R_reads' HO337.out).2.2 1 p339 q339; obtain rfl : ad338 = ad339 := (by injection e339); (try simp only [show (1 : Int).toNat = 1 from rfl, Nat.reduceMul, Nat.reduceEqDiff, Go.Addr.add, ↓reduceIte] at hx339_0); have qi339 : (1 < t335.length) = True := eq_true (by omega); (try rw [show ((1 : Int)).toNat = 1 from rfl] at hx339_0); replace p339 := eq_true p339; replace q339 := eq_true q339; have p340 : 0 ≤ (2 : Int) := (by omega); have q340 : 2 < (t335.length : Int) := of_decide_eq_true (by first | (with_reducible assumption) | assumption); obtain ⟨ad340, e340, hx340_0⟩ := Kd.at_int (Kd.R_reads' HO337.out).2.2 2 p340 q340; obtain rfl : ad338 = ad340 := (by injection e340); (try simp only [show (2 : Int).toNat = 2 from rfl, Nat.reduceMul, Nat.reduceEqDiff, Go.Addr.add, ↓reduceIte] at hx340_0); have qi340 : (2 < t335.length) = True := eq_true (by omega); (try rw [show ((2 : Int)).toNat = 2 from rfl] at hx340_0); replace p340 := eq_true p340; replace q340 := eq_true q340; have p341 : 0 ≤ (3 : Int) := (by omega); have q341 : 3 < (t335.length : Int) := of_decide_eq_true (by first | (with_reducible assumption) | assumption); obtain ⟨ad341, e341, hx341_0⟩ := Kd.at_int (Kd.R_reads' HO337.out).2.2 3 p341 q341; obtain rfl : ad338 = ad341 := (by injection e341); (try simp only [show (3 : Int).toNat = 3 from rfl, Nat.reduceMul, Nat.reduceEqDiff, Go.Addr.add, ↓reduceIte] at hx341_0); have qi341 : (3 < t335.length) = True := eq_true (by omega); (try rw [show ((3 : Int)).toNat = 3 from rfl] at hx341_0); replace p341 := eq_true p341; replace q341 := eq_true q341)); try go_wp2_with (first | ((with_reducible refine gate_dst (N := 1) rfl ?_); refine box_event ?hg (N := 1) ?hd (cs := #[.slice A0_0 l0_0.length c0_0]) (t := 29) ?hr ?_; (case hd => rfl); (case hg => rfl); (case hr => first | (go_simp; done) | (go_simp; rfl)); intro gb333 hg w9 hbox hb; have n0_ := Aside0.mk (below_step (by repeat (first | (with_reducible first | exact HB.out | apply below_alloc | apply pw_below_drewN | apply below_drew1) | exact HB.out)) hb); have n1_ := Aside0.mk (hbox); have n2_ := Aside0.mk ((by rw [hg]; exact (below_size (by repeat (first | (with_reducible first | exact HB.out | apply below_alloc | apply pw_below_drewN | apply below_drew1) | exact HB.out))) : w.heap.size ≤ gb333)); have n3_ := Aside0.mk ((by rw [hg]; exact (below_size (by repeat (first | (with_reducible first | exact HB.out | apply below_alloc | apply pw_below_drewN | apply below_drew1) | exact HB.out))) : w.heap.size ≤ gb333)); clear HB; have HB := n0_; have BK333 := n1_; have GW333 := n2_; have GE333 := n3_; clear n0_ n1_ n2_ n3_; clear hb hbox hg; have hcz10_0 : w9.cell? ⟨gb333, 0, none⟩ = some (.slice A0_0 l0_0.length c0_0) := (blk_cell BK333.out 0).trans rfl; have hfz10_0 := blk_frozen BK333.out 0) | (go_at_call 63; (with_reducible refine (impl_isTriangulation.calls _ _ l0_0 true _ ?side1 ?side2 A2.out).mono ?_); (case side1 => repeat (first | exact (Kd.C_below HR0_0.out HB.out) | (with_reducible refine Kd.C_alloc ?_ _) | (with_reducible refine Kd.C_drewN ?_ _) | (with_reducible refine Kd.C_drew ?_))); (case side2 => exact HC0_0.out); rintro e w11 ⟨rfl, hb⟩; have n0_ := Aside0.mk (blk_below (g := gb333) (o := .cells #[.slice A0_0 l0_0.length c0_0] 29 (0, 0)) (by (with_reducible repeat (first | refine blk_drewN ?_ _ | refine blk_drew ?_ | refine blk_alloc ?_ _)); exact BK333.out) hb); have n1_ := Aside0.mk (below_step (by repeat (first | (with_reducible first | exact HB.out | apply below_alloc | apply pw_below_drewN | apply below_drew1 | refine below_set ?_ GE333.out) | exact HB.out)) hb); clear BK333; clear HB; have BK333 := n0_; have HB := n1_; clear n0_ n1_; (try clear hb); (try clear hb2); (try clear hk); (try clear hi); have hcz12_0 : w11.cell? ⟨gb333, 0, none⟩ = some (.slice A0_0 l0_0.length c0_0) := (blk_cell BK333.out 0).trans rfl; have hfz12_0 := blk_frozen BK333.out 0) | (go_at_call 65; (with_reducible refine (impl_Triangulation_counts.calls _ _ l0_0 t335 _ ?side1 ?side2 A4.out).mono ?_); (case side1 => repeat (first | exact (Kd.C_below HR0_0.out HB.out) | (with_reducible refine Kd.C_alloc ?_ _) | (with_reducible refine Kd.C_drewN ?_ _) | (with_reducible refine Kd.C_drew ?_))); (case side2 => exact HC0_0.out); rintro e w13 ⟨v336, rfl, ho0, hb⟩; have n0_ := Aside0.mk (Kd.R_lower ho0 (below_size (by repeat (first | (with_reducible first | exact HB.out | apply below_alloc | apply pw_below_drewN | apply below_drew1 | refine below_set ?_ GE333.out) | exact HB.out)))); have n1_ := Aside0.mk (blk_below (g := gb333) (o := .cells #[.slice A0_0 l0_0.length c0_0] 29 (0, 0)) (by (with_reducible repeat (first | refine blk_drewN ?_ _ | refine blk_drew ?_ | refine blk_alloc ?_ _)); exact BK333.out) hb); have n2_ := Aside0.mk (below_step (by repeat (first | (with_reducible first | exact HB.out | apply below_alloc | apply pw_below_drewN | apply below_drew1 | refine below_set ?_ GE333.out) | exact HB.out)) hb); clear BK333; clear HB; have HO337 := n0_; have BK333 := n1_; have HB := n2_; clear n0_ n1_ n2_; (try clear hb); (try clear hb2); (try clear hk); (try clear hi); (try clear ho0); obtain ⟨Ao14, co14, eo14⟩ := Kd.R_slice HO337.out; subst eo14; have p338 : 0 ≤ (0 : Int) := (by omega); have q338 : 0 < (t335.length : Int) := of_decide_eq_true (by first | (with_reducible assumption) | assumption); obtain ⟨ad338, e338, hx338_0⟩ := Kd.at_int (Kd.R_reads' HO337.out).2.2 0 p338 q338; cases e338; have qi338 : (0 < t335.length) = True := eq_true (by omega); (try rw [show ((0 : Int)).toNat = 0 from rfl] at hx338_0); (try rw [Addr.add_zero'] at hx338_0); replace p338 := eq_true p338; replace q338 := eq_true q338; have p339 : 0 ≤ (1 : Int) := (by omega); have q339 : 1 < (t335.length : Int) := of_decide_eq_true (by first | (with_reducible assumption) | assumption); obtain ⟨ad339, e339, hx339_0⟩ := Kd.at_int (Kd.R_reads' HO337.out).2.2 1 p339 q339; obtain rfl : ad338 = ad339 := (by injection e339); (try simp only [show (1 : Int).toNat = 1 from rfl, Nat.reduceMul, Nat.reduceEqDiff, Go.Addr.add, ↓reduceIte] at hx339_0); have qi339 : (1 < t335.length) = True := eq_true (by omega); (try rw [show ((1 : Int)).toNat = 1 from rfl] at hx339_0); replace p339 := eq_true p339; replace q339 := eq_true q339; have p340 : 0 ≤ (2 : Int) := (by omega); have q340 : 2 < (t335.length : Int) := of_decide_eq_true (by first | (with_reducible assumption) | assumption); obtain ⟨ad340, e340, hx340_0⟩ := Kd.at_int (Kd.R_reads' HO337.out).2.2 2 p340 q340; obtain rfl : ad338 = ad340 := (by injection e340); (try simp only [show (2 : Int).toNat = 2 from rfl, Nat.reduceMul, Nat.reduceEqDiff, Go.Addr.add, ↓reduceIte] at hx340_0); have qi340 : (2 < t335.length) = True := eq_true (by omega); (try rw [show ((2 : Int)).toNat = 2 from rfl] at hx340_0); replace p340 := eq_true p340; replace q340 := eq_true q340; have p341 : 0 ≤ (3 : Int) := (by omega); have q341 : 3 < (t335.length : Int) := of_decide_eq_true (by first | (with_reducible assumption) | assumption); obtain ⟨ad341, e341, hx341_0⟩ := Kd.at_int (Kd.R_reads' HO337.out).2.2 3 p341 q341; obtain rfl : ad338 = ad341 := (by injection e341); (try simp only [show (3 : Int).toNat = 3 from rfl, Nat.reduceMul, Nat.reduceEqDiff, Go.Addr.add, ↓reduceIte] at hx341_0); have qi341 : (3 < t335.length) = True := eq_true (by omega); (try rw [show ((3 : Int)).toNat = 3 from rfl] at hx341_0); replace p341 := eq_true p341; replace q341 := eq_true q341)))
      go_ret2
      exact ⟨by first | rfl | (simp [errW_none, errW_some] <;> rfl) | (simp [*, errW_none, errW_some] <;> rfl), by repeat (first | (with_reducible first | exact HB.out | apply below_alloc | apply pw_below_drewN | apply below_drew1 | refine below_set ?_ GE333.out) | exact HB.out)⟩
     ·rw [if_neg c8] at H
      exact absurd H (by simp)
    ·rw [if_neg c7] at H
     exact absurd H (by simp)
   ·rw [if_neg c6] at H
    exact absurd H (by simp)
  ·rw [if_neg c5] at H
   exact absurd H (by simp)
 ·replace c3 := Bool.eq_false_iff.mpr c3
  subst c3
  have H1 : (some (0, 1)) = some (r1, r2) := by rw [if_neg (show ¬ (false = true) by decide)] at H; exact H
  clear H
  have H := H1
  clear H1
  simp only [Option.some.injEq, Prod.mk.injEq] at H
  obtain ⟨rfl, rfl⟩ := H
  go_enter Try.func21, Try.ntmps21
  go_wp2_with (first | ((with_reducible refine gate_dst (N := 1) rfl ?_); refine box_event ?hg (N := 1) ?hd (cs := #[.slice A0_0 l0_0.length c0_0]) (t := 29) ?hr ?_; (case hd => rfl); (case hg => rfl); (case hr => first | (go_simp; done) | (go_simp; rfl)); intro gb333 hg w15 hbox hb; have n0_ := Aside0.mk (below_step (by repeat (first | (with_reducible first | exact HB.out | apply below_alloc | apply pw_below_drewN | apply below_drew1) | exact HB.out)) hb); have n1_ := Aside0.mk (hbox); have n2_ := Aside0.mk ((by rw [hg]; exact (below_size (by repeat (first | (with_reducible first | exact HB.out | apply below_alloc | apply pw_below_drewN | apply below_drew1) | exact HB.out))) : w.heap.size ≤ gb333)); have n3_ := Aside0.mk ((by rw [hg]; exact (below_size (by repeat (first | (with_reducible first | exact HB.out | apply below_alloc | apply pw_below_drewN | apply below_drew1) | exact HB.out))) : w.heap.size ≤ gb333)); clear HB; have HB := n0_; have BK333 := n1_; have GW333 := n2_; have GE333 := n3_; clear n0_ n1_ n2_ n3_; clear hb hbox hg; have hcz16_0 : w15.cell? ⟨gb333, 0, none⟩ = some (.slice A0_0 l0_0.length c0_0) := (blk_cell BK333.out 0).trans rfl; have hfz16_0 := blk_frozen BK333.out 0) | (go_at_call 63; (with_reducible refine (impl_isTriangulation.calls _ _ l0_0 false _ ?side1 ?side2 A2.out).mono ?_); (case side1 => repeat (first | exact (Kd.C_below HR0_0.out HB.out) | (with_reducible refine Kd.C_alloc ?_ _) | (with_reducible refine Kd.C_drewN ?_ _) | (with_reducible refine Kd.C_drew ?_))); (case side2 => exact HC0_0.out); rintro e w17 ⟨rfl, hb⟩; have n0_ := Aside0.mk (blk_below (g := gb333) (o := .cells #[.slice A0_0 l0_0.length c0_0] 29 (0, 0)) (by (with_reducible repeat (first | refine blk_drewN ?_ _ | refine blk_drew ?_ | refine blk_alloc ?_ _)); exact BK333.out) hb); have n1_ := Aside0.mk (below_step (by repeat (first | (with_reducible first | exact HB.out | apply below_alloc | apply pw_below_drewN | apply below_drew1 | refine below_set ?_ GE333.out) | exact HB.out)) hb); clear BK333; clear HB; have BK333 := n0_; have HB := n1_; clear n0_ n1_; (try clear hb); (try clear hb2); (try clear hk); (try clear hi)))
  repeat (go_quiet (first | ((with_reducible refine gate_dst (N := 1) rfl ?_); refine box_event ?hg (N := 1) ?hd (cs := #[.slice A0_0 l0_0.length c0_0]) (t := 29) ?hr ?_; (case hd => rfl); (case hg => rfl); (case hr => first | (go_simp; done) | (go_simp; rfl)); intro gb333 hg w15 hbox hb; have n0_ := Aside0.mk (below_step (by repeat (first | (with_reducible first | exact HB.out | apply below_alloc | apply pw_below_drewN | apply below_drew1) | exact HB.out)) hb); have n1_ := Aside0.mk (hbox); have n2_ := Aside0.mk ((by rw [hg]; exact (below_size (by repeat (first | (with_reducible first | exact HB.out | apply below_alloc | apply pw_below_drewN | apply below_drew1) | exact HB.out))) : w.heap.size ≤ gb333)); have n3_ := Aside0.mk ((by rw [hg]; exact (below_size (by repeat (first | (with_reducible first | exact HB.out | apply below_alloc | apply pw_below_drewN | apply below_drew1) | exact HB.out))) : w.heap.size ≤ gb333)); clear HB; have HB := n0_; have BK333 := n1_; have GW333 := n2_; have GE333 := n3_; clear n0_ n1_ n2_ n3_; clear hb hbox hg; have hcz16_0 : w15.cell? ⟨gb333, 0, none⟩ = some (.slice A0_0 l0_0.length c0_0) := (blk_cell BK333.out 0).trans rfl; have hfz16_0 := blk_frozen BK333.out 0) | (go_at_call 63; (with_reducible refine (impl_isTriangulation.calls _ _ l0_0 false _ ?side1 ?side2 A2.out).mono ?_); (case side1 => repeat (first | exact (Kd.C_below HR0_0.out HB.out) | (with_reducible refine Kd.C_alloc ?_ _) | (with_reducible refine Kd.C_drewN ?_ _) | (with_reducible refine Kd.C_drew ?_))); (case side2 => exact HC0_0.out); rintro e w17 ⟨rfl, hb⟩; have n0_ := Aside0.mk (blk_below (g := gb333) (o := .cells #[.slice A0_0 l0_0.length c0_0] 29 (0, 0)) (by (with_reducible repeat (first | refine blk_drewN ?_ _ | refine blk_drew ?_ | refine blk_alloc ?_ _)); exact BK333.out) hb); have n1_ := Aside0.mk (below_step (by repeat (first | (with_reducible first | exact HB.out | apply below_alloc | apply pw_below_drewN | apply below_drew1 | refine below_set ?_ GE333.out) | exact HB.out)) hb); clear BK333; clear HB; have BK333 := n0_; have HB := n1_; clear n0_ n1_; (try clear hb); (try clear hb2); (try clear hk); (try clear hi))); try go_wp2_with (first | ((with_reducible refine gate_dst (N := 1) rfl ?_); refine box_event ?hg (N := 1) ?hd (cs := #[.slice A0_0 l0_0.length c0_0]) (t := 29) ?hr ?_; (case hd => rfl); (case hg => rfl); (case hr => first | (go_simp; done) | (go_simp; rfl)); intro gb333 hg w15 hbox hb; have n0_ := Aside0.mk (below_step (by repeat (first | (with_reducible first | exact HB.out | apply below_alloc | apply pw_below_drewN | apply below_drew1) | exact HB.out)) hb); have n1_ := Aside0.mk (hbox); have n2_ := Aside0.mk ((by rw [hg]; exact (below_size (by repeat (first | (with_reducible first | exact HB.out | apply below_alloc | apply pw_below_drewN | apply below_drew1) | exact HB.out))) : w.heap.size ≤ gb333)); have n3_ := Aside0.mk ((by rw [hg]; exact (below_size (by repeat (first | (with_reducible first | exact HB.out | apply below_alloc | apply pw_below_drewN | apply below_drew1) | exact HB.out))) : w.heap.size ≤ gb333)); clear HB; have HB := n0_; have BK333 := n1_; have GW333 := n2_; have GE333 := n3_; clear n0_ n1_ n2_ n3_; clear hb hbox hg; have hcz16_0 : w15.cell? ⟨gb333, 0, none⟩ = some (.slice A0_0 l0_0.length c0_0) := (blk_cell BK333.out 0).trans rfl; have hfz16_0 := blk_frozen BK333.out 0) | (go_at_call 63; (with_reducible refine (impl_isTriangulation.calls _ _ l0_0 false _ ?side1 ?side2 A2.out).mono ?_); (case side1 => repeat (first | exact (Kd.C_below HR0_0.out HB.out) | (with_reducible refine Kd.C_alloc ?_ _) | (with_reducible refine Kd.C_drewN ?_ _) | (with_reducible refine Kd.C_drew ?_))); (case side2 => exact HC0_0.out); rintro e w17 ⟨rfl, hb⟩; have n0_ := Aside0.mk (blk_below (g := gb333) (o := .cells #[.slice A0_0 l0_0.length c0_0] 29 (0, 0)) (by (with_reducible repeat (first | refine blk_drewN ?_ _ | refine blk_drew ?_ | refine blk_alloc ?_ _)); exact BK333.out) hb); have n1_ := Aside0.mk (below_step (by repeat (first | (with_reducible first | exact HB.out | apply below_alloc | apply pw_below_drewN | apply below_drew1 | refine below_set ?_ GE333.out) | exact HB.out)) hb); clear BK333; clear HB; have BK333 := n0_; have HB := n1_; clear n0_ n1_; (try clear hb); (try clear hb2); (try clear hk); (try clear hi))))
  go_ret2
  exact ⟨by first | rfl | (simp [errW_none, errW_some] <;> rfl) | (simp [*, errW_none, errW_some] <;> rfl), by repeat (first | (with_reducible first | exact HB.out | apply below_alloc | apply pw_below_drewN | apply below_drew1 | refine below_set ?_ GE333.out) | exact HB.out)⟩

/-! ### laws_FnExactEulerOf: function 4 -/
def laws_FnExactEulerOf.j0 : Nat → Bool → List (List (S144)) → List (List (S110)) → Option (Bool)
 | 0, _, _, _ => none
 | k + 1, x34, x343000, x353000 => if x34 = true then (some false) else ((laws_toTriangulation.f k x343000).bind fun t355 => ((laws_eqTriangulation.f k x353000 t355).bind fun t358 => (if t358 = true then (some true) else (some false))))
def laws_FnExactEulerOf.f (k : Nat) (l0_0 : List (List (S144))) : Option (Bool) := (laws_szTriangulation.f k l0_0 1048576).bind fun t343 => (if t343 < 0 then (some true) else ((laws_toTriangulation.f k l0_0).bind fun t344 => ((spec_EulerOf.f k t344).bind fun bt347 => ((laws_toTriangulation.f k l0_0).bind fun t349 => ((impl_EulerOf.f t349).bind fun bt353 => (if bt353.1 = bt347.1 then (laws_FnExactEulerOf.j0 k (bt353.2 != bt347.2) l0_0 t349) else (laws_FnExactEulerOf.j0 k true l0_0 t349)))))))
set_option maxHeartbeats 8000000 in
set_option maxRecDepth 100000 in
theorem laws_FnExactEulerOf.calls (k : Nat) (A0_0 : Option Addr) (c0_0 : Nat) (l0_0 : List (List (S144))) (r : Bool) (w : World) (hr0_0 : Kd.C (Kd.slice 144 k144) w A0_0 l0_0.length l0_0) (hc0_0 : l0_0.length ≤ c0_0) (h : laws_FnExactEulerOf.f k l0_0 = some r) (hT : Aside0 (r = true)) :
  Calls Try.prog 4 #[.agg #[.slice A0_0 l0_0.length c0_0]] w fun e w' => e = .returned (.bool r) ∧ Below w.heap.size w w' := by
 have hu24 := Try.underlying24
 have hu29 := Try.underlying29
 have HR0_0 := Aside0.mk hr0_0
 have HC0_0 := Aside0.mk hc0_0
 clear hr0_0 hc0_0
 have HB := Aside0.mk (Below.refl w.heap.size w)
 have H : ((laws_szTriangulation.f k l0_0 1048576).bind fun t343 => (if t343 < 0 then (some true) else ((laws_toTriangulation.f k l0_0).bind fun t344 => ((spec_EulerOf.f k t344).bind fun bt347 => ((laws_toTriangulation.f k l0_0).bind fun t349 => ((impl_EulerOf.f t349).bind fun bt353 => (if bt353.1 = bt347.1 then (laws_FnExactEulerOf.j0 k (bt353.2 != bt347.2) l0_0 t349) else (laws_FnExactEulerOf.j0 k true l0_0 t349)))))))) = some r := h
 clear h
 replace H := Option.bind_eq_some_iff.mp H
 obtain ⟨t343, A20, H⟩ := H
 replace H : (if t343 < 0 then (some true) else ((laws_toTriangulation.f k l0_0).bind fun t344 => ((spec_EulerOf.f k t344).bind fun bt347 => ((laws_toTriangulation.f k l0_0).bind fun t349 => ((impl_EulerOf.f t349).bind fun bt353 => (if bt353.1 = bt347.1 then (laws_FnExactEulerOf.j0 k (bt353.2 != bt347.2) l0_0 t349) else (laws_FnExactEulerOf.j0 k true l0_0 t349))))))) = some r := H
 have A2 := Aside0.mk A20
 clear A20
 by_cases c3 : t343 < 0
 ·rw [if_pos c3] at H
  have c3b0 : decide (t343 < 0) = true := decide_eq_true c3
  clear c3
  obtain rfl := Option.some.inj H
  go_enter Try.func4, Try.ntmps4
  go_wp2_with (first | ((with_reducible refine gate_dst (N := 1) rfl ?_); refine box_event ?hg (N := 1) ?hd (cs := #[.slice A0_0 l0_0.length c0_0]) (t := 24) ?hr ?_; (case hd => rfl); (case hg => rfl); (case hr => first | (go_simp; done) | (go_simp; rfl)); intro gb342 hg w4 hbox hb; have n0_ := Aside0.mk (below_step (by repeat (first | (with_reducible first | exact HB.out | apply below_alloc | apply pw_below_drewN | apply below_drew1) | exact HB.out)) hb); have n1_ := Aside0.mk (hbox); have n2_ := Aside0.mk ((by rw [hg]; exact (below_size (by repeat (first | (with_reducible first | exact HB.out | apply below_alloc | apply pw_below_drewN | apply below_drew1) | exact HB.out))) : w.heap.size ≤ gb342)); have n3_ := Aside0.mk ((by rw [hg]; exact (below_size (by repeat (first | (with_reducible first | exact HB.out | apply below_alloc | apply pw_below_drewN | apply below_drew1) | exact HB.out))) : w.heap.size ≤ gb342)); clear HB; have HB := n0_; have BK342 := n1_; have GW342 := n2_; have GE342 := n3_; clear n0_ n1_ n2_ n3_; clear hb hbox hg; have hcz5_0 : w4.cell? ⟨gb342, 0, none⟩ = some (.slice A0_0 l0_0.length c0_0) := (blk_cell BK342.out 0).trans rfl; have hfz5_0 := blk_frozen BK342.out 0) | ((with_reducible refine gate_callee (f := 15) rfl ?_); refine goesL_ (some 11) rfl rfl Try.func15 (by kernel_rfl) rfl #[.agg #[.slice A0_0 l0_0.length c0_0], .int .i64 1048576] rfl (by (try simp only [List.map_toArray, List.map_cons, List.map_nil]); first | done | rfl | (simp only [List.length_drop, List.length_take]; rfl)) ?_; (with_reducible refine (laws_szTriangulation.calls k _ _ l0_0 1048576 t343 _ ?side1 ?side2 A2.out).mono ?_); (case side1 => repeat (first | exact (Kd.C_below HR0_0.out HB.out) | (with_reducible refine Kd.C_alloc ?_ _) | (with_reducible refine Kd.C_drewN ?_ _) | (with_reducible refine Kd.C_drew ?_))); (case side2 => exact HC0_0.out); rintro e w6 ⟨rfl, hb⟩; refine ⟨_, rfl, ?_⟩; have n0_ := Aside0.mk (blk_below (g := gb342) (o := .cells #[.slice A0_0 l0_0.length c0_0] 24 (0, 0)) (by (with_reducible repeat (first | refine blk_drewN ?_ _ | refine blk_drew ?_ | refine blk_alloc ?_ _)); exact BK342.out) hb); have n1_ := Aside0.mk (below_step (by repeat (first | (with_reducible first | exact HB.out | apply below_alloc | apply pw_below_drewN | apply below_drew1 | refine below_set ?_ GE342.out) | exact HB.out)) hb); clear BK342; clear HB; have BK342 := n0_; have HB := n1_; clear n0_ n1_; (try clear hb); (try clear hb2); (try clear hk); (try clear hi)))
  go_ret
  exact ⟨by first | rfl | (simp [errW_none, errW_some] <;> rfl) | (simp [*, errW_none, errW_some] <;> rfl), by repeat (first | (with_reducible first | exact HB.out | apply below_alloc | apply pw_below_drewN | apply below_drew1 | refine below_set ?_ GE342.out) | exact HB.out)⟩
 ·rw [if_neg c3] at H
  have c3b0 : decide (t343 < 0) = false := decide_eq_false c3
  clear c3
  replace H := Option.bind_eq_some_iff.mp H
  obtain ⟨t344, A70, H⟩ := H
  replace H : ((spec_EulerOf.f k t344).bind fun bt347 => ((laws_toTriangulation.f k l0_0).bind fun t349 => ((impl_EulerOf.f t349).bind fun bt353 => (if bt353.1 = bt347.1 then (laws_FnExactEulerOf.j0 k (bt353.2 != bt347.2) l0_0 t349) else (laws_FnExactEulerOf.j0 k true l0_0 t349))))) = some r := H
  have A7 := Aside0.mk A70
  clear A70
  replace H := Option.bind_eq_some_iff.mp H
  obtain ⟨⟨t347, t348⟩, A80, H⟩ := H
  replace H : ((laws_toTriangulation.f k l0_0).bind fun t349 => ((impl_EulerOf.f t349).bind fun bt353 => (if bt353.1 = t347 then (laws_FnExactEulerOf.j0 k (bt353.2 != t348) l0_0 t349) else (laws_FnExactEulerOf.j0 k true l0_0 t349)))) = some r := H
  have A8 := Aside0.mk A80
  clear A80
  replace H := Option.bind_eq_some_iff.mp H
  obtain ⟨t349, A90, H⟩ := H
  replace H : ((impl_EulerOf.f t349).bind fun bt353 => (if bt353.1 = t347 then (laws_FnExactEulerOf.j0 k (bt353.2 != t348) l0_0 t349) else (laws_FnExactEulerOf.j0 k true l0_0 t349))) = some r := H
  have A9 := Aside0.mk A90
  clear A90
  replace H := Option.bind_eq_some_iff.mp H
  obtain ⟨⟨t353, t354⟩, A100, H⟩ := H
  replace H : (if t353 = t347 then (laws_FnExactEulerOf.j0 k (t354 != t348) l0_0 t349) else (laws_FnExactEulerOf.j0 k true l0_0 t349)) = some r := H
  have A10 := Aside0.mk A100
  clear A100
  have HC11 := Aside0.mk H
  clear H
  go_enter Try.func4, Try.ntmps4
  go_upto_region 8 with (first | ((with_reducible refine gate_dst (N := 1) rfl ?_); refine box_event ?hg (N := 1) ?hd (cs := #[.slice A0_0 l0_0.length c0_0]) (t := 24) ?hr ?_; (case hd => rfl); (case hg => rfl); (case hr => first | (go_simp; done) | (go_simp; rfl)); intro gb342 hg w12 hbox hb; have n0_ := Aside0.mk (below_step (by repeat (first | (with_reducible first | exact HB.out | apply below_alloc | apply pw_below_drewN | apply below_drew1) | exact HB.out)) hb); have n1_ := Aside0.mk (hbox); have n2_ := Aside0.mk ((by rw [hg]; exact (below_size (by repeat (first | (with_reducible first | exact HB.out | apply below_alloc | apply pw_below_drewN | apply below_drew1) | exact HB.out))) : w.heap.size ≤ gb342)); have n3_ := Aside0.mk ((by rw [hg]; exact (below_size (by repeat (first | (with_reducible first | exact HB.out | apply below_alloc | apply pw_below_drewN | apply below_drew1) | exact HB.out))) : w.heap.size ≤ gb342)); clear HB; have HB := n0_; have BK342 := n1_; have GW342 := n2_; have GE342 := n3_; clear n0_ n1_ n2_ n3_; clear hb hbox hg; have hcz13_0 : w12.cell? ⟨gb342, 0, none⟩ = some (.slice A0_0 l0_0.length c0_0) := (blk_cell BK342.out 0).trans rfl; have hfz13_0 := blk_frozen BK342.out 0) | ((with_reducible refine gate_callee (f := 15) rfl ?_); refine goesL_ (some 11) rfl rfl Try.func15 (by kernel_rfl) rfl #[.agg #[.slice A0_0 l0_0.length c0_0], .int .i64 1048576] rfl (by (try simp only [List.map_toArray, List.map_cons, List.map_nil]); first | done | rfl | (simp only [List.length_drop, List.length_take]; rfl)) ?_; (with_reducible refine (laws_szTriangulation.calls k _ _ l0_0 1048576 t343 _ ?side1 ?side2 A2.out).mono ?_); (case side1 => repeat (first | exact (Kd.C_below HR0_0.out HB.out) | (with_reducible refine Kd.C_alloc ?_ _) | (with_reducible refine Kd.C_drewN ?_ _) | (with_reducible refine Kd.C_drew ?_))); (case side2 => exact HC0_0.out); rintro e w14 ⟨rfl, hb⟩; refine ⟨_, rfl, ?_⟩; have n0_ := Aside0.mk (blk_below (g := gb342) (o := .cells #[.slice A0_0 l0_0.length c0_0] 24 (0, 0)) (by (with_reducible repeat (first | refine blk_drewN ?_ _ | refine blk_drew ?_ | refine blk_alloc ?_ _)); exact BK342.out) hb); have n1_ := Aside0.mk (below_step (by repeat (first | (with_reducible first | exact HB.out | apply below_alloc | apply pw_below_drewN | apply below_drew1 | refine below_set ?_ GE342.out) | exact HB.out)) hb); clear BK342; clear HB; have BK342 := n0_; have HB := n1_; clear n0_ n1_; (try clear hb); (try clear hb2); (try clear hk); (try clear hi); have hcz15_0 : w14.cell? ⟨gb342, 0, none⟩ = some (.slice A0_0 l0_0.length c0_0) := (blk_cell BK342.out 0).trans rfl; have hfz15_0 := blk_frozen BK342.out 0) | ((with_reducible refine gate_callee (f := 17) rfl ?_); refine goesL_ (some 16) rfl rfl Try.func17 (by kernel_rfl) rfl #[.agg #[.slice A0_0 l0_0.length c0_0]] rfl (by (try simp only [List.map_toArray, List.map_cons, List.map_nil]); first | done | rfl | (simp only [List.length_drop, List.length_take]; rfl)) ?_; (with_reducible refine (laws_toTriangulation.calls k _ _ l0_0 t344 _ ?side1 ?side2 A7.out).mono ?_); (case side1 => repeat (first | exact (Kd.C_below HR0_0.out HB.out) | (with_reducible refine Kd.C_alloc ?_ _) | (with_reducible refine Kd.C_drewN ?_ _) | (with_reducible refine Kd.C_drew ?_))); (case side2 => exact HC0_0.out); rintro e w16 ⟨v345, rfl, ho0, hb⟩; refine ⟨_, rfl, ?_⟩; have n0_ := Aside0.mk (Kd.S_lower ho0 (below_size (by repeat (first | (with_reducible first | exact HB.out | apply below_alloc | apply pw_below_drewN | apply below_drew1 | refine below_set ?_ GE342.out) | exact HB.out)))); have n1_ := Aside0.mk (blk_below (g := gb342) (o := .cells #[.slice A0_0 l0_0.length c0_0] 24 (0, 0)) (by (with_reducible repeat (first | refine blk_drewN ?_ _ | refine blk_drew ?_ | refine blk_alloc ?_ _)); exact BK342.out) hb); have n2_ := Aside0.mk (below_step (by repeat (first | (with_reducible first | exact HB.out | apply below_alloc | apply pw_below_drewN | apply below_drew1 | refine below_set ?_ GE342.out) | exact HB.out)) hb); clear BK342; clear HB; have HO346 := n0_; have BK342 := n1_; have HB := n2_; clear n0_ n1_ n2_; (try clear hb); (try clear hb2); (try clear hk); (try clear hi); (try clear ho0); obtain ⟨Ao17, co17, eo17⟩ := Kd.S_slice HO346.out; subst eo17) | ((with_reducible refine gate_callee (f := 20) rfl ?_); refine goesL_ (some 17) rfl rfl Try.func20 (by kernel_rfl) rfl #[.agg #[.slice Ao17 t344.length co17]] rfl (by (try simp only [List.map_toArray, List.map_cons, List.map_nil]); first | done | rfl | (simp only [List.length_drop, List.length_take]; rfl)) ?_; (with_reducible refine (spec_EulerOf.calls k _ _ t344 t347 t348 _ ?side1 ?side2 A8.out).mono ?_); (case side1 => repeat (first | exact (Kd.S_reads' HO346.out).2.2 | (with_reducible refine Kd.C_alloc ?_ _) | (with_reducible refine Kd.C_drewN ?_ _) | (with_reducible refine Kd.C_drew ?_))); (case side2 => exact (Kd.S_reads' HO346.out).2.1); rintro e w18 ⟨rfl, hb⟩; refine ⟨_, rfl, ?_⟩; have n0_ := Aside0.mk (Kd.S_below (by (with_reducible repeat (first | apply Kd.S_alloc | apply Kd.S_drewN | apply Kd.S_drew)); exact HO346.out) hb); have n1_ := Aside0.mk (blk_below (g := gb342) (o := .cells #[.slice A0_0 l0_0.length c0_0] 24 (0, 0)) (by (with_reducible repeat (first | refine blk_drewN ?_ _ | refine blk_drew ?_ | refine blk_alloc ?_ _)); exact BK342.out) hb); have n2_ := Aside0.mk (below_step (by repeat (first | (with_reducible first | exact HB.out | apply below_alloc | apply pw_below_drewN | apply below_drew1 | refine below_set ?_ GE342.out) | exact HB.out)) hb); clear HO346; clear BK342; clear HB; have HO346 := n0_; have BK342 := n1_; have HB := n2_; clear n0_ n1_ n2_; (try clear hb); (try clear hb2); (try clear hk); (try clear hi); have hcz19_0 : w18.cell? ⟨gb342, 0, none⟩ = some (.slice A0_0 l0_0.length c0_0) := (blk_cell BK342.out 0).trans rfl; have hfz19_0 := blk_frozen BK342.out 0) | ((with_reducible refine gate_callee (f := 17) rfl ?_); refine goesL_ (some 21) rfl rfl Try.func17 (by kernel_rfl) rfl #[.agg #[.slice A0_0 l0_0.length c0_0]] rfl (by (try simp only [List.map_toArray, List.map_cons, List.map_nil]); first | done | rfl | (simp only [List.length_drop, List.length_take]; rfl)) ?_; (with_reducible refine (laws_toTriangulation.calls k _ _ l0_0 t349 _ ?side1 ?side2 A9.out).mono ?_); (case side1 => repeat (first | exact (Kd.C_below HR0_0.out HB.out) | (with_reducible refine Kd.C_alloc ?_ _) | (with_reducible refine Kd.C_drewN ?_ _) | (with_reducible refine Kd.C_drew ?_))); (case side2 => exact HC0_0.out); rintro e w20 ⟨v350, rfl, ho0, hb⟩; refine ⟨_, rfl, ?_⟩; have n0_ := Aside0.mk (Kd.S_elder' (by (with_reducible repeat (first | apply Kd.S_alloc | apply Kd.S_drewN | apply Kd.S_drew)); exact HO346.out) (Kd.S_base ho0) hb); have n1_ := Aside0.mk (Kd.S_lower (Kd.S_new' ho0 (Kd.S_lt (by (with_reducible repeat (first | apply Kd.S_alloc | apply Kd.S_drewN | apply Kd.S_drew)); exact HO346.out))) (below_size (by repeat (first | (with_reducible first | exact HB.out | apply below_alloc | apply pw_below_drewN | apply below_drew1 | refine below_set ?_ GE342.out) | exact HB.out)))); have n2_ := Aside0.mk (blk_below (g := gb342) (o := .cells #[.slice A0_0 l0_0.length c0_0] 24 (0, 0)) (by (with_reducible repeat (first | refine blk_drewN ?_ _ | refine blk_drew ?_ | refine blk_alloc ?_ _)); exact BK342.out) hb); have n3_ := Aside0.mk (below_step (by repeat (first | (with_reducible first | exact HB.out | apply below_alloc | apply pw_below_drewN | apply below_drew1 | refine below_set ?_ GE342.out) | exact HB.out)) hb); clear HO346; clear BK342; clear HB; have HO346 := n0_; have HO351 := n1_; have BK342 := n2_; have HB := n3_; clear n0_ n1_ n2_ n3_; (try clear hb); (try clear hb2); (try clear hk); (try clear hi); (try clear ho0)) | ((with_reducible refine gate_dst (N := 6) rfl ?_); refine box_event ?hg (N := 6) ?hd (cs := #[.slice none 0 0]) (t := 29) ?hr ?_; (case hd => rfl); (case hg => rfl); (case hr => first | (go_simp; done) | (go_simp; rfl)); intro gb352 hg w21 hbox hb; have n0_ := Aside0.mk (Kd.S_below (by (with_reducible repeat (first | apply Kd.S_alloc | apply Kd.S_drewN | apply Kd.S_drew)); exact HO346.out) hb); have n1_ := Aside0.mk (Kd.S_below (by (with_reducible repeat (first | apply Kd.S_alloc | apply Kd.S_drewN | apply Kd.S_drew)); exact HO351.out) hb); have n2_ := Aside0.mk (blk_below (g := gb342) (o := .cells #[.slice A0_0 l0_0.length c0_0] 24 (0, 0)) (by (with_reducible repeat (first | refine blk_drewN ?_ _ | refine blk_drew ?_ | refine blk_alloc ?_ _)); exact BK342.out) hb); have n3_ := Aside0.mk (below_step (by repeat (first | (with_reducible first | exact HB.out | apply below_alloc | apply pw_below_drewN | apply below_drew1 | refine below_set ?_ GE342.out) | exact HB.out)) hb); have n4_ := Aside0.mk (hbox); have n5_ := Aside0.mk ((by rw [hg]; exact (below_size (by repeat (first | (with_reducible first | exact HB.out | apply below_alloc | apply pw_below_drewN | apply below_drew1 | refine below_set ?_ GE342.out) | exact HB.out))) : w.heap.size ≤ gb352)); have n6_ := Aside0.mk ((by rw [hg]; exact (below_size (by repeat (first | (with_reducible first | exact HB.out | apply below_alloc | apply pw_below_drewN | apply below_drew1 | refine below_set ?_ GE342.out) | exact HB.out))) : w.heap.size ≤ gb352)); have n7_ := Aside0.mk ((by rw [hg]; exact Nat.ne_of_lt (blk_lt (g := gb342) (o := .cells #[.slice A0_0 l0_0.length c0_0] 24 (0, 0)) (by (with_reducible repeat (first | refine blk_drewN ?_ _ | refine blk_drew ?_ | refine blk_alloc ?_ _)); exact BK342.out)) : gb342 ≠ gb352)); have n8_ := Aside0.mk ((by rw [hg]; exact Nat.ne_of_gt (blk_lt (g := gb342) (o := .cells #[.slice A0_0 l0_0.length c0_0] 24 (0, 0)) (by (with_reducible repeat (first | refine blk_drewN ?_ _ | refine blk_drew ?_ | refine blk_alloc ?_ _)); exact BK342.out)) : gb352 ≠ gb342)); clear HO346; clear HO351; clear BK342; clear HB; have HO346 := n0_; have HO351 := n1_; have BK342 := n2_; have HB := n3_; have BK352 := n4_; have GW352 := n5_; have GE352 := n6_; have NB342_352 := n7_; have NB352_342 := n8_; clear n0_ n1_ n2_ n3_ n4_ n5_ n6_ n7_ n8_; clear hb hbox hg; obtain ⟨Ao22, co22, eo22⟩ := Kd.S_slice HO351.out; subst eo22; have hnb23 := NB352_342.out; have hnc23 := NB342_352.out; have hcz24_0 : w21.cell? ⟨gb352, 0, none⟩ = some (.slice none 0 0) := (blk_cell BK352.out 0).trans rfl; have hfz24_0 := blk_frozen BK352.out 0) | ((with_reducible refine gate_callee (f := 21) rfl ?_); refine goesL_ (some 24) rfl rfl Try.func21 (by kernel_rfl) rfl #[.agg #[.slice Ao22 t349.length co22]] rfl (by (try simp only [List.map_toArray, List.map_cons, List.map_nil]); first | done | rfl | (simp only [List.length_drop, List.length_take]; rfl)) ?_; (with_reducible refine (impl_EulerOf.calls _ _ t349 t353 t354 _ ?side1 ?side2 A10.out).mono ?_); (case side1 => refine (Kd.S_reads' (e := 89) (base := w.heap.size) (ok := fun k_ => (True ∧ some k_ ≠ (.slice Ao17 t344.length co17 : Value).ownBlock)) (n := t349.length) (c := co22) ?_).2.2; exact (by (with_reducible repeat (first | apply Kd.S_alloc | apply Kd.S_drewN | apply Kd.S_drew)); exact (Kd.S_mono (Kd.S_far (p := ⟨gb352, 0, none⟩) (Kd.S_types HO351.out BK352.out (by decide)) (fun _ hk => hk.2) (.slice Ao22 t349.length co22)) (fun _ h_ => h_.1)))); (case side2 => exact (Kd.S_reads' HO351.out).2.1); rintro e w25 ⟨rfl, hb⟩; refine ⟨_, rfl, ?_⟩; have n0_ := Aside0.mk (Kd.S_below (by (with_reducible repeat (first | apply Kd.S_alloc | apply Kd.S_drewN | apply Kd.S_drew)); exact (Kd.S_mono (Kd.S_far (p := ⟨gb352, 0, none⟩) (Kd.S_types HO346.out BK352.out (by decide)) (fun _ hk => hk.2) (.slice Ao22 t349.length co22)) (fun _ h_ => h_.1))) hb); have n1_ := Aside0.mk (Kd.S_below (by (with_reducible repeat (first | apply Kd.S_alloc | apply Kd.S_drewN | apply Kd.S_drew)); exact (Kd.S_mono (Kd.S_far (p := ⟨gb352, 0, none⟩) (Kd.S_types HO351.out BK352.out (by decide)) (fun _ hk => hk.2) (.slice Ao22 t349.length co22)) (fun _ h_ => h_.1))) hb); have n2_ := Aside0.mk (blk_below (g := gb342) (o := .cells #[.slice A0_0 l0_0.length c0_0] 24 (0, 0)) (by (with_reducible repeat (first | refine blk_drewN ?_ _ | refine blk_drew ?_ | refine blk_alloc ?_ _)); refine blk_far ?_ NB342_352.out _; (with_reducible repeat (first | refine blk_drewN ?_ _ | refine blk_drew ?_ | refine blk_alloc ?_ _)); exact BK342.out) hb); have n3_ := Aside0.mk (blk_below (g := gb352) (o := .cells #[.slice Ao22 t349.length co22] 29 (0, 0)) (by (with_reducible repeat (first | refine blk_drewN ?_ _ | refine blk_drew ?_ | refine blk_alloc ?_ _)); refine blk_put (cs := #[.slice none 0 0]) ?_ 0 _ rfl; (with_reducible repeat (first | refine blk_drewN ?_ _ | refine blk_drew ?_ | refine blk_alloc ?_ _)); exact BK352.out) hb); have n4_ := Aside0.mk (below_step (by repeat (first | (with_reducible first | exact HB.out | apply below_alloc | apply pw_below_drewN | apply below_drew1 | refine below_set ?_ GE342.out | refine below_set ?_ GE352.out) | exact HB.out)) hb); clear HO346; clear HO351; clear BK342; clear BK352; clear HB; have HO346 := n0_; have HO351 := n1_; have BK342 := n2_; have BK352 := n3_; have HB := n4_; clear n0_ n1_ n2_ n3_ n4_; (try clear hb); (try clear hb2); (try clear hk); (try clear hi)))
  (try simp only [Act.put, List.setIfInBounds_toArray, List.set_cons_zero, List.set_cons_succ])
  go_cut [34] (fun v34 wc => ∃ (kq : Nat) (x34_10 : Bool), v34 = .bool x34_10 ∧ Aside0 (laws_FnExactEulerOf.j0 kq x34_10 l0_0 t349 = some r) ∧ Aside0 (kq ≤ k) ∧ Aside0 (Kd.S (Kd.slice 110 k110) 89 wc w.heap.size (fun _ => True) (.slice Ao22 t349.length co22) t349) ∧ Aside0 (wc.heap[gb342]? = some (.cells #[(.slice A0_0 l0_0.length c0_0)] 24 (0, 0))) ∧ Aside0 (wc.heap[gb352]? = some (.cells #[(.slice Ao22 t349.length co22)] 29 (0, 0))) ∧ Aside0 (Below w.heap.size w wc))
  case first =>
   have H := HC11.out
   clear HC11
   by_cases c26 : t353 = t347
   ·rw [if_pos c26] at H
    have c26b0 : (t353 == t347) = true := beq_iff_eq.mpr c26
    have c26b1 : (t353 != t347) = false := bne_eq_false_iff_eq.mpr c26
    clear c26
    (first | rw [c26b0] | (simp only [i64_w, i32_w]; rw [c26b0]) | skip)
    have H' := Aside0.mk H
    clear H
    go_wp2
    go_meet
    case rel => exact ⟨_, ((t354 != t348)), (by first | rfl | (simp; done) | (simp [*]; done)), H', ⟨by first | omega | exact Nat.le_refl _⟩, ⟨by (with_reducible repeat (first | apply Kd.S_alloc | apply Kd.S_drewN | apply Kd.S_drew)); exact Kd.S_mono HO351.out (fun _ hk => trivial)⟩, ⟨by (with_reducible repeat (first | refine blk_drewN ?_ _ | refine blk_drew ?_ | refine blk_alloc ?_ _)); exact BK342.out⟩, ⟨by (with_reducible repeat (first | refine blk_drewN ?_ _ | refine blk_drew ?_ | refine blk_alloc ?_ _)); exact BK352.out⟩, ⟨by repeat (first | (with_reducible first | exact HB.out | apply below_alloc | apply pw_below_drewN | apply below_drew1 | refine below_set ?_ GE342.out | refine below_set ?_ GE352.out) | exact HB.out)⟩⟩
   ·rw [if_neg c26] at H
    have c26b0 : (t353 == t347) = false := beq_eq_false_iff_ne.mpr c26
    have c26b1 : (t353 != t347) = true := bne_iff_ne.mpr c26
    (first | rw [c26b0] | (simp only [i64_w, i32_w]; rw [c26b0]) | skip)
    have H' := Aside0.mk H
    clear H
    go_wp2
    go_meet
    case rel => exact ⟨_, (true), (by first | rfl | (simp; done) | (simp [*]; done)), H', ⟨by first | omega | exact Nat.le_refl _⟩, ⟨by (with_reducible repeat (first | apply Kd.S_alloc | apply Kd.S_drewN | apply Kd.S_drew)); exact Kd.S_mono HO351.out (fun _ hk => trivial)⟩, ⟨by (with_reducible repeat (first | refine blk_drewN ?_ _ | refine blk_drew ?_ | refine blk_alloc ?_ _)); exact BK342.out⟩, ⟨by (with_reducible repeat (first | refine blk_drewN ?_ _ | refine blk_drew ?_ | refine blk_alloc ?_ _)); exact BK352.out⟩, ⟨by repeat (first | (with_reducible first | exact HB.out | apply below_alloc | apply pw_below_drewN | apply below_drew1 | refine below_set ?_ GE342.out | refine below_set ?_ GE352.out) | exact HB.out)⟩⟩
  case rest =>
   clear HC11
   try clear c1
   try clear c2
   try clear p2
   try clear c3
   try clear c3b0
   try clear c4
   try clear c15
   try clear c17
   try clear c20
   try clear c21
   try clear c23
   try clear c26
   try clear c26b0
   try clear c26b1
   try clear hcz13_0
   try clear hcz15_0
   try clear hcz19_0
   try clear hcz24_0
   try clear hcz5_0
   try clear hfz13_0
   try clear hfz15_0
   try clear hfz19_0
   try clear hfz24_0
   try clear hfz5_0
   obtain ⟨kq, x34_10, rfl, HA, HJ10, HO_353000, BK342, BK352, HB⟩ := hcut
   cases kq with
   | zero => exact absurd HA.out (by simp [laws_FnExactEulerOf.j0])
   | succ kj10 =>
    have H := HA.out
    clear HA
    simp only [laws_FnExactEulerOf.j0] at H
    by_cases c27 : x34_10 = true
    ·subst c27
     have H1 : (some false) = some r := by rw [if_pos rfl] at H; exact H
     clear H
     have H := H1
     clear H1
     exact absurd hT.out (by rw [← Option.some.inj H]; decide)
    ·replace c27 := Bool.eq_false_iff.mpr c27
     subst c27
     have H1 : ((laws_toTriangulation.f kj10 l0_0).bind fun t355 => ((laws_eqTriangulation.f kj10 t349 t355).bind fun t358 => (if t358 = true then (some true) else (some false)))) = some r := by rw [if_neg (show ¬ (false = true) by decide)] at H; exact H
     clear H
     have H := H1
     clear H1
     replace H := Option.bind_eq_some_iff.mp H
     obtain ⟨t355, A280, H⟩ := H
     replace H : ((laws_eqTriangulation.f kj10 t349 t355).bind fun t358 => (if t358 = true then (some true) else (some false))) = some r := H
     have A28 := Aside0.mk A280
     clear A280
     replace H := Option.bind_eq_some_iff.mp H
     obtain ⟨t358, A290, H⟩ := H
     replace H : (if t358 = true then (some true) else (some false)) = some r := H
     have A29 := Aside0.mk A290
     clear A290
     by_cases c30 : t358 = true
     ·subst c30
      have H1 : (some true) = some r := by rw [if_pos rfl] at H; exact H
      clear H
      have H := H1
      clear H1
      obtain rfl := Option.some.inj H
      try go_wp2
      have n0_ := Aside0.mk (Kd.S_drew HO_353000.out)
      have n1_ := Aside0.mk (blk_drew BK342.out)
      have n2_ := Aside0.mk (blk_drew BK352.out)
      have n3_ := Aside0.mk (below_drew1 HB.out)
      clear HO_353000
      clear BK342
      clear BK352
      clear HB
      have HO_353000 := n0_
      have BK342 := n1_
      have BK352 := n2_
      have HB := n3_
      clear n0_ n1_ n2_ n3_
      refine start_ (n := 5) (S := fun w' => w'.cell? ⟨gb352, 0, none⟩ = some (.slice Ao22 t349.length co22) ∧ w'.cell? ⟨gb342, 0, none⟩ = some (.slice A0_0 l0_0.length c0_0)) (ds := []) #[false, false, false, false, false] (by kernel_rfl) rfl rfl ⟨(blk_cell BK352.out 0).trans rfl, (blk_cell BK342.out 0).trans rfl⟩ (fun hHeld => ?_)
      generalize wc.drew = w31 at HO_353000 BK342 BK352 HB hHeld ⊢
      refine take_ (i := 0) (N := some 35) (v := ?_) (a' := ?_) #[true, false, false, false, false] rfl rfl (by kernel_rfl) (fun _ _ _ h => h) (Or.inl ⟨by rfl, ?_⟩) hHeld ?_ ?_
      rotate_left
      ·rintro w' ⟨s0, s1⟩
       go_simp
       with_reducible rfl
      rotate_left
      ·simp only [Act.put, List.setIfInBounds_toArray, List.set_cons_zero, List.set_cons_succ, i64_w, i32_w]
       rfl
      refine take_ (i := 1) (N := some 36) (v := ?_) (a' := ?_) #[true, true, false, false, false] rfl rfl (by kernel_rfl) (fun _ _ _ h => h) (Or.inl ⟨by rfl, ?_⟩) hHeld ?_ ?_
      rotate_left
      ·rintro w' ⟨s0, s1⟩
       go_simp
       with_reducible rfl
      rotate_left
      ·simp only [Act.put, List.setIfInBounds_toArray, List.set_cons_zero, List.set_cons_succ, i64_w, i32_w]
       rfl
      refine one_ (i := 2) (N := some 37) #[true, true, true, false, false] rfl rfl (by kernel_rfl) (by decide) (fun K hK => ?_)
      refine goes_ Try.func17 (by kernel_rfl) rfl #[.agg #[.slice A0_0 l0_0.length c0_0]] (by rfl) rfl rfl (by (try simp only [List.map_toArray, List.map_cons, List.map_nil]); first | done | rfl | (simp only [List.length_drop, List.length_take]; rfl)) ?_
      with_reducible refine (laws_toTriangulation.calls kj10 _ _ l0_0 t355 _ ?side1 ?side2 A28.out).mono ?_
      (case side1 => repeat (first | exact (Kd.C_below HR0_0.out HB.out) | (with_reducible refine Kd.C_alloc ?_ _) | (with_reducible refine Kd.C_drewN ?_ _) | (with_reducible refine Kd.C_drew ?_)))
      (case side2 => exact HC0_0.out)
      rintro e w32 ⟨v356, rfl, ho0, hb⟩
      refine ⟨_, rfl, ?_⟩
      have n0_ := Aside0.mk (Kd.S_elder' (by (with_reducible repeat (first | apply Kd.S_alloc | apply Kd.S_drewN | apply Kd.S_drew)); exact HO_353000.out) (Kd.S_base ho0) hb)
      have n1_ := Aside0.mk (Kd.S_lower (Kd.S_new' ho0 (Kd.S_lt (by (with_reducible repeat (first | apply Kd.S_alloc | apply Kd.S_drewN | apply Kd.S_drew)); exact HO_353000.out))) (below_size (by repeat (first | (with_reducible first | exact HB.out | apply below_alloc | apply pw_below_drewN | apply below_drew1 | refine below_set ?_ GE342.out | refine below_set ?_ GE352.out) | exact HB.out))))
      have n2_ := Aside0.mk (blk_below (g := gb342) (o := .cells #[.slice A0_0 l0_0.length c0_0] 24 (0, 0)) (by (with_reducible repeat (first | refine blk_drewN ?_ _ | refine blk_drew ?_ | refine blk_alloc ?_ _)); exact BK342.out) hb)
      have n3_ := Aside0.mk (blk_below (g := gb352) (o := .cells #[.slice Ao22 t349.length co22] 29 (0, 0)) (by (with_reducible repeat (first | refine blk_drewN ?_ _ | refine blk_drew ?_ | refine blk_alloc ?_ _)); exact BK352.out) hb)
      have n4_ := Aside0.mk (below_step (by repeat (first | (with_reducible first | exact HB.out | apply below_alloc | apply pw_below_drewN | apply below_drew1 | refine below_set ?_ GE342.out | refine below_set ?_ GE352.out) | exact HB.out)) hb)
      clear HO_353000
      clear BK342
      clear BK352
      clear HB
      have HO_353000 := n0_
      have HO357 := n1_
      have BK342 := n2_
      have BK352 := n3_
      have HB := n4_
      clear n0_ n1_ n2_ n3_ n4_
      (try clear hb)
      (try clear hb2)
      (try clear hk)
      (try clear hi)
      (try clear ho0)
      obtain ⟨Ao33, co33, eo33⟩ := Kd.S_slice HO357.out
      (first | subst eo33 | (injection eo33 with f1_ f2_ f3_; have f4_ := f1_.symm; have f5_ := f3_.symm; clear f1_ f2_ f3_; subst f4_; subst f5_))
      refine hK.out _ _ ⟨(blk_cell BK352.out 0).trans rfl, (blk_cell BK342.out 0).trans rfl⟩ (fun hHeld => ?_)
      clear hK K
      refine norm_ (a' := ?_) ?_ ?_
      rotate_left
      ·show Act.put _ (some 37) _ = _
       simp only [Act.put, List.setIfInBounds_toArray, List.set_cons_zero, List.set_cons_succ, i64_w, i32_w]
       rfl
      refine one_ (i := 3) (N := some 38) #[true, true, true, true, false] rfl rfl (by kernel_rfl) (by decide) (fun K hK => ?_)
      refine goes_ Try.func19 (by kernel_rfl) rfl #[.agg #[.slice Ao22 t349.length co22], .agg #[.slice Ao33 t355.length co33]] (by rfl) rfl rfl (by (try simp only [List.map_toArray, List.map_cons, List.map_nil]); first | done | rfl | (simp only [List.length_drop, List.length_take]; rfl)) ?_
      with_reducible refine (laws_eqTriangulation.calls kj10 _ _ t349 _ _ t355 true _ ?side1 ?side2 ?side3 ?side4 A29.out).mono ?_
      (case side1 => repeat (first | exact (Kd.S_reads' HO_353000.out).2.2 | (with_reducible refine Kd.C_alloc ?_ _) | (with_reducible refine Kd.C_drewN ?_ _) | (with_reducible refine Kd.C_drew ?_)))
      (case side2 => exact (Kd.S_reads' HO_353000.out).2.1)
      (case side3 => repeat (first | exact (Kd.S_reads' HO357.out).2.2 | (with_reducible refine Kd.C_alloc ?_ _) | (with_reducible refine Kd.C_drewN ?_ _) | (with_reducible refine Kd.C_drew ?_)))
      (case side4 => exact (Kd.S_reads' HO357.out).2.1)
      rintro e w34 ⟨rfl, hb⟩
      refine ⟨_, rfl, ?_⟩
      have n0_ := Aside0.mk (Kd.S_below (by (with_reducible repeat (first | apply Kd.S_alloc | apply Kd.S_drewN | apply Kd.S_drew)); exact HO_353000.out) hb)
      have n1_ := Aside0.mk (Kd.S_below (by (with_reducible repeat (first | apply Kd.S_alloc | apply Kd.S_drewN | apply Kd.S_drew)); exact HO357.out) hb)
      have n2_ := Aside0.mk (blk_below (g := gb342) (o := .cells #[.slice A0_0 l0_0.length c0_0] 24 (0, 0)) (by (with_reducible repeat (first | refine blk_drewN ?_ _ | refine blk_drew ?_ | refine blk_alloc ?_ _)); exact BK342.out) hb)
      have n3_ := Aside0.mk (blk_below (g := gb352) (o := .cells #[.slice Ao22 t349.length co22] 29 (0, 0)) (by (with_reducible repeat (first | refine blk_drewN ?_ _ | refine blk_drew ?_ | refine blk_alloc ?_ _)); exact BK352.out) hb)
      have n4_ := Aside0.mk (below_step (by repeat (first | (with_reducible first | exact HB.out | apply below_alloc | apply pw_below_drewN | apply below_drew1 | refine below_set ?_ GE342.out | refine below_set ?_ GE352.out) | exact HB.out)) hb)
      clear HO_353000
      clear HO357
      clear BK342
      clear BK352
      clear HB
      have HO_353000 := n0_
      have HO357 := n1_
      have BK342 := n2_
      have BK352 := n3_
      have HB := n4_
      clear n0_ n1_ n2_ n3_ n4_
      (try clear hb)
      (try clear hb2)
      (try clear hk)
      (try clear hi)
      refine hK.out _ _ ⟨(blk_cell BK352.out 0).trans rfl, (blk_cell BK342.out 0).trans rfl⟩ (fun hHeld => ?_)
      clear hK K
      refine norm_ (a' := ?_) ?_ ?_
      rotate_left
      ·show Act.put _ (some 38) _ = _
       simp only [Act.put, List.setIfInBounds_toArray, List.set_cons_zero, List.set_cons_succ, i64_w, i32_w]
       rfl
      refine pure_ (i := 4) (N := some 39) (v := ?_) (a' := ?_) #[true, true, true, true, true] rfl rfl (by kernel_rfl) (fun _ _ _ h => h) (Or.inl ⟨by rfl, ?_⟩) ?_ ?_
      rotate_left
      ·intro w'
       go_simp
       with_reducible rfl
      rotate_left
      ·simp only [Act.put, List.setIfInBounds_toArray, List.set_cons_zero, List.set_cons_succ, i64_w, i32_w]
       rfl
      refine done_ (by kernel_rfl) ?_
      try go_wp2
      go_ret
      exact ⟨by first | rfl | (simp [errW_none, errW_some] <;> rfl) | (simp [*, errW_none, errW_some] <;> rfl), by repeat (first | (with_reducible first | exact HB.out | apply below_alloc | apply pw_below_drewN | apply below_drew1 | refine below_set ?_ GE342.out | refine below_set ?_ GE352.out) | exact HB.out)⟩
     ·replace c30 := Bool.eq_false_iff.mpr c30
      subst c30
      have H1 : (some false) = some r := by rw [if_neg (show ¬ (false = true) by decide)] at H; exact H
      clear H
      have H := H1
      clear H1
      exact absurd hT.out (by rw [← Option.some.inj H]; decide)
def good144 (x : S144) : Prop := ((Lit.int .i64 x.f0).wf = true) ∧ ((Lit.int .i64 x.f1).wf = true)
def good24 (x : S24) : Prop := (x.f0.length ≤ maxLen ∧ ∀ e_359 ∈ x.f0, e_359.length ≤ maxLen ∧ ∀ e_360 ∈ e_359, good144 e_360)

/-- THE ONE PURE STATEMENT of laws_FnExactEulerOf. -/
def laws_FnExactEulerOf.Pure : Prop := ∀ (x0 : S24), (good24 x0) → ∃ k, laws_FnExactEulerOf.f k x0.f0 = some true

end Go.Proofs.Ytibkopejnhihkaa.PFnExactEulerOf
