/- A part of the walk: what functions of the program do, over an abstract heap. -/
import Derived.Test.YtpbbfephfmdgmaaEA
namespace Go.Proofs.Ytpbbfephfmdgmaa.Rai
open Go TP
set_option linter.unusedVariables false
set_option linter.unusedSimpArgs false
set_option maxRecDepth 20000
theorem tfEB : (tk Try.prog 24 = some (some 2)) ∧ (tk Try.prog 29 = some (some 2)) ∧ (zr Try.prog 29 = some (.agg #[.slice none 0 0, .int .i64 0])) := by
  refine ⟨?_, ?_, ?_⟩ <;> kernel_rfl
theorem rnEB {a b : Prop} (hb : b) (h : Later b → a := by
  intro hb
  first
  | ((with_reducible first | refine AOps.nil ?_ | refine athen_n ?_ | refine athen_r ?_ | refine athen_e ?_ | refine ablock_n ?_ | refine ablock_r ?_ | refine ablock_s ?_ | refine AWp.seq' ?_ | refine AWp.block ?_ | refine AWp.skip ?_ | refine AWp.exit ?_ | refine AWp.ret ?_ | refine AWp.region ?_ | (refine ablock_e ?_ ?_; focus rfl)); repeat (with_reducible first | refine AOps.nil ?_ | refine athen_n ?_ | refine athen_r ?_ | refine athen_e ?_ | refine ablock_n ?_ | refine ablock_r ?_ | refine ablock_s ?_ | refine AWp.seq' ?_ | refine AWp.block ?_ | refine AWp.skip ?_ | refine AWp.exit ?_ | refine AWp.ret ?_ | refine AWp.region ?_ | (refine ablock_e ?_ ?_; focus rfl)))
  | (refine AOps.guardu rfl rfl rfl ?_ ?_; focus (simp (disch := (first | omega | (simp only [nx]; first | done | omega))) only [Value.bool.injEq, Bool.and_true, Bool.true_and, Bool.and_false, Bool.false_and, beq_self_eq_true, bne, Bool.not_true, Bool.not_false, sx, nx, dx, ↓reduceIte, reduceCtorEq, Nat.reduceEqDiff, ne_eq, not_false_eq_true, *]; done))
  | ((first | refine AOps.cons2 rfl rfl fun K hK => ?_ | refine AWp.cond rfl fun X Y hX hY => ?_ | refine AOps.guard rfl rfl rfl fun X Y hX hY => ?_ | refine aret_r ?_ | refine aret_n ?_); simp (disch := (first | omega | (simp only [nx]; first | done | omega))) only [acond_bool, aresK, retv, xxq, tfEB, sliceK, bnd, appendK, appsK, copyK, clearK, makeSliceK, buildSliceK, buildK, lookupK, mapPutK, mapOf, convK, allocK, indexK, partK, xxa, xxb, xxc, bne, Int.reduceEq, Int.reduceBEq, Int.reduceNe, Int.reduceBNe, Int.reduceLE, Int.reduceGT, Int.reduceGE, Int.reduceNeg, ↓reduceIte, reduceCtorEq, Nat.reduceEqDiff, Nat.reduceAdd, Nat.reduceMul, Nat.reduceSub, Nat.reduceLT, Int.reduceAdd, Int.reduceSub, Int.reduceMul, Int.reduceLT, Int.reduceToNat, ne_eq, *]; (repeat first | ((with_reducible refine And.intro (fun hc => ?_) (fun hc => absurd hc (by omega))); clear hc) | ((with_reducible refine And.intro (fun hc => absurd hc (by omega)) (fun hc => ?_)); clear hc) | ((with_reducible refine And.intro ?_ ?_); focus ((first | omega | assumption | exact cok _ rfl | exact one_ints _ | exact one_map fun _ => rfl | ((repeat refine one_cons (by first | rfl | assumption) ?_); exact one_nil) | rfl | decide | (intro u hu; cases hu)); done)) | (with_reducible refine (fun hc => ?_ : _ → _); clear hc)); (first | refine hK.out _ _ ?_ | refine ACalls.hk hK ?_ | refine appendK.hk hK ?_ | refine (fun (q : _ ∧ _) => And.intro (hK.out _ _ q.1) (hK.out _ _ q.2)) ?_ | refine hX.out ?_ | refine hY.out ?_ | refine (fun (q : (_ → _) ∧ (_ → _)) => And.intro (fun hc => hX.out (q.1 hc)) (fun hc => hY.out (q.2 hc))) ?_ | refine (fun (q : (_ → _) ∧ (_ → _)) => And.intro (fun hc => hY.out (q.1 hc)) (fun hc => hX.out (q.2 hc))) ?_ | skip))
  exact hb.out) : a := h ⟨hb⟩
theorem rdEB {a b : Prop} (hb : b) (h : Later b → a := by
  intro hb
  first
  | with_reducible refine APl.nil ?_
  | ((first | refine APl.pure2 rfl rfl rfl rfl fun Kx hKx => ?_ | refine APl.load rfl rfl rfl fun Kx hKx => ?_ | refine APl.slice rfl rfl rfl fun Kx hKx => ?_ | refine APl.act2 rfl rfl rfl rfl fun Kx hKx => ?_); simp (disch := (first | omega | (simp only [nx]; first | done | omega))) only [heldIn_iff, List.zipIdx_cons, List.zipIdx_nil, List.map_cons, List.map_nil, xxq, tfEB, sliceK, bnd, appendK, appsK, copyK, clearK, makeSliceK, buildSliceK, buildK, lookupK, mapPutK, mapOf, convK, allocK, indexK, partK, xxa, xxb, xxc, bne, Int.reduceEq, Int.reduceBEq, Int.reduceNe, Int.reduceBNe, Int.reduceLE, Int.reduceGT, Int.reduceGE, Int.reduceNeg, ↓reduceIte, reduceCtorEq, Nat.reduceEqDiff, Nat.reduceAdd, Nat.reduceMul, Nat.reduceSub, Nat.reduceLT, Int.reduceAdd, Int.reduceSub, Int.reduceMul, Int.reduceLT, Int.reduceToNat, ne_eq, *]; (repeat first | ((with_reducible refine And.intro (fun hc => ?_) (fun hc => absurd hc (by omega))); clear hc) | ((with_reducible refine And.intro (fun hc => absurd hc (by omega)) (fun hc => ?_)); clear hc) | ((with_reducible refine And.intro ?_ ?_); focus ((first | omega | assumption | exact cok _ rfl | exact one_ints _ | exact one_map fun _ => rfl | ((repeat refine one_cons (by first | rfl | assumption) ?_); exact one_nil) | rfl | decide | (intro u hu; cases hu)); done)) | (with_reducible refine (fun hc => ?_ : _ → _); clear hc)); (first | refine hKx.out _ ?_ | refine hKx.out _ _ ?_ | refine ACalls.hkx hKx ?_ | refine appendK.hkx hKx ?_ | refine (fun (q : _ ∧ _) => And.intro (hKx.out _ q.1) (hKx.out _ q.2)) ?_ | refine (fun (q : (_ → _) ∧ _) => And.intro (fun hc => hKx.out _ (q.1 hc)) (hKx.out _ q.2)) ?_ | (refine hKx.out _ _ ?_ ?_; focus (simp (disch := (first | omega | (simp only [nx]; first | done | omega))) only [heldIn_iff, List.zipIdx_cons, List.zipIdx_nil, List.map_cons, List.map_nil, xxq, tfEB, sliceK, bnd, appendK, appsK, copyK, clearK, makeSliceK, buildSliceK, buildK, lookupK, mapPutK, mapOf, convK, allocK, indexK, partK, xxa, xxb, xxc, bne, Int.reduceEq, Int.reduceBEq, Int.reduceNe, Int.reduceBNe, Int.reduceLE, Int.reduceGT, Int.reduceGE, Int.reduceNeg, ↓reduceIte, reduceCtorEq, Nat.reduceEqDiff, Nat.reduceAdd, Nat.reduceMul, Nat.reduceSub, Nat.reduceLT, Int.reduceAdd, Int.reduceSub, Int.reduceMul, Int.reduceLT, Int.reduceToNat, ne_eq, *]; first | done | trivial))))
  exact hb.out) : a := h ⟨hb⟩
theorem hlEB {p b : Prop} (hb : b) (h : p := by simp (disch := (first | omega | (simp only [nx]; first | done | omega))) only [heldIn_iff, List.zipIdx_cons, List.zipIdx_nil, List.map_cons, List.map_nil, xxq, tfEB, sliceK, bnd, appendK, appsK, copyK, clearK, makeSliceK, buildSliceK, buildK, lookupK, mapPutK, mapOf, convK, allocK, indexK, partK, xxa, xxb, xxc, bne, Int.reduceEq, Int.reduceBEq, Int.reduceNe, Int.reduceBNe, Int.reduceLE, Int.reduceGT, Int.reduceGE, Int.reduceNeg, ↓reduceIte, reduceCtorEq, Nat.reduceEqDiff, Nat.reduceAdd, Nat.reduceMul, Nat.reduceSub, Nat.reduceLT, Int.reduceAdd, Int.reduceSub, Int.reduceMul, Int.reduceLT, Int.reduceToNat, ne_eq, *]; first | done | trivial) : p ∧ b := ⟨h, hb⟩
theorem ivEB {p : Prop} (h : p := by first | omega | ((repeat first | exact Ext.refl _ | assumption | refine Ext.push ?_ _ | refine Ext.set ?_ _ (by first | omega | (simp only [nx, *]; omega)) | (apply Ext.up; focus (assumption; done))); done) | (simp (disch := (first | omega | (simp only [nx]; first | done | omega))) only [xxq, xxa, xxb, xxc, bne, Int.reduceEq, Int.reduceBEq, Int.reduceNe, Int.reduceBNe, Int.reduceLE, Int.reduceGT, Int.reduceGE, Int.reduceNeg, ↓reduceIte, reduceCtorEq, Nat.reduceEqDiff, Nat.reduceAdd, Nat.reduceMul, Nat.reduceSub, Nat.reduceLT, Int.reduceAdd, Int.reduceSub, Int.reduceMul, Int.reduceLT, Int.reduceToNat, ne_eq, *, intV_int]; first | done | omega | rfl | exact congrArg (Value.int .i64) (by omega) | ((repeat first | exact Ext.refl _ | assumption | refine Ext.push ?_ _ | refine Ext.set ?_ _ (by first | omega | (simp only [nx, *]; omega)) | (apply Ext.up; focus (assumption; done))); done)) | rfl) : p := h
theorem smEB {a b : Prop} (hb : b) (h : Later b → a := by intro hb; simp (disch := (first | omega | (simp only [nx]; first | done | omega))) only [xxq, xxa, xxb, xxc, bne, Int.reduceEq, Int.reduceBEq, Int.reduceNe, Int.reduceBNe, Int.reduceLE, Int.reduceGT, Int.reduceGE, Int.reduceNeg, ↓reduceIte, reduceCtorEq, Nat.reduceEqDiff, Nat.reduceAdd, Nat.reduceMul, Nat.reduceSub, Nat.reduceLT, Int.reduceAdd, Int.reduceSub, Int.reduceMul, Int.reduceLT, Int.reduceToNat, ne_eq, *, intV_int]; exact hb.out) : a := h ⟨hb⟩
theorem gtEB {A F : Fr} {t : Nat} {v : Value} (h : Ag [] A F) (e : F t = v := by simp (disch := (first | omega | (simp only [nx]; first | done | omega))) only [xxq, xxa, xxb, xxc, bne, Int.reduceEq, Int.reduceBEq, Int.reduceNe, Int.reduceBNe, Int.reduceLE, Int.reduceGT, Int.reduceGE, Int.reduceNeg, ↓reduceIte, reduceCtorEq, Nat.reduceEqDiff, Nat.reduceAdd, Nat.reduceMul, Nat.reduceSub, Nat.reduceLT, Int.reduceAdd, Int.reduceSub, Int.reduceMul, Int.reduceLT, Int.reduceToNat, ne_eq, *, intV_int]; exact rfl) : A t = v := (h.h t rfl).trans e
theorem agEB {D : List Nat} {A F : Fr} (h : Ag D A F := by
  repeat (with_reducible first | exact Ag.refl _ _ | refine Ag.nop ?_ | refine Ag.dead rfl ?_ | (refine Ag.live ?_ ?_; focus exact ivEB) | refine Ag.dr rfl ?_ | (refine Ag.lr ?_ ?_; focus exact ivEB) | refine Ag.up (by assumption) rfl ?_)) : Ag D A F := h
theorem sdEB {p : Prop} (h : p := by first | omega | assumption | (simp (disch := (first | omega | (simp only [nx]; first | done | omega))) only [xxq, tfEB, sliceK, bnd, appendK, appsK, copyK, clearK, makeSliceK, buildSliceK, buildK, lookupK, mapPutK, mapOf, convK, allocK, indexK, partK, xxa, xxb, xxc, bne, Int.reduceEq, Int.reduceBEq, Int.reduceNe, Int.reduceBNe, Int.reduceLE, Int.reduceGT, Int.reduceGE, Int.reduceNeg, ↓reduceIte, reduceCtorEq, Nat.reduceEqDiff, Nat.reduceAdd, Nat.reduceMul, Nat.reduceSub, Nat.reduceLT, Int.reduceAdd, Int.reduceSub, Int.reduceMul, Int.reduceLT, Int.reduceToNat, ne_eq, *]; first | done | omega | rfl)) : p := h
abbrev OwnN2 := OwN
theorem Ext.setpush {H : Heap} {x y : Blk} (h : Ext H H) : Ext H ((H.push x).set H.size y) := (h.push _).set _ (Nat.le_refl _)
set_option maxHeartbeats 4000000 in
theorem lawMirrorDiagram_c {H : Heap} {v : Value} {C : List Cr} (z : Int) (hC : RdC H v C) (hS : C.length ≤ 9223372036854775807) : ACalls Try.prog 7 [.agg #[v, I z]] H fun u H' => u = B true := by
  have hC1 := fun {H' : Heap} (h : Ext H H') => hC.ext h
  have hone := hC.one
  by_cases hl : (1048576 : Int) - C.length < 0
  · refine ACalls.body Try.func7 rfl Try.ntmps7 (rs := [.tmp 2]) rfl (by simp) rfl fun Q hQ A hA => ?_
    have a0 := hA 0 _ _ rfl
    clear hA
    repeat' first | refine rnEB ?_ | (refine (szDiagram_c z (hC1 (by exact ex1)) hS 1048576 (by omega) (by omega)).mono ?_; rintro u H1 ⟨rfl, hx1⟩; rw [if_pos hl]; have hx1g := hx1.get; have hx1s := hx1.size; (try simp only [nx] at hx1s)) | with_reducible refine And.intro (fun hc => ?_) (fun hc => ?_) | fail
    exact hQ.out _ _ rfl
  · have hS2 : C.length ≤ 1048576 := by omega
    have hE2 : (mapV C z flipC).1.length ≤ 1048576 := by unfold mapV; split <;> simp <;> omega
    have hsp := fun {H : Heap} {v : Value} (h : RdC H v C) => specMirrorDiagram_c z h hS2
    have him := fun {H : Heap} {v : Value} (h : RdC H v C) => MirrorDiagram_c z h hS2
    generalize (mapV C z flipC).1 = E at *
    generalize (mapV C z flipC).2 = ze at *
    refine ACalls.body Try.func7 rfl Try.ntmps7 (rs := [.tmp 2]) rfl (by simp) rfl fun Q hQ A hA => ?_
    have a0 := hA 0 _ _ rfl
    clear hA
    repeat' first | refine rnEB ?_ | (refine (szDiagram_c z (hC1 (by exact ex1)) hS 1048576 (by omega) (by omega)).mono ?_; rintro u H1 ⟨rfl, hx1⟩; rw [if_neg hl]; have hx1g := hx1.get; have hx1s := hx1.size; (try simp only [nx] at hx1s)) | with_reducible refine And.intro (fun hc => ?_) (fun hc => ?_) | fail
    refine (toDiagram_c z (hC1 (by exact ex1)) hS2).mono ?_
    rintro u H2 ⟨⟨w1, g1, rfl, hO1, hg1⟩, hx2⟩
    have hx2g := hx2.get; have hx2s := hx2.size; (try simp only [nx] at hx2s)
    repeat' first | refine rnEB ?_ | with_reducible refine And.intro (fun hc => ?_) (fun hc => ?_) | fail
    refine (hsp hO1.rd).mono ?_
    rintro u' H3 ⟨⟨w, rfl, hW⟩, hx3⟩
    have hx3g := hx3.get; have hx3s := hx3.size; (try simp only [nx] at hx3s)
    have hWr := hW.rd
    have hw1 := hWr.one
    repeat' first | refine rnEB ?_ | with_reducible refine And.intro (fun hc => ?_) (fun hc => ?_) | fail
    refine (toDiagram_c z (hC1 (by exact ex1)) hS2).mono ?_
    rintro u H4 ⟨⟨w2, g2, rfl, hO2, hg2⟩, hx4⟩
    have hx4g := hx4.get; have hx4s := hx4.size; (try simp only [nx] at hx4s)
    simp only [nx] at hg2
    have ho2 := hO2.rd.one
    repeat' first | refine rnEB ?_ | with_reducible refine And.intro (fun hc => ?_) (fun hc => ?_) | fail
    refine (him (hO2.rd.ext (by exact ex1))).mono ?_
    rintro u' H5 ⟨⟨u, rfl, hU⟩, hx5⟩
    have hx5g := hx5.get; have hx5s := hx5.size; (try simp only [nx] at hx5s)
    simp only [nx] at hU
    have hu1 := hU.rd.one
    repeat' first | refine rnEB ?_ | (refine (eqDiagram_c ze (hU.rd.ext (by exact ex1)) (hWr.ext (by exact ex1)) hE2).mono ?_; rintro u' H6 ⟨rfl, hx6⟩; have hx6g := hx6.get; have hx6s := hx6.size; (try simp only [nx] at hx6s)) | with_reducible refine And.intro (fun hc => ?_) (fun hc => ?_) | fail
    refine AWp.planned [0,1,2,3,4] mixed (by kernel_rfl) ?_
    repeat' first | refine rdEB ?_ | (refine (toDiagram_c z (hC1 (by exact ex1)) hS2).mono ?_; rintro u' H7 ⟨⟨w3, g3, rfl, hO3, hg3⟩, hx7⟩; have hx7g := hx7.get; have hx7s := hx7.size; (try simp only [nx] at hx7s); refine hlEB ?_) | (refine (eqDiagram_c z ((hO2.rd.ext (by exact ex1))) hO3.rd hS2).mono ?_; rintro u' H8 ⟨rfl, hx8⟩; have hx8g := hx8.get; have hx8s := hx8.size; (try simp only [nx] at hx8s); refine hlEB ?_) | with_reducible refine And.intro (fun hc => ?_) ?_ | with_reducible refine And.intro ?_ ?_ | fail
    obtain ⟨hO28, hU8, hx38, hx08⟩ : OwC H8 w2 g2 C ∧ OwnN2 (H4.size + 1) H5.size H8 u E ∧ Ext H3 H8 ∧ Ext H H8 := ⟨hO2.ext (by exact ex1), hU.ext (by exact ex1), by exact ex1, by exact ex1⟩
    have hgl := hO2.lt
    have hneg5 : (1 + 5 * (C.length : Int) < 0) = False := eq_false (by omega)
    have hneg6 : (1 + 5 * (E.length : Int) < 0) = False := eq_false (by omega)
    repeat' first | refine rnEB ?_ | with_reducible refine And.intro (fun hc => ?_) (fun hc => ?_) | fail
    refine (markDiagram_c (k := 1) z hO28 hS2 (by omega) (by omega)).mono ?_
    rintro u' H9 ⟨rfl, hO29, e9⟩
    have e9g := e9.get; have e9s := e9.size; (try simp only [nx] at e9s)
    have hU9 : OwnN2 (H4.size + 1) H5.size H9 u E := hU8.keep e9 (.inr (by omega))
    have hx39 : Ext H3 H9 := e9.toExt hx38 (by omega)
    have hx09 : Ext H H9 := e9.toExt hx08 (by omega)
    clear hO29
    repeat' first | refine rnEB ?_ | (refine (eqDiagram_c ze hU9.rd (hWr.ext hx39) hE2).mono ?_; rintro u' Ha ⟨rfl, hxa⟩; have hxag := hxa.get; have hxas := hxa.size; (try simp only [nx] at hxas)) | with_reducible refine And.intro (fun hc => ?_) (fun hc => ?_) | fail
    refine (markN_c (k := 1) ze (hU9.ext hxa) hE2 (by omega) (by omega)).mono ?_
    rintro u' Hb ⟨rfl, hUb, eb⟩
    have ebg := eb.get; have ebs := eb.size; (try simp only [nx] at ebs)
    have hx3b : Ext H3 Hb := eb.toExt (hx39.trans hxa) (by omega)
    have hx0b : Ext H Hb := eb.toExt (hx09.trans hxa) (by omega)
    repeat' first | refine rnEB ?_ | (refine (heldDiagram_c (k := 1) (n := E.length) ze hUb.rd hE2 (by omega) (by omega)).mono ?_; rintro u' Hc ⟨rfl, hxc⟩; have hxcg := hxc.get; have hxcs := hxc.size; (try simp only [nx] at hxcs)) | with_reducible refine And.intro (fun hc => ?_) (fun hc => ?_) | fail
    refine (toDiagram_c z (hC1 (hx0b.trans hxc)) hS2).mono ?_
    rintro u' Hd ⟨⟨w4, g4, rfl, hO4, hg4⟩, hxd⟩
    have hxdg := hxd.get; have hxds := hxd.size; (try simp only [nx] at hxds)
    repeat' first | refine rnEB ?_ | with_reducible refine And.intro (fun hc => ?_) (fun hc => ?_) | fail
    refine (him hO4.rd).mono ?_
    rintro u' He ⟨⟨u2, rfl, hV⟩, hxe⟩
    have hxeg := hxe.get; have hxes := hxe.size; (try simp only [nx] at hxes)
    have hv1 := hV.rd.one
    have hx3e : Ext H3 He := ((hx3b.trans hxc).trans hxd).trans hxe
    have hxbe : Ext Hb He := (hxc.trans hxd).trans hxe
    have hUe := hUb.ext hxbe
    clear hxd hxe hxc hx3b hx0b hxbe
    repeat' first | refine rnEB ?_ | (refine (eqDiagram_c ze (hV.rd.ext (by exact (Ext.refl He).setpush)) (hWr.ext (hx3e.trans (Ext.refl He).setpush)) hE2).mono ?_; rintro u' Hf ⟨rfl, hxf⟩; have hxfg := hxf.get; have hxfs := hxf.size; (try simp only [nx] at hxfs)) | with_reducible refine And.intro (fun hc => ?_) (fun hc => ?_) | fail
    refine (heldDiagram_c (k := 1) (n := E.length) ze (hUe.ext ((Ext.refl He).setpush.trans hxf)).rd hE2 (by omega) (by omega)).mono ?_
    rintro u' Hg ⟨rfl, hxg⟩
    have hxgg := hxg.get; have hxgs := hxg.size; (try simp only [nx] at hxgs)
    repeat' first | refine rnEB ?_ | with_reducible refine And.intro (fun hc => ?_) (fun hc => ?_) | fail
    exact hQ.out _ _ rfl
set_option maxHeartbeats 4000000 in
theorem lawReverseDiagram_c {H : Heap} {v : Value} {C : List Cr} (z : Int) (hC : RdC H v C) (hS : C.length ≤ 9223372036854775807) : ACalls Try.prog 5 [.agg #[v, I z]] H fun u H' => u = B true := by
  have hC1 := fun {H' : Heap} (h : Ext H H') => hC.ext h
  have hone := hC.one
  by_cases hl : (1048576 : Int) - C.length < 0
  · refine ACalls.body Try.func5 rfl Try.ntmps5 (rs := [.tmp 2]) rfl (by simp) rfl fun Q hQ A hA => ?_
    have a0 := hA 0 _ _ rfl
    clear hA
    repeat' first | refine rnEB ?_ | (refine (szDiagram_c z (hC1 (by exact ex1)) hS 1048576 (by omega) (by omega)).mono ?_; rintro u H1 ⟨rfl, hx1⟩; rw [if_pos hl]; have hx1g := hx1.get; have hx1s := hx1.size; (try simp only [nx] at hx1s)) | with_reducible refine And.intro (fun hc => ?_) (fun hc => ?_) | fail
    exact hQ.out _ _ rfl
  · have hS2 : C.length ≤ 1048576 := by omega
    have hE2 : (mapV C z revC).1.length ≤ 1048576 := by unfold mapV; split <;> simp <;> omega
    have hsp := fun {H : Heap} {v : Value} (h : RdC H v C) => specReverseDiagram_c z h hS2
    have him := fun {H : Heap} {v : Value} (h : RdC H v C) => ReverseDiagram_c z h hS2
    generalize (mapV C z revC).1 = E at *
    generalize (mapV C z revC).2 = ze at *
    refine ACalls.body Try.func5 rfl Try.ntmps5 (rs := [.tmp 2]) rfl (by simp) rfl fun Q hQ A hA => ?_
    have a0 := hA 0 _ _ rfl
    clear hA
    repeat' first | refine rnEB ?_ | (refine (szDiagram_c z (hC1 (by exact ex1)) hS 1048576 (by omega) (by omega)).mono ?_; rintro u H1 ⟨rfl, hx1⟩; rw [if_neg hl]; have hx1g := hx1.get; have hx1s := hx1.size; (try simp only [nx] at hx1s)) | with_reducible refine And.intro (fun hc => ?_) (fun hc => ?_) | fail
    refine (toDiagram_c z (hC1 (by exact ex1)) hS2).mono ?_
    rintro u H2 ⟨⟨w1, g1, rfl, hO1, hg1⟩, hx2⟩
    have hx2g := hx2.get; have hx2s := hx2.size; (try simp only [nx] at hx2s)
    repeat' first | refine rnEB ?_ | with_reducible refine And.intro (fun hc => ?_) (fun hc => ?_) | fail
    refine (hsp hO1.rd).mono ?_
    rintro u' H3 ⟨⟨w, rfl, hW⟩, hx3⟩
    have hx3g := hx3.get; have hx3s := hx3.size; (try simp only [nx] at hx3s)
    have hWr := hW.rd
    have hw1 := hWr.one
    repeat' first | refine rnEB ?_ | with_reducible refine And.intro (fun hc => ?_) (fun hc => ?_) | fail
    refine (toDiagram_c z (hC1 (by exact ex1)) hS2).mono ?_
    rintro u H4 ⟨⟨w2, g2, rfl, hO2, hg2⟩, hx4⟩
    have hx4g := hx4.get; have hx4s := hx4.size; (try simp only [nx] at hx4s)
    simp only [nx] at hg2
    have ho2 := hO2.rd.one
    repeat' first | refine rnEB ?_ | with_reducible refine And.intro (fun hc => ?_) (fun hc => ?_) | fail
    refine (him (hO2.rd.ext (by exact ex1))).mono ?_
    rintro u' H5 ⟨⟨u, rfl, hU⟩, hx5⟩
    have hx5g := hx5.get; have hx5s := hx5.size; (try simp only [nx] at hx5s)
    simp only [nx] at hU
    have hu1 := hU.rd.one
    repeat' first | refine rnEB ?_ | (refine (eqDiagram_c ze (hU.rd.ext (by exact ex1)) (hWr.ext (by exact ex1)) hE2).mono ?_; rintro u' H6 ⟨rfl, hx6⟩; have hx6g := hx6.get; have hx6s := hx6.size; (try simp only [nx] at hx6s)) | with_reducible refine And.intro (fun hc => ?_) (fun hc => ?_) | fail
    refine AWp.planned [0,1,2,3,4] mixed (by kernel_rfl) ?_
    repeat' first | refine rdEB ?_ | (refine (toDiagram_c z (hC1 (by exact ex1)) hS2).mono ?_; rintro u' H7 ⟨⟨w3, g3, rfl, hO3, hg3⟩, hx7⟩; have hx7g := hx7.get; have hx7s := hx7.size; (try simp only [nx] at hx7s); refine hlEB ?_) | (refine (eqDiagram_c z ((hO2.rd.ext (by exact ex1))) hO3.rd hS2).mono ?_; rintro u' H8 ⟨rfl, hx8⟩; have hx8g := hx8.get; have hx8s := hx8.size; (try simp only [nx] at hx8s); refine hlEB ?_) | with_reducible refine And.intro (fun hc => ?_) ?_ | with_reducible refine And.intro ?_ ?_ | fail
    obtain ⟨hO28, hU8, hx38, hx08⟩ : OwC H8 w2 g2 C ∧ OwnN2 (H4.size + 1) H5.size H8 u E ∧ Ext H3 H8 ∧ Ext H H8 := ⟨hO2.ext (by exact ex1), hU.ext (by exact ex1), by exact ex1, by exact ex1⟩
    have hgl := hO2.lt
    have hneg5 : (1 + 5 * (C.length : Int) < 0) = False := eq_false (by omega)
    have hneg6 : (1 + 5 * (E.length : Int) < 0) = False := eq_false (by omega)
    repeat' first | refine rnEB ?_ | with_reducible refine And.intro (fun hc => ?_) (fun hc => ?_) | fail
    refine (markDiagram_c (k := 1) z hO28 hS2 (by omega) (by omega)).mono ?_
    rintro u' H9 ⟨rfl, hO29, e9⟩
    have e9g := e9.get; have e9s := e9.size; (try simp only [nx] at e9s)
    have hU9 : OwnN2 (H4.size + 1) H5.size H9 u E := hU8.keep e9 (.inr (by omega))
    have hx39 : Ext H3 H9 := e9.toExt hx38 (by omega)
    have hx09 : Ext H H9 := e9.toExt hx08 (by omega)
    clear hO29
    repeat' first | refine rnEB ?_ | (refine (eqDiagram_c ze hU9.rd (hWr.ext hx39) hE2).mono ?_; rintro u' Ha ⟨rfl, hxa⟩; have hxag := hxa.get; have hxas := hxa.size; (try simp only [nx] at hxas)) | with_reducible refine And.intro (fun hc => ?_) (fun hc => ?_) | fail
    refine (markN_c (k := 1) ze (hU9.ext hxa) hE2 (by omega) (by omega)).mono ?_
    rintro u' Hb ⟨rfl, hUb, eb⟩
    have ebg := eb.get; have ebs := eb.size; (try simp only [nx] at ebs)
    have hx3b : Ext H3 Hb := eb.toExt (hx39.trans hxa) (by omega)
    have hx0b : Ext H Hb := eb.toExt (hx09.trans hxa) (by omega)
    repeat' first | refine rnEB ?_ | (refine (heldDiagram_c (k := 1) (n := E.length) ze hUb.rd hE2 (by omega) (by omega)).mono ?_; rintro u' Hc ⟨rfl, hxc⟩; have hxcg := hxc.get; have hxcs := hxc.size; (try simp only [nx] at hxcs)) | with_reducible refine And.intro (fun hc => ?_) (fun hc => ?_) | fail
    refine (toDiagram_c z (hC1 (hx0b.trans hxc)) hS2).mono ?_
    rintro u' Hd ⟨⟨w4, g4, rfl, hO4, hg4⟩, hxd⟩
    have hxdg := hxd.get; have hxds := hxd.size; (try simp only [nx] at hxds)
    repeat' first | refine rnEB ?_ | with_reducible refine And.intro (fun hc => ?_) (fun hc => ?_) | fail
    refine (him hO4.rd).mono ?_
    rintro u' He ⟨⟨u2, rfl, hV⟩, hxe⟩
    have hxeg := hxe.get; have hxes := hxe.size; (try simp only [nx] at hxes)
    have hv1 := hV.rd.one
    have hx3e : Ext H3 He := ((hx3b.trans hxc).trans hxd).trans hxe
    have hxbe : Ext Hb He := (hxc.trans hxd).trans hxe
    have hUe := hUb.ext hxbe
    clear hxd hxe hxc hx3b hx0b hxbe
    repeat' first | refine rnEB ?_ | (refine (eqDiagram_c ze (hV.rd.ext (by exact (Ext.refl He).setpush)) (hWr.ext (hx3e.trans (Ext.refl He).setpush)) hE2).mono ?_; rintro u' Hf ⟨rfl, hxf⟩; have hxfg := hxf.get; have hxfs := hxf.size; (try simp only [nx] at hxfs)) | with_reducible refine And.intro (fun hc => ?_) (fun hc => ?_) | fail
    refine (heldDiagram_c (k := 1) (n := E.length) ze (hUe.ext ((Ext.refl He).setpush.trans hxf)).rd hE2 (by omega) (by omega)).mono ?_
    rintro u' Hg ⟨rfl, hxg⟩
    have hxgg := hxg.get; have hxgs := hxg.size; (try simp only [nx] at hxgs)
    repeat' first | refine rnEB ?_ | with_reducible refine And.intro (fun hc => ?_) (fun hc => ?_) | fail
    exact hQ.out _ _ rfl
end Go.Proofs.Ytpbbfephfmdgmaa.Rai
