/- A part of the walk: what functions of the program do, over an abstract heap. -/
import Derived.Test.YtpbbfephfmdgmaaDE
namespace Go.Proofs.Ytpbbfephfmdgmaa.Rai
open Go TP
set_option linter.unusedVariables false
set_option linter.unusedSimpArgs false
set_option maxRecDepth 20000
theorem tfDF : (Try.prog.underlying 27 = some (.slice 54)) ∧ (el Try.prog 27 = some (none, 5)) ∧ (Try.prog.underlying 72 = some (.slice 4)) ∧ (el Try.prog 72 = some (none, 1)) ∧ (tk Try.prog 2 = some none) ∧ (tk Try.prog 4 = some none) ∧ (tk Try.prog 27 = some none) ∧ (tk Try.prog 54 = some (some 5)) ∧ (cz Try.prog 4 = some 1) ∧ (bz Try.prog 4 = some 1) ∧ (cz Try.prog 54 = some 5) ∧ (bz Try.prog 54 = some 40) ∧ (zr Try.prog 4 = some (.bool false)) ∧ (zr Try.prog 54 = some (.agg #[.int .i64 0, .int .i64 0, .int .i64 0, .int .i64 0, .int .i64 0])) ∧ (fo Try.prog 29 0 = some (0, none)) ∧ (fo Try.prog 54 4 = some (4, none)) := by
  refine ⟨?_, ?_, ?_, ?_, ?_, ?_, ?_, ?_, ?_, ?_, ?_, ?_, ?_, ?_, ?_, ?_⟩ <;> kernel_rfl
theorem rnDF {a b : Prop} (hb : b) (h : Later b → a := by
  intro hb
  first
  | ((with_reducible first | refine AOps.nil ?_ | refine athen_n ?_ | refine athen_r ?_ | refine athen_e ?_ | refine ablock_n ?_ | refine ablock_r ?_ | refine ablock_s ?_ | refine AWp.seq' ?_ | refine AWp.block ?_ | refine AWp.skip ?_ | refine AWp.exit ?_ | refine AWp.ret ?_ | refine AWp.region ?_ | (refine ablock_e ?_ ?_; focus rfl)); repeat (with_reducible first | refine AOps.nil ?_ | refine athen_n ?_ | refine athen_r ?_ | refine athen_e ?_ | refine ablock_n ?_ | refine ablock_r ?_ | refine ablock_s ?_ | refine AWp.seq' ?_ | refine AWp.block ?_ | refine AWp.skip ?_ | refine AWp.exit ?_ | refine AWp.ret ?_ | refine AWp.region ?_ | (refine ablock_e ?_ ?_; focus rfl)))
  | (refine AOps.guardu rfl rfl rfl ?_ ?_; focus (simp (disch := (first | omega | (simp only [nx]; first | done | omega))) only [Value.bool.injEq, Bool.and_true, Bool.true_and, Bool.and_false, Bool.false_and, beq_self_eq_true, bne, Bool.not_true, Bool.not_false, sx, nx, dx, ↓reduceIte, reduceCtorEq, Nat.reduceEqDiff, ne_eq, not_false_eq_true, *]; done))
  | ((first | refine AOps.cons2 rfl rfl fun K hK => ?_ | refine AWp.cond rfl fun X Y hX hY => ?_ | refine AOps.guard rfl rfl rfl fun X Y hX hY => ?_ | refine aret_r ?_ | refine aret_n ?_); simp (disch := (first | omega | (simp only [nx]; first | done | omega))) only [acond_bool, aresK, retv, xxq, tfDF, sliceK, bnd, appendK, appsK, copyK, clearK, makeSliceK, buildSliceK, buildK, lookupK, mapPutK, mapOf, convK, allocK, indexK, partK, xxa, xxb, xxc, bne, Int.reduceEq, Int.reduceBEq, Int.reduceNe, Int.reduceBNe, Int.reduceLE, Int.reduceGT, Int.reduceGE, Int.reduceNeg, ↓reduceIte, reduceCtorEq, Nat.reduceEqDiff, Nat.reduceAdd, Nat.reduceMul, Nat.reduceSub, Nat.reduceLT, Int.reduceAdd, Int.reduceSub, Int.reduceMul, Int.reduceLT, Int.reduceToNat, ne_eq, *]; (repeat first | ((with_reducible refine And.intro (fun hc => ?_) (fun hc => absurd hc (by omega))); clear hc) | ((with_reducible refine And.intro (fun hc => absurd hc (by omega)) (fun hc => ?_)); clear hc) | ((with_reducible refine And.intro ?_ ?_); focus ((first | omega | assumption | exact cok _ rfl | exact one_ints _ | exact one_map fun _ => rfl | ((repeat refine one_cons (by first | rfl | assumption) ?_); exact one_nil) | rfl | decide | (intro u hu; cases hu)); done)) | (with_reducible refine (fun hc => ?_ : _ → _); clear hc)); (first | refine hK.out _ _ ?_ | refine ACalls.hk hK ?_ | refine appendK.hk hK ?_ | refine (fun (q : _ ∧ _) => And.intro (hK.out _ _ q.1) (hK.out _ _ q.2)) ?_ | refine hX.out ?_ | refine hY.out ?_ | refine (fun (q : (_ → _) ∧ (_ → _)) => And.intro (fun hc => hX.out (q.1 hc)) (fun hc => hY.out (q.2 hc))) ?_ | refine (fun (q : (_ → _) ∧ (_ → _)) => And.intro (fun hc => hY.out (q.1 hc)) (fun hc => hX.out (q.2 hc))) ?_ | skip))
  exact hb.out) : a := h ⟨hb⟩
theorem rkDF {a b : Prop} (hb : b) (h : Later b → a := by
  intro hb
  refine APf.pure rfl rfl rfl rfl rfl fun Kx hKx => ?_
  (simp (disch := (first | omega | (simp only [nx]; first | done | omega))) only [heldIn_iff, List.zipIdx_cons, List.zipIdx_nil, List.map_cons, List.map_nil, xxq, tfDF, sliceK, bnd, appendK, appsK, copyK, clearK, makeSliceK, buildSliceK, buildK, lookupK, mapPutK, mapOf, convK, allocK, indexK, partK, xxa, xxb, xxc, bne, Int.reduceEq, Int.reduceBEq, Int.reduceNe, Int.reduceBNe, Int.reduceLE, Int.reduceGT, Int.reduceGE, Int.reduceNeg, ↓reduceIte, reduceCtorEq, Nat.reduceEqDiff, Nat.reduceAdd, Nat.reduceMul, Nat.reduceSub, Nat.reduceLT, Int.reduceAdd, Int.reduceSub, Int.reduceMul, Int.reduceLT, Int.reduceToNat, ne_eq, *]; (repeat first | ((with_reducible refine And.intro (fun hc => ?_) (fun hc => absurd hc (by omega))); clear hc) | ((with_reducible refine And.intro (fun hc => absurd hc (by omega)) (fun hc => ?_)); clear hc) | ((with_reducible refine And.intro ?_ ?_); focus ((first | omega | assumption | exact cok _ rfl | exact one_ints _ | exact one_map fun _ => rfl | ((repeat refine one_cons (by first | rfl | assumption) ?_); exact one_nil) | rfl | decide | (intro u hu; cases hu)); done)) | (with_reducible refine (fun hc => ?_ : _ → _); clear hc)); (first | refine hKx.out _ ?_ | (refine hKx.out _ _ ?_ ?_; focus (simp (disch := (first | omega | (simp only [nx]; first | done | omega))) only [heldIn_iff, List.zipIdx_cons, List.zipIdx_nil, List.map_cons, List.map_nil, xxq, tfDF, sliceK, bnd, appendK, appsK, copyK, clearK, makeSliceK, buildSliceK, buildK, lookupK, mapPutK, mapOf, convK, allocK, indexK, partK, xxa, xxb, xxc, bne, Int.reduceEq, Int.reduceBEq, Int.reduceNe, Int.reduceBNe, Int.reduceLE, Int.reduceGT, Int.reduceGE, Int.reduceNeg, ↓reduceIte, reduceCtorEq, Nat.reduceEqDiff, Nat.reduceAdd, Nat.reduceMul, Nat.reduceSub, Nat.reduceLT, Int.reduceAdd, Int.reduceSub, Int.reduceMul, Int.reduceLT, Int.reduceToNat, ne_eq, *]; first | done | trivial)) | refine ACalls.hkx hKx ?_))
  exact hb.out) : a := h ⟨hb⟩
theorem rkfDF {a b c : Prop} (hb : b) (hc : c) (h : Later b → Later c → a := by
  intro hb hc
  refine APf.fork rfl rfl rfl rfl rfl rfl rfl rfl rfl (fun Kx hKx => ?_) (fun Kx hKx => ?_)
  focus ((simp (disch := (first | omega | (simp only [nx]; first | done | omega))) only [heldIn_iff, List.zipIdx_cons, List.zipIdx_nil, List.map_cons, List.map_nil, xxq, tfDF, sliceK, bnd, appendK, appsK, copyK, clearK, makeSliceK, buildSliceK, buildK, lookupK, mapPutK, mapOf, convK, allocK, indexK, partK, xxa, xxb, xxc, bne, Int.reduceEq, Int.reduceBEq, Int.reduceNe, Int.reduceBNe, Int.reduceLE, Int.reduceGT, Int.reduceGE, Int.reduceNeg, ↓reduceIte, reduceCtorEq, Nat.reduceEqDiff, Nat.reduceAdd, Nat.reduceMul, Nat.reduceSub, Nat.reduceLT, Int.reduceAdd, Int.reduceSub, Int.reduceMul, Int.reduceLT, Int.reduceToNat, ne_eq, *]; (repeat first | ((with_reducible refine And.intro (fun hc => ?_) (fun hc => absurd hc (by omega))); clear hc) | ((with_reducible refine And.intro (fun hc => absurd hc (by omega)) (fun hc => ?_)); clear hc) | ((with_reducible refine And.intro ?_ ?_); focus ((first | omega | assumption | exact cok _ rfl | exact one_ints _ | exact one_map fun _ => rfl | ((repeat refine one_cons (by first | rfl | assumption) ?_); exact one_nil) | rfl | decide | (intro u hu; cases hu)); done)) | (with_reducible refine (fun hc => ?_ : _ → _); clear hc)); (first | refine hKx.out _ ?_ | (refine hKx.out _ _ ?_ ?_; focus (simp (disch := (first | omega | (simp only [nx]; first | done | omega))) only [heldIn_iff, List.zipIdx_cons, List.zipIdx_nil, List.map_cons, List.map_nil, xxq, tfDF, sliceK, bnd, appendK, appsK, copyK, clearK, makeSliceK, buildSliceK, buildK, lookupK, mapPutK, mapOf, convK, allocK, indexK, partK, xxa, xxb, xxc, bne, Int.reduceEq, Int.reduceBEq, Int.reduceNe, Int.reduceBNe, Int.reduceLE, Int.reduceGT, Int.reduceGE, Int.reduceNeg, ↓reduceIte, reduceCtorEq, Nat.reduceEqDiff, Nat.reduceAdd, Nat.reduceMul, Nat.reduceSub, Nat.reduceLT, Int.reduceAdd, Int.reduceSub, Int.reduceMul, Int.reduceLT, Int.reduceToNat, ne_eq, *]; first | done | trivial)) | refine ACalls.hkx hKx ?_)); exact hb.out)
  focus ((simp (disch := (first | omega | (simp only [nx]; first | done | omega))) only [heldIn_iff, List.zipIdx_cons, List.zipIdx_nil, List.map_cons, List.map_nil, xxq, tfDF, sliceK, bnd, appendK, appsK, copyK, clearK, makeSliceK, buildSliceK, buildK, lookupK, mapPutK, mapOf, convK, allocK, indexK, partK, xxa, xxb, xxc, bne, Int.reduceEq, Int.reduceBEq, Int.reduceNe, Int.reduceBNe, Int.reduceLE, Int.reduceGT, Int.reduceGE, Int.reduceNeg, ↓reduceIte, reduceCtorEq, Nat.reduceEqDiff, Nat.reduceAdd, Nat.reduceMul, Nat.reduceSub, Nat.reduceLT, Int.reduceAdd, Int.reduceSub, Int.reduceMul, Int.reduceLT, Int.reduceToNat, ne_eq, *]; (repeat first | ((with_reducible refine And.intro (fun hc => ?_) (fun hc => absurd hc (by omega))); clear hc) | ((with_reducible refine And.intro (fun hc => absurd hc (by omega)) (fun hc => ?_)); clear hc) | ((with_reducible refine And.intro ?_ ?_); focus ((first | omega | assumption | exact cok _ rfl | exact one_ints _ | exact one_map fun _ => rfl | ((repeat refine one_cons (by first | rfl | assumption) ?_); exact one_nil) | rfl | decide | (intro u hu; cases hu)); done)) | (with_reducible refine (fun hc => ?_ : _ → _); clear hc)); (first | refine hKx.out _ ?_ | (refine hKx.out _ _ ?_ ?_; focus (simp (disch := (first | omega | (simp only [nx]; first | done | omega))) only [heldIn_iff, List.zipIdx_cons, List.zipIdx_nil, List.map_cons, List.map_nil, xxq, tfDF, sliceK, bnd, appendK, appsK, copyK, clearK, makeSliceK, buildSliceK, buildK, lookupK, mapPutK, mapOf, convK, allocK, indexK, partK, xxa, xxb, xxc, bne, Int.reduceEq, Int.reduceBEq, Int.reduceNe, Int.reduceBNe, Int.reduceLE, Int.reduceGT, Int.reduceGE, Int.reduceNeg, ↓reduceIte, reduceCtorEq, Nat.reduceEqDiff, Nat.reduceAdd, Nat.reduceMul, Nat.reduceSub, Nat.reduceLT, Int.reduceAdd, Int.reduceSub, Int.reduceMul, Int.reduceLT, Int.reduceToNat, ne_eq, *]; first | done | trivial)) | refine ACalls.hkx hKx ?_)); exact hc.out)) : a := h ⟨hb⟩ ⟨hc⟩
theorem rgDF {a b : Prop} (hb : b) (h : Later b → a := by
  intro hb
  first
  | with_reducible refine APl.nil ?_
  | (refine APl.passg rfl rfl rfl rfl rfl rfl (.inl ?_) ?_; focus (simp (disch := (first | omega | (simp only [nx]; first | done | omega))) only [Value.bool.injEq, Bool.and_true, Bool.true_and, Bool.and_false, Bool.false_and, beq_self_eq_true, bne, Bool.not_true, Bool.not_false, sx, nx, dx, ↓reduceIte, reduceCtorEq, Nat.reduceEqDiff, ne_eq, not_false_eq_true, *]; done))
  | (refine APl.passg rfl rfl rfl rfl rfl rfl (.inr ?_) ?_; focus (simp (disch := (first | omega | (simp only [nx]; first | done | omega))) only [Value.bool.injEq, Bool.and_true, Bool.true_and, Bool.and_false, Bool.false_and, beq_self_eq_true, bne, Bool.not_true, Bool.not_false, sx, nx, dx, ↓reduceIte, reduceCtorEq, Nat.reduceEqDiff, ne_eq, not_false_eq_true, *]; done))
  | (refine APl.actp rfl rfl rfl rfl rfl rfl (.inl ?_) ?_; focus (simp (disch := (first | omega | (simp only [nx]; first | done | omega))) only [Value.bool.injEq, Bool.and_true, Bool.true_and, Bool.and_false, Bool.false_and, beq_self_eq_true, bne, Bool.not_true, Bool.not_false, sx, nx, dx, ↓reduceIte, reduceCtorEq, Nat.reduceEqDiff, ne_eq, not_false_eq_true, *]; done))
  | (refine APl.actp rfl rfl rfl rfl rfl rfl (.inr ?_) ?_; focus (simp (disch := (first | omega | (simp only [nx]; first | done | omega))) only [Value.bool.injEq, Bool.and_true, Bool.true_and, Bool.and_false, Bool.false_and, beq_self_eq_true, bne, Bool.not_true, Bool.not_false, sx, nx, dx, ↓reduceIte, reduceCtorEq, Nat.reduceEqDiff, ne_eq, not_false_eq_true, *]; done))
  | ((first | refine APl.pure2 rfl rfl rfl rfl fun Kx hKx => ?_ | refine APl.load rfl rfl rfl fun Kx hKx => ?_ | refine APl.slice rfl rfl rfl fun Kx hKx => ?_ | refine APl.act2 rfl rfl rfl rfl fun Kx hKx => ?_ | (refine APl.pureg rfl rfl rfl rfl rfl rfl rfl ?_ fun Kx hKx => ?_; focus (simp (disch := (first | omega | (simp only [nx]; first | done | omega))) only [Value.bool.injEq, Bool.and_true, Bool.true_and, Bool.and_false, Bool.false_and, beq_self_eq_true, bne, Bool.not_true, Bool.not_false, sx, nx, dx, ↓reduceIte, reduceCtorEq, Nat.reduceEqDiff, ne_eq, not_false_eq_true, *]; done)) | (refine APl.loadg rfl rfl rfl rfl rfl ?_ fun Kx hKx => ?_; focus (simp (disch := (first | omega | (simp only [nx]; first | done | omega))) only [Value.bool.injEq, Bool.and_true, Bool.true_and, Bool.and_false, Bool.false_and, beq_self_eq_true, bne, Bool.not_true, Bool.not_false, sx, nx, dx, ↓reduceIte, reduceCtorEq, Nat.reduceEqDiff, ne_eq, not_false_eq_true, *]; done)) | (refine APl.actg rfl rfl rfl rfl rfl rfl rfl ?_ fun Kx hKx => ?_; focus (simp (disch := (first | omega | (simp only [nx]; first | done | omega))) only [Value.bool.injEq, Bool.and_true, Bool.true_and, Bool.and_false, Bool.false_and, beq_self_eq_true, bne, Bool.not_true, Bool.not_false, sx, nx, dx, ↓reduceIte, reduceCtorEq, Nat.reduceEqDiff, ne_eq, not_false_eq_true, *]; done))); simp (disch := (first | omega | (simp only [nx]; first | done | omega))) only [heldIn_iff, List.zipIdx_cons, List.zipIdx_nil, List.map_cons, List.map_nil, xxq, tfDF, sliceK, bnd, appendK, appsK, copyK, clearK, makeSliceK, buildSliceK, buildK, lookupK, mapPutK, mapOf, convK, allocK, indexK, partK, xxa, xxb, xxc, bne, Int.reduceEq, Int.reduceBEq, Int.reduceNe, Int.reduceBNe, Int.reduceLE, Int.reduceGT, Int.reduceGE, Int.reduceNeg, ↓reduceIte, reduceCtorEq, Nat.reduceEqDiff, Nat.reduceAdd, Nat.reduceMul, Nat.reduceSub, Nat.reduceLT, Int.reduceAdd, Int.reduceSub, Int.reduceMul, Int.reduceLT, Int.reduceToNat, ne_eq, *]; (repeat first | ((with_reducible refine And.intro (fun hc => ?_) (fun hc => absurd hc (by omega))); clear hc) | ((with_reducible refine And.intro (fun hc => absurd hc (by omega)) (fun hc => ?_)); clear hc) | ((with_reducible refine And.intro ?_ ?_); focus ((first | omega | assumption | exact cok _ rfl | exact one_ints _ | exact one_map fun _ => rfl | ((repeat refine one_cons (by first | rfl | assumption) ?_); exact one_nil) | rfl | decide | (intro u hu; cases hu)); done)) | (with_reducible refine (fun hc => ?_ : _ → _); clear hc)); (first | refine hKx.out _ ?_ | refine hKx.out _ _ ?_ | refine ACalls.hkx hKx ?_ | refine (fun (q : _ ∧ _) => And.intro (hKx.out _ q.1) (hKx.out _ q.2)) ?_ | refine (fun (q : (_ → _) ∧ _) => And.intro (fun hc => hKx.out _ (q.1 hc)) (hKx.out _ q.2)) ?_ | (refine hKx.out _ _ ?_ ?_; focus (simp (disch := (first | omega | (simp only [nx]; first | done | omega))) only [heldIn_iff, List.zipIdx_cons, List.zipIdx_nil, List.map_cons, List.map_nil, xxq, tfDF, sliceK, bnd, appendK, appsK, copyK, clearK, makeSliceK, buildSliceK, buildK, lookupK, mapPutK, mapOf, convK, allocK, indexK, partK, xxa, xxb, xxc, bne, Int.reduceEq, Int.reduceBEq, Int.reduceNe, Int.reduceBNe, Int.reduceLE, Int.reduceGT, Int.reduceGE, Int.reduceNeg, ↓reduceIte, reduceCtorEq, Nat.reduceEqDiff, Nat.reduceAdd, Nat.reduceMul, Nat.reduceSub, Nat.reduceLT, Int.reduceAdd, Int.reduceSub, Int.reduceMul, Int.reduceLT, Int.reduceToNat, ne_eq, *]; first | done | trivial))))
  exact hb.out) : a := h ⟨hb⟩
theorem hlDF {p b : Prop} (hb : b) (h : p := by simp (disch := (first | omega | (simp only [nx]; first | done | omega))) only [heldIn_iff, List.zipIdx_cons, List.zipIdx_nil, List.map_cons, List.map_nil, xxq, tfDF, sliceK, bnd, appendK, appsK, copyK, clearK, makeSliceK, buildSliceK, buildK, lookupK, mapPutK, mapOf, convK, allocK, indexK, partK, xxa, xxb, xxc, bne, Int.reduceEq, Int.reduceBEq, Int.reduceNe, Int.reduceBNe, Int.reduceLE, Int.reduceGT, Int.reduceGE, Int.reduceNeg, ↓reduceIte, reduceCtorEq, Nat.reduceEqDiff, Nat.reduceAdd, Nat.reduceMul, Nat.reduceSub, Nat.reduceLT, Int.reduceAdd, Int.reduceSub, Int.reduceMul, Int.reduceLT, Int.reduceToNat, ne_eq, *]; first | done | trivial) : p ∧ b := ⟨h, hb⟩
theorem ivDF {p : Prop} (h : p := by first | omega | ((repeat first | exact Ext.refl _ | assumption | refine Ext.push ?_ _ | refine Ext.set ?_ _ (by first | omega | (simp only [nx, *]; omega)) | (apply Ext.up; focus (assumption; done))); done) | (simp (disch := (first | omega | (simp only [nx]; first | done | omega))) only [xxq, xxa, xxb, xxc, bne, Int.reduceEq, Int.reduceBEq, Int.reduceNe, Int.reduceBNe, Int.reduceLE, Int.reduceGT, Int.reduceGE, Int.reduceNeg, ↓reduceIte, reduceCtorEq, Nat.reduceEqDiff, Nat.reduceAdd, Nat.reduceMul, Nat.reduceSub, Nat.reduceLT, Int.reduceAdd, Int.reduceSub, Int.reduceMul, Int.reduceLT, Int.reduceToNat, ne_eq, *, intV_int]; first | done | omega | rfl | exact congrArg (Value.int .i64) (by omega) | ((repeat first | exact Ext.refl _ | assumption | refine Ext.push ?_ _ | refine Ext.set ?_ _ (by first | omega | (simp only [nx, *]; omega)) | (apply Ext.up; focus (assumption; done))); done)) | rfl) : p := h
theorem smDF {a b : Prop} (hb : b) (h : Later b → a := by intro hb; simp (disch := (first | omega | (simp only [nx]; first | done | omega))) only [xxq, xxa, xxb, xxc, bne, Int.reduceEq, Int.reduceBEq, Int.reduceNe, Int.reduceBNe, Int.reduceLE, Int.reduceGT, Int.reduceGE, Int.reduceNeg, ↓reduceIte, reduceCtorEq, Nat.reduceEqDiff, Nat.reduceAdd, Nat.reduceMul, Nat.reduceSub, Nat.reduceLT, Int.reduceAdd, Int.reduceSub, Int.reduceMul, Int.reduceLT, Int.reduceToNat, ne_eq, *, intV_int]; exact hb.out) : a := h ⟨hb⟩
theorem gtDF {A F : Fr} {t : Nat} {v : Value} (h : Ag [] A F) (e : F t = v := by simp (disch := (first | omega | (simp only [nx]; first | done | omega))) only [xxq, xxa, xxb, xxc, bne, Int.reduceEq, Int.reduceBEq, Int.reduceNe, Int.reduceBNe, Int.reduceLE, Int.reduceGT, Int.reduceGE, Int.reduceNeg, ↓reduceIte, reduceCtorEq, Nat.reduceEqDiff, Nat.reduceAdd, Nat.reduceMul, Nat.reduceSub, Nat.reduceLT, Int.reduceAdd, Int.reduceSub, Int.reduceMul, Int.reduceLT, Int.reduceToNat, ne_eq, *, intV_int]; exact rfl) : A t = v := (h.h t rfl).trans e
theorem agDF {D : List Nat} {A F : Fr} (h : Ag D A F := by
  repeat (with_reducible first | exact Ag.refl _ _ | refine Ag.nop ?_ | refine Ag.dead rfl ?_ | (refine Ag.live ?_ ?_; focus exact ivDF) | refine Ag.dr rfl ?_ | (refine Ag.lr ?_ ?_; focus exact ivDF) | refine Ag.up (by assumption) rfl ?_)) : Ag D A F := h
theorem sdDF {p : Prop} (h : p := by first | omega | assumption | (simp (disch := (first | omega | (simp only [nx]; first | done | omega))) only [xxq, tfDF, sliceK, bnd, appendK, appsK, copyK, clearK, makeSliceK, buildSliceK, buildK, lookupK, mapPutK, mapOf, convK, allocK, indexK, partK, xxa, xxb, xxc, bne, Int.reduceEq, Int.reduceBEq, Int.reduceNe, Int.reduceBNe, Int.reduceLE, Int.reduceGT, Int.reduceGE, Int.reduceNeg, ↓reduceIte, reduceCtorEq, Nat.reduceEqDiff, Nat.reduceAdd, Nat.reduceMul, Nat.reduceSub, Nat.reduceLT, Int.reduceAdd, Int.reduceSub, Int.reduceMul, Int.reduceLT, Int.reduceToNat, ne_eq, *]; first | done | omega | rfl)) : p := h
def bools (l : List Bool) : List Value := l.map Value.bool
theorem bools_len (l : List Bool) : (bools l).length = l.length := by simp [bools]
theorem bools_get {l : List Bool} {i : Nat} (h : i < l.length) : (bools l)[i]? = some (.bool (l.getD i false)) := by simp [bools, h]
theorem bools_set (l : List Bool) (i : Nat) (x : Bool) : (bools l).set i (.bool x) = bools (l.set i x) := by simp [bools]
theorem rep_bools (k : Nat) (x : Bool) : List.replicate k (Value.bool x) = bools (List.replicate k x) := by simp [bools]
/-- Which arcs were met among the first k ends. -/
def inA (C : List Cr) (b : Bool) (N k : Nat) : List Bool := (List.range N).map fun (a : Nat) => (fnd C a b k).isSome
theorem inA_len (C : List Cr) (b : Bool) (N k : Nat) : (inA C b N k).length = N := by simp [inA]
theorem inA_get {C : List Cr} {b : Bool} {N k a : Nat} (h : a < N) : (inA C b N k).getD a false = (fnd C a b k).isSome := by simp [inA, h]
theorem inA_zero (C : List Cr) (b : Bool) (N : Nat) : inA C b N 0 = List.replicate N false := by
  apply List.ext_getElem
  · simp [inA]
  · intro i h1 h2; simp [inA, fnd]
theorem fnd_succ {C : List Cr} {a : Int} {b : Bool} {k : Nat} (h : ¬ (eAt C k = a ∧ nAt C k = b)) : fnd C a b (k + 1) = fnd C a b k := by
  show (match fnd C a b k with | some j => some j | none => if eAt C k = a ∧ nAt C k = b then some k else none) = fnd C a b k
  cases e : fnd C a b k with
  | some j => rfl
  | none => exact if_neg h
theorem fnd_here {C : List Cr} {a : Int} {b : Bool} {k : Nat} (h : eAt C k = a ∧ nAt C k = b) (h0 : fnd C a b k = none) : fnd C a b (k + 1) = some k := by
  unfold fnd; rw [h0]; simp [h]
theorem inA_set {C : List Cr} {N k a : Nat} {b : Bool} (ha : eAt C k = a) (hb : nAt C k = b) (h0 : fnd C a b k = none) : (inA C b N k).set a true = inA C b N (k + 1) := by
  apply List.ext_getElem
  · simp [inA]
  · intro i h1 h2
    rw [List.getElem_set]
    split
    · rename_i e; subst e; simp [inA, fnd_here ⟨ha, hb⟩ h0]
    · rename_i e
      simp only [inA, List.getElem_map, List.getElem_range]
      rw [fnd_succ (fun h => e (by have := ha.symm.trans h.1; omega))]
theorem inA_other {C : List Cr} {N k : Nat} {b : Bool} (hb : nAt C k ≠ b) : inA C b N k = inA C b N (k + 1) := by
  unfold inA
  apply List.map_congr_left
  intro a _
  rw [fnd_succ (fun h => hb h.2)]
def ok1 (C : List Cr) (N j : Nat) : Prop := 0 ≤ eAt C j ∧ eAt C j ≤ (N : Int) - 1 ∧ fnd C (eAt C j) (nAt C j) j = none
instance (C : List Cr) (N j : Nat) : Decidable (ok1 C N j) := by unfold ok1; infer_instance
def sgn (C : List Cr) (i : Nat) : Prop := (C.getD i cr0).s = 1 ∨ (C.getD i cr0).s = -1
instance (C : List Cr) (i : Nat) : Decidable (sgn C i) := by unfold sgn; infer_instance
/-- Every arc number enters one crossing and leaves one. -/
def Cnt (C : List Cr) : Prop := (∀ i, i < C.length → sgn C i) ∧ ∀ j, j < 4 * C.length → ok1 C (2 * C.length) j
instance (C : List Cr) : Decidable (Cnt C) := by unfold Cnt; infer_instance
set_option maxHeartbeats 2000000 in
theorem l25Counts_c {H : Heap} {v : Value} {C : List Cr} (z : Int) (hC : RdC H v C) (hn : C.length ≤ 10) : ACalls Try.prog 37 [.agg #[v, I z]] H fun u H' => u = B (decide (Cnt C)) ∧ Ext H H' := by
  have hone := hC.one
  obtain ⟨p, k, rfl, hp, hh⟩ := hC
  clear hone
  have hN : (2 * (C.length : Int)).toNat = 2 * C.length := by omega
  have hin := inA_zero C true (2 * C.length)
  have hout := inA_zero C false (2 * C.length)
  have hrep := rep_bools (2 * C.length) false
  refine ACalls.body Try.func37 rfl Try.ntmps37 (rs := [.tmp 2]) rfl (by simp) rfl fun Q hQ A hA => ?_
  have a0 := hA 0 _ _ rfl
  clear hA
  repeat' first | refine rnDF ?_ | with_reducible refine And.intro (fun hc => ?_) (fun hc => ?_) | fail
  refine AWp.forked [0,2] 1 [4,3,5] 3 [1,4,5] mixed (by kernel_rfl) ?_
  repeat' first | refine rkDF ?_ | refine rkfDF ?_ ?_ | refine rgDF ?_ | fail
  all_goals
    obtain ⟨H1, hH1⟩ : ∃ X, X = ((H.push (.cells [.slice p C.length k, I z] 1 false)).push (.cells (bools (List.replicate (2 * C.length) false)) 1 false)).push (.cells (bools (List.replicate (2 * C.length) false)) 1 false) := ⟨_, rfl⟩
    have hx1 : Ext H H1 := by rw [hH1]; exact ex1
    have hbx1 : H1.get H.size = .cells [.slice p C.length k, I z] 1 false := by rw [hH1]; exact ivDF
    have hg1 : H1.get (H.size + 1) = .cells (bools (List.replicate (2 * C.length) false)) 1 false := by rw [hH1]; exact ivDF
    have hg2 : H1.get (H.size + 1 + 1) = .cells (bools (List.replicate (2 * C.length) false)) 1 false := by rw [hH1]; exact ivDF
    have hs1 : H1.size = H.size + 1 + 1 + 1 := by rw [hH1]; rfl
    rw [← hH1]
    clear hH1
    repeat' first | refine rnDF ?_ | with_reducible refine And.intro (fun hc => ?_) (fun hc => ?_) | fail
    refine AWp.cut (fun Ac hAc => ?_)
    have c1 := gtDF (t := 1) hAc
    have c3 := gtDF (t := 3) hAc
    have c4 := gtDF (t := 4) hAc
    have c5 := gtDF (t := 5) hAc
    have c6 := gtDF (t := 6) hAc
    obtain ⟨gi, hgi⟩ : ∃ g, Ac 4 = .slice (some ⟨g, 0, none⟩) (2 * C.length) (2 * C.length + 1) := ⟨_, c4⟩
    obtain ⟨go, hgo⟩ : ∃ g, Ac 5 = .slice (some ⟨g, 0, none⟩) (2 * C.length) (2 * C.length + 1) := ⟨_, c5⟩
    have hne : gi ≠ go ∧ H.size < gi ∧ H.size < go ∧ gi < H1.size ∧ go < H1.size ∧ H1.get gi = .cells (bools (inA C true (2 * C.length) 0)) 1 false ∧ H1.get go = .cells (bools (inA C false (2 * C.length) 0)) 1 false := by
      rw [c4] at hgi
      rw [c5] at hgo
      injection hgi with e1; injection e1 with e1; injection e1 with e1
      injection hgo with e2; injection e2 with e2; injection e2 with e2
      subst e1 e2
      rw [hin, hout]
      exact ⟨by omega, by omega, by omega, by omega, by omega, by first | exact hg1 | exact hg2, by first | exact hg1 | exact hg2⟩
    clear c4 c5 hg1 hg2 a0 hs1
    obtain ⟨n1, n2, n3, n4, n5, hg1, hg2⟩ := hne
    refine AWp.loop (fun A' H' => ∃ (c : Nat), Ag [7, 8, 9, 10, 19, 20, 21, 22, 23, 24, 25, 26, 27, 28, 29, 30, 31, 32, 33, 34, 35, 36, 37, 38, 39, 40, 41, 42, 43, 44, 45, 46, 47, 48, 49, 50, 51, 52, 53, 54, 55, 56, 57, 58, 59, 60, 61, 62] A' (put Ac (some 6) (I c)) ∧ c ≤ C.length ∧ (∀ i, i < c → sgn C i) ∧ (∀ j, j < 4 * c → ok1 C (2 * C.length) j) ∧ H'.get gi = .cells (bools (inA C true (2 * C.length) (4 * c))) 1 false ∧ H'.get go = .cells (bools (inA C false (2 * C.length) (4 * c))) 1 false ∧ H'.get H.size = .cells [.slice p C.length k, I z] 1 false ∧ Ext H H' ∧ H1.size ≤ H'.size) (fun A' _ => C.length - (intV (A' 6)).toNat) ?_ ?_
    · exact ⟨0, agDF, by omega, fun i hi => by omega, fun j hj => by omega, hg1, hg2, hbx1, hx1, Nat.le_refl _⟩
    · rintro A1 H2 ⟨c, hA, hc, hsg, hok, hgi2, hgo2, hbx2, hx2, hs2⟩
      have d1 := hA.h 1 rfl
      have d3 := hA.h 3 rfl
      have d4 := hA.h 4 rfl
      have d5 := hA.h 5 rfl
      have d6 := hA.h 6 rfl
      by_cases hlt : c < C.length
      · obtain ⟨b1, cs, ro, rfl, hb, hg, hl, hcc⟩ := hh c hlt
        have hgb := (hx2.get b1 hb).trans hg
        have hxs2 := hx2.size
        have he := fun q hq => eAt_at C c q hq
        have hn2 := fun q hq => nAt_at C c q hq
        obtain ⟨x, hxx⟩ : ∃ x, C.getD c cr0 = x := ⟨_, rfl⟩
        rw [hxx] at hcc he hn2
        rw [cr5] at hcc
        by_cases hsc : sgn C c
        · have hsc' := hsc
          unfold sgn at hsc'
          rw [hxx] at hsc'
          have hsx := hsc'
          rcases hsc' with hs | hs
          all_goals
            repeat' first | refine rnDF ?_ | with_reducible refine And.intro (fun hc => ?_) (fun hc => ?_) | fail
            refine AWp.cut (fun Ae hAe => ?_)
            have e1 := gtDF (t := 1) hAe
            have e3 := gtDF (t := 3) hAe
            have e4 := gtDF (t := 4) hAe
            have e5 := gtDF (t := 5) hAe
            have e6 := gtDF (t := 6) hAe
            have e7 := gtDF (t := 7) hAe
            have e8 := gtDF (t := 8) hAe
            have hcell : (∃ b : Nat, H2.size = b) := ⟨_, rfl⟩
            refine AWp.loop (fun A' H' => ∃ (q : Nat), Ag [9, 10, 39, 40, 41, 42, 43, 44, 45, 46, 47, 48, 49, 50, 51, 52, 53, 54, 55, 56, 57, 58, 59, 60, 61, 62] A' (put Ae (some 8) (I q)) ∧ q ≤ 4 ∧ (∀ j, j < 4 * c + q → ok1 C (2 * C.length) j) ∧ H'.get gi = .cells (bools (inA C true (2 * C.length) (4 * c + q))) 1 false ∧ H'.get go = .cells (bools (inA C false (2 * C.length) (4 * c + q))) 1 false ∧ H'.get H.size = .cells [.slice (some ⟨b1, 0, none⟩) C.length k, I z] 1 false ∧ H'.get H2.size = .cells [I x.a, I x.b, I x.c, I x.d, I x.s] 1 false ∧ Ext H H' ∧ H2.size < H'.size) (fun A' _ => 4 - (intV (A' 8)).toNat) ?_ ?_
            · exact ⟨0, agDF, by omega, hok, by exact ivDF, by exact ivDF, by exact ivDF, by exact ivDF, by exact (hx2.push _).set _ (by omega), by exact ivDF⟩
            · clear hs
              rintro A2 H3 ⟨q, hA2, hq, hok3, hgi3, hgo3, hbx3, hcx3, hx3, hs3⟩
              have f1 := hA2.h 1 rfl
              have f3 := hA2.h 3 rfl
              have f4 := hA2.h 4 rfl
              have f5 := hA2.h 5 rfl
              have f6 := hA2.h 6 rfl
              have f7 := hA2.h 7 rfl
              have f8 := hA2.h 8 rfl
              by_cases hq4 : q < 4
              · have he := he q hq4
                have hn2 := hn2 q hq4
                have hbad : ¬ ok1 C (2 * C.length) (4 * c + q) → decide (Cnt C) = false := fun h => decide_eq_false fun hC => h (hC.2 _ (by omega))
                have hokd : ok1 C (2 * C.length) (4 * c + q) ↔ 0 ≤ endC x q ∧ endC x q ≤ ((2 * C.length : Nat) : Int) - 1 ∧ fnd C (endC x q) (entC x q) (4 * c + q) = none := by unfold ok1; rw [he, hn2]
                have hnx : ok1 C (2 * C.length) (4 * c + q) → ∀ j, j < 4 * c + (q + 1) → ok1 C (2 * C.length) j := fun h j hj => by
                  by_cases e : j < 4 * c + q
                  · exact hok3 j e
                  · obtain rfl : j = 4 * c + q := by omega
                    exact h
                have hilt := inA_len C true (2 * C.length) (4 * c + q)
                have hilf := inA_len C false (2 * C.length) (4 * c + q)
                have hblt := bools_len (inA C true (2 * C.length) (4 * c + q))
                have hblf := bools_len (inA C false (2 * C.length) (4 * c + q))
                by_cases hr : 0 ≤ endC x q ∧ endC x q ≤ 2 * (C.length : Int) - 1
                · obtain ⟨a, ha⟩ : ∃ a : Nat, endC x q = a := ⟨(endC x q).toNat, by omega⟩
                  rw [ha] at he hokd hr
                  obtain ⟨hr1, hr2⟩ := hr
                  have haN : a < 2 * C.length := by omega
                  have hgt := bools_get (l := inA C true (2 * C.length) (4 * c + q)) (i := a) (by omega)
                  have hgf := bools_get (l := inA C false (2 * C.length) (4 * c + q)) (i := a) (by omega)
                  rw [inA_get haN] at hgt hgf
                  rcases hen : entC x q with _ | _
                  · rw [hen] at hn2 hokd
                    have hoth := inA_other (C := C) (N := 2 * C.length) (k := 4 * c + q) (b := true) (by rw [hn2]; simp)
                    rcases hf : fnd C a false (4 * c + q) with _ | j
                    · rw [hf] at hgf
                      have hset := bools_set (inA C false (2 * C.length) (4 * c + q)) a true
                      rw [inA_set he hn2 hf] at hset
                      have hnx := hnx (hokd.2 ⟨by omega, by omega, hf⟩)
                      rw [hoth] at hgi3
                      clear hbad hokd hoth hgt hilt hblt he hn2
                      simp only [Option.isSome_none] at hgf
                      repeat' first | refine rnDF ?_ | (refine (l25End_c x q hq4).mono ?_; rintro v H4 ⟨rfl, hx4⟩; have hx4g := hx4.get; have hx4s := hx4.size; (try simp only [nx] at hx4s)) | (refine (l01In_c _ _ _).mono ?_; rintro v H5 ⟨rfl, rfl⟩) | (refine (l25Enters_c x q hq4).mono ?_; rintro v H5 ⟨rfl, hx5⟩; have hx5g := hx5.get; have hx5s := hx5.size; (try simp only [nx] at hx5s)) | with_reducible refine And.intro (fun hc => ?_) (fun hc => ?_) | fail
                      refine ⟨⟨q + 1, agDF, by omega, hnx, ?_, ?_, ?_, ?_, ?_, ?_⟩, ?_⟩
                      all_goals first | exact ivDF | refine smDF ?_ | skip
                    · rw [hf] at hgf
                      have hbad := hbad fun h => by have := (hokd.1 h).2.2; rw [hf] at this; cases this
                      clear hnx hokd hoth hgt hilt hblt he hn2
                      simp only [Option.isSome_some] at hgf
                      repeat' first | refine rnDF ?_ | (refine (l25End_c x q hq4).mono ?_; rintro v H4 ⟨rfl, hx4⟩; have hx4g := hx4.get; have hx4s := hx4.size; (try simp only [nx] at hx4s)) | (refine (l01In_c _ _ _).mono ?_; rintro v H5 ⟨rfl, rfl⟩) | (refine (l25Enters_c x q hq4).mono ?_; rintro v H5 ⟨rfl, hx5⟩; have hx5g := hx5.get; have hx5s := hx5.size; (try simp only [nx] at hx5s)) | with_reducible refine And.intro (fun hc => ?_) (fun hc => ?_) | fail
                      rw [hbad] at hQ
                      exact hQ.out _ _ ⟨rfl, by exact ex1⟩
                  · rw [hen] at hn2 hokd
                    have hoth := inA_other (C := C) (N := 2 * C.length) (k := 4 * c + q) (b := false) (by rw [hn2]; simp)
                    rcases hf : fnd C a true (4 * c + q) with _ | j
                    · rw [hf] at hgt
                      have hset := bools_set (inA C true (2 * C.length) (4 * c + q)) a true
                      rw [inA_set he hn2 hf] at hset
                      have hnx := hnx (hokd.2 ⟨by omega, by omega, hf⟩)
                      rw [hoth] at hgo3
                      clear hbad hokd hoth hgf hilf hblf he hn2
                      simp only [Option.isSome_none] at hgt
                      repeat' first | refine rnDF ?_ | (refine (l25End_c x q hq4).mono ?_; rintro v H4 ⟨rfl, hx4⟩; have hx4g := hx4.get; have hx4s := hx4.size; (try simp only [nx] at hx4s)) | (refine (l01In_c _ _ _).mono ?_; rintro v H5 ⟨rfl, rfl⟩) | (refine (l25Enters_c x q hq4).mono ?_; rintro v H5 ⟨rfl, hx5⟩; have hx5g := hx5.get; have hx5s := hx5.size; (try simp only [nx] at hx5s)) | with_reducible refine And.intro (fun hc => ?_) (fun hc => ?_) | fail
                      refine ⟨⟨q + 1, agDF, by omega, hnx, ?_, ?_, ?_, ?_, ?_, ?_⟩, ?_⟩
                      all_goals first | exact ivDF | refine smDF ?_ | skip
                    · rw [hf] at hgt
                      have hbad := hbad fun h => by have := (hokd.1 h).2.2; rw [hf] at this; cases this
                      clear hnx hokd hoth hgf hilf hblf he hn2
                      simp only [Option.isSome_some] at hgt
                      repeat' first | refine rnDF ?_ | (refine (l25End_c x q hq4).mono ?_; rintro v H4 ⟨rfl, hx4⟩; have hx4g := hx4.get; have hx4s := hx4.size; (try simp only [nx] at hx4s)) | (refine (l01In_c _ _ _).mono ?_; rintro v H5 ⟨rfl, rfl⟩) | (refine (l25Enters_c x q hq4).mono ?_; rintro v H5 ⟨rfl, hx5⟩; have hx5g := hx5.get; have hx5s := hx5.size; (try simp only [nx] at hx5s)) | with_reducible refine And.intro (fun hc => ?_) (fun hc => ?_) | fail
                      rw [hbad] at hQ
                      exact hQ.out _ _ ⟨rfl, by exact ex1⟩
                · have hbad := hbad fun h => hr (by have := hokd.1 h; omega)
                  clear hnx hokd
                  repeat' first | refine rnDF ?_ | (refine (l25End_c x q hq4).mono ?_; rintro v H4 ⟨rfl, hx4⟩; have hx4g := hx4.get; have hx4s := hx4.size; (try simp only [nx] at hx4s)) | (refine (l01In_c _ _ _).mono ?_; rintro v H5 ⟨rfl, rfl⟩) | with_reducible refine And.intro (fun hc => ?_) (fun hc => ?_) | fail
                  rw [hbad] at hQ
                  exact hQ.out _ _ ⟨rfl, by exact ex1⟩
              · obtain rfl : q = 4 := by omega
                have e4 : 4 * c + 4 = 4 * (c + 1) := by omega
                rw [e4] at hok3 hgi3 hgo3
                have hs23 : H1.size ≤ H3.size := by omega
                repeat' first | refine rnDF ?_ | with_reducible refine And.intro (fun hc => ?_) (fun hc => ?_) | fail
                refine ⟨⟨c + 1, agDF, by omega, fun i hi => ?_, hok3, hgi3, hgo3, hbx3, hx3, hs23⟩, ?_⟩
                · rcases Nat.lt_succ_iff_lt_or_eq.1 hi with h | rfl
                  · exact hsg i h
                  · exact hsc
                all_goals first | exact ivDF | refine smDF ?_ | skip
        · have hbad : decide (Cnt C) = false := decide_eq_false fun hC => hsc (hC.1 c hlt)
          unfold sgn at hsc
          rw [hxx] at hsc
          have hs1 : (x.s == 1) = false := by simp; omega
          have hs2 : (x.s == -1) = false := by simp; omega
          clear hsc
          repeat' first | refine rnDF ?_ | with_reducible refine And.intro (fun hc => ?_) (fun hc => ?_) | fail
          rw [hbad] at hQ
          exact hQ.out _ _ ⟨rfl, by exact ex1⟩
      · obtain rfl : c = C.length := by omega
        repeat' first | refine rnDF ?_ | with_reducible refine And.intro (fun hc => ?_) (fun hc => ?_) | fail
        refine hQ.out _ _ ⟨?_, hx2⟩
        rw [decide_eq_true (show Cnt C from ⟨hsg, hok⟩)]
end Go.Proofs.Ytpbbfephfmdgmaa.Rai
