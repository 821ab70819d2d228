/- A part of the walk: what functions of the program do, over an abstract heap. -/
import Derived.Test.YtpbbfephfmdgmaaEJ
namespace Go.Proofs.Ytpbbfephfmdgmaa.Rai
open Go TP
set_option linter.unusedVariables false
set_option linter.unusedSimpArgs false
set_option maxRecDepth 20000
theorem tfEK : (tk Try.prog 24 = some (some 2)) ∧ (tk Try.prog 29 = some (some 2)) ∧ (zr Try.prog 29 = some (.agg #[.slice none 0 0, .int .i64 0])) := by
  refine ⟨?_, ?_, ?_⟩ <;> kernel_rfl
theorem rnEK {a b : Prop} (hb : b) (h : Later b → a := by
  intro hb
  first
  | ((with_reducible first | refine AOps.nil ?_ | refine athen_n ?_ | refine athen_r ?_ | refine athen_e ?_ | refine ablock_n ?_ | refine ablock_r ?_ | refine ablock_s ?_ | refine AWp.seq' ?_ | refine AWp.block ?_ | refine AWp.skip ?_ | refine AWp.exit ?_ | refine AWp.ret ?_ | refine AWp.region ?_ | (refine ablock_e ?_ ?_; focus rfl)); repeat (with_reducible first | refine AOps.nil ?_ | refine athen_n ?_ | refine athen_r ?_ | refine athen_e ?_ | refine ablock_n ?_ | refine ablock_r ?_ | refine ablock_s ?_ | refine AWp.seq' ?_ | refine AWp.block ?_ | refine AWp.skip ?_ | refine AWp.exit ?_ | refine AWp.ret ?_ | refine AWp.region ?_ | (refine ablock_e ?_ ?_; focus rfl)))
  | (refine AOps.guardu rfl rfl rfl ?_ ?_; focus (simp (disch := (first | omega | (simp only [nx]; first | done | omega))) only [Value.bool.injEq, Bool.and_true, Bool.true_and, Bool.and_false, Bool.false_and, beq_self_eq_true, bne, Bool.not_true, Bool.not_false, sx, nx, dx, ↓reduceIte, reduceCtorEq, Nat.reduceEqDiff, ne_eq, not_false_eq_true, *]; done))
  | ((first | refine AOps.cons2 rfl rfl fun K hK => ?_ | refine AWp.cond rfl fun X Y hX hY => ?_ | refine AOps.guard rfl rfl rfl fun X Y hX hY => ?_ | refine aret_r ?_ | refine aret_n ?_); simp (disch := (first | omega | (simp only [nx]; first | done | omega))) only [acond_bool, aresK, retv, xxq, tfEK, sliceK, bnd, appendK, appsK, copyK, clearK, makeSliceK, buildSliceK, buildK, lookupK, mapPutK, mapOf, convK, allocK, indexK, partK, xxa, xxb, xxc, bne, Int.reduceEq, Int.reduceBEq, Int.reduceNe, Int.reduceBNe, Int.reduceLE, Int.reduceGT, Int.reduceGE, Int.reduceNeg, ↓reduceIte, reduceCtorEq, Nat.reduceEqDiff, Nat.reduceAdd, Nat.reduceMul, Nat.reduceSub, Nat.reduceLT, Int.reduceAdd, Int.reduceSub, Int.reduceMul, Int.reduceLT, Int.reduceToNat, ne_eq, *]; (repeat first | ((with_reducible refine And.intro (fun hc => ?_) (fun hc => absurd hc (by omega))); clear hc) | ((with_reducible refine And.intro (fun hc => absurd hc (by omega)) (fun hc => ?_)); clear hc) | ((with_reducible refine And.intro ?_ ?_); focus ((first | omega | assumption | exact cok _ rfl | exact one_ints _ | exact one_map fun _ => rfl | ((repeat refine one_cons (by first | rfl | assumption) ?_); exact one_nil) | rfl | decide | (intro u hu; cases hu)); done)) | (with_reducible refine (fun hc => ?_ : _ → _); clear hc)); (first | refine hK.out _ _ ?_ | refine ACalls.hk hK ?_ | refine appendK.hk hK ?_ | refine (fun (q : _ ∧ _) => And.intro (hK.out _ _ q.1) (hK.out _ _ q.2)) ?_ | refine hX.out ?_ | refine hY.out ?_ | refine (fun (q : (_ → _) ∧ (_ → _)) => And.intro (fun hc => hX.out (q.1 hc)) (fun hc => hY.out (q.2 hc))) ?_ | refine (fun (q : (_ → _) ∧ (_ → _)) => And.intro (fun hc => hY.out (q.1 hc)) (fun hc => hX.out (q.2 hc))) ?_ | skip))
  exact hb.out) : a := h ⟨hb⟩
theorem rtEK {a b : Prop} (hb : b) (h : Later b → a := by
  intro hb
  first | with_reducible refine APt.done ?_ | ((first | refine APt.pure rfl rfl rfl rfl rfl fun Kx hKx => ?_ | refine APt.load rfl rfl rfl fun Kx hKx => ?_ | refine APt.act1 rfl rfl rfl rfl rfl fun Kx hKx => ?_); simp (disch := (first | omega | (simp only [nx]; first | done | omega))) only [heldIn_iff, List.zipIdx_cons, List.zipIdx_nil, List.map_cons, List.map_nil, xxq, tfEK, sliceK, bnd, appendK, appsK, copyK, clearK, makeSliceK, buildSliceK, buildK, lookupK, mapPutK, mapOf, convK, allocK, indexK, partK, xxa, xxb, xxc, bne, Int.reduceEq, Int.reduceBEq, Int.reduceNe, Int.reduceBNe, Int.reduceLE, Int.reduceGT, Int.reduceGE, Int.reduceNeg, ↓reduceIte, reduceCtorEq, Nat.reduceEqDiff, Nat.reduceAdd, Nat.reduceMul, Nat.reduceSub, Nat.reduceLT, Int.reduceAdd, Int.reduceSub, Int.reduceMul, Int.reduceLT, Int.reduceToNat, ne_eq, *]; (repeat first | ((with_reducible refine And.intro (fun hc => ?_) (fun hc => absurd hc (by omega))); clear hc) | ((with_reducible refine And.intro (fun hc => absurd hc (by omega)) (fun hc => ?_)); clear hc) | ((with_reducible refine And.intro ?_ ?_); focus ((first | omega | assumption | exact cok _ rfl | exact one_ints _ | exact one_map fun _ => rfl | ((repeat refine one_cons (by first | rfl | assumption) ?_); exact one_nil) | rfl | decide | (intro u hu; cases hu)); done)) | (with_reducible refine (fun hc => ?_ : _ → _); clear hc)); (first | refine hKx.out _ ?_ | refine hKx.out _ _ ?_ | (refine hKx.out _ _ ?_ ?_; focus (simp (disch := (first | omega | (simp only [nx]; first | done | omega))) only [heldIn_iff, List.zipIdx_cons, List.zipIdx_nil, List.map_cons, List.map_nil, xxq, tfEK, sliceK, bnd, appendK, appsK, copyK, clearK, makeSliceK, buildSliceK, buildK, lookupK, mapPutK, mapOf, convK, allocK, indexK, partK, xxa, xxb, xxc, bne, Int.reduceEq, Int.reduceBEq, Int.reduceNe, Int.reduceBNe, Int.reduceLE, Int.reduceGT, Int.reduceGE, Int.reduceNeg, ↓reduceIte, reduceCtorEq, Nat.reduceEqDiff, Nat.reduceAdd, Nat.reduceMul, Nat.reduceSub, Nat.reduceLT, Int.reduceAdd, Int.reduceSub, Int.reduceMul, Int.reduceLT, Int.reduceToNat, ne_eq, *]; first | done | trivial)) | refine ACalls.hkx hKx ?_ | refine appendK.hkx hKx ?_))
  exact hb.out) : a := h ⟨hb⟩
theorem rtfEK {a b c : Prop} (hb : b) (hc : c) (h : Later b → Later c → a := by
  intro hb hc
  refine APt.two rfl rfl rfl rfl rfl rfl rfl rfl (fun Kx hKx => ?_) (fun Kx hKx => ?_)
  focus ((simp (disch := (first | omega | (simp only [nx]; first | done | omega))) only [heldIn_iff, List.zipIdx_cons, List.zipIdx_nil, List.map_cons, List.map_nil, xxq, tfEK, sliceK, bnd, appendK, appsK, copyK, clearK, makeSliceK, buildSliceK, buildK, lookupK, mapPutK, mapOf, convK, allocK, indexK, partK, xxa, xxb, xxc, bne, Int.reduceEq, Int.reduceBEq, Int.reduceNe, Int.reduceBNe, Int.reduceLE, Int.reduceGT, Int.reduceGE, Int.reduceNeg, ↓reduceIte, reduceCtorEq, Nat.reduceEqDiff, Nat.reduceAdd, Nat.reduceMul, Nat.reduceSub, Nat.reduceLT, Int.reduceAdd, Int.reduceSub, Int.reduceMul, Int.reduceLT, Int.reduceToNat, ne_eq, *]; (repeat first | ((with_reducible refine And.intro (fun hc => ?_) (fun hc => absurd hc (by omega))); clear hc) | ((with_reducible refine And.intro (fun hc => absurd hc (by omega)) (fun hc => ?_)); clear hc) | ((with_reducible refine And.intro ?_ ?_); focus ((first | omega | assumption | exact cok _ rfl | exact one_ints _ | exact one_map fun _ => rfl | ((repeat refine one_cons (by first | rfl | assumption) ?_); exact one_nil) | rfl | decide | (intro u hu; cases hu)); done)) | (with_reducible refine (fun hc => ?_ : _ → _); clear hc)); (first | refine hKx.out _ ?_ | refine hKx.out _ _ ?_ | (refine hKx.out _ _ ?_ ?_; focus (simp (disch := (first | omega | (simp only [nx]; first | done | omega))) only [heldIn_iff, List.zipIdx_cons, List.zipIdx_nil, List.map_cons, List.map_nil, xxq, tfEK, sliceK, bnd, appendK, appsK, copyK, clearK, makeSliceK, buildSliceK, buildK, lookupK, mapPutK, mapOf, convK, allocK, indexK, partK, xxa, xxb, xxc, bne, Int.reduceEq, Int.reduceBEq, Int.reduceNe, Int.reduceBNe, Int.reduceLE, Int.reduceGT, Int.reduceGE, Int.reduceNeg, ↓reduceIte, reduceCtorEq, Nat.reduceEqDiff, Nat.reduceAdd, Nat.reduceMul, Nat.reduceSub, Nat.reduceLT, Int.reduceAdd, Int.reduceSub, Int.reduceMul, Int.reduceLT, Int.reduceToNat, ne_eq, *]; first | done | trivial)) | refine ACalls.hkx hKx ?_ | refine appendK.hkx hKx ?_)); exact hb.out)
  focus ((simp (disch := (first | omega | (simp only [nx]; first | done | omega))) only [heldIn_iff, List.zipIdx_cons, List.zipIdx_nil, List.map_cons, List.map_nil, xxq, tfEK, sliceK, bnd, appendK, appsK, copyK, clearK, makeSliceK, buildSliceK, buildK, lookupK, mapPutK, mapOf, convK, allocK, indexK, partK, xxa, xxb, xxc, bne, Int.reduceEq, Int.reduceBEq, Int.reduceNe, Int.reduceBNe, Int.reduceLE, Int.reduceGT, Int.reduceGE, Int.reduceNeg, ↓reduceIte, reduceCtorEq, Nat.reduceEqDiff, Nat.reduceAdd, Nat.reduceMul, Nat.reduceSub, Nat.reduceLT, Int.reduceAdd, Int.reduceSub, Int.reduceMul, Int.reduceLT, Int.reduceToNat, ne_eq, *]; (repeat first | ((with_reducible refine And.intro (fun hc => ?_) (fun hc => absurd hc (by omega))); clear hc) | ((with_reducible refine And.intro (fun hc => absurd hc (by omega)) (fun hc => ?_)); clear hc) | ((with_reducible refine And.intro ?_ ?_); focus ((first | omega | assumption | exact cok _ rfl | exact one_ints _ | exact one_map fun _ => rfl | ((repeat refine one_cons (by first | rfl | assumption) ?_); exact one_nil) | rfl | decide | (intro u hu; cases hu)); done)) | (with_reducible refine (fun hc => ?_ : _ → _); clear hc)); (first | refine hKx.out _ ?_ | refine hKx.out _ _ ?_ | (refine hKx.out _ _ ?_ ?_; focus (simp (disch := (first | omega | (simp only [nx]; first | done | omega))) only [heldIn_iff, List.zipIdx_cons, List.zipIdx_nil, List.map_cons, List.map_nil, xxq, tfEK, sliceK, bnd, appendK, appsK, copyK, clearK, makeSliceK, buildSliceK, buildK, lookupK, mapPutK, mapOf, convK, allocK, indexK, partK, xxa, xxb, xxc, bne, Int.reduceEq, Int.reduceBEq, Int.reduceNe, Int.reduceBNe, Int.reduceLE, Int.reduceGT, Int.reduceGE, Int.reduceNeg, ↓reduceIte, reduceCtorEq, Nat.reduceEqDiff, Nat.reduceAdd, Nat.reduceMul, Nat.reduceSub, Nat.reduceLT, Int.reduceAdd, Int.reduceSub, Int.reduceMul, Int.reduceLT, Int.reduceToNat, ne_eq, *]; first | done | trivial)) | refine ACalls.hkx hKx ?_ | refine appendK.hkx hKx ?_)); exact hc.out)) : a := h ⟨hb⟩ ⟨hc⟩
theorem rdEK {a b : Prop} (hb : b) (h : Later b → a := by
  intro hb
  first
  | with_reducible refine APl.nil ?_
  | ((first | refine APl.pure2 rfl rfl rfl rfl fun Kx hKx => ?_ | refine APl.load rfl rfl rfl fun Kx hKx => ?_ | refine APl.slice rfl rfl rfl fun Kx hKx => ?_ | refine APl.act2 rfl rfl rfl rfl fun Kx hKx => ?_); simp (disch := (first | omega | (simp only [nx]; first | done | omega))) only [heldIn_iff, List.zipIdx_cons, List.zipIdx_nil, List.map_cons, List.map_nil, xxq, tfEK, sliceK, bnd, appendK, appsK, copyK, clearK, makeSliceK, buildSliceK, buildK, lookupK, mapPutK, mapOf, convK, allocK, indexK, partK, xxa, xxb, xxc, bne, Int.reduceEq, Int.reduceBEq, Int.reduceNe, Int.reduceBNe, Int.reduceLE, Int.reduceGT, Int.reduceGE, Int.reduceNeg, ↓reduceIte, reduceCtorEq, Nat.reduceEqDiff, Nat.reduceAdd, Nat.reduceMul, Nat.reduceSub, Nat.reduceLT, Int.reduceAdd, Int.reduceSub, Int.reduceMul, Int.reduceLT, Int.reduceToNat, ne_eq, *]; (repeat first | ((with_reducible refine And.intro (fun hc => ?_) (fun hc => absurd hc (by omega))); clear hc) | ((with_reducible refine And.intro (fun hc => absurd hc (by omega)) (fun hc => ?_)); clear hc) | ((with_reducible refine And.intro ?_ ?_); focus ((first | omega | assumption | exact cok _ rfl | exact one_ints _ | exact one_map fun _ => rfl | ((repeat refine one_cons (by first | rfl | assumption) ?_); exact one_nil) | rfl | decide | (intro u hu; cases hu)); done)) | (with_reducible refine (fun hc => ?_ : _ → _); clear hc)); (first | refine hKx.out _ ?_ | refine hKx.out _ _ ?_ | refine ACalls.hkx hKx ?_ | refine appendK.hkx hKx ?_ | refine (fun (q : _ ∧ _) => And.intro (hKx.out _ q.1) (hKx.out _ q.2)) ?_ | refine (fun (q : (_ → _) ∧ _) => And.intro (fun hc => hKx.out _ (q.1 hc)) (hKx.out _ q.2)) ?_ | (refine hKx.out _ _ ?_ ?_; focus (simp (disch := (first | omega | (simp only [nx]; first | done | omega))) only [heldIn_iff, List.zipIdx_cons, List.zipIdx_nil, List.map_cons, List.map_nil, xxq, tfEK, sliceK, bnd, appendK, appsK, copyK, clearK, makeSliceK, buildSliceK, buildK, lookupK, mapPutK, mapOf, convK, allocK, indexK, partK, xxa, xxb, xxc, bne, Int.reduceEq, Int.reduceBEq, Int.reduceNe, Int.reduceBNe, Int.reduceLE, Int.reduceGT, Int.reduceGE, Int.reduceNeg, ↓reduceIte, reduceCtorEq, Nat.reduceEqDiff, Nat.reduceAdd, Nat.reduceMul, Nat.reduceSub, Nat.reduceLT, Int.reduceAdd, Int.reduceSub, Int.reduceMul, Int.reduceLT, Int.reduceToNat, ne_eq, *]; first | done | trivial))))
  exact hb.out) : a := h ⟨hb⟩
theorem hlEK {p b : Prop} (hb : b) (h : p := by simp (disch := (first | omega | (simp only [nx]; first | done | omega))) only [heldIn_iff, List.zipIdx_cons, List.zipIdx_nil, List.map_cons, List.map_nil, xxq, tfEK, sliceK, bnd, appendK, appsK, copyK, clearK, makeSliceK, buildSliceK, buildK, lookupK, mapPutK, mapOf, convK, allocK, indexK, partK, xxa, xxb, xxc, bne, Int.reduceEq, Int.reduceBEq, Int.reduceNe, Int.reduceBNe, Int.reduceLE, Int.reduceGT, Int.reduceGE, Int.reduceNeg, ↓reduceIte, reduceCtorEq, Nat.reduceEqDiff, Nat.reduceAdd, Nat.reduceMul, Nat.reduceSub, Nat.reduceLT, Int.reduceAdd, Int.reduceSub, Int.reduceMul, Int.reduceLT, Int.reduceToNat, ne_eq, *]; first | done | trivial) : p ∧ b := ⟨h, hb⟩
theorem ivEK {p : Prop} (h : p := by first | omega | ((repeat first | exact Ext.refl _ | assumption | refine Ext.push ?_ _ | refine Ext.set ?_ _ (by first | omega | (simp only [nx, *]; omega)) | (apply Ext.up; focus (assumption; done))); done) | (simp (disch := (first | omega | (simp only [nx]; first | done | omega))) only [xxq, xxa, xxb, xxc, bne, Int.reduceEq, Int.reduceBEq, Int.reduceNe, Int.reduceBNe, Int.reduceLE, Int.reduceGT, Int.reduceGE, Int.reduceNeg, ↓reduceIte, reduceCtorEq, Nat.reduceEqDiff, Nat.reduceAdd, Nat.reduceMul, Nat.reduceSub, Nat.reduceLT, Int.reduceAdd, Int.reduceSub, Int.reduceMul, Int.reduceLT, Int.reduceToNat, ne_eq, *, intV_int]; first | done | omega | rfl | exact congrArg (Value.int .i64) (by omega) | ((repeat first | exact Ext.refl _ | assumption | refine Ext.push ?_ _ | refine Ext.set ?_ _ (by first | omega | (simp only [nx, *]; omega)) | (apply Ext.up; focus (assumption; done))); done)) | rfl) : p := h
theorem smEK {a b : Prop} (hb : b) (h : Later b → a := by intro hb; simp (disch := (first | omega | (simp only [nx]; first | done | omega))) only [xxq, xxa, xxb, xxc, bne, Int.reduceEq, Int.reduceBEq, Int.reduceNe, Int.reduceBNe, Int.reduceLE, Int.reduceGT, Int.reduceGE, Int.reduceNeg, ↓reduceIte, reduceCtorEq, Nat.reduceEqDiff, Nat.reduceAdd, Nat.reduceMul, Nat.reduceSub, Nat.reduceLT, Int.reduceAdd, Int.reduceSub, Int.reduceMul, Int.reduceLT, Int.reduceToNat, ne_eq, *, intV_int]; exact hb.out) : a := h ⟨hb⟩
theorem gtEK {A F : Fr} {t : Nat} {v : Value} (h : Ag [] A F) (e : F t = v := by simp (disch := (first | omega | (simp only [nx]; first | done | omega))) only [xxq, xxa, xxb, xxc, bne, Int.reduceEq, Int.reduceBEq, Int.reduceNe, Int.reduceBNe, Int.reduceLE, Int.reduceGT, Int.reduceGE, Int.reduceNeg, ↓reduceIte, reduceCtorEq, Nat.reduceEqDiff, Nat.reduceAdd, Nat.reduceMul, Nat.reduceSub, Nat.reduceLT, Int.reduceAdd, Int.reduceSub, Int.reduceMul, Int.reduceLT, Int.reduceToNat, ne_eq, *, intV_int]; exact rfl) : A t = v := (h.h t rfl).trans e
theorem agEK {D : List Nat} {A F : Fr} (h : Ag D A F := by
  repeat (with_reducible first | exact Ag.refl _ _ | refine Ag.nop ?_ | refine Ag.dead rfl ?_ | (refine Ag.live ?_ ?_; focus exact ivEK) | refine Ag.dr rfl ?_ | (refine Ag.lr ?_ ?_; focus exact ivEK) | refine Ag.up (by assumption) rfl ?_)) : Ag D A F := h
theorem sdEK {p : Prop} (h : p := by first | omega | assumption | (simp (disch := (first | omega | (simp only [nx]; first | done | omega))) only [xxq, tfEK, sliceK, bnd, appendK, appsK, copyK, clearK, makeSliceK, buildSliceK, buildK, lookupK, mapPutK, mapOf, convK, allocK, indexK, partK, xxa, xxb, xxc, bne, Int.reduceEq, Int.reduceBEq, Int.reduceNe, Int.reduceBNe, Int.reduceLE, Int.reduceGT, Int.reduceGE, Int.reduceNeg, ↓reduceIte, reduceCtorEq, Nat.reduceEqDiff, Nat.reduceAdd, Nat.reduceMul, Nat.reduceSub, Nat.reduceLT, Int.reduceAdd, Int.reduceSub, Int.reduceMul, Int.reduceLT, Int.reduceToNat, ne_eq, *]; first | done | omega | rfl)) : p := h
set_option maxHeartbeats 8000000 in
theorem lawUnionDiagrams_c {H : Heap} {v vd : Value} {C D : List Cr} (z y : Int) (hC : RdC H v C) (hD : RdC H vd D) (hS : C.length ≤ 9223372036854775807) (hT : D.length ≤ 9223372036854775807) : ACalls Try.prog 9 [.agg #[v, I z], .agg #[vd, I y]] H fun u H' => u = B true := by
  have hC1 := fun {H' : Heap} (h : Ext H H') => hC.ext h
  have hD1 := fun {H' : Heap} (h : Ext H H') => hD.ext h
  have hone := hC.one
  have honed := hD.one
  by_cases hl : (1048576 : Int) - C.length < 0
  · refine ACalls.body Try.func9 rfl Try.ntmps9 (rs := [.tmp 4]) rfl (by simp) rfl fun Q hQ A hA => ?_
    have a0 := hA 0 _ _ rfl
    have a1 := hA 1 _ _ rfl
    clear hA
    repeat' first | refine rnEK ?_ | (refine (szDiagram_c z (hC1 (by exact ex1)) hS 1048576 (by omega) (by omega)).mono ?_; rintro u H1 ⟨rfl, hx1⟩; rw [if_pos hl]; have hx1g := hx1.get; have hx1s := hx1.size; (try simp only [nx] at hx1s)) | with_reducible refine And.intro (fun hc => ?_) (fun hc => ?_) | fail
    exact hQ.out _ _ rfl
  · by_cases hl2 : (1048576 : Int) - C.length - D.length < 0
    · refine ACalls.body Try.func9 rfl Try.ntmps9 (rs := [.tmp 4]) rfl (by simp) rfl fun Q hQ A hA => ?_
      have a0 := hA 0 _ _ rfl
      have a1 := hA 1 _ _ rfl
      clear hA
      repeat' first | refine rnEK ?_ | ((refine (szDiagram_c z (hC1 (by exact ex1)) hS 1048576 (by omega) (by omega)).mono ?_; rintro u H1 ⟨rfl, hx1⟩; rw [if_neg hl]; have hx1g := hx1.get; have hx1s := hx1.size; (try simp only [nx] at hx1s))) | (refine (szDiagram_c y (hD1 (by exact ex1)) hT (1048576 - C.length) (by omega) (by omega)).mono ?_; rintro u H2 ⟨rfl, hx2⟩; rw [if_pos hl2]; have hx2g := hx2.get; have hx2s := hx2.size; (try simp only [nx] at hx2s)) | with_reducible refine And.intro (fun hc => ?_) (fun hc => ?_) | fail
      exact hQ.out _ _ rfl
    · have hS2 : C.length ≤ 1048576 := by omega
      have hT2 : D.length ≤ 1048576 := by omega
      have hE2 : (uniV C z D y).1.length ≤ 1048576 := by
        unfold uniV
        (repeat' split) <;> simp <;> omega
      have hsp := fun {H : Heap} {v vd : Value} {g : Nat} (h : OwC H v g C) (k : RdC H vd D) => specUnionDiagrams_c z y h k hS2 hT2
      have him := fun {H : Heap} {v vd : Value} {g : Nat} (h : OwC H v g C) (k : RdC H vd D) => UnionDiagrams_c z y h k hS2 hT2
      generalize (uniV C z D y).1 = E at *
      generalize (uniV C z D y).2.1 = ze at *
      generalize (uniV C z D y).2.2 = ee at *
      refine ACalls.body Try.func9 rfl Try.ntmps9 (rs := [.tmp 4]) rfl (by simp) rfl fun Q hQ A hA => ?_
      have a0 := hA 0 _ _ rfl
      have a1 := hA 1 _ _ rfl
      clear hA
      repeat' first | refine rnEK ?_ | ((refine (szDiagram_c z (hC1 (by exact ex1)) hS 1048576 (by omega) (by omega)).mono ?_; rintro u H1 ⟨rfl, hx1⟩; rw [if_neg hl]; have hx1g := hx1.get; have hx1s := hx1.size; (try simp only [nx] at hx1s))) | (refine (szDiagram_c y (hD1 (by exact ex1)) hT (1048576 - C.length) (by omega) (by omega)).mono ?_; rintro u H2 ⟨rfl, hx2⟩; rw [if_neg hl2]; have hx2g := hx2.get; have hx2s := hx2.size; (try simp only [nx] at hx2s)) | with_reducible refine And.intro (fun hc => ?_) (fun hc => ?_) | fail
      have hb2 : H2.get H.size = .cells [v, I z] 1 false := by exact ivEK
      have hb3 : H2.get (H.size + 1) = .cells [vd, I y] 1 false := by exact ivEK
      have hs2 : H.size + 2 ≤ H2.size := by omega
      have hx0 : Ext H H2 := by exact ex1
      clear hx1 hx2 hx1g hx2g hx1s hx2s hl hl2
      refine AWp.treed (.one 0 (.one 2 (.two 1 (.two 3 (.two 4 (.one 5 (.one 6 (.one 7 (.one 8 (.one 9 (.one 10 .done)))))) 8 (.one 4 (.one 5 (.one 6 (.one 7 (.one 9 (.one 10 .done))))))) 8 (.one 3 (.one 4 (.one 5 (.one 6 (.one 7 (.one 9 (.one 10 .done)))))))) 8 (.one 1 (.one 3 (.one 4 (.one 5 (.one 6 (.one 7 (.one 9 (.one 10 .done))))))))))) mixed (by kernel_rfl) ?_
      repeat' first | refine rtEK ?_ | refine rtfEK ?_ ?_ | (refine (toDiagram_c z (hC1 (by exact ex1)) hS2).mono ?_; rintro u H4 ⟨⟨w1, g1, rfl, hO1, hg1⟩, hx4⟩; have ho1 := hO1.rd.one; have hx4g := hx4.get; have hx4s := hx4.size; (try simp only [nx] at hx4s); refine hlEK ?_) | (refine (toDiagram_c y (hD1 (by exact ex1)) hT2).mono ?_; rintro u H5 ⟨⟨w2, g2, rfl, hO2, hg2⟩, hx5⟩; have ho2 := hO2.rd.one; have hx5g := hx5.get; have hx5s := hx5.size; (try simp only [nx] at hx5s); refine hlEK ?_) | (refine (hsp (hO1.ext (by exact ex1)) (hO2.rd.ext (by exact ex1))).mono ?_; rintro u H6 ⟨⟨w, rfl, hW⟩, hx6⟩; have hw := hW.rd.one; have hx6g := hx6.get; have hx6s := hx6.size; (try simp only [nx] at hx6s); refine hlEK ?_) | fail
      all_goals first
        | (
        obtain ⟨gt, hgt⟩ : ∃ X, X = H6.size := ⟨_, rfl⟩
        obtain ⟨Hb, hHb⟩ : ∃ X, X = (H6.push (.cells [.slice none 0 0, I 0] 1 false)).set (H6.size) (.cells [w, I ze] 1 false) := ⟨_, rfl⟩
        (try simp only [nx] at hW)
        have b1 : Hb.get gt = .cells [w, I ze] 1 false := by rw [hHb, hgt]; exact ivEK
        have b2 : RdC Hb w E := by rw [hHb]; exact (hW.ext (((Ext.refl _).push _).set _ (by simp))).rd
        have b3 : Ext H2 Hb := by rw [hHb]; (exact ex1)
        have b4 : gt < Hb.size := by rw [hHb, hgt]; simp only [nx]; omega
        rw [← hHb, ← hgt]
        clear hHb hgt hx4 hx5 hx6 hx4g hx5g hx6g hx4s hx5s hx6s hO1 hO2 hW hg1 hg2)
        | (
        obtain ⟨gt, hgt⟩ : ∃ X, X = H5.size := ⟨_, rfl⟩
        obtain ⟨Hb, hHb⟩ : ∃ X, X = H6.set (H5.size) (.cells [w, I ze] 1 false) := ⟨_, rfl⟩
        (try simp only [nx] at hW)
        have b1 : Hb.get gt = .cells [w, I ze] 1 false := by rw [hHb, hgt]; exact ivEK
        have b2 : RdC Hb w E := by rw [hHb]; exact (hW.setlow (by omega)).rd
        have b3 : Ext H2 Hb := by rw [hHb]; (exact ex1)
        have b4 : gt < Hb.size := by rw [hHb, hgt]; simp only [nx]; omega
        rw [← hHb, ← hgt]
        clear hHb hgt hx4 hx5 hx6 hx4g hx5g hx6g hx4s hx5s hx6s hO1 hO2 hW hg1 hg2)
        | (
        obtain ⟨gt, hgt⟩ : ∃ X, X = H4.size := ⟨_, rfl⟩
        obtain ⟨Hb, hHb⟩ : ∃ X, X = H6.set (H4.size) (.cells [w, I ze] 1 false) := ⟨_, rfl⟩
        (try simp only [nx] at hW)
        have b1 : Hb.get gt = .cells [w, I ze] 1 false := by rw [hHb, hgt]; exact ivEK
        have b2 : RdC Hb w E := by rw [hHb]; exact (hW.setlow (by omega)).rd
        have b3 : Ext H2 Hb := by rw [hHb]; (exact ex1)
        have b4 : gt < Hb.size := by rw [hHb, hgt]; simp only [nx]; omega
        rw [← hHb, ← hgt]
        clear hHb hgt hx4 hx5 hx6 hx4g hx5g hx6g hx4s hx5s hx6s hO1 hO2 hW hg1 hg2)
        | (
        obtain ⟨gt, hgt⟩ : ∃ X, X = H2.size := ⟨_, rfl⟩
        obtain ⟨Hb, hHb⟩ : ∃ X, X = H6.set (H2.size) (.cells [w, I ze] 1 false) := ⟨_, rfl⟩
        (try simp only [nx] at hW)
        have b1 : Hb.get gt = .cells [w, I ze] 1 false := by rw [hHb, hgt]; exact ivEK
        have b2 : RdC Hb w E := by rw [hHb]; exact (hW.setlow (by omega)).rd
        have b3 : Ext H2 Hb := by rw [hHb]; (exact ex1)
        have b4 : gt < Hb.size := by rw [hHb, hgt]; simp only [nx]; omega
        rw [← hHb, ← hgt]
        clear hHb hgt hx4 hx5 hx6 hx4g hx5g hx6g hx4s hx5s hx6s hO1 hO2 hW hg1 hg2)
      all_goals
        have c2 : Hb.get H.size = .cells [v, I z] 1 false := (b3.get _ (by omega)).trans hb2
        have c3 : Hb.get (H.size + 1) = .cells [vd, I y] 1 false := (b3.get _ (by omega)).trans hb3
        have c4 := b3.size
        have c5 : Ext H Hb := hx0.trans b3
        clear b3 hb2 hb3 hx0
        repeat' first | refine rnEK ?_ | with_reducible refine And.intro (fun hc => ?_) (fun hc => ?_) | fail
        refine (toDiagram_c z (hC1 (by exact ex1)) hS2).mono ?_
        rintro u H7 ⟨⟨w3, g3, rfl, hO3, hg3⟩, hx7⟩
        have ho3 := hO3.rd.one
        have hx7g := hx7.get; have hx7s := hx7.size; (try simp only [nx] at hx7s)
        repeat' first | refine rnEK ?_ | with_reducible refine And.intro (fun hc => ?_) (fun hc => ?_) | fail
        refine (toDiagram_c y (hD1 (by exact ex1)) hT2).mono ?_
        rintro u H8 ⟨⟨w4, g4, rfl, hO4, hg4⟩, hx8⟩
        have ho4 := hO4.rd.one
        have hx8g := hx8.get; have hx8s := hx8.size; (try simp only [nx] at hx8s)
        simp only [nx] at hg3 hg4
        repeat' first | refine rnEK ?_ | with_reducible refine And.intro (fun hc => ?_) (fun hc => ?_) | fail
        refine (him (hO3.ext (by exact ex1)) (hO4.rd.ext (by exact ex1))).mono ?_
        rintro u H9 ⟨⟨u, rfl, hU⟩, hx9⟩
        have hu1 := hU.rd.one
        have hx9g := hx9.get; have hx9s := hx9.size; (try simp only [nx] at hx9s)
        simp only [nx] at hU
        repeat' first | refine rnEK ?_ | (refine (eqDiagram_c ze (hU.rd.ext (by exact ex1)) (b2.ext (by exact ex1)) hE2).mono ?_; rintro u' Ha ⟨rfl, hxa⟩; have hxag := hxa.get; have hxas := hxa.size; (try simp only [nx] at hxas)) | with_reducible refine And.intro (fun hc => ?_) (fun hc => ?_) | fail
        refine AWp.planned [0,1,2,3,4] mixed (by kernel_rfl) ?_
        repeat' first | refine rdEK ?_ | (refine (toDiagram_c z (hC1 (by exact ex1)) hS2).mono ?_; rintro u' Hc ⟨⟨w5, g5, rfl, hO5, hg5⟩, hxc⟩; have hxcg := hxc.get; have hxcs := hxc.size; (try simp only [nx] at hxcs); refine hlEK ?_) | (refine (eqDiagram_c z (hO3.rd.ext (by exact ex1)) hO5.rd hS2).mono ?_; rintro u' Hd ⟨rfl, hxd⟩; have hxdg := hxd.get; have hxds := hxd.size; (try simp only [nx] at hxds); refine hlEK ?_) | with_reducible refine And.intro (fun hc => ?_) ?_ | with_reducible refine And.intro ?_ ?_ | fail
        repeat' first | refine rnEK ?_ | with_reducible refine And.intro (fun hc => ?_) (fun hc => ?_) | fail
        refine AWp.planned [0,1,2,3,4] mixed (by kernel_rfl) ?_
        repeat' first | refine rdEK ?_ | (refine (toDiagram_c y (hD1 (by exact ex1)) hT2).mono ?_; rintro u' He ⟨⟨w6, g6, rfl, hO6, hg6⟩, hxe⟩; have hxeg := hxe.get; have hxes := hxe.size; (try simp only [nx] at hxes); refine hlEK ?_) | (refine (eqDiagram_c y (hO4.rd.ext (by exact ex1)) hO6.rd hT2).mono ?_; rintro u' Hf ⟨rfl, hxf⟩; have hxfg := hxf.get; have hxfs := hxf.size; (try simp only [nx] at hxfs); refine hlEK ?_) | with_reducible refine And.intro (fun hc => ?_) ?_ | with_reducible refine And.intro ?_ ?_ | fail
        have hl3 := hO3.lt
        have hl4 := hO4.lt
        obtain ⟨p1, p2, p3, p4, p5, p6, p7, p8, p9⟩ : OwC Hf w3 g3 C ∧ OwC Hf w4 g4 D ∧ OwN (H8.size + 1) H9.size Hf u E ∧ Ext Hb Hf ∧ Hf.get H7.size = .cells [w3, I z] 1 false ∧ Hf.get H8.size = .cells [w4, I y] 1 false ∧ Hf.get H9.size = .cells [u, I ze] 1 false ∧ H9.size < Hf.size ∧ (H7.size < H8.size ∧ H8.size < H9.size ∧ g3 < H7.size ∧ g4 < H8.size ∧ Hb.size ≤ g3 ∧ H7.size < g4) :=
          ⟨hO3.ext (by exact ex1), hO4.ext (by exact ex1), hU.ext (by exact ex1), by exact ex1, by exact ivEK, by exact ivEK, by exact ivEK, by omega, by omega⟩
        clear hx7 hx8 hx9 hxa hxc hxd hxe hxf hx7g hx8g hx9g hxag hxcg hxdg hxeg hxfg hx7s hx8s hx9s hxas hxcs hxds hxes hxfs hO3 hO4 hO5 hO6 hU hl3 hl4
        have hneg5 : (1 + 5 * (C.length : Int) + 5 * D.length < 0) = False := eq_false (by omega)
        have hneg6 : (1 + 5 * (E.length : Int) < 0) = False := eq_false (by omega)
        repeat' first | refine rnEK ?_ | with_reducible refine And.intro (fun hc => ?_) (fun hc => ?_) | fail
        refine (markDiagram_c (k := 1) z p1 hS2 (by omega) (by omega)).mono ?_
        rintro u' Hg ⟨rfl, hO3b, e1⟩
        have q0 := e1.size
        have q2 : OwC Hg w4 g4 D := by obtain ⟨k, rfl, h1, h2⟩ := p2; exact ⟨k, rfl, by omega, (e1.get _ h1 (.inr (by omega))).trans h2⟩
        have q3 := p3.keep e1 (.inr (by omega))
        have q4 : Ext Hb Hg := e1.toExt p4 (by omega)
        have q6 : Hg.get H8.size = .cells [w4, I y] 1 false := (e1.get _ (by omega) (.inr (by omega))).trans p6
        have q7 : Hg.get H9.size = .cells [u, I ze] 1 false := (e1.get _ (by omega) (.inr (by omega))).trans p7
        clear hO3b e1 p1 p2 p3 p4 p5 p6 p7
        repeat' first | refine rnEK ?_ | with_reducible refine And.intro (fun hc => ?_) (fun hc => ?_) | fail
        refine (markDiagram_c (k := 1 + 5 * C.length) y q2 hT2 (by omega) (by omega)).mono ?_
        rintro u' Hh ⟨rfl, hO4b, e2⟩
        have r0 := e2.size
        have r3 := q3.keep e2 (.inr (by omega))
        have r4 : Ext Hb Hh := e2.toExt q4 (by omega)
        have r7 : Hh.get H9.size = .cells [u, I ze] 1 false := (e2.get _ (by omega) (.inr (by omega))).trans q7
        have r6 : Hh.get gt = .cells [w, I ze] 1 false := (r4.get _ b4).trans b1
        clear hO4b e2 q2 q3 q4 q6 q7
        repeat' first | refine rnEK ?_ | (refine (eqDiagram_c ze r3.rd (b2.ext r4) hE2).mono ?_; rintro u' Hi ⟨rfl, hxi⟩; have hxig := hxi.get; have hxis := hxi.size; (try simp only [nx] at hxis)) | with_reducible refine And.intro (fun hc => ?_) (fun hc => ?_) | fail
        refine (markN_c (k := 1) ze (r3.ext hxi) hE2 (by omega) (by omega)).mono ?_
        rintro u' Hj ⟨rfl, hUj, e3⟩
        have t0 := e3.size
        have t1 := hxi.size
        have t4 : Ext Hb Hj := e3.toExt (r4.trans hxi) (by omega)
        have t7 : Hj.get H9.size = .cells [u, I ze] 1 false := (e3.get _ (by omega) (.inr (by omega))).trans ((hxi.get _ (by omega)).trans r7)
        clear e3 hxi hxig hxis r3 r4 r6 r7
        repeat' first | refine rnEK ?_ | (refine (heldDiagram_c (k := 1) (n := E.length) ze hUj.rd hE2 (by omega) (by omega)).mono ?_; rintro u' Hk ⟨rfl, hxk⟩; have hxkg := hxk.get; have hxks := hxk.size; (try simp only [nx] at hxks)) | with_reducible refine And.intro (fun hc => ?_) (fun hc => ?_) | fail
        have v0 : Ext H Hk := c5.trans (t4.trans hxk)
        have v1 : Hk.get gt = .cells [w, I ze] 1 false := ((t4.trans hxk).get _ b4).trans b1
        have v2 : RdC Hk w E := b2.ext (t4.trans hxk)
        have v3 := hUj.ext hxk
        have v4 : Hk.get H9.size = .cells [u, I ze] 1 false := (hxk.get _ (by omega)).trans t7
        have v5 : Hk.get H.size = .cells [v, I z] 1 false := ((t4.trans hxk).get _ (by omega)).trans c2
        have v6 : Hk.get (H.size + 1) = .cells [vd, I y] 1 false := ((t4.trans hxk).get _ (by omega)).trans c3
        have v7 := (t4.trans hxk).size
        clear t4 t7 hUj hxk hxkg c5
        refine AWp.treed (.one 0 (.one 2 (.two 1 (.two 3 (.two 4 (.one 5 (.one 6 (.one 7 (.one 8 (.one 9 (.one 10 .done)))))) 8 (.one 4 (.one 5 (.one 6 (.one 7 (.one 9 (.one 10 .done))))))) 8 (.one 3 (.one 4 (.one 5 (.one 6 (.one 7 (.one 9 (.one 10 .done)))))))) 8 (.one 1 (.one 3 (.one 4 (.one 5 (.one 6 (.one 7 (.one 9 (.one 10 .done))))))))))) mixed (by kernel_rfl) ?_
        repeat' first | refine rtEK ?_ | refine rtfEK ?_ ?_ | (refine (toDiagram_c z (hC1 (by exact ex1)) hS2).mono ?_; rintro u' Hm ⟨⟨w7, g7, rfl, hOm, hgm⟩, hxm⟩; have hom := hOm.rd.one; have hxmg := hxm.get; have hxms := hxm.size; (try simp only [nx] at hxms); refine hlEK ?_) | (refine (toDiagram_c y (hD1 (by exact ex1)) hT2).mono ?_; rintro u' Hn ⟨⟨w8, g8, rfl, hOn, hgn⟩, hxn⟩; have hon := hOn.rd.one; have hxng := hxn.get; have hxns := hxn.size; (try simp only [nx] at hxns); refine hlEK ?_) | (refine (him (hOm.ext (by exact ex1)) (hOn.rd.ext (by exact ex1))).mono ?_; rintro u' Ho ⟨⟨u2, rfl, hV⟩, hxo⟩; have hv1 := hV.rd.one; have hxog := hxo.get; have hxos := hxo.size; (try simp only [nx] at hxos); refine hlEK ?_) | fail
        all_goals first
          | (
          obtain ⟨gs, hgs⟩ : ∃ X, X = Ho.size := ⟨_, rfl⟩
          obtain ⟨Hp, hHp⟩ : ∃ X, X = (Ho.push (.cells [.slice none 0 0, I 0] 1 false)).set (Ho.size) (.cells [u2, I ze] 1 false) := ⟨_, rfl⟩
          (try simp only [nx] at hV)
          have s1 : Hp.get gs = .cells [u2, I ze] 1 false := by rw [hHp, hgs]; exact ivEK
          have s2 : RdC Hp u2 E := by rw [hHp]; exact (hV.ext (((Ext.refl _).push _).set _ (by simp))).rd
          have s3 : Ext Hk Hp := by rw [hHp]; (exact ex1)
          have s4 : gs < Hp.size := by rw [hHp, hgs]; simp only [nx]; omega
          rw [← hHp, ← hgs]
          clear hHp hgs hxm hxn hxo hxmg hxng hxog hxms hxns hxos hOm hOn hV)
          | (
          obtain ⟨gs, hgs⟩ : ∃ X, X = Hn.size := ⟨_, rfl⟩
          obtain ⟨Hp, hHp⟩ : ∃ X, X = Ho.set (Hn.size) (.cells [u2, I ze] 1 false) := ⟨_, rfl⟩
          (try simp only [nx] at hV)
          have s1 : Hp.get gs = .cells [u2, I ze] 1 false := by rw [hHp, hgs]; exact ivEK
          have s2 : RdC Hp u2 E := by rw [hHp]; exact (hV.setlow (by omega)).rd
          have s3 : Ext Hk Hp := by rw [hHp]; (exact ex1)
          have s4 : gs < Hp.size := by rw [hHp, hgs]; simp only [nx]; omega
          rw [← hHp, ← hgs]
          clear hHp hgs hxm hxn hxo hxmg hxng hxog hxms hxns hxos hOm hOn hV)
          | (
          obtain ⟨gs, hgs⟩ : ∃ X, X = Hm.size := ⟨_, rfl⟩
          obtain ⟨Hp, hHp⟩ : ∃ X, X = Ho.set (Hm.size) (.cells [u2, I ze] 1 false) := ⟨_, rfl⟩
          (try simp only [nx] at hV)
          have s1 : Hp.get gs = .cells [u2, I ze] 1 false := by rw [hHp, hgs]; exact ivEK
          have s2 : RdC Hp u2 E := by rw [hHp]; exact (hV.setlow (by omega)).rd
          have s3 : Ext Hk Hp := by rw [hHp]; (exact ex1)
          have s4 : gs < Hp.size := by rw [hHp, hgs]; simp only [nx]; omega
          rw [← hHp, ← hgs]
          clear hHp hgs hxm hxn hxo hxmg hxng hxog hxms hxns hxos hOm hOn hV)
          | (
          obtain ⟨gs, hgs⟩ : ∃ X, X = Hk.size := ⟨_, rfl⟩
          obtain ⟨Hp, hHp⟩ : ∃ X, X = Ho.set (Hk.size) (.cells [u2, I ze] 1 false) := ⟨_, rfl⟩
          (try simp only [nx] at hV)
          have s1 : Hp.get gs = .cells [u2, I ze] 1 false := by rw [hHp, hgs]; exact ivEK
          have s2 : RdC Hp u2 E := by rw [hHp]; exact (hV.setlow (by omega)).rd
          have s3 : Ext Hk Hp := by rw [hHp]; (exact ex1)
          have s4 : gs < Hp.size := by rw [hHp, hgs]; simp only [nx]; omega
          rw [← hHp, ← hgs]
          clear hHp hgs hxm hxn hxo hxmg hxng hxog hxms hxns hxos hOm hOn hV)
        all_goals
          have y1 : Hp.get gt = .cells [w, I ze] 1 false := (s3.get _ (by omega)).trans v1
          have y2 : Hp.get H9.size = .cells [u, I ze] 1 false := (s3.get _ (by omega)).trans v4
          have y3 : RdC Hp w E := v2.ext s3
          have y4 := v3.ext s3
          have y5 := s3.size
          clear s3 v0 v1 v2 v3 v4 v5 v6
          repeat' first | refine rnEK ?_ | (refine (eqDiagram_c ze s2 y3 hE2).mono ?_; rintro u' Hq ⟨rfl, hxq⟩; have hxqg := hxq.get; have hxqs := hxq.size; (try simp only [nx] at hxqs)) | with_reducible refine And.intro (fun hc => ?_) (fun hc => ?_) | fail
          refine (heldDiagram_c (k := 1) (n := E.length) ze (y4.ext hxq).rd hE2 (by omega) (by omega)).mono ?_
          rintro u' Hr ⟨rfl, hxr⟩
          have hxrg := hxr.get; have hxrs := hxr.size; (try simp only [nx] at hxrs)
          repeat' first | refine rnEK ?_ | with_reducible refine And.intro (fun hc => ?_) (fun hc => ?_) | fail
          exact hQ.out _ _ rfl
end Go.Proofs.Ytpbbfephfmdgmaa.Rai
