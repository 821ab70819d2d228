/- A part of the walk: what functions of the program do, over an abstract heap. -/
import Derived.Test.YtibkopejnhihkaaW6
namespace Go.Proofs.Ytibkopejnhihkaa.Zed
open Go TP
set_option linter.unusedVariables false
set_option linter.unusedSimpArgs false
set_option maxRecDepth 20000
theorem tfW7 : (Try.prog.underlying 27 = some (.slice 89)) ∧ (el Try.prog 27 = some (none, 1)) ∧ (Try.prog.underlying 36 = some (.slice 2)) ∧ (el Try.prog 36 = some (none, 1)) ∧ (Try.prog.underlying 89 = some (.slice 110)) ∧ (el Try.prog 89 = some (none, 2)) ∧ (Try.prog.underlying 120 = some (.array 4 2)) ∧ (el Try.prog 120 = some (some 4, 1)) ∧ (Try.prog.underlying 150 = some (.map 2 2)) ∧ (mk Try.prog 150 = some 2) ∧ (tk Try.prog 2 = some none) ∧ (tk Try.prog 27 = some none) ∧ (tk Try.prog 29 = some (some 1)) ∧ (tk Try.prog 36 = some none) ∧ (tk Try.prog 89 = some none) ∧ (tk Try.prog 110 = some (some 2)) ∧ (cz Try.prog 2 = some 1) ∧ (bz Try.prog 2 = some 8) ∧ (cz Try.prog 89 = some 1) ∧ (bz Try.prog 89 = some 24) ∧ (cz Try.prog 110 = some 2) ∧ (bz Try.prog 110 = some 16) ∧ (zr Try.prog 2 = some (.int .i64 0)) ∧ (zr Try.prog 36 = some (.slice none 0 0)) ∧ (zr Try.prog 89 = some (.slice none 0 0)) ∧ (zr Try.prog 110 = some (.agg #[.int .i64 0, .int .i64 0])) ∧ (fo Try.prog 29 0 = some (0, none)) ∧ (fo Try.prog 110 0 = some (0, none)) ∧ (fo Try.prog 110 1 = some (1, none)) := by
  refine ⟨?_, ?_, ?_, ?_, ?_, ?_, ?_, ?_, ?_, ?_, ?_, ?_, ?_, ?_, ?_, ?_, ?_, ?_, ?_, ?_, ?_, ?_, ?_, ?_, ?_, ?_, ?_, ?_, ?_⟩ <;> kernel_rfl
theorem rnW7 {a b : Prop} (hb : b) (h : Later b → a := by
  intro hb
  first
  | ((with_reducible first | refine AOps.nil ?_ | refine athen_n ?_ | refine athen_r ?_ | refine athen_e ?_ | refine ablock_n ?_ | refine ablock_r ?_ | refine ablock_s ?_ | refine AWp.seq' ?_ | refine AWp.block ?_ | refine AWp.skip ?_ | refine AWp.exit ?_ | refine AWp.ret ?_ | refine AWp.region ?_ | (refine ablock_e ?_ ?_; focus rfl)); repeat (with_reducible first | refine AOps.nil ?_ | refine athen_n ?_ | refine athen_r ?_ | refine athen_e ?_ | refine ablock_n ?_ | refine ablock_r ?_ | refine ablock_s ?_ | refine AWp.seq' ?_ | refine AWp.block ?_ | refine AWp.skip ?_ | refine AWp.exit ?_ | refine AWp.ret ?_ | refine AWp.region ?_ | (refine ablock_e ?_ ?_; focus rfl)))
  | (refine AOps.guardu rfl rfl rfl ?_ ?_; focus (simp (disch := (first | omega | (simp only [nx]; first | done | omega))) only [Value.bool.injEq, Bool.and_true, Bool.true_and, Bool.and_false, Bool.false_and, beq_self_eq_true, bne, Bool.not_true, Bool.not_false, sx, nx, dx, ↓reduceIte, reduceCtorEq, Nat.reduceEqDiff, ne_eq, not_false_eq_true, *]; done))
  | ((first | ((with_reducible refine AOps.lit ?_ ?_ ?_ fun K hK => ?_); exact rfl; exact rfl; exact rfl) | ((with_reducible refine AOps.boxz ?_ ?_ fun K hK => ?_); exact rfl; exact rfl) | ((with_reducible refine AOps.cons2 ?_ ?_ fun K hK => ?_); exact rfl; exact rfl) | ((with_reducible refine AWp.cond ?_ fun X Y hX hY => ?_); exact rfl) | refine AOps.guard rfl rfl rfl fun X Y hX hY => ?_ | refine aret_r ?_ | refine aret_n ?_); simp (disch := (first | omega | (simp only [nx]; first | done | omega))) only [acond_bool, aresK, retv, xxq, zxq, tfW7, litK, copyK, clearK, makeSliceK, buildSliceK, buildK, lookupK, mapPutK, mapOf, convK, allocK, indexK, partK, xxa, xxb, xxc, bne, Int.reduceEq, Int.reduceBEq, Int.reduceNe, Int.reduceBNe, Int.reduceLE, Int.reduceGT, Int.reduceGE, Int.reduceNeg, ↓reduceIte, reduceCtorEq, Nat.reduceEqDiff, Nat.reduceAdd, Nat.reduceMul, Nat.reduceSub, Nat.reduceLT, Int.reduceAdd, Int.reduceSub, Int.reduceMul, Int.reduceLT, Int.reduceToNat, ne_eq, *]; (repeat first | ((with_reducible refine And.intro (fun hc => ?_) (fun hc => absurd hc (by omega))); clear hc) | ((with_reducible refine And.intro (fun hc => absurd hc (by omega)) (fun hc => ?_)); clear hc) | ((with_reducible refine And.intro ?_ ?_); focus ((first | omega | assumption | exact cok _ rfl | exact one_ints _ | exact one_map fun _ => rfl | ((repeat refine one_cons (by first | rfl | assumption) ?_); exact one_nil) | rfl | decide | (intro u hu; cases hu)); done)) | (with_reducible refine (fun hc => ?_ : _ → _); clear hc)); (first | refine hK.out _ _ ?_ | refine ACalls.hk hK ?_ | (refine appendK.hk hK ?_; try (refine appendK.ofZ ?_; simp (disch := (first | omega | (simp only [nx]; first | done | omega))) only [xxq, zxq, tfW7, litK, copyK, clearK, makeSliceK, buildSliceK, buildK, lookupK, mapPutK, mapOf, convK, allocK, indexK, partK, xxa, xxb, xxc, bne, Int.reduceEq, Int.reduceBEq, Int.reduceNe, Int.reduceBNe, Int.reduceLE, Int.reduceGT, Int.reduceGE, Int.reduceNeg, ↓reduceIte, reduceCtorEq, Nat.reduceEqDiff, Nat.reduceAdd, Nat.reduceMul, Nat.reduceSub, Nat.reduceLT, Int.reduceAdd, Int.reduceSub, Int.reduceMul, Int.reduceLT, Int.reduceToNat, ne_eq, *]; (repeat first | ((with_reducible refine And.intro (fun hc => ?_) (fun hc => absurd hc (by omega))); clear hc) | ((with_reducible refine And.intro (fun hc => absurd hc (by omega)) (fun hc => ?_)); clear hc) | ((with_reducible refine And.intro ?_ ?_); focus ((first | omega | assumption | exact cok _ rfl | exact one_ints _ | exact one_map fun _ => rfl | ((repeat refine one_cons (by first | rfl | assumption) ?_); exact one_nil) | rfl | decide | (intro u hu; cases hu)); done)) | (with_reducible refine (fun hc => ?_ : _ → _); clear hc)))) | refine (fun (q : _ ∧ _) => And.intro (hK.out _ _ q.1) (hK.out _ _ q.2)) ?_ | refine hX.out ?_ | refine hY.out ?_ | refine (fun (q : (_ → _) ∧ (_ → _)) => And.intro (fun hc => hX.out (q.1 hc)) (fun hc => hY.out (q.2 hc))) ?_ | refine (fun (q : (_ → _) ∧ (_ → _)) => And.intro (fun hc => hY.out (q.1 hc)) (fun hc => hX.out (q.2 hc))) ?_ | skip))
  exact hb.out) : a := h ⟨hb⟩
theorem rzW7 {a b : Prop} (hb : b) (h : Later b → a := by
  intro hb
  first
  | with_reducible refine AZ.nil ?_
  | (refine AZ.pass rfl rfl (.inl ?_) ?_; focus (simp (disch := (first | omega | (simp only [nx]; first | done | omega))) only [Value.bool.injEq, Bool.and_true, Bool.true_and, Bool.and_false, Bool.false_and, beq_self_eq_true, bne, Bool.not_true, Bool.not_false, sx, nx, dx, ↓reduceIte, reduceCtorEq, Nat.reduceEqDiff, ne_eq, not_false_eq_true, *]; done))
  | (refine AZ.pass rfl rfl (.inr ?_) ?_; focus (simp (disch := (first | omega | (simp only [nx]; first | done | omega))) only [Value.bool.injEq, Bool.and_true, Bool.true_and, Bool.and_false, Bool.false_and, beq_self_eq_true, bne, Bool.not_true, Bool.not_false, sx, nx, dx, ↓reduceIte, reduceCtorEq, Nat.reduceEqDiff, ne_eq, not_false_eq_true, *]; done))
  | ((first | refine AZ.fl rfl fun Kx hKx => ?_ | (refine AZ.flg rfl rfl ?_ fun Kx hKx => ?_; focus (simp (disch := (first | omega | (simp only [nx]; first | done | omega))) only [Value.bool.injEq, Bool.and_true, Bool.true_and, Bool.and_false, Bool.false_and, beq_self_eq_true, bne, Bool.not_true, Bool.not_false, sx, nx, dx, ↓reduceIte, reduceCtorEq, Nat.reduceEqDiff, ne_eq, not_false_eq_true, *]; done)) | refine AZ.ef rfl fun Kx hKx => ?_ | (refine AZ.efg rfl rfl ?_ fun Kx hKx => ?_; focus (simp (disch := (first | omega | (simp only [nx]; first | done | omega))) only [Value.bool.injEq, Bool.and_true, Bool.true_and, Bool.and_false, Bool.false_and, beq_self_eq_true, bne, Bool.not_true, Bool.not_false, sx, nx, dx, ↓reduceIte, reduceCtorEq, Nat.reduceEqDiff, ne_eq, not_false_eq_true, *]; done))); simp (disch := (first | omega | (simp only [nx]; first | done | omega))) only [heldIn_iff, List.zipIdx_cons, List.zipIdx_nil, List.map_cons, List.map_nil, heldG_iff, Nat.reduceBEq, Bool.or_false, Bool.or_true, Bool.false_or, Bool.true_or, xxq, zxq, tfW7, litK, copyK, clearK, makeSliceK, buildSliceK, buildK, lookupK, mapPutK, mapOf, convK, allocK, indexK, partK, xxa, xxb, xxc, bne, Int.reduceEq, Int.reduceBEq, Int.reduceNe, Int.reduceBNe, Int.reduceLE, Int.reduceGT, Int.reduceGE, Int.reduceNeg, ↓reduceIte, reduceCtorEq, Nat.reduceEqDiff, Nat.reduceAdd, Nat.reduceMul, Nat.reduceSub, Nat.reduceLT, Int.reduceAdd, Int.reduceSub, Int.reduceMul, Int.reduceLT, Int.reduceToNat, ne_eq, *]; (repeat first | ((with_reducible refine And.intro (fun hc => ?_) (fun hc => absurd hc (by omega))); clear hc) | ((with_reducible refine And.intro (fun hc => absurd hc (by omega)) (fun hc => ?_)); clear hc) | ((with_reducible refine And.intro ?_ ?_); focus ((first | omega | assumption | exact cok _ rfl | exact one_ints _ | exact one_map fun _ => rfl | ((repeat refine one_cons (by first | rfl | assumption) ?_); exact one_nil) | rfl | decide | (intro u hu; cases hu)); done)) | (with_reducible refine (fun hc => ?_ : _ → _); clear hc)); (first | refine hKx.out _ _ ?_ | refine zcK.hkx hKx ?_ | refine ACalls.hkx hKx ?_ | (refine hKx.out _ _ ?_ ?_; focus (simp (disch := (first | omega | (simp only [nx]; first | done | omega))) only [heldIn_iff, List.zipIdx_cons, List.zipIdx_nil, List.map_cons, List.map_nil, heldG_iff, Nat.reduceBEq, Bool.or_false, Bool.or_true, Bool.false_or, Bool.true_or, xxq, zxq, tfW7, litK, copyK, clearK, makeSliceK, buildSliceK, buildK, lookupK, mapPutK, mapOf, convK, allocK, indexK, partK, xxa, xxb, xxc, bne, Int.reduceEq, Int.reduceBEq, Int.reduceNe, Int.reduceBNe, Int.reduceLE, Int.reduceGT, Int.reduceGE, Int.reduceNeg, ↓reduceIte, reduceCtorEq, Nat.reduceEqDiff, Nat.reduceAdd, Nat.reduceMul, Nat.reduceSub, Nat.reduceLT, Int.reduceAdd, Int.reduceSub, Int.reduceMul, Int.reduceLT, Int.reduceToNat, ne_eq, *]; first | done | trivial)) | (refine appendK.hkx hKx ?_; try (refine appendK.ofZ ?_; simp (disch := (first | omega | (simp only [nx]; first | done | omega))) only [heldIn_iff, List.zipIdx_cons, List.zipIdx_nil, List.map_cons, List.map_nil, heldG_iff, Nat.reduceBEq, Bool.or_false, Bool.or_true, Bool.false_or, Bool.true_or, xxq, zxq, tfW7, litK, copyK, clearK, makeSliceK, buildSliceK, buildK, lookupK, mapPutK, mapOf, convK, allocK, indexK, partK, xxa, xxb, xxc, bne, Int.reduceEq, Int.reduceBEq, Int.reduceNe, Int.reduceBNe, Int.reduceLE, Int.reduceGT, Int.reduceGE, Int.reduceNeg, ↓reduceIte, reduceCtorEq, Nat.reduceEqDiff, Nat.reduceAdd, Nat.reduceMul, Nat.reduceSub, Nat.reduceLT, Int.reduceAdd, Int.reduceSub, Int.reduceMul, Int.reduceLT, Int.reduceToNat, ne_eq, *]; (repeat first | ((with_reducible refine And.intro (fun hc => ?_) (fun hc => absurd hc (by omega))); clear hc) | ((with_reducible refine And.intro (fun hc => absurd hc (by omega)) (fun hc => ?_)); clear hc) | ((with_reducible refine And.intro ?_ ?_); focus ((first | omega | assumption | exact cok _ rfl | exact one_ints _ | exact one_map fun _ => rfl | ((repeat refine one_cons (by first | rfl | assumption) ?_); exact one_nil) | rfl | decide | (intro u hu; cases hu)); done)) | (with_reducible refine (fun hc => ?_ : _ → _); clear hc))))))
  exact hb.out) : a := h ⟨hb⟩
theorem hgW7 {p b : Prop} (hb : b) (h : p := by simp (disch := (first | omega | (simp only [nx]; first | done | omega))) only [heldIn_iff, List.zipIdx_cons, List.zipIdx_nil, List.map_cons, List.map_nil, heldG_iff, Nat.reduceBEq, Bool.or_false, Bool.or_true, Bool.false_or, Bool.true_or, xxq, zxq, tfW7, litK, copyK, clearK, makeSliceK, buildSliceK, buildK, lookupK, mapPutK, mapOf, convK, allocK, indexK, partK, xxa, xxb, xxc, bne, Int.reduceEq, Int.reduceBEq, Int.reduceNe, Int.reduceBNe, Int.reduceLE, Int.reduceGT, Int.reduceGE, Int.reduceNeg, ↓reduceIte, reduceCtorEq, Nat.reduceEqDiff, Nat.reduceAdd, Nat.reduceMul, Nat.reduceSub, Nat.reduceLT, Int.reduceAdd, Int.reduceSub, Int.reduceMul, Int.reduceLT, Int.reduceToNat, ne_eq, *]; first | done | trivial) : p ∧ b := ⟨h, hb⟩
theorem exW7 {p : Prop} (h : p := by ((show Ext _ _); (repeat' first | assumption | exact Ext.refl _ | refine Ext.push ?_ _ | refine Ext.set ?_ _ (by first | omega | (simp only [nx, *]; omega)) | (refine Ext.ofeq (by assumption) ?_; focus (simp (disch := (first | omega | (simp only [nx]; first | done | omega))) only [xxq, zxq, xxa, xxb, xxc, bne, Int.reduceEq, Int.reduceBEq, Int.reduceNe, Int.reduceBNe, Int.reduceLE, Int.reduceGT, Int.reduceGE, Int.reduceNeg, ↓reduceIte, reduceCtorEq, Nat.reduceEqDiff, Nat.reduceAdd, Nat.reduceMul, Nat.reduceSub, Nat.reduceLT, Int.reduceAdd, Int.reduceSub, Int.reduceMul, Int.reduceLT, Int.reduceToNat, ne_eq, *]; first | done | rfl | omega)) | (refine Ext.setc (by repeat first | assumption | apply Ext.setB | apply Ext.push) ?_; focus (simp (disch := (first | omega | (simp only [nx]; first | done | omega))) only [xxq, zxq, xxa, xxb, xxc, bne, Int.reduceEq, Int.reduceBEq, Int.reduceNe, Int.reduceBNe, Int.reduceLE, Int.reduceGT, Int.reduceGE, Int.reduceNeg, ↓reduceIte, reduceCtorEq, Nat.reduceEqDiff, Nat.reduceAdd, Nat.reduceMul, Nat.reduceSub, Nat.reduceLT, Int.reduceAdd, Int.reduceSub, Int.reduceMul, Int.reduceLT, Int.reduceToNat, ne_eq, *]; first | done | rfl | omega)) | (refine Ext.setc (Ext.refl _) ?_; focus (simp (disch := (first | omega | (simp only [nx]; first | done | omega))) only [xxq, zxq, xxa, xxb, xxc, bne, Int.reduceEq, Int.reduceBEq, Int.reduceNe, Int.reduceBNe, Int.reduceLE, Int.reduceGT, Int.reduceGE, Int.reduceNeg, ↓reduceIte, reduceCtorEq, Nat.reduceEqDiff, Nat.reduceAdd, Nat.reduceMul, Nat.reduceSub, Nat.reduceLT, Int.reduceAdd, Int.reduceSub, Int.reduceMul, Int.reduceLT, Int.reduceToNat, ne_eq, *]; first | done | rfl | omega)) | (apply Ext.up; focus (assumption; done)) | (simp (disch := (first | omega | (simp only [nx]; first | done | omega))) only [xxq, zxq, xxa, xxb, xxc, bne, Int.reduceEq, Int.reduceBEq, Int.reduceNe, Int.reduceBNe, Int.reduceLE, Int.reduceGT, Int.reduceGE, Int.reduceNeg, ↓reduceIte, reduceCtorEq, Nat.reduceEqDiff, Nat.reduceAdd, Nat.reduceMul, Nat.reduceSub, Nat.reduceLT, Int.reduceAdd, Int.reduceSub, Int.reduceMul, Int.reduceLT, Int.reduceToNat, ne_eq, *]; first | done | rfl | omega)); done)) : p := h
theorem ivW7 {p : Prop} (h : p := by first | omega | exact exW7 | (simp (disch := (first | omega | (simp only [nx]; first | done | omega))) only [xxq, zxq, xxa, xxb, xxc, bne, Int.reduceEq, Int.reduceBEq, Int.reduceNe, Int.reduceBNe, Int.reduceLE, Int.reduceGT, Int.reduceGE, Int.reduceNeg, ↓reduceIte, reduceCtorEq, Nat.reduceEqDiff, Nat.reduceAdd, Nat.reduceMul, Nat.reduceSub, Nat.reduceLT, Int.reduceAdd, Int.reduceSub, Int.reduceMul, Int.reduceLT, Int.reduceToNat, ne_eq, *, intV_int]; first | done | omega | rfl | exact congrArg (Value.int .i64) (by omega)) | rfl) : p := h
theorem smW7 {a b : Prop} (hb : b) (h : Later b → a := by intro hb; simp (disch := (first | omega | (simp only [nx]; first | done | omega))) only [xxq, zxq, xxa, xxb, xxc, bne, Int.reduceEq, Int.reduceBEq, Int.reduceNe, Int.reduceBNe, Int.reduceLE, Int.reduceGT, Int.reduceGE, Int.reduceNeg, ↓reduceIte, reduceCtorEq, Nat.reduceEqDiff, Nat.reduceAdd, Nat.reduceMul, Nat.reduceSub, Nat.reduceLT, Int.reduceAdd, Int.reduceSub, Int.reduceMul, Int.reduceLT, Int.reduceToNat, ne_eq, *, intV_int]; exact hb.out) : a := h ⟨hb⟩
theorem gtW7 {A F : Fr} {t : Nat} {v : Value} (h : Ag [] A F) (e : F t = v := by simp (disch := (first | omega | (simp only [nx]; first | done | omega))) only [xxq, zxq, xxa, xxb, xxc, bne, Int.reduceEq, Int.reduceBEq, Int.reduceNe, Int.reduceBNe, Int.reduceLE, Int.reduceGT, Int.reduceGE, Int.reduceNeg, ↓reduceIte, reduceCtorEq, Nat.reduceEqDiff, Nat.reduceAdd, Nat.reduceMul, Nat.reduceSub, Nat.reduceLT, Int.reduceAdd, Int.reduceSub, Int.reduceMul, Int.reduceLT, Int.reduceToNat, ne_eq, *, intV_int]; exact rfl) : A t = v := (h.h t rfl).trans e
theorem gdW7 {D : List Nat} {A F : Fr} {t : Nat} {v : Value} (h : Ag D A F) (ht : D.contains t = false := by rfl) (e : F t = v := by simp (disch := (first | omega | (simp only [nx]; first | done | omega))) only [xxq, zxq, xxa, xxb, xxc, bne, Int.reduceEq, Int.reduceBEq, Int.reduceNe, Int.reduceBNe, Int.reduceLE, Int.reduceGT, Int.reduceGE, Int.reduceNeg, ↓reduceIte, reduceCtorEq, Nat.reduceEqDiff, Nat.reduceAdd, Nat.reduceMul, Nat.reduceSub, Nat.reduceLT, Int.reduceAdd, Int.reduceSub, Int.reduceMul, Int.reduceLT, Int.reduceToNat, ne_eq, *, intV_int]; exact rfl) : A t = v := (h.h t ht).trans e
theorem agW7 {D : List Nat} {A F : Fr} (h : Ag D A F := by
  repeat (with_reducible first | exact Ag.refl _ _ | refine Ag.nop ?_ | refine Ag.dead rfl ?_ | (refine Ag.live ?_ ?_; focus exact ivW7) | refine Ag.dr rfl ?_ | (refine Ag.lr ?_ ?_; focus exact ivW7) | refine Ag.up (by assumption) rfl ?_)) : Ag D A F := h
theorem sdW7 {p : Prop} (h : p := by first | omega | assumption | (simp (disch := (first | omega | (simp only [nx]; first | done | omega))) only [xxq, zxq, tfW7, litK, copyK, clearK, makeSliceK, buildSliceK, buildK, lookupK, mapPutK, mapOf, convK, allocK, indexK, partK, xxa, xxb, xxc, bne, Int.reduceEq, Int.reduceBEq, Int.reduceNe, Int.reduceBNe, Int.reduceLE, Int.reduceGT, Int.reduceGE, Int.reduceNeg, ↓reduceIte, reduceCtorEq, Nat.reduceEqDiff, Nat.reduceAdd, Nat.reduceMul, Nat.reduceSub, Nat.reduceLT, Int.reduceAdd, Int.reduceSub, Int.reduceMul, Int.reduceLT, Int.reduceToNat, ne_eq, *]; first | done | omega | rfl)) : p := h
set_option maxHeartbeats 4000000 in
theorem edgeVisit_c {H : Heap} {bx g n : Nat} {s : List Int} (hn : n ≤ 1000) (hs : s.length = n) (hg : H.get g = .cells (ints s) 1 false) (hb : H.get bx = Var bx g n) (hne : bx ≠ g) (a f : Nat) (t p : Int) (ha : 6 * a + 6 ≤ n) (ht0 : 0 ≤ t) (ht : 6 * t + 6 ≤ n) (hf : f < 4) (hp0 : 0 ≤ p) (hp : p < 24) :
    ACalls Try.prog 118 [I a, I f, .agg #[I t, I p], .agg (ints (pmL p)).toArray, .pointer (some ⟨bx, 0, none⟩)] H fun u H' => u = undef ∧ Ext (H.set g (.cells (ints (edgeStep s a f (t, p))) 1 false)) H' := by
  have hpl := (pmL_bd p hp0 hp).1
  refine ACalls.body Try.func118 rfl Try.ntmps118 (rs := []) rfl (by simp) rfl fun Q hQ A hA => ?_
  have a0 := hA 0 _ _ rfl
  have a1 := hA 1 _ _ rfl
  have a2 := hA 2 _ _ rfl
  have a3 := hA 3 _ _ rfl
  have a4 := hA 4 _ _ rfl
  clear hA
  repeat' first | refine rnW7 ?_ | with_reducible refine And.intro (fun hc => ?_) (fun hc => ?_) | fail
  refine AWp.cut (fun Ac hAc => ?_)
  have c0 := gtW7 (t := 0) hAc
  have c1 := gtW7 (t := 1) hAc
  have c4 := gtW7 (t := 4) hAc
  have c7 := gtW7 (t := 7) hAc
  have c8 := gtW7 (t := 8) hAc
  have c12 := gtW7 (t := 12) hAc
  clear a0 a1 a2 a3 a4
  refine AWp.loop (fun A' H' => ∃ (k : Nat), Ag [9, 10, 11, 13, 14, 15, 16, 17, 18, 19, 20, 21, 22, 23, 24, 25, 26, 27, 28, 29, 30, 31, 32, 33, 34, 35, 36, 37, 38, 39, 40, 41, 42, 43, 44, 45] A' (put Ac (some 12) (I k)) ∧ k ≤ 6 ∧ H' = H.set g (.cells (ints (edgeTo s a f (t, p) k)) 1 false)) (fun A' _ => 6 - (intV (A' 12)).toNat) ?_ ?_
  · exact ⟨0, agW7, by omega, by show H = H.set g (.cells (ints s) 1 false); rw [set_self hg]⟩
  · rintro A1 H1 ⟨k, hA, hk, rfl⟩
    have d0 := gdW7 (t := 0) hA
    have d1 := gdW7 (t := 1) hA
    have d4 := gdW7 (t := 4) hA
    have d7 := gdW7 (t := 7) hA
    have d8 := gdW7 (t := 8) hA
    have d12 := gdW7 (t := 12) hA
    by_cases hlt : k < 6
    · have hlen : (edgeTo s a f (t, p) k).length = n := by rw [edgeTo_len]; exact hs
      have hends := ends_z k hlt
      obtain ⟨u, v, hu, hv, hu4, hv4, huv⟩ := ends_bd k hlt
      have hst : edgeTo s a f (t, p) (k + 1) = if (u : Int) ≠ f ∧ (v : Int) ≠ f then unionL (edgeTo s a f (t, p) k) (6 * a + k) (6 * t + edgeN (pm p u) (pm p v)).toNat else edgeTo s a f (t, p) k := by rw [← hu, ← hv]; rfl
      rw [hu, hv] at hends
      generalize edgeTo s a f (t, p) k = old at hst hlen
      by_cases hfu : (u : Int) = f
      · have hst2 := hst.trans (if_neg (fun h => h.1 hfu))
        have hb0 : ((u : Int) == (f : Int)) = true := by rw [beq_iff_eq]; exact hfu
        clear hst hfu hu hv
        repeat' first | refine rnW7 ?_ | (first | refine ZCalls.to (hends) ?_ | refine ZCalls.tf (hends) ?_) | with_reducible refine And.intro (fun hc => ?_) (fun hc => ?_) | fail
        exact ⟨⟨k + 1, agW7, by omega, by rw [hst2]⟩, by exact ivW7⟩
      · have hb0 : ((u : Int) == (f : Int)) = false := by rw [beq_eq_false_iff_ne]; exact hfu
        by_cases hfv : (v : Int) = f
        · have hst2 := hst.trans (if_neg (fun h => h.2 hfv))
          have hb2 : ((v : Int) == (f : Int)) = true := by rw [beq_iff_eq]; exact hfv
          clear hst hfu hfv hu hv
          repeat' first | refine rnW7 ?_ | (first | refine ZCalls.to (hends) ?_ | refine ZCalls.tf (hends) ?_) | with_reducible refine And.intro (fun hc => ?_) (fun hc => ?_) | fail
          exact ⟨⟨k + 1, agW7, by omega, by rw [hst2]⟩, by exact ivW7⟩
        · have hst2 := hst.trans (if_pos ⟨hfu, hfv⟩)
          have hb2 : ((v : Int) == (f : Int)) = false := by rw [beq_eq_false_iff_ne]; exact hfv
          clear hst hfu hfv hu hv
          have hq := pm_inj p u v hp0 hp hu4 hv4 huv
          have hqu := pm_bd p u hp0 hp (by omega) (by omega)
          have hqv := pm_bd p v hp0 hp (by omega) (by omega)
          have hqqu : (pmL p).getD u 0 = pm p u := by unfold pm; rw [Int.toNat_natCast]
          have hqqv : (pmL p).getD v 0 = pm p v := by unfold pm; rw [Int.toNat_natCast]
          rw [hqqu, hqqv] at hq
          obtain ⟨x, hx⟩ : ∃ x : Nat, pm p u = (x : Int) := ⟨(pm p u).toNat, by omega⟩
          obtain ⟨y, hy⟩ : ∃ y : Nat, pm p v = (y : Int) := ⟨(pm p v).toNat, by omega⟩
          rw [hx] at hq hqu hst2 hqqu
          rw [hy] at hq hqv hst2 hqqv
          obtain ⟨m, hm, hm6⟩ := edgeN_bd x y (by omega) (by omega) (by omega)
          have hedge := edge_z _ _ hqu.1 (by omega) hqv.1 (by omega) hq
          rw [hm] at hst2 hedge
          have hst3 : edgeTo s a f (t, p) (k + 1) = unionL old (6 * (a : Int) + k).toNat (6 * t + (m : Int)).toNat := by rw [hst2]; congr 1
          clear hst2 hx hy
          repeat' first | refine rnW7 ?_ | (first | refine ZCalls.to (hends) ?_ | refine ZCalls.tf (hends) ?_) | with_reducible refine And.intro (fun hc => ?_) (fun hc => ?_) | fail
          refine AWp.zreg [(0, none), (1, none), (2, none), (3, none), (4, none), (5, none), (6, none), (7, none), (8, none), (9, none), (10, none), (11, none), (12, none), (13, none), (14, none), (15, none), (16, some [0, 6, 10, 13])] mixed (by kernel_rfl) ?_
          repeat' first | refine rzW7 ?_ | (first | refine ZCalls.to (hedge) ?_ | refine ZCalls.tf (hedge) ?_) | (refine (union_c get_set_eq hlen (by omega) (by omega) (by omega) (by omega) (by omega)).mono ?_; rintro u H4 ⟨rfl, rfl⟩; rw [set_set]; refine hgW7 ?_) | fail
          repeat' first | refine rnW7 ?_ | with_reducible refine And.intro (fun hc => ?_) (fun hc => ?_) | fail
          exact ⟨⟨k + 1, agW7, by omega, by rw [hst3]⟩, by exact ivW7⟩
    · obtain rfl : k = 6 := by omega
      repeat' first | refine rnW7 ?_ | with_reducible refine And.intro (fun hc => ?_) (fun hc => ?_) | fail
      exact hQ.out _ _ ⟨rfl, Ext.refl _⟩
theorem numbered_nil : ZCalls Try.prog 122 [FZ 1 0 []] (FZ 1 0 []) := numbered_z (l := []) (by simp)
set_option maxHeartbeats 1000000 in
theorem glued_nil (F : FuncId) (x : Value) : ZCalls Try.prog 117 [zT [], .func (.func F) #[] #[x]] undef := by
  refine ZCalls.body Try.func117 rfl Try.ntmps117 (rs := []) rfl (by simp) rfl fun H Q hQ A hA => ?_
  have a0 := hA 0 _ _ rfl
  have a1 := hA 1 _ _ rfl
  clear hA
  repeat' first | refine rnW7 ?_ | with_reducible refine And.intro (fun hc => ?_) (fun hc => ?_) | fail
  refine AWp.unroll ?_
  repeat' first | refine rnW7 ?_ | (refine AWp.unroll ?_) | (refine AIn.step ?_) | with_reducible refine And.intro (fun hc => ?_) (fun hc => ?_) | fail
  exact hQ.out _ _ (.eq (Cl.tuple (l := []) Cl.nil) (by rfl)) (by exact exW7)
set_option maxHeartbeats 1000000 in
theorem edgeClasses_z {T : List (List (Int × Int))} (hF : Fine T) : ZCalls Try.prog 69 [zT T] (zI (edgeL T)) := by
  have h8 := hF.1
  have hcl := cntL_len (6 * T.length)
  have hl := glT_len (step := edgeStep) (fun _ _ _ _ => edgeTo_len _ _ _ _ _) (cntL (6 * T.length)) T T.length
  have hel := edgeL_len T
  have hcount := counting_o (6 * T.length) (by omega)
  rw [show ((6 * T.length : Nat) : Int) = 6 * (T.length : Int) by omega] at hcount
  refine ZCalls.body Try.func69 rfl Try.ntmps69 (rs := [.tmp 2]) rfl (by simp) rfl fun H Q hQ A hA => ?_
  have a0 := hA 0 _ _ rfl
  clear hA
  repeat' first | refine rnW7 ?_ | (first | refine ZCalls.to (size_z _ _ _) ?_ | refine ZCalls.tf (size_z _ _ _) ?_) | (refine (hcount _).mono ?_; rintro u H1 (⟨rfl, h0, rfl⟩ | ⟨rfl, rfl⟩)) | with_reducible refine And.intro (fun hc => ?_) (fun hc => ?_) | fail
  · have h00 : T.length = 0 := by omega
    obtain rfl : T = [] := List.eq_nil_of_length_eq_zero h00
    refine ACalls.mono (glued_nil _ _ _) ?_
    rintro u H2 ⟨rfl, rfl⟩
    have e0 : zI (edgeL []) = FZ 1 0 [] := rfl
    rw [e0] at hQ
    repeat' first | refine rnW7 ?_ | (first | refine ZCalls.to (numbered_nil) ?_ | refine ZCalls.tf (numbered_nil) ?_) | with_reducible refine And.intro (fun hc => ?_) (fun hc => ?_) | fail
    exact hQ.out _ _ (.cl (Cl.fz Cl.nil)) (by exact exW7)
  · refine ACalls.mono (glued_c hF 118 H.size (H.size + 1) (6 * T.length) edgeStep (cntL (6 * T.length)) (fun _ _ _ _ => edgeTo_len _ _ _ _ _)
      (fun H' s a f t p hs hg hb hb1 hg1 ha hf ht0 ht hp0 hp => edgeVisit_c (by omega) hs hg hb (by omega) a f t p (by omega) ht0 (by omega) hf hp0 hp) hcl (by rw [get_push_lt (by rw [Heap.size_push]; omega), get_push_eq rfl]) (by rw [get_push_eq (by rw [Heap.size_push])]) (by omega) (by rw [Heap.size_push, Heap.size_push]; omega) (by rw [Heap.size_push, Heap.size_push]; omega)) ?_
    rintro u H2 ⟨rfl, hx⟩
    rw [hcl] at hl
    have hd : edgeL T = numL (glT edgeStep (cntL (6 * T.length)) T T.length) := rfl
    generalize glT edgeStep (cntL (6 * T.length)) T T.length = s at hx hl hd
    have k1 : H2.get H.size = .cells (ints s) 1 false := by rw [hx.get _ (by rw [Heap.size_set, Heap.size_push, Heap.size_push]; omega), get_set_eq]
    have k2 : H2.get (H.size + 1) = Var (H.size + 1) H.size (6 * T.length) := by rw [hx.get _ (by rw [Heap.size_set, Heap.size_push, Heap.size_push]; omega), get_set_ne (by omega), get_push_eq (by rw [Heap.size_push])]
    refine AOps.nil ?_
    refine athen_n ?_
    refine AWp.fixvar (t := 3) (bx := H.size + 1) (g := H.size) (by exact ivW7) k2 k1 (by rw [ints_len]; omega) ?_
    have hn := numbered_z (l := s) (by omega)
    have e2 : FZ 1 s.length (ints (numL s)) = zI (edgeL T) := by rw [hd]; unfold Zed.zI; rw [numL_len]
    rw [e2] at hn
    unfold Zed.zI at hn
    rw [hl, hel] at hn
    repeat' first | refine rnW7 ?_ | (first | refine ZCalls.to (hn) ?_ | refine ZCalls.tf (hn) ?_) | with_reducible refine And.intro (fun hc => ?_) (fun hc => ?_) | fail
    exact hQ.out _ _ (.eq (Cl.zI (edgeL T)) (by unfold Zed.zI; rw [hel, hd])) (by exact exW7)
end Go.Proofs.Ytibkopejnhihkaa.Zed
