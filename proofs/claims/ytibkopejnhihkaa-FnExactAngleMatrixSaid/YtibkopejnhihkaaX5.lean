/- A part of the walk: what functions of the program do, over an abstract heap. -/
import Derived.Test.YtibkopejnhihkaaX4
import Derived.Test.YtibkopejnhihkaaW24
namespace Go.Proofs.Ytibkopejnhihkaa.Zed
open Go TP
set_option linter.unusedVariables false
set_option linter.unusedSimpArgs false
set_option maxRecDepth 20000
theorem tfX5 : (Try.prog.underlying 36 = some (.slice 2)) ∧ (el Try.prog 36 = some (none, 1)) ∧ (tk Try.prog 2 = some none) ∧ (tk Try.prog 24 = some (some 1)) ∧ (tk Try.prog 29 = some (some 1)) ∧ (tk Try.prog 36 = some none) ∧ (tk Try.prog 60 = some (some 3)) ∧ (cz Try.prog 2 = some 1) ∧ (bz Try.prog 2 = some 8) ∧ (zr Try.prog 2 = some (.int .i64 0)) ∧ (zr Try.prog 29 = some (.agg #[.slice none 0 0])) ∧ (zr Try.prog 60 = some (.agg #[.int .i64 0, .int .i64 0, .slice none 0 0])) ∧ (fo Try.prog 60 0 = some (0, none)) ∧ (fo Try.prog 60 1 = some (1, none)) ∧ (fo Try.prog 60 2 = some (2, none)) := by
  refine ⟨?_, ?_, ?_, ?_, ?_, ?_, ?_, ?_, ?_, ?_, ?_, ?_, ?_, ?_, ?_⟩ <;> kernel_rfl
theorem rnX5 {a b : Prop} (hb : b) (h : Later b → a := by
  intro hb
  first
  | ((with_reducible first | refine AOps.nil ?_ | refine athen_n ?_ | refine athen_r ?_ | refine athen_e ?_ | refine ablock_n ?_ | refine ablock_r ?_ | refine ablock_s ?_ | refine AWp.seq' ?_ | refine AWp.block ?_ | refine AWp.skip ?_ | refine AWp.exit ?_ | refine AWp.ret ?_ | refine AWp.region ?_ | (refine ablock_e ?_ ?_; focus rfl)); repeat (with_reducible first | refine AOps.nil ?_ | refine athen_n ?_ | refine athen_r ?_ | refine athen_e ?_ | refine ablock_n ?_ | refine ablock_r ?_ | refine ablock_s ?_ | refine AWp.seq' ?_ | refine AWp.block ?_ | refine AWp.skip ?_ | refine AWp.exit ?_ | refine AWp.ret ?_ | refine AWp.region ?_ | (refine ablock_e ?_ ?_; focus rfl)))
  | (refine AOps.guardu rfl rfl rfl ?_ ?_; focus (simp (disch := (first | omega | (simp only [nx]; first | done | omega))) only [Value.bool.injEq, Bool.and_true, Bool.true_and, Bool.and_false, Bool.false_and, beq_self_eq_true, bne, Bool.not_true, Bool.not_false, sx, nx, dx, ↓reduceIte, reduceCtorEq, Nat.reduceEqDiff, ne_eq, not_false_eq_true, *]; done))
  | ((first | ((with_reducible refine AOps.lit ?_ ?_ ?_ fun K hK => ?_); exact rfl; exact rfl; exact rfl) | ((with_reducible refine AOps.boxz ?_ ?_ fun K hK => ?_); exact rfl; exact rfl) | ((with_reducible refine AOps.cons2 ?_ ?_ fun K hK => ?_); exact rfl; exact rfl) | ((with_reducible refine AWp.cond ?_ fun X Y hX hY => ?_); exact rfl) | refine AOps.guard rfl rfl rfl fun X Y hX hY => ?_ | refine aret_r ?_ | refine aret_n ?_); simp (disch := (first | omega | (simp only [nx]; first | done | omega))) only [acond_bool, aresK, retv, xxq, zxq, tfX5, litK, copyK, clearK, makeSliceK, buildSliceK, buildK, lookupK, mapPutK, mapOf, convK, allocK, indexK, partK, xxa, xxb, xxc, bne, Int.reduceEq, Int.reduceBEq, Int.reduceNe, Int.reduceBNe, Int.reduceLE, Int.reduceGT, Int.reduceGE, Int.reduceNeg, ↓reduceIte, reduceCtorEq, Nat.reduceEqDiff, Nat.reduceAdd, Nat.reduceMul, Nat.reduceSub, Nat.reduceLT, Int.reduceAdd, Int.reduceSub, Int.reduceMul, Int.reduceLT, Int.reduceToNat, ne_eq, *]; (repeat first | ((with_reducible refine And.intro (fun hc => ?_) (fun hc => absurd hc (by omega))); clear hc) | ((with_reducible refine And.intro (fun hc => absurd hc (by omega)) (fun hc => ?_)); clear hc) | ((with_reducible refine And.intro ?_ ?_); focus ((first | omega | assumption | exact cok _ rfl | exact one_ints _ | exact one_map fun _ => rfl | ((repeat refine one_cons (by first | rfl | assumption) ?_); exact one_nil) | rfl | decide | (intro u hu; cases hu)); done)) | (with_reducible refine (fun hc => ?_ : _ → _); clear hc)); (first | refine hK.out _ _ ?_ | refine ACalls.hk hK ?_ | (refine appendK.hk hK ?_; try (refine appendK.ofZ ?_; simp (disch := (first | omega | (simp only [nx]; first | done | omega))) only [xxq, zxq, tfX5, litK, copyK, clearK, makeSliceK, buildSliceK, buildK, lookupK, mapPutK, mapOf, convK, allocK, indexK, partK, xxa, xxb, xxc, bne, Int.reduceEq, Int.reduceBEq, Int.reduceNe, Int.reduceBNe, Int.reduceLE, Int.reduceGT, Int.reduceGE, Int.reduceNeg, ↓reduceIte, reduceCtorEq, Nat.reduceEqDiff, Nat.reduceAdd, Nat.reduceMul, Nat.reduceSub, Nat.reduceLT, Int.reduceAdd, Int.reduceSub, Int.reduceMul, Int.reduceLT, Int.reduceToNat, ne_eq, *]; (repeat first | ((with_reducible refine And.intro (fun hc => ?_) (fun hc => absurd hc (by omega))); clear hc) | ((with_reducible refine And.intro (fun hc => absurd hc (by omega)) (fun hc => ?_)); clear hc) | ((with_reducible refine And.intro ?_ ?_); focus ((first | omega | assumption | exact cok _ rfl | exact one_ints _ | exact one_map fun _ => rfl | ((repeat refine one_cons (by first | rfl | assumption) ?_); exact one_nil) | rfl | decide | (intro u hu; cases hu)); done)) | (with_reducible refine (fun hc => ?_ : _ → _); clear hc)))) | refine (fun (q : _ ∧ _) => And.intro (hK.out _ _ q.1) (hK.out _ _ q.2)) ?_ | refine hX.out ?_ | refine hY.out ?_ | refine (fun (q : (_ → _) ∧ (_ → _)) => And.intro (fun hc => hX.out (q.1 hc)) (fun hc => hY.out (q.2 hc))) ?_ | refine (fun (q : (_ → _) ∧ (_ → _)) => And.intro (fun hc => hY.out (q.1 hc)) (fun hc => hX.out (q.2 hc))) ?_ | skip))
  exact hb.out) : a := h ⟨hb⟩
theorem rzX5 {a b : Prop} (hb : b) (h : Later b → a := by
  intro hb
  first
  | with_reducible refine AZ.nil ?_
  | (refine AZ.pass rfl rfl (.inl ?_) ?_; focus (simp (disch := (first | omega | (simp only [nx]; first | done | omega))) only [Value.bool.injEq, Bool.and_true, Bool.true_and, Bool.and_false, Bool.false_and, beq_self_eq_true, bne, Bool.not_true, Bool.not_false, sx, nx, dx, ↓reduceIte, reduceCtorEq, Nat.reduceEqDiff, ne_eq, not_false_eq_true, *]; done))
  | (refine AZ.pass rfl rfl (.inr ?_) ?_; focus (simp (disch := (first | omega | (simp only [nx]; first | done | omega))) only [Value.bool.injEq, Bool.and_true, Bool.true_and, Bool.and_false, Bool.false_and, beq_self_eq_true, bne, Bool.not_true, Bool.not_false, sx, nx, dx, ↓reduceIte, reduceCtorEq, Nat.reduceEqDiff, ne_eq, not_false_eq_true, *]; done))
  | ((first | refine AZ.fl rfl fun Kx hKx => ?_ | (refine AZ.flg rfl rfl ?_ fun Kx hKx => ?_; focus (simp (disch := (first | omega | (simp only [nx]; first | done | omega))) only [Value.bool.injEq, Bool.and_true, Bool.true_and, Bool.and_false, Bool.false_and, beq_self_eq_true, bne, Bool.not_true, Bool.not_false, sx, nx, dx, ↓reduceIte, reduceCtorEq, Nat.reduceEqDiff, ne_eq, not_false_eq_true, *]; done)) | refine AZ.ef rfl fun Kx hKx => ?_ | (refine AZ.efg rfl rfl ?_ fun Kx hKx => ?_; focus (simp (disch := (first | omega | (simp only [nx]; first | done | omega))) only [Value.bool.injEq, Bool.and_true, Bool.true_and, Bool.and_false, Bool.false_and, beq_self_eq_true, bne, Bool.not_true, Bool.not_false, sx, nx, dx, ↓reduceIte, reduceCtorEq, Nat.reduceEqDiff, ne_eq, not_false_eq_true, *]; done))); simp (disch := (first | omega | (simp only [nx]; first | done | omega))) only [heldIn_iff, List.zipIdx_cons, List.zipIdx_nil, List.map_cons, List.map_nil, heldG_iff, Nat.reduceBEq, Bool.or_false, Bool.or_true, Bool.false_or, Bool.true_or, xxq, zxq, tfX5, litK, copyK, clearK, makeSliceK, buildSliceK, buildK, lookupK, mapPutK, mapOf, convK, allocK, indexK, partK, xxa, xxb, xxc, bne, Int.reduceEq, Int.reduceBEq, Int.reduceNe, Int.reduceBNe, Int.reduceLE, Int.reduceGT, Int.reduceGE, Int.reduceNeg, ↓reduceIte, reduceCtorEq, Nat.reduceEqDiff, Nat.reduceAdd, Nat.reduceMul, Nat.reduceSub, Nat.reduceLT, Int.reduceAdd, Int.reduceSub, Int.reduceMul, Int.reduceLT, Int.reduceToNat, ne_eq, *]; (repeat first | ((with_reducible refine And.intro (fun hc => ?_) (fun hc => absurd hc (by omega))); clear hc) | ((with_reducible refine And.intro (fun hc => absurd hc (by omega)) (fun hc => ?_)); clear hc) | ((with_reducible refine And.intro ?_ ?_); focus ((first | omega | assumption | exact cok _ rfl | exact one_ints _ | exact one_map fun _ => rfl | ((repeat refine one_cons (by first | rfl | assumption) ?_); exact one_nil) | rfl | decide | (intro u hu; cases hu)); done)) | (with_reducible refine (fun hc => ?_ : _ → _); clear hc)); (first | refine hKx.out _ _ ?_ | refine zcK.hkx hKx ?_ | refine ACalls.hkx hKx ?_ | (refine hKx.out _ _ ?_ ?_; focus (simp (disch := (first | omega | (simp only [nx]; first | done | omega))) only [heldIn_iff, List.zipIdx_cons, List.zipIdx_nil, List.map_cons, List.map_nil, heldG_iff, Nat.reduceBEq, Bool.or_false, Bool.or_true, Bool.false_or, Bool.true_or, xxq, zxq, tfX5, litK, copyK, clearK, makeSliceK, buildSliceK, buildK, lookupK, mapPutK, mapOf, convK, allocK, indexK, partK, xxa, xxb, xxc, bne, Int.reduceEq, Int.reduceBEq, Int.reduceNe, Int.reduceBNe, Int.reduceLE, Int.reduceGT, Int.reduceGE, Int.reduceNeg, ↓reduceIte, reduceCtorEq, Nat.reduceEqDiff, Nat.reduceAdd, Nat.reduceMul, Nat.reduceSub, Nat.reduceLT, Int.reduceAdd, Int.reduceSub, Int.reduceMul, Int.reduceLT, Int.reduceToNat, ne_eq, *]; first | done | trivial)) | (refine appendK.hkx hKx ?_; try (refine appendK.ofZ ?_; simp (disch := (first | omega | (simp only [nx]; first | done | omega))) only [heldIn_iff, List.zipIdx_cons, List.zipIdx_nil, List.map_cons, List.map_nil, heldG_iff, Nat.reduceBEq, Bool.or_false, Bool.or_true, Bool.false_or, Bool.true_or, xxq, zxq, tfX5, litK, copyK, clearK, makeSliceK, buildSliceK, buildK, lookupK, mapPutK, mapOf, convK, allocK, indexK, partK, xxa, xxb, xxc, bne, Int.reduceEq, Int.reduceBEq, Int.reduceNe, Int.reduceBNe, Int.reduceLE, Int.reduceGT, Int.reduceGE, Int.reduceNeg, ↓reduceIte, reduceCtorEq, Nat.reduceEqDiff, Nat.reduceAdd, Nat.reduceMul, Nat.reduceSub, Nat.reduceLT, Int.reduceAdd, Int.reduceSub, Int.reduceMul, Int.reduceLT, Int.reduceToNat, ne_eq, *]; (repeat first | ((with_reducible refine And.intro (fun hc => ?_) (fun hc => absurd hc (by omega))); clear hc) | ((with_reducible refine And.intro (fun hc => absurd hc (by omega)) (fun hc => ?_)); clear hc) | ((with_reducible refine And.intro ?_ ?_); focus ((first | omega | assumption | exact cok _ rfl | exact one_ints _ | exact one_map fun _ => rfl | ((repeat refine one_cons (by first | rfl | assumption) ?_); exact one_nil) | rfl | decide | (intro u hu; cases hu)); done)) | (with_reducible refine (fun hc => ?_ : _ → _); clear hc))))))
  exact hb.out) : a := h ⟨hb⟩
theorem hgX5 {p b : Prop} (hb : b) (h : p := by simp (disch := (first | omega | (simp only [nx]; first | done | omega))) only [heldIn_iff, List.zipIdx_cons, List.zipIdx_nil, List.map_cons, List.map_nil, heldG_iff, Nat.reduceBEq, Bool.or_false, Bool.or_true, Bool.false_or, Bool.true_or, xxq, zxq, tfX5, litK, copyK, clearK, makeSliceK, buildSliceK, buildK, lookupK, mapPutK, mapOf, convK, allocK, indexK, partK, xxa, xxb, xxc, bne, Int.reduceEq, Int.reduceBEq, Int.reduceNe, Int.reduceBNe, Int.reduceLE, Int.reduceGT, Int.reduceGE, Int.reduceNeg, ↓reduceIte, reduceCtorEq, Nat.reduceEqDiff, Nat.reduceAdd, Nat.reduceMul, Nat.reduceSub, Nat.reduceLT, Int.reduceAdd, Int.reduceSub, Int.reduceMul, Int.reduceLT, Int.reduceToNat, ne_eq, *]; first | done | trivial) : p ∧ b := ⟨h, hb⟩
theorem exX5 {p : Prop} (h : p := by ((show Ext _ _); (repeat' first | assumption | exact Ext.refl _ | refine Ext.push ?_ _ | refine Ext.set ?_ _ (by first | omega | (simp only [nx, *]; omega)) | (refine Ext.ofeq (by assumption) ?_; focus (simp (disch := (first | omega | (simp only [nx]; first | done | omega))) only [xxq, zxq, xxa, xxb, xxc, bne, Int.reduceEq, Int.reduceBEq, Int.reduceNe, Int.reduceBNe, Int.reduceLE, Int.reduceGT, Int.reduceGE, Int.reduceNeg, ↓reduceIte, reduceCtorEq, Nat.reduceEqDiff, Nat.reduceAdd, Nat.reduceMul, Nat.reduceSub, Nat.reduceLT, Int.reduceAdd, Int.reduceSub, Int.reduceMul, Int.reduceLT, Int.reduceToNat, ne_eq, *]; first | done | rfl | omega)) | (refine Ext.setc (by repeat first | assumption | apply Ext.setB | apply Ext.push) ?_; focus (simp (disch := (first | omega | (simp only [nx]; first | done | omega))) only [xxq, zxq, xxa, xxb, xxc, bne, Int.reduceEq, Int.reduceBEq, Int.reduceNe, Int.reduceBNe, Int.reduceLE, Int.reduceGT, Int.reduceGE, Int.reduceNeg, ↓reduceIte, reduceCtorEq, Nat.reduceEqDiff, Nat.reduceAdd, Nat.reduceMul, Nat.reduceSub, Nat.reduceLT, Int.reduceAdd, Int.reduceSub, Int.reduceMul, Int.reduceLT, Int.reduceToNat, ne_eq, *]; first | done | rfl | omega)) | (refine Ext.setc (Ext.refl _) ?_; focus (simp (disch := (first | omega | (simp only [nx]; first | done | omega))) only [xxq, zxq, xxa, xxb, xxc, bne, Int.reduceEq, Int.reduceBEq, Int.reduceNe, Int.reduceBNe, Int.reduceLE, Int.reduceGT, Int.reduceGE, Int.reduceNeg, ↓reduceIte, reduceCtorEq, Nat.reduceEqDiff, Nat.reduceAdd, Nat.reduceMul, Nat.reduceSub, Nat.reduceLT, Int.reduceAdd, Int.reduceSub, Int.reduceMul, Int.reduceLT, Int.reduceToNat, ne_eq, *]; first | done | rfl | omega)) | (apply Ext.up; focus (assumption; done)) | (simp (disch := (first | omega | (simp only [nx]; first | done | omega))) only [xxq, zxq, xxa, xxb, xxc, bne, Int.reduceEq, Int.reduceBEq, Int.reduceNe, Int.reduceBNe, Int.reduceLE, Int.reduceGT, Int.reduceGE, Int.reduceNeg, ↓reduceIte, reduceCtorEq, Nat.reduceEqDiff, Nat.reduceAdd, Nat.reduceMul, Nat.reduceSub, Nat.reduceLT, Int.reduceAdd, Int.reduceSub, Int.reduceMul, Int.reduceLT, Int.reduceToNat, ne_eq, *]; first | done | rfl | omega)); done)) : p := h
theorem ivX5 {p : Prop} (h : p := by first | omega | exact exX5 | (simp (disch := (first | omega | (simp only [nx]; first | done | omega))) only [xxq, zxq, xxa, xxb, xxc, bne, Int.reduceEq, Int.reduceBEq, Int.reduceNe, Int.reduceBNe, Int.reduceLE, Int.reduceGT, Int.reduceGE, Int.reduceNeg, ↓reduceIte, reduceCtorEq, Nat.reduceEqDiff, Nat.reduceAdd, Nat.reduceMul, Nat.reduceSub, Nat.reduceLT, Int.reduceAdd, Int.reduceSub, Int.reduceMul, Int.reduceLT, Int.reduceToNat, ne_eq, *, intV_int]; first | done | omega | rfl | exact congrArg (Value.int .i64) (by omega)) | rfl) : p := h
theorem smX5 {a b : Prop} (hb : b) (h : Later b → a := by intro hb; simp (disch := (first | omega | (simp only [nx]; first | done | omega))) only [xxq, zxq, xxa, xxb, xxc, bne, Int.reduceEq, Int.reduceBEq, Int.reduceNe, Int.reduceBNe, Int.reduceLE, Int.reduceGT, Int.reduceGE, Int.reduceNeg, ↓reduceIte, reduceCtorEq, Nat.reduceEqDiff, Nat.reduceAdd, Nat.reduceMul, Nat.reduceSub, Nat.reduceLT, Int.reduceAdd, Int.reduceSub, Int.reduceMul, Int.reduceLT, Int.reduceToNat, ne_eq, *, intV_int]; exact hb.out) : a := h ⟨hb⟩
theorem gtX5 {A F : Fr} {t : Nat} {v : Value} (h : Ag [] A F) (e : F t = v := by simp (disch := (first | omega | (simp only [nx]; first | done | omega))) only [xxq, zxq, xxa, xxb, xxc, bne, Int.reduceEq, Int.reduceBEq, Int.reduceNe, Int.reduceBNe, Int.reduceLE, Int.reduceGT, Int.reduceGE, Int.reduceNeg, ↓reduceIte, reduceCtorEq, Nat.reduceEqDiff, Nat.reduceAdd, Nat.reduceMul, Nat.reduceSub, Nat.reduceLT, Int.reduceAdd, Int.reduceSub, Int.reduceMul, Int.reduceLT, Int.reduceToNat, ne_eq, *, intV_int]; exact rfl) : A t = v := (h.h t rfl).trans e
theorem gdX5 {D : List Nat} {A F : Fr} {t : Nat} {v : Value} (h : Ag D A F) (ht : D.contains t = false := by rfl) (e : F t = v := by simp (disch := (first | omega | (simp only [nx]; first | done | omega))) only [xxq, zxq, xxa, xxb, xxc, bne, Int.reduceEq, Int.reduceBEq, Int.reduceNe, Int.reduceBNe, Int.reduceLE, Int.reduceGT, Int.reduceGE, Int.reduceNeg, ↓reduceIte, reduceCtorEq, Nat.reduceEqDiff, Nat.reduceAdd, Nat.reduceMul, Nat.reduceSub, Nat.reduceLT, Int.reduceAdd, Int.reduceSub, Int.reduceMul, Int.reduceLT, Int.reduceToNat, ne_eq, *, intV_int]; exact rfl) : A t = v := (h.h t ht).trans e
theorem agX5 {D : List Nat} {A F : Fr} (h : Ag D A F := by
  repeat (with_reducible first | exact Ag.refl _ _ | refine Ag.nop ?_ | refine Ag.dead rfl ?_ | (refine Ag.live ?_ ?_; focus exact ivX5) | refine Ag.dr rfl ?_ | (refine Ag.lr ?_ ?_; focus exact ivX5) | refine Ag.up (by assumption) rfl ?_)) : Ag D A F := h
theorem sdX5 {p : Prop} (h : p := by first | omega | assumption | (simp (disch := (first | omega | (simp only [nx]; first | done | omega))) only [xxq, zxq, tfX5, litK, copyK, clearK, makeSliceK, buildSliceK, buildK, lookupK, mapPutK, mapOf, convK, allocK, indexK, partK, xxa, xxb, xxc, bne, Int.reduceEq, Int.reduceBEq, Int.reduceNe, Int.reduceBNe, Int.reduceLE, Int.reduceGT, Int.reduceGE, Int.reduceNeg, ↓reduceIte, reduceCtorEq, Nat.reduceEqDiff, Nat.reduceAdd, Nat.reduceMul, Nat.reduceSub, Nat.reduceLT, Int.reduceAdd, Int.reduceSub, Int.reduceMul, Int.reduceLT, Int.reduceToNat, ne_eq, *]; first | done | omega | rfl)) : p := h
theorem markInt64S_b {H : Heap} {lo hi : Nat} {v : Value} {l : List Int} {k : Int} (hO : OwnB lo hi H [v] [zI l]) (hn : l.length ≤ 4000000000) (h0 : 0 ≤ k) (hk : k ≤ 4611686018427387904) :
    ACalls Try.prog 26 [v, I k] H fun u H' => u = I (k + l.length) ∧ ExtR lo hi H H' ∧ OwnB lo hi H' [v] [zI (mkI k l.length)] := by
  obtain ⟨ks, hL, hb⟩ := hO.in
  refine (markInt64S_m hL hn h0 hk).mono ?_
  rintro u H' ⟨rfl, q1, q2, ks', q3, q4⟩
  refine ⟨rfl, q1.toR hb, ks', q3, fun k hk => ?_⟩
  obtain ⟨k', r1, r2⟩ := q4.mem k hk
  rw [← r2]; exact (hb k' r1).2
theorem eqMatrix_z (R C : Int) (L : List Int) (hl : L.length ≤ 4000000000) : ZCalls Try.prog 50 [mxV R C L, mxV R C L] (B true) := by
  have h1 : (R == R) = true := beq_self_eq_true R
  have h2 : (C == C) = true := beq_self_eq_true C
  have he := eqInt64S_z L hl
  refine ZCalls.body Try.func50 rfl Try.ntmps50 (rs := [.tmp 4]) rfl (by simp) rfl fun H Q hQ A hA => ?_
  have a0 := hA 0 _ _ rfl
  have a1 := hA 1 _ _ rfl
  clear hA
  repeat' first | refine rnX5 ?_ | (first | refine ZCalls.to (he) ?_ | refine ZCalls.tf (he) ?_) | with_reducible refine And.intro (fun hc => ?_) (fun hc => ?_) | fail
  exact hQ.out _ _ (fv) (by exact exX5)
theorem markMatrix_m {H : Heap} {lo hi : Nat} {v : Value} {R C : Int} {l : List Int} {k : Int} (hO : OwnB lo hi H [v] [zI l]) (hn : l.length ≤ 4000000000) (h0 : 0 ≤ k) (hk : k ≤ 4611686018427387904) :
    ACalls Try.prog 51 [.agg #[I R, I C, v], I k] H fun u H' => u = I (k + l.length) ∧ ExtR lo hi H H' ∧ OwnB lo hi H' [v] [zI (mkI k l.length)] := by
  have hm := markInt64S_b hO hn h0 hk
  have hone := hO.one
  have hfr := hO.frz
  refine ACalls.body Try.func51 rfl Try.ntmps51 (rs := [.tmp 4]) rfl (by simp) rfl fun Q hQ A hA => ?_
  have a0 := hA 0 _ _ rfl
  have a1 := hA 1 _ _ rfl
  clear hA
  repeat' first | refine rnX5 ?_ | (refine hm.mono ?_; rintro u H1 ⟨rfl, hx, hO1⟩) | with_reducible refine And.intro (fun hc => ?_) (fun hc => ?_) | fail
  exact hQ.out _ _ ⟨rfl, hx, hO1⟩
theorem heldMatrix_z (R C : Int) (n : Nat) (k : Int) (hn : n ≤ 4000000000) (h0 : 0 ≤ k) (hk : k ≤ 4611686018427387904) : ZCalls Try.prog 52 [mxV R C (mkI k n), I k] (I (k + n)) := by
  have hh := heldInt64S_z n k hn h0 hk
  refine ZCalls.body Try.func52 rfl Try.ntmps52 (rs := [.tmp 4]) rfl (by simp) rfl fun H Q hQ A hA => ?_
  have a0 := hA 0 _ _ rfl
  have a1 := hA 1 _ _ rfl
  clear hA
  repeat' first | refine rnX5 ?_ | (first | refine ZCalls.to (hh) ?_ | refine ZCalls.tf (hh) ?_) | with_reducible refine And.intro (fun hc => ?_) (fun hc => ?_) | fail
  exact hQ.out _ _ (fv) (by exact exX5)
theorem tri_shape {lo hi : Nat} {H : Heap} {u : Value} {T : List (List (Int × Int))} (h : OwnB lo hi H [u] [zT T]) : ∃ v, u = .agg #[v] ∧ v.oneCell' = true := by
  obtain ⟨l, rfl, h1⟩ := OwnB.agg_inv (l' := [zL zP T]) h
  obtain ⟨v, l4, rfl, h4, h5⟩ := h1.cons_inv
  obtain rfl := h5.nil_inv
  exact ⟨v, rfl, h4.one⟩
theorem mt_shape {lo hi : Nat} {H : Heap} {u : Value} {R C c : Int} {L : List Int} (h : OwnB lo hi H [u] [mtV R C L c]) : ∃ v, u = .tuple #[.agg #[I R, I C, v], I c] ∧ OwnB lo hi H [v] [zI L] ∧ v.oneCell' = true := by
  obtain ⟨l, rfl, h1⟩ := OwnB.tup_inv (l' := [mxV R C L, I c]) h
  obtain ⟨u, l2, rfl, h2, h3⟩ := h1.cons_inv
  obtain ⟨l3, rfl, h4⟩ := OwnB.flat_inv (r := I c) rfl h3
  obtain rfl := h4.nil_inv
  obtain ⟨v, rfl, h5, h6⟩ := mx_shape h2
  exact ⟨v, rfl, h5, h6⟩
theorem amV_ok {T : List (List (Int × Int))} : ∃ R C L c, amV T = mtV R C L c ∧ L.length ≤ 1000000 := by
  unfold amV
  by_cases h : codeN T = 0
  · rw [if_pos h]
    refine ⟨_, _, _, _, rfl, ?_⟩
    have hT := codeN_ok h
    obtain ⟨e1, e2⟩ := mat_same hT
    rw [e2, flat_len (spR_rows T)]
    have := spR_len2 hT
    have h6 := codeN_six h
    have h1 : (spR T).length * (3 * T.length + 1) ≤ 45 * 19 := Nat.mul_le_mul (by omega) (by omega)
    omega
  · rw [if_neg h]
    exact ⟨_, _, _, _, rfl, by simp⟩
set_option maxHeartbeats 4000000 in
theorem lawAngleMatrix_z {T : List (List (Int × Int))} (hS : Short T 9223372036854775807) : ZCalls Try.prog 13 [zT T] (B true) := by
  obtain ⟨s, h1, h2, h3, h4⟩ := szTriangulation_z hS
  by_cases hs : s < 0
  · refine ZCalls.body Try.func13 rfl Try.ntmps13 (rs := [.tmp 2]) rfl (by simp) rfl fun H Q hQ A hA => ?_
    have a0 := hA 0 _ _ rfl
    clear hA
    repeat' first | refine rnX5 ?_ | (first | refine ZCalls.to (h4) ?_ | refine ZCalls.tf (h4) ?_) | with_reducible refine And.intro (fun hc => ?_) (fun hc => ?_) | fail
    exact hQ.out _ _ (fv) (by exact exX5)
  · have hS' := h1 (by omega)
    have hsp := specAngleMatrix_z (T := T) hS'.1
    have him := implAngleMatrix_o (T := T) hS'.1
    obtain ⟨R, C, L, c, hV, hL⟩ := amV_ok (T := T)
    rw [hV] at hsp him
    have him2 := him.toZ (Cl.cons (Cl.zT T) Cl.nil)
    have hto1 := toTriangulation_z hS'
    have hto3 := toTriangulation_z hS'
    have hton := fun H => (toTriangulation_o hS').lend (H := H) (.cl (Cl.zT T) .nil)
    have heq := eqMatrix_z R C L (by omega)
    have heq2 := heq
    have heq3 := heq
    have heT := eqTriangulation_z hS'
    have hRR : (R == R) = true := beq_self_eq_true R
    have hcc : (c == c) = true := beq_self_eq_true c
    clear h1 hV
    refine ZCalls.body Try.func13 rfl Try.ntmps13 (rs := [.tmp 2]) rfl (by simp) rfl fun H Q hQ A hA => ?_
    have a0 := hA 0 _ _ rfl
    clear hA
    have hheld := heldMatrix_z R C L.length 1 (by omega) (by omega) (by omega)
    have hmN : ¬ (1 + (markN T T.length : Int) < 0) := by omega
    have hln : (0 : Int) ≤ L.length ∧ (L.length : Int) ≤ 1000000 := by omega
    repeat' first | refine rnX5 ?_ | (first | refine ZCalls.to (h4) ?_ | refine ZCalls.tf (h4) ?_) | (refine ZCalls.to hto1 ?_; clear hto1) | (first | refine ZCalls.to (hsp) ?_ | refine ZCalls.tf (hsp) ?_) | (refine (hton _).mono ?_; rintro x0 H0 ⟨hx0, he0⟩; clear hton; obtain ⟨x, rfl, hxo⟩ := tri_shape hx0; have he0g := he0.get; have he0s := he0.size; (try simp only [nx] at he0s)) | (refine (him.lend (.ownB (hx0.ext (Nat.le_refl _) (by exact exX5)) .nil)).mono ?_; rintro u H1 ⟨hg0, he1⟩; clear him; obtain ⟨g, rfl, hg, hgo⟩ := mt_shape hg0; clear hg0; have he1g := he1.get; have he1s := he1.size; (try simp only [nx] at he1s)) | (refine (heq.lend rfl (.ownB (mx_mk (hg.ext (Nat.le_refl _) (by exact exX5))) (.cl (Cl.mx R C L) .nil))).mono ?_; rintro u H2 ⟨rfl, he2⟩; clear heq; have he2g := he2.get; have he2s := he2.size; (try simp only [nx] at he2s)) | with_reducible refine And.intro (fun hc => ?_) (fun hc => ?_) | fail
    refine AWp.zreg [(0, none), (1, none), (2, none), (3, some [0, 1]), (4, none)] mixed (by kernel_rfl) ?_
    repeat' first | refine rzX5 ?_ | (first | refine ZCalls.to (hto3) ?_ | refine ZCalls.tf (hto3) ?_) | (refine (heT.lend rfl (.ownB (hx0.ext (Nat.le_refl _) (by exact exX5)) (.cl (Cl.zT T) .nil))).mono ?_; rintro u H3 ⟨rfl, he3⟩; have he3g := he3.get; have he3s := he3.size; (try simp only [nx] at he3s); refine hgX5 ?_) | fail
    repeat' first | refine rnX5 ?_ | (first | refine ZCalls.to (hto3) ?_ | refine ZCalls.tf (hto3) ?_) | (first | refine ZCalls.to (him2) ?_ | refine ZCalls.tf (him2) ?_) | (first | refine ZCalls.to (heq3) ?_ | refine ZCalls.tf (heq3) ?_) | (refine (markTriangulation_m (hx0.ext (Nat.le_refl _) (by exact exX5)) (by exact sdX5) hS' (by omega) (by omega)).mono ?_; rintro u H4 ⟨rfl, hm4⟩; have hg4 := OwnB.extR (hg.ext (Nat.le_refl _) (by exact exX5)) (by exact sdX5) hm4 (.inr (by exact sdX5)); have hE4 := Ext.viaR (show Ext H _ from by exact exX5) hm4 (by exact sdX5); clear hx0; have hm4g := hm4.get; have hm4s := hm4.size; (try simp only [nx] at hm4s)) | (refine (heq2.lend rfl (.ownB (mx_mk (hg4.ext (by exact sdX5) (by exact exX5))) (.cl (Cl.mx R C L) .nil))).mono ?_; rintro u H5 ⟨rfl, he5⟩; clear heq2; have he5g := he5.get; have he5s := he5.size; (try simp only [nx] at he5s)) | (refine (markMatrix_m (R := R) (C := C) (hg4.ext (by exact sdX5) (by exact exX5)) (by omega) (by omega) (by omega)).mono ?_; rintro u H6 ⟨rfl, hm6, hg6⟩; have hE6 := Ext.viaR (show Ext H _ from by exact exX5) hm6 (by exact sdX5); clear hg4; have hm6g := hm6.get; have hm6s := hm6.size; (try simp only [nx] at hm6s)) | (refine (hheld.lend rfl (.ownB (mx_mk (hg6.ext (by exact sdX5) (by exact exX5))) (.cl (Cl.int _ _) .nil))).mono ?_; rintro u H7 ⟨rfl, he7⟩; have he7g := he7.get; have he7s := he7.size; (try simp only [nx] at he7s)) | with_reducible refine And.intro (fun hc => ?_) (fun hc => ?_) | fail
    exact hQ.out _ _ (fv) (by exact exX5)
end Go.Proofs.Ytibkopejnhihkaa.Zed
