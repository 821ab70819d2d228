/- A part of the walk: what functions of the program do, over an abstract heap. -/
import Derived.Test.YtibkopejnhihkaaX3
namespace Go.Proofs.Ytibkopejnhihkaa.Zed
open Go TP
set_option linter.unusedVariables false
set_option linter.unusedSimpArgs false
set_option maxRecDepth 20000
theorem tfX4 : (Try.prog.underlying 36 = some (.slice 2)) ∧ (el Try.prog 36 = some (none, 1)) ∧ (Try.prog.underlying 44 = some (.slice 36)) ∧ (el Try.prog 44 = some (none, 1)) ∧ (tk Try.prog 2 = some none) ∧ (tk Try.prog 29 = some (some 1)) ∧ (tk Try.prog 36 = some none) ∧ (tk Try.prog 60 = some (some 3)) ∧ (cz Try.prog 2 = some 1) ∧ (bz Try.prog 2 = some 8) ∧ (cz Try.prog 36 = some 1) ∧ (bz Try.prog 36 = some 24) ∧ (zr Try.prog 2 = some (.int .i64 0)) ∧ (zr Try.prog 36 = some (.slice none 0 0)) ∧ (zr Try.prog 60 = some (.agg #[.int .i64 0, .int .i64 0, .slice none 0 0])) ∧ (fo Try.prog 60 2 = some (2, none)) ∧ (el Try.prog 60 = none) ∧ (placesOf Try.prog 60 = some #[(0, 1), (1, 1), (2, 1)]) := by
  refine ⟨?_, ?_, ?_, ?_, ?_, ?_, ?_, ?_, ?_, ?_, ?_, ?_, ?_, ?_, ?_, ?_, ?_, ?_⟩ <;> kernel_rfl
theorem rnX4 {a b : Prop} (hb : b) (h : Later b → a := by
  intro hb
  first
  | ((with_reducible first | refine AOps.nil ?_ | refine athen_n ?_ | refine athen_r ?_ | refine athen_e ?_ | refine ablock_n ?_ | refine ablock_r ?_ | refine ablock_s ?_ | refine AWp.seq' ?_ | refine AWp.block ?_ | refine AWp.skip ?_ | refine AWp.exit ?_ | refine AWp.ret ?_ | refine AWp.region ?_ | (refine ablock_e ?_ ?_; focus rfl)); repeat (with_reducible first | refine AOps.nil ?_ | refine athen_n ?_ | refine athen_r ?_ | refine athen_e ?_ | refine ablock_n ?_ | refine ablock_r ?_ | refine ablock_s ?_ | refine AWp.seq' ?_ | refine AWp.block ?_ | refine AWp.skip ?_ | refine AWp.exit ?_ | refine AWp.ret ?_ | refine AWp.region ?_ | (refine ablock_e ?_ ?_; focus rfl)))
  | (refine AOps.guardu rfl rfl rfl ?_ ?_; focus (simp (disch := (first | omega | (simp only [nx]; first | done | omega))) only [Value.bool.injEq, Bool.and_true, Bool.true_and, Bool.and_false, Bool.false_and, beq_self_eq_true, bne, Bool.not_true, Bool.not_false, sx, nx, dx, ↓reduceIte, reduceCtorEq, Nat.reduceEqDiff, ne_eq, not_false_eq_true, *]; done))
  | ((first | ((with_reducible refine AOps.lit ?_ ?_ ?_ fun K hK => ?_); exact rfl; exact rfl; exact rfl) | ((with_reducible refine AOps.boxz ?_ ?_ fun K hK => ?_); exact rfl; exact rfl) | ((with_reducible refine AOps.cons2 ?_ ?_ fun K hK => ?_); exact rfl; exact rfl) | ((with_reducible refine AWp.cond ?_ fun X Y hX hY => ?_); exact rfl) | refine AOps.guard rfl rfl rfl fun X Y hX hY => ?_ | refine aret_r ?_ | refine aret_n ?_); simp (disch := (first | omega | (simp only [nx]; first | done | omega))) only [acond_bool, aresK, retv, xxq, zxq, tfX4, litK, copyK, clearK, makeSliceK, buildSliceK, buildK, lookupK, mapPutK, mapOf, convK, allocK, indexK, partK, xxa, xxb, xxc, bne, Int.reduceEq, Int.reduceBEq, Int.reduceNe, Int.reduceBNe, Int.reduceLE, Int.reduceGT, Int.reduceGE, Int.reduceNeg, ↓reduceIte, reduceCtorEq, Nat.reduceEqDiff, Nat.reduceAdd, Nat.reduceMul, Nat.reduceSub, Nat.reduceLT, Int.reduceAdd, Int.reduceSub, Int.reduceMul, Int.reduceLT, Int.reduceToNat, ne_eq, *]; (repeat first | ((with_reducible refine And.intro (fun hc => ?_) (fun hc => absurd hc (by omega))); clear hc) | ((with_reducible refine And.intro (fun hc => absurd hc (by omega)) (fun hc => ?_)); clear hc) | ((with_reducible refine And.intro ?_ ?_); focus ((first | omega | assumption | exact cok _ rfl | exact one_ints _ | exact one_map fun _ => rfl | ((repeat refine one_cons (by first | rfl | assumption) ?_); exact one_nil) | rfl | decide | (intro u hu; cases hu)); done)) | (with_reducible refine (fun hc => ?_ : _ → _); clear hc)); (first | refine hK.out _ _ ?_ | refine ACalls.hk hK ?_ | (refine appendK.hk hK ?_; try (refine appendK.ofZ ?_; simp (disch := (first | omega | (simp only [nx]; first | done | omega))) only [xxq, zxq, tfX4, litK, copyK, clearK, makeSliceK, buildSliceK, buildK, lookupK, mapPutK, mapOf, convK, allocK, indexK, partK, xxa, xxb, xxc, bne, Int.reduceEq, Int.reduceBEq, Int.reduceNe, Int.reduceBNe, Int.reduceLE, Int.reduceGT, Int.reduceGE, Int.reduceNeg, ↓reduceIte, reduceCtorEq, Nat.reduceEqDiff, Nat.reduceAdd, Nat.reduceMul, Nat.reduceSub, Nat.reduceLT, Int.reduceAdd, Int.reduceSub, Int.reduceMul, Int.reduceLT, Int.reduceToNat, ne_eq, *]; (repeat first | ((with_reducible refine And.intro (fun hc => ?_) (fun hc => absurd hc (by omega))); clear hc) | ((with_reducible refine And.intro (fun hc => absurd hc (by omega)) (fun hc => ?_)); clear hc) | ((with_reducible refine And.intro ?_ ?_); focus ((first | omega | assumption | exact cok _ rfl | exact one_ints _ | exact one_map fun _ => rfl | ((repeat refine one_cons (by first | rfl | assumption) ?_); exact one_nil) | rfl | decide | (intro u hu; cases hu)); done)) | (with_reducible refine (fun hc => ?_ : _ → _); clear hc)))) | refine (fun (q : _ ∧ _) => And.intro (hK.out _ _ q.1) (hK.out _ _ q.2)) ?_ | refine hX.out ?_ | refine hY.out ?_ | refine (fun (q : (_ → _) ∧ (_ → _)) => And.intro (fun hc => hX.out (q.1 hc)) (fun hc => hY.out (q.2 hc))) ?_ | refine (fun (q : (_ → _) ∧ (_ → _)) => And.intro (fun hc => hY.out (q.1 hc)) (fun hc => hX.out (q.2 hc))) ?_ | skip))
  exact hb.out) : a := h ⟨hb⟩
theorem rzX4 {a b : Prop} (hb : b) (h : Later b → a := by
  intro hb
  first
  | with_reducible refine AZ.nil ?_
  | (refine AZ.pass rfl rfl (.inl ?_) ?_; focus (simp (disch := (first | omega | (simp only [nx]; first | done | omega))) only [Value.bool.injEq, Bool.and_true, Bool.true_and, Bool.and_false, Bool.false_and, beq_self_eq_true, bne, Bool.not_true, Bool.not_false, sx, nx, dx, ↓reduceIte, reduceCtorEq, Nat.reduceEqDiff, ne_eq, not_false_eq_true, *]; done))
  | (refine AZ.pass rfl rfl (.inr ?_) ?_; focus (simp (disch := (first | omega | (simp only [nx]; first | done | omega))) only [Value.bool.injEq, Bool.and_true, Bool.true_and, Bool.and_false, Bool.false_and, beq_self_eq_true, bne, Bool.not_true, Bool.not_false, sx, nx, dx, ↓reduceIte, reduceCtorEq, Nat.reduceEqDiff, ne_eq, not_false_eq_true, *]; done))
  | ((first | refine AZ.fl rfl fun Kx hKx => ?_ | (refine AZ.flg rfl rfl ?_ fun Kx hKx => ?_; focus (simp (disch := (first | omega | (simp only [nx]; first | done | omega))) only [Value.bool.injEq, Bool.and_true, Bool.true_and, Bool.and_false, Bool.false_and, beq_self_eq_true, bne, Bool.not_true, Bool.not_false, sx, nx, dx, ↓reduceIte, reduceCtorEq, Nat.reduceEqDiff, ne_eq, not_false_eq_true, *]; done)) | refine AZ.ef rfl fun Kx hKx => ?_ | (refine AZ.efg rfl rfl ?_ fun Kx hKx => ?_; focus (simp (disch := (first | omega | (simp only [nx]; first | done | omega))) only [Value.bool.injEq, Bool.and_true, Bool.true_and, Bool.and_false, Bool.false_and, beq_self_eq_true, bne, Bool.not_true, Bool.not_false, sx, nx, dx, ↓reduceIte, reduceCtorEq, Nat.reduceEqDiff, ne_eq, not_false_eq_true, *]; done))); simp (disch := (first | omega | (simp only [nx]; first | done | omega))) only [heldIn_iff, List.zipIdx_cons, List.zipIdx_nil, List.map_cons, List.map_nil, heldG_iff, Nat.reduceBEq, Bool.or_false, Bool.or_true, Bool.false_or, Bool.true_or, xxq, zxq, tfX4, litK, copyK, clearK, makeSliceK, buildSliceK, buildK, lookupK, mapPutK, mapOf, convK, allocK, indexK, partK, xxa, xxb, xxc, bne, Int.reduceEq, Int.reduceBEq, Int.reduceNe, Int.reduceBNe, Int.reduceLE, Int.reduceGT, Int.reduceGE, Int.reduceNeg, ↓reduceIte, reduceCtorEq, Nat.reduceEqDiff, Nat.reduceAdd, Nat.reduceMul, Nat.reduceSub, Nat.reduceLT, Int.reduceAdd, Int.reduceSub, Int.reduceMul, Int.reduceLT, Int.reduceToNat, ne_eq, *]; (repeat first | ((with_reducible refine And.intro (fun hc => ?_) (fun hc => absurd hc (by omega))); clear hc) | ((with_reducible refine And.intro (fun hc => absurd hc (by omega)) (fun hc => ?_)); clear hc) | ((with_reducible refine And.intro ?_ ?_); focus ((first | omega | assumption | exact cok _ rfl | exact one_ints _ | exact one_map fun _ => rfl | ((repeat refine one_cons (by first | rfl | assumption) ?_); exact one_nil) | rfl | decide | (intro u hu; cases hu)); done)) | (with_reducible refine (fun hc => ?_ : _ → _); clear hc)); (first | refine hKx.out _ _ ?_ | refine zcK.hkx hKx ?_ | refine ACalls.hkx hKx ?_ | (refine hKx.out _ _ ?_ ?_; focus (simp (disch := (first | omega | (simp only [nx]; first | done | omega))) only [heldIn_iff, List.zipIdx_cons, List.zipIdx_nil, List.map_cons, List.map_nil, heldG_iff, Nat.reduceBEq, Bool.or_false, Bool.or_true, Bool.false_or, Bool.true_or, xxq, zxq, tfX4, litK, copyK, clearK, makeSliceK, buildSliceK, buildK, lookupK, mapPutK, mapOf, convK, allocK, indexK, partK, xxa, xxb, xxc, bne, Int.reduceEq, Int.reduceBEq, Int.reduceNe, Int.reduceBNe, Int.reduceLE, Int.reduceGT, Int.reduceGE, Int.reduceNeg, ↓reduceIte, reduceCtorEq, Nat.reduceEqDiff, Nat.reduceAdd, Nat.reduceMul, Nat.reduceSub, Nat.reduceLT, Int.reduceAdd, Int.reduceSub, Int.reduceMul, Int.reduceLT, Int.reduceToNat, ne_eq, *]; first | done | trivial)) | (refine appendK.hkx hKx ?_; try (refine appendK.ofZ ?_; simp (disch := (first | omega | (simp only [nx]; first | done | omega))) only [heldIn_iff, List.zipIdx_cons, List.zipIdx_nil, List.map_cons, List.map_nil, heldG_iff, Nat.reduceBEq, Bool.or_false, Bool.or_true, Bool.false_or, Bool.true_or, xxq, zxq, tfX4, litK, copyK, clearK, makeSliceK, buildSliceK, buildK, lookupK, mapPutK, mapOf, convK, allocK, indexK, partK, xxa, xxb, xxc, bne, Int.reduceEq, Int.reduceBEq, Int.reduceNe, Int.reduceBNe, Int.reduceLE, Int.reduceGT, Int.reduceGE, Int.reduceNeg, ↓reduceIte, reduceCtorEq, Nat.reduceEqDiff, Nat.reduceAdd, Nat.reduceMul, Nat.reduceSub, Nat.reduceLT, Int.reduceAdd, Int.reduceSub, Int.reduceMul, Int.reduceLT, Int.reduceToNat, ne_eq, *]; (repeat first | ((with_reducible refine And.intro (fun hc => ?_) (fun hc => absurd hc (by omega))); clear hc) | ((with_reducible refine And.intro (fun hc => absurd hc (by omega)) (fun hc => ?_)); clear hc) | ((with_reducible refine And.intro ?_ ?_); focus ((first | omega | assumption | exact cok _ rfl | exact one_ints _ | exact one_map fun _ => rfl | ((repeat refine one_cons (by first | rfl | assumption) ?_); exact one_nil) | rfl | decide | (intro u hu; cases hu)); done)) | (with_reducible refine (fun hc => ?_ : _ → _); clear hc))))))
  exact hb.out) : a := h ⟨hb⟩
theorem hgX4 {p b : Prop} (hb : b) (h : p := by simp (disch := (first | omega | (simp only [nx]; first | done | omega))) only [heldIn_iff, List.zipIdx_cons, List.zipIdx_nil, List.map_cons, List.map_nil, heldG_iff, Nat.reduceBEq, Bool.or_false, Bool.or_true, Bool.false_or, Bool.true_or, xxq, zxq, tfX4, litK, copyK, clearK, makeSliceK, buildSliceK, buildK, lookupK, mapPutK, mapOf, convK, allocK, indexK, partK, xxa, xxb, xxc, bne, Int.reduceEq, Int.reduceBEq, Int.reduceNe, Int.reduceBNe, Int.reduceLE, Int.reduceGT, Int.reduceGE, Int.reduceNeg, ↓reduceIte, reduceCtorEq, Nat.reduceEqDiff, Nat.reduceAdd, Nat.reduceMul, Nat.reduceSub, Nat.reduceLT, Int.reduceAdd, Int.reduceSub, Int.reduceMul, Int.reduceLT, Int.reduceToNat, ne_eq, *]; first | done | trivial) : p ∧ b := ⟨h, hb⟩
theorem exX4 {p : Prop} (h : p := by ((show Ext _ _); (repeat' first | assumption | exact Ext.refl _ | refine Ext.push ?_ _ | refine Ext.set ?_ _ (by first | omega | (simp only [nx, *]; omega)) | (refine Ext.ofeq (by assumption) ?_; focus (simp (disch := (first | omega | (simp only [nx]; first | done | omega))) only [xxq, zxq, xxa, xxb, xxc, bne, Int.reduceEq, Int.reduceBEq, Int.reduceNe, Int.reduceBNe, Int.reduceLE, Int.reduceGT, Int.reduceGE, Int.reduceNeg, ↓reduceIte, reduceCtorEq, Nat.reduceEqDiff, Nat.reduceAdd, Nat.reduceMul, Nat.reduceSub, Nat.reduceLT, Int.reduceAdd, Int.reduceSub, Int.reduceMul, Int.reduceLT, Int.reduceToNat, ne_eq, *]; first | done | rfl | omega)) | (refine Ext.setc (by repeat first | assumption | apply Ext.setB | apply Ext.push) ?_; focus (simp (disch := (first | omega | (simp only [nx]; first | done | omega))) only [xxq, zxq, xxa, xxb, xxc, bne, Int.reduceEq, Int.reduceBEq, Int.reduceNe, Int.reduceBNe, Int.reduceLE, Int.reduceGT, Int.reduceGE, Int.reduceNeg, ↓reduceIte, reduceCtorEq, Nat.reduceEqDiff, Nat.reduceAdd, Nat.reduceMul, Nat.reduceSub, Nat.reduceLT, Int.reduceAdd, Int.reduceSub, Int.reduceMul, Int.reduceLT, Int.reduceToNat, ne_eq, *]; first | done | rfl | omega)) | (refine Ext.setc (Ext.refl _) ?_; focus (simp (disch := (first | omega | (simp only [nx]; first | done | omega))) only [xxq, zxq, xxa, xxb, xxc, bne, Int.reduceEq, Int.reduceBEq, Int.reduceNe, Int.reduceBNe, Int.reduceLE, Int.reduceGT, Int.reduceGE, Int.reduceNeg, ↓reduceIte, reduceCtorEq, Nat.reduceEqDiff, Nat.reduceAdd, Nat.reduceMul, Nat.reduceSub, Nat.reduceLT, Int.reduceAdd, Int.reduceSub, Int.reduceMul, Int.reduceLT, Int.reduceToNat, ne_eq, *]; first | done | rfl | omega)) | (apply Ext.up; focus (assumption; done)) | (simp (disch := (first | omega | (simp only [nx]; first | done | omega))) only [xxq, zxq, xxa, xxb, xxc, bne, Int.reduceEq, Int.reduceBEq, Int.reduceNe, Int.reduceBNe, Int.reduceLE, Int.reduceGT, Int.reduceGE, Int.reduceNeg, ↓reduceIte, reduceCtorEq, Nat.reduceEqDiff, Nat.reduceAdd, Nat.reduceMul, Nat.reduceSub, Nat.reduceLT, Int.reduceAdd, Int.reduceSub, Int.reduceMul, Int.reduceLT, Int.reduceToNat, ne_eq, *]; first | done | rfl | omega)); done)) : p := h
theorem ivX4 {p : Prop} (h : p := by first | omega | exact exX4 | (simp (disch := (first | omega | (simp only [nx]; first | done | omega))) only [xxq, zxq, xxa, xxb, xxc, bne, Int.reduceEq, Int.reduceBEq, Int.reduceNe, Int.reduceBNe, Int.reduceLE, Int.reduceGT, Int.reduceGE, Int.reduceNeg, ↓reduceIte, reduceCtorEq, Nat.reduceEqDiff, Nat.reduceAdd, Nat.reduceMul, Nat.reduceSub, Nat.reduceLT, Int.reduceAdd, Int.reduceSub, Int.reduceMul, Int.reduceLT, Int.reduceToNat, ne_eq, *, intV_int]; first | done | omega | rfl | exact congrArg (Value.int .i64) (by omega)) | rfl) : p := h
theorem smX4 {a b : Prop} (hb : b) (h : Later b → a := by intro hb; simp (disch := (first | omega | (simp only [nx]; first | done | omega))) only [xxq, zxq, xxa, xxb, xxc, bne, Int.reduceEq, Int.reduceBEq, Int.reduceNe, Int.reduceBNe, Int.reduceLE, Int.reduceGT, Int.reduceGE, Int.reduceNeg, ↓reduceIte, reduceCtorEq, Nat.reduceEqDiff, Nat.reduceAdd, Nat.reduceMul, Nat.reduceSub, Nat.reduceLT, Int.reduceAdd, Int.reduceSub, Int.reduceMul, Int.reduceLT, Int.reduceToNat, ne_eq, *, intV_int]; exact hb.out) : a := h ⟨hb⟩
theorem gtX4 {A F : Fr} {t : Nat} {v : Value} (h : Ag [] A F) (e : F t = v := by simp (disch := (first | omega | (simp only [nx]; first | done | omega))) only [xxq, zxq, xxa, xxb, xxc, bne, Int.reduceEq, Int.reduceBEq, Int.reduceNe, Int.reduceBNe, Int.reduceLE, Int.reduceGT, Int.reduceGE, Int.reduceNeg, ↓reduceIte, reduceCtorEq, Nat.reduceEqDiff, Nat.reduceAdd, Nat.reduceMul, Nat.reduceSub, Nat.reduceLT, Int.reduceAdd, Int.reduceSub, Int.reduceMul, Int.reduceLT, Int.reduceToNat, ne_eq, *, intV_int]; exact rfl) : A t = v := (h.h t rfl).trans e
theorem gdX4 {D : List Nat} {A F : Fr} {t : Nat} {v : Value} (h : Ag D A F) (ht : D.contains t = false := by rfl) (e : F t = v := by simp (disch := (first | omega | (simp only [nx]; first | done | omega))) only [xxq, zxq, xxa, xxb, xxc, bne, Int.reduceEq, Int.reduceBEq, Int.reduceNe, Int.reduceBNe, Int.reduceLE, Int.reduceGT, Int.reduceGE, Int.reduceNeg, ↓reduceIte, reduceCtorEq, Nat.reduceEqDiff, Nat.reduceAdd, Nat.reduceMul, Nat.reduceSub, Nat.reduceLT, Int.reduceAdd, Int.reduceSub, Int.reduceMul, Int.reduceLT, Int.reduceToNat, ne_eq, *, intV_int]; exact rfl) : A t = v := (h.h t ht).trans e
theorem agX4 {D : List Nat} {A F : Fr} (h : Ag D A F := by
  repeat (with_reducible first | exact Ag.refl _ _ | refine Ag.nop ?_ | refine Ag.dead rfl ?_ | (refine Ag.live ?_ ?_; focus exact ivX4) | refine Ag.dr rfl ?_ | (refine Ag.lr ?_ ?_; focus exact ivX4) | refine Ag.up (by assumption) rfl ?_)) : Ag D A F := h
theorem sdX4 {p : Prop} (h : p := by first | omega | assumption | (simp (disch := (first | omega | (simp only [nx]; first | done | omega))) only [xxq, zxq, tfX4, litK, copyK, clearK, makeSliceK, buildSliceK, buildK, lookupK, mapPutK, mapOf, convK, allocK, indexK, partK, xxa, xxb, xxc, bne, Int.reduceEq, Int.reduceBEq, Int.reduceNe, Int.reduceBNe, Int.reduceLE, Int.reduceGT, Int.reduceGE, Int.reduceNeg, ↓reduceIte, reduceCtorEq, Nat.reduceEqDiff, Nat.reduceAdd, Nat.reduceMul, Nat.reduceSub, Nat.reduceLT, Int.reduceAdd, Int.reduceSub, Int.reduceMul, Int.reduceLT, Int.reduceToNat, ne_eq, *]; first | done | omega | rfl)) : p := h
abbrev mxV (R C : Int) (L : List Int) : Value := .agg #[I R, I C, zI L]
theorem Cl.mx (R C : Int) (L : List Int) : Cl (mxV R C L) := Cl.agg (l := [_, _, _]) (Cl.cons (Cl.int _ _) (Cl.cons (Cl.int _ _) (Cl.cons (Cl.zI _) Cl.nil)))
theorem mx_shape {lo hi : Nat} {H : Heap} {u : Value} {R C : Int} {L : List Int} (h : OwnB lo hi H [u] [mxV R C L]) : ∃ v, u = .agg #[I R, I C, v] ∧ OwnB lo hi H [v] [zI L] ∧ v.oneCell' = true := by
  obtain ⟨l, rfl, h1⟩ := OwnB.agg_inv (l' := [I R, I C, zI L]) h
  obtain ⟨l2, rfl, h2⟩ := OwnB.flat_inv (r := I R) rfl h1
  obtain ⟨l3, rfl, h3⟩ := OwnB.flat_inv (r := I C) rfl h2
  obtain ⟨v, l4, rfl, h4, h5⟩ := h3.cons_inv
  obtain rfl := h5.nil_inv
  exact ⟨v, rfl, h4, h4.one⟩
theorem mx_mk {lo hi : Nat} {H : Heap} {v : Value} {R C : Int} {L : List Int} (h : OwnB lo hi H [v] [zI L]) : OwnB lo hi H [.agg #[I R, I C, v]] [mxV R C L] := OwnB.ag (l := [I R, I C, v]) (l' := [I R, I C, zI L]) (.fcons rfl (.fcons rfl h))
/-- A matrix and a code. -/
abbrev mtV (R C : Int) (L : List Int) (c : Int) : Value := .tuple #[mxV R C L, I c]
def amV (T : List (List (Int × Int))) : Value := if codeN T = 0 then mtV (amR T) (amC T) (amL T) 0 else mtV 0 0 [] (codeN T)
set_option maxHeartbeats 1000000 in
theorem implAngleMatrix_o {T : List (List (Int × Int))} (hl : T.length ≤ 1048576) : OCalls Try.prog 49 [zT T] (amV T) := by
  have hc := normalCode_z hl
  unfold amV
  by_cases h : codeN T = 0
  · rw [if_pos h]
    rw [h] at hc
    have ham := fun H => (angleMatrix_o (codeN_ok h).fine).lend (H := H) (.cl (Cl.zT T) .nil)
    generalize amL T = L at *
    generalize amR T = R at *
    generalize amC T = C at *
    refine OCalls.body Try.func49 rfl Try.ntmps49 (rs := [.cell 2 60, .tmp 3]) rfl (by simp) rfl fun H Q hQ A hA => ?_
    have a0 := hA 0 _ _ rfl
    clear hA
    repeat' first | refine rnX4 ?_ | (first | refine ZCalls.to (hc) ?_ | refine ZCalls.tf (hc) ?_) | (refine (ham _).mono ?_; rintro u H1 ⟨hO, hx⟩; obtain ⟨v, rfl, hO1, hv⟩ := mx_shape hO; have hxg := hx.get; have hxs := hx.size; (try simp only [nx] at hxs)) | with_reducible refine And.intro (fun hc => ?_) (fun hc => ?_) | fail
    exact hQ.out _ _ ((OwnB.tup (l := [_, I 0]) (l' := [mxV R C L, I 0]) (.cflats (mx_mk ((hO1.keep fun b hb _ => get_set_ne (by simp only [nx] at hb; omega)).wide (by simp only [nx]; omega) (Nat.le_refl _))) (fun x hx => by simp at hx; subst hx; rfl))).out) (by exact exX4)
  · rw [if_neg h]
    have hcb : (codeN T == 0) = false := by rw [beq_eq_false_iff_ne]; exact h
    generalize codeN T = c at *
    refine OCalls.body Try.func49 rfl Try.ntmps49 (rs := [.cell 2 60, .tmp 3]) rfl (by simp) rfl fun H Q hQ A hA => ?_
    have a0 := hA 0 _ _ rfl
    clear hA
    repeat' first | refine rnX4 ?_ | (first | refine ZCalls.to (hc) ?_ | refine ZCalls.tf (hc) ?_) | with_reducible refine And.intro (fun hc => ?_) (fun hc => ?_) | fail
    exact hQ.out _ _ ((OwnB.tup (lo := H.size) (hi := H.size) (l := [.agg #[I 0, I 0, .slice none 0 0], I c]) (l' := [mxV 0 0 [], I c]) (.cflats (mx_mk (OwnB.nilr 1)) (fun x hx => by simp at hx; subst hx; rfl))).out) (by exact exX4)
theorem appN {H : Heap} {m : Nat} {l : List Int} {K : Value → Heap → Prop} (hm : l.length = m) (hb : m ≤ 1000000) (h0 : m ≠ 0) (h : K (.slice (some ⟨H.size, 0, none⟩) m 0) (H.push (.cells (ints l) 1 false))) :
    appendK Try.prog 36 36 (.slice none 0 0) (FZ 1 m (ints l)) H K := by
  have hel : el Try.prog 36 = some (none, 1) := rfl
  have hu : Try.prog.underlying 36 = some (.slice 2) := rfl
  have hc : cz Try.prog 2 = some 1 := rfl
  have hbz : bz Try.prog 2 = some 8 := rfl
  have hz : zr Try.prog 2 = some (.int .i64 0) := rfl
  unfold appendK appsK
  simp only [hu, hc, hbz, hz, hel]
  refine ⟨by omega, by omega, rfl, rfl, rfl, by rw [ints_len]; omega, ?_, by omega, fun q => absurd q h0, fun _ => h⟩
  intro v hv
  obtain ⟨y, _, rfl⟩ := List.mem_map.1 hv
  rfl
def flatTo (R : List (List Int)) (i : Nat) : List Int := (R.take i).flatten
theorem flatTo_succ (R : List (List Int)) (i : Nat) (h : i < R.length) : flatTo R (i + 1) = flatTo R i ++ R.getD i [] := by
  unfold flatTo
  rw [List.take_succ_eq_append_getElem h, List.flatten_append]
  simp [h]
theorem flatTo_len {R : List (List Int)} {C : Nat} (h : ∀ r ∈ R, r.length = C) : ∀ i, i ≤ R.length → (flatTo R i).length = i * C := fun i hi => by
  unfold flatTo
  rw [flat_len (fun r hr => h r (List.mem_of_mem_take hr)), List.length_take, Nat.min_eq_left hi]
theorem spR_rows (T : List (List (Int × Int))) : ∀ r ∈ spR T, r.length = 3 * T.length + 1 := by
  intro r hr
  unfold spR at hr
  rcases List.mem_append.1 hr with hr | hr
  · obtain ⟨a, _, rfl⟩ := List.mem_map.1 hr
    unfold rA; rw [List.length_set, rowA_len]
  · obtain ⟨a, _, rfl⟩ := List.mem_map.1 hr
    unfold rE; rw [List.length_set, rowI_len]
theorem spR_len {T : List (List (Int × Int))} (hT : IsTri T) : (spR T).length ≤ 100009 := by
  have h8 := hT.1
  have hN := classN_bd (edgeL_bd T h8)
  have hll := inL_len (sE T) (nE T)
  have hN2 : nE T ≤ 100001 := by unfold nE; omega
  unfold spR
  rw [List.length_append, List.length_map, List.length_map, List.length_range]; omega
theorem codeN_six {T : List (List (Int × Int))} (h : codeN T = 0) : T.length ≤ 6 := by
  unfold codeN at h
  split at h
  · split at h
    · assumption
    · simp at h
  · simp at h
theorem nE_le {T : List (List (Int × Int))} (hF : Fine T) : nE T ≤ 6 * T.length := by
  obtain ⟨_, e2⟩ := edgeL_is hF
  obtain ⟨_, ⟨_, l2⟩, _⟩ := marks_fine hF
  have := rank_le (markE T) (markE T).length
  unfold nE; rw [e2, l2] at *; simpa using this
theorem spR_len2 {T : List (List (Int × Int))} (hT : IsTri T) : (spR T).length ≤ 7 * T.length := by
  have hll := inL_len (sE T) (nE T)
  have := nE_le hT.fine
  unfold spR
  rw [List.length_append, List.length_map, List.length_map, List.length_range]; omega
set_option maxHeartbeats 4000000 in
theorem specAngleMatrix_z {T : List (List (Int × Int))} (hl : T.length ≤ 1048576) : ZCalls Try.prog 48 [zT T] (amV T) := by
  have hc := l17Code_z hl
  unfold amV
  by_cases h : codeN T = 0
  · rw [if_pos h]
    rw [h] at hc
    have hT := codeN_ok h
    have h8 := hT.1
    have hr := l22Rows_z hT
    obtain ⟨e1, e2⟩ := mat_same hT
    have hrows := spR_rows T
    have hfl := flatTo_len hrows
    have hb := spR_len hT
    have hfs := flatTo_succ (spR T)
    have hend : flatTo (spR T) (spR T).length = amL T := by unfold flatTo; rw [List.take_length, e2]
    have hrz : ∀ i, i < (spR T).length → (rowsZ (3 * T.length + 1) (spR T))[i]? = some (FZ 1 (3 * T.length + 1) (ints ((spR T).getD i []))) := fun i hi => by simp [hi]
    have hrl : ∀ i, i < (spR T).length → ((spR T).getD i []).length = 3 * T.length + 1 := fun i hi => hrows _ (by simp [hi])
    have hzl := rowsZ_len (3 * T.length + 1) (spR T)
    rw [e1]
    have eC : amC T = 3 * T.length + 1 := rfl
    rw [eC]
    obtain ⟨C, hC⟩ : ∃ C, 3 * T.length + 1 = C := ⟨_, rfl⟩
    have hC2 : 3 * (T.length : Int) + 1 = (C : Int) := by omega
    have h6 : T.length ≤ 6 := codeN_six h
    have hfb : ∀ i, i ≤ (spR T).length → i * C ≤ 1000000 := fun i hi => by
      have := spR_len2 hT
      have h1 : i * C ≤ 45 * 19 := Nat.mul_le_mul (by omega) (by omega)
      omega
    rw [hC] at hr hfl hrz hrl hzl ⊢
    rw [← hend]
    clear hend e1 e2 hrows eC
    generalize rowsZ C (spR T) = Z at *
    generalize hRl : (spR T).length = R at *
    generalize flatTo (spR T) = F at *
    generalize spR T = S at *
    refine ZCalls.body Try.func48 rfl Try.ntmps48 (rs := [.cell 2 60, .tmp 3]) rfl (by simp) rfl fun H Q hQ A hA => ?_
    have a0 := hA 0 _ _ rfl
    clear hA
    repeat' first | refine rnX4 ?_ | (first | refine ZCalls.to (hc) ?_ | refine ZCalls.tf (hc) ?_) | (first | refine ZCalls.to (hr) ?_ | refine ZCalls.tf (hr) ?_) | (first | refine ZCalls.to (l07Tets_z _ _ _) ?_ | refine ZCalls.tf (l07Tets_z _ _ _) ?_) | with_reducible refine And.intro (fun hc => ?_) (fun hc => ?_) | fail
    refine AWp.cut (fun Ac hAc => ?_)
    have c2 := gtX4 (t := 2) hAc
    have c5 := gtX4 (t := 5) hAc
    have c6 := gtX4 (t := 6) hAc
    have c7 := gtX4 (t := 7) hAc
    clear a0 hc hr
    refine AWp.loop (fun A' H' => ∃ (i : Nat), Ag [23, 24, 25, 26, 27, 28, 29, 30, 31, 32, 33, 34, 35, 36] A' (put Ac (some 7) (I i)) ∧ i ≤ R ∧ Ext H H' ∧ H.size + 1 < H'.size ∧ H'.get H.size = .cells [I 0, I 0, .slice none 0 0] 1 false ∧ ((i = 0 ∧ H'.get (H.size + 1) = .cells [I R, I C, .slice none 0 0] 1 false) ∨ ∃ g, 0 < i ∧ H.size + 1 < g ∧ g < H'.size ∧ H'.get (H.size + 1) = .cells [I R, I C, .slice (some ⟨g, 0, none⟩) (i * C) 0] 1 false ∧ H'.get g = .cells (ints (F i)) 1 false)) (fun A' _ => R - (intV (A' 7)).toNat) ?_ ?_
    · exact ⟨0, agX4, by omega, by exact exX4, by exact ivX4, by exact ivX4, .inl ⟨rfl, by exact ivX4⟩⟩
    · rintro A1 H1 ⟨i, hA, hi, hx, hs, hg0, hg⟩
      have d2 := gdX4 (t := 2) hA
      have d5 := gdX4 (t := 5) hA
      have d6 := gdX4 (t := 6) hA
      have d7 := gdX4 (t := 7) hA
      by_cases hlt : i < R
      · have hz := hrz i hlt
        have hl1 := hrl i hlt
        have hfi := hfs i hlt
        have hfb1 := hfb (i + 1) hlt
        have hfl1 := hfl i hi
        have hmul : (i + 1) * C = i * C + C := by rw [Nat.add_mul, Nat.one_mul]
        have hC0 : C ≠ 0 := by omega
        clear hrz hrl hfs hfb hfl
        generalize S.getD i [] = row at *
        rcases hg with ⟨rfl, hg⟩ | ⟨g, hi0, hg1, hg2, hg, hg3⟩
        · have e0 : F 0 = [] := List.length_eq_zero_iff.1 (by omega)
          rw [e0, List.nil_append] at hfi
          have h1C : 1 * C = C := Nat.one_mul C
          clear hmul
          repeat' first | refine rnX4 ?_ | with_reducible refine And.intro (fun hc => ?_) (fun hc => ?_) | fail
          refine AWp.zreg [(0, none), (1, none), (2, none), (3, none), (4, none), (5, none), (6, some [1, 5]), (7, none), (8, some [1, 5])] mixed (by kernel_rfl) ?_
          repeat' first | refine rzX4 ?_ | (refine appN hl1 (by omega) hC0 ?_; refine hgX4 ?_) | fail
          repeat' first | refine rnX4 ?_ | with_reducible refine And.intro (fun hc => ?_) (fun hc => ?_) | fail
          exact ⟨⟨1, agX4, by omega, by exact exX4, by exact ivX4, by exact ivX4, .inr ⟨H1.size, by omega, by omega, by exact ivX4, by exact ivX4, by exact ivX4⟩⟩, by exact ivX4⟩
        · obtain ⟨q, hq⟩ : ∃ q, i * C = q := ⟨_, rfl⟩
          rw [hq] at *
          repeat' first | refine rnX4 ?_ | with_reducible refine And.intro (fun hc => ?_) (fun hc => ?_) | fail
          refine AWp.zreg [(0, none), (1, none), (2, none), (3, none), (4, none), (5, none), (6, some [1, 5]), (7, none), (8, some [1, 5])] mixed (by kernel_rfl) ?_
          repeat' first | refine rzX4 ?_ | (refine appI hg3 (by omega) hl1 (by omega) hC0 ?_; refine hgX4 ?_) | fail
          repeat' first | refine rnX4 ?_ | with_reducible refine And.intro (fun hc => ?_) (fun hc => ?_) | fail
          exact ⟨⟨i + 1, agX4, by omega, by exact exX4, by exact ivX4, by exact ivX4, .inr ⟨H1.size, by omega, by omega, by exact ivX4, by exact ivX4, by exact ivX4⟩⟩, by exact ivX4⟩
      · obtain rfl : i = R := by omega
        clear hrz hrl hfs
        rcases hg with ⟨rfl, hg⟩ | ⟨g, hi0, hg1, hg2, hg, hg3⟩
        · have e0 : F 0 = [] := List.length_eq_zero_iff.1 (by have := hfl 0 (Nat.le_refl _); omega)
          rw [e0] at hQ
          repeat' first | refine rnX4 ?_ | with_reducible refine And.intro (fun hc => ?_) (fun hc => ?_) | fail
          exact hQ.out _ _ ((OwnB.tup (l := [_, I 0]) (l' := [mxV _ _ [], I 0]) (.cflats (mx_mk (OwnB.nilr 1)) (fun x hx => by simp at hx; subst hx; rfl)) : OwnB H.size H.size _ _ _).fin) (by exact exX4)
        · have hFl := hfl i (Nat.le_refl _)
          repeat' first | refine rnX4 ?_ | with_reducible refine And.intro (fun hc => ?_) (fun hc => ?_) | fail
          rw [← hFl]
          exact hQ.out _ _ ((OwnB.tup (l := [_, I 0]) (l' := [mxV _ _ (F i), I 0]) (.cflats (mx_mk (OwnB.ints (by omega) hg2 rfl (by rw [get_set_ne (by omega)]; exact hg3))) (fun x hx => by simp at hx; subst hx; rfl)) : OwnB H.size H1.size _ _ _).fin) (by exact exX4)
  · rw [if_neg h]
    have hcb : (codeN T == 0) = false := by rw [beq_eq_false_iff_ne]; exact h
    generalize codeN T = c at *
    refine ZCalls.body Try.func48 rfl Try.ntmps48 (rs := [.cell 2 60, .tmp 3]) rfl (by simp) rfl fun H Q hQ A hA => ?_
    have a0 := hA 0 _ _ rfl
    clear hA
    repeat' first | refine rnX4 ?_ | (first | refine ZCalls.to (hc) ?_ | refine ZCalls.tf (hc) ?_) | with_reducible refine And.intro (fun hc => ?_) (fun hc => ?_) | fail
    exact hQ.out _ _ ((OwnB.tup (l := [_, I c]) (l' := [mxV 0 0 [], I c]) (.cflats (mx_mk (OwnB.nilr 1)) (fun x hx => by simp at hx; subst hx; rfl)) : OwnB H.size H.size _ _ _).fin) (by exact exX4)
end Go.Proofs.Ytibkopejnhihkaa.Zed
