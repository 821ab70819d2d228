/- A part of the walk: what functions of the program do, over an abstract heap. -/
import Derived.Test.YtpbbfephfmdgmaaEH
namespace Go.Proofs.Ytpbbfephfmdgmaa.Rai
open Go TP
set_option linter.unusedVariables false
set_option linter.unusedSimpArgs false
set_option maxRecDepth 20000
theorem tfEI : (Try.prog.underlying 27 = some (.slice 54)) ∧ (el Try.prog 27 = some (none, 5)) ∧ (tk Try.prog 2 = some none) ∧ (tk Try.prog 27 = some none) ∧ (tk Try.prog 29 = some (some 2)) ∧ (tk Try.prog 54 = some (some 5)) ∧ (cz Try.prog 54 = some 5) ∧ (bz Try.prog 54 = some 40) ∧ (zr Try.prog 29 = some (.agg #[.slice none 0 0, .int .i64 0])) ∧ (zr Try.prog 54 = some (.agg #[.int .i64 0, .int .i64 0, .int .i64 0, .int .i64 0, .int .i64 0])) ∧ (fo Try.prog 29 0 = some (0, none)) ∧ (fo Try.prog 29 1 = some (1, none)) ∧ (fo Try.prog 54 0 = some (0, none)) ∧ (fo Try.prog 54 1 = some (1, none)) ∧ (fo Try.prog 54 2 = some (2, none)) ∧ (fo Try.prog 54 3 = some (3, none)) ∧ (fo Try.prog 54 4 = some (4, none)) ∧ (el Try.prog 29 = none) ∧ (placesOf Try.prog 29 = some #[(0, 1), (1, 1)]) ∧ (el Try.prog 54 = none) ∧ (placesOf Try.prog 54 = some #[(0, 1), (1, 1), (2, 1), (3, 1), (4, 1)]) := by
  refine ⟨?_, ?_, ?_, ?_, ?_, ?_, ?_, ?_, ?_, ?_, ?_, ?_, ?_, ?_, ?_, ?_, ?_, ?_, ?_, ?_, ?_⟩ <;> kernel_rfl
theorem rnEI {a b : Prop} (hb : b) (h : Later b → a := by
  intro hb
  first
  | ((with_reducible first | refine AOps.nil ?_ | refine athen_n ?_ | refine athen_r ?_ | refine athen_e ?_ | refine ablock_n ?_ | refine ablock_r ?_ | refine ablock_s ?_ | refine AWp.seq' ?_ | refine AWp.block ?_ | refine AWp.skip ?_ | refine AWp.exit ?_ | refine AWp.ret ?_ | refine AWp.region ?_ | (refine ablock_e ?_ ?_; focus rfl)); repeat (with_reducible first | refine AOps.nil ?_ | refine athen_n ?_ | refine athen_r ?_ | refine athen_e ?_ | refine ablock_n ?_ | refine ablock_r ?_ | refine ablock_s ?_ | refine AWp.seq' ?_ | refine AWp.block ?_ | refine AWp.skip ?_ | refine AWp.exit ?_ | refine AWp.ret ?_ | refine AWp.region ?_ | (refine ablock_e ?_ ?_; focus rfl)))
  | (refine AOps.guardu rfl rfl rfl ?_ ?_; focus (simp (disch := (first | omega | (simp only [nx]; first | done | omega))) only [Value.bool.injEq, Bool.and_true, Bool.true_and, Bool.and_false, Bool.false_and, beq_self_eq_true, bne, Bool.not_true, Bool.not_false, sx, nx, dx, ↓reduceIte, reduceCtorEq, Nat.reduceEqDiff, ne_eq, not_false_eq_true, *]; done))
  | ((first | refine AOps.cons2 rfl rfl fun K hK => ?_ | refine AWp.cond rfl fun X Y hX hY => ?_ | refine AOps.guard rfl rfl rfl fun X Y hX hY => ?_ | refine aret_r ?_ | refine aret_n ?_); simp (disch := (first | omega | (simp only [nx]; first | done | omega))) only [acond_bool, aresK, retv, xxq, tfEI, sliceK, bnd, copyK, clearK, makeSliceK, buildSliceK, buildK, lookupK, mapPutK, mapOf, convK, allocK, indexK, partK, xxa, xxb, xxc, bne, Int.reduceEq, Int.reduceBEq, Int.reduceNe, Int.reduceBNe, Int.reduceLE, Int.reduceGT, Int.reduceGE, Int.reduceNeg, ↓reduceIte, reduceCtorEq, Nat.reduceEqDiff, Nat.reduceAdd, Nat.reduceMul, Nat.reduceSub, Nat.reduceLT, Int.reduceAdd, Int.reduceSub, Int.reduceMul, Int.reduceLT, Int.reduceToNat, ne_eq, *]; (repeat first | ((with_reducible refine And.intro (fun hc => ?_) (fun hc => absurd hc (by omega))); clear hc) | ((with_reducible refine And.intro (fun hc => absurd hc (by omega)) (fun hc => ?_)); clear hc) | ((with_reducible refine And.intro ?_ ?_); focus ((first | omega | assumption | exact cok _ rfl | exact one_ints _ | exact one_map fun _ => rfl | ((repeat refine one_cons (by first | rfl | assumption) ?_); exact one_nil) | rfl | decide | (intro u hu; cases hu)); done)) | (with_reducible refine (fun hc => ?_ : _ → _); clear hc)); (first | refine hK.out _ _ ?_ | refine ACalls.hk hK ?_ | refine appendK.hk hK ?_ | refine (fun (q : _ ∧ _) => And.intro (hK.out _ _ q.1) (hK.out _ _ q.2)) ?_ | refine hX.out ?_ | refine hY.out ?_ | refine (fun (q : (_ → _) ∧ (_ → _)) => And.intro (fun hc => hX.out (q.1 hc)) (fun hc => hY.out (q.2 hc))) ?_ | refine (fun (q : (_ → _) ∧ (_ → _)) => And.intro (fun hc => hY.out (q.1 hc)) (fun hc => hX.out (q.2 hc))) ?_ | skip))
  exact hb.out) : a := h ⟨hb⟩
theorem rtEI {a b : Prop} (hb : b) (h : Later b → a := by
  intro hb
  first | with_reducible refine APt.done ?_ | ((first | refine APt.pure rfl rfl rfl rfl rfl fun Kx hKx => ?_ | refine APt.load rfl rfl rfl fun Kx hKx => ?_ | refine APt.act1 rfl rfl rfl rfl rfl fun Kx hKx => ?_); simp (disch := (first | omega | (simp only [nx]; first | done | omega))) only [heldIn_iff, List.zipIdx_cons, List.zipIdx_nil, List.map_cons, List.map_nil, xxq, tfEI, sliceK, bnd, copyK, clearK, makeSliceK, buildSliceK, buildK, lookupK, mapPutK, mapOf, convK, allocK, indexK, partK, xxa, xxb, xxc, bne, Int.reduceEq, Int.reduceBEq, Int.reduceNe, Int.reduceBNe, Int.reduceLE, Int.reduceGT, Int.reduceGE, Int.reduceNeg, ↓reduceIte, reduceCtorEq, Nat.reduceEqDiff, Nat.reduceAdd, Nat.reduceMul, Nat.reduceSub, Nat.reduceLT, Int.reduceAdd, Int.reduceSub, Int.reduceMul, Int.reduceLT, Int.reduceToNat, ne_eq, *]; (repeat first | ((with_reducible refine And.intro (fun hc => ?_) (fun hc => absurd hc (by omega))); clear hc) | ((with_reducible refine And.intro (fun hc => absurd hc (by omega)) (fun hc => ?_)); clear hc) | ((with_reducible refine And.intro ?_ ?_); focus ((first | omega | assumption | exact cok _ rfl | exact one_ints _ | exact one_map fun _ => rfl | ((repeat refine one_cons (by first | rfl | assumption) ?_); exact one_nil) | rfl | decide | (intro u hu; cases hu)); done)) | (with_reducible refine (fun hc => ?_ : _ → _); clear hc)); (first | refine hKx.out _ ?_ | refine hKx.out _ _ ?_ | (refine hKx.out _ _ ?_ ?_; focus (simp (disch := (first | omega | (simp only [nx]; first | done | omega))) only [heldIn_iff, List.zipIdx_cons, List.zipIdx_nil, List.map_cons, List.map_nil, xxq, tfEI, sliceK, bnd, copyK, clearK, makeSliceK, buildSliceK, buildK, lookupK, mapPutK, mapOf, convK, allocK, indexK, partK, xxa, xxb, xxc, bne, Int.reduceEq, Int.reduceBEq, Int.reduceNe, Int.reduceBNe, Int.reduceLE, Int.reduceGT, Int.reduceGE, Int.reduceNeg, ↓reduceIte, reduceCtorEq, Nat.reduceEqDiff, Nat.reduceAdd, Nat.reduceMul, Nat.reduceSub, Nat.reduceLT, Int.reduceAdd, Int.reduceSub, Int.reduceMul, Int.reduceLT, Int.reduceToNat, ne_eq, *]; first | done | trivial)) | refine ACalls.hkx hKx ?_ | refine appendK.hkx hKx ?_))
  exact hb.out) : a := h ⟨hb⟩
theorem rtfEI {a b c : Prop} (hb : b) (hc : c) (h : Later b → Later c → a := by
  intro hb hc
  refine APt.two rfl rfl rfl rfl rfl rfl rfl rfl (fun Kx hKx => ?_) (fun Kx hKx => ?_)
  focus ((simp (disch := (first | omega | (simp only [nx]; first | done | omega))) only [heldIn_iff, List.zipIdx_cons, List.zipIdx_nil, List.map_cons, List.map_nil, xxq, tfEI, sliceK, bnd, copyK, clearK, makeSliceK, buildSliceK, buildK, lookupK, mapPutK, mapOf, convK, allocK, indexK, partK, xxa, xxb, xxc, bne, Int.reduceEq, Int.reduceBEq, Int.reduceNe, Int.reduceBNe, Int.reduceLE, Int.reduceGT, Int.reduceGE, Int.reduceNeg, ↓reduceIte, reduceCtorEq, Nat.reduceEqDiff, Nat.reduceAdd, Nat.reduceMul, Nat.reduceSub, Nat.reduceLT, Int.reduceAdd, Int.reduceSub, Int.reduceMul, Int.reduceLT, Int.reduceToNat, ne_eq, *]; (repeat first | ((with_reducible refine And.intro (fun hc => ?_) (fun hc => absurd hc (by omega))); clear hc) | ((with_reducible refine And.intro (fun hc => absurd hc (by omega)) (fun hc => ?_)); clear hc) | ((with_reducible refine And.intro ?_ ?_); focus ((first | omega | assumption | exact cok _ rfl | exact one_ints _ | exact one_map fun _ => rfl | ((repeat refine one_cons (by first | rfl | assumption) ?_); exact one_nil) | rfl | decide | (intro u hu; cases hu)); done)) | (with_reducible refine (fun hc => ?_ : _ → _); clear hc)); (first | refine hKx.out _ ?_ | refine hKx.out _ _ ?_ | (refine hKx.out _ _ ?_ ?_; focus (simp (disch := (first | omega | (simp only [nx]; first | done | omega))) only [heldIn_iff, List.zipIdx_cons, List.zipIdx_nil, List.map_cons, List.map_nil, xxq, tfEI, sliceK, bnd, copyK, clearK, makeSliceK, buildSliceK, buildK, lookupK, mapPutK, mapOf, convK, allocK, indexK, partK, xxa, xxb, xxc, bne, Int.reduceEq, Int.reduceBEq, Int.reduceNe, Int.reduceBNe, Int.reduceLE, Int.reduceGT, Int.reduceGE, Int.reduceNeg, ↓reduceIte, reduceCtorEq, Nat.reduceEqDiff, Nat.reduceAdd, Nat.reduceMul, Nat.reduceSub, Nat.reduceLT, Int.reduceAdd, Int.reduceSub, Int.reduceMul, Int.reduceLT, Int.reduceToNat, ne_eq, *]; first | done | trivial)) | refine ACalls.hkx hKx ?_ | refine appendK.hkx hKx ?_)); exact hb.out)
  focus ((simp (disch := (first | omega | (simp only [nx]; first | done | omega))) only [heldIn_iff, List.zipIdx_cons, List.zipIdx_nil, List.map_cons, List.map_nil, xxq, tfEI, sliceK, bnd, copyK, clearK, makeSliceK, buildSliceK, buildK, lookupK, mapPutK, mapOf, convK, allocK, indexK, partK, xxa, xxb, xxc, bne, Int.reduceEq, Int.reduceBEq, Int.reduceNe, Int.reduceBNe, Int.reduceLE, Int.reduceGT, Int.reduceGE, Int.reduceNeg, ↓reduceIte, reduceCtorEq, Nat.reduceEqDiff, Nat.reduceAdd, Nat.reduceMul, Nat.reduceSub, Nat.reduceLT, Int.reduceAdd, Int.reduceSub, Int.reduceMul, Int.reduceLT, Int.reduceToNat, ne_eq, *]; (repeat first | ((with_reducible refine And.intro (fun hc => ?_) (fun hc => absurd hc (by omega))); clear hc) | ((with_reducible refine And.intro (fun hc => absurd hc (by omega)) (fun hc => ?_)); clear hc) | ((with_reducible refine And.intro ?_ ?_); focus ((first | omega | assumption | exact cok _ rfl | exact one_ints _ | exact one_map fun _ => rfl | ((repeat refine one_cons (by first | rfl | assumption) ?_); exact one_nil) | rfl | decide | (intro u hu; cases hu)); done)) | (with_reducible refine (fun hc => ?_ : _ → _); clear hc)); (first | refine hKx.out _ ?_ | refine hKx.out _ _ ?_ | (refine hKx.out _ _ ?_ ?_; focus (simp (disch := (first | omega | (simp only [nx]; first | done | omega))) only [heldIn_iff, List.zipIdx_cons, List.zipIdx_nil, List.map_cons, List.map_nil, xxq, tfEI, sliceK, bnd, copyK, clearK, makeSliceK, buildSliceK, buildK, lookupK, mapPutK, mapOf, convK, allocK, indexK, partK, xxa, xxb, xxc, bne, Int.reduceEq, Int.reduceBEq, Int.reduceNe, Int.reduceBNe, Int.reduceLE, Int.reduceGT, Int.reduceGE, Int.reduceNeg, ↓reduceIte, reduceCtorEq, Nat.reduceEqDiff, Nat.reduceAdd, Nat.reduceMul, Nat.reduceSub, Nat.reduceLT, Int.reduceAdd, Int.reduceSub, Int.reduceMul, Int.reduceLT, Int.reduceToNat, ne_eq, *]; first | done | trivial)) | refine ACalls.hkx hKx ?_ | refine appendK.hkx hKx ?_)); exact hc.out)) : a := h ⟨hb⟩ ⟨hc⟩
theorem hlEI {p b : Prop} (hb : b) (h : p := by simp (disch := (first | omega | (simp only [nx]; first | done | omega))) only [heldIn_iff, List.zipIdx_cons, List.zipIdx_nil, List.map_cons, List.map_nil, xxq, tfEI, sliceK, bnd, copyK, clearK, makeSliceK, buildSliceK, buildK, lookupK, mapPutK, mapOf, convK, allocK, indexK, partK, xxa, xxb, xxc, bne, Int.reduceEq, Int.reduceBEq, Int.reduceNe, Int.reduceBNe, Int.reduceLE, Int.reduceGT, Int.reduceGE, Int.reduceNeg, ↓reduceIte, reduceCtorEq, Nat.reduceEqDiff, Nat.reduceAdd, Nat.reduceMul, Nat.reduceSub, Nat.reduceLT, Int.reduceAdd, Int.reduceSub, Int.reduceMul, Int.reduceLT, Int.reduceToNat, ne_eq, *]; first | done | trivial) : p ∧ b := ⟨h, hb⟩
theorem ivEI {p : Prop} (h : p := by first | omega | ((repeat first | exact Ext.refl _ | assumption | refine Ext.push ?_ _ | refine Ext.set ?_ _ (by first | omega | (simp only [nx, *]; omega)) | (apply Ext.up; focus (assumption; done))); done) | (simp (disch := (first | omega | (simp only [nx]; first | done | omega))) only [xxq, xxa, xxb, xxc, bne, Int.reduceEq, Int.reduceBEq, Int.reduceNe, Int.reduceBNe, Int.reduceLE, Int.reduceGT, Int.reduceGE, Int.reduceNeg, ↓reduceIte, reduceCtorEq, Nat.reduceEqDiff, Nat.reduceAdd, Nat.reduceMul, Nat.reduceSub, Nat.reduceLT, Int.reduceAdd, Int.reduceSub, Int.reduceMul, Int.reduceLT, Int.reduceToNat, ne_eq, *, intV_int]; first | done | omega | rfl | exact congrArg (Value.int .i64) (by omega) | ((repeat first | exact Ext.refl _ | assumption | refine Ext.push ?_ _ | refine Ext.set ?_ _ (by first | omega | (simp only [nx, *]; omega)) | (apply Ext.up; focus (assumption; done))); done)) | rfl) : p := h
theorem smEI {a b : Prop} (hb : b) (h : Later b → a := by intro hb; simp (disch := (first | omega | (simp only [nx]; first | done | omega))) only [xxq, xxa, xxb, xxc, bne, Int.reduceEq, Int.reduceBEq, Int.reduceNe, Int.reduceBNe, Int.reduceLE, Int.reduceGT, Int.reduceGE, Int.reduceNeg, ↓reduceIte, reduceCtorEq, Nat.reduceEqDiff, Nat.reduceAdd, Nat.reduceMul, Nat.reduceSub, Nat.reduceLT, Int.reduceAdd, Int.reduceSub, Int.reduceMul, Int.reduceLT, Int.reduceToNat, ne_eq, *, intV_int]; exact hb.out) : a := h ⟨hb⟩
theorem gtEI {A F : Fr} {t : Nat} {v : Value} (h : Ag [] A F) (e : F t = v := by simp (disch := (first | omega | (simp only [nx]; first | done | omega))) only [xxq, xxa, xxb, xxc, bne, Int.reduceEq, Int.reduceBEq, Int.reduceNe, Int.reduceBNe, Int.reduceLE, Int.reduceGT, Int.reduceGE, Int.reduceNeg, ↓reduceIte, reduceCtorEq, Nat.reduceEqDiff, Nat.reduceAdd, Nat.reduceMul, Nat.reduceSub, Nat.reduceLT, Int.reduceAdd, Int.reduceSub, Int.reduceMul, Int.reduceLT, Int.reduceToNat, ne_eq, *, intV_int]; exact rfl) : A t = v := (h.h t rfl).trans e
theorem agEI {D : List Nat} {A F : Fr} (h : Ag D A F := by
  repeat (with_reducible first | exact Ag.refl _ _ | refine Ag.nop ?_ | refine Ag.dead rfl ?_ | (refine Ag.live ?_ ?_; focus exact ivEI) | refine Ag.dr rfl ?_ | (refine Ag.lr ?_ ?_; focus exact ivEI) | refine Ag.up (by assumption) rfl ?_)) : Ag D A F := h
theorem sdEI {p : Prop} (h : p := by first | omega | assumption | (simp (disch := (first | omega | (simp only [nx]; first | done | omega))) only [xxq, tfEI, sliceK, bnd, copyK, clearK, makeSliceK, buildSliceK, buildK, lookupK, mapPutK, mapOf, convK, allocK, indexK, partK, xxa, xxb, xxc, bne, Int.reduceEq, Int.reduceBEq, Int.reduceNe, Int.reduceBNe, Int.reduceLE, Int.reduceGT, Int.reduceGE, Int.reduceNeg, ↓reduceIte, reduceCtorEq, Nat.reduceEqDiff, Nat.reduceAdd, Nat.reduceMul, Nat.reduceSub, Nat.reduceLT, Int.reduceAdd, Int.reduceSub, Int.reduceMul, Int.reduceLT, Int.reduceToNat, ne_eq, *]; first | done | omega | rfl)) : p := h
set_option maxHeartbeats 4000000 in
theorem beside_c {H : Heap} {v vd : Value} {g0 : Nat} {C D : List Cr} (z y : Int) (hC : OwC H v g0 C) (hD : RdC H vd D) (hn : C.length ≤ 10) (hm : D.length ≤ 10) (hcd : Cnt D) (hz : 0 ≤ z ∧ z ≤ 8) (hy : 0 ≤ y ∧ y ≤ 8) :
    ACalls Try.prog 63 [.agg #[v, I z], .agg #[vd, I y]] H fun u H' => (∃ w, u = .agg #[w, I (z + y)] ∧ OwN H.size H'.size H' w (C ++ D.map (shC (2 * C.length)))) ∧ Ext H H' := by
  have hC1 := fun {H' : Heap} (h : Ext H H') => hC.ext h
  have hone := hC.rd.one
  obtain ⟨kc, rfl, hgc, hgcc⟩ := id hC
  obtain ⟨p, kk, rfl, hp, hh⟩ := hD
  have hcl := crs_len C
  have harc := @arcs4 D hcd
  refine ACalls.body Try.func63 rfl Try.ntmps63 (rs := [.cell 4 29]) rfl (by simp) rfl fun Q hQ A hA => ?_
  have a0 := hA 0 _ _ rfl
  have a1 := hA 1 _ _ rfl
  clear hA
  repeat' first | refine rnEI ?_ | (refine (sizeC_c _ _ _).mono ?_; rintro u H' ⟨rfl, rfl⟩) | with_reducible refine And.intro (fun hc => ?_) (fun hc => ?_) | fail
  refine AWp.treed (.one 0 (.one 1 (.one 3 (.one 4 (.one 5 (.one 6 (.one 7 (.two 2 (.one 8 (.one 9 (.one 10 .done))) 9 (.one 2 (.one 8 (.one 10 .done))))))))))) mixed (by kernel_rfl) ?_
  repeat' first | refine rtEI ?_ | refine rtfEI ?_ ?_ | (refine (Clone_c (hC1 (by exact ex1)) (by omega)).mono ?_; rintro u H4 ⟨⟨g4, hO4, hg4⟩, hx4⟩; obtain ⟨pu, cu, rfl⟩ := hO4.shape; have hx4g := hx4.get; have hx4s := hx4.size; (try simp only [nx] at hx4s); refine hlEI ?_) | fail
  · repeat' first | refine rnEI ?_ | with_reducible refine And.intro (fun hc => ?_) (fun hc => ?_) | fail
    obtain ⟨gt, hgt⟩ : ∃ X, X = H4.size := ⟨_, rfl⟩
    obtain ⟨Hb, hHb⟩ : ∃ X, X = (H4.push (.cells [.slice none 0 0, I 0] 1 false)).set H4.size (.cells [.slice pu C.length cu, I (z + y)] 1 false) := ⟨_, rfl⟩
    simp only [nx] at hg4
    have b0 : Hb.size = H4.size + 1 := by rw [hHb]; simp only [nx]
    have b2 : Hb.get (H.size + 1 + 1) = .cells [.slice none 0 0, I 0] 1 false := by rw [hHb, get_set_ne (by omega), get_push_lt (by omega), hx4g _ (by simp only [nx]; omega)]; exact ivEI
    have b3 : Hb.get gt = .cells [.slice pu C.length cu, I (z + y)] 1 false := by rw [hHb, hgt]; exact ivEI
    have b4 : Ext H Hb := by rw [hHb]; (exact ex1)
    have b5 : OG 5 Hb (.slice pu C.length cu) g4 C.length (crs C) := by rw [hHb]; exact hO4.keep (by simp only [nx]; omega) (.inr fun h => by rw [get_set_ne (by omega), get_push_lt h])
    have b6 : (.slice pu C.length cu : Value) = .slice none 0 0 ∨ (gt ≠ g4 ∧ H.size + 3 ≤ g4) := by
      rcases hO4 with ⟨e, _⟩ | ⟨_, _, e, _⟩
      · exact .inl e
      · exact .inr ⟨by omega, by omega⟩
    have b7 : gt < Hb.size ∧ H.size + 3 ≤ gt := by omega
    rw [← hHb, ← hgt]
    clear hHb hgt hx4 hx4g hx4s hO4 hg4 b0
    refine AWp.cut (fun Ac hAc => ?_)
    have c4 := gtEI (t := 4) hAc
    have c5 := gtEI (t := 5) hAc
    have c6 := gtEI (t := 6) hAc
    have c23 := gtEI (t := 23) hAc
    have c24 := gtEI (t := 24) hAc
    have c25 := gtEI (t := 25) hAc
    clear a0 a1
    refine AWp.loop (fun A' H' => ∃ (k : Nat) (w : Value) (g : Nat), Ag [8, 26, 27, 28, 29, 30, 31, 32, 33, 34, 35, 36, 37, 38, 39, 40, 41, 42, 43, 44, 45, 46, 47, 48, 49, 50, 51, 52, 53] A' (put Ac (some 25) (I k)) ∧ k ≤ D.length ∧ H'.get gt = .cells [w, I (z + y)] 1 false ∧ OG 5 H' w g (C.length + k) (crs (C ++ (D.map (shC (2 * C.length))).take k)) ∧ (w = .slice none 0 0 ∨ (gt ≠ g ∧ H.size + 3 ≤ g)) ∧ Ext H H' ∧ H'.get (H.size + 1 + 1) = .cells [.slice none 0 0, I 0] 1 false ∧ (gt < H'.size ∧ H.size + 3 ≤ gt)) (fun A' _ => D.length - (intV (A' 25)).toNat) ?_ ?_
    · exact ⟨0, _, g4, agEI, by omega, b3, by simpa using b5, b6, b4, b2, b7⟩
    · clear b2 b3 b4 b5 b6 b7
      rintro A1 H2 ⟨k, w, g, hA, hk, k3, hO, hg, hx, k2, k6, k7⟩
      have d4 := hA.h 4 rfl
      have d5 := hA.h 5 rfl
      have d6 := hA.h 6 rfl
      have d23 := hA.h 23 rfl
      have d24 := hA.h 24 rfl
      have d25 := hA.h 25 rfl
      have hw := hO.one
      have hxs := hx.size
      by_cases hlt : k < D.length
      · have zf5 := fl5
        have zc5 := ck5
        obtain ⟨b1, cs, ro, rfl, hb, hgb, hl, hcc⟩ := hh k hlt
        have hgb2 := (hx.get b1 hb).trans hgb
        have hmk : (D.map (shC (2 * C.length))).take (k + 1) = (D.map (shC (2 * C.length))).take k ++ [shC (2 * C.length) (D.getD k cr0)] := by
          rw [List.take_succ_eq_append_getElem (by simpa using hlt)]
          simp [hlt]
        obtain ⟨⟨q1, q2⟩, ⟨q3, q4⟩, ⟨q5, q6⟩, q7, q8⟩ := harc hlt
        obtain ⟨x, hxx⟩ : ∃ x, D.getD k cr0 = x := ⟨_, rfl⟩
        obtain ⟨f0, f1, f2, f3', f4⟩ := rd5 hcc
        rw [hxx] at hcc f0 f1 f2 f3' f4 hmk q1 q2 q3 q4 q5 q6 q7 q8
        rw [cr5] at hcc
        have hgne : C.length + k ≠ 0 → gt ≠ g ∧ H.size + 3 ≤ g := fun h => hg.resolve_left (hO.nn h)
        repeat' first | refine rnEI ?_ | with_reducible refine And.intro (fun hc => ?_) (fun hc => ?_) | fail
        refine OG.append (z := 40) (n := C.length + k) (m := 1) apC ⟨by decide, by decide, ck5, rfl, by decide⟩ (hO.keep (H' := ((H2.push (.cells [I 0, I 0, I 0, I 0, I 0] 1 false)).set H2.size (.cells [I x.a, I x.b, I x.c, I x.d, I x.s] 1 false)).push (.cells [I (x.a + 2 * C.length), I (x.b + 2 * C.length), I (x.c + 2 * C.length), I (x.d + 2 * C.length), I x.s] 5 false)) (by simp only [nx]; omega) (.inr fun h => by rw [get_push_lt (by simp only [nx]; omega), get_set_ne (by omega), get_push_lt h])) (new := [I (x.a + 2 * C.length), I (x.b + 2 * C.length), I (x.c + 2 * C.length), I (x.d + 2 * C.length), I x.s]) (ro := false) (by exact ivEI) rfl (by omega) (one_cons rfl (one_cons rfl (one_cons rfl (one_cons rfl (one_cons rfl one_nil))))) (by omega) ?_
        rintro w5 g5 H5 hO5 hg5 hs5 hk5
        simp only [nx] at hg5 hs5 hk5
        have hw5 := hO5.one
        have gn : ∀ b, (b < H.size + 3 ∨ b = gt) → C.length + k ≠ 0 → b ≠ g := fun b hb' h => (by have := hgne h; omega)
        have e3 : H5.get gt = .cells [w, I (z + y)] 1 false := (by rw [hk5 _ (by omega) (gn _ (by omega)), get_push_lt (by simp only [nx]; omega), get_set_ne (by omega), get_push_lt (by omega)]; exact k3)
        have e2 : H5.get (H.size + 1 + 1) = .cells [.slice none 0 0, I 0] 1 false := (by rw [hk5 _ (by omega) (gn _ (by omega)), get_push_lt (by simp only [nx]; omega), get_set_ne (by omega), get_push_lt (by omega)]; exact k2)
        have e4 : Ext H H5 := ⟨by omega, fun b hb' => by rw [hk5 b (by omega) (gn b (by omega)), get_push_lt (by simp only [nx]; omega), get_set_ne (by omega), get_push_lt (by omega)]; exact hx.get b hb'⟩
        have hO5 : OG 5 H5 w5 g5 (C.length + (k + 1)) (crs (C ++ (D.map (shC (2 * C.length))).take (k + 1))) := by
          rw [hmk, ← List.append_assoc, crs_app (C ++ _)]
          exact hO5
        clear hk5
        repeat' first | refine rnEI ?_ | with_reducible refine And.intro (fun hc => ?_) (fun hc => ?_) | fail
        refine ⟨⟨k + 1, w5, g5, agEI, by omega, by exact ivEI, hO5.keep (by simp only [nx]; omega) (.inr fun h => by rw [get_set_ne (by omega)]), .inr ⟨by omega, by omega⟩, e4.set _ (by omega), by rw [get_set_ne (by omega)]; exact e2, by simp only [nx]; omega⟩, ?_⟩
        all_goals first | exact ivEI | refine smEI ?_ | skip
      · obtain rfl : k = D.length := by omega
        rw [List.take_of_length_le (by simp)] at hO
        have hml : (C ++ (D.map (shC (2 * C.length)))).length = C.length + D.length := by simp
        repeat' first | refine rnEI ?_ | with_reducible refine And.intro (fun hc => ?_) (fun hc => ?_) | fail
        refine hQ.out _ _ ⟨⟨w, rfl, OwN.low (OwN.of (lo := H.size + 3) (hO.keep ?_ (hg.imp id fun h1 h2 => ?_)) (hg.imp id fun h => h.2) hml.symm rfl) (by omega)⟩, by exact ex1⟩
        · simp only [nx]; omega
        · rw [get_set_ne (by omega)]
  · repeat' first | refine rnEI ?_ | with_reducible refine And.intro (fun hc => ?_) (fun hc => ?_) | fail
    obtain ⟨gt, hgt⟩ : ∃ X, X = H.size + 1 + 1 + 1 := ⟨_, rfl⟩
    obtain ⟨Hb, hHb⟩ : ∃ X, X = H4.set (H.size + 1 + 1 + 1) (.cells [.slice pu C.length cu, I (z + y)] 1 false) := ⟨_, rfl⟩
    simp only [nx] at hg4
    have b0 : Hb.size = H4.size := by rw [hHb]; simp only [nx]
    have b2 : Hb.get (H.size + 1 + 1) = .cells [.slice none 0 0, I 0] 1 false := by rw [hHb, get_set_ne (by omega), hx4g _ (by simp only [nx]; omega)]; exact ivEI
    have b3 : Hb.get gt = .cells [.slice pu C.length cu, I (z + y)] 1 false := by rw [hHb, hgt]; exact ivEI
    have b4 : Ext H Hb := by rw [hHb]; (exact ex1)
    have b5 : OG 5 Hb (.slice pu C.length cu) g4 C.length (crs C) := by rw [hHb]; exact hO4.keep (by simp only [nx]; omega) (.inr fun h => by rw [get_set_ne (by omega)])
    have b6 : (.slice pu C.length cu : Value) = .slice none 0 0 ∨ (gt ≠ g4 ∧ H.size + 3 ≤ g4) := .inr ⟨by omega, by omega⟩
    have b7 : gt < Hb.size ∧ H.size + 3 ≤ gt := by omega
    rw [← hHb, ← hgt]
    clear hHb hgt hx4 hx4g hx4s hO4 hg4 b0
    refine AWp.cut (fun Ac hAc => ?_)
    have c4 := gtEI (t := 4) hAc
    have c5 := gtEI (t := 5) hAc
    have c6 := gtEI (t := 6) hAc
    have c23 := gtEI (t := 23) hAc
    have c24 := gtEI (t := 24) hAc
    have c25 := gtEI (t := 25) hAc
    clear a0 a1
    refine AWp.loop (fun A' H' => ∃ (k : Nat) (w : Value) (g : Nat), Ag [8, 26, 27, 28, 29, 30, 31, 32, 33, 34, 35, 36, 37, 38, 39, 40, 41, 42, 43, 44, 45, 46, 47, 48, 49, 50, 51, 52, 53] A' (put Ac (some 25) (I k)) ∧ k ≤ D.length ∧ H'.get gt = .cells [w, I (z + y)] 1 false ∧ OG 5 H' w g (C.length + k) (crs (C ++ (D.map (shC (2 * C.length))).take k)) ∧ (w = .slice none 0 0 ∨ (gt ≠ g ∧ H.size + 3 ≤ g)) ∧ Ext H H' ∧ H'.get (H.size + 1 + 1) = .cells [.slice none 0 0, I 0] 1 false ∧ (gt < H'.size ∧ H.size + 3 ≤ gt)) (fun A' _ => D.length - (intV (A' 25)).toNat) ?_ ?_
    · exact ⟨0, _, g4, agEI, by omega, b3, by simpa using b5, b6, b4, b2, b7⟩
    · clear b2 b3 b4 b5 b6 b7
      rintro A1 H2 ⟨k, w, g, hA, hk, k3, hO, hg, hx, k2, k6, k7⟩
      have d4 := hA.h 4 rfl
      have d5 := hA.h 5 rfl
      have d6 := hA.h 6 rfl
      have d23 := hA.h 23 rfl
      have d24 := hA.h 24 rfl
      have d25 := hA.h 25 rfl
      have hw := hO.one
      have hxs := hx.size
      by_cases hlt : k < D.length
      · have zf5 := fl5
        have zc5 := ck5
        obtain ⟨b1, cs, ro, rfl, hb, hgb, hl, hcc⟩ := hh k hlt
        have hgb2 := (hx.get b1 hb).trans hgb
        have hmk : (D.map (shC (2 * C.length))).take (k + 1) = (D.map (shC (2 * C.length))).take k ++ [shC (2 * C.length) (D.getD k cr0)] := by
          rw [List.take_succ_eq_append_getElem (by simpa using hlt)]
          simp [hlt]
        obtain ⟨⟨q1, q2⟩, ⟨q3, q4⟩, ⟨q5, q6⟩, q7, q8⟩ := harc hlt
        obtain ⟨x, hxx⟩ : ∃ x, D.getD k cr0 = x := ⟨_, rfl⟩
        obtain ⟨f0, f1, f2, f3', f4⟩ := rd5 hcc
        rw [hxx] at hcc f0 f1 f2 f3' f4 hmk q1 q2 q3 q4 q5 q6 q7 q8
        rw [cr5] at hcc
        have hgne : C.length + k ≠ 0 → gt ≠ g ∧ H.size + 3 ≤ g := fun h => hg.resolve_left (hO.nn h)
        repeat' first | refine rnEI ?_ | with_reducible refine And.intro (fun hc => ?_) (fun hc => ?_) | fail
        refine OG.append (z := 40) (n := C.length + k) (m := 1) apC ⟨by decide, by decide, ck5, rfl, by decide⟩ (hO.keep (H' := ((H2.push (.cells [I 0, I 0, I 0, I 0, I 0] 1 false)).set H2.size (.cells [I x.a, I x.b, I x.c, I x.d, I x.s] 1 false)).push (.cells [I (x.a + 2 * C.length), I (x.b + 2 * C.length), I (x.c + 2 * C.length), I (x.d + 2 * C.length), I x.s] 5 false)) (by simp only [nx]; omega) (.inr fun h => by rw [get_push_lt (by simp only [nx]; omega), get_set_ne (by omega), get_push_lt h])) (new := [I (x.a + 2 * C.length), I (x.b + 2 * C.length), I (x.c + 2 * C.length), I (x.d + 2 * C.length), I x.s]) (ro := false) (by exact ivEI) rfl (by omega) (one_cons rfl (one_cons rfl (one_cons rfl (one_cons rfl (one_cons rfl one_nil))))) (by omega) ?_
        rintro w5 g5 H5 hO5 hg5 hs5 hk5
        simp only [nx] at hg5 hs5 hk5
        have hw5 := hO5.one
        have gn : ∀ b, (b < H.size + 3 ∨ b = gt) → C.length + k ≠ 0 → b ≠ g := fun b hb' h => (by have := hgne h; omega)
        have e3 : H5.get gt = .cells [w, I (z + y)] 1 false := (by rw [hk5 _ (by omega) (gn _ (by omega)), get_push_lt (by simp only [nx]; omega), get_set_ne (by omega), get_push_lt (by omega)]; exact k3)
        have e2 : H5.get (H.size + 1 + 1) = .cells [.slice none 0 0, I 0] 1 false := (by rw [hk5 _ (by omega) (gn _ (by omega)), get_push_lt (by simp only [nx]; omega), get_set_ne (by omega), get_push_lt (by omega)]; exact k2)
        have e4 : Ext H H5 := ⟨by omega, fun b hb' => by rw [hk5 b (by omega) (gn b (by omega)), get_push_lt (by simp only [nx]; omega), get_set_ne (by omega), get_push_lt (by omega)]; exact hx.get b hb'⟩
        have hO5 : OG 5 H5 w5 g5 (C.length + (k + 1)) (crs (C ++ (D.map (shC (2 * C.length))).take (k + 1))) := by
          rw [hmk, ← List.append_assoc, crs_app (C ++ _)]
          exact hO5
        clear hk5
        repeat' first | refine rnEI ?_ | with_reducible refine And.intro (fun hc => ?_) (fun hc => ?_) | fail
        refine ⟨⟨k + 1, w5, g5, agEI, by omega, by exact ivEI, hO5.keep (by simp only [nx]; omega) (.inr fun h => by rw [get_set_ne (by omega)]), .inr ⟨by omega, by omega⟩, e4.set _ (by omega), by rw [get_set_ne (by omega)]; exact e2, by simp only [nx]; omega⟩, ?_⟩
        all_goals first | exact ivEI | refine smEI ?_ | skip
      · obtain rfl : k = D.length := by omega
        rw [List.take_of_length_le (by simp)] at hO
        have hml : (C ++ (D.map (shC (2 * C.length)))).length = C.length + D.length := by simp
        repeat' first | refine rnEI ?_ | with_reducible refine And.intro (fun hc => ?_) (fun hc => ?_) | fail
        refine hQ.out _ _ ⟨⟨w, rfl, OwN.low (OwN.of (lo := H.size + 3) (hO.keep ?_ (hg.imp id fun h1 h2 => ?_)) (hg.imp id fun h => h.2) hml.symm rfl) (by omega)⟩, by exact ex1⟩
        · simp only [nx]; omega
        · rw [get_set_ne (by omega)]
end Go.Proofs.Ytpbbfephfmdgmaa.Rai
