/- A part of the walk: what functions of the program do, over an abstract heap. -/
import Derived.Test.YtpbbfephfmdgmaaEC
namespace Go.Proofs.Ytpbbfephfmdgmaa.Rai
open Go TP
set_option linter.unusedVariables false
set_option linter.unusedSimpArgs false
set_option maxRecDepth 20000
theorem tfED : (Try.prog.underlying 27 = some (.slice 54)) ∧ (el Try.prog 27 = some (none, 5)) ∧ (Try.prog.underlying 37 = some (.slice 65)) ∧ (el Try.prog 37 = some (none, 1)) ∧ (Try.prog.underlying 65 = some (.slice 2)) ∧ (el Try.prog 65 = some (none, 1)) ∧ (tk Try.prog 2 = some none) ∧ (tk Try.prog 27 = some none) ∧ (tk Try.prog 29 = some (some 2)) ∧ (tk Try.prog 54 = some (some 5)) ∧ (tk Try.prog 65 = some none) ∧ (cz Try.prog 2 = some 1) ∧ (bz Try.prog 2 = some 8) ∧ (cz Try.prog 54 = some 5) ∧ (bz Try.prog 54 = some 40) ∧ (cz Try.prog 65 = some 1) ∧ (bz Try.prog 65 = some 24) ∧ (zr Try.prog 2 = some (.int .i64 0)) ∧ (zr Try.prog 54 = some (.agg #[.int .i64 0, .int .i64 0, .int .i64 0, .int .i64 0, .int .i64 0])) ∧ (zr Try.prog 65 = some (.slice none 0 0)) ∧ (fo Try.prog 29 0 = some (0, none)) ∧ (fo Try.prog 54 0 = some (0, none)) ∧ (fo Try.prog 54 1 = some (1, none)) ∧ (fo Try.prog 54 4 = some (4, none)) := by
  refine ⟨?_, ?_, ?_, ?_, ?_, ?_, ?_, ?_, ?_, ?_, ?_, ?_, ?_, ?_, ?_, ?_, ?_, ?_, ?_, ?_, ?_, ?_, ?_, ?_⟩ <;> kernel_rfl
theorem rnED {a b : Prop} (hb : b) (h : Later b → a := by
  intro hb
  first
  | ((with_reducible first | refine AOps.nil ?_ | refine athen_n ?_ | refine athen_r ?_ | refine athen_e ?_ | refine ablock_n ?_ | refine ablock_r ?_ | refine ablock_s ?_ | refine AWp.seq' ?_ | refine AWp.block ?_ | refine AWp.skip ?_ | refine AWp.exit ?_ | refine AWp.ret ?_ | refine AWp.region ?_ | (refine ablock_e ?_ ?_; focus rfl)); repeat (with_reducible first | refine AOps.nil ?_ | refine athen_n ?_ | refine athen_r ?_ | refine athen_e ?_ | refine ablock_n ?_ | refine ablock_r ?_ | refine ablock_s ?_ | refine AWp.seq' ?_ | refine AWp.block ?_ | refine AWp.skip ?_ | refine AWp.exit ?_ | refine AWp.ret ?_ | refine AWp.region ?_ | (refine ablock_e ?_ ?_; focus rfl)))
  | (refine AOps.guardu rfl rfl rfl ?_ ?_; focus (simp (disch := (first | omega | (simp only [nx]; first | done | omega))) only [Value.bool.injEq, Bool.and_true, Bool.true_and, Bool.and_false, Bool.false_and, beq_self_eq_true, bne, Bool.not_true, Bool.not_false, sx, nx, dx, ↓reduceIte, reduceCtorEq, Nat.reduceEqDiff, ne_eq, not_false_eq_true, *]; done))
  | ((first | refine AOps.cons2 rfl rfl fun K hK => ?_ | refine AWp.cond rfl fun X Y hX hY => ?_ | refine AOps.guard rfl rfl rfl fun X Y hX hY => ?_ | refine aret_r ?_ | refine aret_n ?_); simp (disch := (first | omega | (simp only [nx]; first | done | omega))) only [acond_bool, aresK, retv, xxq, tfED, sliceK, bnd, appendK, appsK, copyK, clearK, makeSliceK, buildSliceK, buildK, lookupK, mapPutK, mapOf, convK, allocK, indexK, partK, xxa, xxb, xxc, bne, Int.reduceEq, Int.reduceBEq, Int.reduceNe, Int.reduceBNe, Int.reduceLE, Int.reduceGT, Int.reduceGE, Int.reduceNeg, ↓reduceIte, reduceCtorEq, Nat.reduceEqDiff, Nat.reduceAdd, Nat.reduceMul, Nat.reduceSub, Nat.reduceLT, Int.reduceAdd, Int.reduceSub, Int.reduceMul, Int.reduceLT, Int.reduceToNat, ne_eq, *]; (repeat first | ((with_reducible refine And.intro (fun hc => ?_) (fun hc => absurd hc (by omega))); clear hc) | ((with_reducible refine And.intro (fun hc => absurd hc (by omega)) (fun hc => ?_)); clear hc) | ((with_reducible refine And.intro ?_ ?_); focus ((first | omega | assumption | exact cok _ rfl | exact one_ints _ | exact one_map fun _ => rfl | ((repeat refine one_cons (by first | rfl | assumption) ?_); exact one_nil) | rfl | decide | (intro u hu; cases hu)); done)) | (with_reducible refine (fun hc => ?_ : _ → _); clear hc)); (first | refine hK.out _ _ ?_ | refine ACalls.hk hK ?_ | refine appendK.hk hK ?_ | refine (fun (q : _ ∧ _) => And.intro (hK.out _ _ q.1) (hK.out _ _ q.2)) ?_ | refine hX.out ?_ | refine hY.out ?_ | refine (fun (q : (_ → _) ∧ (_ → _)) => And.intro (fun hc => hX.out (q.1 hc)) (fun hc => hY.out (q.2 hc))) ?_ | refine (fun (q : (_ → _) ∧ (_ → _)) => And.intro (fun hc => hY.out (q.1 hc)) (fun hc => hX.out (q.2 hc))) ?_ | skip))
  exact hb.out) : a := h ⟨hb⟩
theorem rgED {a b : Prop} (hb : b) (h : Later b → a := by
  intro hb
  first
  | with_reducible refine APl.nil ?_
  | (refine APl.passg rfl rfl rfl rfl rfl rfl (.inl ?_) ?_; focus (simp (disch := (first | omega | (simp only [nx]; first | done | omega))) only [Value.bool.injEq, Bool.and_true, Bool.true_and, Bool.and_false, Bool.false_and, beq_self_eq_true, bne, Bool.not_true, Bool.not_false, sx, nx, dx, ↓reduceIte, reduceCtorEq, Nat.reduceEqDiff, ne_eq, not_false_eq_true, *]; done))
  | (refine APl.passg rfl rfl rfl rfl rfl rfl (.inr ?_) ?_; focus (simp (disch := (first | omega | (simp only [nx]; first | done | omega))) only [Value.bool.injEq, Bool.and_true, Bool.true_and, Bool.and_false, Bool.false_and, beq_self_eq_true, bne, Bool.not_true, Bool.not_false, sx, nx, dx, ↓reduceIte, reduceCtorEq, Nat.reduceEqDiff, ne_eq, not_false_eq_true, *]; done))
  | (refine APl.actp rfl rfl rfl rfl rfl rfl (.inl ?_) ?_; focus (simp (disch := (first | omega | (simp only [nx]; first | done | omega))) only [Value.bool.injEq, Bool.and_true, Bool.true_and, Bool.and_false, Bool.false_and, beq_self_eq_true, bne, Bool.not_true, Bool.not_false, sx, nx, dx, ↓reduceIte, reduceCtorEq, Nat.reduceEqDiff, ne_eq, not_false_eq_true, *]; done))
  | (refine APl.actp rfl rfl rfl rfl rfl rfl (.inr ?_) ?_; focus (simp (disch := (first | omega | (simp only [nx]; first | done | omega))) only [Value.bool.injEq, Bool.and_true, Bool.true_and, Bool.and_false, Bool.false_and, beq_self_eq_true, bne, Bool.not_true, Bool.not_false, sx, nx, dx, ↓reduceIte, reduceCtorEq, Nat.reduceEqDiff, ne_eq, not_false_eq_true, *]; done))
  | ((first | refine APl.pure2 rfl rfl rfl rfl fun Kx hKx => ?_ | refine APl.load rfl rfl rfl fun Kx hKx => ?_ | refine APl.slice rfl rfl rfl fun Kx hKx => ?_ | refine APl.act2 rfl rfl rfl rfl fun Kx hKx => ?_ | (refine APl.pureg rfl rfl rfl rfl rfl rfl rfl ?_ fun Kx hKx => ?_; focus (simp (disch := (first | omega | (simp only [nx]; first | done | omega))) only [Value.bool.injEq, Bool.and_true, Bool.true_and, Bool.and_false, Bool.false_and, beq_self_eq_true, bne, Bool.not_true, Bool.not_false, sx, nx, dx, ↓reduceIte, reduceCtorEq, Nat.reduceEqDiff, ne_eq, not_false_eq_true, *]; done)) | (refine APl.loadg rfl rfl rfl rfl rfl ?_ fun Kx hKx => ?_; focus (simp (disch := (first | omega | (simp only [nx]; first | done | omega))) only [Value.bool.injEq, Bool.and_true, Bool.true_and, Bool.and_false, Bool.false_and, beq_self_eq_true, bne, Bool.not_true, Bool.not_false, sx, nx, dx, ↓reduceIte, reduceCtorEq, Nat.reduceEqDiff, ne_eq, not_false_eq_true, *]; done)) | (refine APl.actg rfl rfl rfl rfl rfl rfl rfl ?_ fun Kx hKx => ?_; focus (simp (disch := (first | omega | (simp only [nx]; first | done | omega))) only [Value.bool.injEq, Bool.and_true, Bool.true_and, Bool.and_false, Bool.false_and, beq_self_eq_true, bne, Bool.not_true, Bool.not_false, sx, nx, dx, ↓reduceIte, reduceCtorEq, Nat.reduceEqDiff, ne_eq, not_false_eq_true, *]; done))); simp (disch := (first | omega | (simp only [nx]; first | done | omega))) only [heldIn_iff, List.zipIdx_cons, List.zipIdx_nil, List.map_cons, List.map_nil, xxq, tfED, sliceK, bnd, appendK, appsK, copyK, clearK, makeSliceK, buildSliceK, buildK, lookupK, mapPutK, mapOf, convK, allocK, indexK, partK, xxa, xxb, xxc, bne, Int.reduceEq, Int.reduceBEq, Int.reduceNe, Int.reduceBNe, Int.reduceLE, Int.reduceGT, Int.reduceGE, Int.reduceNeg, ↓reduceIte, reduceCtorEq, Nat.reduceEqDiff, Nat.reduceAdd, Nat.reduceMul, Nat.reduceSub, Nat.reduceLT, Int.reduceAdd, Int.reduceSub, Int.reduceMul, Int.reduceLT, Int.reduceToNat, ne_eq, *]; (repeat first | ((with_reducible refine And.intro (fun hc => ?_) (fun hc => absurd hc (by omega))); clear hc) | ((with_reducible refine And.intro (fun hc => absurd hc (by omega)) (fun hc => ?_)); clear hc) | ((with_reducible refine And.intro ?_ ?_); focus ((first | omega | assumption | exact cok _ rfl | exact one_ints _ | exact one_map fun _ => rfl | ((repeat refine one_cons (by first | rfl | assumption) ?_); exact one_nil) | rfl | decide | (intro u hu; cases hu)); done)) | (with_reducible refine (fun hc => ?_ : _ → _); clear hc)); (first | refine hKx.out _ ?_ | refine hKx.out _ _ ?_ | refine ACalls.hkx hKx ?_ | refine appendK.hkx hKx ?_ | refine (fun (q : _ ∧ _) => And.intro (hKx.out _ q.1) (hKx.out _ q.2)) ?_ | refine (fun (q : (_ → _) ∧ _) => And.intro (fun hc => hKx.out _ (q.1 hc)) (hKx.out _ q.2)) ?_ | (refine hKx.out _ _ ?_ ?_; focus (simp (disch := (first | omega | (simp only [nx]; first | done | omega))) only [heldIn_iff, List.zipIdx_cons, List.zipIdx_nil, List.map_cons, List.map_nil, xxq, tfED, sliceK, bnd, appendK, appsK, copyK, clearK, makeSliceK, buildSliceK, buildK, lookupK, mapPutK, mapOf, convK, allocK, indexK, partK, xxa, xxb, xxc, bne, Int.reduceEq, Int.reduceBEq, Int.reduceNe, Int.reduceBNe, Int.reduceLE, Int.reduceGT, Int.reduceGE, Int.reduceNeg, ↓reduceIte, reduceCtorEq, Nat.reduceEqDiff, Nat.reduceAdd, Nat.reduceMul, Nat.reduceSub, Nat.reduceLT, Int.reduceAdd, Int.reduceSub, Int.reduceMul, Int.reduceLT, Int.reduceToNat, ne_eq, *]; first | done | trivial))))
  exact hb.out) : a := h ⟨hb⟩
theorem hlED {p b : Prop} (hb : b) (h : p := by simp (disch := (first | omega | (simp only [nx]; first | done | omega))) only [heldIn_iff, List.zipIdx_cons, List.zipIdx_nil, List.map_cons, List.map_nil, xxq, tfED, sliceK, bnd, appendK, appsK, copyK, clearK, makeSliceK, buildSliceK, buildK, lookupK, mapPutK, mapOf, convK, allocK, indexK, partK, xxa, xxb, xxc, bne, Int.reduceEq, Int.reduceBEq, Int.reduceNe, Int.reduceBNe, Int.reduceLE, Int.reduceGT, Int.reduceGE, Int.reduceNeg, ↓reduceIte, reduceCtorEq, Nat.reduceEqDiff, Nat.reduceAdd, Nat.reduceMul, Nat.reduceSub, Nat.reduceLT, Int.reduceAdd, Int.reduceSub, Int.reduceMul, Int.reduceLT, Int.reduceToNat, ne_eq, *]; first | done | trivial) : p ∧ b := ⟨h, hb⟩
theorem ivED {p : Prop} (h : p := by first | omega | ((repeat first | exact Ext.refl _ | assumption | refine Ext.push ?_ _ | refine Ext.set ?_ _ (by first | omega | (simp only [nx, *]; omega)) | (apply Ext.up; focus (assumption; done))); done) | (simp (disch := (first | omega | (simp only [nx]; first | done | omega))) only [xxq, xxa, xxb, xxc, bne, Int.reduceEq, Int.reduceBEq, Int.reduceNe, Int.reduceBNe, Int.reduceLE, Int.reduceGT, Int.reduceGE, Int.reduceNeg, ↓reduceIte, reduceCtorEq, Nat.reduceEqDiff, Nat.reduceAdd, Nat.reduceMul, Nat.reduceSub, Nat.reduceLT, Int.reduceAdd, Int.reduceSub, Int.reduceMul, Int.reduceLT, Int.reduceToNat, ne_eq, *, intV_int]; first | done | omega | rfl | exact congrArg (Value.int .i64) (by omega) | ((repeat first | exact Ext.refl _ | assumption | refine Ext.push ?_ _ | refine Ext.set ?_ _ (by first | omega | (simp only [nx, *]; omega)) | (apply Ext.up; focus (assumption; done))); done)) | rfl) : p := h
theorem smED {a b : Prop} (hb : b) (h : Later b → a := by intro hb; simp (disch := (first | omega | (simp only [nx]; first | done | omega))) only [xxq, xxa, xxb, xxc, bne, Int.reduceEq, Int.reduceBEq, Int.reduceNe, Int.reduceBNe, Int.reduceLE, Int.reduceGT, Int.reduceGE, Int.reduceNeg, ↓reduceIte, reduceCtorEq, Nat.reduceEqDiff, Nat.reduceAdd, Nat.reduceMul, Nat.reduceSub, Nat.reduceLT, Int.reduceAdd, Int.reduceSub, Int.reduceMul, Int.reduceLT, Int.reduceToNat, ne_eq, *, intV_int]; exact hb.out) : a := h ⟨hb⟩
theorem gtED {A F : Fr} {t : Nat} {v : Value} (h : Ag [] A F) (e : F t = v := by simp (disch := (first | omega | (simp only [nx]; first | done | omega))) only [xxq, xxa, xxb, xxc, bne, Int.reduceEq, Int.reduceBEq, Int.reduceNe, Int.reduceBNe, Int.reduceLE, Int.reduceGT, Int.reduceGE, Int.reduceNeg, ↓reduceIte, reduceCtorEq, Nat.reduceEqDiff, Nat.reduceAdd, Nat.reduceMul, Nat.reduceSub, Nat.reduceLT, Int.reduceAdd, Int.reduceSub, Int.reduceMul, Int.reduceLT, Int.reduceToNat, ne_eq, *, intV_int]; exact rfl) : A t = v := (h.h t rfl).trans e
theorem agED {D : List Nat} {A F : Fr} (h : Ag D A F := by
  repeat (with_reducible first | exact Ag.refl _ _ | refine Ag.nop ?_ | refine Ag.dead rfl ?_ | (refine Ag.live ?_ ?_; focus exact ivED) | refine Ag.dr rfl ?_ | (refine Ag.lr ?_ ?_; focus exact ivED) | refine Ag.up (by assumption) rfl ?_)) : Ag D A F := h
theorem sdED {p : Prop} (h : p := by first | omega | assumption | (simp (disch := (first | omega | (simp only [nx]; first | done | omega))) only [xxq, tfED, sliceK, bnd, appendK, appsK, copyK, clearK, makeSliceK, buildSliceK, buildK, lookupK, mapPutK, mapOf, convK, allocK, indexK, partK, xxa, xxb, xxc, bne, Int.reduceEq, Int.reduceBEq, Int.reduceNe, Int.reduceBNe, Int.reduceLE, Int.reduceGT, Int.reduceGE, Int.reduceNeg, ↓reduceIte, reduceCtorEq, Nat.reduceEqDiff, Nat.reduceAdd, Nat.reduceMul, Nat.reduceSub, Nat.reduceLT, Int.reduceAdd, Int.reduceSub, Int.reduceMul, Int.reduceLT, Int.reduceToNat, ne_eq, *]; first | done | omega | rfl)) : p := h
set_option maxHeartbeats 2000000 in
theorem owners_c {H : Heap} {v : Value} {R : List (List Int)} {M : Nat} (hV : RowsI H v R) (hR : R.length ≤ 1000) (hM : M ≤ 1000) (hS : ∀ i, i < R.length → (R.getD i []).length ≤ 1000) (hb : ∀ i, i < R.length → ∀ x ∈ R.getD i [], ∃ b : Nat, x = b ∧ b < M) :
    ACalls Try.prog 60 [v, I M] H fun u H' => (∃ g, u = .slice (some ⟨g, 0, none⟩) M (M + 1) ∧ g < H'.size ∧ H'.get g = .cells (ints (ownO M R R.length)) 1 false) ∧ Ext H H' := by
  obtain ⟨p, k, rfl, hp, hh⟩ := hV
  have hrep := rep_ints M 0
  have hrl : (List.replicate M (0 : Int)).length = M := by simp
  refine ACalls.body Try.func60 rfl Try.ntmps60 (rs := [.tmp 4]) rfl (by simp) rfl fun Q hQ A hA => ?_
  have a0 := hA 0 _ _ rfl
  have a1 := hA 1 _ _ rfl
  clear hA
  repeat' first | refine rnED ?_ | with_reducible refine And.intro (fun hc => ?_) (fun hc => ?_) | fail
  refine AWp.cut (fun Ac hAc => ?_)
  have c5 := gtED (t := 5) hAc
  have c12 := gtED (t := 12) hAc
  have c13 := gtED (t := 13) hAc
  have c14 := gtED (t := 14) hAc
  clear a0 a1
  refine AWp.loop (fun A' H' => ∃ (k : Nat), Ag [6, 7, 9, 15, 16, 17, 18, 19, 20, 21, 22, 23, 24, 25, 26, 27, 28, 29, 30] A' (put Ac (some 14) (I k)) ∧ k ≤ R.length ∧ H'.get H.size = .cells (ints (ownO M R k)) 1 false ∧ H.size < H'.size ∧ Ext H H') (fun A' _ => R.length - (intV (A' 14)).toNat) ?_ ?_
  · exact ⟨0, agED, by omega, by exact ivED, by exact ivED, by exact ex1⟩
  · rintro A1 H1 ⟨k, hA, hk, w1, w2, hx⟩
    have d5 := hA.h 5 rfl
    have d12 := hA.h 12 rfl
    have d13 := hA.h 13 rfl
    have d14 := hA.h 14 rfl
    by_cases hlt : k < R.length
    · obtain ⟨b, cs, ro, r, rfl, hbs, hg, hc, p2, k2, rfl, hp2, hh2⟩ := hh k hlt
      have hg1 := (hx.get b hbs).trans hg
      have hxs := hx.size
      have hbk := hb k hlt
      have hSk := hS k hlt
      have hstep : ownO M R (k + 1) = ownI (ownO M R k) k (R.getD k []) (R.getD k []).length := rfl
      have hol := ownO_len M R k
      generalize ownO M R k = acc at *
      generalize R.getD k [] = row at *
      repeat' first | refine rnED ?_ | with_reducible refine And.intro (fun hc => ?_) (fun hc => ?_) | fail
      refine AWp.cut (fun Ae hAe => ?_)
      have e5 := gtED (t := 5) hAe
      have e6 := gtED (t := 6) hAe
      have e12 := gtED (t := 12) hAe
      have e13 := gtED (t := 13) hAe
      have e14 := gtED (t := 14) hAe
      have e19 := gtED (t := 19) hAe
      have e20 := gtED (t := 20) hAe
      have e21 := gtED (t := 21) hAe
      refine AWp.loop (fun A' H' => ∃ (j : Nat), Ag [9, 22, 23, 24, 25, 26, 27, 28, 29] A' (put Ae (some 21) (I j)) ∧ j ≤ row.length ∧ H'.get H.size = .cells (ints (ownI acc k row j)) 1 false ∧ H.size < H'.size ∧ Ext H H') (fun A' _ => row.length - (intV (A' 21)).toNat) ?_ ?_
      · exact ⟨0, agED, by omega, w1, w2, hx⟩
      · rintro A2 H2 ⟨j, hA2, hj, q1, q2, hx2⟩
        have f5 := hA2.h 5 rfl
        have f6 := hA2.h 6 rfl
        have f12 := hA2.h 12 rfl
        have f13 := hA2.h 13 rfl
        have f14 := hA2.h 14 rfl
        have f19 := hA2.h 19 rfl
        have f20 := hA2.h 20 rfl
        have f21 := hA2.h 21 rfl
        by_cases hjl : j < row.length
        · obtain ⟨b3, cs3, ro3, rfl, hb3, hg3, hc3⟩ := hh2 j hjl
          have hg4 := (hx2.get b3 hb3).trans hg3
          obtain ⟨a, ha, haM⟩ := hbk (row.getD j 0) (by simp [hjl])
          rw [ha] at hc3
          have hil := ownI_len acc k row j
          have hst : ownI acc k row (j + 1) = (ownI acc k row j).set a (k : Int) := by
            show (ownI acc k row j).set (row.getD j 0).toNat (k : Int) = _
            rw [ha, Int.toNat_natCast]
          have hiv := ints_len (ownI acc k row j)
          have hset := ints_set (ownI acc k row j) a k
          rw [← hst] at hset
          generalize ownI acc k row j = m at *
          repeat' first | refine rnED ?_ | with_reducible refine And.intro (fun hc => ?_) (fun hc => ?_) | fail
          refine ⟨⟨j + 1, agED, by omega, ?_, ?_, ?_⟩, ?_⟩
          all_goals first | exact ivED | refine smED ?_ | skip
        · obtain rfl : j = row.length := by omega
          rw [← hstep] at q1
          repeat' first | refine rnED ?_ | with_reducible refine And.intro (fun hc => ?_) (fun hc => ?_) | fail
          refine ⟨⟨k + 1, agED, by omega, q1, q2, hx2⟩, ?_⟩
          all_goals first | exact ivED | refine smED ?_ | skip
    · obtain rfl : k = R.length := by omega
      repeat' first | refine rnED ?_ | with_reducible refine And.intro (fun hc => ?_) (fun hc => ?_) | fail
      exact hQ.out _ _ ⟨⟨H.size, rfl, w2, w1⟩, hx⟩
theorem RowI.one2 {H : Heap} {v : Value} {l : List Int} (h : RowI H v l) : v.oneCell' = true := by obtain ⟨p, k, rfl, _⟩ := h; rfl
/-- The sum of the signs where two components meet. -/
def lnk (C : List Cr) (R : List (List Int)) (i j : Nat) : Nat → Int
  | 0 => 0
  | k + 1 => if ((C.getD k cr0).a ∈ R.getD i [] ∧ (C.getD k cr0).b ∈ R.getD j []) ∨ ((C.getD k cr0).a ∈ R.getD j [] ∧ (C.getD k cr0).b ∈ R.getD i []) then lnk C R i j k + (C.getD k cr0).s else lnk C R i j k
theorem lnk_bd {C : List Cr} (h : sgnAll C) (R : List (List Int)) (i j : Nat) : ∀ k, k ≤ C.length → -(k : Int) ≤ lnk C R i j k ∧ lnk C R i j k ≤ k
  | 0, _ => by simp [lnk]
  | k + 1, hk => by
    have h1 := lnk_bd h R i j k (by omega)
    have h2 : (C.getD k cr0).s = 1 ∨ (C.getD k cr0).s = -1 := h k (by omega)
    unfold lnk; split <;> omega
/-- What 'LinkingNumber' returns. -/
def linkV (C : List Cr) (z i j : Int) : Int × Int := if IsD C z then
    (if (0 ≤ i ∧ i ≤ ((regs (nxtC C) (2 * C.length) (2 * C.length)).2.length : Int) - 1) ∧ 0 ≤ j ∧ j ≤ ((regs (nxtC C) (2 * C.length) (2 * C.length)).2.length : Int) - 1 then
      (if i = j then (0, 5) else ((lnk C (regs (nxtC C) (2 * C.length) (2 * C.length)).2 i.toNat j.toNat C.length).tdiv 2, 0)) else (0, 4)) else (0, 1)
set_option maxHeartbeats 8000000 in
theorem specLinkingNumber_c {H : Heap} {v : Value} {C : List Cr} (z i j : Int) (hC : RdC H v C) (hS : C.length ≤ 1048576) : ACalls Try.prog 29 [.agg #[v, I z], I i, I j] H fun u H' => u = .tuple #[I (linkV C z i j).1, I (linkV C z i j).2] ∧ Ext H H' := by
  have hC1 := fun {H' : Heap} (h : Ext H H') => hC.ext h
  have hone := hC.one
  unfold linkV
  by_cases h : IsD C z
  · have hd : decide (IsD C z) = true := decide_eq_true h
    rw [if_pos h]
    have hrs := regs_short (s := nxtC C) (N := 2 * C.length) (fun x hx => nxtC_lt h.2.2.1 hx) (2 * C.length) (Nat.le_refl _)
    have hn := h.1
    have hsg := h.2.2.1.1
    obtain ⟨R, hR⟩ : ∃ R, (regs (nxtC C) (2 * C.length) (2 * C.length)).2 = R := ⟨_, rfl⟩
    rw [hR] at hrs ⊢
    obtain ⟨hr1, hr2⟩ := hrs
    by_cases h1 : (0 ≤ i ∧ i ≤ (R.length : Int) - 1)
    · have h1d : decide (0 ≤ i ∧ i ≤ (R.length : Int) - 1) = true := decide_eq_true h1
      by_cases h2 : (0 ≤ j ∧ j ≤ (R.length : Int) - 1)
      · have h2d : decide (0 ≤ j ∧ j ≤ (R.length : Int) - 1) = true := decide_eq_true h2
        rw [if_pos ⟨h1, h2⟩]
        by_cases h3 : i = j
        · have h3d : (i == j) = true := by rw [beq_iff_eq]; exact h3
          rw [if_pos h3]
          clear h3 h1 h2
          refine ACalls.body Try.func29 rfl Try.ntmps29 (rs := [.tmp 6, .tmp 7]) rfl (by simp) rfl fun Q hQ A hA => ?_
          have a0 := hA 0 _ _ rfl
          have a1 := hA 1 _ _ rfl
          have a2 := hA 2 _ _ rfl
          clear hA
          repeat' first | refine rnED ?_ | (refine (specIsDiagram_c z (hC1 (by exact ex1)) hS).mono ?_; rintro u H1 ⟨rfl, hx1⟩; rw [hd]; have hx1g := hx1.get; have hx1s := hx1.size; (try simp only [nx] at hx1s)) | (refine (l25Components_c z (hC1 (by exact ex1)) h.1 h.2.2.1).mono ?_; rintro u H2 ⟨hO, hx2⟩; rw [hR] at hO; obtain ⟨pr, cr, rfl⟩ := hO.shape; have hx2g := hx2.get; have hx2s := hx2.size; (try simp only [nx] at hx2s)) | ((with_reducible refine (l01In_c i _ _).mono ?_; rintro v H' ⟨rfl, rfl⟩; rw [h1d])) | ((refine (l01In_c _ _ _).mono ?_; rintro v H' ⟨rfl, rfl⟩; rw [h2d])) | with_reducible refine And.intro (fun hc => ?_) (fun hc => ?_) | fail
          exact hQ.out _ _ ⟨rfl, by exact ex1⟩
        · have h3d : (i == j) = false := by rw [beq_eq_false_iff_ne]; exact h3
          rw [if_neg h3]
          obtain ⟨i, rfl⟩ : ∃ i' : Nat, i = i' := ⟨i.toNat, by omega⟩
          obtain ⟨j, rfl⟩ : ∃ j' : Nat, j = j' := ⟨j.toNat, by omega⟩
          have hiR : i < R.length := by omega
          have hjR : j < R.length := by omega
          have hri := hr2 i hiR
          have hrj := hr2 j hjR
          simp only [Int.toNat_natCast]
          obtain ⟨p, kk, hvv, hp, hh⟩ := id hC
          subst hvv
          clear h3 h1 h2
          refine ACalls.body Try.func29 rfl Try.ntmps29 (rs := [.tmp 6, .tmp 7]) rfl (by simp) rfl fun Q hQ A hA => ?_
          have a0 := hA 0 _ _ rfl
          have a1 := hA 1 _ _ rfl
          have a2 := hA 2 _ _ rfl
          clear hA
          repeat' first | refine rnED ?_ | (refine (specIsDiagram_c z (hC1 (by exact ex1)) hS).mono ?_; rintro u H1 ⟨rfl, hx1⟩; rw [hd]; have hx1g := hx1.get; have hx1s := hx1.size; (try simp only [nx] at hx1s)) | (refine (l25Components_c z (hC1 (by exact ex1)) h.1 h.2.2.1).mono ?_; rintro u H2 ⟨hO, hx2⟩; rw [hR] at hO; obtain ⟨pr, cr, rfl⟩ := hO.shape; have hx2g := hx2.get; have hx2s := hx2.size; (try simp only [nx] at hx2s)) | ((with_reducible refine (l01In_c i _ _).mono ?_; rintro v H' ⟨rfl, rfl⟩; rw [h1d])) | ((refine (l01In_c _ _ _).mono ?_; rintro v H' ⟨rfl, rfl⟩; rw [h2d])) | with_reducible refine And.intro (fun hc => ?_) (fun hc => ?_) | fail
          obtain ⟨H2, hH2⟩ : ∃ x, x = H' := ⟨_, rfl⟩
          subst hH2
          have hrows := hO.rows
          obtain ⟨pr', kr', e0, hpr, hhr⟩ := hrows
          injection e0 with e0 e1 e2
          subst e0 e2
          obtain ⟨bi, ci, roi, ri, rfl, hbi, hgi, hci, hRi⟩ := hhr i hiR
          obtain ⟨bj, cj, roj, rj, ebj, hbj, hgj, hcj, hRj⟩ := hhr j hjR
          injection ebj with ebj; injection ebj with ebj
          subst ebj
          rw [hgi] at hgj
          injection hgj with e3 e4 e5
          subst e3 e5
          have f1 : H2.get H.size = .cells [.slice p C.length kk, I z] 1 false := by exact ivED
          have f2 : H.size < H2.size := by omega
          have f3 : Ext H H2 := by exact ex1
          clear hx1 hx2 hx1g hx2g hx1s hx2s hO
          refine AWp.cut (fun Ac hAc => ?_)
          have c1 := gtED (t := 1) hAc
          have c2 := gtED (t := 2) hAc
          have c3 := gtED (t := 3) hAc
          have c8 := gtED (t := 8) hAc
          have c10 := gtED (t := 10) hAc
          have c11 := gtED (t := 11) hAc
          clear a0 a1 a2
          refine AWp.loop (fun A' H' => ∃ (k : Nat), Ag [12, 34, 35, 36, 37, 38, 39, 40, 41, 42, 43, 44, 45, 46, 47, 48, 49, 50, 51, 52, 53, 54, 55, 56, 57, 58, 59, 60, 61, 62, 63, 64, 65, 66, 67, 68, 69, 70, 71, 72, 73, 74, 75, 76, 77, 78, 79, 80, 81, 82, 83] A' (put (put Ac (some 10) (I (lnk C R i j k))) (some 11) (I k)) ∧ k ≤ C.length ∧ Ext H2 H') (fun A' _ => C.length - (intV (A' 11)).toNat) ?_ ?_
          · exact ⟨0, (by rw [show lnk C R i j 0 = 0 from rfl]; exact agED), by omega, Ext.refl _⟩
          · rintro A1 H3 ⟨k, hA, hk, hx3⟩
            have d1 := hA.h 1 rfl
            have d2 := hA.h 2 rfl
            have d3 := hA.h 3 rfl
            have d8 := hA.h 8 rfl
            have d10 := hA.h 10 rfl
            have d11 := hA.h 11 rfl
            have g1 := (hx3.get _ f2).trans f1
            have g2 := (hx3.get _ hbi).trans hgi
            have hxs := hx3.size
            have hri1 := hRi.one2
            have hrj1 := hRj.one2
            by_cases hlt : k < C.length
            · obtain ⟨b1, cs, ro, rfl, hb, hg, hl, hcc⟩ := hh k hlt
              have hgb := ((f3.trans hx3).get b1 hb).trans hg
              have hfs := f3.size
              obtain ⟨x, hxx⟩ : ∃ x, C.getD k cr0 = x := ⟨_, rfl⟩
              have hbd := lnk_bd hsg R i j k hk
              have hsx : x.s = 1 ∨ x.s = -1 := by rw [← hxx]; exact hsg k hlt
              have hsx2 : -1 ≤ x.s ∧ x.s ≤ 1 := by omega
              have hst : lnk C R i j (k + 1) = if (decide (x.a ∈ R.getD i []) && decide (x.b ∈ R.getD j []) || decide (x.a ∈ R.getD j []) && decide (x.b ∈ R.getD i [])) = true then lnk C R i j k + x.s else lnk C R i j k := by
                show (if _ then _ else _) = _
                rw [hxx]
                simp only [Bool.or_eq_true, Bool.and_eq_true, decide_eq_true_eq]
              rw [hxx] at hcc
              rw [cr5] at hcc
              have hxr : Ext H2 ((H3.push (.cells [I 0, I 0, I 0, I 0, I 0] 1 false)).set H3.size (.cells [I x.a, I x.b, I x.c, I x.d, I x.s] 1 false)) := (hx3.push _).set _ (by omega)
              clear hsx hxx hh hhr hr2 hx3
              generalize lnk C R i j k = L at *
              rcases hq1 : decide (x.a ∈ R.getD i []) with _ | _
              · rcases hq3 : decide (x.a ∈ R.getD j []) with _ | _
                · have hst2 : lnk C R i j (k + 1) = L := by rw [hst, hq1, hq3]; rfl
                  clear hst
                  repeat' first | refine rnED ?_ | with_reducible refine And.intro (fun hc => ?_) (fun hc => ?_) | fail
                  refine AWp.planned [0,1,2,3,4,5,6,7,8,9,10,11,12,13,14,15,16,17,18,19,20,21,22,23,24,25,26,27,28,29,30,31,32,33] mixed (by kernel_rfl) ?_
                  repeat' first | refine rgED ?_ | (refine (l25Has_c (v := ri) (l := R.getD i []) (hRi.ext (by exact ex1)) (by omega) x.a).mono ?_; rintro v H' ⟨rfl, rfl⟩; rw [hq1]; refine hlED ?_) | (refine (l25Has_c (v := rj) (l := R.getD j []) (hRj.ext (by exact ex1)) (by omega) x.a).mono ?_; rintro v H' ⟨rfl, rfl⟩; rw [hq3]; refine hlED ?_) | with_reducible refine And.intro (fun hc => ?_) ?_ | with_reducible refine And.intro ?_ ?_ | fail
                  repeat' first | refine rnED ?_ | with_reducible refine And.intro (fun hc => ?_) (fun hc => ?_) | fail
                  refine ⟨⟨k + 1, (by rw [hst2]; exact agED), by omega, hxr⟩, ?_⟩
                  all_goals first | exact ivED | refine smED ?_ | skip
                · rcases hq4 : decide (x.b ∈ R.getD i []) with _ | _
                  · have hst2 : lnk C R i j (k + 1) = L := by rw [hst, hq1, hq3, hq4]; rfl
                    clear hst
                    repeat' first | refine rnED ?_ | with_reducible refine And.intro (fun hc => ?_) (fun hc => ?_) | fail
                    refine AWp.planned [0,1,2,3,4,5,6,7,8,9,10,11,12,13,14,15,16,17,18,19,20,21,22,23,24,25,26,27,28,29,30,31,32,33] mixed (by kernel_rfl) ?_
                    repeat' first | refine rgED ?_ | (refine (l25Has_c (v := ri) (l := R.getD i []) (hRi.ext (by exact ex1)) (by omega) x.a).mono ?_; rintro v H' ⟨rfl, rfl⟩; rw [hq1]; refine hlED ?_) | (refine (l25Has_c (v := rj) (l := R.getD j []) (hRj.ext (by exact ex1)) (by omega) x.a).mono ?_; rintro v H' ⟨rfl, rfl⟩; rw [hq3]; refine hlED ?_) | (refine (l25Has_c (v := ri) (l := R.getD i []) (hRi.ext (by exact ex1)) (by omega) x.b).mono ?_; rintro v H' ⟨rfl, rfl⟩; rw [hq4]; refine hlED ?_) | with_reducible refine And.intro (fun hc => ?_) ?_ | with_reducible refine And.intro ?_ ?_ | fail
                    repeat' first | refine rnED ?_ | with_reducible refine And.intro (fun hc => ?_) (fun hc => ?_) | fail
                    refine ⟨⟨k + 1, (by rw [hst2]; exact agED), by omega, hxr⟩, ?_⟩
                    all_goals first | exact ivED | refine smED ?_ | skip
                  · have hst2 : lnk C R i j (k + 1) = L + x.s := by rw [hst, hq1, hq3, hq4]; rfl
                    clear hst
                    repeat' first | refine rnED ?_ | with_reducible refine And.intro (fun hc => ?_) (fun hc => ?_) | fail
                    refine AWp.planned [0,1,2,3,4,5,6,7,8,9,10,11,12,13,14,15,16,17,18,19,20,21,22,23,24,25,26,27,28,29,30,31,32,33] mixed (by kernel_rfl) ?_
                    repeat' first | refine rgED ?_ | (refine (l25Has_c (v := ri) (l := R.getD i []) (hRi.ext (by exact ex1)) (by omega) x.a).mono ?_; rintro v H' ⟨rfl, rfl⟩; rw [hq1]; refine hlED ?_) | (refine (l25Has_c (v := rj) (l := R.getD j []) (hRj.ext (by exact ex1)) (by omega) x.a).mono ?_; rintro v H' ⟨rfl, rfl⟩; rw [hq3]; refine hlED ?_) | (refine (l25Has_c (v := ri) (l := R.getD i []) (hRi.ext (by exact ex1)) (by omega) x.b).mono ?_; rintro v H' ⟨rfl, rfl⟩; rw [hq4]; refine hlED ?_) | with_reducible refine And.intro (fun hc => ?_) ?_ | with_reducible refine And.intro ?_ ?_ | fail
                    repeat' first | refine rnED ?_ | with_reducible refine And.intro (fun hc => ?_) (fun hc => ?_) | fail
                    refine ⟨⟨k + 1, (by rw [hst2]; exact agED), by omega, hxr⟩, ?_⟩
                    all_goals first | exact ivED | refine smED ?_ | skip
              · rcases hq2 : decide (x.b ∈ R.getD j []) with _ | _
                · rcases hq3 : decide (x.a ∈ R.getD j []) with _ | _
                  · have hst2 : lnk C R i j (k + 1) = L := by rw [hst, hq1, hq2, hq3]; rfl
                    clear hst
                    repeat' first | refine rnED ?_ | with_reducible refine And.intro (fun hc => ?_) (fun hc => ?_) | fail
                    refine AWp.planned [0,1,2,3,4,5,6,7,8,9,10,11,12,13,14,15,16,17,18,19,20,21,22,23,24,25,26,27,28,29,30,31,32,33] mixed (by kernel_rfl) ?_
                    repeat' first | refine rgED ?_ | (refine (l25Has_c (v := ri) (l := R.getD i []) (hRi.ext (by exact ex1)) (by omega) x.a).mono ?_; rintro v H' ⟨rfl, rfl⟩; rw [hq1]; refine hlED ?_) | (refine (l25Has_c (v := rj) (l := R.getD j []) (hRj.ext (by exact ex1)) (by omega) x.b).mono ?_; rintro v H' ⟨rfl, rfl⟩; rw [hq2]; refine hlED ?_) | (refine (l25Has_c (v := rj) (l := R.getD j []) (hRj.ext (by exact ex1)) (by omega) x.a).mono ?_; rintro v H' ⟨rfl, rfl⟩; rw [hq3]; refine hlED ?_) | with_reducible refine And.intro (fun hc => ?_) ?_ | with_reducible refine And.intro ?_ ?_ | fail
                    repeat' first | refine rnED ?_ | with_reducible refine And.intro (fun hc => ?_) (fun hc => ?_) | fail
                    refine ⟨⟨k + 1, (by rw [hst2]; exact agED), by omega, hxr⟩, ?_⟩
                    all_goals first | exact ivED | refine smED ?_ | skip
                  · rcases hq4 : decide (x.b ∈ R.getD i []) with _ | _
                    · have hst2 : lnk C R i j (k + 1) = L := by rw [hst, hq1, hq2, hq3, hq4]; rfl
                      clear hst
                      repeat' first | refine rnED ?_ | with_reducible refine And.intro (fun hc => ?_) (fun hc => ?_) | fail
                      refine AWp.planned [0,1,2,3,4,5,6,7,8,9,10,11,12,13,14,15,16,17,18,19,20,21,22,23,24,25,26,27,28,29,30,31,32,33] mixed (by kernel_rfl) ?_
                      repeat' first | refine rgED ?_ | (refine (l25Has_c (v := ri) (l := R.getD i []) (hRi.ext (by exact ex1)) (by omega) x.a).mono ?_; rintro v H' ⟨rfl, rfl⟩; rw [hq1]; refine hlED ?_) | (refine (l25Has_c (v := rj) (l := R.getD j []) (hRj.ext (by exact ex1)) (by omega) x.b).mono ?_; rintro v H' ⟨rfl, rfl⟩; rw [hq2]; refine hlED ?_) | (refine (l25Has_c (v := rj) (l := R.getD j []) (hRj.ext (by exact ex1)) (by omega) x.a).mono ?_; rintro v H' ⟨rfl, rfl⟩; rw [hq3]; refine hlED ?_) | (refine (l25Has_c (v := ri) (l := R.getD i []) (hRi.ext (by exact ex1)) (by omega) x.b).mono ?_; rintro v H' ⟨rfl, rfl⟩; rw [hq4]; refine hlED ?_) | with_reducible refine And.intro (fun hc => ?_) ?_ | with_reducible refine And.intro ?_ ?_ | fail
                      repeat' first | refine rnED ?_ | with_reducible refine And.intro (fun hc => ?_) (fun hc => ?_) | fail
                      refine ⟨⟨k + 1, (by rw [hst2]; exact agED), by omega, hxr⟩, ?_⟩
                      all_goals first | exact ivED | refine smED ?_ | skip
                    · have hst2 : lnk C R i j (k + 1) = L + x.s := by rw [hst, hq1, hq2, hq3, hq4]; rfl
                      clear hst
                      repeat' first | refine rnED ?_ | with_reducible refine And.intro (fun hc => ?_) (fun hc => ?_) | fail
                      refine AWp.planned [0,1,2,3,4,5,6,7,8,9,10,11,12,13,14,15,16,17,18,19,20,21,22,23,24,25,26,27,28,29,30,31,32,33] mixed (by kernel_rfl) ?_
                      repeat' first | refine rgED ?_ | (refine (l25Has_c (v := ri) (l := R.getD i []) (hRi.ext (by exact ex1)) (by omega) x.a).mono ?_; rintro v H' ⟨rfl, rfl⟩; rw [hq1]; refine hlED ?_) | (refine (l25Has_c (v := rj) (l := R.getD j []) (hRj.ext (by exact ex1)) (by omega) x.b).mono ?_; rintro v H' ⟨rfl, rfl⟩; rw [hq2]; refine hlED ?_) | (refine (l25Has_c (v := rj) (l := R.getD j []) (hRj.ext (by exact ex1)) (by omega) x.a).mono ?_; rintro v H' ⟨rfl, rfl⟩; rw [hq3]; refine hlED ?_) | (refine (l25Has_c (v := ri) (l := R.getD i []) (hRi.ext (by exact ex1)) (by omega) x.b).mono ?_; rintro v H' ⟨rfl, rfl⟩; rw [hq4]; refine hlED ?_) | with_reducible refine And.intro (fun hc => ?_) ?_ | with_reducible refine And.intro ?_ ?_ | fail
                      repeat' first | refine rnED ?_ | with_reducible refine And.intro (fun hc => ?_) (fun hc => ?_) | fail
                      refine ⟨⟨k + 1, (by rw [hst2]; exact agED), by omega, hxr⟩, ?_⟩
                      all_goals first | exact ivED | refine smED ?_ | skip
                · have hst2 : lnk C R i j (k + 1) = L + x.s := by rw [hst, hq1, hq2]; rfl
                  clear hst
                  repeat' first | refine rnED ?_ | with_reducible refine And.intro (fun hc => ?_) (fun hc => ?_) | fail
                  refine AWp.planned [0,1,2,3,4,5,6,7,8,9,10,11,12,13,14,15,16,17,18,19,20,21,22,23,24,25,26,27,28,29,30,31,32,33] mixed (by kernel_rfl) ?_
                  repeat' first | refine rgED ?_ | (refine (l25Has_c (v := ri) (l := R.getD i []) (hRi.ext (by exact ex1)) (by omega) x.a).mono ?_; rintro v H' ⟨rfl, rfl⟩; rw [hq1]; refine hlED ?_) | (refine (l25Has_c (v := rj) (l := R.getD j []) (hRj.ext (by exact ex1)) (by omega) x.b).mono ?_; rintro v H' ⟨rfl, rfl⟩; rw [hq2]; refine hlED ?_) | with_reducible refine And.intro (fun hc => ?_) ?_ | with_reducible refine And.intro ?_ ?_ | fail
                  repeat' first | refine rnED ?_ | with_reducible refine And.intro (fun hc => ?_) (fun hc => ?_) | fail
                  refine ⟨⟨k + 1, (by rw [hst2]; exact agED), by omega, hxr⟩, ?_⟩
                  all_goals first | exact ivED | refine smED ?_ | skip
            · obtain rfl : k = C.length := by omega
              have hbd := lnk_bd hsg R i j C.length (Nat.le_refl _)
              generalize lnk C R i j C.length = L at *
              have hdt : (L.tdiv 2).natAbs = L.natAbs / 2 := Int.natAbs_tdiv L 2
              have hdv : IntKind.i64.wrap (L.tdiv 2) = L.tdiv 2 := wrap64_id (by omega) (by omega)
              repeat' first | refine rnED ?_ | with_reducible refine And.intro (fun hc => ?_) (fun hc => ?_) | fail
              (try rw [hdv])
              exact hQ.out _ _ ⟨rfl, f3.trans hx3⟩
      · have h2d : decide (0 ≤ j ∧ j ≤ (R.length : Int) - 1) = false := decide_eq_false h2
        rw [if_neg (fun q => h2 q.2)]
        clear h1 h2
        refine ACalls.body Try.func29 rfl Try.ntmps29 (rs := [.tmp 6, .tmp 7]) rfl (by simp) rfl fun Q hQ A hA => ?_
        have a0 := hA 0 _ _ rfl
        have a1 := hA 1 _ _ rfl
        have a2 := hA 2 _ _ rfl
        clear hA
        repeat' first | refine rnED ?_ | (refine (specIsDiagram_c z (hC1 (by exact ex1)) hS).mono ?_; rintro u H1 ⟨rfl, hx1⟩; rw [hd]; have hx1g := hx1.get; have hx1s := hx1.size; (try simp only [nx] at hx1s)) | (refine (l25Components_c z (hC1 (by exact ex1)) h.1 h.2.2.1).mono ?_; rintro u H2 ⟨hO, hx2⟩; rw [hR] at hO; obtain ⟨pr, cr, rfl⟩ := hO.shape; have hx2g := hx2.get; have hx2s := hx2.size; (try simp only [nx] at hx2s)) | ((with_reducible refine (l01In_c i _ _).mono ?_; rintro v H' ⟨rfl, rfl⟩; rw [h1d])) | ((refine (l01In_c _ _ _).mono ?_; rintro v H' ⟨rfl, rfl⟩; rw [h2d])) | with_reducible refine And.intro (fun hc => ?_) (fun hc => ?_) | fail
        exact hQ.out _ _ ⟨rfl, by exact ex1⟩
    · have h1d : decide (0 ≤ i ∧ i ≤ (R.length : Int) - 1) = false := decide_eq_false h1
      rw [if_neg (fun q => h1 q.1)]
      clear h1
      refine ACalls.body Try.func29 rfl Try.ntmps29 (rs := [.tmp 6, .tmp 7]) rfl (by simp) rfl fun Q hQ A hA => ?_
      have a0 := hA 0 _ _ rfl
      have a1 := hA 1 _ _ rfl
      have a2 := hA 2 _ _ rfl
      clear hA
      repeat' first | refine rnED ?_ | (refine (specIsDiagram_c z (hC1 (by exact ex1)) hS).mono ?_; rintro u H1 ⟨rfl, hx1⟩; rw [hd]; have hx1g := hx1.get; have hx1s := hx1.size; (try simp only [nx] at hx1s)) | (refine (l25Components_c z (hC1 (by exact ex1)) h.1 h.2.2.1).mono ?_; rintro u H2 ⟨hO, hx2⟩; rw [hR] at hO; obtain ⟨pr, cr, rfl⟩ := hO.shape; have hx2g := hx2.get; have hx2s := hx2.size; (try simp only [nx] at hx2s)) | ((with_reducible refine (l01In_c i _ _).mono ?_; rintro v H' ⟨rfl, rfl⟩; rw [h1d])) | with_reducible refine And.intro (fun hc => ?_) (fun hc => ?_) | fail
      exact hQ.out _ _ ⟨rfl, by exact ex1⟩
  · have hd : decide (IsD C z) = false := decide_eq_false h
    rw [if_neg h]
    refine ACalls.body Try.func29 rfl Try.ntmps29 (rs := [.tmp 6, .tmp 7]) rfl (by simp) rfl fun Q hQ A hA => ?_
    have a0 := hA 0 _ _ rfl
    have a1 := hA 1 _ _ rfl
    have a2 := hA 2 _ _ rfl
    clear hA
    repeat' first | refine rnED ?_ | (refine (specIsDiagram_c z (hC1 (by exact ex1)) hS).mono ?_; rintro u H1 ⟨rfl, hx1⟩; rw [hd]; have hx1g := hx1.get; have hx1s := hx1.size; (try simp only [nx] at hx1s)) | with_reducible refine And.intro (fun hc => ?_) (fun hc => ?_) | fail
    exact hQ.out _ _ ⟨rfl, by exact ex1⟩
end Go.Proofs.Ytpbbfephfmdgmaa.Rai
