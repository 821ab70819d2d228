/- A part of the walk: what functions of the program do, over an abstract heap. -/
import Derived.Test.YtpbbfephfmdgmaaDQ
namespace Go.Proofs.Ytpbbfephfmdgmaa.Rai
open Go TP
set_option linter.unusedVariables false
set_option linter.unusedSimpArgs false
set_option maxRecDepth 20000
theorem tfDR : (Try.prog.underlying 27 = some (.slice 54)) ∧ (el Try.prog 27 = some (none, 5)) ∧ (Try.prog.underlying 37 = some (.slice 65)) ∧ (el Try.prog 37 = some (none, 1)) ∧ (Try.prog.underlying 65 = some (.slice 2)) ∧ (el Try.prog 65 = some (none, 1)) ∧ (tk Try.prog 2 = some none) ∧ (tk Try.prog 27 = some none) ∧ (tk Try.prog 29 = some (some 2)) ∧ (tk Try.prog 54 = some (some 5)) ∧ (tk Try.prog 60 = some (some 2)) ∧ (tk Try.prog 65 = some none) ∧ (cz Try.prog 2 = some 1) ∧ (bz Try.prog 2 = some 8) ∧ (cz Try.prog 54 = some 5) ∧ (bz Try.prog 54 = some 40) ∧ (cz Try.prog 65 = some 1) ∧ (bz Try.prog 65 = some 24) ∧ (zr Try.prog 2 = some (.int .i64 0)) ∧ (zr Try.prog 54 = some (.agg #[.int .i64 0, .int .i64 0, .int .i64 0, .int .i64 0, .int .i64 0])) ∧ (zr Try.prog 60 = some (.agg #[.slice none 0 0, .slice none 0 0])) ∧ (zr Try.prog 65 = some (.slice none 0 0)) ∧ (fo Try.prog 29 0 = some (0, none)) ∧ (fo Try.prog 29 1 = some (1, none)) ∧ (el Try.prog 60 = none) ∧ (placesOf Try.prog 60 = some #[(0, 1), (1, 1)]) := by
  refine ⟨?_, ?_, ?_, ?_, ?_, ?_, ?_, ?_, ?_, ?_, ?_, ?_, ?_, ?_, ?_, ?_, ?_, ?_, ?_, ?_, ?_, ?_, ?_, ?_, ?_, ?_⟩ <;> kernel_rfl
theorem rnDR {a b : Prop} (hb : b) (h : Later b → a := by
  intro hb
  first
  | ((with_reducible first | refine AOps.nil ?_ | refine athen_n ?_ | refine athen_r ?_ | refine athen_e ?_ | refine ablock_n ?_ | refine ablock_r ?_ | refine ablock_s ?_ | refine AWp.seq' ?_ | refine AWp.block ?_ | refine AWp.skip ?_ | refine AWp.exit ?_ | refine AWp.ret ?_ | refine AWp.region ?_ | (refine ablock_e ?_ ?_; focus rfl)); repeat (with_reducible first | refine AOps.nil ?_ | refine athen_n ?_ | refine athen_r ?_ | refine athen_e ?_ | refine ablock_n ?_ | refine ablock_r ?_ | refine ablock_s ?_ | refine AWp.seq' ?_ | refine AWp.block ?_ | refine AWp.skip ?_ | refine AWp.exit ?_ | refine AWp.ret ?_ | refine AWp.region ?_ | (refine ablock_e ?_ ?_; focus rfl)))
  | (refine AOps.guardu rfl rfl rfl ?_ ?_; focus (simp (disch := (first | omega | (simp only [nx]; first | done | omega))) only [Value.bool.injEq, Bool.and_true, Bool.true_and, Bool.and_false, Bool.false_and, beq_self_eq_true, bne, Bool.not_true, Bool.not_false, sx, nx, dx, ↓reduceIte, reduceCtorEq, Nat.reduceEqDiff, ne_eq, not_false_eq_true, *]; done))
  | ((first | refine AOps.cons2 rfl rfl fun K hK => ?_ | refine AWp.cond rfl fun X Y hX hY => ?_ | refine AOps.guard rfl rfl rfl fun X Y hX hY => ?_ | refine aret_r ?_ | refine aret_n ?_); simp (disch := (first | omega | (simp only [nx]; first | done | omega))) only [acond_bool, aresK, retv, xxq, tfDR, sliceK, bnd, appendK, appsK, copyK, clearK, makeSliceK, buildSliceK, buildK, lookupK, mapPutK, mapOf, convK, allocK, indexK, partK, xxa, xxb, xxc, bne, Int.reduceEq, Int.reduceBEq, Int.reduceNe, Int.reduceBNe, Int.reduceLE, Int.reduceGT, Int.reduceGE, Int.reduceNeg, ↓reduceIte, reduceCtorEq, Nat.reduceEqDiff, Nat.reduceAdd, Nat.reduceMul, Nat.reduceSub, Nat.reduceLT, Int.reduceAdd, Int.reduceSub, Int.reduceMul, Int.reduceLT, Int.reduceToNat, ne_eq, *]; (repeat first | ((with_reducible refine And.intro (fun hc => ?_) (fun hc => absurd hc (by omega))); clear hc) | ((with_reducible refine And.intro (fun hc => absurd hc (by omega)) (fun hc => ?_)); clear hc) | ((with_reducible refine And.intro ?_ ?_); focus ((first | omega | assumption | exact cok _ rfl | exact one_ints _ | exact one_map fun _ => rfl | ((repeat refine one_cons (by first | rfl | assumption) ?_); exact one_nil) | rfl | decide | (intro u hu; cases hu)); done)) | (with_reducible refine (fun hc => ?_ : _ → _); clear hc)); (first | refine hK.out _ _ ?_ | refine ACalls.hk hK ?_ | refine appendK.hk hK ?_ | refine (fun (q : _ ∧ _) => And.intro (hK.out _ _ q.1) (hK.out _ _ q.2)) ?_ | refine hX.out ?_ | refine hY.out ?_ | refine (fun (q : (_ → _) ∧ (_ → _)) => And.intro (fun hc => hX.out (q.1 hc)) (fun hc => hY.out (q.2 hc))) ?_ | refine (fun (q : (_ → _) ∧ (_ → _)) => And.intro (fun hc => hY.out (q.1 hc)) (fun hc => hX.out (q.2 hc))) ?_ | skip))
  exact hb.out) : a := h ⟨hb⟩
theorem rgDR {a b : Prop} (hb : b) (h : Later b → a := by
  intro hb
  first
  | with_reducible refine APl.nil ?_
  | (refine APl.passg rfl rfl rfl rfl rfl rfl (.inl ?_) ?_; focus (simp (disch := (first | omega | (simp only [nx]; first | done | omega))) only [Value.bool.injEq, Bool.and_true, Bool.true_and, Bool.and_false, Bool.false_and, beq_self_eq_true, bne, Bool.not_true, Bool.not_false, sx, nx, dx, ↓reduceIte, reduceCtorEq, Nat.reduceEqDiff, ne_eq, not_false_eq_true, *]; done))
  | (refine APl.passg rfl rfl rfl rfl rfl rfl (.inr ?_) ?_; focus (simp (disch := (first | omega | (simp only [nx]; first | done | omega))) only [Value.bool.injEq, Bool.and_true, Bool.true_and, Bool.and_false, Bool.false_and, beq_self_eq_true, bne, Bool.not_true, Bool.not_false, sx, nx, dx, ↓reduceIte, reduceCtorEq, Nat.reduceEqDiff, ne_eq, not_false_eq_true, *]; done))
  | (refine APl.actp rfl rfl rfl rfl rfl rfl (.inl ?_) ?_; focus (simp (disch := (first | omega | (simp only [nx]; first | done | omega))) only [Value.bool.injEq, Bool.and_true, Bool.true_and, Bool.and_false, Bool.false_and, beq_self_eq_true, bne, Bool.not_true, Bool.not_false, sx, nx, dx, ↓reduceIte, reduceCtorEq, Nat.reduceEqDiff, ne_eq, not_false_eq_true, *]; done))
  | (refine APl.actp rfl rfl rfl rfl rfl rfl (.inr ?_) ?_; focus (simp (disch := (first | omega | (simp only [nx]; first | done | omega))) only [Value.bool.injEq, Bool.and_true, Bool.true_and, Bool.and_false, Bool.false_and, beq_self_eq_true, bne, Bool.not_true, Bool.not_false, sx, nx, dx, ↓reduceIte, reduceCtorEq, Nat.reduceEqDiff, ne_eq, not_false_eq_true, *]; done))
  | ((first | refine APl.pure2 rfl rfl rfl rfl fun Kx hKx => ?_ | refine APl.load rfl rfl rfl fun Kx hKx => ?_ | refine APl.slice rfl rfl rfl fun Kx hKx => ?_ | refine APl.act2 rfl rfl rfl rfl fun Kx hKx => ?_ | (refine APl.pureg rfl rfl rfl rfl rfl rfl rfl ?_ fun Kx hKx => ?_; focus (simp (disch := (first | omega | (simp only [nx]; first | done | omega))) only [Value.bool.injEq, Bool.and_true, Bool.true_and, Bool.and_false, Bool.false_and, beq_self_eq_true, bne, Bool.not_true, Bool.not_false, sx, nx, dx, ↓reduceIte, reduceCtorEq, Nat.reduceEqDiff, ne_eq, not_false_eq_true, *]; done)) | (refine APl.loadg rfl rfl rfl rfl rfl ?_ fun Kx hKx => ?_; focus (simp (disch := (first | omega | (simp only [nx]; first | done | omega))) only [Value.bool.injEq, Bool.and_true, Bool.true_and, Bool.and_false, Bool.false_and, beq_self_eq_true, bne, Bool.not_true, Bool.not_false, sx, nx, dx, ↓reduceIte, reduceCtorEq, Nat.reduceEqDiff, ne_eq, not_false_eq_true, *]; done)) | (refine APl.actg rfl rfl rfl rfl rfl rfl rfl ?_ fun Kx hKx => ?_; focus (simp (disch := (first | omega | (simp only [nx]; first | done | omega))) only [Value.bool.injEq, Bool.and_true, Bool.true_and, Bool.and_false, Bool.false_and, beq_self_eq_true, bne, Bool.not_true, Bool.not_false, sx, nx, dx, ↓reduceIte, reduceCtorEq, Nat.reduceEqDiff, ne_eq, not_false_eq_true, *]; done))); simp (disch := (first | omega | (simp only [nx]; first | done | omega))) only [heldIn_iff, List.zipIdx_cons, List.zipIdx_nil, List.map_cons, List.map_nil, xxq, tfDR, sliceK, bnd, appendK, appsK, copyK, clearK, makeSliceK, buildSliceK, buildK, lookupK, mapPutK, mapOf, convK, allocK, indexK, partK, xxa, xxb, xxc, bne, Int.reduceEq, Int.reduceBEq, Int.reduceNe, Int.reduceBNe, Int.reduceLE, Int.reduceGT, Int.reduceGE, Int.reduceNeg, ↓reduceIte, reduceCtorEq, Nat.reduceEqDiff, Nat.reduceAdd, Nat.reduceMul, Nat.reduceSub, Nat.reduceLT, Int.reduceAdd, Int.reduceSub, Int.reduceMul, Int.reduceLT, Int.reduceToNat, ne_eq, *]; (repeat first | ((with_reducible refine And.intro (fun hc => ?_) (fun hc => absurd hc (by omega))); clear hc) | ((with_reducible refine And.intro (fun hc => absurd hc (by omega)) (fun hc => ?_)); clear hc) | ((with_reducible refine And.intro ?_ ?_); focus ((first | omega | assumption | exact cok _ rfl | exact one_ints _ | exact one_map fun _ => rfl | ((repeat refine one_cons (by first | rfl | assumption) ?_); exact one_nil) | rfl | decide | (intro u hu; cases hu)); done)) | (with_reducible refine (fun hc => ?_ : _ → _); clear hc)); (first | refine hKx.out _ ?_ | refine hKx.out _ _ ?_ | refine ACalls.hkx hKx ?_ | refine (fun (q : _ ∧ _) => And.intro (hKx.out _ q.1) (hKx.out _ q.2)) ?_ | refine (fun (q : (_ → _) ∧ _) => And.intro (fun hc => hKx.out _ (q.1 hc)) (hKx.out _ q.2)) ?_ | (refine hKx.out _ _ ?_ ?_; focus (simp (disch := (first | omega | (simp only [nx]; first | done | omega))) only [heldIn_iff, List.zipIdx_cons, List.zipIdx_nil, List.map_cons, List.map_nil, xxq, tfDR, sliceK, bnd, appendK, appsK, copyK, clearK, makeSliceK, buildSliceK, buildK, lookupK, mapPutK, mapOf, convK, allocK, indexK, partK, xxa, xxb, xxc, bne, Int.reduceEq, Int.reduceBEq, Int.reduceNe, Int.reduceBNe, Int.reduceLE, Int.reduceGT, Int.reduceGE, Int.reduceNeg, ↓reduceIte, reduceCtorEq, Nat.reduceEqDiff, Nat.reduceAdd, Nat.reduceMul, Nat.reduceSub, Nat.reduceLT, Int.reduceAdd, Int.reduceSub, Int.reduceMul, Int.reduceLT, Int.reduceToNat, ne_eq, *]; first | done | trivial))))
  exact hb.out) : a := h ⟨hb⟩
theorem hlDR {p b : Prop} (hb : b) (h : p := by simp (disch := (first | omega | (simp only [nx]; first | done | omega))) only [heldIn_iff, List.zipIdx_cons, List.zipIdx_nil, List.map_cons, List.map_nil, xxq, tfDR, sliceK, bnd, appendK, appsK, copyK, clearK, makeSliceK, buildSliceK, buildK, lookupK, mapPutK, mapOf, convK, allocK, indexK, partK, xxa, xxb, xxc, bne, Int.reduceEq, Int.reduceBEq, Int.reduceNe, Int.reduceBNe, Int.reduceLE, Int.reduceGT, Int.reduceGE, Int.reduceNeg, ↓reduceIte, reduceCtorEq, Nat.reduceEqDiff, Nat.reduceAdd, Nat.reduceMul, Nat.reduceSub, Nat.reduceLT, Int.reduceAdd, Int.reduceSub, Int.reduceMul, Int.reduceLT, Int.reduceToNat, ne_eq, *]; first | done | trivial) : p ∧ b := ⟨h, hb⟩
theorem ivDR {p : Prop} (h : p := by first | omega | ((repeat first | exact Ext.refl _ | assumption | refine Ext.push ?_ _ | refine Ext.set ?_ _ (by first | omega | (simp only [nx, *]; omega)) | (apply Ext.up; focus (assumption; done))); done) | (simp (disch := (first | omega | (simp only [nx]; first | done | omega))) only [xxq, xxa, xxb, xxc, bne, Int.reduceEq, Int.reduceBEq, Int.reduceNe, Int.reduceBNe, Int.reduceLE, Int.reduceGT, Int.reduceGE, Int.reduceNeg, ↓reduceIte, reduceCtorEq, Nat.reduceEqDiff, Nat.reduceAdd, Nat.reduceMul, Nat.reduceSub, Nat.reduceLT, Int.reduceAdd, Int.reduceSub, Int.reduceMul, Int.reduceLT, Int.reduceToNat, ne_eq, *, intV_int]; first | done | omega | rfl | exact congrArg (Value.int .i64) (by omega) | ((repeat first | exact Ext.refl _ | assumption | refine Ext.push ?_ _ | refine Ext.set ?_ _ (by first | omega | (simp only [nx, *]; omega)) | (apply Ext.up; focus (assumption; done))); done)) | rfl) : p := h
theorem smDR {a b : Prop} (hb : b) (h : Later b → a := by intro hb; simp (disch := (first | omega | (simp only [nx]; first | done | omega))) only [xxq, xxa, xxb, xxc, bne, Int.reduceEq, Int.reduceBEq, Int.reduceNe, Int.reduceBNe, Int.reduceLE, Int.reduceGT, Int.reduceGE, Int.reduceNeg, ↓reduceIte, reduceCtorEq, Nat.reduceEqDiff, Nat.reduceAdd, Nat.reduceMul, Nat.reduceSub, Nat.reduceLT, Int.reduceAdd, Int.reduceSub, Int.reduceMul, Int.reduceLT, Int.reduceToNat, ne_eq, *, intV_int]; exact hb.out) : a := h ⟨hb⟩
theorem gtDR {A F : Fr} {t : Nat} {v : Value} (h : Ag [] A F) (e : F t = v := by simp (disch := (first | omega | (simp only [nx]; first | done | omega))) only [xxq, xxa, xxb, xxc, bne, Int.reduceEq, Int.reduceBEq, Int.reduceNe, Int.reduceBNe, Int.reduceLE, Int.reduceGT, Int.reduceGE, Int.reduceNeg, ↓reduceIte, reduceCtorEq, Nat.reduceEqDiff, Nat.reduceAdd, Nat.reduceMul, Nat.reduceSub, Nat.reduceLT, Int.reduceAdd, Int.reduceSub, Int.reduceMul, Int.reduceLT, Int.reduceToNat, ne_eq, *, intV_int]; exact rfl) : A t = v := (h.h t rfl).trans e
theorem agDR {D : List Nat} {A F : Fr} (h : Ag D A F := by
  repeat (with_reducible first | exact Ag.refl _ _ | refine Ag.nop ?_ | refine Ag.dead rfl ?_ | (refine Ag.live ?_ ?_; focus exact ivDR) | refine Ag.dr rfl ?_ | (refine Ag.lr ?_ ?_; focus exact ivDR) | refine Ag.up (by assumption) rfl ?_)) : Ag D A F := h
theorem sdDR {p : Prop} (h : p := by first | omega | assumption | (simp (disch := (first | omega | (simp only [nx]; first | done | omega))) only [xxq, tfDR, sliceK, bnd, appendK, appsK, copyK, clearK, makeSliceK, buildSliceK, buildK, lookupK, mapPutK, mapOf, convK, allocK, indexK, partK, xxa, xxb, xxc, bne, Int.reduceEq, Int.reduceBEq, Int.reduceNe, Int.reduceBNe, Int.reduceLE, Int.reduceGT, Int.reduceGE, Int.reduceNeg, ↓reduceIte, reduceCtorEq, Nat.reduceEqDiff, Nat.reduceAdd, Nat.reduceMul, Nat.reduceSub, Nat.reduceLT, Int.reduceAdd, Int.reduceSub, Int.reduceMul, Int.reduceLT, Int.reduceToNat, ne_eq, *]; first | done | omega | rfl)) : p := h
/-- What 'drawing' returns. -/
def Drw (C : List Cr) (z : Int) (H : Heap) (u : Value) : Prop := ∃ vf vt, u = .tuple #[.agg #[vf, vt], B (decide (IsD C z))] ∧ vf.oneCell' = true ∧ vt.oneCell' = true ∧ (IsD C z → RdE H vf (endsL C false (2 * C.length) (4 * C.length)) ∧ RdE H vt (endsL C true (2 * C.length) (4 * C.length)))
set_option maxHeartbeats 2000000 in
theorem drawing_c {H : Heap} {v : Value} {C : List Cr} (z : Int) (hC : RdC H v C) (hS : C.length ≤ 1048576) : ACalls Try.prog 49 [.agg #[v, I z]] H fun u H' => Drw C z H' u ∧ Ext H H' := by
  have hC1 := fun {H' : Heap} (h : Ext H H') => hC.ext h
  have hone := hC.one
  obtain ⟨p, kk, rfl, hp, hh⟩ := hC
  clear hh hone
  have fin : ∀ (u : Value) (H' : Heap), decide (IsD C z) = false → u = .tuple #[.agg #[.slice none 0 0, .slice none 0 0], B false] → Drw C z H' u := fun u H' hf e => ⟨_, _, by rw [hf]; exact e, rfl, rfl, fun h => by rw [decide_eq_true h] at hf; cases hf⟩
  by_cases h1 : C.length ≤ 10
  · have h1b : ((C.length : Int) > 10) = False := eq_false (by omega)
    by_cases h2 : 0 ≤ z ∧ z ≤ 8
    · have h2b : decide (0 ≤ z ∧ z ≤ 8) = true := decide_eq_true h2
      by_cases h3 : sgnAll C
      · have h3b : decide (¬ sgnAll C) = false := decide_eq_false fun h => h h3
        by_cases h4 : Cnt C
        · have h4b : decide (Cnt C) = true := decide_eq_true h4
          have hrs := (regs_short (s := sucC C) (N := 4 * C.length) (fun x hx => sucC_lt h4 hx) (4 * C.length) (Nat.le_refl _)).1
          have hpl := partN_le C
          have hpn := partN_is h4
          have hpp := prt_len C (2 * C.length)
          have hD : IsD C z ↔ ((regs (sucC C) (4 * C.length) (4 * C.length)).2.length = C.length + 2 * partN C) := ⟨fun h => h.2.2.2, fun h => ⟨h1, h2, h4, h⟩⟩
          have hnl : (numL (prt C (2 * C.length))).length ≤ 100000 := by rw [numL_len, hpp]; omega
          have hnf : ∀ x ∈ numL (prt C (2 * C.length)), 0 ≤ x ∧ x ≤ 100000 := numL_fine (by rw [hpp]; omega)
          generalize hRR : (regs (sucC C) (4 * C.length) (4 * C.length)).2 = R at *
          generalize partN C = pn at *
          clear h2
          refine ACalls.body Try.func49 rfl Try.ntmps49 (rs := [.cell 2 60, .tmp 3]) rfl (by simp) rfl fun Q hQ A hA => ?_
          have a0 := hA 0 _ _ rfl
          clear hA
          repeat' first | refine rnDR ?_ | (refine (sizeC_c _ _ _).mono ?_; rintro v H' ⟨rfl, rfl⟩) | (refine (inRange_c _ _ _).mono ?_; rintro v H' ⟨rfl, rfl⟩; rw [h2b]) | (refine (containsFunc_c (hC1 (by exact ex1)) h1).mono ?_; rintro v H1 ⟨rfl, hx1⟩; rw [h3b]; have hx1g := hx1.get; have hx1s := hx1.size; (try simp only [nx] at hx1s)) | (refine (arrows_c z (hC1 (by exact ex1)) h1 h3).mono ?_; rintro v H2 ⟨⟨vf, vt, rfl, o1, o2, hR⟩, hx2⟩; rw [h4b]; obtain ⟨hRfL, hRtL⟩ := hR h4; have hRf := hRfL.rd; have hRt := hRtL.rd; have hx2g := hx2.get; have hx2s := hx2.size; (try simp only [nx] at hx2s)) | with_reducible refine And.intro (fun hc => ?_) (fun hc => ?_) | fail
          refine AWp.planned [0,1,2,3,4,7,8,9,5,6,10,11,12,13,14,15] mixed (by kernel_rfl) ?_
          repeat' first | refine rgDR ?_ | (refine (regions_c z (hC1 (by exact ex1)) h1 h4 (hRf.ext (by exact ex1)) (hRt.ext (by exact ex1))).mono ?_; rintro u H3 ⟨hO, hx3⟩; rw [hRR] at hO; obtain ⟨pr, cr, rfl⟩ := hO.shape; have hx3g := hx3.get; have hx3s := hx3.size; (try simp only [nx] at hx3s); refine hlDR ?_) | (refine (sizeR_c _ _ _).mono ?_; rintro v H' ⟨rfl, rfl⟩; refine hlDR ?_) | (refine (parts_c z (hC1 (by exact ex1)) h1 h4 (hRf.ext (by exact ex1)) (hRt.ext (by exact ex1))).mono ?_; rintro u H4 ⟨hO4, hx4⟩; have hx4g := hx4.get; have hx4s := hx4.size; (try simp only [nx] at hx4s); refine hlDR ?_) | (refine (classCount_c hO4 hnl hnf).mono ?_; rintro u H5 ⟨rfl, rfl⟩; rw [hpn]; refine hlDR ?_) | with_reducible refine And.intro (fun hc => ?_) ?_ | with_reducible refine And.intro ?_ ?_ | fail
          by_cases hr : R.length = C.length + 2 * pn
          · have hrb : ((R.length : Int) == (C.length : Int) + 2 * (pn : Int)) = true := by rw [beq_iff_eq]; omega
            have hd : decide (IsD C z) = true := decide_eq_true (hD.2 hr)
            have hz3 := hx3.size
            have hz4 := hx4.size
            repeat' first | refine rnDR ?_ | with_reducible refine And.intro (fun hc => ?_) (fun hc => ?_) | fail
            refine hQ.out _ _ ⟨⟨vf, vt, by rw [hd], o1, o2, fun _ => ⟨(hRfL.keep ?_ ?_).rd, (hRtL.keep ?_ ?_).rd⟩⟩, by exact ex1⟩
            all_goals first | exact ivDR | refine smDR ?_ | skip
            all_goals
              intro b hb1 hb2
              rw [get_set_ne (by omega)]
              exact ivDR
          · have hrb : ((R.length : Int) == (C.length : Int) + 2 * (pn : Int)) = false := by rw [beq_eq_false_iff_ne]; omega
            have hd : decide (IsD C z) = false := decide_eq_false fun h => hr (hD.1 h)
            repeat' first | refine rnDR ?_ | with_reducible refine And.intro (fun hc => ?_) (fun hc => ?_) | fail
            exact hQ.out _ _ ⟨fin _ _ hd rfl, by exact ex1⟩
        · have h4b : decide (Cnt C) = false := decide_eq_false h4
          have hf : decide (IsD C z) = false := decide_eq_false fun h => h4 h.2.2.1
          clear h2
          refine ACalls.body Try.func49 rfl Try.ntmps49 (rs := [.cell 2 60, .tmp 3]) rfl (by simp) rfl fun Q hQ A hA => ?_
          have a0 := hA 0 _ _ rfl
          clear hA
          repeat' first | refine rnDR ?_ | (refine (sizeC_c _ _ _).mono ?_; rintro v H' ⟨rfl, rfl⟩) | (refine (inRange_c _ _ _).mono ?_; rintro v H' ⟨rfl, rfl⟩; rw [h2b]) | (refine (containsFunc_c (hC1 (by exact ex1)) h1).mono ?_; rintro v H1 ⟨rfl, hx1⟩; rw [h3b]; have hx1g := hx1.get; have hx1s := hx1.size; (try simp only [nx] at hx1s)) | (refine (arrows_c z (hC1 (by exact ex1)) h1 h3).mono ?_; rintro v H2 ⟨⟨vf, vt, rfl, o1, o2, hR⟩, hx2⟩; rw [h4b]; clear hR; have hx2g := hx2.get; have hx2s := hx2.size; (try simp only [nx] at hx2s)) | with_reducible refine And.intro (fun hc => ?_) (fun hc => ?_) | fail
          refine AWp.planned [0,1,2,3,4,7,8,9,5,6,10,11,12,13,14,15] mixed (by kernel_rfl) ?_
          repeat' first | refine rgDR ?_ | with_reducible refine And.intro (fun hc => ?_) ?_ | with_reducible refine And.intro ?_ ?_ | fail
          repeat' first | refine rnDR ?_ | with_reducible refine And.intro (fun hc => ?_) (fun hc => ?_) | fail
          exact hQ.out _ _ ⟨fin _ _ hf rfl, by exact ex1⟩
      · have h3b : decide (¬ sgnAll C) = true := decide_eq_true h3
        have hf : decide (IsD C z) = false := decide_eq_false fun h => h3 h.2.2.1.1
        clear h2
        refine ACalls.body Try.func49 rfl Try.ntmps49 (rs := [.cell 2 60, .tmp 3]) rfl (by simp) rfl fun Q hQ A hA => ?_
        have a0 := hA 0 _ _ rfl
        clear hA
        repeat' first | refine rnDR ?_ | (refine (sizeC_c _ _ _).mono ?_; rintro v H' ⟨rfl, rfl⟩) | (refine (inRange_c _ _ _).mono ?_; rintro v H' ⟨rfl, rfl⟩; rw [h2b]) | (refine (containsFunc_c (hC1 (by exact ex1)) h1).mono ?_; rintro v H1 ⟨rfl, hx1⟩; rw [h3b]; have hx1g := hx1.get; have hx1s := hx1.size; (try simp only [nx] at hx1s)) | with_reducible refine And.intro (fun hc => ?_) (fun hc => ?_) | fail
        exact hQ.out _ _ ⟨fin _ _ hf rfl, by exact ex1⟩
    · have h2b : decide (0 ≤ z ∧ z ≤ 8) = false := decide_eq_false h2
      have hf : decide (IsD C z) = false := decide_eq_false fun h => h2 h.2.1
      clear h2
      refine ACalls.body Try.func49 rfl Try.ntmps49 (rs := [.cell 2 60, .tmp 3]) rfl (by simp) rfl fun Q hQ A hA => ?_
      have a0 := hA 0 _ _ rfl
      clear hA
      repeat' first | refine rnDR ?_ | (refine (sizeC_c _ _ _).mono ?_; rintro v H' ⟨rfl, rfl⟩) | (refine (inRange_c _ _ _).mono ?_; rintro v H' ⟨rfl, rfl⟩; rw [h2b]) | with_reducible refine And.intro (fun hc => ?_) (fun hc => ?_) | fail
      exact hQ.out _ _ ⟨fin _ _ hf rfl, by exact ex1⟩
  · have h1b : ((C.length : Int) > 10) = True := eq_true (by omega)
    have hf : decide (IsD C z) = false := decide_eq_false fun h => h1 h.1
    refine ACalls.body Try.func49 rfl Try.ntmps49 (rs := [.cell 2 60, .tmp 3]) rfl (by simp) rfl fun Q hQ A hA => ?_
    have a0 := hA 0 _ _ rfl
    clear hA
    repeat' first | refine rnDR ?_ | (refine (sizeC_c _ _ _).mono ?_; rintro v H' ⟨rfl, rfl⟩) | with_reducible refine And.intro (fun hc => ?_) (fun hc => ?_) | fail
    exact hQ.out _ _ ⟨fin _ _ hf rfl, by exact ex1⟩
end Go.Proofs.Ytpbbfephfmdgmaa.Rai
