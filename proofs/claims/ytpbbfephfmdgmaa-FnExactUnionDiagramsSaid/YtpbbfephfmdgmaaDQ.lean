/- A part of the walk: what functions of the program do, over an abstract heap. -/
import Derived.Test.YtpbbfephfmdgmaaDP
namespace Go.Proofs.Ytpbbfephfmdgmaa.Rai
open Go TP
set_option linter.unusedVariables false
set_option linter.unusedSimpArgs false
set_option maxRecDepth 20000
theorem tfDQ : (Try.prog.underlying 27 = some (.slice 54)) ∧ (el Try.prog 27 = some (none, 5)) ∧ (Try.prog.underlying 37 = some (.slice 65)) ∧ (el Try.prog 37 = some (none, 1)) ∧ (tk Try.prog 2 = some none) ∧ (tk Try.prog 27 = some none) ∧ (tk Try.prog 29 = some (some 2)) ∧ (tk Try.prog 54 = some (some 5)) ∧ (tk Try.prog 65 = some none) ∧ (cz Try.prog 54 = some 5) ∧ (bz Try.prog 54 = some 40) ∧ (cz Try.prog 65 = some 1) ∧ (bz Try.prog 65 = some 24) ∧ (zr Try.prog 54 = some (.agg #[.int .i64 0, .int .i64 0, .int .i64 0, .int .i64 0, .int .i64 0])) ∧ (zr Try.prog 65 = some (.slice none 0 0)) ∧ (fo Try.prog 29 0 = some (0, none)) ∧ (fo Try.prog 29 1 = some (1, none)) ∧ (fo Try.prog 54 4 = some (4, none)) := by
  refine ⟨?_, ?_, ?_, ?_, ?_, ?_, ?_, ?_, ?_, ?_, ?_, ?_, ?_, ?_, ?_, ?_, ?_, ?_⟩ <;> kernel_rfl
theorem rnDQ {a b : Prop} (hb : b) (h : Later b → a := by
  intro hb
  first
  | ((with_reducible first | refine AOps.nil ?_ | refine athen_n ?_ | refine athen_r ?_ | refine athen_e ?_ | refine ablock_n ?_ | refine ablock_r ?_ | refine ablock_s ?_ | refine AWp.seq' ?_ | refine AWp.block ?_ | refine AWp.skip ?_ | refine AWp.exit ?_ | refine AWp.ret ?_ | refine AWp.region ?_ | (refine ablock_e ?_ ?_; focus rfl)); repeat (with_reducible first | refine AOps.nil ?_ | refine athen_n ?_ | refine athen_r ?_ | refine athen_e ?_ | refine ablock_n ?_ | refine ablock_r ?_ | refine ablock_s ?_ | refine AWp.seq' ?_ | refine AWp.block ?_ | refine AWp.skip ?_ | refine AWp.exit ?_ | refine AWp.ret ?_ | refine AWp.region ?_ | (refine ablock_e ?_ ?_; focus rfl)))
  | (refine AOps.guardu rfl rfl rfl ?_ ?_; focus (simp (disch := (first | omega | (simp only [nx]; first | done | omega))) only [Value.bool.injEq, Bool.and_true, Bool.true_and, Bool.and_false, Bool.false_and, beq_self_eq_true, bne, Bool.not_true, Bool.not_false, sx, nx, dx, ↓reduceIte, reduceCtorEq, Nat.reduceEqDiff, ne_eq, not_false_eq_true, *]; done))
  | ((first | refine AOps.cons2 rfl rfl fun K hK => ?_ | refine AWp.cond rfl fun X Y hX hY => ?_ | refine AOps.guard rfl rfl rfl fun X Y hX hY => ?_ | refine aret_r ?_ | refine aret_n ?_); simp (disch := (first | omega | (simp only [nx]; first | done | omega))) only [acond_bool, aresK, retv, xxq, tfDQ, sliceK, bnd, appendK, appsK, copyK, clearK, makeSliceK, buildSliceK, buildK, lookupK, mapPutK, mapOf, convK, allocK, indexK, partK, xxa, xxb, xxc, bne, Int.reduceEq, Int.reduceBEq, Int.reduceNe, Int.reduceBNe, Int.reduceLE, Int.reduceGT, Int.reduceGE, Int.reduceNeg, ↓reduceIte, reduceCtorEq, Nat.reduceEqDiff, Nat.reduceAdd, Nat.reduceMul, Nat.reduceSub, Nat.reduceLT, Int.reduceAdd, Int.reduceSub, Int.reduceMul, Int.reduceLT, Int.reduceToNat, ne_eq, *]; (repeat first | ((with_reducible refine And.intro (fun hc => ?_) (fun hc => absurd hc (by omega))); clear hc) | ((with_reducible refine And.intro (fun hc => absurd hc (by omega)) (fun hc => ?_)); clear hc) | ((with_reducible refine And.intro ?_ ?_); focus ((first | omega | assumption | exact cok _ rfl | exact one_ints _ | exact one_map fun _ => rfl | ((repeat refine one_cons (by first | rfl | assumption) ?_); exact one_nil) | rfl | decide | (intro u hu; cases hu)); done)) | (with_reducible refine (fun hc => ?_ : _ → _); clear hc)); (first | refine hK.out _ _ ?_ | refine ACalls.hk hK ?_ | refine appendK.hk hK ?_ | refine (fun (q : _ ∧ _) => And.intro (hK.out _ _ q.1) (hK.out _ _ q.2)) ?_ | refine hX.out ?_ | refine hY.out ?_ | refine (fun (q : (_ → _) ∧ (_ → _)) => And.intro (fun hc => hX.out (q.1 hc)) (fun hc => hY.out (q.2 hc))) ?_ | refine (fun (q : (_ → _) ∧ (_ → _)) => And.intro (fun hc => hY.out (q.1 hc)) (fun hc => hX.out (q.2 hc))) ?_ | skip))
  exact hb.out) : a := h ⟨hb⟩
theorem rdDQ {a b : Prop} (hb : b) (h : Later b → a := by
  intro hb
  first
  | with_reducible refine APl.nil ?_
  | ((first | refine APl.pure2 rfl rfl rfl rfl fun Kx hKx => ?_ | refine APl.load rfl rfl rfl fun Kx hKx => ?_ | refine APl.slice rfl rfl rfl fun Kx hKx => ?_ | refine APl.act2 rfl rfl rfl rfl fun Kx hKx => ?_); simp (disch := (first | omega | (simp only [nx]; first | done | omega))) only [heldIn_iff, List.zipIdx_cons, List.zipIdx_nil, List.map_cons, List.map_nil, xxq, tfDQ, sliceK, bnd, appendK, appsK, copyK, clearK, makeSliceK, buildSliceK, buildK, lookupK, mapPutK, mapOf, convK, allocK, indexK, partK, xxa, xxb, xxc, bne, Int.reduceEq, Int.reduceBEq, Int.reduceNe, Int.reduceBNe, Int.reduceLE, Int.reduceGT, Int.reduceGE, Int.reduceNeg, ↓reduceIte, reduceCtorEq, Nat.reduceEqDiff, Nat.reduceAdd, Nat.reduceMul, Nat.reduceSub, Nat.reduceLT, Int.reduceAdd, Int.reduceSub, Int.reduceMul, Int.reduceLT, Int.reduceToNat, ne_eq, *]; (repeat first | ((with_reducible refine And.intro (fun hc => ?_) (fun hc => absurd hc (by omega))); clear hc) | ((with_reducible refine And.intro (fun hc => absurd hc (by omega)) (fun hc => ?_)); clear hc) | ((with_reducible refine And.intro ?_ ?_); focus ((first | omega | assumption | exact cok _ rfl | exact one_ints _ | exact one_map fun _ => rfl | ((repeat refine one_cons (by first | rfl | assumption) ?_); exact one_nil) | rfl | decide | (intro u hu; cases hu)); done)) | (with_reducible refine (fun hc => ?_ : _ → _); clear hc)); (first | refine hKx.out _ ?_ | refine hKx.out _ _ ?_ | refine ACalls.hkx hKx ?_ | refine (fun (q : _ ∧ _) => And.intro (hKx.out _ q.1) (hKx.out _ q.2)) ?_ | refine (fun (q : (_ → _) ∧ _) => And.intro (fun hc => hKx.out _ (q.1 hc)) (hKx.out _ q.2)) ?_ | (refine hKx.out _ _ ?_ ?_; focus (simp (disch := (first | omega | (simp only [nx]; first | done | omega))) only [heldIn_iff, List.zipIdx_cons, List.zipIdx_nil, List.map_cons, List.map_nil, xxq, tfDQ, sliceK, bnd, appendK, appsK, copyK, clearK, makeSliceK, buildSliceK, buildK, lookupK, mapPutK, mapOf, convK, allocK, indexK, partK, xxa, xxb, xxc, bne, Int.reduceEq, Int.reduceBEq, Int.reduceNe, Int.reduceBNe, Int.reduceLE, Int.reduceGT, Int.reduceGE, Int.reduceNeg, ↓reduceIte, reduceCtorEq, Nat.reduceEqDiff, Nat.reduceAdd, Nat.reduceMul, Nat.reduceSub, Nat.reduceLT, Int.reduceAdd, Int.reduceSub, Int.reduceMul, Int.reduceLT, Int.reduceToNat, ne_eq, *]; first | done | trivial))))
  exact hb.out) : a := h ⟨hb⟩
theorem hlDQ {p b : Prop} (hb : b) (h : p := by simp (disch := (first | omega | (simp only [nx]; first | done | omega))) only [heldIn_iff, List.zipIdx_cons, List.zipIdx_nil, List.map_cons, List.map_nil, xxq, tfDQ, sliceK, bnd, appendK, appsK, copyK, clearK, makeSliceK, buildSliceK, buildK, lookupK, mapPutK, mapOf, convK, allocK, indexK, partK, xxa, xxb, xxc, bne, Int.reduceEq, Int.reduceBEq, Int.reduceNe, Int.reduceBNe, Int.reduceLE, Int.reduceGT, Int.reduceGE, Int.reduceNeg, ↓reduceIte, reduceCtorEq, Nat.reduceEqDiff, Nat.reduceAdd, Nat.reduceMul, Nat.reduceSub, Nat.reduceLT, Int.reduceAdd, Int.reduceSub, Int.reduceMul, Int.reduceLT, Int.reduceToNat, ne_eq, *]; first | done | trivial) : p ∧ b := ⟨h, hb⟩
theorem ivDQ {p : Prop} (h : p := by first | omega | ((repeat first | exact Ext.refl _ | assumption | refine Ext.push ?_ _ | refine Ext.set ?_ _ (by first | omega | (simp only [nx, *]; omega)) | (apply Ext.up; focus (assumption; done))); done) | (simp (disch := (first | omega | (simp only [nx]; first | done | omega))) only [xxq, xxa, xxb, xxc, bne, Int.reduceEq, Int.reduceBEq, Int.reduceNe, Int.reduceBNe, Int.reduceLE, Int.reduceGT, Int.reduceGE, Int.reduceNeg, ↓reduceIte, reduceCtorEq, Nat.reduceEqDiff, Nat.reduceAdd, Nat.reduceMul, Nat.reduceSub, Nat.reduceLT, Int.reduceAdd, Int.reduceSub, Int.reduceMul, Int.reduceLT, Int.reduceToNat, ne_eq, *, intV_int]; first | done | omega | rfl | exact congrArg (Value.int .i64) (by omega) | ((repeat first | exact Ext.refl _ | assumption | refine Ext.push ?_ _ | refine Ext.set ?_ _ (by first | omega | (simp only [nx, *]; omega)) | (apply Ext.up; focus (assumption; done))); done)) | rfl) : p := h
theorem smDQ {a b : Prop} (hb : b) (h : Later b → a := by intro hb; simp (disch := (first | omega | (simp only [nx]; first | done | omega))) only [xxq, xxa, xxb, xxc, bne, Int.reduceEq, Int.reduceBEq, Int.reduceNe, Int.reduceBNe, Int.reduceLE, Int.reduceGT, Int.reduceGE, Int.reduceNeg, ↓reduceIte, reduceCtorEq, Nat.reduceEqDiff, Nat.reduceAdd, Nat.reduceMul, Nat.reduceSub, Nat.reduceLT, Int.reduceAdd, Int.reduceSub, Int.reduceMul, Int.reduceLT, Int.reduceToNat, ne_eq, *, intV_int]; exact hb.out) : a := h ⟨hb⟩
theorem gtDQ {A F : Fr} {t : Nat} {v : Value} (h : Ag [] A F) (e : F t = v := by simp (disch := (first | omega | (simp only [nx]; first | done | omega))) only [xxq, xxa, xxb, xxc, bne, Int.reduceEq, Int.reduceBEq, Int.reduceNe, Int.reduceBNe, Int.reduceLE, Int.reduceGT, Int.reduceGE, Int.reduceNeg, ↓reduceIte, reduceCtorEq, Nat.reduceEqDiff, Nat.reduceAdd, Nat.reduceMul, Nat.reduceSub, Nat.reduceLT, Int.reduceAdd, Int.reduceSub, Int.reduceMul, Int.reduceLT, Int.reduceToNat, ne_eq, *, intV_int]; exact rfl) : A t = v := (h.h t rfl).trans e
theorem agDQ {D : List Nat} {A F : Fr} (h : Ag D A F := by
  repeat (with_reducible first | exact Ag.refl _ _ | refine Ag.nop ?_ | refine Ag.dead rfl ?_ | (refine Ag.live ?_ ?_; focus exact ivDQ) | refine Ag.dr rfl ?_ | (refine Ag.lr ?_ ?_; focus exact ivDQ) | refine Ag.up (by assumption) rfl ?_)) : Ag D A F := h
theorem sdDQ {p : Prop} (h : p := by first | omega | assumption | (simp (disch := (first | omega | (simp only [nx]; first | done | omega))) only [xxq, tfDQ, sliceK, bnd, appendK, appsK, copyK, clearK, makeSliceK, buildSliceK, buildK, lookupK, mapPutK, mapOf, convK, allocK, indexK, partK, xxa, xxb, xxc, bne, Int.reduceEq, Int.reduceBEq, Int.reduceNe, Int.reduceBNe, Int.reduceLE, Int.reduceGT, Int.reduceGE, Int.reduceNeg, ↓reduceIte, reduceCtorEq, Nat.reduceEqDiff, Nat.reduceAdd, Nat.reduceMul, Nat.reduceSub, Nat.reduceLT, Int.reduceAdd, Int.reduceSub, Int.reduceMul, Int.reduceLT, Int.reduceToNat, ne_eq, *]; first | done | omega | rfl)) : p := h
/-- Is it a diagram? -/
def IsD (C : List Cr) (z : Int) : Prop := C.length ≤ 10 ∧ (0 ≤ z ∧ z ≤ 8) ∧ Cnt C ∧ (regs (sucC C) (4 * C.length) (4 * C.length)).2.length = C.length + 2 * partN C
instance (C : List Cr) (z : Int) : Decidable (IsD C z) := by unfold IsD; infer_instance
theorem IsD_eq {C : List Cr} {z : Int} (h1 : C.length ≤ 10) (h2 : 0 ≤ z ∧ z ≤ 8) (h3 : Cnt C) : decide (IsD C z) = decide ((regs (sucC C) (4 * C.length) (4 * C.length)).2.length = C.length + 2 * partN C) := by
  rw [decide_eq_decide]
  exact ⟨fun h => h.2.2.2, fun h => ⟨h1, h2, h3, h⟩⟩
theorem OwnRR.shape {lo hi : Nat} {H : Heap} {v : Value} {R : List (List Int)} (h : OwnRR lo hi H v R) : ∃ p c, v = .slice p R.length c := by
  rcases h with ⟨rfl, rfl⟩ | ⟨g, c, cs, bs, rfl, _⟩ <;> exact ⟨_, _, rfl⟩
set_option maxHeartbeats 2000000 in
theorem specIsDiagram_c {H : Heap} {v : Value} {C : List Cr} (z : Int) (hC : RdC H v C) (hS : C.length ≤ 1048576) : ACalls Try.prog 12 [.agg #[v, I z]] H fun u H' => u = B (decide (IsD C z)) ∧ Ext H H' := by
  have hC1 := fun {H' : Heap} (h : Ext H H') => hC.ext h
  have hone := hC.one
  obtain ⟨p, kk, rfl, hp, hh⟩ := hC
  clear hh hone
  by_cases h1 : C.length ≤ 10
  · have h1b : ((C.length : Int) > 10) = False := eq_false (by omega)
    by_cases h2 : 0 ≤ z ∧ z ≤ 8
    · have h2b : decide (0 ≤ z ∧ z ≤ 8) = true := decide_eq_true h2
      by_cases h3 : Cnt C
      · have h3b : decide (Cnt C) = true := decide_eq_true h3
        rw [IsD_eq h1 h2 h3]
        have hrs := (regs_short (s := sucC C) (N := 4 * C.length) (fun x hx => sucC_lt h3 hx) (4 * C.length) (Nat.le_refl _)).1
        have hpl := partN_le C
        generalize hRR : (regs (sucC C) (4 * C.length) (4 * C.length)).2 = R at *
        generalize hpn : partN C = pn at *
        clear h2
        refine ACalls.body Try.func12 rfl Try.ntmps12 (rs := [.tmp 2]) rfl (by simp) rfl fun Q hQ A hA => ?_
        have a0 := hA 0 _ _ rfl
        clear hA
        repeat' first | refine rnDQ ?_ | (refine (l01In_c _ _ _).mono ?_; rintro v H' ⟨rfl, rfl⟩; rw [h2b]) | (refine (l25Counts_c z (hC1 (by exact ex1)) h1).mono ?_; rintro v H1 ⟨rfl, hx1⟩; rw [h3b]; have hx1g := hx1.get; have hx1s := hx1.size; (try simp only [nx] at hx1s)) | with_reducible refine And.intro (fun hc => ?_) (fun hc => ?_) | fail
        refine AWp.planned [0,3,4,5,6,1,2,7,8,9,10,11] mixed (by kernel_rfl) ?_
        repeat' first | refine rdDQ ?_ | (refine (l25Regions_c z (hC1 (by exact ex1)) h1 h3).mono ?_; rintro u H2 ⟨hO, hx2⟩; rw [hRR] at hO; obtain ⟨pr, cr, rfl⟩ := hO.shape; have hx2g := hx2.get; have hx2s := hx2.size; (try simp only [nx] at hx2s); refine hlDQ ?_) | (refine (l25PartCount_c z (hC1 (by exact ex1)) h1 h3).mono ?_; rintro u H3 ⟨rfl, hx3⟩; rw [hpn]; have hx3g := hx3.get; have hx3s := hx3.size; (try simp only [nx] at hx3s); refine hlDQ ?_) | with_reducible refine And.intro (fun hc => ?_) ?_ | with_reducible refine And.intro ?_ ?_ | fail
        repeat' first | refine rnDQ ?_ | with_reducible refine And.intro (fun hc => ?_) (fun hc => ?_) | fail
        refine hQ.out _ _ ⟨?_, by exact ex1⟩
        congr 1
        rw [Bool.eq_iff_iff]
        simp only [beq_iff_eq, decide_eq_true_eq]
        omega
      · have h3b : decide (Cnt C) = false := decide_eq_false h3
        have hf : decide (IsD C z) = false := decide_eq_false fun h => h3 h.2.2.1
        rw [hf]
        clear h2
        refine ACalls.body Try.func12 rfl Try.ntmps12 (rs := [.tmp 2]) rfl (by simp) rfl fun Q hQ A hA => ?_
        have a0 := hA 0 _ _ rfl
        clear hA
        repeat' first | refine rnDQ ?_ | (refine (l01In_c _ _ _).mono ?_; rintro v H' ⟨rfl, rfl⟩; rw [h2b]) | (refine (l25Counts_c z (hC1 (by exact ex1)) h1).mono ?_; rintro v H1 ⟨rfl, hx1⟩; rw [h3b]; have hx1g := hx1.get; have hx1s := hx1.size; (try simp only [nx] at hx1s)) | with_reducible refine And.intro (fun hc => ?_) (fun hc => ?_) | fail
        exact hQ.out _ _ ⟨rfl, by exact ex1⟩
    · have h2b : decide (0 ≤ z ∧ z ≤ 8) = false := decide_eq_false h2
      have hf : decide (IsD C z) = false := decide_eq_false fun h => h2 h.2.1
      rw [hf]
      clear h2
      refine ACalls.body Try.func12 rfl Try.ntmps12 (rs := [.tmp 2]) rfl (by simp) rfl fun Q hQ A hA => ?_
      have a0 := hA 0 _ _ rfl
      clear hA
      repeat' first | refine rnDQ ?_ | (refine (l01In_c _ _ _).mono ?_; rintro v H' ⟨rfl, rfl⟩; rw [h2b]) | with_reducible refine And.intro (fun hc => ?_) (fun hc => ?_) | fail
      exact hQ.out _ _ ⟨rfl, by exact ex1⟩
  · have h1b : ((C.length : Int) > 10) = True := eq_true (by omega)
    have hf : decide (IsD C z) = false := decide_eq_false fun h => h1 h.1
    rw [hf]
    refine ACalls.body Try.func12 rfl Try.ntmps12 (rs := [.tmp 2]) rfl (by simp) rfl fun Q hQ A hA => ?_
    have a0 := hA 0 _ _ rfl
    clear hA
    repeat' first | refine rnDQ ?_ | with_reducible refine And.intro (fun hc => ?_) (fun hc => ?_) | fail
    exact hQ.out _ _ ⟨rfl, by exact ex1⟩
theorem drawing1_c {H : Heap} (x : Cr) : ACalls Try.prog 73 [crV x] H fun u H' => u = B (decide (¬ (x.s = 1 ∨ x.s = -1))) ∧ Ext H H' := by
  refine ACalls.body Try.func73 rfl Try.ntmps73 (rs := [.tmp 2]) rfl (by simp) rfl fun Q hQ A hA => ?_
  have a0 := hA 0 _ _ rfl
  clear hA
  by_cases h1 : x.s = 1
  · have hb : (x.s == 1) = true := by simp [h1]
    have hd : decide (¬ (x.s = 1 ∨ x.s = -1)) = false := by simp [h1]
    rw [hd] at hQ
    clear h1 hd
    repeat' first | refine rnDQ ?_ | with_reducible refine And.intro (fun hc => ?_) (fun hc => ?_) | fail
    exact hQ.out _ _ ⟨rfl, by exact ex1⟩
  · have hb : (x.s == 1) = false := by simp [h1]
    by_cases h2 : x.s = -1
    · have hb2 : (x.s == -1) = true := by simp [h2]
      have hd : decide (¬ (x.s = 1 ∨ x.s = -1)) = false := by simp [h2]
      rw [hd] at hQ
      clear h1 hd h2
      repeat' first | refine rnDQ ?_ | with_reducible refine And.intro (fun hc => ?_) (fun hc => ?_) | fail
      exact hQ.out _ _ ⟨rfl, by exact ex1⟩
    · have hb2 : (x.s == -1) = false := by simp [h2]
      have hd : decide (¬ (x.s = 1 ∨ x.s = -1)) = true := by simp [h1, h2]
      rw [hd] at hQ
      clear h1 hd h2
      repeat' first | refine rnDQ ?_ | with_reducible refine And.intro (fun hc => ?_) (fun hc => ?_) | fail
      exact hQ.out _ _ ⟨rfl, by exact ex1⟩
def sgnAll (C : List Cr) : Prop := ∀ i, i < C.length → sgn C i
instance (C : List Cr) : Decidable (sgnAll C) := by unfold sgnAll; infer_instance
set_option maxHeartbeats 1000000 in
theorem indexFunc_c {H : Heap} {v : Value} {C : List Cr} (hC : RdC H v C) (hn : C.length ≤ 10) : ACalls Try.prog 83 [v, .func (.func 73) #[] #[]] H fun u H' => (∃ i : Int, u = I i ∧ (i ≥ 0 ↔ ¬ sgnAll C)) ∧ Ext H H' := by
  obtain ⟨p, kk, rfl, hp, hh⟩ := hC
  refine ACalls.body Try.func83 rfl Try.ntmps83 (rs := [.tmp 4]) rfl (by simp) rfl fun Q hQ A hA => ?_
  have a0 := hA 0 _ _ rfl
  have a1 := hA 1 _ _ rfl
  clear hA
  repeat' first | refine rnDQ ?_ | with_reducible refine And.intro (fun hc => ?_) (fun hc => ?_) | fail
  refine AWp.cut (fun Ac hAc => ?_)
  have c0 := gtDQ (t := 0) hAc
  have c1 := gtDQ (t := 1) hAc
  have c7 := gtDQ (t := 7) hAc
  have c8 := gtDQ (t := 8) hAc
  refine AWp.loop (fun A' H' => ∃ (k : Nat), Ag [5, 9, 10, 11, 12, 13, 14, 15, 16, 17, 18] A' (put Ac (some 8) (I k)) ∧ k ≤ C.length ∧ (∀ i, i < k → sgn C i) ∧ Ext H H') (fun A' _ => C.length - (intV (A' 8)).toNat) ?_ ?_
  · exact ⟨0, agDQ, by omega, fun i hi => by omega, Ext.refl _⟩
  · rintro A1 H1 ⟨k, hA, hk, hs, hx⟩
    have d0 := hA.h 0 rfl
    have d1 := hA.h 1 rfl
    have d7 := hA.h 7 rfl
    have d8 := hA.h 8 rfl
    by_cases hlt : k < C.length
    · obtain ⟨b1, cs, ro, rfl, hb, hg, hl, hcc⟩ := hh k hlt
      have hgb := (hx.get b1 hb).trans hg
      obtain ⟨x, hxx⟩ : ∃ x, C.getD k cr0 = x := ⟨_, rfl⟩
      rw [hxx] at hcc
      rw [cr5] at hcc
      by_cases h3 : sgn C k
      · have hd : decide (¬ (x.s = 1 ∨ x.s = -1)) = false := by unfold sgn at h3; rw [hxx] at h3; exact decide_eq_false fun h => h h3
        repeat' first | refine rnDQ ?_ | (refine (drawing1_c x).mono ?_; rintro u H2 ⟨rfl, hx2⟩; rw [hd]; have hx2g := hx2.get; have hx2s := hx2.size; (try simp only [nx] at hx2s)) | with_reducible refine And.intro (fun hc => ?_) (fun hc => ?_) | fail
        refine ⟨⟨k + 1, agDQ, by omega, fun i hi => ?_, hx.trans hx2⟩, ?_⟩
        · rcases Nat.lt_succ_iff_lt_or_eq.1 hi with h | rfl
          · exact hs i h
          · exact h3
        all_goals first | exact ivDQ | refine smDQ ?_ | skip
      · have hd : decide (¬ (x.s = 1 ∨ x.s = -1)) = true := by unfold sgn at h3; rw [hxx] at h3; exact decide_eq_true h3
        repeat' first | refine rnDQ ?_ | (refine (drawing1_c x).mono ?_; rintro u H2 ⟨rfl, hx2⟩; rw [hd]; have hx2g := hx2.get; have hx2s := hx2.size; (try simp only [nx] at hx2s)) | with_reducible refine And.intro (fun hc => ?_) (fun hc => ?_) | fail
        exact hQ.out _ _ ⟨⟨k, rfl, fun _ h => h3 (h k hlt), fun _ => by omega⟩, hx.trans hx2⟩
    · obtain rfl : k = C.length := by omega
      repeat' first | refine rnDQ ?_ | with_reducible refine And.intro (fun hc => ?_) (fun hc => ?_) | fail
      exact hQ.out _ _ ⟨⟨-1, rfl, fun h => by omega, fun h => absurd hs h⟩, hx⟩
theorem containsFunc_c {H : Heap} {v : Value} {C : List Cr} (hC : RdC H v C) (hn : C.length ≤ 10) : ACalls Try.prog 72 [v, .func (.func 73) #[] #[]] H fun u H' => u = B (decide (¬ sgnAll C)) ∧ Ext H H' := by
  obtain ⟨p, kk, hv, hp, hh⟩ := id hC
  subst hv
  refine ACalls.body Try.func72 rfl Try.ntmps72 (rs := [.tmp 4]) rfl (by simp) rfl fun Q hQ A hA => ?_
  have a0 := hA 0 _ _ rfl
  have a1 := hA 1 _ _ rfl
  clear hA
  repeat' first | refine rnDQ ?_ | (refine (indexFunc_c hC hn).mono ?_; rintro u H1 ⟨⟨i, rfl, hi⟩, hx1⟩) | with_reducible refine And.intro (fun hc => ?_) (fun hc => ?_) | fail
  exact hQ.out _ _ ⟨by first | rfl | (congr 1), hx1⟩
end Go.Proofs.Ytpbbfephfmdgmaa.Rai
