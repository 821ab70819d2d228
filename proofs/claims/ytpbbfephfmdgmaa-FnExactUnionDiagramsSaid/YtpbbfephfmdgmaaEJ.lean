/- A part of the walk: what functions of the program do, over an abstract heap. -/
import Derived.Test.YtpbbfephfmdgmaaEI
namespace Go.Proofs.Ytpbbfephfmdgmaa.Rai
open Go TP
set_option linter.unusedVariables false
set_option linter.unusedSimpArgs false
set_option maxRecDepth 20000
theorem tfEJ : (Try.prog.underlying 27 = some (.slice 54)) ∧ (el Try.prog 27 = some (none, 5)) ∧ (tk Try.prog 2 = some none) ∧ (tk Try.prog 27 = some none) ∧ (tk Try.prog 29 = some (some 2)) ∧ (tk Try.prog 54 = some (some 5)) ∧ (cz Try.prog 54 = some 5) ∧ (bz Try.prog 54 = some 40) ∧ (zr Try.prog 29 = some (.agg #[.slice none 0 0, .int .i64 0])) ∧ (zr Try.prog 54 = some (.agg #[.int .i64 0, .int .i64 0, .int .i64 0, .int .i64 0, .int .i64 0])) ∧ (fo Try.prog 29 0 = some (0, none)) ∧ (fo Try.prog 29 1 = some (1, none)) ∧ (el Try.prog 29 = none) ∧ (placesOf Try.prog 29 = some #[(0, 1), (1, 1)]) := by
  refine ⟨?_, ?_, ?_, ?_, ?_, ?_, ?_, ?_, ?_, ?_, ?_, ?_, ?_, ?_⟩ <;> kernel_rfl
theorem rnEJ {a b : Prop} (hb : b) (h : Later b → a := by
  intro hb
  first
  | ((with_reducible first | refine AOps.nil ?_ | refine athen_n ?_ | refine athen_r ?_ | refine athen_e ?_ | refine ablock_n ?_ | refine ablock_r ?_ | refine ablock_s ?_ | refine AWp.seq' ?_ | refine AWp.block ?_ | refine AWp.skip ?_ | refine AWp.exit ?_ | refine AWp.ret ?_ | refine AWp.region ?_ | (refine ablock_e ?_ ?_; focus rfl)); repeat (with_reducible first | refine AOps.nil ?_ | refine athen_n ?_ | refine athen_r ?_ | refine athen_e ?_ | refine ablock_n ?_ | refine ablock_r ?_ | refine ablock_s ?_ | refine AWp.seq' ?_ | refine AWp.block ?_ | refine AWp.skip ?_ | refine AWp.exit ?_ | refine AWp.ret ?_ | refine AWp.region ?_ | (refine ablock_e ?_ ?_; focus rfl)))
  | (refine AOps.guardu rfl rfl rfl ?_ ?_; focus (simp (disch := (first | omega | (simp only [nx]; first | done | omega))) only [Value.bool.injEq, Bool.and_true, Bool.true_and, Bool.and_false, Bool.false_and, beq_self_eq_true, bne, Bool.not_true, Bool.not_false, sx, nx, dx, ↓reduceIte, reduceCtorEq, Nat.reduceEqDiff, ne_eq, not_false_eq_true, *]; done))
  | ((first | refine AOps.cons2 rfl rfl fun K hK => ?_ | refine AWp.cond rfl fun X Y hX hY => ?_ | refine AOps.guard rfl rfl rfl fun X Y hX hY => ?_ | refine aret_r ?_ | refine aret_n ?_); simp (disch := (first | omega | (simp only [nx]; first | done | omega))) only [acond_bool, aresK, retv, xxq, tfEJ, sliceK, bnd, appendK, appsK, copyK, clearK, makeSliceK, buildSliceK, buildK, lookupK, mapPutK, mapOf, convK, allocK, indexK, partK, xxa, xxb, xxc, bne, Int.reduceEq, Int.reduceBEq, Int.reduceNe, Int.reduceBNe, Int.reduceLE, Int.reduceGT, Int.reduceGE, Int.reduceNeg, ↓reduceIte, reduceCtorEq, Nat.reduceEqDiff, Nat.reduceAdd, Nat.reduceMul, Nat.reduceSub, Nat.reduceLT, Int.reduceAdd, Int.reduceSub, Int.reduceMul, Int.reduceLT, Int.reduceToNat, ne_eq, *]; (repeat first | ((with_reducible refine And.intro (fun hc => ?_) (fun hc => absurd hc (by omega))); clear hc) | ((with_reducible refine And.intro (fun hc => absurd hc (by omega)) (fun hc => ?_)); clear hc) | ((with_reducible refine And.intro ?_ ?_); focus ((first | omega | assumption | exact cok _ rfl | exact one_ints _ | exact one_map fun _ => rfl | ((repeat refine one_cons (by first | rfl | assumption) ?_); exact one_nil) | rfl | decide | (intro u hu; cases hu)); done)) | (with_reducible refine (fun hc => ?_ : _ → _); clear hc)); (first | refine hK.out _ _ ?_ | refine ACalls.hk hK ?_ | refine appendK.hk hK ?_ | refine (fun (q : _ ∧ _) => And.intro (hK.out _ _ q.1) (hK.out _ _ q.2)) ?_ | refine hX.out ?_ | refine hY.out ?_ | refine (fun (q : (_ → _) ∧ (_ → _)) => And.intro (fun hc => hX.out (q.1 hc)) (fun hc => hY.out (q.2 hc))) ?_ | refine (fun (q : (_ → _) ∧ (_ → _)) => And.intro (fun hc => hY.out (q.1 hc)) (fun hc => hX.out (q.2 hc))) ?_ | skip))
  exact hb.out) : a := h ⟨hb⟩
theorem hlEJ {p b : Prop} (hb : b) (h : p := by simp (disch := (first | omega | (simp only [nx]; first | done | omega))) only [heldIn_iff, List.zipIdx_cons, List.zipIdx_nil, List.map_cons, List.map_nil, xxq, tfEJ, sliceK, bnd, appendK, appsK, copyK, clearK, makeSliceK, buildSliceK, buildK, lookupK, mapPutK, mapOf, convK, allocK, indexK, partK, xxa, xxb, xxc, bne, Int.reduceEq, Int.reduceBEq, Int.reduceNe, Int.reduceBNe, Int.reduceLE, Int.reduceGT, Int.reduceGE, Int.reduceNeg, ↓reduceIte, reduceCtorEq, Nat.reduceEqDiff, Nat.reduceAdd, Nat.reduceMul, Nat.reduceSub, Nat.reduceLT, Int.reduceAdd, Int.reduceSub, Int.reduceMul, Int.reduceLT, Int.reduceToNat, ne_eq, *]; first | done | trivial) : p ∧ b := ⟨h, hb⟩
theorem ivEJ {p : Prop} (h : p := by first | omega | ((repeat first | exact Ext.refl _ | assumption | refine Ext.push ?_ _ | refine Ext.set ?_ _ (by first | omega | (simp only [nx, *]; omega)) | (apply Ext.up; focus (assumption; done))); done) | (simp (disch := (first | omega | (simp only [nx]; first | done | omega))) only [xxq, xxa, xxb, xxc, bne, Int.reduceEq, Int.reduceBEq, Int.reduceNe, Int.reduceBNe, Int.reduceLE, Int.reduceGT, Int.reduceGE, Int.reduceNeg, ↓reduceIte, reduceCtorEq, Nat.reduceEqDiff, Nat.reduceAdd, Nat.reduceMul, Nat.reduceSub, Nat.reduceLT, Int.reduceAdd, Int.reduceSub, Int.reduceMul, Int.reduceLT, Int.reduceToNat, ne_eq, *, intV_int]; first | done | omega | rfl | exact congrArg (Value.int .i64) (by omega) | ((repeat first | exact Ext.refl _ | assumption | refine Ext.push ?_ _ | refine Ext.set ?_ _ (by first | omega | (simp only [nx, *]; omega)) | (apply Ext.up; focus (assumption; done))); done)) | rfl) : p := h
theorem smEJ {a b : Prop} (hb : b) (h : Later b → a := by intro hb; simp (disch := (first | omega | (simp only [nx]; first | done | omega))) only [xxq, xxa, xxb, xxc, bne, Int.reduceEq, Int.reduceBEq, Int.reduceNe, Int.reduceBNe, Int.reduceLE, Int.reduceGT, Int.reduceGE, Int.reduceNeg, ↓reduceIte, reduceCtorEq, Nat.reduceEqDiff, Nat.reduceAdd, Nat.reduceMul, Nat.reduceSub, Nat.reduceLT, Int.reduceAdd, Int.reduceSub, Int.reduceMul, Int.reduceLT, Int.reduceToNat, ne_eq, *, intV_int]; exact hb.out) : a := h ⟨hb⟩
theorem gtEJ {A F : Fr} {t : Nat} {v : Value} (h : Ag [] A F) (e : F t = v := by simp (disch := (first | omega | (simp only [nx]; first | done | omega))) only [xxq, xxa, xxb, xxc, bne, Int.reduceEq, Int.reduceBEq, Int.reduceNe, Int.reduceBNe, Int.reduceLE, Int.reduceGT, Int.reduceGE, Int.reduceNeg, ↓reduceIte, reduceCtorEq, Nat.reduceEqDiff, Nat.reduceAdd, Nat.reduceMul, Nat.reduceSub, Nat.reduceLT, Int.reduceAdd, Int.reduceSub, Int.reduceMul, Int.reduceLT, Int.reduceToNat, ne_eq, *, intV_int]; exact rfl) : A t = v := (h.h t rfl).trans e
theorem agEJ {D : List Nat} {A F : Fr} (h : Ag D A F := by
  repeat (with_reducible first | exact Ag.refl _ _ | refine Ag.nop ?_ | refine Ag.dead rfl ?_ | (refine Ag.live ?_ ?_; focus exact ivEJ) | refine Ag.dr rfl ?_ | (refine Ag.lr ?_ ?_; focus exact ivEJ) | refine Ag.up (by assumption) rfl ?_)) : Ag D A F := h
theorem sdEJ {p : Prop} (h : p := by first | omega | assumption | (simp (disch := (first | omega | (simp only [nx]; first | done | omega))) only [xxq, tfEJ, sliceK, bnd, appendK, appsK, copyK, clearK, makeSliceK, buildSliceK, buildK, lookupK, mapPutK, mapOf, convK, allocK, indexK, partK, xxa, xxb, xxc, bne, Int.reduceEq, Int.reduceBEq, Int.reduceNe, Int.reduceBNe, Int.reduceLE, Int.reduceGT, Int.reduceGE, Int.reduceNeg, ↓reduceIte, reduceCtorEq, Nat.reduceEqDiff, Nat.reduceAdd, Nat.reduceMul, Nat.reduceSub, Nat.reduceLT, Int.reduceAdd, Int.reduceSub, Int.reduceMul, Int.reduceLT, Int.reduceToNat, ne_eq, *]; first | done | omega | rfl)) : p := h
theorem OwN.setlow {lo hi i : Nat} {b : Blk} {H : Heap} {w : Value} {C : List Cr} (h : OwN lo hi H w C) (h5 : i < lo) : OwN lo hi (H.set i b) w C := by
  obtain ⟨h0, h | ⟨g, h1, h2, c, rfl, h3, h4⟩⟩ := h
  · exact ⟨by rw [Heap.size_set]; exact h0, .inl h⟩
  · exact ⟨by rw [Heap.size_set]; exact h0, .inr ⟨g, h1, h2, c, rfl, by rw [Heap.size_set]; exact h3, by rw [get_set_ne (by omega)]; exact h4⟩⟩
/-- What 'UnionDiagrams' returns. -/
def uniV (C : List Cr) (z : Int) (D : List Cr) (y : Int) : List Cr × Int × Int := if IsD C z then (if IsD D y then (if C.length + D.length ≤ 10 then (if z + y ≤ 8 then (C ++ D.map (shC (2 * C.length)), z + y, 0) else ([], 0, 3)) else ([], 0, 3)) else ([], 0, 1)) else ([], 0, 1)
set_option maxHeartbeats 4000000 in
theorem specUnionDiagrams_c {H : Heap} {v vd : Value} {g0 : Nat} {C D : List Cr} (z y : Int) (hC : OwC H v g0 C) (hD : RdC H vd D) (hS : C.length ≤ 1048576) (hS2 : D.length ≤ 1048576) :
    ACalls Try.prog 31 [.agg #[v, I z], .agg #[vd, I y]] H fun u H' => (∃ w, u = .tuple #[.agg #[w, I (uniV C z D y).2.1], I (uniV C z D y).2.2] ∧ OwN H.size H'.size H' w (uniV C z D y).1) ∧ Ext H H' := by
  have hC1 := fun {H' : Heap} (h : Ext H H') => hC.rd.ext h
  have hC2 := fun {H' : Heap} (h : Ext H H') => hC.ext h
  have hD1 := fun {H' : Heap} (h : Ext H H') => hD.ext h
  have hone := hC.rd.one
  have honed := hD.one
  obtain ⟨pc, kc, rfl, _⟩ := id hC.rd
  obtain ⟨pd, kd, rfl, _⟩ := id hD
  unfold uniV
  by_cases h1 : IsD C z
  · have hd1 : decide (IsD C z) = true := decide_eq_true h1
    rw [if_pos h1]
    by_cases h2 : IsD D y
    · have hd2 : decide (IsD D y) = true := decide_eq_true h2
      rw [if_pos h2]
      have hz := h1.2.1
      have hy := h2.2.1
      have hn1 := h1.1
      have hn2 := h2.1
      by_cases h3 : C.length + D.length ≤ 10
      · rw [if_pos h3]
        have h3b : ((C.length : Int) + D.length > 10) = False := eq_false (by omega)
        by_cases h4 : z + y ≤ 8
        · rw [if_pos h4]
          have h4b : (z + y > 8) = False := eq_false (by omega)
          refine ACalls.body Try.func31 rfl Try.ntmps31 (rs := [.cell 4 29, .tmp 5]) rfl (by simp) rfl fun Q hQ A hA => ?_
          have a0 := hA 0 _ _ rfl
          have a1 := hA 1 _ _ rfl
          clear hA
          repeat' first | refine rnEJ ?_ | (refine (specIsDiagram_c z (hC1 (by exact ex1)) hS).mono ?_; rintro u H1 ⟨rfl, hx1⟩; rw [hd1]; have hx1g := hx1.get; have hx1s := hx1.size; (try simp only [nx] at hx1s)) | (refine (specIsDiagram_c y (hD1 (by exact ex1)) hS2).mono ?_; rintro u H2 ⟨rfl, hx2⟩; rw [hd2]; have hx2g := hx2.get; have hx2s := hx2.size; (try simp only [nx] at hx2s)) | (refine (l25Union_c z y (hC2 (by exact ex1)) (hD1 (by exact ex1)) hn1 hn2 h2.2.2.1 hz hy).mono ?_; rintro u H3 ⟨⟨w, rfl, hO⟩, hx3⟩; have hw := hO.rd.one; have hx3g := hx3.get; have hx3s := hx3.size; (try simp only [nx] at hx3s)) | with_reducible refine And.intro (fun hc => ?_) (fun hc => ?_) | fail
          refine hQ.out _ _ ⟨⟨_, rfl, ?_⟩, by exact ex1⟩
          rw [Heap.size_set]
          exact (hO.setlow (by omega)).low (by omega)
        · rw [if_neg h4]
          have h4b : (z + y > 8) = True := eq_true (by omega)
          refine ACalls.body Try.func31 rfl Try.ntmps31 (rs := [.cell 4 29, .tmp 5]) rfl (by simp) rfl fun Q hQ A hA => ?_
          have a0 := hA 0 _ _ rfl
          have a1 := hA 1 _ _ rfl
          clear hA
          repeat' first | refine rnEJ ?_ | (refine (specIsDiagram_c z (hC1 (by exact ex1)) hS).mono ?_; rintro u H1 ⟨rfl, hx1⟩; rw [hd1]; have hx1g := hx1.get; have hx1s := hx1.size; (try simp only [nx] at hx1s)) | (refine (specIsDiagram_c y (hD1 (by exact ex1)) hS2).mono ?_; rintro u H2 ⟨rfl, hx2⟩; rw [hd2]; have hx2g := hx2.get; have hx2s := hx2.size; (try simp only [nx] at hx2s)) | with_reducible refine And.intro (fun hc => ?_) (fun hc => ?_) | fail
          exact hQ.out _ _ ⟨⟨_, rfl, Nat.le_refl _, .inl ⟨rfl, rfl⟩⟩, by exact ex1⟩
      · rw [if_neg h3]
        have h3b : ((C.length : Int) + D.length > 10) = True := eq_true (by omega)
        refine ACalls.body Try.func31 rfl Try.ntmps31 (rs := [.cell 4 29, .tmp 5]) rfl (by simp) rfl fun Q hQ A hA => ?_
        have a0 := hA 0 _ _ rfl
        have a1 := hA 1 _ _ rfl
        clear hA
        repeat' first | refine rnEJ ?_ | (refine (specIsDiagram_c z (hC1 (by exact ex1)) hS).mono ?_; rintro u H1 ⟨rfl, hx1⟩; rw [hd1]; have hx1g := hx1.get; have hx1s := hx1.size; (try simp only [nx] at hx1s)) | (refine (specIsDiagram_c y (hD1 (by exact ex1)) hS2).mono ?_; rintro u H2 ⟨rfl, hx2⟩; rw [hd2]; have hx2g := hx2.get; have hx2s := hx2.size; (try simp only [nx] at hx2s)) | with_reducible refine And.intro (fun hc => ?_) (fun hc => ?_) | fail
        exact hQ.out _ _ ⟨⟨_, rfl, Nat.le_refl _, .inl ⟨rfl, rfl⟩⟩, by exact ex1⟩
    · have hd2 : decide (IsD D y) = false := decide_eq_false h2
      rw [if_neg h2]
      refine ACalls.body Try.func31 rfl Try.ntmps31 (rs := [.cell 4 29, .tmp 5]) rfl (by simp) rfl fun Q hQ A hA => ?_
      have a0 := hA 0 _ _ rfl
      have a1 := hA 1 _ _ rfl
      clear hA
      repeat' first | refine rnEJ ?_ | (refine (specIsDiagram_c z (hC1 (by exact ex1)) hS).mono ?_; rintro u H1 ⟨rfl, hx1⟩; rw [hd1]; have hx1g := hx1.get; have hx1s := hx1.size; (try simp only [nx] at hx1s)) | (refine (specIsDiagram_c y (hD1 (by exact ex1)) hS2).mono ?_; rintro u H2 ⟨rfl, hx2⟩; rw [hd2]; have hx2g := hx2.get; have hx2s := hx2.size; (try simp only [nx] at hx2s)) | with_reducible refine And.intro (fun hc => ?_) (fun hc => ?_) | fail
      exact hQ.out _ _ ⟨⟨_, rfl, Nat.le_refl _, .inl ⟨rfl, rfl⟩⟩, by exact ex1⟩
  · have hd1 : decide (IsD C z) = false := decide_eq_false h1
    rw [if_neg h1]
    refine ACalls.body Try.func31 rfl Try.ntmps31 (rs := [.cell 4 29, .tmp 5]) rfl (by simp) rfl fun Q hQ A hA => ?_
    have a0 := hA 0 _ _ rfl
    have a1 := hA 1 _ _ rfl
    clear hA
    repeat' first | refine rnEJ ?_ | (refine (specIsDiagram_c z (hC1 (by exact ex1)) hS).mono ?_; rintro u H1 ⟨rfl, hx1⟩; rw [hd1]; have hx1g := hx1.get; have hx1s := hx1.size; (try simp only [nx] at hx1s)) | with_reducible refine And.intro (fun hc => ?_) (fun hc => ?_) | fail
    exact hQ.out _ _ ⟨⟨_, rfl, Nat.le_refl _, .inl ⟨rfl, rfl⟩⟩, by exact ex1⟩
set_option maxHeartbeats 4000000 in
theorem besideCode_c {H : Heap} {v vd : Value} {g0 : Nat} {C D : List Cr} (z y : Int) (hC : OwC H v g0 C) (hD : RdC H vd D) (hS : C.length ≤ 1048576) (hS2 : D.length ≤ 1048576) :
    ACalls Try.prog 62 [.agg #[v, I z], .agg #[vd, I y]] H fun u H' => u = I (uniV C z D y).2.2 ∧ Ext H H' := by
  have hC1 := fun {H' : Heap} (h : Ext H H') => hC.rd.ext h
  have hC2 := fun {H' : Heap} (h : Ext H H') => hC.ext h
  have hD1 := fun {H' : Heap} (h : Ext H H') => hD.ext h
  have hone := hC.rd.one
  have honed := hD.one
  obtain ⟨pc, kc, rfl, _⟩ := id hC.rd
  obtain ⟨pd, kd, rfl, _⟩ := id hD
  unfold uniV
  by_cases h1 : IsD C z
  · have hd1 : decide (IsD C z) = true := decide_eq_true h1
    rw [if_pos h1]
    by_cases h2 : IsD D y
    · have hd2 : decide (IsD D y) = true := decide_eq_true h2
      rw [if_pos h2]
      have hz := h1.2.1
      have hy := h2.2.1
      have hn1 := h1.1
      have hn2 := h2.1
      by_cases h3 : C.length + D.length ≤ 10
      · rw [if_pos h3]
        have h3b : ((C.length : Int) + D.length > 10) = False := eq_false (by omega)
        by_cases h4 : z + y ≤ 8
        · rw [if_pos h4]
          have h4b : (z + y > 8) = False := eq_false (by omega)
          refine ACalls.body Try.func62 rfl Try.ntmps62 (rs := [.tmp 4]) rfl (by simp) rfl fun Q hQ A hA => ?_
          have a0 := hA 0 _ _ rfl
          have a1 := hA 1 _ _ rfl
          clear hA
          repeat' first | refine rnEJ ?_ | (refine (isDiagram_c z (hC1 (by exact ex1)) hS).mono ?_; rintro u H1 ⟨rfl, hx1⟩; rw [hd1]; have hx1g := hx1.get; have hx1s := hx1.size; (try simp only [nx] at hx1s)) | (refine (isDiagram_c y (hD1 (by exact ex1)) hS2).mono ?_; rintro u H2 ⟨rfl, hx2⟩; rw [hd2]; have hx2g := hx2.get; have hx2s := hx2.size; (try simp only [nx] at hx2s)) | with_reducible refine And.intro (fun hc => ?_) (fun hc => ?_) | fail
          exact hQ.out _ _ ⟨rfl, by exact ex1⟩
        · rw [if_neg h4]
          have h4b : (z + y > 8) = True := eq_true (by omega)
          refine ACalls.body Try.func62 rfl Try.ntmps62 (rs := [.tmp 4]) rfl (by simp) rfl fun Q hQ A hA => ?_
          have a0 := hA 0 _ _ rfl
          have a1 := hA 1 _ _ rfl
          clear hA
          repeat' first | refine rnEJ ?_ | (refine (isDiagram_c z (hC1 (by exact ex1)) hS).mono ?_; rintro u H1 ⟨rfl, hx1⟩; rw [hd1]; have hx1g := hx1.get; have hx1s := hx1.size; (try simp only [nx] at hx1s)) | (refine (isDiagram_c y (hD1 (by exact ex1)) hS2).mono ?_; rintro u H2 ⟨rfl, hx2⟩; rw [hd2]; have hx2g := hx2.get; have hx2s := hx2.size; (try simp only [nx] at hx2s)) | with_reducible refine And.intro (fun hc => ?_) (fun hc => ?_) | fail
          exact hQ.out _ _ ⟨rfl, by exact ex1⟩
      · rw [if_neg h3]
        have h3b : ((C.length : Int) + D.length > 10) = True := eq_true (by omega)
        refine ACalls.body Try.func62 rfl Try.ntmps62 (rs := [.tmp 4]) rfl (by simp) rfl fun Q hQ A hA => ?_
        have a0 := hA 0 _ _ rfl
        have a1 := hA 1 _ _ rfl
        clear hA
        repeat' first | refine rnEJ ?_ | (refine (isDiagram_c z (hC1 (by exact ex1)) hS).mono ?_; rintro u H1 ⟨rfl, hx1⟩; rw [hd1]; have hx1g := hx1.get; have hx1s := hx1.size; (try simp only [nx] at hx1s)) | (refine (isDiagram_c y (hD1 (by exact ex1)) hS2).mono ?_; rintro u H2 ⟨rfl, hx2⟩; rw [hd2]; have hx2g := hx2.get; have hx2s := hx2.size; (try simp only [nx] at hx2s)) | with_reducible refine And.intro (fun hc => ?_) (fun hc => ?_) | fail
        exact hQ.out _ _ ⟨rfl, by exact ex1⟩
    · have hd2 : decide (IsD D y) = false := decide_eq_false h2
      rw [if_neg h2]
      refine ACalls.body Try.func62 rfl Try.ntmps62 (rs := [.tmp 4]) rfl (by simp) rfl fun Q hQ A hA => ?_
      have a0 := hA 0 _ _ rfl
      have a1 := hA 1 _ _ rfl
      clear hA
      repeat' first | refine rnEJ ?_ | (refine (isDiagram_c z (hC1 (by exact ex1)) hS).mono ?_; rintro u H1 ⟨rfl, hx1⟩; rw [hd1]; have hx1g := hx1.get; have hx1s := hx1.size; (try simp only [nx] at hx1s)) | (refine (isDiagram_c y (hD1 (by exact ex1)) hS2).mono ?_; rintro u H2 ⟨rfl, hx2⟩; rw [hd2]; have hx2g := hx2.get; have hx2s := hx2.size; (try simp only [nx] at hx2s)) | with_reducible refine And.intro (fun hc => ?_) (fun hc => ?_) | fail
      exact hQ.out _ _ ⟨rfl, by exact ex1⟩
  · have hd1 : decide (IsD C z) = false := decide_eq_false h1
    rw [if_neg h1]
    refine ACalls.body Try.func62 rfl Try.ntmps62 (rs := [.tmp 4]) rfl (by simp) rfl fun Q hQ A hA => ?_
    have a0 := hA 0 _ _ rfl
    have a1 := hA 1 _ _ rfl
    clear hA
    repeat' first | refine rnEJ ?_ | (refine (isDiagram_c z (hC1 (by exact ex1)) hS).mono ?_; rintro u H1 ⟨rfl, hx1⟩; rw [hd1]; have hx1g := hx1.get; have hx1s := hx1.size; (try simp only [nx] at hx1s)) | with_reducible refine And.intro (fun hc => ?_) (fun hc => ?_) | fail
    exact hQ.out _ _ ⟨rfl, by exact ex1⟩
set_option maxHeartbeats 4000000 in
theorem UnionDiagrams_c {H : Heap} {v vd : Value} {g0 : Nat} {C D : List Cr} (z y : Int) (hC : OwC H v g0 C) (hD : RdC H vd D) (hS : C.length ≤ 1048576) (hS2 : D.length ≤ 1048576) :
    ACalls Try.prog 32 [.agg #[v, I z], .agg #[vd, I y]] H fun u H' => (∃ w, u = .tuple #[.agg #[w, I (uniV C z D y).2.1], I (uniV C z D y).2.2] ∧ OwN H.size H'.size H' w (uniV C z D y).1) ∧ Ext H H' := by
  have hC2 := fun {H' : Heap} (h : Ext H H') => hC.ext h
  have hD1 := fun {H' : Heap} (h : Ext H H') => hD.ext h
  have hone := hC.rd.one
  have honed := hD.one
  obtain ⟨pc, kc, rfl, _⟩ := id hC.rd
  obtain ⟨pd, kd, rfl, _⟩ := id hD
  have h0 : (uniV C z D y).2.2 = 0 → IsD C z ∧ IsD D y ∧ uniV C z D y = (C ++ D.map (shC (2 * C.length)), z + y, 0) := by
    unfold uniV
    intro h
    split at h
    · rename_i h1
      split at h
      · rename_i h2
        split at h
        · rename_i h3
          split at h
          · rename_i h4
            rw [if_pos h1, if_pos h2, if_pos h3, if_pos h4]
            exact ⟨h1, h2, rfl⟩
          · cases h
        · cases h
      · cases h
    · cases h
  have h9 : (uniV C z D y).2.2 ≠ 0 → ∃ e, uniV C z D y = ([], 0, e) := by
    unfold uniV
    intro h
    split at h
    · rename_i h1
      split at h
      · rename_i h2
        split at h
        · rename_i h3
          split at h
          · exact absurd rfl h
          · rename_i h4
            rw [if_pos h1, if_pos h2, if_pos h3, if_neg h4]
            exact ⟨_, rfl⟩
        · rename_i h3
          rw [if_pos h1, if_pos h2, if_neg h3]
          exact ⟨_, rfl⟩
      · rename_i h2
        rw [if_pos h1, if_neg h2]
        exact ⟨_, rfl⟩
    · rename_i h1
      rw [if_neg h1]
      exact ⟨_, rfl⟩
  by_cases h : (uniV C z D y).2.2 = 0
  · obtain ⟨h1, h2, h3⟩ := h0 h
    rw [h3]
    clear h0 h9
    refine ACalls.body Try.func32 rfl Try.ntmps32 (rs := [.cell 4 29, .tmp 5]) rfl (by simp) rfl fun Q hQ A hA => ?_
    have a0 := hA 0 _ _ rfl
    have a1 := hA 1 _ _ rfl
    clear hA
    repeat' first | refine rnEJ ?_ | (refine (besideCode_c z y (hC2 (by exact ex1)) (hD1 (by exact ex1)) hS hS2).mono ?_; rintro u H1 ⟨rfl, hx1⟩; rw [h]; have hx1g := hx1.get; have hx1s := hx1.size; (try simp only [nx] at hx1s)) | (refine (beside_c z y (hC2 (by exact ex1)) (hD1 (by exact ex1)) h1.1 h2.1 h2.2.2.1 h1.2.1 h2.2.1).mono ?_; rintro u H3 ⟨⟨w, rfl, hO⟩, hx3⟩; have hw := hO.rd.one; have hx3g := hx3.get; have hx3s := hx3.size; (try simp only [nx] at hx3s)) | with_reducible refine And.intro (fun hc => ?_) (fun hc => ?_) | fail
    refine hQ.out _ _ ⟨⟨_, rfl, ?_⟩, by exact ex1⟩
    rw [Heap.size_set]
    exact (hO.setlow (by omega)).low (by omega)
  · obtain ⟨e, h3⟩ := h9 h
    have h4 : (e == 0) = false := by rw [beq_eq_false_iff_ne]; intro e2; rw [h3] at h; exact h e2
    have h6 : (e = 0) = False := eq_false (by intro e2; rw [h3] at h; exact h e2)
    rw [h3]
    have h5 : (uniV C z D y).2.2 = e := by rw [h3]
    clear h0 h9 h
    refine ACalls.body Try.func32 rfl Try.ntmps32 (rs := [.cell 4 29, .tmp 5]) rfl (by simp) rfl fun Q hQ A hA => ?_
    have a0 := hA 0 _ _ rfl
    have a1 := hA 1 _ _ rfl
    clear hA
    repeat' first | refine rnEJ ?_ | (refine (besideCode_c z y (hC2 (by exact ex1)) (hD1 (by exact ex1)) hS hS2).mono ?_; rintro u H1 ⟨rfl, hx1⟩; rw [h5]; have hx1g := hx1.get; have hx1s := hx1.size; (try simp only [nx] at hx1s)) | with_reducible refine And.intro (fun hc => ?_) (fun hc => ?_) | fail
    exact hQ.out _ _ ⟨⟨_, rfl, Nat.le_refl _, .inl ⟨rfl, rfl⟩⟩, by exact ex1⟩
end Go.Proofs.Ytpbbfephfmdgmaa.Rai
