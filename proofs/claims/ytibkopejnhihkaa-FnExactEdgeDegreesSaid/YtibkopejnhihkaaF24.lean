/- A part of the walk: what functions of the program do, over an abstract heap. -/
import Derived.Test.YtibkopejnhihkaaF23
namespace Go.Proofs.Ytibkopejnhihkaa.Rai
open Go TP
set_option linter.unusedVariables false
set_option linter.unusedSimpArgs false
set_option maxRecDepth 20000
theorem tfF24 : (Try.prog.underlying 36 = some (.slice 2)) ∧ (el Try.prog 36 = some (none, 1)) ∧ (tk Try.prog 2 = some none) ∧ (tk Try.prog 24 = some (some 1)) ∧ (tk Try.prog 29 = some (some 1)) ∧ (cz Try.prog 2 = some 1) ∧ (bz Try.prog 2 = some 8) ∧ (zr Try.prog 2 = some (.int .i64 0)) ∧ (zr Try.prog 29 = some (.agg #[.slice none 0 0])) := by
  refine ⟨?_, ?_, ?_, ?_, ?_, ?_, ?_, ?_, ?_⟩ <;> kernel_rfl
theorem degL_len {T : List (List (Int × Int))} : (degL T).length ≤ 1000000 := by
  unfold degL
  split
  · rename_i h
    have hI := (nCode_zero h).1
    rw [degTo_len]
    have hbd := edgeL_bd T hI.1
    unfold classN
    split
    · simp
    · have := TP.maxTo_bd (edgeL T) 100000 hbd (by omega) (edgeL T).length (Nat.le_refl _); omega
  · simp
set_option maxHeartbeats 4000000 in
theorem lawEdgeDegrees_c {H : Heap} {v : Value} {T : List (List (Int × Int))} (hT : RowT H v T) (hS : Short T 9223372036854775807) : ACalls Try.prog 5 [.agg #[v]] H fun u H' => u = B true := by
  have hv := hT.one
  have hT1 := fun {H' : Heap} (h : Ext H H') => hT.ext h
  have hcl : (degL T).length ≤ 1000000 := degL_len
  clear hT
  refine ACalls.body Try.func5 rfl Try.ntmps5 (rs := [.tmp 2]) rfl (by simp) rfl fun Q hQ A hA => ?_
  have a0 := hA 0 _ _ rfl
  clear hA
  repeat' first
   | (with_reducible first | refine AOps.nil ?_ | refine athen_n ?_ | refine athen_r ?_ | refine athen_e ?_ | refine ablock_n ?_ | refine ablock_r ?_ | refine ablock_s ?_ | refine AWp.seq' ?_ | refine AWp.block ?_ | refine AWp.skip ?_ | refine AWp.exit ?_ | refine AWp.ret ?_ | refine AWp.region ?_) | (with_reducible refine ablock_e ?_ ?_; focus rfl)
   | (refine AOps.guardu rfl rfl rfl ?_ ?_; focus (simp (disch := (first | omega | (simp only [nx]; first | done | omega))) only [Value.bool.injEq, Bool.and_true, Bool.true_and, Bool.and_false, Bool.false_and, beq_self_eq_true, bne, Bool.not_true, Bool.not_false, sx, nx, dx, ↓reduceIte, reduceCtorEq, Nat.reduceEqDiff, ne_eq, not_false_eq_true, *]; done))
   | ((first | refine AOps.cons1 rfl rfl rfl fun K hK => ?_ | refine AWp.cond rfl fun X Y hX hY => ?_ | refine AOps.guard rfl rfl rfl fun X Y hX hY => ?_ | refine aret_r ?_ | refine aret_n ?_); simp (disch := (first | omega | (simp only [nx]; first | done | omega))) only [acond_bool, aresK, retv, xxq, tfF24, allocK, xxa, xxb, xxc, bne, ↓reduceIte, reduceCtorEq, Nat.reduceEqDiff, Nat.reduceAdd, Nat.reduceMul, Nat.reduceSub, Nat.reduceLT, Int.reduceAdd, Int.reduceSub, Int.reduceMul, Int.reduceLT, Int.reduceToNat, ne_eq, *]; (repeat first | ((with_reducible refine And.intro (fun hc => ?_) (fun hc => absurd hc (by omega))); clear hc) | ((with_reducible refine And.intro (fun hc => absurd hc (by omega)) (fun hc => ?_)); clear hc) | ((with_reducible refine And.intro ?_ ?_); focus ((first | omega | assumption | exact cok _ rfl | exact one_ints _ | exact one_map fun _ => rfl | ((repeat refine one_cons (by first | rfl | assumption) ?_); exact one_nil) | rfl | decide | (intro u hu; cases hu)); done)) | (with_reducible refine (fun hc => ?_ : _ → _); clear hc)); (first | (refine hK.out _ _ ?_; clear hK K) | (refine And.intro (hK.out _ _ ?_) (hK.out _ _ ?_) <;> clear hK K) | (refine hX.out ?_; try clear hX hY X Y) | (refine hY.out ?_; try clear hX hY X Y) | (refine And.intro (fun hc => ?_) (fun hc => ?_) <;> first | (exfalso; omega) | (refine hX.out ?_; try clear hX hY X Y) | (refine hY.out ?_; try clear hX hY X Y)) | skip))
  obtain ⟨B0, hB⟩ : ∃ B0, B0 = H.push (.cells [v] 1 false) := ⟨_, rfl⟩
  have hB0 : B0.get H.size = .cells [v] 1 false := by rw [hB, get_push_eq rfl]
  have hBs : B0.size = H.size + 1 := by rw [hB]; rfl
  have hBx : Ext H B0 := by rw [hB]; exact (Ext.refl H).push _
  rw [← hB]
  clear hB
  refine (szTriangulation_c (hT1 hBx) hS).mono ?_
  rintro u H1 ⟨⟨s, rfl, hs⟩, e1⟩
  have g1 := (e1.get H.size (by omega)).trans hB0
  refine hK.out _ _ ?_
  clear hK K
  repeat' first
   | (with_reducible first | refine AOps.nil ?_ | refine athen_n ?_ | refine athen_r ?_ | refine athen_e ?_ | refine ablock_n ?_ | refine ablock_r ?_ | refine ablock_s ?_ | refine AWp.seq' ?_ | refine AWp.block ?_ | refine AWp.skip ?_ | refine AWp.exit ?_ | refine AWp.ret ?_ | refine AWp.region ?_) | (with_reducible refine ablock_e ?_ ?_; focus rfl)
   | (refine AOps.guardu rfl rfl rfl ?_ ?_; focus (simp (disch := (first | omega | (simp only [nx]; first | done | omega))) only [Value.bool.injEq, Bool.and_true, Bool.true_and, Bool.and_false, Bool.false_and, beq_self_eq_true, bne, Bool.not_true, Bool.not_false, sx, nx, dx, ↓reduceIte, reduceCtorEq, Nat.reduceEqDiff, ne_eq, not_false_eq_true, *]; done))
   | ((first | refine AOps.cons1 rfl rfl rfl fun K hK => ?_ | refine AWp.cond rfl fun X Y hX hY => ?_ | refine AOps.guard rfl rfl rfl fun X Y hX hY => ?_ | refine aret_r ?_ | refine aret_n ?_); simp (disch := (first | omega | (simp only [nx]; first | done | omega))) only [acond_bool, aresK, retv, xxq, tfF24, allocK, xxa, xxb, xxc, bne, ↓reduceIte, reduceCtorEq, Nat.reduceEqDiff, Nat.reduceAdd, Nat.reduceMul, Nat.reduceSub, Nat.reduceLT, Int.reduceAdd, Int.reduceSub, Int.reduceMul, Int.reduceLT, Int.reduceToNat, ne_eq, *]; (repeat first | ((with_reducible refine And.intro (fun hc => ?_) (fun hc => absurd hc (by omega))); clear hc) | ((with_reducible refine And.intro (fun hc => absurd hc (by omega)) (fun hc => ?_)); clear hc) | ((with_reducible refine And.intro ?_ ?_); focus ((first | omega | assumption | exact cok _ rfl | exact one_ints _ | exact one_map fun _ => rfl | ((repeat refine one_cons (by first | rfl | assumption) ?_); exact one_nil) | rfl | decide | (intro u hu; cases hu)); done)) | (with_reducible refine (fun hc => ?_ : _ → _); clear hc)); (first | (refine hK.out _ _ ?_; clear hK K) | (refine And.intro (hK.out _ _ ?_) (hK.out _ _ ?_) <;> clear hK K) | (refine hX.out ?_; try clear hX hY X Y) | (refine hY.out ?_; try clear hX hY X Y) | (refine And.intro (fun hc => ?_) (fun hc => ?_) <;> first | (exfalso; omega) | (refine hX.out ?_; try clear hX hY X Y) | (refine hY.out ?_; try clear hX hY X Y)) | skip))
  · exact hQ.out _ _ rfl
  · have hS2 : Short T 1048576 := hs (by omega)
    have hbx1 : Ext B0 H1 := e1
    clear hs
    refine (toTriangulation_c (hT1 (hBx.trans hbx1)) hS2).mono ?_
    rintro u H2 ⟨v1, hi1, rfl, hO1, e2⟩
    have g2 := (e2.get H.size (by have := hbx1.size; omega)).trans g1
    have hbx2 : Ext B0 H2 := hbx1.trans e2
    have hv1 := hO1.row.one
    refine hK.out _ _ ?_
    clear hK K
    repeat' first
     | (with_reducible first | refine AOps.nil ?_ | refine athen_n ?_ | refine athen_r ?_ | refine athen_e ?_ | refine ablock_n ?_ | refine ablock_r ?_ | refine ablock_s ?_ | refine AWp.seq' ?_ | refine AWp.block ?_ | refine AWp.skip ?_ | refine AWp.exit ?_ | refine AWp.ret ?_ | refine AWp.region ?_) | (with_reducible refine ablock_e ?_ ?_; focus rfl)
     | (refine AOps.guardu rfl rfl rfl ?_ ?_; focus (simp (disch := (first | omega | (simp only [nx]; first | done | omega))) only [Value.bool.injEq, Bool.and_true, Bool.true_and, Bool.and_false, Bool.false_and, beq_self_eq_true, bne, Bool.not_true, Bool.not_false, sx, nx, dx, ↓reduceIte, reduceCtorEq, Nat.reduceEqDiff, ne_eq, not_false_eq_true, *]; done))
     | ((first | refine AOps.cons1 rfl rfl rfl fun K hK => ?_ | refine AWp.cond rfl fun X Y hX hY => ?_ | refine AOps.guard rfl rfl rfl fun X Y hX hY => ?_ | refine aret_r ?_ | refine aret_n ?_); simp (disch := (first | omega | (simp only [nx]; first | done | omega))) only [acond_bool, aresK, retv, xxq, tfF24, allocK, xxa, xxb, xxc, bne, ↓reduceIte, reduceCtorEq, Nat.reduceEqDiff, Nat.reduceAdd, Nat.reduceMul, Nat.reduceSub, Nat.reduceLT, Int.reduceAdd, Int.reduceSub, Int.reduceMul, Int.reduceLT, Int.reduceToNat, ne_eq, *]; (repeat first | ((with_reducible refine And.intro (fun hc => ?_) (fun hc => absurd hc (by omega))); clear hc) | ((with_reducible refine And.intro (fun hc => absurd hc (by omega)) (fun hc => ?_)); clear hc) | ((with_reducible refine And.intro ?_ ?_); focus ((first | omega | assumption | exact cok _ rfl | exact one_ints _ | exact one_map fun _ => rfl | ((repeat refine one_cons (by first | rfl | assumption) ?_); exact one_nil) | rfl | decide | (intro u hu; cases hu)); done)) | (with_reducible refine (fun hc => ?_ : _ → _); clear hc)); (first | (refine hK.out _ _ ?_; clear hK K) | (refine And.intro (hK.out _ _ ?_) (hK.out _ _ ?_) <;> clear hK K) | (refine hX.out ?_; try clear hX hY X Y) | (refine hY.out ?_; try clear hX hY X Y) | (refine And.intro (fun hc => ?_) (fun hc => ?_) <;> first | (exfalso; omega) | (refine hX.out ?_; try clear hX hY X Y) | (refine hY.out ?_; try clear hX hY X Y)) | skip))
    refine (specEdgeDegrees_c hO1.row hS2.1).mono ?_
    rintro _ H3 ⟨w, rfl, hW, e3⟩
    have g3 := (e3.get H.size (by have := hbx2.size; omega)).trans g2
    have hbx3 : Ext B0 H3 := hbx2.trans e3
    refine hK.out _ _ ?_
    clear hK K
    repeat' first
     | (with_reducible first | refine AOps.nil ?_ | refine athen_n ?_ | refine athen_r ?_ | refine athen_e ?_ | refine ablock_n ?_ | refine ablock_r ?_ | refine ablock_s ?_ | refine AWp.seq' ?_ | refine AWp.block ?_ | refine AWp.skip ?_ | refine AWp.exit ?_ | refine AWp.ret ?_ | refine AWp.region ?_) | (with_reducible refine ablock_e ?_ ?_; focus rfl)
     | (refine AOps.guardu rfl rfl rfl ?_ ?_; focus (simp (disch := (first | omega | (simp only [nx]; first | done | omega))) only [Value.bool.injEq, Bool.and_true, Bool.true_and, Bool.and_false, Bool.false_and, beq_self_eq_true, bne, Bool.not_true, Bool.not_false, sx, nx, dx, ↓reduceIte, reduceCtorEq, Nat.reduceEqDiff, ne_eq, not_false_eq_true, *]; done))
     | ((first | refine AOps.cons1 rfl rfl rfl fun K hK => ?_ | refine AWp.cond rfl fun X Y hX hY => ?_ | refine AOps.guard rfl rfl rfl fun X Y hX hY => ?_ | refine aret_r ?_ | refine aret_n ?_); simp (disch := (first | omega | (simp only [nx]; first | done | omega))) only [acond_bool, aresK, retv, xxq, tfF24, allocK, xxa, xxb, xxc, bne, ↓reduceIte, reduceCtorEq, Nat.reduceEqDiff, Nat.reduceAdd, Nat.reduceMul, Nat.reduceSub, Nat.reduceLT, Int.reduceAdd, Int.reduceSub, Int.reduceMul, Int.reduceLT, Int.reduceToNat, ne_eq, *]; (repeat first | ((with_reducible refine And.intro (fun hc => ?_) (fun hc => absurd hc (by omega))); clear hc) | ((with_reducible refine And.intro (fun hc => absurd hc (by omega)) (fun hc => ?_)); clear hc) | ((with_reducible refine And.intro ?_ ?_); focus ((first | omega | assumption | exact cok _ rfl | exact one_ints _ | exact one_map fun _ => rfl | ((repeat refine one_cons (by first | rfl | assumption) ?_); exact one_nil) | rfl | decide | (intro u hu; cases hu)); done)) | (with_reducible refine (fun hc => ?_ : _ → _); clear hc)); (first | (refine hK.out _ _ ?_; clear hK K) | (refine And.intro (hK.out _ _ ?_) (hK.out _ _ ?_) <;> clear hK K) | (refine hX.out ?_; try clear hX hY X Y) | (refine hY.out ?_; try clear hX hY X Y) | (refine And.intro (fun hc => ?_) (fun hc => ?_) <;> first | (exfalso; omega) | (refine hX.out ?_; try clear hX hY X Y) | (refine hY.out ?_; try clear hX hY X Y)) | skip))
    refine (toTriangulation_c (hT1 (hBx.trans hbx3)) hS2).mono ?_
    rintro u H4 ⟨v2, hi2, rfl, hO2, e4⟩
    have g4 := (e4.get H.size (by have := hbx3.size; omega)).trans g3
    have hbx4 : Ext B0 H4 := hbx3.trans e4
    have hv2 := hO2.row.one
    refine hK.out _ _ ?_
    clear hK K
    repeat' first
     | (with_reducible first | refine AOps.nil ?_ | refine athen_n ?_ | refine athen_r ?_ | refine athen_e ?_ | refine ablock_n ?_ | refine ablock_r ?_ | refine ablock_s ?_ | refine AWp.seq' ?_ | refine AWp.block ?_ | refine AWp.skip ?_ | refine AWp.exit ?_ | refine AWp.ret ?_ | refine AWp.region ?_) | (with_reducible refine ablock_e ?_ ?_; focus rfl)
     | (refine AOps.guardu rfl rfl rfl ?_ ?_; focus (simp (disch := (first | omega | (simp only [nx]; first | done | omega))) only [Value.bool.injEq, Bool.and_true, Bool.true_and, Bool.and_false, Bool.false_and, beq_self_eq_true, bne, Bool.not_true, Bool.not_false, sx, nx, dx, ↓reduceIte, reduceCtorEq, Nat.reduceEqDiff, ne_eq, not_false_eq_true, *]; done))
     | ((first | refine AOps.cons1 rfl rfl rfl fun K hK => ?_ | refine AWp.cond rfl fun X Y hX hY => ?_ | refine AOps.guard rfl rfl rfl fun X Y hX hY => ?_ | refine aret_r ?_ | refine aret_n ?_); simp (disch := (first | omega | (simp only [nx]; first | done | omega))) only [acond_bool, aresK, retv, xxq, tfF24, allocK, xxa, xxb, xxc, bne, ↓reduceIte, reduceCtorEq, Nat.reduceEqDiff, Nat.reduceAdd, Nat.reduceMul, Nat.reduceSub, Nat.reduceLT, Int.reduceAdd, Int.reduceSub, Int.reduceMul, Int.reduceLT, Int.reduceToNat, ne_eq, *]; (repeat first | ((with_reducible refine And.intro (fun hc => ?_) (fun hc => absurd hc (by omega))); clear hc) | ((with_reducible refine And.intro (fun hc => absurd hc (by omega)) (fun hc => ?_)); clear hc) | ((with_reducible refine And.intro ?_ ?_); focus ((first | omega | assumption | exact cok _ rfl | exact one_ints _ | exact one_map fun _ => rfl | ((repeat refine one_cons (by first | rfl | assumption) ?_); exact one_nil) | rfl | decide | (intro u hu; cases hu)); done)) | (with_reducible refine (fun hc => ?_ : _ → _); clear hc)); (first | (refine hK.out _ _ ?_; clear hK K) | (refine And.intro (hK.out _ _ ?_) (hK.out _ _ ?_) <;> clear hK K) | (refine hX.out ?_; try clear hX hY X Y) | (refine hY.out ?_; try clear hX hY X Y) | (refine And.intro (fun hc => ?_) (fun hc => ?_) <;> first | (exfalso; omega) | (refine hX.out ?_; try clear hX hY X Y) | (refine hY.out ?_; try clear hX hY X Y)) | skip))
    obtain ⟨H4b, hH4b⟩ : ∃ X, X = (H4.push (.cells [.slice none 0 0] 1 false)).set H4.size (.cells [v2] 1 false) := ⟨_, rfl⟩
    have m4 : H4b.get H4.size = .cells [v2] 1 false := by rw [hH4b, get_set_eq]
    have s4 : H4b.size = H4.size + 1 := by rw [hH4b]; rfl
    have e4b : Ext H4 H4b := by rw [hH4b]; exact (Ext.refl H4).setpush
    rw [← hH4b]
    clear hH4b
    have hbx4b : Ext B0 H4b := hbx4.trans e4b
    have hIm := fun {H : Heap} {v : Value} (hT : RowT H v T) => EdgeDegrees_c hT hS2.1
    refine (hIm (hO2.ext e4b).row).mono ?_
    rintro _ H5 ⟨u, rfl, hG, e5⟩
    have hbx5 : Ext B0 H5 := hbx4b.trans e5
    have hs0 := hbx1.size
    have hs1 := e2.size
    have hs2 := e3.size
    have hs3 := e4.size
    have hs4 := e5.size
    have hhi := hO2.hi
    have g5 := (hbx5.get H.size (by omega)).trans hB0
    have m5 := (e5.get H4.size (by omega)).trans m4
    have hW5 : RowI H5 w (degL T) := hW.ext ((e4.trans e4b).trans e5)
    have eW5 : Ext H3 H5 := (e4.trans e4b).trans e5
    have hO5 : OwnT H3.size hi2 H5 v2 T := (hO2.ext e4b).ext e5
    clear hO2 hO1 g1 g2 g3 g4 m4
    generalize (degL T) = L at *
    refine hK.out _ _ ?_
    clear hK K
    repeat' first
     | (with_reducible first | refine AOps.nil ?_ | refine athen_n ?_ | refine athen_r ?_ | refine athen_e ?_ | refine ablock_n ?_ | refine ablock_r ?_ | refine ablock_s ?_ | refine AWp.seq' ?_ | refine AWp.block ?_ | refine AWp.skip ?_ | refine AWp.exit ?_ | refine AWp.ret ?_ | refine AWp.region ?_) | (with_reducible refine ablock_e ?_ ?_; focus rfl)
     | (refine AOps.guardu rfl rfl rfl ?_ ?_; focus (simp (disch := (first | omega | (simp only [nx]; first | done | omega))) only [Value.bool.injEq, Bool.and_true, Bool.true_and, Bool.and_false, Bool.false_and, beq_self_eq_true, bne, Bool.not_true, Bool.not_false, sx, nx, dx, ↓reduceIte, reduceCtorEq, Nat.reduceEqDiff, ne_eq, not_false_eq_true, *]; done))
     | ((first | refine AOps.cons1 rfl rfl rfl fun K hK => ?_ | refine AWp.cond rfl fun X Y hX hY => ?_ | refine AOps.guard rfl rfl rfl fun X Y hX hY => ?_ | refine aret_r ?_ | refine aret_n ?_); simp (disch := (first | omega | (simp only [nx]; first | done | omega))) only [acond_bool, aresK, retv, xxq, tfF24, allocK, xxa, xxb, xxc, bne, ↓reduceIte, reduceCtorEq, Nat.reduceEqDiff, Nat.reduceAdd, Nat.reduceMul, Nat.reduceSub, Nat.reduceLT, Int.reduceAdd, Int.reduceSub, Int.reduceMul, Int.reduceLT, Int.reduceToNat, ne_eq, *]; (repeat first | ((with_reducible refine And.intro (fun hc => ?_) (fun hc => absurd hc (by omega))); clear hc) | ((with_reducible refine And.intro (fun hc => absurd hc (by omega)) (fun hc => ?_)); clear hc) | ((with_reducible refine And.intro ?_ ?_); focus ((first | omega | assumption | exact cok _ rfl | exact one_ints _ | exact one_map fun _ => rfl | ((repeat refine one_cons (by first | rfl | assumption) ?_); exact one_nil) | rfl | decide | (intro u hu; cases hu)); done)) | (with_reducible refine (fun hc => ?_ : _ → _); clear hc)); (first | (refine hK.out _ _ ?_; clear hK K) | (refine And.intro (hK.out _ _ ?_) (hK.out _ _ ?_) <;> clear hK K) | (refine (eqInt64S_c hG.row hW5 (by omega)).mono ?_; rintro u' H5 ⟨rfl, rfl⟩; refine hK.out _ _ ?_; try clear hK K) | (refine hX.out ?_; try clear hX hY X Y) | (refine hY.out ?_; try clear hX hY X Y) | (refine And.intro (fun hc => ?_) (fun hc => ?_) <;> first | (exfalso; omega) | (refine hX.out ?_; try clear hX hY X Y) | (refine hY.out ?_; try clear hX hY X Y)) | skip))
    refine AWp.planned [0,1,2,3,4] mixed (by kernel_rfl) ?_
    repeat' first
     | with_reducible refine APl.nil ?_
     | ((first | refine APl.pure rfl rfl rfl rfl rfl fun Kx hKx => ?_ | refine APl.load rfl rfl rfl fun Kx hKx => ?_ | refine APl.act1 rfl rfl rfl rfl rfl fun Kx hKx => ?_); simp (disch := (first | omega | (simp only [nx]; first | done | omega))) only [heldIn_iff, List.zipIdx_cons, List.zipIdx_nil, List.map_cons, List.map_nil, xxq, tfF24, allocK, xxa, xxb, xxc, bne, ↓reduceIte, reduceCtorEq, Nat.reduceEqDiff, Nat.reduceAdd, Nat.reduceMul, Nat.reduceSub, Nat.reduceLT, Int.reduceAdd, Int.reduceSub, Int.reduceMul, Int.reduceLT, Int.reduceToNat, ne_eq, *]; (repeat first | ((with_reducible refine And.intro (fun hc => ?_) (fun hc => absurd hc (by omega))); clear hc) | ((with_reducible refine And.intro (fun hc => absurd hc (by omega)) (fun hc => ?_)); clear hc) | ((with_reducible refine And.intro ?_ ?_); focus ((first | omega | assumption | exact cok _ rfl | exact one_ints _ | exact one_map fun _ => rfl | ((repeat refine one_cons (by first | rfl | assumption) ?_); exact one_nil) | rfl | decide | (intro u hu; cases hu)); done)) | (with_reducible refine (fun hc => ?_ : _ → _); clear hc)); (first | refine hKx.out _ ?_ | refine hKx.out _ _ ?_ | refine And.intro (hKx.out _ ?_) (hKx.out _ ?_) | refine And.intro (fun _ => hKx.out _ ?_) (hKx.out _ ?_) | (refine hKx.out _ _ ?_ ?_; focus (simp (disch := (first | omega | (simp only [nx]; first | done | omega))) only [heldIn_iff, List.zipIdx_cons, List.zipIdx_nil, List.map_cons, List.map_nil, xxq, tfF24, allocK, xxa, xxb, xxc, bne, ↓reduceIte, reduceCtorEq, Nat.reduceEqDiff, Nat.reduceAdd, Nat.reduceMul, Nat.reduceSub, Nat.reduceLT, Int.reduceAdd, Int.reduceSub, Int.reduceMul, Int.reduceLT, Int.reduceToNat, ne_eq, *]; first | done | trivial)) | (refine (toTriangulation_c (hT1 (hBx.trans hbx5)) hS2).mono ?_; rintro u' H6 ⟨v3, hi3, rfl, hO3, e6⟩; have e6g := e6.get; have e6s := e6.size; (try simp only [nx] at e6s); have hv3 := hO3.row.one; refine hKx.out _ _ ?_ ?_; focus (simp (disch := (first | omega | (simp only [nx]; first | done | omega))) only [heldIn_iff, List.zipIdx_cons, List.zipIdx_nil, List.map_cons, List.map_nil, xxq, tfF24, allocK, xxa, xxb, xxc, bne, ↓reduceIte, reduceCtorEq, Nat.reduceEqDiff, Nat.reduceAdd, Nat.reduceMul, Nat.reduceSub, Nat.reduceLT, Int.reduceAdd, Int.reduceSub, Int.reduceMul, Int.reduceLT, Int.reduceToNat, ne_eq, *]; first | done | trivial)) | (refine (eqTriangulation_c (hO5.ext e6).row hO3.row hS2).mono ?_; rintro u' H7 ⟨rfl, e7⟩; have e7g := e7.get; have e7s := e7.size; (try simp only [nx] at e7s); refine hKx.out _ _ ?_ ?_; focus (simp (disch := (first | omega | (simp only [nx]; first | done | omega))) only [heldIn_iff, List.zipIdx_cons, List.zipIdx_nil, List.map_cons, List.map_nil, xxq, tfF24, allocK, xxa, xxb, xxc, bne, ↓reduceIte, reduceCtorEq, Nat.reduceEqDiff, Nat.reduceAdd, Nat.reduceMul, Nat.reduceSub, Nat.reduceLT, Int.reduceAdd, Int.reduceSub, Int.reduceMul, Int.reduceLT, Int.reduceToNat, ne_eq, *]; first | done | trivial))); clear hKx Kx)
    repeat' first
     | (with_reducible first | refine AOps.nil ?_ | refine athen_n ?_ | refine athen_r ?_ | refine athen_e ?_ | refine ablock_n ?_ | refine ablock_r ?_ | refine ablock_s ?_ | refine AWp.seq' ?_ | refine AWp.block ?_ | refine AWp.skip ?_ | refine AWp.exit ?_ | refine AWp.ret ?_ | refine AWp.region ?_) | (with_reducible refine ablock_e ?_ ?_; focus rfl)
     | (refine AOps.guardu rfl rfl rfl ?_ ?_; focus (simp (disch := (first | omega | (simp only [nx]; first | done | omega))) only [Value.bool.injEq, Bool.and_true, Bool.true_and, Bool.and_false, Bool.false_and, beq_self_eq_true, bne, Bool.not_true, Bool.not_false, sx, nx, dx, ↓reduceIte, reduceCtorEq, Nat.reduceEqDiff, ne_eq, not_false_eq_true, *]; done))
     | ((first | refine AOps.cons1 rfl rfl rfl fun K hK => ?_ | refine AWp.cond rfl fun X Y hX hY => ?_ | refine AOps.guard rfl rfl rfl fun X Y hX hY => ?_ | refine aret_r ?_ | refine aret_n ?_); simp (disch := (first | omega | (simp only [nx]; first | done | omega))) only [acond_bool, aresK, retv, xxq, tfF24, allocK, xxa, xxb, xxc, bne, ↓reduceIte, reduceCtorEq, Nat.reduceEqDiff, Nat.reduceAdd, Nat.reduceMul, Nat.reduceSub, Nat.reduceLT, Int.reduceAdd, Int.reduceSub, Int.reduceMul, Int.reduceLT, Int.reduceToNat, ne_eq, *]; (repeat first | ((with_reducible refine And.intro (fun hc => ?_) (fun hc => absurd hc (by omega))); clear hc) | ((with_reducible refine And.intro (fun hc => absurd hc (by omega)) (fun hc => ?_)); clear hc) | ((with_reducible refine And.intro ?_ ?_); focus ((first | omega | assumption | exact cok _ rfl | exact one_ints _ | exact one_map fun _ => rfl | ((repeat refine one_cons (by first | rfl | assumption) ?_); exact one_nil) | rfl | decide | (intro u hu; cases hu)); done)) | (with_reducible refine (fun hc => ?_ : _ → _); clear hc)); (first | (refine hK.out _ _ ?_; clear hK K) | (refine And.intro (hK.out _ _ ?_) (hK.out _ _ ?_) <;> clear hK K) | (refine hX.out ?_; try clear hX hY X Y) | (refine hY.out ?_; try clear hX hY X Y) | (refine And.intro (fun hc => ?_) (fun hc => ?_) <;> first | (exfalso; omega) | (refine hX.out ?_; try clear hX hY X Y) | (refine hY.out ?_; try clear hX hY X Y)) | skip))
    have hs6 := e6.size
    have hs7 := e7.size
    have hbx7 : Ext B0 H7 := (hbx5.trans e6).trans e7
    have g7 := (hbx7.get H.size (by omega)).trans hB0
    have m7 := ((e6.trans e7).get H4.size (by omega)).trans m5
    have hG7 : OwnR H4b.size H5.size H7 u L := hG.ext (e6.trans e7)
    have eW7 : Ext H3 H7 := eW5.trans (e6.trans e7)
    refine (markTriangulation_c ((hO5.ext e6).ext e7) hS2).mono ?_
    rintro u' H8 ⟨⟨s8, rfl, hs8⟩, e8⟩
    have hz8 := e8.size
    have hbx8 : Ext B0 H8 := e8.toExt hbx7 (by omega)
    have g8 := (hbx8.get H.size (by omega)).trans hB0
    have m8 := (e8.get H4.size (by omega) (.inr (by omega))).trans m7
    have eW8 : Ext H3 H8 := e8.toExt eW7 (Nat.le_refl _)
    have hW8 : RowI H8 w L := hW.ext eW8
    have hG8 : OwnR H4b.size H5.size H8 u L := hG7.keep e8 (.inr (by omega))
    have hn8 : (s8 < 0) = False := eq_false (by omega)
    clear g5 m5 g7 m7 hO5 hO3 hG hG7 hW5 e6g e6s e7g e7s hv3
    refine hK.out _ _ ?_
    clear hK K
    repeat' first
     | (with_reducible first | refine AOps.nil ?_ | refine athen_n ?_ | refine athen_r ?_ | refine athen_e ?_ | refine ablock_n ?_ | refine ablock_r ?_ | refine ablock_s ?_ | refine AWp.seq' ?_ | refine AWp.block ?_ | refine AWp.skip ?_ | refine AWp.exit ?_ | refine AWp.ret ?_ | refine AWp.region ?_) | (with_reducible refine ablock_e ?_ ?_; focus rfl)
     | (refine AOps.guardu rfl rfl rfl ?_ ?_; focus (simp (disch := (first | omega | (simp only [nx]; first | done | omega))) only [Value.bool.injEq, Bool.and_true, Bool.true_and, Bool.and_false, Bool.false_and, beq_self_eq_true, bne, Bool.not_true, Bool.not_false, sx, nx, dx, ↓reduceIte, reduceCtorEq, Nat.reduceEqDiff, ne_eq, not_false_eq_true, *]; done))
     | ((first | refine AOps.cons1 rfl rfl rfl fun K hK => ?_ | refine AWp.cond rfl fun X Y hX hY => ?_ | refine AOps.guard rfl rfl rfl fun X Y hX hY => ?_ | refine aret_r ?_ | refine aret_n ?_); simp (disch := (first | omega | (simp only [nx]; first | done | omega))) only [acond_bool, aresK, retv, xxq, tfF24, allocK, xxa, xxb, xxc, bne, ↓reduceIte, reduceCtorEq, Nat.reduceEqDiff, Nat.reduceAdd, Nat.reduceMul, Nat.reduceSub, Nat.reduceLT, Int.reduceAdd, Int.reduceSub, Int.reduceMul, Int.reduceLT, Int.reduceToNat, ne_eq, *]; (repeat first | ((with_reducible refine And.intro (fun hc => ?_) (fun hc => absurd hc (by omega))); clear hc) | ((with_reducible refine And.intro (fun hc => absurd hc (by omega)) (fun hc => ?_)); clear hc) | ((with_reducible refine And.intro ?_ ?_); focus ((first | omega | assumption | exact cok _ rfl | exact one_ints _ | exact one_map fun _ => rfl | ((repeat refine one_cons (by first | rfl | assumption) ?_); exact one_nil) | rfl | decide | (intro u hu; cases hu)); done)) | (with_reducible refine (fun hc => ?_ : _ → _); clear hc)); (first | (refine hK.out _ _ ?_; clear hK K) | (refine And.intro (hK.out _ _ ?_) (hK.out _ _ ?_) <;> clear hK K) | (refine (eqInt64S_c hG8.row hW8 (by omega)).mono ?_; rintro u' H8 ⟨rfl, rfl⟩; refine hK.out _ _ ?_; try clear hK K) | (refine hX.out ?_; try clear hX hY X Y) | (refine hY.out ?_; try clear hX hY X Y) | (refine And.intro (fun hc => ?_) (fun hc => ?_) <;> first | (exfalso; omega) | (refine hX.out ?_; try clear hX hY X Y) | (refine hY.out ?_; try clear hX hY X Y)) | skip))
    refine (markInt64S_c hG8 (by omega)).mono ?_
    rintro u' H9 ⟨rfl, hG9, e9⟩
    have hz9 := e9.size
    have hbx9 : Ext B0 H9 := e9.toExt hbx8 (by omega)
    have g9 := (hbx9.get H.size (by omega)).trans hB0
    have eW9 : Ext H3 H9 := e9.toExt eW8 (by omega)
    have hW9 : RowI H9 w L := hW.ext eW9
    clear hG8 hW8 g8 m8
    refine hK.out _ _ ?_
    clear hK K
    repeat' first
     | (with_reducible first | refine AOps.nil ?_ | refine athen_n ?_ | refine athen_r ?_ | refine athen_e ?_ | refine ablock_n ?_ | refine ablock_r ?_ | refine ablock_s ?_ | refine AWp.seq' ?_ | refine AWp.block ?_ | refine AWp.skip ?_ | refine AWp.exit ?_ | refine AWp.ret ?_ | refine AWp.region ?_) | (with_reducible refine ablock_e ?_ ?_; focus rfl)
     | (refine AOps.guardu rfl rfl rfl ?_ ?_; focus (simp (disch := (first | omega | (simp only [nx]; first | done | omega))) only [Value.bool.injEq, Bool.and_true, Bool.true_and, Bool.and_false, Bool.false_and, beq_self_eq_true, bne, Bool.not_true, Bool.not_false, sx, nx, dx, ↓reduceIte, reduceCtorEq, Nat.reduceEqDiff, ne_eq, not_false_eq_true, *]; done))
     | ((first | refine AOps.cons1 rfl rfl rfl fun K hK => ?_ | refine AWp.cond rfl fun X Y hX hY => ?_ | refine AOps.guard rfl rfl rfl fun X Y hX hY => ?_ | refine aret_r ?_ | refine aret_n ?_); simp (disch := (first | omega | (simp only [nx]; first | done | omega))) only [acond_bool, aresK, retv, xxq, tfF24, allocK, xxa, xxb, xxc, bne, ↓reduceIte, reduceCtorEq, Nat.reduceEqDiff, Nat.reduceAdd, Nat.reduceMul, Nat.reduceSub, Nat.reduceLT, Int.reduceAdd, Int.reduceSub, Int.reduceMul, Int.reduceLT, Int.reduceToNat, ne_eq, *]; (repeat first | ((with_reducible refine And.intro (fun hc => ?_) (fun hc => absurd hc (by omega))); clear hc) | ((with_reducible refine And.intro (fun hc => absurd hc (by omega)) (fun hc => ?_)); clear hc) | ((with_reducible refine And.intro ?_ ?_); focus ((first | omega | assumption | exact cok _ rfl | exact one_ints _ | exact one_map fun _ => rfl | ((repeat refine one_cons (by first | rfl | assumption) ?_); exact one_nil) | rfl | decide | (intro u hu; cases hu)); done)) | (with_reducible refine (fun hc => ?_ : _ → _); clear hc)); (first | (refine hK.out _ _ ?_; clear hK K) | (refine And.intro (hK.out _ _ ?_) (hK.out _ _ ?_) <;> clear hK K) | (refine (heldRow_c hG9.row (by omega) (by omega) (by omega)).mono ?_; rintro u' H9 ⟨rfl, rfl⟩; refine hK.out _ _ ?_; try clear hK K) | (refine hX.out ?_; try clear hX hY X Y) | (refine hY.out ?_; try clear hX hY X Y) | (refine And.intro (fun hc => ?_) (fun hc => ?_) <;> first | (exfalso; omega) | (refine hX.out ?_; try clear hX hY X Y) | (refine hY.out ?_; try clear hX hY X Y)) | skip))
    refine (toTriangulation_c (hT1 (hBx.trans hbx9)) hS2).mono ?_
    rintro u' H10 ⟨v4, hi4, rfl, hO4, e10⟩
    have hv4 := hO4.row.one
    refine hK.out _ _ ?_
    clear hK K
    repeat' first
     | (with_reducible first | refine AOps.nil ?_ | refine athen_n ?_ | refine athen_r ?_ | refine athen_e ?_ | refine ablock_n ?_ | refine ablock_r ?_ | refine ablock_s ?_ | refine AWp.seq' ?_ | refine AWp.block ?_ | refine AWp.skip ?_ | refine AWp.exit ?_ | refine AWp.ret ?_ | refine AWp.region ?_) | (with_reducible refine ablock_e ?_ ?_; focus rfl)
     | (refine AOps.guardu rfl rfl rfl ?_ ?_; focus (simp (disch := (first | omega | (simp only [nx]; first | done | omega))) only [Value.bool.injEq, Bool.and_true, Bool.true_and, Bool.and_false, Bool.false_and, beq_self_eq_true, bne, Bool.not_true, Bool.not_false, sx, nx, dx, ↓reduceIte, reduceCtorEq, Nat.reduceEqDiff, ne_eq, not_false_eq_true, *]; done))
     | ((first | refine AOps.cons1 rfl rfl rfl fun K hK => ?_ | refine AWp.cond rfl fun X Y hX hY => ?_ | refine AOps.guard rfl rfl rfl fun X Y hX hY => ?_ | refine aret_r ?_ | refine aret_n ?_); simp (disch := (first | omega | (simp only [nx]; first | done | omega))) only [acond_bool, aresK, retv, xxq, tfF24, allocK, xxa, xxb, xxc, bne, ↓reduceIte, reduceCtorEq, Nat.reduceEqDiff, Nat.reduceAdd, Nat.reduceMul, Nat.reduceSub, Nat.reduceLT, Int.reduceAdd, Int.reduceSub, Int.reduceMul, Int.reduceLT, Int.reduceToNat, ne_eq, *]; (repeat first | ((with_reducible refine And.intro (fun hc => ?_) (fun hc => absurd hc (by omega))); clear hc) | ((with_reducible refine And.intro (fun hc => absurd hc (by omega)) (fun hc => ?_)); clear hc) | ((with_reducible refine And.intro ?_ ?_); focus ((first | omega | assumption | exact cok _ rfl | exact one_ints _ | exact one_map fun _ => rfl | ((repeat refine one_cons (by first | rfl | assumption) ?_); exact one_nil) | rfl | decide | (intro u hu; cases hu)); done)) | (with_reducible refine (fun hc => ?_ : _ → _); clear hc)); (first | (refine hK.out _ _ ?_; clear hK K) | (refine And.intro (hK.out _ _ ?_) (hK.out _ _ ?_) <;> clear hK K) | (refine hX.out ?_; try clear hX hY X Y) | (refine hY.out ?_; try clear hX hY X Y) | (refine And.intro (fun hc => ?_) (fun hc => ?_) <;> first | (exfalso; omega) | (refine hX.out ?_; try clear hX hY X Y) | (refine hY.out ?_; try clear hX hY X Y)) | skip))
    refine (hIm hO4.row).mono ?_
    rintro _ H11 ⟨u2, rfl, hV, e11⟩
    have hW11 : RowI H11 w L := (hW9.ext e10).ext e11
    have hG11 : OwnR H4b.size H5.size H11 u (marks 1 L.length) := (hG9.ext e10).ext e11
    have hU := hV.row
    clear hV
    refine hK.out _ _ ?_
    clear hK K
    repeat' first
     | (with_reducible first | refine AOps.nil ?_ | refine athen_n ?_ | refine athen_r ?_ | refine athen_e ?_ | refine ablock_n ?_ | refine ablock_r ?_ | refine ablock_s ?_ | refine AWp.seq' ?_ | refine AWp.block ?_ | refine AWp.skip ?_ | refine AWp.exit ?_ | refine AWp.ret ?_ | refine AWp.region ?_) | (with_reducible refine ablock_e ?_ ?_; focus rfl)
     | (refine AOps.guardu rfl rfl rfl ?_ ?_; focus (simp (disch := (first | omega | (simp only [nx]; first | done | omega))) only [Value.bool.injEq, Bool.and_true, Bool.true_and, Bool.and_false, Bool.false_and, beq_self_eq_true, bne, Bool.not_true, Bool.not_false, sx, nx, dx, ↓reduceIte, reduceCtorEq, Nat.reduceEqDiff, ne_eq, not_false_eq_true, *]; done))
     | ((first | refine AOps.cons1 rfl rfl rfl fun K hK => ?_ | refine AWp.cond rfl fun X Y hX hY => ?_ | refine AOps.guard rfl rfl rfl fun X Y hX hY => ?_ | refine aret_r ?_ | refine aret_n ?_); simp (disch := (first | omega | (simp only [nx]; first | done | omega))) only [acond_bool, aresK, retv, xxq, tfF24, allocK, xxa, xxb, xxc, bne, ↓reduceIte, reduceCtorEq, Nat.reduceEqDiff, Nat.reduceAdd, Nat.reduceMul, Nat.reduceSub, Nat.reduceLT, Int.reduceAdd, Int.reduceSub, Int.reduceMul, Int.reduceLT, Int.reduceToNat, ne_eq, *]; (repeat first | ((with_reducible refine And.intro (fun hc => ?_) (fun hc => absurd hc (by omega))); clear hc) | ((with_reducible refine And.intro (fun hc => absurd hc (by omega)) (fun hc => ?_)); clear hc) | ((with_reducible refine And.intro ?_ ?_); focus ((first | omega | assumption | exact cok _ rfl | exact one_ints _ | exact one_map fun _ => rfl | ((repeat refine one_cons (by first | rfl | assumption) ?_); exact one_nil) | rfl | decide | (intro u hu; cases hu)); done)) | (with_reducible refine (fun hc => ?_ : _ → _); clear hc)); (first | (refine hK.out _ _ ?_; clear hK K) | (refine And.intro (hK.out _ _ ?_) (hK.out _ _ ?_) <;> clear hK K) | (refine (eqInt64S_c hU hW11 (by omega)).mono ?_; rintro u' H11 ⟨rfl, rfl⟩; refine hK.out _ _ ?_; try clear hK K) | (refine (heldRow_c hG11.row (by omega) (by omega) (by omega)).mono ?_; rintro u' H11 ⟨rfl, rfl⟩; refine hK.out _ _ ?_; try clear hK K) | (refine hX.out ?_; try clear hX hY X Y) | (refine hY.out ?_; try clear hX hY X Y) | (refine And.intro (fun hc => ?_) (fun hc => ?_) <;> first | (exfalso; omega) | (refine hX.out ?_; try clear hX hY X Y) | (refine hY.out ?_; try clear hX hY X Y)) | skip))
    exact hQ.out _ _ rfl
end Go.Proofs.Ytibkopejnhihkaa.Rai
