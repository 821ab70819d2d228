/- A part of the walk: what functions of the program do, over an abstract heap. -/
import Derived.Test.YtibkopejnhihkaaF2
namespace Go.Proofs.Ytibkopejnhihkaa.Rai
open Go TP
set_option linter.unusedVariables false
set_option linter.unusedSimpArgs false
set_option maxRecDepth 20000
theorem tfF3 : (Try.prog.underlying 36 = some (.slice 2)) ∧ (el Try.prog 36 = some (none, 1)) ∧ (Try.prog.underlying 120 = some (.array 4 2)) ∧ (el Try.prog 120 = some (some 4, 1)) ∧ (tk Try.prog 2 = some none) ∧ (tk Try.prog 120 = some (some 4)) ∧ (cz Try.prog 2 = some 1) ∧ (bz Try.prog 2 = some 8) ∧ (zr Try.prog 2 = some (.int .i64 0)) ∧ (zr Try.prog 120 = some (.agg #[.int .i64 0, .int .i64 0, .int .i64 0, .int .i64 0])) := by
  refine ⟨?_, ?_, ?_, ?_, ?_, ?_, ?_, ?_, ?_, ?_⟩ <;> kernel_rfl
set_option maxHeartbeats 1000000 in
theorem perm_c {H : Heap} (p : Int) (h0 : 0 ≤ p) (h1 : p < 24) : ACalls Try.prog 158 [I p] H fun v H' => v = .agg (ints (pmL p)).toArray ∧ Ext H H' := by
  refine ACalls.body Try.func158 rfl Try.ntmps158 (rs := [.cell 2 120]) rfl (by simp) rfl fun Q hQ A hA => ?_
  have a0 := hA 0 _ _ rfl
  clear hA
  repeat' first
   | (with_reducible first | refine AOps.nil ?_ | refine athen_n ?_ | refine athen_r ?_ | refine athen_e ?_ | refine ablock_n ?_ | refine ablock_r ?_ | refine ablock_s ?_ | refine AWp.seq' ?_ | refine AWp.block ?_ | refine AWp.skip ?_ | refine AWp.exit ?_ | refine AWp.ret ?_ | refine AWp.region ?_) | (with_reducible refine ablock_e ?_ ?_; focus rfl)
   | ((first | refine AOps.cons1 rfl rfl rfl fun K hK => ?_ | refine AWp.cond rfl fun X Y hX hY => ?_ | refine aret_r ?_ | refine aret_n ?_); simp (disch := (first | omega | (simp only [nx]; first | done | omega))) only [acond_bool, aresK, retv, xxq, tfF3, buildSliceK, mapOf, allocK, xxa, xxb, xxc, bne, ↓reduceIte, reduceCtorEq, Nat.reduceEqDiff, Nat.reduceAdd, Nat.reduceMul, Nat.reduceSub, Nat.reduceLT, Int.reduceAdd, Int.reduceSub, Int.reduceMul, Int.reduceLT, Int.reduceToNat, ne_eq, *]; (repeat first | ((with_reducible refine And.intro (fun hc => ?_) (fun hc => absurd hc (by omega))); clear hc) | ((with_reducible refine And.intro (fun hc => absurd hc (by omega)) (fun hc => ?_)); clear hc) | ((with_reducible refine And.intro ?_ ?_); focus ((first | omega | assumption | exact cok _ rfl | exact one_ints _ | exact one_map fun _ => rfl | ((repeat refine one_cons (by first | rfl | assumption) ?_); exact one_nil) | rfl | decide | (intro u hu; cases hu)); done)) | (with_reducible refine (fun hc => ?_ : _ → _); clear hc)); (first | (refine hK.out _ _ ?_; clear hK K) | (refine And.intro (hK.out _ _ ?_) (hK.out _ _ ?_) <;> clear hK K) | (refine hX.out ?_; try clear hX hY X Y) | (refine hY.out ?_; try clear hX hY X Y) | (refine And.intro (fun hc => ?_) (fun hc => ?_) <;> first | (exfalso; omega) | (refine hX.out ?_; try clear hX hY X Y) | (refine hY.out ?_; try clear hX hY X Y)) | skip))
  refine AWp.loop (fun A H' => ∃ k : Nat, k ≤ 4 ∧ A 0 = I (stp p k).1 ∧ A 2 = .pointer (some ⟨H.size, 0, none⟩) ∧ A 3 = .pointer (some ⟨H.size + 1, 0, none⟩) ∧ A 4 = .slice (some ⟨H.size + 1 + 1, 0, none⟩) (4 - k) 5 ∧
    A 9 = .slice (some ⟨H.size + 1 + 1 + 1, 0, none⟩) 4 5 ∧ A 10 = I 4 ∧ A 11 = I k ∧ H'.size = H.size + 1 + 1 + 1 + 1 ∧ Ext H H' ∧ H'.get H.size = .cells (ints [0, 0, 0, 0]) 1 false ∧ H'.get (H.size + 1) = .cells (ints (stp p k).2.2) 1 false ∧
    H'.get (H.size + 1 + 1) = .cells (ints (stp p k).2.1) 1 false ∧ H'.get (H.size + 1 + 1 + 1) = .cells (ints [6, 2, 1, 1]) 1 false) (fun A _ => 4 - (intV (A 11)).toNat) ?_ ?_
  · refine ⟨0, by omega, ?_, ?_, ?_, ?_, ?_, ?_, ?_, ?_, ?_, ?_, ?_, ?_, ?_⟩
    all_goals first | omega | ((repeat first | exact Ext.refl _ | assumption | refine Ext.push ?_ _ | refine Ext.set ?_ _ (by first | omega | (simp only [nx, *]; omega)) | (apply Ext.up; focus (assumption; done))); done) | (simp (disch := (first | omega | (simp only [nx]; first | done | omega))) only [xxq, xxa, xxb, xxc, bne, ↓reduceIte, reduceCtorEq, Nat.reduceEqDiff, Nat.reduceAdd, Nat.reduceMul, Nat.reduceSub, Nat.reduceLT, Int.reduceAdd, Int.reduceSub, Int.reduceMul, Int.reduceLT, Int.reduceToNat, ne_eq, *, stp, intV_int]; first | done | omega | rfl | exact congrArg (Value.int .i64) (by omega) | ((repeat first | exact Ext.refl _ | assumption | refine Ext.push ?_ _ | refine Ext.set ?_ _ (by first | omega | (simp only [nx, *]; omega)) | (apply Ext.up; focus (assumption; done))); done) | skip) | rfl | skip
  · rintro A H' ⟨k, hk, b0, b2, b3, b4, b9, b10, b11, hs, hx, g0, g1, g2, g3⟩
    by_cases hlt : k < 4
    · have hl := stp_len p k hk h0 h1
      have hX := stp_x p h0 h1
      have hstep : stp p (k + 1) = ((stp p k).1 % bl k, ((stp p k).2.1.take (4 - k)).eraseIdx ((stp p k).1 / bl k).toNat ++ [0] ++ (stp p k).2.1.drop (4 - k), (stp p k).2.2.set k ((stp p k).2.1.getD ((stp p k).1 / bl k).toNat 0)) := rfl
      have hb : (ints [6, 2, 1, 1])[k]? = some (I (bl k)) := by
        have : k = 0 ∨ k = 1 ∨ k = 2 ∨ k = 3 := by omega
        rcases this with rfl | rfl | rfl | rfl <;> rfl
      have hbl : 0 < bl k ∧ bl k ≤ 6 := by
        have : k = 0 ∨ k = 1 ∨ k = 2 ∨ k = 3 := by omega
        rcases this with rfl | rfl | rfl | rfl <;> simp [bl]
      have hq : 0 ≤ (stp p k).1 ∧ (stp p k).1 < 24 ∧ (stp p k).1 / bl k < 4 - k ∧ 0 ≤ (stp p k).1 / bl k ∧ 0 ≤ (stp p k).1 % bl k ∧ (stp p k).1 % bl k < 6 := by
        have : k = 0 ∨ k = 1 ∨ k = 2 ∨ k = 3 := by omega
        rcases this with rfl | rfl | rfl | rfl
        · simp [bl, stp]; omega
        · simp only [bl, List.getD_cons_succ, List.getD_cons_zero]; omega
        · simp only [bl, List.getD_cons_succ, List.getD_cons_zero]; omega
        · have : (stp p 3).1 = 0 ∨ (stp p 3).1 > 0 := by have := (stp_x p h0 h1).2.2; omega
          simp only [bl, List.getD_cons_succ, List.getD_cons_zero]; omega
      generalize stp p k = s at *
      obtain ⟨X, L, O⟩ := s
      generalize bl k = bk at *
      dsimp only at *
      obtain ⟨q, hqq⟩ : ∃ q : Nat, X / bk = (q : Int) := ⟨(X / bk).toNat, by omega⟩
      have hqn : (X / bk).toNat = q := by omega
      have hgl : (ints L)[q]? = some (I (L.getD q 0)) := ints_get (by omega)
      rw [hqn] at hstep
      obtain ⟨x1, x2, x3, x4, x5, x6⟩ := hq
      obtain ⟨y1, y2⟩ := hbl
      obtain ⟨z1, z2⟩ := hl
      clear hX
      repeat' first
       | (with_reducible first | refine AOps.nil ?_ | refine athen_n ?_ | refine athen_r ?_ | refine athen_e ?_ | refine ablock_n ?_ | refine ablock_r ?_ | refine ablock_s ?_ | refine AWp.seq' ?_ | refine AWp.block ?_ | refine AWp.skip ?_ | refine AWp.exit ?_ | refine AWp.ret ?_ | refine AWp.region ?_) | (with_reducible refine ablock_e ?_ ?_; focus rfl)
       | ((first | refine AOps.cons1 rfl rfl rfl fun K hK => ?_ | refine AWp.cond rfl fun X Y hX hY => ?_ | refine aret_r ?_ | refine aret_n ?_); simp (disch := (first | omega | (simp only [nx]; first | done | omega))) only [acond_bool, aresK, retv, xxq, tfF3, buildSliceK, mapOf, allocK, xxa, xxb, xxc, bne, ↓reduceIte, reduceCtorEq, Nat.reduceEqDiff, Nat.reduceAdd, Nat.reduceMul, Nat.reduceSub, Nat.reduceLT, Int.reduceAdd, Int.reduceSub, Int.reduceMul, Int.reduceLT, Int.reduceToNat, ne_eq, *]; (repeat first | ((with_reducible refine And.intro (fun hc => ?_) (fun hc => absurd hc (by omega))); clear hc) | ((with_reducible refine And.intro (fun hc => absurd hc (by omega)) (fun hc => ?_)); clear hc) | ((with_reducible refine And.intro ?_ ?_); focus ((first | omega | assumption | exact cok _ rfl | exact one_ints _ | exact one_map fun _ => rfl | ((repeat refine one_cons (by first | rfl | assumption) ?_); exact one_nil) | rfl | decide | (intro u hu; cases hu)); done)) | (with_reducible refine (fun hc => ?_ : _ → _); clear hc)); (first | (refine hK.out _ _ ?_; clear hK K) | (refine And.intro (hK.out _ _ ?_) (hK.out _ _ ?_) <;> clear hK K) | (refine (Delete_c (cs := L) (c := 4) (by first | omega | assumption | (simp (disch := (first | omega | (simp only [nx]; first | done | omega))) only [xxq, tfF3, sliceK, bnd, appendK, appsK, copyK, clearK, makeSliceK, buildSliceK, buildK, lookupK, mapPutK, mapOf, convK, allocK, indexK, partK, xxa, xxb, xxc, bne, ↓reduceIte, reduceCtorEq, Nat.reduceEqDiff, Nat.reduceAdd, Nat.reduceMul, Nat.reduceSub, Nat.reduceLT, Int.reduceAdd, Int.reduceSub, Int.reduceMul, Int.reduceLT, Int.reduceToNat, ne_eq, *]; first | done | omega | rfl)) (by omega) (by omega) (by omega) (by omega)).mono ?_; rintro v H1 ⟨rfl, rfl⟩; refine hK.out _ _ ?_; try clear hK K) | (refine hX.out ?_; try clear hX hY X Y) | (refine hY.out ?_; try clear hX hY X Y) | (refine And.intro (fun hc => ?_) (fun hc => ?_) <;> first | (exfalso; omega) | (refine hX.out ?_; try clear hX hY X Y) | (refine hY.out ?_; try clear hX hY X Y)) | skip))
      refine ⟨⟨k + 1, by omega, ?_, ?_, ?_, ?_, ?_, ?_, ?_, ?_, ?_, ?_, ?_, ?_, ?_⟩, ?_⟩
      all_goals first | omega | ((repeat first | exact Ext.refl _ | assumption | refine Ext.push ?_ _ | refine Ext.set ?_ _ (by first | omega | (simp only [nx, *]; omega)) | (apply Ext.up; focus (assumption; done))); done) | (simp (disch := (first | omega | (simp only [nx]; first | done | omega))) only [xxq, xxa, xxb, xxc, bne, ↓reduceIte, reduceCtorEq, Nat.reduceEqDiff, Nat.reduceAdd, Nat.reduceMul, Nat.reduceSub, Nat.reduceLT, Int.reduceAdd, Int.reduceSub, Int.reduceMul, Int.reduceLT, Int.reduceToNat, ne_eq, *, hstep, hqn, delL, intV_int]; first | done | omega | rfl | exact congrArg (Value.int .i64) (by omega) | ((repeat first | exact Ext.refl _ | assumption | refine Ext.push ?_ _ | refine Ext.set ?_ _ (by first | omega | (simp only [nx, *]; omega)) | (apply Ext.up; focus (assumption; done))); done) | skip) | rfl | skip
    · obtain rfl : k = 4 := by omega
      obtain ⟨z1, z2⟩ := stp_len p 4 (by omega) h0 h1
      repeat' first
       | (with_reducible first | refine AOps.nil ?_ | refine athen_n ?_ | refine athen_r ?_ | refine athen_e ?_ | refine ablock_n ?_ | refine ablock_r ?_ | refine ablock_s ?_ | refine AWp.seq' ?_ | refine AWp.block ?_ | refine AWp.skip ?_ | refine AWp.exit ?_ | refine AWp.ret ?_ | refine AWp.region ?_) | (with_reducible refine ablock_e ?_ ?_; focus rfl)
       | ((first | refine AOps.cons1 rfl rfl rfl fun K hK => ?_ | refine AWp.cond rfl fun X Y hX hY => ?_ | refine aret_r ?_ | refine aret_n ?_); simp (disch := (first | omega | (simp only [nx]; first | done | omega))) only [acond_bool, aresK, retv, xxq, tfF3, buildSliceK, mapOf, allocK, xxa, xxb, xxc, bne, ↓reduceIte, reduceCtorEq, Nat.reduceEqDiff, Nat.reduceAdd, Nat.reduceMul, Nat.reduceSub, Nat.reduceLT, Int.reduceAdd, Int.reduceSub, Int.reduceMul, Int.reduceLT, Int.reduceToNat, ne_eq, *]; (repeat first | ((with_reducible refine And.intro (fun hc => ?_) (fun hc => absurd hc (by omega))); clear hc) | ((with_reducible refine And.intro (fun hc => absurd hc (by omega)) (fun hc => ?_)); clear hc) | ((with_reducible refine And.intro ?_ ?_); focus ((first | omega | assumption | exact cok _ rfl | exact one_ints _ | exact one_map fun _ => rfl | ((repeat refine one_cons (by first | rfl | assumption) ?_); exact one_nil) | rfl | decide | (intro u hu; cases hu)); done)) | (with_reducible refine (fun hc => ?_ : _ → _); clear hc)); (first | (refine hK.out _ _ ?_; clear hK K) | (refine And.intro (hK.out _ _ ?_) (hK.out _ _ ?_) <;> clear hK K) | (refine hX.out ?_; try clear hX hY X Y) | (refine hY.out ?_; try clear hX hY X Y) | (refine And.intro (fun hc => ?_) (fun hc => ?_) <;> first | (exfalso; omega) | (refine hX.out ?_; try clear hX hY X Y) | (refine hY.out ?_; try clear hX hY X Y)) | skip))

      refine hQ.out _ _ ⟨?_, hx.set _ (by omega)⟩
      rfl
end Go.Proofs.Ytibkopejnhihkaa.Rai
