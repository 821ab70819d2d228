/- A part of the walk: what functions of the program do, over an abstract heap. -/
import Derived.Test.YtibkopejnhihkaaW2
namespace Go.Proofs.Ytibkopejnhihkaa.Zed
open Go TP
set_option linter.unusedVariables false
set_option linter.unusedSimpArgs false
set_option maxRecDepth 20000
theorem tfW3 : (Try.prog.underlying 27 = some (.slice 89)) ∧ (el Try.prog 27 = some (none, 1)) ∧ (Try.prog.underlying 36 = some (.slice 2)) ∧ (el Try.prog 36 = some (none, 1)) ∧ (Try.prog.underlying 120 = some (.array 4 2)) ∧ (el Try.prog 120 = some (some 4, 1)) ∧ (tk Try.prog 2 = some none) ∧ (tk Try.prog 89 = some none) ∧ (tk Try.prog 110 = some (some 2)) ∧ (tk Try.prog 120 = some (some 4)) ∧ (cz Try.prog 2 = some 1) ∧ (bz Try.prog 2 = some 8) ∧ (cz Try.prog 89 = some 1) ∧ (bz Try.prog 89 = some 24) ∧ (zr Try.prog 2 = some (.int .i64 0)) ∧ (zr Try.prog 89 = some (.slice none 0 0)) ∧ (zr Try.prog 110 = some (.agg #[.int .i64 0, .int .i64 0])) ∧ (zr Try.prog 120 = some (.agg #[.int .i64 0, .int .i64 0, .int .i64 0, .int .i64 0])) ∧ (fo Try.prog 110 1 = some (1, none)) ∧ (el Try.prog 110 = none) ∧ (placesOf Try.prog 110 = some #[(0, 1), (1, 1)]) := by
  refine ⟨?_, ?_, ?_, ?_, ?_, ?_, ?_, ?_, ?_, ?_, ?_, ?_, ?_, ?_, ?_, ?_, ?_, ?_, ?_, ?_, ?_⟩ <;> kernel_rfl
theorem rnW3 {a b : Prop} (hb : b) (h : Later b → a := by
  intro hb
  first
  | ((with_reducible first | refine AOps.nil ?_ | refine athen_n ?_ | refine athen_r ?_ | refine athen_e ?_ | refine ablock_n ?_ | refine ablock_r ?_ | refine ablock_s ?_ | refine AWp.seq' ?_ | refine AWp.block ?_ | refine AWp.skip ?_ | refine AWp.exit ?_ | refine AWp.ret ?_ | refine AWp.region ?_ | (refine ablock_e ?_ ?_; focus rfl)); repeat (with_reducible first | refine AOps.nil ?_ | refine athen_n ?_ | refine athen_r ?_ | refine athen_e ?_ | refine ablock_n ?_ | refine ablock_r ?_ | refine ablock_s ?_ | refine AWp.seq' ?_ | refine AWp.block ?_ | refine AWp.skip ?_ | refine AWp.exit ?_ | refine AWp.ret ?_ | refine AWp.region ?_ | (refine ablock_e ?_ ?_; focus rfl)))
  | (refine AOps.guardu rfl rfl rfl ?_ ?_; focus (simp (disch := (first | omega | (simp only [nx]; first | done | omega))) only [Value.bool.injEq, Bool.and_true, Bool.true_and, Bool.and_false, Bool.false_and, beq_self_eq_true, bne, Bool.not_true, Bool.not_false, sx, nx, dx, ↓reduceIte, reduceCtorEq, Nat.reduceEqDiff, ne_eq, not_false_eq_true, *]; done))
  | ((first | ((with_reducible refine AOps.lit ?_ ?_ ?_ fun K hK => ?_); exact rfl; exact rfl; exact rfl) | ((with_reducible refine AOps.boxz ?_ ?_ fun K hK => ?_); exact rfl; exact rfl) | ((with_reducible refine AOps.cons2 ?_ ?_ fun K hK => ?_); exact rfl; exact rfl) | ((with_reducible refine AWp.cond ?_ fun X Y hX hY => ?_); exact rfl) | refine AOps.guard rfl rfl rfl fun X Y hX hY => ?_ | refine aret_r ?_ | refine aret_n ?_); simp (disch := (first | omega | (simp only [nx]; first | done | omega))) only [acond_bool, aresK, retv, xxq, zxq, tfW3, litK, copyK, clearK, makeSliceK, buildSliceK, buildK, lookupK, mapPutK, mapOf, convK, allocK, indexK, partK, xxa, xxb, xxc, bne, Int.reduceEq, Int.reduceBEq, Int.reduceNe, Int.reduceBNe, Int.reduceLE, Int.reduceGT, Int.reduceGE, Int.reduceNeg, ↓reduceIte, reduceCtorEq, Nat.reduceEqDiff, Nat.reduceAdd, Nat.reduceMul, Nat.reduceSub, Nat.reduceLT, Int.reduceAdd, Int.reduceSub, Int.reduceMul, Int.reduceLT, Int.reduceToNat, ne_eq, *]; (repeat first | ((with_reducible refine And.intro (fun hc => ?_) (fun hc => absurd hc (by omega))); clear hc) | ((with_reducible refine And.intro (fun hc => absurd hc (by omega)) (fun hc => ?_)); clear hc) | ((with_reducible refine And.intro ?_ ?_); focus ((first | omega | assumption | exact cok _ rfl | exact one_ints _ | exact one_map fun _ => rfl | ((repeat refine one_cons (by first | rfl | assumption) ?_); exact one_nil) | rfl | decide | (intro u hu; cases hu)); done)) | (with_reducible refine (fun hc => ?_ : _ → _); clear hc)); (first | refine hK.out _ _ ?_ | refine ACalls.hk hK ?_ | (refine appendK.hk hK ?_; try (refine appendK.ofZ ?_; simp (disch := (first | omega | (simp only [nx]; first | done | omega))) only [xxq, zxq, tfW3, litK, copyK, clearK, makeSliceK, buildSliceK, buildK, lookupK, mapPutK, mapOf, convK, allocK, indexK, partK, xxa, xxb, xxc, bne, Int.reduceEq, Int.reduceBEq, Int.reduceNe, Int.reduceBNe, Int.reduceLE, Int.reduceGT, Int.reduceGE, Int.reduceNeg, ↓reduceIte, reduceCtorEq, Nat.reduceEqDiff, Nat.reduceAdd, Nat.reduceMul, Nat.reduceSub, Nat.reduceLT, Int.reduceAdd, Int.reduceSub, Int.reduceMul, Int.reduceLT, Int.reduceToNat, ne_eq, *]; (repeat first | ((with_reducible refine And.intro (fun hc => ?_) (fun hc => absurd hc (by omega))); clear hc) | ((with_reducible refine And.intro (fun hc => absurd hc (by omega)) (fun hc => ?_)); clear hc) | ((with_reducible refine And.intro ?_ ?_); focus ((first | omega | assumption | exact cok _ rfl | exact one_ints _ | exact one_map fun _ => rfl | ((repeat refine one_cons (by first | rfl | assumption) ?_); exact one_nil) | rfl | decide | (intro u hu; cases hu)); done)) | (with_reducible refine (fun hc => ?_ : _ → _); clear hc)))) | refine (fun (q : _ ∧ _) => And.intro (hK.out _ _ q.1) (hK.out _ _ q.2)) ?_ | refine hX.out ?_ | refine hY.out ?_ | refine (fun (q : (_ → _) ∧ (_ → _)) => And.intro (fun hc => hX.out (q.1 hc)) (fun hc => hY.out (q.2 hc))) ?_ | refine (fun (q : (_ → _) ∧ (_ → _)) => And.intro (fun hc => hY.out (q.1 hc)) (fun hc => hX.out (q.2 hc))) ?_ | skip))
  exact hb.out) : a := h ⟨hb⟩
theorem exW3 {p : Prop} (h : p := by ((show Ext _ _); (repeat' first | assumption | exact Ext.refl _ | refine Ext.push ?_ _ | refine Ext.set ?_ _ (by first | omega | (simp only [nx, *]; omega)) | (refine Ext.ofeq (by assumption) ?_; focus (simp (disch := (first | omega | (simp only [nx]; first | done | omega))) only [xxq, zxq, xxa, xxb, xxc, bne, Int.reduceEq, Int.reduceBEq, Int.reduceNe, Int.reduceBNe, Int.reduceLE, Int.reduceGT, Int.reduceGE, Int.reduceNeg, ↓reduceIte, reduceCtorEq, Nat.reduceEqDiff, Nat.reduceAdd, Nat.reduceMul, Nat.reduceSub, Nat.reduceLT, Int.reduceAdd, Int.reduceSub, Int.reduceMul, Int.reduceLT, Int.reduceToNat, ne_eq, *]; first | done | rfl | omega)) | (refine Ext.setc (by repeat first | assumption | apply Ext.setB | apply Ext.push) ?_; focus (simp (disch := (first | omega | (simp only [nx]; first | done | omega))) only [xxq, zxq, xxa, xxb, xxc, bne, Int.reduceEq, Int.reduceBEq, Int.reduceNe, Int.reduceBNe, Int.reduceLE, Int.reduceGT, Int.reduceGE, Int.reduceNeg, ↓reduceIte, reduceCtorEq, Nat.reduceEqDiff, Nat.reduceAdd, Nat.reduceMul, Nat.reduceSub, Nat.reduceLT, Int.reduceAdd, Int.reduceSub, Int.reduceMul, Int.reduceLT, Int.reduceToNat, ne_eq, *]; first | done | rfl | omega)) | (refine Ext.setc (Ext.refl _) ?_; focus (simp (disch := (first | omega | (simp only [nx]; first | done | omega))) only [xxq, zxq, xxa, xxb, xxc, bne, Int.reduceEq, Int.reduceBEq, Int.reduceNe, Int.reduceBNe, Int.reduceLE, Int.reduceGT, Int.reduceGE, Int.reduceNeg, ↓reduceIte, reduceCtorEq, Nat.reduceEqDiff, Nat.reduceAdd, Nat.reduceMul, Nat.reduceSub, Nat.reduceLT, Int.reduceAdd, Int.reduceSub, Int.reduceMul, Int.reduceLT, Int.reduceToNat, ne_eq, *]; first | done | rfl | omega)) | (apply Ext.up; focus (assumption; done)) | (simp (disch := (first | omega | (simp only [nx]; first | done | omega))) only [xxq, zxq, xxa, xxb, xxc, bne, Int.reduceEq, Int.reduceBEq, Int.reduceNe, Int.reduceBNe, Int.reduceLE, Int.reduceGT, Int.reduceGE, Int.reduceNeg, ↓reduceIte, reduceCtorEq, Nat.reduceEqDiff, Nat.reduceAdd, Nat.reduceMul, Nat.reduceSub, Nat.reduceLT, Int.reduceAdd, Int.reduceSub, Int.reduceMul, Int.reduceLT, Int.reduceToNat, ne_eq, *]; first | done | rfl | omega)); done)) : p := h
theorem ivW3 {p : Prop} (h : p := by first | omega | exact exW3 | (simp (disch := (first | omega | (simp only [nx]; first | done | omega))) only [xxq, zxq, xxa, xxb, xxc, bne, Int.reduceEq, Int.reduceBEq, Int.reduceNe, Int.reduceBNe, Int.reduceLE, Int.reduceGT, Int.reduceGE, Int.reduceNeg, ↓reduceIte, reduceCtorEq, Nat.reduceEqDiff, Nat.reduceAdd, Nat.reduceMul, Nat.reduceSub, Nat.reduceLT, Int.reduceAdd, Int.reduceSub, Int.reduceMul, Int.reduceLT, Int.reduceToNat, ne_eq, *, intV_int]; first | done | omega | rfl | exact congrArg (Value.int .i64) (by omega)) | rfl) : p := h
theorem smW3 {a b : Prop} (hb : b) (h : Later b → a := by intro hb; simp (disch := (first | omega | (simp only [nx]; first | done | omega))) only [xxq, zxq, xxa, xxb, xxc, bne, Int.reduceEq, Int.reduceBEq, Int.reduceNe, Int.reduceBNe, Int.reduceLE, Int.reduceGT, Int.reduceGE, Int.reduceNeg, ↓reduceIte, reduceCtorEq, Nat.reduceEqDiff, Nat.reduceAdd, Nat.reduceMul, Nat.reduceSub, Nat.reduceLT, Int.reduceAdd, Int.reduceSub, Int.reduceMul, Int.reduceLT, Int.reduceToNat, ne_eq, *, intV_int]; exact hb.out) : a := h ⟨hb⟩
theorem gtW3 {A F : Fr} {t : Nat} {v : Value} (h : Ag [] A F) (e : F t = v := by simp (disch := (first | omega | (simp only [nx]; first | done | omega))) only [xxq, zxq, xxa, xxb, xxc, bne, Int.reduceEq, Int.reduceBEq, Int.reduceNe, Int.reduceBNe, Int.reduceLE, Int.reduceGT, Int.reduceGE, Int.reduceNeg, ↓reduceIte, reduceCtorEq, Nat.reduceEqDiff, Nat.reduceAdd, Nat.reduceMul, Nat.reduceSub, Nat.reduceLT, Int.reduceAdd, Int.reduceSub, Int.reduceMul, Int.reduceLT, Int.reduceToNat, ne_eq, *, intV_int]; exact rfl) : A t = v := (h.h t rfl).trans e
theorem gdW3 {D : List Nat} {A F : Fr} {t : Nat} {v : Value} (h : Ag D A F) (ht : D.contains t = false := by rfl) (e : F t = v := by simp (disch := (first | omega | (simp only [nx]; first | done | omega))) only [xxq, zxq, xxa, xxb, xxc, bne, Int.reduceEq, Int.reduceBEq, Int.reduceNe, Int.reduceBNe, Int.reduceLE, Int.reduceGT, Int.reduceGE, Int.reduceNeg, ↓reduceIte, reduceCtorEq, Nat.reduceEqDiff, Nat.reduceAdd, Nat.reduceMul, Nat.reduceSub, Nat.reduceLT, Int.reduceAdd, Int.reduceSub, Int.reduceMul, Int.reduceLT, Int.reduceToNat, ne_eq, *, intV_int]; exact rfl) : A t = v := (h.h t ht).trans e
theorem agW3 {D : List Nat} {A F : Fr} (h : Ag D A F := by
  repeat (with_reducible first | exact Ag.refl _ _ | refine Ag.nop ?_ | refine Ag.dead rfl ?_ | (refine Ag.live ?_ ?_; focus exact ivW3) | refine Ag.dr rfl ?_ | (refine Ag.lr ?_ ?_; focus exact ivW3) | refine Ag.up (by assumption) rfl ?_)) : Ag D A F := h
theorem sdW3 {p : Prop} (h : p := by first | omega | assumption | (simp (disch := (first | omega | (simp only [nx]; first | done | omega))) only [xxq, zxq, tfW3, litK, copyK, clearK, makeSliceK, buildSliceK, buildK, lookupK, mapPutK, mapOf, convK, allocK, indexK, partK, xxa, xxb, xxc, bne, Int.reduceEq, Int.reduceBEq, Int.reduceNe, Int.reduceBNe, Int.reduceLE, Int.reduceGT, Int.reduceGE, Int.reduceNeg, ↓reduceIte, reduceCtorEq, Nat.reduceEqDiff, Nat.reduceAdd, Nat.reduceMul, Nat.reduceSub, Nat.reduceLT, Int.reduceAdd, Int.reduceSub, Int.reduceMul, Int.reduceLT, Int.reduceToNat, ne_eq, *]; first | done | omega | rfl)) : p := h
/-- A triangulation. -/
abbrev zT (T : List (List (Int × Int))) : Value := .agg #[zL zP T]
theorem Cl.zT (T : List (List (Int × Int))) : Cl (Zed.zT T) := Cl.agg (Cl.cons (Cl.zL (fun r => Cl.zP r) T) Cl.nil)
theorem target_z (t p f : Int) (h0 : 0 ≤ p) (h1 : p < 24) (hf0 : 0 ≤ f) (hf1 : f < 4) : ZCalls Try.prog 155 [.agg #[I t, I p], I f] (I (pm p f)) := by
  obtain ⟨n, rfl⟩ : ∃ n : Nat, f = n := ⟨f.toNat, by omega⟩
  have hl := (pmL_bd p h0 h1).1
  refine ZCalls.body Try.func155 rfl Try.ntmps155 (rs := [.tmp 4]) rfl (by simp) rfl fun H Q hQ A hA => ?_
  have a0 := hA 0 _ _ rfl
  have a1 := hA 1 _ _ rfl
  clear hA
  repeat' first | refine rnW3 ?_ | (first | refine ZCalls.to (perm_z _ h0 h1) ?_ | refine ZCalls.tf (perm_z _ h0 h1) ?_) | with_reducible refine And.intro (fun hc => ?_) (fun hc => ?_) | fail
  exact hQ.out _ _ (.eq (Cl.int _ _) (by simp [pm])) (by exact exW3)
theorem size_z (n es : Nat) (cs : List Value) : ZCalls Try.prog 81 [FZ es n cs] (I n) := by
  refine ZCalls.body Try.func81 rfl Try.ntmps81 (rs := [.tmp 2]) rfl (by simp) rfl fun H Q hQ A hA => ?_
  have a0 := hA 0 _ _ rfl
  clear hA
  repeat' first | refine rnW3 ?_ | with_reducible refine And.intro (fun hc => ?_) (fun hc => ?_) | fail
  exact hQ.out _ _ (fv) (by exact exW3)
theorem hasIndex_z (n es : Nat) (cs : List Value) (i : Int) (hn : n ≤ 1048576) : ZCalls Try.prog 153 [FZ es n cs, I i] (B (decide (0 ≤ i ∧ i ≤ (n : Int) - 1))) := by
  refine ZCalls.body Try.func153 rfl Try.ntmps153 (rs := [.tmp 4]) rfl (by simp) rfl fun H Q hQ A hA => ?_
  have a0 := hA 0 _ _ rfl
  have a1 := hA 1 _ _ rfl
  clear hA
  repeat' first | refine rnW3 ?_ | (first | refine ZCalls.to (size_z _ _ _) ?_ | refine ZCalls.tf (size_z _ _ _) ?_) | (first | refine ZCalls.to (inRange_z _ _ _) ?_ | refine ZCalls.tf (inRange_z _ _ _) ?_) | with_reducible refine And.intro (fun hc => ?_) (fun hc => ?_) | fail
  exact hQ.out _ _ (fv) (by exact exW3)
theorem getD_bd4 {l : List Int} (hl : l.length = 4) (hb : ∀ x ∈ l, 0 ≤ x ∧ x ≤ 3) (j : Nat) : 0 ≤ l.getD j 0 ∧ l.getD j 0 ≤ 3 := by
  by_cases hj : j < l.length
  · have := hb _ (List.getElem_mem hj); simpa [hj] using this
  · simp [List.getD_eq_getElem?_getD, List.getElem?_eq_none (Nat.le_of_not_lt hj)]
set_option maxHeartbeats 1000000 in
theorem indexOf_z (l : List Int) (hl : l.length = 4) (hb : ∀ x ∈ l, 0 ≤ x ∧ x ≤ 3) : ZCalls Try.prog 165 [.agg (ints l).toArray] (I (ixs l 4)) := by
  have hbd := getD_bd4 hl hb
  refine ZCalls.body Try.func165 rfl Try.ntmps165 (rs := [.tmp 2]) rfl (by simp) rfl fun H Q hQ A hA => ?_
  have a0 := hA 0 _ _ rfl
  clear hA
  repeat' first | refine rnW3 ?_ | with_reducible refine And.intro (fun hc => ?_) (fun hc => ?_) | fail
  refine AWp.cut (fun Ac hAc => ?_)
  have c1 := gtW3 (t := 1) hAc
  have c9 := gtW3 (t := 9) hAc
  have c10 := gtW3 (t := 10) hAc
  have c3 := gtW3 (t := 3) hAc
  have c11 := gtW3 (t := 11) hAc
  clear a0
  refine AWp.loop (fun A' H' => ∃ (k : Nat), Ag [4, 5, 6, 8, 12, 13, 14, 15, 16, 17, 18, 19, 20, 21, 22, 23, 24, 25, 26, 27, 28, 29, 30, 31, 32, 33, 34, 35, 36, 37, 38, 39] A' (put (put Ac (some 3) (I (ixs l k))) (some 11) (I k)) ∧ k ≤ 4 ∧ Ext H H') (fun A' _ => 4 - (intV (A' 11)).toNat) ?_ ?_
  · have e0 : ixs l 0 = 0 := rfl
    exact ⟨0, agW3, by omega, by exact exW3⟩
  · rintro A1 H1 ⟨k, hA, hk, hx⟩
    have d1 := gdW3 (t := 1) hA
    have d3 := gdW3 (t := 3) hA
    have d9 := gdW3 (t := 9) hA
    have d10 := gdW3 (t := 10) hA
    have d11 := gdW3 (t := 11) hA
    by_cases hlt : k < 4
    · have hbk : ([.int .i64 6, .int .i64 2, .int .i64 1, .int .i64 1] : List Value)[k]? = some (I (bl k)) := by
        have : k = 0 ∨ k = 1 ∨ k = 2 ∨ k = 3 := by omega
        rcases this with rfl | rfl | rfl | rfl <;> rfl
      have hbl : 0 < bl k ∧ bl k ≤ 6 := by
        have : k = 0 ∨ k = 1 ∨ k = 2 ∨ k = 3 := by omega
        rcases this with rfl | rfl | rfl | rfl <;> simp [bl]
      repeat' first | refine rnW3 ?_ | with_reducible refine And.intro (fun hc => ?_) (fun hc => ?_) | fail
      refine AWp.cut (fun Ae hAe => ?_)
      have e1 := gtW3 (t := 1) hAe
      have e3 := gtW3 (t := 3) hAe
      have e4 := gtW3 (t := 4) hAe
      have e5 := gtW3 (t := 5) hAe
      have e9 := gtW3 (t := 9) hAe
      have e10 := gtW3 (t := 10) hAe
      have e11 := gtW3 (t := 11) hAe
      have e20 := gtW3 (t := 20) hAe
      have e21 := gtW3 (t := 21) hAe
      have e6 := gtW3 (t := 6) hAe
      have e22 := gtW3 (t := 22) hAe
      refine AWp.loop (fun A' H' => ∃ (j : Nat), Ag [8, 23, 24, 25, 26, 27, 28, 29, 30, 31, 32, 33] A' (put (put Ae (some 6) (I (l.getD k 0 - cnt l (l.getD k 0) j))) (some 22) (I j)) ∧ j ≤ k ∧ Ext H H') (fun A' _ => k - (intV (A' 22)).toNat) ?_ ?_
      · have e0 : cnt l (l.getD k 0) 0 = 0 := by simp [cnt]
        exact ⟨0, agW3, by omega, by exact exW3⟩
      · clear hx
        rintro A2 H2 ⟨j, hB, hj, hx⟩
        have f1 := gdW3 (t := 1) hB
        have f3 := gdW3 (t := 3) hB
        have f4 := gdW3 (t := 4) hB
        have f5 := gdW3 (t := 5) hB
        have f6 := gdW3 (t := 6) hB
        have f9 := gdW3 (t := 9) hB
        have f10 := gdW3 (t := 10) hB
        have f11 := gdW3 (t := 11) hB
        have f20 := gdW3 (t := 20) hB
        have f21 := gdW3 (t := 21) hB
        have f22 := gdW3 (t := 22) hB
        have hB1 := hbd j
        have hB2 := hbd k
        have hcb := cnt_bd l (l.getD k 0) j
        by_cases hjk : j < k
        · have hcs := cnt_succ l (l.getD k 0) j (by omega)
          have hlk : (ints (List.take k l))[j]? = some (I (l.getD j 0)) := by simp [ints, hjk, show j < l.length by omega]
          by_cases hless : l.getD j 0 < l.getD k 0
          · rw [if_pos hless] at hcs
            repeat' first | refine rnW3 ?_ | with_reducible refine And.intro (fun hc => ?_) (fun hc => ?_) | fail
            exact ⟨⟨j + 1, agW3, by omega, by exact exW3⟩, by exact ivW3⟩
          · rw [if_neg hless] at hcs
            repeat' first | refine rnW3 ?_ | with_reducible refine And.intro (fun hc => ?_) (fun hc => ?_) | fail
            exact ⟨⟨j + 1, agW3, by omega, by exact exW3⟩, by exact ivW3⟩
        · obtain rfl : j = k := by omega
          have hib : -100 ≤ ixs l j ∧ ixs l j ≤ 100 := by
            obtain ⟨y0, y1, y2, y3, rfl⟩ := four hl
            exact ixs_bd y0 y1 y2 y3 (hb _ (by simp)) (hb _ (by simp)) (hb _ (by simp)) (hb _ (by simp)) j hk
          have hib1 : -100 ≤ ixs l (j + 1) ∧ ixs l (j + 1) ≤ 100 := by
            obtain ⟨y0, y1, y2, y3, rfl⟩ := four hl
            exact ixs_bd y0 y1 y2 y3 (hb _ (by simp)) (hb _ (by simp)) (hb _ (by simp)) (hb _ (by simp)) (j + 1) (by omega)
          have hix : ixs l (j + 1) = ixs l j + (l.getD j 0 - cnt l (l.getD j 0) j) * bl j := rfl
          generalize hw : (l.getD j 0 - cnt l (l.getD j 0) j) * bl j = w at hix
          repeat' first | refine rnW3 ?_ | with_reducible refine And.intro (fun hc => ?_) (fun hc => ?_) | fail
          exact ⟨⟨j + 1, agW3, by omega, by exact exW3⟩, by exact ivW3⟩
    · obtain rfl : k = 4 := by omega
      repeat' first | refine rnW3 ?_ | with_reducible refine And.intro (fun hc => ?_) (fun hc => ?_) | fail
      exact hQ.out _ _ (fv) (by exact exW3)
set_option maxHeartbeats 1000000 in
theorem invert_z (p : Int) (h0 : 0 ≤ p) (h1 : p < 24) : ZCalls Try.prog 166 [I p] (I (invL p)) := by
  obtain ⟨hl, hbd⟩ := pmL_bd p h0 h1
  have hil := ivs_len (pmL p)
  have hib := ivs_bd (pmL p)
  refine ZCalls.body Try.func166 rfl Try.ntmps166 (rs := [.tmp 2]) rfl (by simp) rfl fun H Q hQ A hA => ?_
  have a0 := hA 0 _ _ rfl
  clear hA
  repeat' first | refine rnW3 ?_ | (first | refine ZCalls.to (perm_z _ h0 h1) ?_ | refine ZCalls.tf (perm_z _ h0 h1) ?_) | with_reducible refine And.intro (fun hc => ?_) (fun hc => ?_) | fail
  refine AWp.cut (fun Ac hAc => ?_)
  have c3 := gtW3 (t := 3) hAc
  have c7 := gtW3 (t := 7) hAc
  have c8 := gtW3 (t := 8) hAc
  clear a0
  refine AWp.loop (fun A' H' => ∃ (k : Nat), Ag [4, 5, 9, 10, 11, 12, 13, 14, 15] A' (put Ac (some 8) (I k)) ∧ k ≤ 4 ∧ Ext (H.push (.cells (ints (ivs (pmL p) k)) 1 false)) H') (fun A' _ => 4 - (intV (A' 8)).toNat) ?_ ?_
  · exact ⟨0, agW3, by omega, by exact exW3⟩
  · rintro A1 H1 ⟨k, hA, hk, hx⟩
    have d3 := gdW3 (t := 3) hA
    have d7 := gdW3 (t := 7) hA
    have d8 := gdW3 (t := 8) hA
    have hxg := hx.get; have hxs := hx.size; (try simp only [nx] at hxs)
    have hlk := hil k
    by_cases hlt : k < 4
    · have hw := getD_bd4 hl hbd k
      obtain ⟨q, hq⟩ : ∃ q : Nat, (pmL p).getD k 0 = (q : Int) := ⟨((pmL p).getD k 0).toNat, by omega⟩
      have hstep : ivs (pmL p) (k + 1) = (ivs (pmL p) k).set ((pmL p).getD k 0).toNat k := rfl
      rw [hq] at hstep
      clear hil hib
      repeat' first | refine rnW3 ?_ | with_reducible refine And.intro (fun hc => ?_) (fun hc => ?_) | fail
      exact ⟨⟨k + 1, agW3, by omega, by exact exW3⟩, by exact ivW3⟩
    · obtain rfl : k = 4 := by omega
      have hi4 := hib 4 (by omega)
      clear hil hib
      repeat' first | refine rnW3 ?_ | (first | refine ZCalls.to (indexOf_z (ivs (pmL p) 4) hlk hi4) ?_ | refine ZCalls.tf (indexOf_z (ivs (pmL p) 4) hlk hi4) ?_) | with_reducible refine And.intro (fun hc => ?_) (fun hc => ?_) | fail
      exact hQ.out _ _ (fv) (by exact exW3)
theorem partner_z (t p f : Int) (h0 : 0 ≤ p) (h1 : p < 24) : ZCalls Try.prog 156 [.agg #[I t, I p], I f] (.agg #[I f, I (invL p)]) := by
  refine ZCalls.body Try.func156 rfl Try.ntmps156 (rs := [.cell 4 110]) rfl (by simp) rfl fun H Q hQ A hA => ?_
  have a0 := hA 0 _ _ rfl
  have a1 := hA 1 _ _ rfl
  clear hA
  repeat' first | refine rnW3 ?_ | (first | refine ZCalls.to (invert_z _ h0 h1) ?_ | refine ZCalls.tf (invert_z _ h0 h1) ?_) | with_reducible refine And.intro (fun hc => ?_) (fun hc => ?_) | fail
  exact hQ.out _ _ (.cl (Cl.agg (l := [_, _]) (Cl.cons (Cl.int _ _) (Cl.cons (Cl.int _ _) Cl.nil)))) (by exact exW3)
end Go.Proofs.Ytibkopejnhihkaa.Zed
