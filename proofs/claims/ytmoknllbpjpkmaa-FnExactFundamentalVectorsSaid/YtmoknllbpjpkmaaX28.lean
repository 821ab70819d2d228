/- A part of the walk: what functions of the program do, over an abstract heap. -/
import Derived.Test.YtmoknllbpjpkmaaX27
namespace Go.Proofs.Ytmoknllbpjpkmaa.Zed
open Go TP
set_option linter.unusedVariables false
set_option linter.unusedSimpArgs false
set_option maxRecDepth 20000
namespace tfX28
theorem tf : (Try.prog.underlying 25 = some (.slice 2)) ∧ (el Try.prog 25 = some (none, 1)) ∧ (Try.prog.underlying 51 = some (.slice 25)) ∧ (el Try.prog 51 = some (none, 1)) ∧ (tk Try.prog 2 = some none) ∧ (tk Try.prog 25 = some none) ∧ (tk Try.prog 31 = some (some 1)) ∧ (cz Try.prog 2 = some 1) ∧ (bz Try.prog 2 = some 8) ∧ (cz Try.prog 25 = some 1) ∧ (bz Try.prog 25 = some 24) ∧ (zr Try.prog 2 = some (.int .i64 0)) ∧ (zr Try.prog 25 = some (.slice none 0 0)) := by
  refine ⟨?_, ?_, ?_, ?_, ?_, ?_, ?_, ?_, ?_, ?_, ?_, ?_, ?_⟩ <;> kernel_rfl
end tfX28
open tfX28
theorem rb2_X28 {a b : Prop} (hb : b) (h : Later b → a := by
  intro hb
  first
  | ((first | (with_reducible first | refine AOps.nil ?_ | refine athen_n ?_ | refine athen_r ?_ | refine athen_e ?_ | refine ablock_n ?_ | refine ablock_r ?_ | refine ablock_s ?_ | refine AWp.seq' ?_ | refine AWp.block ?_ | refine AWp.skip ?_ | refine AWp.exit ?_ | refine AWp.ret ?_ | (refine ablock_e ?_ ?_; focus rfl)) | ((with_reducible refine AWp.regionB 2 ?_ ?_); focus (exact rfl))); repeat (first | (with_reducible first | refine AOps.nil ?_ | refine athen_n ?_ | refine athen_r ?_ | refine athen_e ?_ | refine ablock_n ?_ | refine ablock_r ?_ | refine ablock_s ?_ | refine AWp.seq' ?_ | refine AWp.block ?_ | refine AWp.skip ?_ | refine AWp.exit ?_ | refine AWp.ret ?_ | (refine ablock_e ?_ ?_; focus rfl)) | ((with_reducible refine AWp.regionB 2 ?_ ?_); focus (exact rfl))))
  | (refine AOps.guardu rfl rfl rfl ?_ ?_; focus (simp (disch := (first | omega | (simp only [nx]; first | done | omega))) only [Value.bool.injEq, Bool.and_true, Bool.true_and, Bool.and_false, Bool.false_and, beq_self_eq_true, bne, Bool.not_true, Bool.not_false, sx, nx, dx, ↓reduceIte, reduceCtorEq, Nat.reduceEqDiff, ne_eq, not_false_eq_true, *]; done))
  | ((first | ((with_reducible refine AOps.lit ?_ ?_ ?_ fun K hK => ?_); exact rfl; exact rfl; exact rfl) | ((with_reducible refine AOps.boxz ?_ ?_ fun K hK => ?_); exact rfl; exact rfl) | ((with_reducible refine AOps.cons2 ?_ ?_ fun K hK => ?_); exact rfl; exact rfl) | ((with_reducible refine AWp.cond ?_ fun X Y hX hY => ?_); exact rfl) | refine AOps.guard rfl rfl rfl fun X Y hX hY => ?_ | refine aret_r ?_ | refine aret_n ?_); simp (disch := (first | omega | (simp only [nx]; first | done | omega))) only [acond_bool, aresK, retv, xxq, zxq, tf, litK, copyK, clearK, makeSliceK, buildSliceK, buildK, lookupK, mapPutK, mapOf, convK, allocK, indexK, partK, xxa, xxb, xxc, bne, Int.reduceEq, Int.reduceBEq, Int.reduceNe, Int.reduceBNe, Int.reduceLE, Int.reduceGT, Int.reduceGE, Int.reduceNeg, ↓reduceIte, reduceCtorEq, Nat.reduceEqDiff, Nat.reduceAdd, Nat.reduceMul, Nat.reduceSub, Nat.reduceLT, Int.reduceAdd, Int.reduceSub, Int.reduceMul, Int.reduceLT, Int.reduceToNat, ne_eq, *]; (repeat first | ((with_reducible refine And.intro (fun hc => ?_) (fun hc => absurd hc (by omega))); clear hc) | ((with_reducible refine And.intro (fun hc => absurd hc (by omega)) (fun hc => ?_)); clear hc) | ((with_reducible refine And.intro ?_ ?_); focus ((first | omega | assumption | exact cok _ rfl | exact one_ints _ | exact one_map fun _ => rfl | ((repeat refine one_cons (by first | rfl | assumption) ?_); exact one_nil) | rfl | decide | (intro u hu; cases hu)); done)) | (with_reducible refine (fun hc => ?_ : _ → _); clear hc)); (first | refine hK.out _ _ ?_ | refine ACalls.hk hK ?_ | (refine appendK.hk hK ?_; try (refine appendK.ofZ ?_; simp (disch := (first | omega | (simp only [nx]; first | done | omega))) only [xxq, zxq, tf, litK, copyK, clearK, makeSliceK, buildSliceK, buildK, lookupK, mapPutK, mapOf, convK, allocK, indexK, partK, xxa, xxb, xxc, bne, Int.reduceEq, Int.reduceBEq, Int.reduceNe, Int.reduceBNe, Int.reduceLE, Int.reduceGT, Int.reduceGE, Int.reduceNeg, ↓reduceIte, reduceCtorEq, Nat.reduceEqDiff, Nat.reduceAdd, Nat.reduceMul, Nat.reduceSub, Nat.reduceLT, Int.reduceAdd, Int.reduceSub, Int.reduceMul, Int.reduceLT, Int.reduceToNat, ne_eq, *]; (repeat first | ((with_reducible refine And.intro (fun hc => ?_) (fun hc => absurd hc (by omega))); clear hc) | ((with_reducible refine And.intro (fun hc => absurd hc (by omega)) (fun hc => ?_)); clear hc) | ((with_reducible refine And.intro ?_ ?_); focus ((first | omega | assumption | exact cok _ rfl | exact one_ints _ | exact one_map fun _ => rfl | ((repeat refine one_cons (by first | rfl | assumption) ?_); exact one_nil) | rfl | decide | (intro u hu; cases hu)); done)) | (with_reducible refine (fun hc => ?_ : _ → _); clear hc)))) | refine (fun (q : _ ∧ _) => And.intro (hK.out _ _ q.1) (hK.out _ _ q.2)) ?_ | refine hX.out ?_ | refine hY.out ?_ | refine (fun (q : (_ → _) ∧ (_ → _)) => And.intro (fun hc => hX.out (q.1 hc)) (fun hc => hY.out (q.2 hc))) ?_ | refine (fun (q : (_ → _) ∧ (_ → _)) => And.intro (fun hc => hY.out (q.1 hc)) (fun hc => hX.out (q.2 hc))) ?_ | skip))
  exact hb.out) : a := h ⟨hb⟩
theorem rb18_X28 {a b : Prop} (hb : b) (h : Later b → a := by
  intro hb
  first
  | ((first | (with_reducible first | refine AOps.nil ?_ | refine athen_n ?_ | refine athen_r ?_ | refine athen_e ?_ | refine ablock_n ?_ | refine ablock_r ?_ | refine ablock_s ?_ | refine AWp.seq' ?_ | refine AWp.block ?_ | refine AWp.skip ?_ | refine AWp.exit ?_ | refine AWp.ret ?_ | (refine ablock_e ?_ ?_; focus rfl)) | ((with_reducible refine AWp.regionB 18 ?_ ?_); focus (exact rfl))); repeat (first | (with_reducible first | refine AOps.nil ?_ | refine athen_n ?_ | refine athen_r ?_ | refine athen_e ?_ | refine ablock_n ?_ | refine ablock_r ?_ | refine ablock_s ?_ | refine AWp.seq' ?_ | refine AWp.block ?_ | refine AWp.skip ?_ | refine AWp.exit ?_ | refine AWp.ret ?_ | (refine ablock_e ?_ ?_; focus rfl)) | ((with_reducible refine AWp.regionB 18 ?_ ?_); focus (exact rfl))))
  | (refine AOps.guardu rfl rfl rfl ?_ ?_; focus (simp (disch := (first | omega | (simp only [nx]; first | done | omega))) only [Value.bool.injEq, Bool.and_true, Bool.true_and, Bool.and_false, Bool.false_and, beq_self_eq_true, bne, Bool.not_true, Bool.not_false, sx, nx, dx, ↓reduceIte, reduceCtorEq, Nat.reduceEqDiff, ne_eq, not_false_eq_true, *]; done))
  | ((first | ((with_reducible refine AOps.lit ?_ ?_ ?_ fun K hK => ?_); exact rfl; exact rfl; exact rfl) | ((with_reducible refine AOps.boxz ?_ ?_ fun K hK => ?_); exact rfl; exact rfl) | ((with_reducible refine AOps.cons2 ?_ ?_ fun K hK => ?_); exact rfl; exact rfl) | ((with_reducible refine AWp.cond ?_ fun X Y hX hY => ?_); exact rfl) | refine AOps.guard rfl rfl rfl fun X Y hX hY => ?_ | refine aret_r ?_ | refine aret_n ?_); simp (disch := (first | omega | (simp only [nx]; first | done | omega))) only [acond_bool, aresK, retv, xxq, zxq, tf, litK, copyK, clearK, makeSliceK, buildSliceK, buildK, lookupK, mapPutK, mapOf, convK, allocK, indexK, partK, xxa, xxb, xxc, bne, Int.reduceEq, Int.reduceBEq, Int.reduceNe, Int.reduceBNe, Int.reduceLE, Int.reduceGT, Int.reduceGE, Int.reduceNeg, ↓reduceIte, reduceCtorEq, Nat.reduceEqDiff, Nat.reduceAdd, Nat.reduceMul, Nat.reduceSub, Nat.reduceLT, Int.reduceAdd, Int.reduceSub, Int.reduceMul, Int.reduceLT, Int.reduceToNat, ne_eq, *]; (repeat first | ((with_reducible refine And.intro (fun hc => ?_) (fun hc => absurd hc (by omega))); clear hc) | ((with_reducible refine And.intro (fun hc => absurd hc (by omega)) (fun hc => ?_)); clear hc) | ((with_reducible refine And.intro ?_ ?_); focus ((first | omega | assumption | exact cok _ rfl | exact one_ints _ | exact one_map fun _ => rfl | ((repeat refine one_cons (by first | rfl | assumption) ?_); exact one_nil) | rfl | decide | (intro u hu; cases hu)); done)) | (with_reducible refine (fun hc => ?_ : _ → _); clear hc)); (first | refine hK.out _ _ ?_ | refine ACalls.hk hK ?_ | (refine appendK.hk hK ?_; try (refine appendK.ofZ ?_; simp (disch := (first | omega | (simp only [nx]; first | done | omega))) only [xxq, zxq, tf, litK, copyK, clearK, makeSliceK, buildSliceK, buildK, lookupK, mapPutK, mapOf, convK, allocK, indexK, partK, xxa, xxb, xxc, bne, Int.reduceEq, Int.reduceBEq, Int.reduceNe, Int.reduceBNe, Int.reduceLE, Int.reduceGT, Int.reduceGE, Int.reduceNeg, ↓reduceIte, reduceCtorEq, Nat.reduceEqDiff, Nat.reduceAdd, Nat.reduceMul, Nat.reduceSub, Nat.reduceLT, Int.reduceAdd, Int.reduceSub, Int.reduceMul, Int.reduceLT, Int.reduceToNat, ne_eq, *]; (repeat first | ((with_reducible refine And.intro (fun hc => ?_) (fun hc => absurd hc (by omega))); clear hc) | ((with_reducible refine And.intro (fun hc => absurd hc (by omega)) (fun hc => ?_)); clear hc) | ((with_reducible refine And.intro ?_ ?_); focus ((first | omega | assumption | exact cok _ rfl | exact one_ints _ | exact one_map fun _ => rfl | ((repeat refine one_cons (by first | rfl | assumption) ?_); exact one_nil) | rfl | decide | (intro u hu; cases hu)); done)) | (with_reducible refine (fun hc => ?_ : _ → _); clear hc)))) | refine (fun (q : _ ∧ _) => And.intro (hK.out _ _ q.1) (hK.out _ _ q.2)) ?_ | refine hX.out ?_ | refine hY.out ?_ | refine (fun (q : (_ → _) ∧ (_ → _)) => And.intro (fun hc => hX.out (q.1 hc)) (fun hc => hY.out (q.2 hc))) ?_ | refine (fun (q : (_ → _) ∧ (_ → _)) => And.intro (fun hc => hY.out (q.1 hc)) (fun hc => hX.out (q.2 hc))) ?_ | skip))
  exact hb.out) : a := h ⟨hb⟩
/-- The rows of a glued face, for the vertices below k. -/
def srC (n a f : Nat) (x : Int × Int) : Nat → List (List Int)
  | 0 => []
  | c + 1 => if c = f then srC n a f x c else srC n a f x c ++ [mRow n a f x.1 x.2 c]
/-- A pair is a glued face. -/
def PrOK (T : List (List (Int × Int))) (r : List Int) (a f : Nat) : Prop := r = [(a : Int), (f : Int)] ∧ a < T.length ∧ f < 4 ∧ prC a f ((T.getD a []).getD f (0, 0))
theorem prF_ok {T : List (List (Int × Int))} {a : Nat} (ha : a < T.length) {acc : List (List Int)} (h : ∀ r ∈ acc, ∃ a f, PrOK T r a f) : ∀ f, f ≤ 4 → ∀ r ∈ prF acc a (T.getD a []) f, ∃ a f, PrOK T r a f
  | 0, _ => h
  | f + 1, hf => fun r hr => by
    unfold prF at hr
    split at hr
    · rename_i hc
      rcases List.mem_append.1 hr with hr | hr
      · exact prF_ok ha h f (by omega) r hr
      · exact ⟨a, f, by simpa using hr, ha, by omega, hc⟩
    · exact prF_ok ha h f (by omega) r hr
theorem prT_ok (T : List (List (Int × Int))) : ∀ a, a ≤ T.length → ∀ r ∈ prT T a, ∃ a f, PrOK T r a f
  | 0, _ => fun r hr => by cases hr
  | a + 1, h => prF_ok (by omega) (prT_ok T a (by omega)) 4 (Nat.le_refl _)
def srP (T : List (List (Int × Int))) (P : List (List Int)) : Nat → List (List Int)
  | 0 => []
  | i + 1 => srP T P i ++ srC T.length ((P.getD i []).getD 0 0).toNat ((P.getD i []).getD 1 0).toNat ((T.getD ((P.getD i []).getD 0 0).toNat []).getD ((P.getD i []).getD 1 0).toNat (0, 0)) 4
theorem srC_len (n a f : Nat) (x : Int × Int) : ∀ c, (srC n a f x c).length ≤ c
  | 0 => Nat.le_refl _
  | c + 1 => by
    have := srC_len n a f x c
    unfold srC
    split
    · omega
    · rw [List.length_append]; simp only [List.length_cons, List.length_nil]; omega
theorem srP_len (T : List (List (Int × Int))) (P : List (List Int)) : ∀ i, (srP T P i).length ≤ 4 * i
  | 0 => Nat.le_refl _
  | i + 1 => by
    have := srP_len T P i
    unfold srP
    rw [List.length_append]
    have := srC_len T.length ((P.getD i []).getD 0 0).toNat ((P.getD i []).getD 1 0).toNat ((T.getD ((P.getD i []).getD 0 0).toNat []).getD ((P.getD i []).getD 1 0).toNat (0, 0)) 4
    omega
set_option maxHeartbeats 8000000 in
theorem l17Rows_z {T : List (List (Int × Int))} (hF : Fine T) : ZCalls Try.prog 82 [zT T] (FZ 1 (srP T (prT T T.length) (prT T T.length).length).length (rowsZ (7 * T.length) (srP T (prT T T.length) (prT T T.length).length))) := by
  have h8 := hF.1
  have h4 : ∀ a, a < T.length → (T.getD a []).length = 4 := fun a ha => (hF.2 a ha).1
  have hpr := l17Pairs_z hF
  have hpl := prT_len T T.length
  have hok := prT_ok T T.length (Nat.le_refl _)
  generalize prT T T.length = P at *
  obtain ⟨ZP, hZP⟩ : ∃ ZP, (P.map fun r => zI r) = ZP := ⟨_, rfl⟩
  change ZCalls _ _ _ (FZ 1 P.length (P.map fun r => zI r)) at hpr
  rw [hZP] at hpr
  have hzl : ZP.length = P.length := by rw [← hZP, List.length_map]
  refine ZCalls.body Try.func82 rfl Try.ntmps82 (rs := [.tmp 2]) rfl (by simp) rfl fun H Q hQ A hA => ?_
  have a0 := hA 0 _ _ rfl
  clear hA
  repeat' first | refine rb2_X28 ?_ | with_reducible refine And.intro (fun hc => ?_) (fun hc => ?_) | fail
  refine AWp.growE (t := 3) 1 (by decide) (by exact ivY) ?_
  repeat' first | refine rnY ?_ | (first | refine ZCalls.to (hpr) ?_ | refine ZCalls.tf (hpr) ?_) | with_reducible refine And.intro (fun hc => ?_) (fun hc => ?_) | fail
  refine AWp.cut (fun Ac hAc => ?_)
  have c1 := gtY (t := 1) hAc
  have c4 := gtY (t := 4) hAc
  have c3 := gtY (t := 3) hAc
  have c5 := gtY (t := 5) hAc
  clear a0 hpr
  refine AWp.loop (fun A' H' => ∃ (i : Nat), Ag [6, 7, 8, 9, 10, 11, 12, 16, 17, 18, 19, 20, 21, 22, 23, 24, 25, 26, 27, 28, 29, 30, 31, 32, 33, 34, 35, 36, 37, 38, 39, 40, 41, 42, 43, 44, 45, 46, 47, 48, 49, 50, 51, 52, 53, 54, 55, 56, 57, 58, 59, 60, 61, 62, 63, 64, 65, 66, 67, 68, 69, 70, 71, 72, 73, 74, 75, 76, 77, 78, 79, 80, 81, 82, 83, 84, 85, 86, 87, 88, 89, 90, 91, 92, 93, 94, 95, 96, 97, 98, 99] A' (put (put Ac (some 3) (GZ (H.size + 1) 1 (srP T P i).length (rowsZ (7 * T.length) (srP T P i)))) (some 5) (I i)) ∧ i ≤ P.length ∧ Ext H H' ∧ H'.get (H.size + 1) = .tok (srP T P i).length 1 ∧ H.size + 1 < H'.size) (fun A' _ => P.length - (intV (A' 5)).toNat) ?_ ?_
  · have e0 : srP T P 0 = [] := rfl
    exact ⟨0, agY, by omega, by exact exY, by exact ivY, by exact ivY⟩
  · rintro A1 H1 ⟨i, hA, hi, hx, hg, hs⟩
    have d1 := gdY (t := 1) hA
    have d3 := gdY (t := 3) hA
    have d4 := gdY (t := 4) hA
    have d5 := gdY (t := 5) hA
    by_cases hlt : i < P.length
    · have hst : srP T P (i + 1) = srP T P i ++ srC T.length ((P.getD i []).getD 0 0).toNat ((P.getD i []).getD 1 0).toNat ((T.getD ((P.getD i []).getD 0 0).toNat []).getD ((P.getD i []).getD 1 0).toNat (0, 0)) 4 := rfl
      have hsl := srP_len T P i
      obtain ⟨a, f, hr, ha, hf, hc⟩ := hok (P.getD i []) (by simp [hlt])
      have hfine := (hF.2 a ha).2 f hf
      have hP : ZP[i]? = some (FZ 1 2 (ints [(a : Int), (f : Int)])) := by
        have e : P[i] = [(a : Int), (f : Int)] := by rw [← hr]; simp [hlt]
        rw [← hZP]
        simp [hlt, e, Zed.zI]
      rw [hr] at hst
      have e1 : ([(a : Int), (f : Int)].getD 0 0).toNat = a := rfl
      have e2 : ([(a : Int), (f : Int)].getD 1 0).toNat = f := rfl
      rw [e1, e2] at hst
      have hge : 0 ≤ ((T.getD a []).getD f (0, 0)).1 := by
        rcases hc with hc | hc
        · omega
        · omega
      obtain ⟨q1, q2, q3⟩ := hfine hge
      clear hok e1 e2 hr
      have hco := fun (c : Nat) hc => l17Corner_z h8 h4 (c := c) ha hf hc ⟨q2, q3⟩
      generalize srP T P i = acc at *
      generalize (T.getD a []).getD f (0, 0) = x at *
      obtain ⟨t, p⟩ := x
      simp only at hco q1 q2 q3 hge
      repeat' first | refine rnY ?_ | with_reducible refine And.intro (fun hc => ?_) (fun hc => ?_) | fail
      refine AWp.cut (fun Ae hAe => ?_)
      have e1 := gtY (t := 1) hAe
      have e4 := gtY (t := 4) hAe
      have e5 := gtY (t := 5) hAe
      have e6 := gtY (t := 6) hAe
      have e7 := gtY (t := 7) hAe
      have e3 := gtY (t := 3) hAe
      have e8 := gtY (t := 8) hAe
      refine AWp.loop (fun A' H' => ∃ (k : Nat), Ag [9, 10, 11, 12, 34, 35, 36, 37, 38, 39, 40, 41, 42, 43, 44, 45, 46, 47, 48, 49, 50, 51, 52, 53, 54, 55, 56, 57, 58, 59, 60, 61, 62, 63, 64, 65, 66, 67, 68, 69, 70, 71, 72, 73, 74, 75, 76, 77, 78, 79, 80, 81, 82, 83, 84, 85, 86, 87, 88, 89, 90, 91, 92, 93, 94, 95, 96, 97, 98, 99] A' (put (put Ae (some 3) (GZ (H.size + 1) 1 (acc ++ srC T.length a f (t, p) k).length (rowsZ (7 * T.length) (acc ++ srC T.length a f (t, p) k)))) (some 8) (I k)) ∧ k ≤ 4 ∧ Ext H H' ∧ H'.get (H.size + 1) = .tok (acc ++ srC T.length a f (t, p) k).length 1 ∧ H.size + 1 < H'.size) (fun A' _ => 4 - (intV (A' 8)).toNat) ?_ ?_
      · have e0 : acc ++ srC T.length a f (t, p) 0 = acc := List.append_nil _
        exact ⟨0, by rw [e0]; exact agY, by omega, by exact exY, by rw [e0]; exact ivY, by exact ivY⟩
      · clear hx hg hs
        rintro A2 H2 ⟨k, hB, hk, hx, hg, hs⟩
        have f1 := gdY (t := 1) hB
        have f3 := gdY (t := 3) hB
        have f4 := gdY (t := 4) hB
        have f5 := gdY (t := 5) hB
        have f6 := gdY (t := 6) hB
        have f7 := gdY (t := 7) hB
        have f8 := gdY (t := 8) hB
        by_cases hk4 : k < 4
        · have hsc := srC_len T.length a f (t, p) k
          by_cases hkf : k = f
          · have hs2 : srC T.length a f (t, p) (k + 1) = srC T.length a f (t, p) k := by show (if k = f then _ else _) = _; rw [if_pos hkf]
            have hkb : ((k : Int) == (f : Int)) = true := by rw [beq_iff_eq]; omega
            clear hkf hco
            repeat' first | refine rnY ?_ | with_reducible refine And.intro (fun hc => ?_) (fun hc => ?_) | fail
            exact ⟨⟨k + 1, by rw [hs2]; exact agY, by omega, by exact exY, by rw [hs2]; exact ivY, by exact ivY⟩, by exact ivY⟩
          · have hs2 : acc ++ srC T.length a f (t, p) (k + 1) = (acc ++ srC T.length a f (t, p) k) ++ [mRow T.length a f t p k] := by
              show acc ++ (if k = f then _ else _) = _
              rw [if_neg hkf, List.append_assoc]
            have hkb : ((k : Int) == (f : Int)) = false := by rw [beq_eq_false_iff_ne]; omega
            have hcok := hco k hk4
            have hqf := pm_bd p f q2 q3 (by omega) (by omega)
            have hqk := pm_bd p k q2 q3 (by omega) (by omega)
            have hqqf : (pmL p).getD f 0 = pm p f := by unfold pm; rw [Int.toNat_natCast]
            have hqqk : (pmL p).getD k 0 = pm p k := by unfold pm; rw [Int.toNat_natCast]
            have hne : pm p k ≠ pm p f := by rw [← hqqk, ← hqqf]; exact pm_inj p k f q2 q3 hk4 hf hkf
            obtain ⟨_, _, _, b1, b2, b5⟩ := quad_is k f (by omega) (by omega) (by omega) (by omega) (by omega)
            obtain ⟨_, _, _, b3, b4, b6⟩ := quad_is (pm p k) (pm p f) (by omega) (by omega) (by omega) (by omega) hne
            have hz1 := l17Between_z f k (by omega) (by omega) (by omega) (by omega)
            have hz2 := l17Between_z (pm p f) (pm p k) (by omega) (by omega) (by omega) (by omega)
            rw [b5] at hz1
            rw [b6] at hz2
            have hSl : (acc ++ srC T.length a f (t, p) k).length = acc.length + (srC T.length a f (t, p) k).length := List.length_append ..
            have hSl2 : (acc ++ srC T.length a f (t, p) k).length ≤ 200 := by omega
            have hrz : rowsZ (7 * T.length) ((acc ++ srC T.length a f (t, p) k) ++ [mRow T.length a f t p k]) = rowsZ (7 * T.length) (acc ++ srC T.length a f (t, p) k) ++ [FZ 1 (7 * T.length) (ints (mRow T.length a f t p k))] := List.map_append
            have hrl2 : (rowsZ (7 * T.length) (acc ++ srC T.length a f (t, p) k)).length = (acc ++ srC T.length a f (t, p) k).length := by simp
            have hrz2 : List.map (fun r => FZ 1 (7 * T.length) (ints r)) (srC T.length a f (t, p) (k + 1)) = List.map (fun r => FZ 1 (7 * T.length) (ints r)) (srC T.length a f (t, p) k) ++ [FZ 1 (7 * T.length) (ints (mRow T.length a f t p k))] := by
              have e : srC T.length a f (t, p) (k + 1) = srC T.length a f (t, p) k ++ [mRow T.length a f t p k] := by show (if k = f then _ else _) = _; rw [if_neg hkf]
              rw [e, List.map_append]; rfl
            have hm4 : mRow T.length a f t p k = bump (bump (bump (bump (List.replicate (7 * T.length) 0) (7 * a + k) 1) (7 * a + 4 + btN k f) 1) (7 * t + pm p k) (-1)) (7 * t + 4 + btN (pm p k) (pm p f)) (-1) := rfl
            have hml := mRow_len T.length a f t p k
            have hsn : (acc ++ srC T.length a f (t, p) (k + 1)).length = (acc ++ srC T.length a f (t, p) k).length + 1 := by rw [hs2, List.length_append]; rfl
            have hsn2 : acc.length + (srC T.length a f (t, p) (k + 1)).length = acc.length + (srC T.length a f (t, p) k).length + 1 := by rw [← List.length_append, ← List.length_append]; exact hsn
            rw [← hs2] at hrz
            clear hco hkf hs2
            generalize acc ++ srC T.length a f (t, p) k = S at *
            generalize rowsZ (7 * T.length) S = RZ at *
            generalize mRow T.length a f t p k = row at *
            generalize hq1 : pm p f = g at *
            generalize hq3 : pm p k = g2 at *
            generalize btN k f = u1 at *
            generalize btN g2 g = u2 at *
            have h7 : (7 * (T.length : Int)).toNat = 7 * T.length := by omega
            have d0 : ∀ j, -0 ≤ (List.replicate (7 * T.length) (0 : Int)).getD j 0 ∧ (List.replicate (7 * T.length) (0 : Int)).getD j 0 ≤ 0 := fun j => by rw [getD_zero]; omega
            have l0 : (List.replicate (7 * T.length) (0 : Int)).length = 7 * T.length := by simp
            generalize hR0 : List.replicate (7 * T.length) (0 : Int) = R0 at *
            have d1 := bump_bd (by omega) d0 (7 * a + k) 1 (by omega) (by omega)
            have e1 : R0.set (7 * (a : Int) + k).toNat (R0.getD (7 * (a : Int) + k).toNat 0 + 1) = bump R0 (7 * a + k) 1 := rfl
            have v1 := d0 (7 * (a : Int) + k).toNat
            have l1 := bump_len R0 (7 * a + k) 1
            generalize bump R0 (7 * a + k) 1 = R1 at *
            generalize hy1 : R0.getD (7 * (a : Int) + k).toNat 0 = y1 at *
            have d2 := bump_bd (by omega) d1 (7 * a + 4 + u1) 1 (by omega) (by omega)
            have e2 : R1.set (7 * (a : Int) + 4 + u1).toNat (R1.getD (7 * (a : Int) + 4 + u1).toNat 0 + 1) = bump R1 (7 * a + 4 + u1) 1 := rfl
            have v2 := d1 (7 * (a : Int) + 4 + u1).toNat
            have l2 := bump_len R1 (7 * a + 4 + u1) 1
            generalize bump R1 (7 * a + 4 + u1) 1 = R2 at *
            generalize hy2 : R1.getD (7 * (a : Int) + 4 + u1).toNat 0 = y2 at *
            have d3 := bump_bd (by omega) d2 (7 * t + g2) (-1) (by omega) (by omega)
            have e3 : R2.set (7 * t + g2).toNat (R2.getD (7 * t + g2).toNat 0 - 1) = bump R2 (7 * t + g2) (-1) := rfl
            have v3 := d2 (7 * t + g2).toNat
            have l3 := bump_len R2 (7 * t + g2) (-1)
            generalize bump R2 (7 * t + g2) (-1) = R3 at *
            generalize hy3 : R2.getD (7 * t + g2).toNat 0 = y3 at *
            have e4 : R3.set (7 * t + 4 + u2).toNat (R3.getD (7 * t + 4 + u2).toNat 0 - 1) = row := hm4.symm
            have v4 := d3 (7 * t + 4 + u2).toNat
            clear d0 d1 d2 d3 hm4
            generalize hy4 : R3.getD (7 * t + 4 + u2).toNat 0 = y4 at *
            have zf0 := @rep_ints
            have zf1 := @zero1
            repeat' first | refine rb18_X28 ?_ | (first | refine ZCalls.to (l07Tets_z _ _ _) ?_ | refine ZCalls.tf (l07Tets_z _ _ _) ?_) | (first | refine ZCalls.to (hcok) ?_ | refine ZCalls.tf (hcok) ?_) | (first | refine ZCalls.to (hz1) ?_ | refine ZCalls.tf (hz1) ?_) | (first | refine ZCalls.to (hz2) ?_ | refine ZCalls.tf (hz2) ?_) | with_reducible refine And.intro (fun hc => ?_) (fun hc => ?_) | fail
            refine AWp.freezeI (t := 9) (g := H2.size) row (7 * T.length) (by exact ivY) (get_push_eq rfl) rfl rfl hml ?_
            clear e1 e2 e3 e4 v1 v2 v3 v4 hy1 hy2 hy3 hy4 hR0 l0 l1 l2 l3
            repeat' first | refine rnY ?_ | with_reducible refine And.intro (fun hc => ?_) (fun hc => ?_) | fail
            exact ⟨⟨k + 1, by rw [hsn2, hrz2, ← List.append_assoc]; exact agY, by omega, by exact exY, by rw [hsn2]; exact ivY, by exact ivY⟩, by exact ivY⟩
        · obtain rfl : k = 4 := by omega
          clear hco
          repeat' first | refine rnY ?_ | with_reducible refine And.intro (fun hc => ?_) (fun hc => ?_) | fail
          exact ⟨⟨i + 1, agY, by omega, by exact exY, by rw [hst]; exact ivY, by exact ivY⟩, by exact ivY⟩
    · obtain rfl : i = P.length := by omega
      repeat' first | refine rnY ?_ | with_reducible refine And.intro (fun hc => ?_) (fun hc => ?_) | fail
      exact hQ.out _ _ (.gz (Cl.map fun r => Cl.fz (Cl.ints r))) (by exact exY)
end Go.Proofs.Ytmoknllbpjpkmaa.Zed
