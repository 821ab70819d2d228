/- A part of the walk: what functions of the program do, over an abstract heap. -/
import Derived.Test.YtmoknllbpjpkmaaW21
import Derived.Test.YtmoknllbpjpkmaaZedF
namespace Go.Proofs.Ytmoknllbpjpkmaa.Zed
open Go TP
set_option linter.unusedVariables false
set_option linter.unusedSimpArgs false
set_option maxRecDepth 20000
namespace tfX2
theorem tf : (Try.prog.underlying 25 = some (.slice 2)) ∧ (el Try.prog 25 = some (none, 1)) ∧ (Try.prog.underlying 51 = some (.slice 25)) ∧ (el Try.prog 51 = some (none, 1)) ∧ (tk Try.prog 2 = some none) ∧ (tk Try.prog 25 = some none) ∧ (tk Try.prog 31 = some (some 1)) ∧ (tk Try.prog 51 = some none) ∧ (tk Try.prog 115 = some (some 3)) ∧ (cz Try.prog 2 = some 1) ∧ (bz Try.prog 2 = some 8) ∧ (cz Try.prog 25 = some 1) ∧ (bz Try.prog 25 = some 24) ∧ (zr Try.prog 2 = some (.int .i64 0)) ∧ (zr Try.prog 25 = some (.slice none 0 0)) ∧ (zr Try.prog 115 = some (.agg #[.slice none 0 0, .slice none 0 0, .slice none 0 0])) ∧ (fo Try.prog 115 1 = some (1, none)) := by
  refine ⟨?_, ?_, ?_, ?_, ?_, ?_, ?_, ?_, ?_, ?_, ?_, ?_, ?_, ?_, ?_, ?_, ?_⟩ <;> kernel_rfl
end tfX2
open tfX2
theorem rb12_X2 {a b : Prop} (hb : b) (h : Later b → a := by
  intro hb
  first
  | ((first | (with_reducible first | refine AOps.nil ?_ | refine athen_n ?_ | refine athen_r ?_ | refine athen_e ?_ | refine ablock_n ?_ | refine ablock_r ?_ | refine ablock_s ?_ | refine AWp.seq' ?_ | refine AWp.block ?_ | refine AWp.skip ?_ | refine AWp.exit ?_ | refine AWp.ret ?_ | (refine ablock_e ?_ ?_; focus rfl)) | ((with_reducible refine AWp.regionB 12 ?_ ?_); focus (exact rfl))); repeat (first | (with_reducible first | refine AOps.nil ?_ | refine athen_n ?_ | refine athen_r ?_ | refine athen_e ?_ | refine ablock_n ?_ | refine ablock_r ?_ | refine ablock_s ?_ | refine AWp.seq' ?_ | refine AWp.block ?_ | refine AWp.skip ?_ | refine AWp.exit ?_ | refine AWp.ret ?_ | (refine ablock_e ?_ ?_; focus rfl)) | ((with_reducible refine AWp.regionB 12 ?_ ?_); focus (exact rfl))))
  | (refine AOps.guardu rfl rfl rfl ?_ ?_; focus (simp (disch := (first | omega | (simp only [nx]; first | done | omega))) only [Value.bool.injEq, Bool.and_true, Bool.true_and, Bool.and_false, Bool.false_and, beq_self_eq_true, bne, Bool.not_true, Bool.not_false, sx, nx, dx, ↓reduceIte, reduceCtorEq, Nat.reduceEqDiff, ne_eq, not_false_eq_true, *]; done))
  | ((first | ((with_reducible refine AOps.lit ?_ ?_ ?_ fun K hK => ?_); exact rfl; exact rfl; exact rfl) | ((with_reducible refine AOps.boxz ?_ ?_ fun K hK => ?_); exact rfl; exact rfl) | ((with_reducible refine AOps.cons2 ?_ ?_ fun K hK => ?_); exact rfl; exact rfl) | ((with_reducible refine AWp.cond ?_ fun X Y hX hY => ?_); exact rfl) | refine AOps.guard rfl rfl rfl fun X Y hX hY => ?_ | refine aret_r ?_ | refine aret_n ?_); simp (disch := (first | omega | (simp only [nx]; first | done | omega))) only [acond_bool, aresK, retv, xxq, zxq, tf, litK, copyK, clearK, makeSliceK, buildSliceK, buildK, lookupK, mapPutK, mapOf, convK, allocK, indexK, partK, xxa, xxb, xxc, bne, Int.reduceEq, Int.reduceBEq, Int.reduceNe, Int.reduceBNe, Int.reduceLE, Int.reduceGT, Int.reduceGE, Int.reduceNeg, ↓reduceIte, reduceCtorEq, Nat.reduceEqDiff, Nat.reduceAdd, Nat.reduceMul, Nat.reduceSub, Nat.reduceLT, Int.reduceAdd, Int.reduceSub, Int.reduceMul, Int.reduceLT, Int.reduceToNat, ne_eq, *]; (repeat first | ((with_reducible refine And.intro (fun hc => ?_) (fun hc => absurd hc (by omega))); clear hc) | ((with_reducible refine And.intro (fun hc => absurd hc (by omega)) (fun hc => ?_)); clear hc) | ((with_reducible refine And.intro ?_ ?_); focus ((first | omega | assumption | exact cok _ rfl | exact one_ints _ | exact one_map fun _ => rfl | ((repeat refine one_cons (by first | rfl | assumption) ?_); exact one_nil) | rfl | decide | (intro u hu; cases hu)); done)) | (with_reducible refine (fun hc => ?_ : _ → _); clear hc)); (first | refine hK.out _ _ ?_ | refine ACalls.hk hK ?_ | (refine appendK.hk hK ?_; try (refine appendK.ofZ ?_; simp (disch := (first | omega | (simp only [nx]; first | done | omega))) only [xxq, zxq, tf, litK, copyK, clearK, makeSliceK, buildSliceK, buildK, lookupK, mapPutK, mapOf, convK, allocK, indexK, partK, xxa, xxb, xxc, bne, Int.reduceEq, Int.reduceBEq, Int.reduceNe, Int.reduceBNe, Int.reduceLE, Int.reduceGT, Int.reduceGE, Int.reduceNeg, ↓reduceIte, reduceCtorEq, Nat.reduceEqDiff, Nat.reduceAdd, Nat.reduceMul, Nat.reduceSub, Nat.reduceLT, Int.reduceAdd, Int.reduceSub, Int.reduceMul, Int.reduceLT, Int.reduceToNat, ne_eq, *]; (repeat first | ((with_reducible refine And.intro (fun hc => ?_) (fun hc => absurd hc (by omega))); clear hc) | ((with_reducible refine And.intro (fun hc => absurd hc (by omega)) (fun hc => ?_)); clear hc) | ((with_reducible refine And.intro ?_ ?_); focus ((first | omega | assumption | exact cok _ rfl | exact one_ints _ | exact one_map fun _ => rfl | ((repeat refine one_cons (by first | rfl | assumption) ?_); exact one_nil) | rfl | decide | (intro u hu; cases hu)); done)) | (with_reducible refine (fun hc => ?_ : _ → _); clear hc)))) | refine (fun (q : _ ∧ _) => And.intro (hK.out _ _ q.1) (hK.out _ _ q.2)) ?_ | refine hX.out ?_ | refine hY.out ?_ | refine (fun (q : (_ → _) ∧ (_ → _)) => And.intro (fun hc => hX.out (q.1 hc)) (fun hc => hY.out (q.2 hc))) ?_ | refine (fun (q : (_ → _) ∧ (_ → _)) => And.intro (fun hc => hY.out (q.1 hc)) (fun hc => hX.out (q.2 hc))) ?_ | skip))
  exact hb.out) : a := h ⟨hb⟩
theorem rb28_X2 {a b : Prop} (hb : b) (h : Later b → a := by
  intro hb
  first
  | ((first | (with_reducible first | refine AOps.nil ?_ | refine athen_n ?_ | refine athen_r ?_ | refine athen_e ?_ | refine ablock_n ?_ | refine ablock_r ?_ | refine ablock_s ?_ | refine AWp.seq' ?_ | refine AWp.block ?_ | refine AWp.skip ?_ | refine AWp.exit ?_ | refine AWp.ret ?_ | (refine ablock_e ?_ ?_; focus rfl)) | ((with_reducible refine AWp.regionB 28 ?_ ?_); focus (exact rfl))); repeat (first | (with_reducible first | refine AOps.nil ?_ | refine athen_n ?_ | refine athen_r ?_ | refine athen_e ?_ | refine ablock_n ?_ | refine ablock_r ?_ | refine ablock_s ?_ | refine AWp.seq' ?_ | refine AWp.block ?_ | refine AWp.skip ?_ | refine AWp.exit ?_ | refine AWp.ret ?_ | (refine ablock_e ?_ ?_; focus rfl)) | ((with_reducible refine AWp.regionB 28 ?_ ?_); focus (exact rfl))))
  | (refine AOps.guardu rfl rfl rfl ?_ ?_; focus (simp (disch := (first | omega | (simp only [nx]; first | done | omega))) only [Value.bool.injEq, Bool.and_true, Bool.true_and, Bool.and_false, Bool.false_and, beq_self_eq_true, bne, Bool.not_true, Bool.not_false, sx, nx, dx, ↓reduceIte, reduceCtorEq, Nat.reduceEqDiff, ne_eq, not_false_eq_true, *]; done))
  | ((first | ((with_reducible refine AOps.lit ?_ ?_ ?_ fun K hK => ?_); exact rfl; exact rfl; exact rfl) | ((with_reducible refine AOps.boxz ?_ ?_ fun K hK => ?_); exact rfl; exact rfl) | ((with_reducible refine AOps.cons2 ?_ ?_ fun K hK => ?_); exact rfl; exact rfl) | ((with_reducible refine AWp.cond ?_ fun X Y hX hY => ?_); exact rfl) | refine AOps.guard rfl rfl rfl fun X Y hX hY => ?_ | refine aret_r ?_ | refine aret_n ?_); simp (disch := (first | omega | (simp only [nx]; first | done | omega))) only [acond_bool, aresK, retv, xxq, zxq, tf, litK, copyK, clearK, makeSliceK, buildSliceK, buildK, lookupK, mapPutK, mapOf, convK, allocK, indexK, partK, xxa, xxb, xxc, bne, Int.reduceEq, Int.reduceBEq, Int.reduceNe, Int.reduceBNe, Int.reduceLE, Int.reduceGT, Int.reduceGE, Int.reduceNeg, ↓reduceIte, reduceCtorEq, Nat.reduceEqDiff, Nat.reduceAdd, Nat.reduceMul, Nat.reduceSub, Nat.reduceLT, Int.reduceAdd, Int.reduceSub, Int.reduceMul, Int.reduceLT, Int.reduceToNat, ne_eq, *]; (repeat first | ((with_reducible refine And.intro (fun hc => ?_) (fun hc => absurd hc (by omega))); clear hc) | ((with_reducible refine And.intro (fun hc => absurd hc (by omega)) (fun hc => ?_)); clear hc) | ((with_reducible refine And.intro ?_ ?_); focus ((first | omega | assumption | exact cok _ rfl | exact one_ints _ | exact one_map fun _ => rfl | ((repeat refine one_cons (by first | rfl | assumption) ?_); exact one_nil) | rfl | decide | (intro u hu; cases hu)); done)) | (with_reducible refine (fun hc => ?_ : _ → _); clear hc)); (first | refine hK.out _ _ ?_ | refine ACalls.hk hK ?_ | (refine appendK.hk hK ?_; try (refine appendK.ofZ ?_; simp (disch := (first | omega | (simp only [nx]; first | done | omega))) only [xxq, zxq, tf, litK, copyK, clearK, makeSliceK, buildSliceK, buildK, lookupK, mapPutK, mapOf, convK, allocK, indexK, partK, xxa, xxb, xxc, bne, Int.reduceEq, Int.reduceBEq, Int.reduceNe, Int.reduceBNe, Int.reduceLE, Int.reduceGT, Int.reduceGE, Int.reduceNeg, ↓reduceIte, reduceCtorEq, Nat.reduceEqDiff, Nat.reduceAdd, Nat.reduceMul, Nat.reduceSub, Nat.reduceLT, Int.reduceAdd, Int.reduceSub, Int.reduceMul, Int.reduceLT, Int.reduceToNat, ne_eq, *]; (repeat first | ((with_reducible refine And.intro (fun hc => ?_) (fun hc => absurd hc (by omega))); clear hc) | ((with_reducible refine And.intro (fun hc => absurd hc (by omega)) (fun hc => ?_)); clear hc) | ((with_reducible refine And.intro ?_ ?_); focus ((first | omega | assumption | exact cok _ rfl | exact one_ints _ | exact one_map fun _ => rfl | ((repeat refine one_cons (by first | rfl | assumption) ?_); exact one_nil) | rfl | decide | (intro u hu; cases hu)); done)) | (with_reducible refine (fun hc => ?_ : _ → _); clear hc)))) | refine (fun (q : _ ∧ _) => And.intro (hK.out _ _ q.1) (hK.out _ _ q.2)) ?_ | refine hX.out ?_ | refine hY.out ?_ | refine (fun (q : (_ → _) ∧ (_ → _)) => And.intro (fun hc => hX.out (q.1 hc)) (fun hc => hY.out (q.2 hc))) ?_ | refine (fun (q : (_ → _) ∧ (_ → _)) => And.intro (fun hc => hY.out (q.1 hc)) (fun hc => hX.out (q.2 hc))) ?_ | skip))
  exact hb.out) : a := h ⟨hb⟩
/-- The column of the i-th edge. -/
def colI (i : Nat) : Nat := 3 * (i / 6) + min (i % 6) (5 - i % 6)
/-- The row of an edge class, after i edges. -/
def rowI (E : List Int) (c : Int) (n : Nat) : Nat → List Int
  | 0 => List.replicate (3 * n + 1) 0
  | i + 1 => if E.getD i 0 = c then (rowI E c n i).set (colI i) ((rowI E c n i).getD (colI i) 0 + 1) else rowI E c n i
/-- The row of a tetrahedron, after k angles. -/
def rowA (n a : Nat) : Nat → List Int
  | 0 => List.replicate (3 * n + 1) 0
  | k + 1 => (rowA n a k).set (3 * a + k) 1
def rA (n a : Nat) : List Int := (rowA n a 3).set (3 * n) 1
def rE (E : List Int) (n : Nat) (c : Int) : List Int := (rowI E c n (6 * n)).set (3 * n) 2
def spR (T : List (List (Int × Int))) : List (List Int) := (List.range T.length).map (rA T.length) ++ (inL (sE T) (nE T)).map (rE (edgeL T) T.length)
theorem rowI_len (E : List Int) (c : Int) (n i : Nat) : (rowI E c n i).length = 3 * n + 1 := by
  induction i with
  | zero => simp [rowI]
  | succ i ih => unfold rowI; split <;> simp [ih]
theorem getD_set (l : List Int) (a b : Nat) (x : Int) (h : a < l.length) : (l.set a x).getD b 0 = if a = b then x else l.getD b 0 := by
  rw [List.getD_eq_getElem?_getD, List.getElem?_set]
  split
  · rfl
  · rw [← List.getD_eq_getElem?_getD]
theorem rowI_bd (E : List Int) (c : Int) (n i : Nat) : ∀ j, 0 ≤ (rowI E c n i).getD j 0 ∧ (rowI E c n i).getD j 0 ≤ i := by
  induction i with
  | zero => intro j; rw [rowI, List.getD_eq_getElem?_getD, List.getElem?_replicate]; split <;> simp
  | succ i ih =>
    intro j
    unfold rowI
    split
    · by_cases h : colI i < (rowI E c n i).length
      · rw [getD_set _ _ _ _ h]
        split
        · have := ih (colI i); push_cast; omega
        · have := ih j; push_cast; omega
      · rw [List.set_eq_of_length_le (by omega)]; have := ih j; push_cast; omega
    · have := ih j; push_cast; omega
theorem rowA_len (n a k : Nat) : (rowA n a k).length = 3 * n + 1 := by
  induction k with
  | zero => simp [rowA]
  | succ k ih => unfold rowA; simp [ih]
theorem l22Column_z (a e : Nat) (ha : a ≤ 1000) (he : e < 6) : ZCalls Try.prog 127 [I a, I e] (I (3 * a + min e (5 - e) : Nat)) := by
  obtain ⟨y, hy⟩ : ∃ y, (if 5 - (e : Int) < (e : Int) then 5 - (e : Int) else (e : Int)) = y := ⟨_, rfl⟩
  have hm : 3 * (a : Int) + y = ((3 * a + min e (5 - e) : Nat) : Int) := by rw [← hy]; simp only [Nat.min_def]; split <;> split <;> omega
  have hb : 0 ≤ y ∧ y ≤ 5 := by rw [← hy]; split <;> omega
  rw [← hm]
  clear hm
  refine ZCalls.body Try.func127 rfl Try.ntmps127 (rs := [.tmp 4]) rfl (by simp) rfl fun H Q hQ A hA => ?_
  have a0 := hA 0 _ _ rfl
  have a1 := hA 1 _ _ rfl
  clear hA
  repeat' first | refine rnY ?_ | with_reducible refine And.intro (fun hc => ?_) (fun hc => ?_) | fail
  exact hQ.out _ _ (fv) (by exact exY)
set_option maxHeartbeats 4000000 in
theorem l22Rows_z {T : List (List (Int × Int))} (hT : IsTri T) : ZCalls Try.prog 73 [zT T] (FZ 1 (spR T).length (rowsZ (3 * T.length + 1) (spR T))) := by
  have hc := specCount_z hT.fine
  have hin := l22Inner_z hT
  have hle := edgeL_len T
  have h8 := hT.1
  have hN := classN_bd (edgeL_bd T h8)
  have hN2 : nE T ≤ 100001 := by unfold nE; omega
  have hll := inL_len (sE T) (nE T)
  have hat : ∀ a, a < T.length → ∃ r : List Int, (rowsZ 6 (chunkR 6 T.length (edgeL T)))[a]? = some (FZ 1 6 (ints r)) ∧ r.length = 6 ∧ ∀ f, f < 6 → r.getD f 0 = (edgeL T).getD (a * 6 + f) 0 := fun a ha => rows_at (w := 6) (by omega) ha
  have hlr := rowsZ_len 6 (chunkR 6 T.length (edgeL T))
  rw [chunkR_len] at hlr
  unfold cntV at hc
  unfold spR
  generalize rowsZ 6 (chunkR 6 T.length (edgeL T)) = ZE at *
  generalize rowsZ 4 (chunkR 4 T.length (vertL T)) = ZV at *
  generalize rowsZ 4 (chunkR 4 T.length (faceL T)) = ZF at *
  generalize countsL T = cl at *
  generalize inL (sE T) (nE T) = L at *
  generalize edgeL T = E at *
  generalize nE T = N at *
  clear hN
  obtain ⟨C, hC⟩ : ∃ C, 3 * T.length + 1 = C := ⟨_, rfl⟩
  have hC2 : 3 * (T.length : Int) + 1 = (C : Int) := by omega
  rw [hC]
  refine ZCalls.body Try.func73 rfl Try.ntmps73 (rs := [.tmp 2]) rfl (by simp) rfl fun H Q hQ A hA => ?_
  have a0 := hA 0 _ _ rfl
  clear hA
  repeat' first | refine rnY ?_ | (first | refine ZCalls.to (l07Tets_z _ _ _) ?_ | refine ZCalls.tf (l07Tets_z _ _ _) ?_) | with_reducible refine And.intro (fun hc => ?_) (fun hc => ?_) | fail
  refine AWp.growE (t := 4) 1 (by decide) (by exact ivY) ?_
  refine AWp.cut (fun Ac hAc => ?_)
  have c1 := gtY (t := 1) hAc
  have c3 := gtY (t := 3) hAc
  have c4 := gtY (t := 4) hAc
  have c5 := gtY (t := 5) hAc
  clear a0
  refine AWp.loop (fun A' H' => ∃ (a : Nat), Ag [6, 7, 18, 19, 20, 21, 22, 23, 24, 25, 26, 27, 28, 29, 30, 31, 32, 33, 34, 35, 36, 37, 38, 39, 40, 41, 42, 43, 44] A' (put (put Ac (some 4) (GZ (H.size + 1) 1 a (rowsZ C ((List.range a).map (rA T.length))))) (some 5) (I a)) ∧ a ≤ T.length ∧ Ext H H' ∧ H'.get (H.size + 1) = .tok a 1 ∧ H.size + 1 < H'.size) (fun A' _ => T.length - (intV (A' 5)).toNat) ?_ ?_
  · have e0 : rowsZ C ((List.range 0).map (rA T.length)) = [] := rfl
    exact ⟨0, agY, by omega, by exact exY, by exact ivY, by exact ivY⟩
  · rintro A1 H1 ⟨a, hA, ha, hx, hg, hs⟩
    have d1 := gdY (t := 1) hA
    have d3 := gdY (t := 3) hA
    have d4 := gdY (t := 4) hA
    have d5 := gdY (t := 5) hA
    by_cases hlt : a < T.length
    · clear hc hin hat
      have hrs : rowsZ C ((List.range (a + 1)).map (rA T.length)) = rowsZ C ((List.range a).map (rA T.length)) ++ [FZ 1 C (ints (rA T.length a))] := by rw [List.range_succ, List.map_append]; exact List.map_append
      have hrl : (rowsZ C ((List.range a).map (rA T.length))).length = a := by simp
      generalize rowsZ C ((List.range a).map (rA T.length)) = R at *
      have h00 : rowA T.length a 0 = List.replicate C 0 := by rw [← hC]; rfl
      have zf0 := @rep_ints
      have zf1 := @zero1
      repeat' first | refine rnY ?_ | with_reducible refine And.intro (fun hc => ?_) (fun hc => ?_) | fail
      refine AWp.cut (fun Ae hAe => ?_)
      have e1 := gtY (t := 1) hAe
      have e3 := gtY (t := 3) hAe
      have e4 := gtY (t := 4) hAe
      have e5 := gtY (t := 5) hAe
      have e6 := gtY (t := 6) hAe
      have e7 := gtY (t := 7) hAe
      refine AWp.loop (fun A' H' => ∃ (k : Nat), Ag [27, 28, 29, 30, 31, 32, 33, 34, 35, 36] A' (put Ae (some 7) (I k)) ∧ k ≤ 3 ∧ H' = H1.push (.cells (ints (rowA T.length a k)) 1 false)) (fun A' _ => 3 - (intV (A' 7)).toNat) ?_ ?_
      · exact ⟨0, agY, by omega, by rw [h00]⟩
      · rintro A2 H2 ⟨k, hB, hk, rfl⟩
        have f1 := gdY (t := 1) hB
        have f3 := gdY (t := 3) hB
        have f4 := gdY (t := 4) hB
        have f5 := gdY (t := 5) hB
        have f6 := gdY (t := 6) hB
        have f7 := gdY (t := 7) hB
        have hrl2 := rowA_len T.length a k
        by_cases hk3 : k < 3
        · have hst : rowA T.length a (k + 1) = (rowA T.length a k).set (3 * a + k) 1 := rfl
          generalize rowA T.length a k = row at *
          have htn : (3 * (a : Int) + (k : Int)).toNat = 3 * a + k := by omega
          repeat' first | refine rnY ?_ | with_reducible refine And.intro (fun hc => ?_) (fun hc => ?_) | fail
          exact ⟨⟨k + 1, agY, by omega, by rw [hst]⟩, by exact ivY⟩
        · obtain rfl : k = 3 := by omega
          have hst : rA T.length a = (rowA T.length a 3).set (3 * T.length) 1 := rfl
          have hrl3 : (rA T.length a).length = C := by rw [hst, List.length_set]; omega
          generalize rowA T.length a 3 = row at *
          generalize rA T.length a = row2 at *
          repeat' first | refine rb12_X2 ?_ | with_reducible refine And.intro (fun hc => ?_) (fun hc => ?_) | fail
          refine AWp.freezeI (t := 6) (g := H1.size) row2 C (by exact ivY) (get_push_eq rfl) hst.symm rfl hrl3 ?_
          clear hst
          repeat' first | refine rnY ?_ | with_reducible refine And.intro (fun hc => ?_) (fun hc => ?_) | fail
          exact ⟨⟨a + 1, agY, by omega, by exact exY, by exact ivY, by exact ivY⟩, by exact ivY⟩
    · obtain rfl : a = T.length := by omega
      repeat' first | refine rnY ?_ | (first | refine ZCalls.to (hc) ?_ | refine ZCalls.tf (hc) ?_) | (first | refine ZCalls.to (hin) ?_ | refine ZCalls.tf (hin) ?_) | with_reducible refine And.intro (fun hc => ?_) (fun hc => ?_) | fail
      refine AWp.cut (fun As hAs => ?_)
      have s3 := gtY (t := 3) hAs
      have s8 := gtY (t := 8) hAs
      have s10 := gtY (t := 10) hAs
      have s4 := gtY (t := 4) hAs
      have s11 := gtY (t := 11) hAs
      clear hc hin
      have hRA : (rowsZ C ((List.range T.length).map (rA T.length))).length = T.length := by simp
      have hsum : rowsZ C ((List.range T.length).map (rA T.length) ++ L.map (rE E T.length)) = rowsZ C ((List.range T.length).map (rA T.length)) ++ rowsZ C (L.map (rE E T.length)) := List.map_append
      have hsl : ((List.range T.length).map (rA T.length) ++ L.map (rE E T.length)).length = T.length + L.length := by simp
      rw [hsum, hsl] at hQ
      clear hsum hsl
      have hRc : ∀ x ∈ rowsZ C ((List.range T.length).map (rA T.length)), Cl x := Cl.map fun r => Cl.fz (Cl.ints r)
      generalize rowsZ C ((List.range T.length).map (rA T.length)) = R at *
      obtain ⟨Hb, hHb⟩ : ∃ Hb : Heap, H1.push (.cells [FZ 1 T.length ZV, FZ 1 T.length ZE, FZ 1 T.length ZF] 1 false) = Hb := ⟨_, rfl⟩
      have hb1 : Hb.get H1.size = .cells [FZ 1 T.length ZV, FZ 1 T.length ZE, FZ 1 T.length ZF] 1 false := by rw [← hHb]; exact get_push_eq rfl
      have hb2 : Hb.size = H1.size + 1 := by rw [← hHb]; rfl
      have hb3 : Hb.get (H.size + 1) = .tok T.length 1 := by rw [← hHb, get_push_lt (by omega)]; exact hg
      have hb4 : Ext H Hb := by rw [← hHb]; exact hx.push _
      try rw [hHb]
      clear hHb hx hg
      obtain ⟨RR, hRR⟩ : ∃ RR : Nat → List Value, ∀ q, RR q = R ++ rowsZ C ((L.take q).map (rE E T.length)) := ⟨_, fun _ => rfl⟩
      have hRR0 : RR 0 = R := (hRR 0).trans (List.append_nil R)
      have hRRs : ∀ q, q < L.length → RR (q + 1) = RR q ++ [FZ 1 C (ints (rE E T.length (L.getD q 0)))] := fun q hq => by rw [hRR, hRR, List.take_succ_eq_append_getElem hq, List.map_append]; simp [hq]
      have hRRl : ∀ q, q ≤ L.length → (RR q).length = T.length + q := fun q hq => by rw [hRR, List.length_append, hRA]; simp; omega
      have hRRe : RR L.length = R ++ rowsZ C (L.map (rE E T.length)) := by rw [hRR, List.take_length]
      have hcl : ∀ x ∈ RR L.length, Cl x := fun x hx => by
        rw [hRRe] at hx
        rcases List.mem_append.1 hx with hx | hx
        · exact hRc x hx
        · obtain ⟨y, _, rfl⟩ := List.mem_map.1 hx; exact Cl.fz (Cl.ints y)
      rw [← hRRe] at hQ
      clear hRR hRRe hRc hRA
      refine AWp.loop (fun A' H' => ∃ (q : Nat), Ag [12, 13, 14, 52, 53, 54, 55, 56, 57, 58, 59, 60, 61, 62, 63, 64, 65, 66, 67, 68, 69, 70, 71, 72, 73, 74, 75, 76, 77, 78, 79, 80, 81, 82, 83, 84, 85, 86, 87, 88, 89, 90, 91, 92, 93, 94, 95, 96, 97, 98, 99] A' (put (put As (some 4) (GZ (H.size + 1) 1 (T.length + q) (RR q))) (some 11) (I q)) ∧ q ≤ L.length ∧ Ext H H' ∧ H'.get (H.size + 1) = .tok (T.length + q) 1 ∧ H1.size < H'.size ∧ H'.get H1.size = .cells [FZ 1 T.length ZV, FZ 1 T.length ZE, FZ 1 T.length ZF] 1 false) (fun A' _ => L.length - (intV (A' 11)).toNat) ?_ ?_
      · clear hRRs hRRl
        exact ⟨0, agY, by omega, hb4, by exact ivY, by omega, hb1⟩
      · clear hb1 hb2 hb3 hb4
        rintro A2 H2 ⟨q, hB, hq, hx, hg, hs2, hg1⟩
        have f3 := gdY (t := 3) hB
        have f4 := gdY (t := 4) hB
        have f8 := gdY (t := 8) hB
        have f10 := gdY (t := 10) hB
        have f11 := gdY (t := 11) hB
        by_cases hql : q < L.length
        · have hrs := hRRs q hql
          have hadd : T.length + (q + 1) = T.length + q + 1 := rfl
          have hrl := hRRl q (by omega)
          clear hRRs hRRl hcl
          obtain ⟨x, hxq⟩ : ∃ x, L.getD q 0 = x := ⟨_, rfl⟩
          rw [hxq] at hrs
          have h00 : rowI E x T.length 0 = List.replicate C 0 := by rw [← hC]; rfl
          have zf0 := @rep_ints
          have zf1 := @zero1
          repeat' first | refine rnY ?_ | with_reducible refine And.intro (fun hc => ?_) (fun hc => ?_) | fail
          refine AWp.cut (fun Au hAu => ?_)
          have u3 := gtY (t := 3) hAu
          have u4 := gtY (t := 4) hAu
          have u8 := gtY (t := 8) hAu
          have u10 := gtY (t := 10) hAu
          have u11 := gtY (t := 11) hAu
          have u12 := gtY (t := 12) hAu
          have u13 := gtY (t := 13) hAu
          refine AWp.loop (fun A' H' => ∃ (a : Nat), Ag [14, 62, 63, 64, 65, 66, 67, 68, 69, 70, 71, 72, 73, 74, 75, 76, 77, 78, 79, 80, 81, 82, 83, 84, 85, 86, 87, 88, 89, 90, 91] A' (put Au (some 13) (I a)) ∧ a ≤ T.length ∧ H' = H2.push (.cells (ints (rowI E x T.length (6 * a))) 1 false)) (fun A' _ => T.length - (intV (A' 13)).toNat) ?_ ?_
          · exact ⟨0, agY, by omega, by rw [Nat.mul_zero, h00]⟩
          · rintro A3 H3 ⟨a, hD, ha, rfl⟩
            have p3 := gdY (t := 3) hD
            have p4 := gdY (t := 4) hD
            have p8 := gdY (t := 8) hD
            have p10 := gdY (t := 10) hD
            have p11 := gdY (t := 11) hD
            have p12 := gdY (t := 12) hD
            have p13 := gdY (t := 13) hD
            by_cases hal : a < T.length
            · obtain ⟨r, hr1, hr2, hr3⟩ := hat a hal
              clear hat
              repeat' first | refine rnY ?_ | with_reducible refine And.intro (fun hc => ?_) (fun hc => ?_) | fail
              refine AWp.cut (fun Av hAv => ?_)
              have v3 := gtY (t := 3) hAv
              have v4 := gtY (t := 4) hAv
              have v8 := gtY (t := 8) hAv
              have v10 := gtY (t := 10) hAv
              have v11 := gtY (t := 11) hAv
              have v12 := gtY (t := 12) hAv
              have v13 := gtY (t := 13) hAv
              have v14 := gtY (t := 14) hAv
              refine AWp.loop (fun A' H' => ∃ (e : Nat), Ag [67, 68, 69, 70, 71, 72, 73, 74, 75, 76, 77, 78, 79, 80, 81, 82, 83, 84, 85, 86, 87, 88, 89, 90, 91] A' (put Av (some 14) (I e)) ∧ e ≤ 6 ∧ H' = H2.push (.cells (ints (rowI E x T.length (6 * a + e))) 1 false)) (fun A' _ => 6 - (intV (A' 14)).toNat) ?_ ?_
              · exact ⟨0, agY, by omega, rfl⟩
              · rintro A4 H4 ⟨e, hF, he, rfl⟩
                have w3 := gdY (t := 3) hF
                have w4 := gdY (t := 4) hF
                have w8 := gdY (t := 8) hF
                have w10 := gdY (t := 10) hF
                have w11 := gdY (t := 11) hF
                have w12 := gdY (t := 12) hF
                have w13 := gdY (t := 13) hF
                have w14 := gdY (t := 14) hF
                by_cases hel : e < 6
                · have hre := hr3 e hel
                  rw [show a * 6 + e = 6 * a + e by omega] at hre
                  have hst : rowI E x T.length (6 * a + (e + 1)) = if E.getD (6 * a + e) 0 = x then (rowI E x T.length (6 * a + e)).set (colI (6 * a + e)) ((rowI E x T.length (6 * a + e)).getD (colI (6 * a + e)) 0 + 1) else rowI E x T.length (6 * a + e) := rfl
                  have hrl2 := rowI_len E x T.length (6 * a + e)
                  have hrb := rowI_bd E x T.length (6 * a + e)
                  have hcol : colI (6 * a + e) = 3 * a + min e (5 - e) := by unfold colI; rw [show (6 * a + e) / 6 = a by omega, show (6 * a + e) % 6 = e by omega]
                  rw [hcol] at hst
                  obtain ⟨j, hj⟩ : ∃ j, 3 * a + min e (5 - e) = j := ⟨_, rfl⟩
                  have hcz := l22Column_z a e (by omega) hel
                  rw [hj] at hst hcz
                  have hjb : j < C := by omega
                  have hrbj := hrb j
                  clear hrb hcol hr3 h00
                  generalize rowI E x T.length (6 * a + e) = row at *
                  generalize E.getD (6 * a + e) 0 = y at *
                  by_cases hy : y = x
                  · have hyb : (y == x) = true := by rw [beq_iff_eq]; exact hy
                    rw [if_pos hy] at hst
                    clear hy
                    repeat' first | refine rnY ?_ | with_reducible refine And.intro (fun hc => ?_) (fun hc => ?_) | fail
                    refine AWp.zreg [(0, none), (1, none), (2, none), (3, none), (4, none), (5, none), (6, none), (7, none), (8, none), (9, none), (10, none), (11, none), (12, none)] mixed (by kernel_rfl) ?_
                    repeat' first | refine rzY ?_ | fail
                    repeat' first | refine rnY ?_ | (first | refine ZCalls.to (hcz) ?_ | refine ZCalls.tf (hcz) ?_) | with_reducible refine And.intro (fun hc => ?_) (fun hc => ?_) | fail
                    exact ⟨⟨e + 1, agY, by omega, by rw [hst]⟩, by exact ivY⟩
                  · have hyb : (y == x) = false := by rw [beq_eq_false_iff_ne]; exact hy
                    rw [if_neg hy] at hst
                    clear hy
                    repeat' first | refine rnY ?_ | with_reducible refine And.intro (fun hc => ?_) (fun hc => ?_) | fail
                    refine AWp.zreg [(0, none), (1, none), (2, none), (3, none), (4, none), (5, none), (6, none), (7, none), (8, none), (9, none), (10, none), (11, none), (12, none)] mixed (by kernel_rfl) ?_
                    repeat' first | refine rzY ?_ | fail
                    repeat' first | refine rnY ?_ | (first | refine ZCalls.to (hcz) ?_ | refine ZCalls.tf (hcz) ?_) | with_reducible refine And.intro (fun hc => ?_) (fun hc => ?_) | fail
                    exact ⟨⟨e + 1, agY, by omega, by rw [hst]⟩, by exact ivY⟩
                · obtain rfl : e = 6 := by omega
                  repeat' first | refine rnY ?_ | with_reducible refine And.intro (fun hc => ?_) (fun hc => ?_) | fail
                  exact ⟨⟨a + 1, agY, by omega, by rw [show 6 * (a + 1) = 6 * a + 6 by omega]⟩, by exact ivY⟩
            · obtain rfl : a = T.length := by omega
              have hst : rE E T.length x = (rowI E x T.length (6 * T.length)).set (3 * T.length) 2 := rfl
              have hrl2 := rowI_len E x T.length (6 * T.length)
              have hrl3 : (rE E T.length x).length = C := by rw [hst, List.length_set]; omega
              generalize rowI E x T.length (6 * T.length) = row at *
              generalize rE E T.length x = row2 at *
              clear hat
              repeat' first | refine rb28_X2 ?_ | with_reducible refine And.intro (fun hc => ?_) (fun hc => ?_) | fail
              refine AWp.freezeI (t := 12) (g := H2.size) row2 C (by exact ivY) (get_push_eq rfl) hst.symm rfl hrl3 ?_
              clear hst
              repeat' first | refine rnY ?_ | with_reducible refine And.intro (fun hc => ?_) (fun hc => ?_) | fail
              exact ⟨⟨q + 1, agY, by omega, by exact exY, by exact ivY, by exact ivY, by exact ivY⟩, by exact ivY⟩
        · obtain rfl : q = L.length := by omega
          clear hRRs hRRl
          repeat' first | refine rnY ?_ | with_reducible refine And.intro (fun hc => ?_) (fun hc => ?_) | fail
          exact hQ.out _ _ (.gz hcl) (by exact exY)
end Go.Proofs.Ytmoknllbpjpkmaa.Zed
