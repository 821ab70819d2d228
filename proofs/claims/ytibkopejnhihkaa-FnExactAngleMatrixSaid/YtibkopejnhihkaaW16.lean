/- A part of the walk: what functions of the program do, over an abstract heap. -/
import Derived.Test.YtibkopejnhihkaaW15
namespace Go.Proofs.Ytibkopejnhihkaa.Zed
open Go TP
set_option linter.unusedVariables false
set_option linter.unusedSimpArgs false
set_option maxRecDepth 20000
theorem tfW16 : (Try.prog.underlying 36 = some (.slice 2)) ∧ (el Try.prog 36 = some (none, 1)) ∧ (Try.prog.underlying 44 = some (.slice 36)) ∧ (el Try.prog 44 = some (none, 1)) ∧ (tk Try.prog 2 = some none) ∧ (tk Try.prog 36 = some none) ∧ (cz Try.prog 2 = some 1) ∧ (bz Try.prog 2 = some 8) ∧ (cz Try.prog 36 = some 1) ∧ (bz Try.prog 36 = some 24) ∧ (zr Try.prog 2 = some (.int .i64 0)) ∧ (zr Try.prog 36 = some (.slice none 0 0)) := by
  refine ⟨?_, ?_, ?_, ?_, ?_, ?_, ?_, ?_, ?_, ?_, ?_, ?_⟩ <;> kernel_rfl
theorem rnW16 {a b : Prop} (hb : b) (h : Later b → a := by
  intro hb
  first
  | ((with_reducible first | refine AOps.nil ?_ | refine athen_n ?_ | refine athen_r ?_ | refine athen_e ?_ | refine ablock_n ?_ | refine ablock_r ?_ | refine ablock_s ?_ | refine AWp.seq' ?_ | refine AWp.block ?_ | refine AWp.skip ?_ | refine AWp.exit ?_ | refine AWp.ret ?_ | refine AWp.region ?_ | (refine ablock_e ?_ ?_; focus rfl)); repeat (with_reducible first | refine AOps.nil ?_ | refine athen_n ?_ | refine athen_r ?_ | refine athen_e ?_ | refine ablock_n ?_ | refine ablock_r ?_ | refine ablock_s ?_ | refine AWp.seq' ?_ | refine AWp.block ?_ | refine AWp.skip ?_ | refine AWp.exit ?_ | refine AWp.ret ?_ | refine AWp.region ?_ | (refine ablock_e ?_ ?_; focus rfl)))
  | (refine AOps.guardu rfl rfl rfl ?_ ?_; focus (simp (disch := (first | omega | (simp only [nx]; first | done | omega))) only [Value.bool.injEq, Bool.and_true, Bool.true_and, Bool.and_false, Bool.false_and, beq_self_eq_true, bne, Bool.not_true, Bool.not_false, sx, nx, dx, ↓reduceIte, reduceCtorEq, Nat.reduceEqDiff, ne_eq, not_false_eq_true, *]; done))
  | ((first | ((with_reducible refine AOps.lit ?_ ?_ ?_ fun K hK => ?_); exact rfl; exact rfl; exact rfl) | ((with_reducible refine AOps.boxz ?_ ?_ fun K hK => ?_); exact rfl; exact rfl) | ((with_reducible refine AOps.cons2 ?_ ?_ fun K hK => ?_); exact rfl; exact rfl) | ((with_reducible refine AWp.cond ?_ fun X Y hX hY => ?_); exact rfl) | refine AOps.guard rfl rfl rfl fun X Y hX hY => ?_ | refine aret_r ?_ | refine aret_n ?_); simp (disch := (first | omega | (simp only [nx]; first | done | omega))) only [acond_bool, aresK, retv, xxq, zxq, tfW16, litK, copyK, clearK, makeSliceK, buildSliceK, buildK, lookupK, mapPutK, mapOf, convK, allocK, indexK, partK, xxa, xxb, xxc, bne, Int.reduceEq, Int.reduceBEq, Int.reduceNe, Int.reduceBNe, Int.reduceLE, Int.reduceGT, Int.reduceGE, Int.reduceNeg, ↓reduceIte, reduceCtorEq, Nat.reduceEqDiff, Nat.reduceAdd, Nat.reduceMul, Nat.reduceSub, Nat.reduceLT, Int.reduceAdd, Int.reduceSub, Int.reduceMul, Int.reduceLT, Int.reduceToNat, ne_eq, *]; (repeat first | ((with_reducible refine And.intro (fun hc => ?_) (fun hc => absurd hc (by omega))); clear hc) | ((with_reducible refine And.intro (fun hc => absurd hc (by omega)) (fun hc => ?_)); clear hc) | ((with_reducible refine And.intro ?_ ?_); focus ((first | omega | assumption | exact cok _ rfl | exact one_ints _ | exact one_map fun _ => rfl | ((repeat refine one_cons (by first | rfl | assumption) ?_); exact one_nil) | rfl | decide | (intro u hu; cases hu)); done)) | (with_reducible refine (fun hc => ?_ : _ → _); clear hc)); (first | refine hK.out _ _ ?_ | refine ACalls.hk hK ?_ | (refine appendK.hk hK ?_; try (refine appendK.ofZ ?_; simp (disch := (first | omega | (simp only [nx]; first | done | omega))) only [xxq, zxq, tfW16, litK, copyK, clearK, makeSliceK, buildSliceK, buildK, lookupK, mapPutK, mapOf, convK, allocK, indexK, partK, xxa, xxb, xxc, bne, Int.reduceEq, Int.reduceBEq, Int.reduceNe, Int.reduceBNe, Int.reduceLE, Int.reduceGT, Int.reduceGE, Int.reduceNeg, ↓reduceIte, reduceCtorEq, Nat.reduceEqDiff, Nat.reduceAdd, Nat.reduceMul, Nat.reduceSub, Nat.reduceLT, Int.reduceAdd, Int.reduceSub, Int.reduceMul, Int.reduceLT, Int.reduceToNat, ne_eq, *]; (repeat first | ((with_reducible refine And.intro (fun hc => ?_) (fun hc => absurd hc (by omega))); clear hc) | ((with_reducible refine And.intro (fun hc => absurd hc (by omega)) (fun hc => ?_)); clear hc) | ((with_reducible refine And.intro ?_ ?_); focus ((first | omega | assumption | exact cok _ rfl | exact one_ints _ | exact one_map fun _ => rfl | ((repeat refine one_cons (by first | rfl | assumption) ?_); exact one_nil) | rfl | decide | (intro u hu; cases hu)); done)) | (with_reducible refine (fun hc => ?_ : _ → _); clear hc)))) | refine (fun (q : _ ∧ _) => And.intro (hK.out _ _ q.1) (hK.out _ _ q.2)) ?_ | refine hX.out ?_ | refine hY.out ?_ | refine (fun (q : (_ → _) ∧ (_ → _)) => And.intro (fun hc => hX.out (q.1 hc)) (fun hc => hY.out (q.2 hc))) ?_ | refine (fun (q : (_ → _) ∧ (_ → _)) => And.intro (fun hc => hY.out (q.1 hc)) (fun hc => hX.out (q.2 hc))) ?_ | skip))
  exact hb.out) : a := h ⟨hb⟩
theorem exW16 {p : Prop} (h : p := by ((show Ext _ _); (repeat' first | assumption | exact Ext.refl _ | refine Ext.push ?_ _ | refine Ext.set ?_ _ (by first | omega | (simp only [nx, *]; omega)) | (refine Ext.ofeq (by assumption) ?_; focus (simp (disch := (first | omega | (simp only [nx]; first | done | omega))) only [xxq, zxq, xxa, xxb, xxc, bne, Int.reduceEq, Int.reduceBEq, Int.reduceNe, Int.reduceBNe, Int.reduceLE, Int.reduceGT, Int.reduceGE, Int.reduceNeg, ↓reduceIte, reduceCtorEq, Nat.reduceEqDiff, Nat.reduceAdd, Nat.reduceMul, Nat.reduceSub, Nat.reduceLT, Int.reduceAdd, Int.reduceSub, Int.reduceMul, Int.reduceLT, Int.reduceToNat, ne_eq, *]; first | done | rfl | omega)) | (refine Ext.setc (by repeat first | assumption | apply Ext.setB | apply Ext.push) ?_; focus (simp (disch := (first | omega | (simp only [nx]; first | done | omega))) only [xxq, zxq, xxa, xxb, xxc, bne, Int.reduceEq, Int.reduceBEq, Int.reduceNe, Int.reduceBNe, Int.reduceLE, Int.reduceGT, Int.reduceGE, Int.reduceNeg, ↓reduceIte, reduceCtorEq, Nat.reduceEqDiff, Nat.reduceAdd, Nat.reduceMul, Nat.reduceSub, Nat.reduceLT, Int.reduceAdd, Int.reduceSub, Int.reduceMul, Int.reduceLT, Int.reduceToNat, ne_eq, *]; first | done | rfl | omega)) | (refine Ext.setc (Ext.refl _) ?_; focus (simp (disch := (first | omega | (simp only [nx]; first | done | omega))) only [xxq, zxq, xxa, xxb, xxc, bne, Int.reduceEq, Int.reduceBEq, Int.reduceNe, Int.reduceBNe, Int.reduceLE, Int.reduceGT, Int.reduceGE, Int.reduceNeg, ↓reduceIte, reduceCtorEq, Nat.reduceEqDiff, Nat.reduceAdd, Nat.reduceMul, Nat.reduceSub, Nat.reduceLT, Int.reduceAdd, Int.reduceSub, Int.reduceMul, Int.reduceLT, Int.reduceToNat, ne_eq, *]; first | done | rfl | omega)) | (apply Ext.up; focus (assumption; done)) | (simp (disch := (first | omega | (simp only [nx]; first | done | omega))) only [xxq, zxq, xxa, xxb, xxc, bne, Int.reduceEq, Int.reduceBEq, Int.reduceNe, Int.reduceBNe, Int.reduceLE, Int.reduceGT, Int.reduceGE, Int.reduceNeg, ↓reduceIte, reduceCtorEq, Nat.reduceEqDiff, Nat.reduceAdd, Nat.reduceMul, Nat.reduceSub, Nat.reduceLT, Int.reduceAdd, Int.reduceSub, Int.reduceMul, Int.reduceLT, Int.reduceToNat, ne_eq, *]; first | done | rfl | omega)); done)) : p := h
theorem ivW16 {p : Prop} (h : p := by first | omega | exact exW16 | (simp (disch := (first | omega | (simp only [nx]; first | done | omega))) only [xxq, zxq, xxa, xxb, xxc, bne, Int.reduceEq, Int.reduceBEq, Int.reduceNe, Int.reduceBNe, Int.reduceLE, Int.reduceGT, Int.reduceGE, Int.reduceNeg, ↓reduceIte, reduceCtorEq, Nat.reduceEqDiff, Nat.reduceAdd, Nat.reduceMul, Nat.reduceSub, Nat.reduceLT, Int.reduceAdd, Int.reduceSub, Int.reduceMul, Int.reduceLT, Int.reduceToNat, ne_eq, *, intV_int]; first | done | omega | rfl | exact congrArg (Value.int .i64) (by omega)) | rfl) : p := h
theorem smW16 {a b : Prop} (hb : b) (h : Later b → a := by intro hb; simp (disch := (first | omega | (simp only [nx]; first | done | omega))) only [xxq, zxq, xxa, xxb, xxc, bne, Int.reduceEq, Int.reduceBEq, Int.reduceNe, Int.reduceBNe, Int.reduceLE, Int.reduceGT, Int.reduceGE, Int.reduceNeg, ↓reduceIte, reduceCtorEq, Nat.reduceEqDiff, Nat.reduceAdd, Nat.reduceMul, Nat.reduceSub, Nat.reduceLT, Int.reduceAdd, Int.reduceSub, Int.reduceMul, Int.reduceLT, Int.reduceToNat, ne_eq, *, intV_int]; exact hb.out) : a := h ⟨hb⟩
theorem gtW16 {A F : Fr} {t : Nat} {v : Value} (h : Ag [] A F) (e : F t = v := by simp (disch := (first | omega | (simp only [nx]; first | done | omega))) only [xxq, zxq, xxa, xxb, xxc, bne, Int.reduceEq, Int.reduceBEq, Int.reduceNe, Int.reduceBNe, Int.reduceLE, Int.reduceGT, Int.reduceGE, Int.reduceNeg, ↓reduceIte, reduceCtorEq, Nat.reduceEqDiff, Nat.reduceAdd, Nat.reduceMul, Nat.reduceSub, Nat.reduceLT, Int.reduceAdd, Int.reduceSub, Int.reduceMul, Int.reduceLT, Int.reduceToNat, ne_eq, *, intV_int]; exact rfl) : A t = v := (h.h t rfl).trans e
theorem gdW16 {D : List Nat} {A F : Fr} {t : Nat} {v : Value} (h : Ag D A F) (ht : D.contains t = false := by rfl) (e : F t = v := by simp (disch := (first | omega | (simp only [nx]; first | done | omega))) only [xxq, zxq, xxa, xxb, xxc, bne, Int.reduceEq, Int.reduceBEq, Int.reduceNe, Int.reduceBNe, Int.reduceLE, Int.reduceGT, Int.reduceGE, Int.reduceNeg, ↓reduceIte, reduceCtorEq, Nat.reduceEqDiff, Nat.reduceAdd, Nat.reduceMul, Nat.reduceSub, Nat.reduceLT, Int.reduceAdd, Int.reduceSub, Int.reduceMul, Int.reduceLT, Int.reduceToNat, ne_eq, *, intV_int]; exact rfl) : A t = v := (h.h t ht).trans e
theorem agW16 {D : List Nat} {A F : Fr} (h : Ag D A F := by
  repeat (with_reducible first | exact Ag.refl _ _ | refine Ag.nop ?_ | refine Ag.dead rfl ?_ | (refine Ag.live ?_ ?_; focus exact ivW16) | refine Ag.dr rfl ?_ | (refine Ag.lr ?_ ?_; focus exact ivW16) | refine Ag.up (by assumption) rfl ?_)) : Ag D A F := h
theorem sdW16 {p : Prop} (h : p := by first | omega | assumption | (simp (disch := (first | omega | (simp only [nx]; first | done | omega))) only [xxq, zxq, tfW16, litK, copyK, clearK, makeSliceK, buildSliceK, buildK, lookupK, mapPutK, mapOf, convK, allocK, indexK, partK, xxa, xxb, xxc, bne, Int.reduceEq, Int.reduceBEq, Int.reduceNe, Int.reduceBNe, Int.reduceLE, Int.reduceGT, Int.reduceGE, Int.reduceNeg, ↓reduceIte, reduceCtorEq, Nat.reduceEqDiff, Nat.reduceAdd, Nat.reduceMul, Nat.reduceSub, Nat.reduceLT, Int.reduceAdd, Int.reduceSub, Int.reduceMul, Int.reduceLT, Int.reduceToNat, ne_eq, *]; first | done | omega | rfl)) : p := h
def numTo (m : List Int) : Nat → List Int
  | 0 => List.replicate m.length 0
  | j + 1 => if m.getD j 0 = j then (numTo m j).set j (rank m j) else numTo m j
theorem numTo_len (m : List Int) (j : Nat) : (numTo m j).length = m.length := by
  induction j with
  | zero => simp [numTo]
  | succ j ih => unfold numTo; split <;> simp [ih]
theorem rank_succ (m : List Int) (j : Nat) : rank m (j + 1) = if m.getD j 0 = j then rank m j + 1 else rank m j := by
  unfold rank; rw [roots_succ]; split <;> simp
theorem rank_le (m : List Int) (j : Nat) : rank m j ≤ j := by
  induction j with
  | zero => simp [rank, roots]
  | succ j ih => rw [rank_succ]; split <;> omega
theorem numTo_get (m : List Int) : ∀ j, j ≤ m.length → ∀ x, x < j → m.getD x 0 = x → (numTo m j).getD x 0 = rank m x
  | 0, _, x, h, _ => by omega
  | j + 1, hj, x, h, hx => by
    unfold numTo
    by_cases e : x = j
    · subst e
      rw [if_pos hx, List.getD_eq_getElem?_getD, List.getElem?_set_self (by rw [numTo_len]; omega)]
      rfl
    · have := numTo_get m j (by omega) x (by omega) hx
      split
      · rw [List.getD_eq_getElem?_getD, List.getElem?_set_ne (by omega), ← List.getD_eq_getElem?_getD, this]
      · exact this
theorem numbers_len (m : List Int) : (numbers m).length = m.length := by simp [numbers]
theorem numbers_get (m : List Int) (k : Nat) (h : k < m.length) : (numbers m).getD k 0 = rank m (m.getD k 0).toNat := by simp [numbers, h]
def chunkR (w q : Nat) (l : List Int) : List (List Int) := (List.range q).map fun a => (l.drop (a * w)).take w
theorem chunkR_len (w q : Nat) (l : List Int) : (chunkR w q l).length = q := by simp [chunkR]
theorem chunkR_get (w q : Nat) (l : List Int) (a : Nat) (h : a < q) : (chunkR w q l).getD a [] = (l.drop (a * w)).take w := by simp [chunkR, h]
theorem drop_take_snoc (l : List Int) (i j : Nat) (h : i + j < l.length) : (l.drop i).take (j + 1) = (l.drop i).take j ++ [l.getD (i + j) 0] := by
  rw [List.take_succ_eq_append_getElem (by rw [List.length_drop]; omega)]
  simp [h]
theorem chunkR_succ (w q : Nat) (l : List Int) : chunkR w (q + 1) l = chunkR w q l ++ [(l.drop (q * w)).take w] := by
  unfold chunkR; rw [List.range_succ, List.map_append]; rfl
/-- Rows of w numbers each. -/
abbrev rowsZ (w : Nat) (R : List (List Int)) : List Value := R.map fun r => FZ 1 w (ints r)
theorem rowsZ_len (w : Nat) (R : List (List Int)) : (rowsZ w R).length = R.length := List.length_map _
set_option maxHeartbeats 4000000 in
theorem l08Rows_z {m : List Int} {w q N : Nat} (hC : Canon m) (hw0 : 0 < w) (hw6 : w ≤ 6) (hlm : m.length = N) (hN : q * w = N) (hl : N ≤ 1000) :
    ZCalls Try.prog 111 [FZ 1 N (ints m), I w] (.tuple #[FZ 1 q (rowsZ w (chunkR w q (numbers m))), I (rank m N)]) := by
  have hrl : ∀ j, rank m j ≤ j := rank_le m
  have hn0 : List.replicate N (0 : Int) = numTo m 0 := by rw [← hlm]; rfl
  refine ZCalls.body Try.func111 rfl Try.ntmps111 (rs := [.tmp 4, .tmp 5]) rfl (by simp) rfl fun H Q hQ A hA => ?_
  have a0 := hA 0 _ _ rfl
  have a1 := hA 1 _ _ rfl
  clear hA
  have zf0 := @rep_ints
  have zf1 := @zero1
  repeat' first | refine rnW16 ?_ | with_reducible refine And.intro (fun hc => ?_) (fun hc => ?_) | fail
  refine AWp.growE (t := 8) 1 (by decide) (by exact ivW16) ?_
  refine AWp.cut (fun Ac hAc => ?_)
  have c0 := gtW16 (t := 0) hAc
  have c1 := gtW16 (t := 1) hAc
  have c6 := gtW16 (t := 6) hAc
  have c8 := gtW16 (t := 8) hAc
  have c7 := gtW16 (t := 7) hAc
  have c9 := gtW16 (t := 9) hAc
  clear a0 a1
  refine AWp.loop (fun A' H' => ∃ (j : Nat), Ag [17, 18, 19, 20, 21, 22, 23, 24, 25, 26, 27, 28, 29, 30, 31, 32, 33, 34] A' (put (put Ac (some 7) (I (rank m j))) (some 9) (I j)) ∧ j ≤ N ∧ H' = (((H.push (.cells (ints (numTo m j)) 1 false)).push (.cells [] 1 false)).push (.tok 0 1))) (fun A' _ => N - (intV (A' 9)).toNat) ?_ ?_
  · have e0 : rank m 0 = 0 := rfl
    exact ⟨0, agW16, by omega, by first | exact ivW16 | rw [← hn0]⟩
  · rintro A1 H1 ⟨j, hA, hj, rfl⟩
    have d0 := gdW16 (t := 0) hA
    have d1 := gdW16 (t := 1) hA
    have d6 := gdW16 (t := 6) hA
    have d7 := gdW16 (t := 7) hA
    have d8 := gdW16 (t := 8) hA
    have d9 := gdW16 (t := 9) hA
    by_cases hlt : j < N
    · have hrj := hrl j
      have hrs := rank_succ m j
      have hnl := (numTo_len m j).trans hlm
      have hst : numTo m (j + 1) = if m.getD j 0 = j then (numTo m j).set j (rank m j) else numTo m j := rfl
      generalize numTo m j = nt at *
      generalize rank m j = r at *
      clear hrl hn0
      by_cases hr : m.getD j 0 = j
      · have hrb : (m.getD j 0 == (j : Int)) = true := by rw [beq_iff_eq]; exact hr
        rw [if_pos hr] at hrs hst
        clear hr
        repeat' first | refine rnW16 ?_ | with_reducible refine And.intro (fun hc => ?_) (fun hc => ?_) | fail
        exact ⟨⟨j + 1, agW16, by omega, by rw [hst]⟩, by exact ivW16⟩
      · have hrb : (m.getD j 0 == (j : Int)) = false := by rw [beq_eq_false_iff_ne]; exact hr
        rw [if_neg hr] at hrs hst
        clear hr
        repeat' first | refine rnW16 ?_ | with_reducible refine And.intro (fun hc => ?_) (fun hc => ?_) | fail
        exact ⟨⟨j + 1, agW16, by omega, by rw [hst]⟩, by exact ivW16⟩
    · obtain rfl : j = N := by omega
      have hnl := (numTo_len m j).trans hlm
      have hng := numTo_get m j (by omega)
      have hbl := (numbers_len m).trans hlm
      have hnb := numbers_get m
      generalize numTo m j = nt at *
      generalize numbers m = nb at *
      have hrN := hrl j
      generalize hrk : rank m j = rk at *
      clear hn0
      refine AWp.freezeI (t := 6) (g := H.size) nt j (by exact ivW16) (by rw [get_push_lt (by rw [Heap.size_push, Heap.size_push]; omega), get_push_lt (by rw [Heap.size_push]; omega), get_push_eq rfl]) rfl rfl hnl ?_
      repeat' first | refine rnW16 ?_ | with_reducible refine And.intro (fun hc => ?_) (fun hc => ?_) | fail
      refine AWp.cut (fun Ae hAe => ?_)
      have e0 := gtW16 (t := 0) hAe
      have e1 := gtW16 (t := 1) hAe
      have e6 := gtW16 (t := 6) hAe
      have e7 := gtW16 (t := 7) hAe
      have e8 := gtW16 (t := 8) hAe
      have e10 := gtW16 (t := 10) hAe
      refine AWp.loop (fun A' H' => ∃ (a : Nat), Ag [11, 12, 35, 36, 37, 38, 39, 40, 41, 42, 43, 44, 45, 46, 47, 48, 49, 50, 51, 52, 53, 54, 55, 56, 57, 58, 59, 60, 61, 62, 63, 64] A' (put (put Ae (some 8) (GZ (H.size + 1 + 1) 1 a (rowsZ w (chunkR w a nb)))) (some 10) (I (a * w : Nat))) ∧ a ≤ q ∧ Ext H H' ∧ H'.get (H.size + 1 + 1) = .tok a 1 ∧ H.size + 1 + 1 < H'.size) (fun A' _ => j - (intV (A' 10)).toNat) ?_ ?_
      · have e0 : chunkR w 0 nb = [] := rfl
        have e1 : 0 * w = 0 := Nat.zero_mul w
        exact ⟨0, agW16, by omega, by exact exW16, by exact ivW16, by exact ivW16⟩
      · rintro A2 H2 ⟨a, hB, ha, hx, hg, hs⟩
        have f0 := gdW16 (t := 0) hB
        have f1 := gdW16 (t := 1) hB
        have f6 := gdW16 (t := 6) hB
        have f7 := gdW16 (t := 7) hB
        have f8 := gdW16 (t := 8) hB
        have f10 := gdW16 (t := 10) hB
        obtain ⟨i, hi⟩ : ∃ i, a * w = i := ⟨_, rfl⟩
        rw [hi] at f10
        by_cases hlt : a < q
        · have hiw : i + w ≤ j := by
            have := Nat.mul_le_mul_right w (show a + 1 ≤ q by omega)
            rw [Nat.succ_mul] at this; omega
          have hi' : (a + 1) * w = i + w := by rw [Nat.succ_mul]; omega
          have haB : a ≤ i := by rw [← hi]; exact Nat.le_mul_of_pos_right a hw0
          have hcs := chunkR_succ w a nb
          have hcl := chunkR_len w a nb
          rw [hi] at hcs
          generalize chunkR w a nb = R at *
          repeat' first | refine rnW16 ?_ | with_reducible refine And.intro (fun hc => ?_) (fun hc => ?_) | fail
          refine AWp.growE (t := 11) 1 (by decide) (by exact ivW16) ?_
          refine AWp.cut (fun As hAs => ?_)
          have s0 := gtW16 (t := 0) hAs
          have s1 := gtW16 (t := 1) hAs
          have s6 := gtW16 (t := 6) hAs
          have s7 := gtW16 (t := 7) hAs
          have s8 := gtW16 (t := 8) hAs
          have s10 := gtW16 (t := 10) hAs
          have s11 := gtW16 (t := 11) hAs
          have s12 := gtW16 (t := 12) hAs
          have hx2s := hx.size
          refine AWp.loop (fun A' H' => ∃ (k : Nat), Ag [44, 45, 46, 47, 48, 49, 50, 51, 52, 53, 54, 55, 56, 57, 58, 59, 60] A' (put (put As (some 11) (GZ (H2.size + 1) 1 k (ints ((nb.drop i).take k)))) (some 12) (I (i + k : Nat))) ∧ k ≤ w ∧ Ext ((H2.push (.cells [] 1 false)).push (.tok k 1)) H') (fun A' _ => i + w - (intV (A' 12)).toNat) ?_ ?_
          · have e0 : (nb.drop i).take 0 = [] := rfl
            exact ⟨0, agW16, by omega, by exact exW16⟩
          · rintro A3 H3 ⟨k, hD, hk, hy⟩
            have y0 := gdW16 (t := 0) hD
            have y1 := gdW16 (t := 1) hD
            have y6 := gdW16 (t := 6) hD
            have y7 := gdW16 (t := 7) hD
            have y8 := gdW16 (t := 8) hD
            have y10 := gdW16 (t := 10) hD
            have y11 := gdW16 (t := 11) hD
            have y12 := gdW16 (t := 12) hD
            have hyg := hy.get; have hys := hy.size; (try simp only [nx] at hys)
            have hgt := (hyg (H.size + 1 + 1) (by simp only [nx]; omega))
            rw [get_push_lt (by rw [Heap.size_push]; omega), get_push_lt hs, hg] at hgt
            by_cases hkw : k < w
            · obtain ⟨c1, c2, c3⟩ := hC (i + k) (by omega)
              obtain ⟨z, hz⟩ : ∃ z : Nat, m.getD (i + k) 0 = (z : Int) := ⟨(m.getD (i + k) 0).toNat, by omega⟩
              rw [hz, Int.toNat_natCast] at c3
              have hv := hng z (by omega) c3
              have hvn := hnb (i + k) (by omega)
              rw [hz, Int.toNat_natCast] at hvn
              have hsn := drop_take_snoc nb i k (by omega)
              rw [hvn] at hsn
              rw [hz] at c2
              have hrz := hrl z
              have hlen : ((nb.drop i).take k).length = k := by rw [List.length_take, List.length_drop]; omega
              generalize rank m z = r at hv hsn hrz
              generalize (nb.drop i).take k = row at *
              clear hng hnb hrl hvn c1 c3 hC
              repeat' first | refine rnW16 ?_ | with_reducible refine And.intro (fun hc => ?_) (fun hc => ?_) | fail
              exact ⟨⟨k + 1, agW16, by omega, by exact exW16⟩, by exact ivW16⟩
            · obtain rfl : k = w := by omega
              have hlen : ((nb.drop i).take k).length = k := by rw [List.length_take, List.length_drop]; omega
              have hrw : rowsZ k (chunkR k (a + 1) nb) = rowsZ k R ++ [FZ 1 k (ints ((nb.drop i).take k))] := by rw [hcs]; exact List.map_append
              have hrl2 := rowsZ_len k R
              rw [hcl] at hrl2
              clear hng hnb hrl hC hcs
              generalize (nb.drop i).take k = row at *
              repeat' first | refine rnW16 ?_ | with_reducible refine And.intro (fun hc => ?_) (fun hc => ?_) | fail
              exact ⟨⟨a + 1, agW16, by omega, by exact exW16, by exact ivW16, by exact ivW16⟩, by exact ivW16⟩
        · obtain rfl : a = q := by omega
          repeat' first | refine rnW16 ?_ | with_reducible refine And.intro (fun hc => ?_) (fun hc => ?_) | fail
          refine hQ.out _ _ (FinV.tuple (l := [GZ (H.size + 1 + 1) 1 a (rowsZ w (chunkR w a nb)), I rk]) (l' := [FZ 1 a (rowsZ w (chunkR w a nb)), I rk]) rfl fun i x r hx hr => ?_) (by exact exW16)
          match i, hx, hr with
          | 0, hx, hr => cases hx; cases hr; exact .gz (Cl.map fun r => Cl.fz (Cl.ints r))
          | 1, hx, hr => cases hx; cases hr; exact .cl (Cl.int _ _)
end Go.Proofs.Ytibkopejnhihkaa.Zed
