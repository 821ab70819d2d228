/- A part of the walk: what functions of the program do, over an abstract heap. -/
import Derived.Test.YtibkopejnhihkaaW21
namespace Go.Proofs.Ytibkopejnhihkaa.Zed
open Go TP
set_option linter.unusedVariables false
set_option linter.unusedSimpArgs false
set_option maxRecDepth 20000
theorem tfW22 : (Try.prog.underlying 89 = some (.slice 110)) ∧ (el Try.prog 89 = some (none, 2)) ∧ (Try.prog.underlying 109 = some (.slice 144)) ∧ (el Try.prog 109 = some (none, 2)) ∧ (tk Try.prog 2 = some none) ∧ (tk Try.prog 110 = some (some 2)) ∧ (tk Try.prog 144 = some (some 2)) ∧ (cz Try.prog 110 = some 2) ∧ (bz Try.prog 110 = some 16) ∧ (cz Try.prog 144 = some 2) ∧ (bz Try.prog 144 = some 16) ∧ (zr Try.prog 110 = some (.agg #[.int .i64 0, .int .i64 0])) ∧ (zr Try.prog 144 = some (.agg #[.int .i64 0, .int .i64 0])) ∧ (fo Try.prog 110 0 = some (0, none)) ∧ (fo Try.prog 110 1 = some (1, none)) ∧ (fo Try.prog 144 0 = some (0, none)) ∧ (fo Try.prog 144 1 = some (1, none)) := by
  refine ⟨?_, ?_, ?_, ?_, ?_, ?_, ?_, ?_, ?_, ?_, ?_, ?_, ?_, ?_, ?_, ?_, ?_⟩ <;> kernel_rfl
theorem rnW22 {a b : Prop} (hb : b) (h : Later b → a := by
  intro hb
  first
  | ((with_reducible first | refine AOps.nil ?_ | refine athen_n ?_ | refine athen_r ?_ | refine athen_e ?_ | refine ablock_n ?_ | refine ablock_r ?_ | refine ablock_s ?_ | refine AWp.seq' ?_ | refine AWp.block ?_ | refine AWp.skip ?_ | refine AWp.exit ?_ | refine AWp.ret ?_ | refine AWp.region ?_ | (refine ablock_e ?_ ?_; focus rfl)); repeat (with_reducible first | refine AOps.nil ?_ | refine athen_n ?_ | refine athen_r ?_ | refine athen_e ?_ | refine ablock_n ?_ | refine ablock_r ?_ | refine ablock_s ?_ | refine AWp.seq' ?_ | refine AWp.block ?_ | refine AWp.skip ?_ | refine AWp.exit ?_ | refine AWp.ret ?_ | refine AWp.region ?_ | (refine ablock_e ?_ ?_; focus rfl)))
  | (refine AOps.guardu rfl rfl rfl ?_ ?_; focus (simp (disch := (first | omega | (simp only [nx]; first | done | omega))) only [Value.bool.injEq, Bool.and_true, Bool.true_and, Bool.and_false, Bool.false_and, beq_self_eq_true, bne, Bool.not_true, Bool.not_false, sx, nx, dx, ↓reduceIte, reduceCtorEq, Nat.reduceEqDiff, ne_eq, not_false_eq_true, *]; done))
  | ((first | ((with_reducible refine AOps.lit ?_ ?_ ?_ fun K hK => ?_); exact rfl; exact rfl; exact rfl) | ((with_reducible refine AOps.boxz ?_ ?_ fun K hK => ?_); exact rfl; exact rfl) | ((with_reducible refine AOps.cons2 ?_ ?_ fun K hK => ?_); exact rfl; exact rfl) | ((with_reducible refine AWp.cond ?_ fun X Y hX hY => ?_); exact rfl) | refine AOps.guard rfl rfl rfl fun X Y hX hY => ?_ | refine aret_r ?_ | refine aret_n ?_); simp (disch := (first | omega | (simp only [nx]; first | done | omega))) only [acond_bool, aresK, retv, xxq, zxq, tfW22, litK, copyK, clearK, makeSliceK, buildSliceK, buildK, lookupK, mapPutK, mapOf, convK, allocK, indexK, partK, xxa, xxb, xxc, bne, Int.reduceEq, Int.reduceBEq, Int.reduceNe, Int.reduceBNe, Int.reduceLE, Int.reduceGT, Int.reduceGE, Int.reduceNeg, ↓reduceIte, reduceCtorEq, Nat.reduceEqDiff, Nat.reduceAdd, Nat.reduceMul, Nat.reduceSub, Nat.reduceLT, Int.reduceAdd, Int.reduceSub, Int.reduceMul, Int.reduceLT, Int.reduceToNat, ne_eq, *]; (repeat first | ((with_reducible refine And.intro (fun hc => ?_) (fun hc => absurd hc (by omega))); clear hc) | ((with_reducible refine And.intro (fun hc => absurd hc (by omega)) (fun hc => ?_)); clear hc) | ((with_reducible refine And.intro ?_ ?_); focus ((first | omega | assumption | exact cok _ rfl | exact one_ints _ | exact one_map fun _ => rfl | ((repeat refine one_cons (by first | rfl | assumption) ?_); exact one_nil) | rfl | decide | (intro u hu; cases hu)); done)) | (with_reducible refine (fun hc => ?_ : _ → _); clear hc)); (first | refine hK.out _ _ ?_ | refine ACalls.hk hK ?_ | (refine appendK.hk hK ?_; try (refine appendK.ofZ ?_; simp (disch := (first | omega | (simp only [nx]; first | done | omega))) only [xxq, zxq, tfW22, litK, copyK, clearK, makeSliceK, buildSliceK, buildK, lookupK, mapPutK, mapOf, convK, allocK, indexK, partK, xxa, xxb, xxc, bne, Int.reduceEq, Int.reduceBEq, Int.reduceNe, Int.reduceBNe, Int.reduceLE, Int.reduceGT, Int.reduceGE, Int.reduceNeg, ↓reduceIte, reduceCtorEq, Nat.reduceEqDiff, Nat.reduceAdd, Nat.reduceMul, Nat.reduceSub, Nat.reduceLT, Int.reduceAdd, Int.reduceSub, Int.reduceMul, Int.reduceLT, Int.reduceToNat, ne_eq, *]; (repeat first | ((with_reducible refine And.intro (fun hc => ?_) (fun hc => absurd hc (by omega))); clear hc) | ((with_reducible refine And.intro (fun hc => absurd hc (by omega)) (fun hc => ?_)); clear hc) | ((with_reducible refine And.intro ?_ ?_); focus ((first | omega | assumption | exact cok _ rfl | exact one_ints _ | exact one_map fun _ => rfl | ((repeat refine one_cons (by first | rfl | assumption) ?_); exact one_nil) | rfl | decide | (intro u hu; cases hu)); done)) | (with_reducible refine (fun hc => ?_ : _ → _); clear hc)))) | refine (fun (q : _ ∧ _) => And.intro (hK.out _ _ q.1) (hK.out _ _ q.2)) ?_ | refine hX.out ?_ | refine hY.out ?_ | refine (fun (q : (_ → _) ∧ (_ → _)) => And.intro (fun hc => hX.out (q.1 hc)) (fun hc => hY.out (q.2 hc))) ?_ | refine (fun (q : (_ → _) ∧ (_ → _)) => And.intro (fun hc => hY.out (q.1 hc)) (fun hc => hX.out (q.2 hc))) ?_ | skip))
  exact hb.out) : a := h ⟨hb⟩
theorem exW22 {p : Prop} (h : p := by ((show Ext _ _); (repeat' first | assumption | exact Ext.refl _ | refine Ext.push ?_ _ | refine Ext.set ?_ _ (by first | omega | (simp only [nx, *]; omega)) | (refine Ext.ofeq (by assumption) ?_; focus (simp (disch := (first | omega | (simp only [nx]; first | done | omega))) only [xxq, zxq, xxa, xxb, xxc, bne, Int.reduceEq, Int.reduceBEq, Int.reduceNe, Int.reduceBNe, Int.reduceLE, Int.reduceGT, Int.reduceGE, Int.reduceNeg, ↓reduceIte, reduceCtorEq, Nat.reduceEqDiff, Nat.reduceAdd, Nat.reduceMul, Nat.reduceSub, Nat.reduceLT, Int.reduceAdd, Int.reduceSub, Int.reduceMul, Int.reduceLT, Int.reduceToNat, ne_eq, *]; first | done | rfl | omega)) | (refine Ext.setc (by repeat first | assumption | apply Ext.setB | apply Ext.push) ?_; focus (simp (disch := (first | omega | (simp only [nx]; first | done | omega))) only [xxq, zxq, xxa, xxb, xxc, bne, Int.reduceEq, Int.reduceBEq, Int.reduceNe, Int.reduceBNe, Int.reduceLE, Int.reduceGT, Int.reduceGE, Int.reduceNeg, ↓reduceIte, reduceCtorEq, Nat.reduceEqDiff, Nat.reduceAdd, Nat.reduceMul, Nat.reduceSub, Nat.reduceLT, Int.reduceAdd, Int.reduceSub, Int.reduceMul, Int.reduceLT, Int.reduceToNat, ne_eq, *]; first | done | rfl | omega)) | (refine Ext.setc (Ext.refl _) ?_; focus (simp (disch := (first | omega | (simp only [nx]; first | done | omega))) only [xxq, zxq, xxa, xxb, xxc, bne, Int.reduceEq, Int.reduceBEq, Int.reduceNe, Int.reduceBNe, Int.reduceLE, Int.reduceGT, Int.reduceGE, Int.reduceNeg, ↓reduceIte, reduceCtorEq, Nat.reduceEqDiff, Nat.reduceAdd, Nat.reduceMul, Nat.reduceSub, Nat.reduceLT, Int.reduceAdd, Int.reduceSub, Int.reduceMul, Int.reduceLT, Int.reduceToNat, ne_eq, *]; first | done | rfl | omega)) | (apply Ext.up; focus (assumption; done)) | (simp (disch := (first | omega | (simp only [nx]; first | done | omega))) only [xxq, zxq, xxa, xxb, xxc, bne, Int.reduceEq, Int.reduceBEq, Int.reduceNe, Int.reduceBNe, Int.reduceLE, Int.reduceGT, Int.reduceGE, Int.reduceNeg, ↓reduceIte, reduceCtorEq, Nat.reduceEqDiff, Nat.reduceAdd, Nat.reduceMul, Nat.reduceSub, Nat.reduceLT, Int.reduceAdd, Int.reduceSub, Int.reduceMul, Int.reduceLT, Int.reduceToNat, ne_eq, *]; first | done | rfl | omega)); done)) : p := h
theorem ivW22 {p : Prop} (h : p := by first | omega | exact exW22 | (simp (disch := (first | omega | (simp only [nx]; first | done | omega))) only [xxq, zxq, xxa, xxb, xxc, bne, Int.reduceEq, Int.reduceBEq, Int.reduceNe, Int.reduceBNe, Int.reduceLE, Int.reduceGT, Int.reduceGE, Int.reduceNeg, ↓reduceIte, reduceCtorEq, Nat.reduceEqDiff, Nat.reduceAdd, Nat.reduceMul, Nat.reduceSub, Nat.reduceLT, Int.reduceAdd, Int.reduceSub, Int.reduceMul, Int.reduceLT, Int.reduceToNat, ne_eq, *, intV_int]; first | done | omega | rfl | exact congrArg (Value.int .i64) (by omega)) | rfl) : p := h
theorem smW22 {a b : Prop} (hb : b) (h : Later b → a := by intro hb; simp (disch := (first | omega | (simp only [nx]; first | done | omega))) only [xxq, zxq, xxa, xxb, xxc, bne, Int.reduceEq, Int.reduceBEq, Int.reduceNe, Int.reduceBNe, Int.reduceLE, Int.reduceGT, Int.reduceGE, Int.reduceNeg, ↓reduceIte, reduceCtorEq, Nat.reduceEqDiff, Nat.reduceAdd, Nat.reduceMul, Nat.reduceSub, Nat.reduceLT, Int.reduceAdd, Int.reduceSub, Int.reduceMul, Int.reduceLT, Int.reduceToNat, ne_eq, *, intV_int]; exact hb.out) : a := h ⟨hb⟩
theorem gtW22 {A F : Fr} {t : Nat} {v : Value} (h : Ag [] A F) (e : F t = v := by simp (disch := (first | omega | (simp only [nx]; first | done | omega))) only [xxq, zxq, xxa, xxb, xxc, bne, Int.reduceEq, Int.reduceBEq, Int.reduceNe, Int.reduceBNe, Int.reduceLE, Int.reduceGT, Int.reduceGE, Int.reduceNeg, ↓reduceIte, reduceCtorEq, Nat.reduceEqDiff, Nat.reduceAdd, Nat.reduceMul, Nat.reduceSub, Nat.reduceLT, Int.reduceAdd, Int.reduceSub, Int.reduceMul, Int.reduceLT, Int.reduceToNat, ne_eq, *, intV_int]; exact rfl) : A t = v := (h.h t rfl).trans e
theorem gdW22 {D : List Nat} {A F : Fr} {t : Nat} {v : Value} (h : Ag D A F) (ht : D.contains t = false := by rfl) (e : F t = v := by simp (disch := (first | omega | (simp only [nx]; first | done | omega))) only [xxq, zxq, xxa, xxb, xxc, bne, Int.reduceEq, Int.reduceBEq, Int.reduceNe, Int.reduceBNe, Int.reduceLE, Int.reduceGT, Int.reduceGE, Int.reduceNeg, ↓reduceIte, reduceCtorEq, Nat.reduceEqDiff, Nat.reduceAdd, Nat.reduceMul, Nat.reduceSub, Nat.reduceLT, Int.reduceAdd, Int.reduceSub, Int.reduceMul, Int.reduceLT, Int.reduceToNat, ne_eq, *, intV_int]; exact rfl) : A t = v := (h.h t ht).trans e
theorem agW22 {D : List Nat} {A F : Fr} (h : Ag D A F := by
  repeat (with_reducible first | exact Ag.refl _ _ | refine Ag.nop ?_ | refine Ag.dead rfl ?_ | (refine Ag.live ?_ ?_; focus exact ivW22) | refine Ag.dr rfl ?_ | (refine Ag.lr ?_ ?_; focus exact ivW22) | refine Ag.up (by assumption) rfl ?_)) : Ag D A F := h
theorem sdW22 {p : Prop} (h : p := by first | omega | assumption | (simp (disch := (first | omega | (simp only [nx]; first | done | omega))) only [xxq, zxq, tfW22, litK, copyK, clearK, makeSliceK, buildSliceK, buildK, lookupK, mapPutK, mapOf, convK, allocK, indexK, partK, xxa, xxb, xxc, bne, Int.reduceEq, Int.reduceBEq, Int.reduceNe, Int.reduceBNe, Int.reduceLE, Int.reduceGT, Int.reduceGE, Int.reduceNeg, ↓reduceIte, reduceCtorEq, Nat.reduceEqDiff, Nat.reduceAdd, Nat.reduceMul, Nat.reduceSub, Nat.reduceLT, Int.reduceAdd, Int.reduceSub, Int.reduceMul, Int.reduceLT, Int.reduceToNat, ne_eq, *]; first | done | omega | rfl)) : p := h
/-- What is left of a room of r when n more things are taken: -1, nothing. -/
def sz1 (r : Int) (n : Nat) : Int := if r - n < 0 then -1 else r - n
def szT (T : List (List (Int × Int))) (r : Int) : Nat → Int
  | 0 => r
  | j + 1 => sz1 (szT T r j) (T.getD j []).length
theorem szFaceS_z (n es : Nat) (cs : List Value) (r : Int) (hr0 : 0 ≤ r) (hr : r ≤ 1048576) (hn : n ≤ 9223372036854775807) : ZCalls Try.prog 104 [FZ es n cs, I r] (I (sz1 r n)) := by
  unfold sz1
  by_cases h : r - n < 0
  · rw [if_pos h]
    refine ZCalls.body Try.func104 rfl Try.ntmps104 (rs := [.tmp 4]) rfl (by simp) rfl fun H Q hQ A hA => ?_
    have a0 := hA 0 _ _ rfl
    have a1 := hA 1 _ _ rfl
    clear hA
    repeat' first | refine rnW22 ?_ | with_reducible refine And.intro (fun hc => ?_) (fun hc => ?_) | fail
    exact hQ.out _ _ (fv) (by exact exW22)
  · rw [if_neg h]
    refine ZCalls.body Try.func104 rfl Try.ntmps104 (rs := [.tmp 4]) rfl (by simp) rfl fun H Q hQ A hA => ?_
    have a0 := hA 0 _ _ rfl
    have a1 := hA 1 _ _ rfl
    clear hA
    repeat' first | refine rnW22 ?_ | with_reducible refine And.intro (fun hc => ?_) (fun hc => ?_) | fail
    exact hQ.out _ _ (fv) (by exact exW22)
theorem toFace_z (t p : Int) : ZCalls Try.prog 151 [.agg #[I t, I p]] (.agg #[I t, I p]) := by
  refine ZCalls.body Try.func151 rfl Try.ntmps151 (rs := [.cell 2 110]) rfl (by simp) rfl fun H Q hQ A hA => ?_
  have a0 := hA 0 _ _ rfl
  clear hA
  repeat' first | refine rnW22 ?_ | with_reducible refine And.intro (fun hc => ?_) (fun hc => ?_) | fail
  exact hQ.out _ _ (.cl (Cl.agg (l := [_, _]) (Cl.cons (Cl.int _ _) (Cl.cons (Cl.int _ _) Cl.nil)))) (by exact exW22)
theorem eqFace_z (t p t' p' : Int) : ZCalls Try.prog 157 [.agg #[I t, I p], .agg #[I t', I p']] (B (t == t' && p == p')) := by
  cases h1 : (t == t')
  · refine ZCalls.body Try.func157 rfl Try.ntmps157 (rs := [.tmp 4]) rfl (by simp) rfl fun H Q hQ A hA => ?_
    have a0 := hA 0 _ _ rfl
    have a1 := hA 1 _ _ rfl
    clear hA
    repeat' first | refine rnW22 ?_ | with_reducible refine And.intro (fun hc => ?_) (fun hc => ?_) | fail
    exact hQ.out _ _ (fv) (by exact exW22)
  · cases h2 : (p == p')
    · refine ZCalls.body Try.func157 rfl Try.ntmps157 (rs := [.tmp 4]) rfl (by simp) rfl fun H Q hQ A hA => ?_
      have a0 := hA 0 _ _ rfl
      have a1 := hA 1 _ _ rfl
      clear hA
      repeat' first | refine rnW22 ?_ | with_reducible refine And.intro (fun hc => ?_) (fun hc => ?_) | fail
      exact hQ.out _ _ (fv) (by exact exW22)
    · refine ZCalls.body Try.func157 rfl Try.ntmps157 (rs := [.tmp 4]) rfl (by simp) rfl fun H Q hQ A hA => ?_
      have a0 := hA 0 _ _ rfl
      have a1 := hA 1 _ _ rfl
      clear hA
      repeat' first | refine rnW22 ?_ | with_reducible refine And.intro (fun hc => ?_) (fun hc => ?_) | fail
      exact hQ.out _ _ (fv) (by exact exW22)
theorem FinV.pairs {lo : Nat} {H : Heap} {g c n : Nat} {l : List (Int × Int)} (hg : lo ≤ g) (hn : l.length = n) (hget : H.get g = .cells (p2 l) 2 false) : FinV lo H (.slice (some ⟨g, 0, none⟩) n c) (FZ 2 n (p2 l)) :=
  .own hg hget (by have := p2_len l; omega) (by have := p2_len l; omega) (fun i x r hx hr => by
    rw [Nat.zero_add] at hx
    cases hx.symm.trans hr
    exact .cl (Cl.p2 l _ (List.mem_of_getElem? hx)))
theorem p2_set (L : List (Int × Int)) (j : Nat) (t q : Int) (h : j < L.length) : (p2 L).take (j * 2) ++ [I t, I q] ++ (p2 L).drop (j * 2 + 2) = p2 (L.set j (t, q)) := by
  induction L generalizing j with
  | nil => simp at h
  | cons x L ih =>
    have e : ∀ (y : Int × Int) (M : List (Int × Int)), p2 (y :: M) = I y.1 :: I y.2 :: p2 M := fun y M => by simp [p2]
    cases j with
    | zero => rw [e, List.set_cons_zero, e]; simp
    | succ j =>
      rw [e, List.set_cons_succ, e, ← ih j (by simpa using h), show (j + 1) * 2 = j * 2 + 1 + 1 by omega]
      simp
theorem zz_p2 : ∀ n : Nat, zz (.int .i64 0) (.int .i64 0) (n * 2) = p2 (List.replicate n (0, 0)) := by
  intro n
  apply List.ext_getElem?
  intro i
  have hl := p2_len (List.replicate n ((0 : Int), (0 : Int)))
  rw [List.length_replicate] at hl
  by_cases hi : i < n * 2
  · rw [zz_get _ _ _ _ hi]
    have h2 : i / 2 < n := by omega
    rcases Nat.mod_two_eq_zero_or_one i with h | h
    · have := p2_get0 (l := List.replicate n ((0 : Int), (0 : Int))) (i := i / 2) (by rw [List.length_replicate]; exact h2)
      rw [show i / 2 * 2 = i by omega] at this
      rw [this]; simp [h2]
    · have := p2_get1 (l := List.replicate n ((0 : Int), (0 : Int))) (i := i / 2) (by rw [List.length_replicate]; exact h2)
      rw [show i / 2 * 2 + 1 = i by omega] at this
      rw [this]; simp [h2]
  · rw [List.getElem?_eq_none (by rw [zz_len]; omega), List.getElem?_eq_none (by omega)]
set_option maxHeartbeats 1000000 in
theorem toFaceS_o {row : List (Int × Int)} (hS : row.length ≤ 1048576) : OCalls Try.prog 112 [zP row] (zP row) := by
  refine OCalls.body Try.func112 rfl Try.ntmps112 (rs := [.tmp 2]) rfl (by simp) rfl fun H Q hQ A hA => ?_
  have a0 := hA 0 _ _ rfl
  clear hA
  repeat' first | refine rnW22 ?_ | with_reducible refine And.intro (fun hc => ?_) (fun hc => ?_) | fail
  refine AWp.cut (fun Ac hAc => ?_)
  have c0 := gtW22 (t := 0) hAc
  have c3 := gtW22 (t := 3) hAc
  have c4 := gtW22 (t := 4) hAc
  clear a0
  rw [zz_p2]
  refine AWp.loop (fun A' H' => ∃ (j : Nat) (L : List (Int × Int)), Ag [8, 9, 10, 11, 12, 13, 14, 15, 16, 17, 18, 19, 20, 21] A' (put Ac (some 4) (I j)) ∧ j ≤ row.length ∧ L.length = row.length ∧ L.take j = row.take j ∧ H' = H.push (.cells (p2 L) 2 false)) (fun A' _ => row.length - (intV (A' 4)).toNat) ?_ ?_
  · exact ⟨0, List.replicate row.length (0, 0), agW22, by omega, List.length_replicate .., rfl, rfl⟩
  · rintro A1 H1 ⟨j, L, hA, hj, hLl, hLt, rfl⟩
    have d0 := gdW22 (t := 0) hA
    have d3 := gdW22 (t := 3) hA
    have d4 := gdW22 (t := 4) hA
    by_cases hlt : j < row.length
    · obtain ⟨⟨t, q⟩, hx⟩ : ∃ x, row.getD j (0, 0) = x := ⟨_, rfl⟩
      have hset := p2_set L j t q (by omega)
      have hpl := p2_len L
      have hnew : (L.set j (t, q)).take (j + 1) = row.take (j + 1) := by
        rw [List.take_succ_eq_append_getElem (l := L.set j (t, q)) (by rw [List.length_set]; omega), List.getElem_set_self, List.take_set, List.set_eq_of_length_le (by rw [List.length_take]; omega), hLt, List.take_succ_eq_append_getElem hlt]
        congr 2
        rw [← hx]; simp [hlt]
      repeat' first | refine rnW22 ?_ | (first | refine ZCalls.to (toFace_z t q) ?_ | refine ZCalls.tf (toFace_z t q) ?_) | with_reducible refine And.intro (fun hc => ?_) (fun hc => ?_) | fail
      exact ⟨⟨j + 1, L.set j (t, q), agW22, by omega, by rw [List.length_set]; exact hLl, hnew, by first | rfl | (rw [← hset]; first | rfl | simp)⟩, by exact ivW22⟩
    · obtain rfl : j = row.length := by omega
      rw [List.take_of_length_le (by omega), List.take_length] at hLt
      subst hLt
      repeat' first | refine rnW22 ?_ | with_reducible refine And.intro (fun hc => ?_) (fun hc => ?_) | fail
      exact hQ.out _ _ ((OwnB.pairs (lo := H.size) (Nat.le_refl _) (Nat.lt_succ_self _) rfl (get_push_eq rfl)).out) (by exact exW22)
theorem toFaceS_z {row : List (Int × Int)} (hS : row.length ≤ 1048576) : ZCalls Try.prog 112 [zP row] (zP row) := (toFaceS_o hS).toZ (Cl.cons (Cl.zP _) Cl.nil)
end Go.Proofs.Ytibkopejnhihkaa.Zed
