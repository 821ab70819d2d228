/- A part of the walk: what functions of the program do, over an abstract heap. -/
import Derived.Test.YtpbbfephfmdgmaaDT
import Derived.Test.YtpbbfephfmdgmaaDX
namespace Go.Proofs.Ytpbbfephfmdgmaa.Rai
open Go TP
set_option linter.unusedVariables false
set_option linter.unusedSimpArgs false
set_option maxRecDepth 20000
theorem tfEC : (Try.prog.underlying 65 = some (.slice 2)) ∧ (el Try.prog 65 = some (none, 1)) ∧ (tk Try.prog 2 = some none) ∧ (cz Try.prog 2 = some 1) ∧ (bz Try.prog 2 = some 8) ∧ (zr Try.prog 2 = some (.int .i64 0)) := by
  refine ⟨?_, ?_, ?_, ?_, ?_, ?_⟩ <;> kernel_rfl
theorem rnEC {a b : Prop} (hb : b) (h : Later b → a := by
  intro hb
  first
  | ((with_reducible first | refine AOps.nil ?_ | refine athen_n ?_ | refine athen_r ?_ | refine athen_e ?_ | refine ablock_n ?_ | refine ablock_r ?_ | refine ablock_s ?_ | refine AWp.seq' ?_ | refine AWp.block ?_ | refine AWp.skip ?_ | refine AWp.exit ?_ | refine AWp.ret ?_ | refine AWp.region ?_ | (refine ablock_e ?_ ?_; focus rfl)); repeat (with_reducible first | refine AOps.nil ?_ | refine athen_n ?_ | refine athen_r ?_ | refine athen_e ?_ | refine ablock_n ?_ | refine ablock_r ?_ | refine ablock_s ?_ | refine AWp.seq' ?_ | refine AWp.block ?_ | refine AWp.skip ?_ | refine AWp.exit ?_ | refine AWp.ret ?_ | refine AWp.region ?_ | (refine ablock_e ?_ ?_; focus rfl)))
  | (refine AOps.guardu rfl rfl rfl ?_ ?_; focus (simp (disch := (first | omega | (simp only [nx]; first | done | omega))) only [Value.bool.injEq, Bool.and_true, Bool.true_and, Bool.and_false, Bool.false_and, beq_self_eq_true, bne, Bool.not_true, Bool.not_false, sx, nx, dx, ↓reduceIte, reduceCtorEq, Nat.reduceEqDiff, ne_eq, not_false_eq_true, *]; done))
  | ((first | refine AOps.cons2 rfl rfl fun K hK => ?_ | refine AWp.cond rfl fun X Y hX hY => ?_ | refine AOps.guard rfl rfl rfl fun X Y hX hY => ?_ | refine aret_r ?_ | refine aret_n ?_); simp (disch := (first | omega | (simp only [nx]; first | done | omega))) only [acond_bool, aresK, retv, xxq, tfEC, sliceK, bnd, appendK, appsK, copyK, clearK, makeSliceK, buildSliceK, buildK, lookupK, mapPutK, mapOf, convK, allocK, indexK, partK, xxa, xxb, xxc, bne, Int.reduceEq, Int.reduceBEq, Int.reduceNe, Int.reduceBNe, Int.reduceLE, Int.reduceGT, Int.reduceGE, Int.reduceNeg, ↓reduceIte, reduceCtorEq, Nat.reduceEqDiff, Nat.reduceAdd, Nat.reduceMul, Nat.reduceSub, Nat.reduceLT, Int.reduceAdd, Int.reduceSub, Int.reduceMul, Int.reduceLT, Int.reduceToNat, ne_eq, *]; (repeat first | ((with_reducible refine And.intro (fun hc => ?_) (fun hc => absurd hc (by omega))); clear hc) | ((with_reducible refine And.intro (fun hc => absurd hc (by omega)) (fun hc => ?_)); clear hc) | ((with_reducible refine And.intro ?_ ?_); focus ((first | omega | assumption | exact cok _ rfl | exact one_ints _ | exact one_map fun _ => rfl | ((repeat refine one_cons (by first | rfl | assumption) ?_); exact one_nil) | rfl | decide | (intro u hu; cases hu)); done)) | (with_reducible refine (fun hc => ?_ : _ → _); clear hc)); (first | refine hK.out _ _ ?_ | refine ACalls.hk hK ?_ | refine appendK.hk hK ?_ | refine (fun (q : _ ∧ _) => And.intro (hK.out _ _ q.1) (hK.out _ _ q.2)) ?_ | refine hX.out ?_ | refine hY.out ?_ | refine (fun (q : (_ → _) ∧ (_ → _)) => And.intro (fun hc => hX.out (q.1 hc)) (fun hc => hY.out (q.2 hc))) ?_ | refine (fun (q : (_ → _) ∧ (_ → _)) => And.intro (fun hc => hY.out (q.1 hc)) (fun hc => hX.out (q.2 hc))) ?_ | skip))
  exact hb.out) : a := h ⟨hb⟩
theorem hlEC {p b : Prop} (hb : b) (h : p := by simp (disch := (first | omega | (simp only [nx]; first | done | omega))) only [heldIn_iff, List.zipIdx_cons, List.zipIdx_nil, List.map_cons, List.map_nil, xxq, tfEC, sliceK, bnd, appendK, appsK, copyK, clearK, makeSliceK, buildSliceK, buildK, lookupK, mapPutK, mapOf, convK, allocK, indexK, partK, xxa, xxb, xxc, bne, Int.reduceEq, Int.reduceBEq, Int.reduceNe, Int.reduceBNe, Int.reduceLE, Int.reduceGT, Int.reduceGE, Int.reduceNeg, ↓reduceIte, reduceCtorEq, Nat.reduceEqDiff, Nat.reduceAdd, Nat.reduceMul, Nat.reduceSub, Nat.reduceLT, Int.reduceAdd, Int.reduceSub, Int.reduceMul, Int.reduceLT, Int.reduceToNat, ne_eq, *]; first | done | trivial) : p ∧ b := ⟨h, hb⟩
theorem ivEC {p : Prop} (h : p := by first | omega | ((repeat first | exact Ext.refl _ | assumption | refine Ext.push ?_ _ | refine Ext.set ?_ _ (by first | omega | (simp only [nx, *]; omega)) | (apply Ext.up; focus (assumption; done))); done) | (simp (disch := (first | omega | (simp only [nx]; first | done | omega))) only [xxq, xxa, xxb, xxc, bne, Int.reduceEq, Int.reduceBEq, Int.reduceNe, Int.reduceBNe, Int.reduceLE, Int.reduceGT, Int.reduceGE, Int.reduceNeg, ↓reduceIte, reduceCtorEq, Nat.reduceEqDiff, Nat.reduceAdd, Nat.reduceMul, Nat.reduceSub, Nat.reduceLT, Int.reduceAdd, Int.reduceSub, Int.reduceMul, Int.reduceLT, Int.reduceToNat, ne_eq, *, intV_int]; first | done | omega | rfl | exact congrArg (Value.int .i64) (by omega) | ((repeat first | exact Ext.refl _ | assumption | refine Ext.push ?_ _ | refine Ext.set ?_ _ (by first | omega | (simp only [nx, *]; omega)) | (apply Ext.up; focus (assumption; done))); done)) | rfl) : p := h
theorem smEC {a b : Prop} (hb : b) (h : Later b → a := by intro hb; simp (disch := (first | omega | (simp only [nx]; first | done | omega))) only [xxq, xxa, xxb, xxc, bne, Int.reduceEq, Int.reduceBEq, Int.reduceNe, Int.reduceBNe, Int.reduceLE, Int.reduceGT, Int.reduceGE, Int.reduceNeg, ↓reduceIte, reduceCtorEq, Nat.reduceEqDiff, Nat.reduceAdd, Nat.reduceMul, Nat.reduceSub, Nat.reduceLT, Int.reduceAdd, Int.reduceSub, Int.reduceMul, Int.reduceLT, Int.reduceToNat, ne_eq, *, intV_int]; exact hb.out) : a := h ⟨hb⟩
theorem gtEC {A F : Fr} {t : Nat} {v : Value} (h : Ag [] A F) (e : F t = v := by simp (disch := (first | omega | (simp only [nx]; first | done | omega))) only [xxq, xxa, xxb, xxc, bne, Int.reduceEq, Int.reduceBEq, Int.reduceNe, Int.reduceBNe, Int.reduceLE, Int.reduceGT, Int.reduceGE, Int.reduceNeg, ↓reduceIte, reduceCtorEq, Nat.reduceEqDiff, Nat.reduceAdd, Nat.reduceMul, Nat.reduceSub, Nat.reduceLT, Int.reduceAdd, Int.reduceSub, Int.reduceMul, Int.reduceLT, Int.reduceToNat, ne_eq, *, intV_int]; exact rfl) : A t = v := (h.h t rfl).trans e
theorem agEC {D : List Nat} {A F : Fr} (h : Ag D A F := by
  repeat (with_reducible first | exact Ag.refl _ _ | refine Ag.nop ?_ | refine Ag.dead rfl ?_ | (refine Ag.live ?_ ?_; focus exact ivEC) | refine Ag.dr rfl ?_ | (refine Ag.lr ?_ ?_; focus exact ivEC) | refine Ag.up (by assumption) rfl ?_)) : Ag D A F := h
theorem sdEC {p : Prop} (h : p := by first | omega | assumption | (simp (disch := (first | omega | (simp only [nx]; first | done | omega))) only [xxq, tfEC, sliceK, bnd, appendK, appsK, copyK, clearK, makeSliceK, buildSliceK, buildK, lookupK, mapPutK, mapOf, convK, allocK, indexK, partK, xxa, xxb, xxc, bne, Int.reduceEq, Int.reduceBEq, Int.reduceNe, Int.reduceBNe, Int.reduceLE, Int.reduceGT, Int.reduceGE, Int.reduceNeg, ↓reduceIte, reduceCtorEq, Nat.reduceEqDiff, Nat.reduceAdd, Nat.reduceMul, Nat.reduceSub, Nat.reduceLT, Int.reduceAdd, Int.reduceSub, Int.reduceMul, Int.reduceLT, Int.reduceToNat, ne_eq, *]; first | done | omega | rfl)) : p := h
theorem l25Has_c {H : Heap} {v : Value} {l : List Int} (hV : RowI H v l) (hl : l.length ≤ 1000000) (x : Int) : ACalls Try.prog 57 [v, I x] H fun u H' => u = B (decide (x ∈ l)) ∧ H' = H := by
  obtain ⟨p, k, rfl, hp, hh⟩ := hV
  refine ACalls.body Try.func57 rfl Try.ntmps57 (rs := [.tmp 4]) rfl (by simp) rfl fun Q hQ A hA => ?_
  have a0 := hA 0 _ _ rfl
  have a1 := hA 1 _ _ rfl
  clear hA
  repeat' first | refine rnEC ?_ | with_reducible refine And.intro (fun hc => ?_) (fun hc => ?_) | fail
  refine AWp.cut (fun Ac hAc => ?_)
  have c0 := gtEC (t := 0) hAc
  have c1 := gtEC (t := 1) hAc
  have c5 := gtEC (t := 5) hAc
  refine AWp.loop (fun A' H' => ∃ (j : Nat), Ag [6, 7, 8, 9, 10, 11, 12, 13, 14, 15, 16, 17] A' (put Ac (some 5) (I j)) ∧ j ≤ l.length ∧ ¬ x ∈ l.take j ∧ H' = H) (fun A' _ => l.length - (intV (A' 5)).toNat) ?_ ?_
  · exact ⟨0, agEC, by omega, by simp, rfl⟩
  · rintro A1 H1 ⟨j, hA, hj, hn, rfl⟩
    have d0 := hA.h 0 rfl
    have d1 := hA.h 1 rfl
    have d5 := hA.h 5 rfl
    by_cases hlt : j < l.length
    · obtain ⟨b, cs, ro, rfl, hb, hg, hc⟩ := hh j hlt
      have hgd : l.getD j 0 = l[j] := by simp [hlt]
      have htk : l.take (j + 1) = l.take j ++ [l[j]] := List.take_succ_eq_append_getElem hlt
      by_cases hy : l.getD j 0 = x
      · have hin : decide (x ∈ l) = true := decide_eq_true (by rw [← hy, hgd]; exact List.getElem_mem hlt)
        have hyb : (l.getD j 0 == x) = true := by rw [beq_iff_eq]; exact hy
        rw [hin] at hQ
        clear hy hgd
        generalize l.getD j 0 = y at *
        repeat' first | refine rnEC ?_ | with_reducible refine And.intro (fun hc => ?_) (fun hc => ?_) | fail
        exact hQ.out _ _ ⟨rfl, rfl⟩
      · have hyb : (l.getD j 0 == x) = false := by rw [beq_eq_false_iff_ne]; exact hy
        have hn2 : ¬ x ∈ l.take (j + 1) := by
          rw [htk, List.mem_append, List.mem_singleton]
          rintro (h | h)
          · exact hn h
          · exact hy (by rw [hgd, h])
        clear hy hgd htk
        generalize l.getD j 0 = y at *
        repeat' first | refine rnEC ?_ | with_reducible refine And.intro (fun hc => ?_) (fun hc => ?_) | fail
        refine ⟨⟨j + 1, agEC, by omega, hn2, rfl⟩, ?_⟩
        all_goals first | exact ivEC | refine smEC ?_ | skip
    · obtain rfl : j = l.length := by omega
      rw [List.take_of_length_le (Nat.le_refl _)] at hn
      have hin : decide (x ∈ l) = false := decide_eq_false hn
      rw [hin] at hQ
      repeat' first | refine rnEC ?_ | with_reducible refine And.intro (fun hc => ?_) (fun hc => ?_) | fail
      exact hQ.out _ _ ⟨rfl, rfl⟩
/-- The row in which an arc was seen last. -/
def ownI (acc : List Int) (k : Nat) (row : List Int) : Nat → List Int
  | 0 => acc
  | j + 1 => (ownI acc k row j).set (row.getD j 0).toNat (k : Int)
def ownO (M : Nat) (R : List (List Int)) : Nat → List Int
  | 0 => List.replicate M 0
  | k + 1 => ownI (ownO M R k) k (R.getD k []) (R.getD k []).length
theorem ownI_len (acc : List Int) (k : Nat) (row : List Int) (j : Nat) : (ownI acc k row j).length = acc.length := by
  induction j with
  | zero => rfl
  | succ j ih => unfold ownI; rw [List.length_set, ih]
theorem ownO_len (M : Nat) (R : List (List Int)) (k : Nat) : (ownO M R k).length = M := by
  induction k with
  | zero => simp [ownO]
  | succ k ih => unfold ownO; rw [ownI_len, ih]
theorem ownI_get {acc : List Int} {k : Nat} {row : List Int} (hr : ∀ x ∈ row, 0 ≤ x) {a : Nat} (ha : a < acc.length) : ∀ j, j ≤ row.length → (ownI acc k row j).getD a 0 = if (a : Int) ∈ row.take j then (k : Int) else acc.getD a 0
  | 0, _ => by simp [ownI]
  | j + 1, hj => by
    have ih := ownI_get hr ha (k := k) j (by omega)
    have hl := ownI_len acc k row j
    have hx : 0 ≤ row.getD j 0 := hr _ (by simp [show j < row.length by omega])
    have hg : row.getD j 0 = row[j] := by simp [show j < row.length by omega]
    unfold ownI
    rw [List.take_succ_eq_append_getElem (by omega)]
    simp only [List.mem_append, List.mem_singleton]
    rw [List.getD_eq_getElem?_getD, List.getElem?_set]
    by_cases e : (row.getD j 0).toNat = a
    · rw [if_pos e, if_pos (by omega), if_pos (.inr (by omega))]; rfl
    · rw [if_neg e, ← List.getD_eq_getElem?_getD, ih]
      by_cases e2 : (a : Int) ∈ row.take j
      · rw [if_pos e2, if_pos (.inl e2)]
      · rw [if_neg e2, if_neg (by rintro (h | h); exact e2 h; omega)]
theorem ownO_get {M : Nat} {R : List (List Int)} (hr : ∀ i, i < R.length → ∀ x ∈ R.getD i [], 0 ≤ x) (hu : ∀ (a : Nat) i j, i < R.length → j < R.length → (a : Int) ∈ R.getD i [] → (a : Int) ∈ R.getD j [] → i = j) {a : Nat} (ha : a < M) : ∀ k, k ≤ R.length → ∀ i, i < k → (a : Int) ∈ R.getD i [] → (ownO M R k).getD a 0 = i
  | 0, _, i, hi, _ => by omega
  | k + 1, hk, i, hi, hm => by
    unfold ownO
    rw [ownI_get (hr k (by omega)) (by rw [ownO_len]; exact ha) _ (Nat.le_refl _), List.take_of_length_le (Nat.le_refl _)]
    by_cases e : i = k
    · subst e; rw [if_pos hm]
    · rw [if_neg (fun h => e (hu a i k (by omega) (by omega) hm h))]
      exact ownO_get hr hu ha k (by omega) i (by omega) hm
theorem walk_mem {s : Nat → Nat} {N : Nat} (hs : ∀ x, x < N → s x < N) : ∀ f D a l, D.length = N → a < N → ∃ e : List Int, (walk s f D a l).2 = l ++ e ∧ (∀ x ∈ e, ∃ b : Nat, x = b ∧ b < N ∧ D.getD b false = false) ∧ ∀ b : Nat, b < N → ((walk s f D a l).1.getD b false = true ↔ D.getD b false = true ∨ (b : Int) ∈ e)
  | 0, D, a, l, _, _ => ⟨[], by simp [walk], fun x hx => by simp at hx, fun b hb => by simp [walk]⟩
  | f + 1, D, a, l, hD, ha => by
    unfold walk
    split
    · exact ⟨[], by simp, fun x hx => by simp at hx, fun b hb => by simp⟩
    · rename_i h
      obtain ⟨e, h1, h2, h3⟩ := walk_mem hs f (D.set a true) (s a) (l ++ [(a : Int)]) (by simpa using hD) (hs a ha)
      have hset : ∀ b : Nat, b < N → (D.set a true).getD b false = if a = b then true else D.getD b false := fun b hb => by
        rw [List.getD_eq_getElem?_getD, List.getElem?_set]
        split
        · rename_i e; subst e; rw [if_pos (by omega)]; rfl
        · rw [← List.getD_eq_getElem?_getD]
      refine ⟨(a : Int) :: e, by rw [h1]; simp, fun x hx => ?_, fun b hb => ?_⟩
      · rcases List.mem_cons.1 hx with rfl | hx
        · exact ⟨a, rfl, ha, by simpa using h⟩
        · obtain ⟨b, h4, h5, h6⟩ := h2 x hx
          rw [hset b h5] at h6
          split at h6
          · cases h6
          · exact ⟨b, h4, h5, h6⟩
      · rw [h3 b hb, hset b hb, List.mem_cons]
        by_cases e2 : a = b
        · subst e2; simp
        · rw [if_neg e2]
          constructor
          · rintro (q | q); exact .inl q; exact .inr (.inr q)
          · rintro (q | q | q); exact .inl q; exact absurd (by omega) e2; exact .inr q
theorem regs_mem {s : Nat → Nat} {N : Nat} (hs : ∀ x, x < N → s x < N) : ∀ k, k ≤ N → (∀ i, i < (regs s N k).2.length → ∀ x ∈ (regs s N k).2.getD i [], ∃ b : Nat, x = b ∧ b < N) ∧
    (∀ b : Nat, b < N → ((regs s N k).1.getD b false = true ↔ ∃ i, i < (regs s N k).2.length ∧ (b : Int) ∈ (regs s N k).2.getD i [])) ∧
    (∀ (b : Nat) i j, i < (regs s N k).2.length → j < (regs s N k).2.length → (b : Int) ∈ (regs s N k).2.getD i [] → (b : Int) ∈ (regs s N k).2.getD j [] → i = j) ∧ ∀ b : Nat, b < k → (regs s N k).1.getD b false = true
  | 0, _ => ⟨fun i hi => by simp [regs] at hi, fun b hb => by simp [regs, List.getElem?_replicate, hb], fun b i j hi => by simp [regs] at hi, fun b hb => by omega⟩
  | k + 1, hk => by
    obtain ⟨h1, h2, h3, h4⟩ := regs_mem hs k (by omega)
    have hlen := regs_len s N k
    unfold regs
    split
    · rename_i hd
      refine ⟨h1, h2, h3, fun b hb => ?_⟩
      by_cases e : b = k
      · rw [e]; exact hd
      · exact h4 b (by omega)
    · rename_i hd
      obtain ⟨e, w1, w2, w3⟩ := walk_mem hs (N + 1) (regs s N k).1 k [] hlen (by omega)
      rw [List.nil_append] at w1
      generalize hR : (regs s N k).2 = R at *
      generalize hD : (regs s N k).1 = D at *
      have hget : ∀ i, (R ++ [(walk s (N + 1) D k []).2]).getD i [] = if i < R.length then R.getD i [] else if i = R.length then e else [] := fun i => by
        rw [List.getD_eq_getElem?_getD]
        split
        · rename_i h; rw [List.getElem?_append_left h, ← List.getD_eq_getElem?_getD]
        · rename_i h
          rw [List.getElem?_append_right (by omega)]
          split
          · rename_i h5; subst h5; rw [Nat.sub_self]; simp [w1]
          · rename_i h5
            rw [List.getElem?_eq_none (by simp; omega)]; rfl
      have hfr : ∀ b : Nat, (b : Int) ∈ e → ∀ i, i < R.length → ¬ (b : Int) ∈ R.getD i [] := fun b hb i hi hm => by
        obtain ⟨b', q1, q2, q3⟩ := w2 _ hb
        have : b' = b := by omega
        subst this
        rw [(h2 b' q2).2 ⟨i, hi, hm⟩] at q3
        cases q3
      refine ⟨fun i hi x hx => ?_, fun b hb => ?_, fun b i j hi hj hbi hbj => ?_, fun b hb => ?_⟩
      · rw [hget] at hx
        split at hx
        · rename_i h; exact h1 i h x hx
        · split at hx
          · obtain ⟨b, q1, q2, _⟩ := w2 x hx; exact ⟨b, q1, q2⟩
          · simp at hx
      · dsimp only
        rw [w3 b hb, h2 b hb]
        constructor
        · rintro (⟨i, q1, q2⟩ | q)
          · exact ⟨i, by simp; omega, by rw [hget, if_pos q1]; exact q2⟩
          · exact ⟨R.length, by simp, by rw [hget, if_neg (by omega), if_pos rfl]; exact q⟩
        · rintro ⟨i, q1, q2⟩
          rw [hget] at q2
          split at q2
          · rename_i h; exact .inl ⟨i, h, q2⟩
          · split at q2
            · exact .inr q2
            · simp at q2
      · rw [hget] at hbi hbj
        split at hbi
        · rename_i g1
          split at hbj
          · rename_i g2; exact h3 b i j g1 g2 hbi hbj
          · split at hbj
            · exact absurd hbi (hfr b hbj i g1)
            · simp at hbj
        · split at hbi
          · rename_i g1 g2
            split at hbj
            · rename_i g3; exact absurd hbj (hfr b hbi j g3)
            · split at hbj
              · omega
              · simp at hbj
          · simp at hbi
      · dsimp only
        rw [w3 b (by omega)]
        by_cases q : b = k
        · subst q
          right
          have : (walk s (N + 1) D b []).1.getD b false = true := by
            unfold walk
            rw [if_neg hd]
            obtain ⟨e2, _, _, v3⟩ := walk_mem hs N (D.set b true) (s b) ([] ++ [(b : Int)]) (by simpa using hlen) (hs b (by omega))
            rw [v3 b (by omega)]
            left
            rw [List.getD_eq_getElem?_getD, List.getElem?_set, if_pos rfl, if_pos (by omega)]; rfl
          rcases (w3 b (by omega)).1 this with h5 | h5
          · exact absurd h5 hd
          · exact h5
        · exact .inl (h4 b (by omega))
end Go.Proofs.Ytpbbfephfmdgmaa.Rai
