/- A part of the walk: what functions of the program do, over an abstract heap. -/
import Derived.Test.YtibkopejnhihkaaF21
namespace Go.Proofs.Ytibkopejnhihkaa.Rai
open Go TP
set_option linter.unusedVariables false
set_option linter.unusedSimpArgs false
set_option maxRecDepth 20000
theorem tfF23 : (Try.prog.underlying 27 = some (.slice 89)) ∧ (el Try.prog 27 = some (none, 1)) ∧ (Try.prog.underlying 36 = some (.slice 2)) ∧ (el Try.prog 36 = some (none, 1)) ∧ (Try.prog.underlying 44 = some (.slice 36)) ∧ (el Try.prog 44 = some (none, 1)) ∧ (tk Try.prog 2 = some none) ∧ (tk Try.prog 27 = some none) ∧ (tk Try.prog 29 = some (some 1)) ∧ (tk Try.prog 36 = some none) ∧ (tk Try.prog 44 = some none) ∧ (tk Try.prog 50 = some (some 3)) ∧ (tk Try.prog 89 = some none) ∧ (cz Try.prog 2 = some 1) ∧ (bz Try.prog 2 = some 8) ∧ (cz Try.prog 36 = some 1) ∧ (bz Try.prog 36 = some 24) ∧ (cz Try.prog 89 = some 1) ∧ (bz Try.prog 89 = some 24) ∧ (zr Try.prog 2 = some (.int .i64 0)) ∧ (zr Try.prog 36 = some (.slice none 0 0)) ∧ (zr Try.prog 50 = some (.agg #[.slice none 0 0, .slice none 0 0, .slice none 0 0])) ∧ (zr Try.prog 89 = some (.slice none 0 0)) ∧ (fo Try.prog 29 0 = some (0, none)) ∧ (fo Try.prog 50 1 = some (1, none)) := by
  refine ⟨?_, ?_, ?_, ?_, ?_, ?_, ?_, ?_, ?_, ?_, ?_, ?_, ?_, ?_, ?_, ?_, ?_, ?_, ?_, ?_, ?_, ?_, ?_, ?_, ?_⟩ <;> kernel_rfl
theorem maxTo_ge (l : List Int) : ∀ k j, j < k → l.getD j 0 ≤ maxTo l k
  | 0, j, h => by omega
  | k + 1, j, h => by
    simp only [maxTo]
    rcases Nat.lt_succ_iff_lt_or_eq.1 h with h | rfl
    · have := maxTo_ge l k j h
      omega
    · omega
theorem lt_classN (l : List Int) (j : Nat) (h : j < l.length) : l.getD j 0 < classN l := by
  unfold classN
  rw [if_neg (by omega)]
  have := maxTo_ge l l.length j h
  omega
/-- How often each class has come up. -/
def degTo (l : List Int) : Nat → List Int
  | 0 => List.replicate (classN l).toNat 0
  | j + 1 => (degTo l j).set (l.getD j 0).toNat ((degTo l j).getD (l.getD j 0).toNat 0 + 1)
theorem degTo_len (l : List Int) (j : Nat) : (degTo l j).length = (classN l).toNat := by
  induction j with
  | zero => simp [degTo]
  | succ j ih => simp [degTo, ih]
theorem degTo_bd (l : List Int) (j : Nat) : ∀ x, 0 ≤ (degTo l j).getD x 0 ∧ (degTo l j).getD x 0 ≤ j := by
  induction j with
  | zero =>
    intro x
    by_cases h : x < (classN l).toNat <;> simp [degTo, h]
  | succ j ih =>
    intro x
    have h1 := ih x
    have h2 := ih (l.getD j 0).toNat
    simp only [degTo]
    by_cases e : (l.getD j 0).toNat = x
    · subst e
      by_cases hl : (l.getD j 0).toNat < (degTo l j).length
      · rw [List.getD_eq_getElem?_getD, List.getElem?_set_self hl]
        simp only [Option.getD_some]; omega
      · rw [List.getD_eq_getElem?_getD, List.getElem?_eq_none (by rw [List.length_set]; omega)]
        simp only [Option.getD_none]; omega
    · rw [List.getD_eq_getElem?_getD, List.getElem?_set_ne e, ← List.getD_eq_getElem?_getD]
      omega
def nCode (T : List (List (Int × Int))) : Int := if IsTri T then (if T.length ≤ 6 then 0 else 3) else 1
def degL (T : List (List (Int × Int))) : List Int := if nCode T = 0 then degTo (edgeL T) (6 * T.length) else []
theorem nCode_zero {T : List (List (Int × Int))} (h : nCode T = 0) : IsTri T ∧ T.length ≤ 6 := by
  unfold nCode at h
  split at h
  · split at h
    · exact ⟨by assumption, by assumption⟩
    · omega
  · omega
theorem l17Code_c {H : Heap} {v : Value} {T : List (List (Int × Int))} (hT : RowT H v T) (hl : T.length ≤ 1048576) : ACalls Try.prog 67 [.agg #[v]] H fun u H' => u = I (nCode T) ∧ Ext H H' := by
  have hT1 := fun {H' : Heap} (h : Ext H H') => hT.ext h
  obtain ⟨p, k, rfl, hp, hh⟩ := hT
  clear hh
  refine ACalls.body Try.func67 rfl Try.ntmps67 (rs := [.tmp 2]) rfl (by simp) rfl fun Q hQ A hA => ?_
  have a0 := hA 0 _ _ rfl
  clear hA
  by_cases h : IsTri T
  · have hd : decide (IsTri T) = true := by simpa using h
    by_cases h6 : T.length ≤ 6
    · have hn : nCode T = 0 := by unfold nCode; rw [if_pos h, if_pos h6]
      repeat' first
       | (with_reducible first | refine AOps.nil ?_ | refine athen_n ?_ | refine athen_r ?_ | refine athen_e ?_ | refine ablock_n ?_ | refine ablock_r ?_ | refine ablock_s ?_ | refine AWp.seq' ?_ | refine AWp.block ?_ | refine AWp.skip ?_ | refine AWp.exit ?_ | refine AWp.ret ?_ | refine AWp.region ?_) | (with_reducible refine ablock_e ?_ ?_; focus rfl)
       | ((first | refine AOps.cons1 rfl rfl rfl fun K hK => ?_ | refine AWp.cond rfl fun X Y hX hY => ?_ | refine aret_r ?_ | refine aret_n ?_); simp (disch := (first | omega | (simp only [nx]; first | done | omega))) only [acond_bool, aresK, retv, xxq, tfF23, xxa, xxb, xxc, bne, ↓reduceIte, reduceCtorEq, Nat.reduceEqDiff, Nat.reduceAdd, Nat.reduceMul, Nat.reduceSub, Nat.reduceLT, Int.reduceAdd, Int.reduceSub, Int.reduceMul, Int.reduceLT, Int.reduceToNat, ne_eq, *]; (repeat first | ((with_reducible refine And.intro (fun hc => ?_) (fun hc => absurd hc (by omega))); clear hc) | ((with_reducible refine And.intro (fun hc => absurd hc (by omega)) (fun hc => ?_)); clear hc) | ((with_reducible refine And.intro ?_ ?_); focus ((first | omega | assumption | exact cok _ rfl | exact one_ints _ | exact one_map fun _ => rfl | ((repeat refine one_cons (by first | rfl | assumption) ?_); exact one_nil) | rfl | decide | (intro u hu; cases hu)); done)) | (with_reducible refine (fun hc => ?_ : _ → _); clear hc)); (first | (refine hK.out _ _ ?_; clear hK K) | (refine And.intro (hK.out _ _ ?_) (hK.out _ _ ?_) <;> clear hK K) | (refine (specIsTri_c (hT1 (by ((repeat first | exact Ext.refl _ | assumption | refine Ext.push ?_ _ | refine Ext.set ?_ _ (by first | omega | (simp only [nx, *]; omega)) | (apply Ext.up; focus (assumption; done))); done))) hl).mono ?_; rintro u H1 ⟨rfl, hx1⟩; have hx1g := hx1.get; have hx1s := hx1.size; (try simp only [nx] at hx1s); refine hK.out _ _ ?_; try clear hK K) | (refine (l07Tets_c _ _ _).mono ?_; rintro v H3 ⟨rfl, hx3⟩; have hx3g := hx3.get; have hx3s := hx3.size; (try simp only [nx] at hx3s); refine hK.out _ _ ?_; try clear hK K) | (refine hX.out ?_; try clear hX hY X Y) | (refine hY.out ?_; try clear hX hY X Y) | (refine And.intro (fun hc => ?_) (fun hc => ?_) <;> first | (exfalso; omega) | (refine hX.out ?_; try clear hX hY X Y) | (refine hY.out ?_; try clear hX hY X Y)) | skip))
      exact hQ.out _ _ ⟨by rw [hn], by ((repeat first | exact Ext.refl _ | assumption | refine Ext.push ?_ _ | refine Ext.set ?_ _ (by first | omega | (simp only [nx, *]; omega)) | (apply Ext.up; focus (assumption; done))); done)⟩
    · have hn : nCode T = 3 := by unfold nCode; rw [if_pos h, if_neg h6]
      repeat' first
       | (with_reducible first | refine AOps.nil ?_ | refine athen_n ?_ | refine athen_r ?_ | refine athen_e ?_ | refine ablock_n ?_ | refine ablock_r ?_ | refine ablock_s ?_ | refine AWp.seq' ?_ | refine AWp.block ?_ | refine AWp.skip ?_ | refine AWp.exit ?_ | refine AWp.ret ?_ | refine AWp.region ?_) | (with_reducible refine ablock_e ?_ ?_; focus rfl)
       | ((first | refine AOps.cons1 rfl rfl rfl fun K hK => ?_ | refine AWp.cond rfl fun X Y hX hY => ?_ | refine aret_r ?_ | refine aret_n ?_); simp (disch := (first | omega | (simp only [nx]; first | done | omega))) only [acond_bool, aresK, retv, xxq, tfF23, xxa, xxb, xxc, bne, ↓reduceIte, reduceCtorEq, Nat.reduceEqDiff, Nat.reduceAdd, Nat.reduceMul, Nat.reduceSub, Nat.reduceLT, Int.reduceAdd, Int.reduceSub, Int.reduceMul, Int.reduceLT, Int.reduceToNat, ne_eq, *]; (repeat first | ((with_reducible refine And.intro (fun hc => ?_) (fun hc => absurd hc (by omega))); clear hc) | ((with_reducible refine And.intro (fun hc => absurd hc (by omega)) (fun hc => ?_)); clear hc) | ((with_reducible refine And.intro ?_ ?_); focus ((first | omega | assumption | exact cok _ rfl | exact one_ints _ | exact one_map fun _ => rfl | ((repeat refine one_cons (by first | rfl | assumption) ?_); exact one_nil) | rfl | decide | (intro u hu; cases hu)); done)) | (with_reducible refine (fun hc => ?_ : _ → _); clear hc)); (first | (refine hK.out _ _ ?_; clear hK K) | (refine And.intro (hK.out _ _ ?_) (hK.out _ _ ?_) <;> clear hK K) | (refine (specIsTri_c (hT1 (by ((repeat first | exact Ext.refl _ | assumption | refine Ext.push ?_ _ | refine Ext.set ?_ _ (by first | omega | (simp only [nx, *]; omega)) | (apply Ext.up; focus (assumption; done))); done))) hl).mono ?_; rintro u H1 ⟨rfl, hx1⟩; have hx1g := hx1.get; have hx1s := hx1.size; (try simp only [nx] at hx1s); refine hK.out _ _ ?_; try clear hK K) | (refine (l07Tets_c _ _ _).mono ?_; rintro v H3 ⟨rfl, hx3⟩; have hx3g := hx3.get; have hx3s := hx3.size; (try simp only [nx] at hx3s); refine hK.out _ _ ?_; try clear hK K) | (refine hX.out ?_; try clear hX hY X Y) | (refine hY.out ?_; try clear hX hY X Y) | (refine And.intro (fun hc => ?_) (fun hc => ?_) <;> first | (exfalso; omega) | (refine hX.out ?_; try clear hX hY X Y) | (refine hY.out ?_; try clear hX hY X Y)) | skip))
      exact hQ.out _ _ ⟨by rw [hn], by ((repeat first | exact Ext.refl _ | assumption | refine Ext.push ?_ _ | refine Ext.set ?_ _ (by first | omega | (simp only [nx, *]; omega)) | (apply Ext.up; focus (assumption; done))); done)⟩
  · have hd : decide (IsTri T) = false := by simpa using h
    have hn : nCode T = 1 := by unfold nCode; rw [if_neg h]
    repeat' first
     | (with_reducible first | refine AOps.nil ?_ | refine athen_n ?_ | refine athen_r ?_ | refine athen_e ?_ | refine ablock_n ?_ | refine ablock_r ?_ | refine ablock_s ?_ | refine AWp.seq' ?_ | refine AWp.block ?_ | refine AWp.skip ?_ | refine AWp.exit ?_ | refine AWp.ret ?_ | refine AWp.region ?_) | (with_reducible refine ablock_e ?_ ?_; focus rfl)
     | ((first | refine AOps.cons1 rfl rfl rfl fun K hK => ?_ | refine AWp.cond rfl fun X Y hX hY => ?_ | refine aret_r ?_ | refine aret_n ?_); simp (disch := (first | omega | (simp only [nx]; first | done | omega))) only [acond_bool, aresK, retv, xxq, tfF23, xxa, xxb, xxc, bne, ↓reduceIte, reduceCtorEq, Nat.reduceEqDiff, Nat.reduceAdd, Nat.reduceMul, Nat.reduceSub, Nat.reduceLT, Int.reduceAdd, Int.reduceSub, Int.reduceMul, Int.reduceLT, Int.reduceToNat, ne_eq, *]; (repeat first | ((with_reducible refine And.intro (fun hc => ?_) (fun hc => absurd hc (by omega))); clear hc) | ((with_reducible refine And.intro (fun hc => absurd hc (by omega)) (fun hc => ?_)); clear hc) | ((with_reducible refine And.intro ?_ ?_); focus ((first | omega | assumption | exact cok _ rfl | exact one_ints _ | exact one_map fun _ => rfl | ((repeat refine one_cons (by first | rfl | assumption) ?_); exact one_nil) | rfl | decide | (intro u hu; cases hu)); done)) | (with_reducible refine (fun hc => ?_ : _ → _); clear hc)); (first | (refine hK.out _ _ ?_; clear hK K) | (refine And.intro (hK.out _ _ ?_) (hK.out _ _ ?_) <;> clear hK K) | (refine (specIsTri_c (hT1 (by ((repeat first | exact Ext.refl _ | assumption | refine Ext.push ?_ _ | refine Ext.set ?_ _ (by first | omega | (simp only [nx, *]; omega)) | (apply Ext.up; focus (assumption; done))); done))) hl).mono ?_; rintro u H1 ⟨rfl, hx1⟩; have hx1g := hx1.get; have hx1s := hx1.size; (try simp only [nx] at hx1s); refine hK.out _ _ ?_; try clear hK K) | (refine hX.out ?_; try clear hX hY X Y) | (refine hY.out ?_; try clear hX hY X Y) | (refine And.intro (fun hc => ?_) (fun hc => ?_) <;> first | (exfalso; omega) | (refine hX.out ?_; try clear hX hY X Y) | (refine hY.out ?_; try clear hX hY X Y)) | skip))
    exact hQ.out _ _ ⟨by rw [hn], by ((repeat first | exact Ext.refl _ | assumption | refine Ext.push ?_ _ | refine Ext.set ?_ _ (by first | omega | (simp only [nx, *]; omega)) | (apply Ext.up; focus (assumption; done))); done)⟩
theorem normalCode_c {H : Heap} {v : Value} {T : List (List (Int × Int))} (hT : RowT H v T) (hl : T.length ≤ 1048576) : ACalls Try.prog 68 [.agg #[v]] H fun u H' => u = I (nCode T) ∧ Ext H H' := by
  have hT1 := fun {H' : Heap} (h : Ext H H') => hT.ext h
  obtain ⟨p, k, rfl, hp, hh⟩ := hT
  clear hh
  refine ACalls.body Try.func68 rfl Try.ntmps68 (rs := [.tmp 2]) rfl (by simp) rfl fun Q hQ A hA => ?_
  have a0 := hA 0 _ _ rfl
  clear hA
  by_cases h : IsTri T
  · have hd : decide (IsTri T) = true := by simpa using h
    by_cases h6 : T.length ≤ 6
    · have hn : nCode T = 0 := by unfold nCode; rw [if_pos h, if_pos h6]
      repeat' first
       | (with_reducible first | refine AOps.nil ?_ | refine athen_n ?_ | refine athen_r ?_ | refine athen_e ?_ | refine ablock_n ?_ | refine ablock_r ?_ | refine ablock_s ?_ | refine AWp.seq' ?_ | refine AWp.block ?_ | refine AWp.skip ?_ | refine AWp.exit ?_ | refine AWp.ret ?_ | refine AWp.region ?_) | (with_reducible refine ablock_e ?_ ?_; focus rfl)
       | ((first | refine AOps.cons1 rfl rfl rfl fun K hK => ?_ | refine AWp.cond rfl fun X Y hX hY => ?_ | refine aret_r ?_ | refine aret_n ?_); simp (disch := (first | omega | (simp only [nx]; first | done | omega))) only [acond_bool, aresK, retv, xxq, tfF23, mapOf, xxa, xxb, xxc, bne, ↓reduceIte, reduceCtorEq, Nat.reduceEqDiff, Nat.reduceAdd, Nat.reduceMul, Nat.reduceSub, Nat.reduceLT, Int.reduceAdd, Int.reduceSub, Int.reduceMul, Int.reduceLT, Int.reduceToNat, ne_eq, *]; (repeat first | ((with_reducible refine And.intro (fun hc => ?_) (fun hc => absurd hc (by omega))); clear hc) | ((with_reducible refine And.intro (fun hc => absurd hc (by omega)) (fun hc => ?_)); clear hc) | ((with_reducible refine And.intro ?_ ?_); focus ((first | omega | assumption | exact cok _ rfl | exact one_ints _ | exact one_map fun _ => rfl | ((repeat refine one_cons (by first | rfl | assumption) ?_); exact one_nil) | rfl | decide | (intro u hu; cases hu)); done)) | (with_reducible refine (fun hc => ?_ : _ → _); clear hc)); (first | (refine hK.out _ _ ?_; clear hK K) | (refine And.intro (hK.out _ _ ?_) (hK.out _ _ ?_) <;> clear hK K) | (refine (isTriangulation_c (hT1 (by ((repeat first | exact Ext.refl _ | assumption | refine Ext.push ?_ _ | refine Ext.set ?_ _ (by first | omega | (simp only [nx, *]; omega)) | (apply Ext.up; focus (assumption; done))); done))) hl).mono ?_; rintro u H1 ⟨rfl, hx1⟩; have hx1g := hx1.get; have hx1s := hx1.size; (try simp only [nx] at hx1s); refine hK.out _ _ ?_; try clear hK K) | (refine hX.out ?_; try clear hX hY X Y) | (refine hY.out ?_; try clear hX hY X Y) | (refine And.intro (fun hc => ?_) (fun hc => ?_) <;> first | (exfalso; omega) | (refine hX.out ?_; try clear hX hY X Y) | (refine hY.out ?_; try clear hX hY X Y)) | skip))
      exact hQ.out _ _ ⟨by rw [hn], by ((repeat first | exact Ext.refl _ | assumption | refine Ext.push ?_ _ | refine Ext.set ?_ _ (by first | omega | (simp only [nx, *]; omega)) | (apply Ext.up; focus (assumption; done))); done)⟩
    · have hn : nCode T = 3 := by unfold nCode; rw [if_pos h, if_neg h6]
      repeat' first
       | (with_reducible first | refine AOps.nil ?_ | refine athen_n ?_ | refine athen_r ?_ | refine athen_e ?_ | refine ablock_n ?_ | refine ablock_r ?_ | refine ablock_s ?_ | refine AWp.seq' ?_ | refine AWp.block ?_ | refine AWp.skip ?_ | refine AWp.exit ?_ | refine AWp.ret ?_ | refine AWp.region ?_) | (with_reducible refine ablock_e ?_ ?_; focus rfl)
       | ((first | refine AOps.cons1 rfl rfl rfl fun K hK => ?_ | refine AWp.cond rfl fun X Y hX hY => ?_ | refine aret_r ?_ | refine aret_n ?_); simp (disch := (first | omega | (simp only [nx]; first | done | omega))) only [acond_bool, aresK, retv, xxq, tfF23, mapOf, xxa, xxb, xxc, bne, ↓reduceIte, reduceCtorEq, Nat.reduceEqDiff, Nat.reduceAdd, Nat.reduceMul, Nat.reduceSub, Nat.reduceLT, Int.reduceAdd, Int.reduceSub, Int.reduceMul, Int.reduceLT, Int.reduceToNat, ne_eq, *]; (repeat first | ((with_reducible refine And.intro (fun hc => ?_) (fun hc => absurd hc (by omega))); clear hc) | ((with_reducible refine And.intro (fun hc => absurd hc (by omega)) (fun hc => ?_)); clear hc) | ((with_reducible refine And.intro ?_ ?_); focus ((first | omega | assumption | exact cok _ rfl | exact one_ints _ | exact one_map fun _ => rfl | ((repeat refine one_cons (by first | rfl | assumption) ?_); exact one_nil) | rfl | decide | (intro u hu; cases hu)); done)) | (with_reducible refine (fun hc => ?_ : _ → _); clear hc)); (first | (refine hK.out _ _ ?_; clear hK K) | (refine And.intro (hK.out _ _ ?_) (hK.out _ _ ?_) <;> clear hK K) | (refine (isTriangulation_c (hT1 (by ((repeat first | exact Ext.refl _ | assumption | refine Ext.push ?_ _ | refine Ext.set ?_ _ (by first | omega | (simp only [nx, *]; omega)) | (apply Ext.up; focus (assumption; done))); done))) hl).mono ?_; rintro u H1 ⟨rfl, hx1⟩; have hx1g := hx1.get; have hx1s := hx1.size; (try simp only [nx] at hx1s); refine hK.out _ _ ?_; try clear hK K) | (refine hX.out ?_; try clear hX hY X Y) | (refine hY.out ?_; try clear hX hY X Y) | (refine And.intro (fun hc => ?_) (fun hc => ?_) <;> first | (exfalso; omega) | (refine hX.out ?_; try clear hX hY X Y) | (refine hY.out ?_; try clear hX hY X Y)) | skip))
      exact hQ.out _ _ ⟨by rw [hn], by ((repeat first | exact Ext.refl _ | assumption | refine Ext.push ?_ _ | refine Ext.set ?_ _ (by first | omega | (simp only [nx, *]; omega)) | (apply Ext.up; focus (assumption; done))); done)⟩
  · have hd : decide (IsTri T) = false := by simpa using h
    have hn : nCode T = 1 := by unfold nCode; rw [if_neg h]
    repeat' first
     | (with_reducible first | refine AOps.nil ?_ | refine athen_n ?_ | refine athen_r ?_ | refine athen_e ?_ | refine ablock_n ?_ | refine ablock_r ?_ | refine ablock_s ?_ | refine AWp.seq' ?_ | refine AWp.block ?_ | refine AWp.skip ?_ | refine AWp.exit ?_ | refine AWp.ret ?_ | refine AWp.region ?_) | (with_reducible refine ablock_e ?_ ?_; focus rfl)
     | ((first | refine AOps.cons1 rfl rfl rfl fun K hK => ?_ | refine AWp.cond rfl fun X Y hX hY => ?_ | refine aret_r ?_ | refine aret_n ?_); simp (disch := (first | omega | (simp only [nx]; first | done | omega))) only [acond_bool, aresK, retv, xxq, tfF23, mapOf, xxa, xxb, xxc, bne, ↓reduceIte, reduceCtorEq, Nat.reduceEqDiff, Nat.reduceAdd, Nat.reduceMul, Nat.reduceSub, Nat.reduceLT, Int.reduceAdd, Int.reduceSub, Int.reduceMul, Int.reduceLT, Int.reduceToNat, ne_eq, *]; (repeat first | ((with_reducible refine And.intro (fun hc => ?_) (fun hc => absurd hc (by omega))); clear hc) | ((with_reducible refine And.intro (fun hc => absurd hc (by omega)) (fun hc => ?_)); clear hc) | ((with_reducible refine And.intro ?_ ?_); focus ((first | omega | assumption | exact cok _ rfl | exact one_ints _ | exact one_map fun _ => rfl | ((repeat refine one_cons (by first | rfl | assumption) ?_); exact one_nil) | rfl | decide | (intro u hu; cases hu)); done)) | (with_reducible refine (fun hc => ?_ : _ → _); clear hc)); (first | (refine hK.out _ _ ?_; clear hK K) | (refine And.intro (hK.out _ _ ?_) (hK.out _ _ ?_) <;> clear hK K) | (refine (isTriangulation_c (hT1 (by ((repeat first | exact Ext.refl _ | assumption | refine Ext.push ?_ _ | refine Ext.set ?_ _ (by first | omega | (simp only [nx, *]; omega)) | (apply Ext.up; focus (assumption; done))); done))) hl).mono ?_; rintro u H1 ⟨rfl, hx1⟩; have hx1g := hx1.get; have hx1s := hx1.size; (try simp only [nx] at hx1s); refine hK.out _ _ ?_; try clear hK K) | (refine hX.out ?_; try clear hX hY X Y) | (refine hY.out ?_; try clear hX hY X Y) | (refine And.intro (fun hc => ?_) (fun hc => ?_) <;> first | (exfalso; omega) | (refine hX.out ?_; try clear hX hY X Y) | (refine hY.out ?_; try clear hX hY X Y)) | skip))
    exact hQ.out _ _ ⟨by rw [hn], by ((repeat first | exact Ext.refl _ | assumption | refine Ext.push ?_ _ | refine Ext.set ?_ _ (by first | omega | (simp only [nx, *]; omega)) | (apply Ext.up; focus (assumption; done))); done)⟩
set_option maxHeartbeats 1000000 in
theorem EdgeDegrees_c {H : Heap} {v : Value} {T : List (List (Int × Int))} (hT : RowT H v T) (hl : T.length ≤ 1048576) : ACalls Try.prog 23 [.agg #[v]] H fun u H' => ∃ w, u = .tuple #[w, I (nCode T)] ∧ OwnR H.size H'.size H' w (degL T) ∧ Ext H H' := by
  have hT1 := fun {H' : Heap} (h : Ext H H') => hT.ext h
  have hv := hT.one
  clear hT
  refine ACalls.body Try.func23 rfl Try.ntmps23 (rs := [.tmp 2, .tmp 3]) rfl (by simp) rfl fun Q hQ A hA => ?_
  have a0 := hA 0 _ _ rfl
  clear hA
  by_cases h0 : nCode T = 0
  · obtain ⟨hI, h6⟩ := nCode_zero h0
    have hdl : degL T = degTo (edgeL T) (6 * T.length) := by unfold degL; rw [if_pos h0]
    simp only [hdl] at hQ
    have hle := edgeL_len T
    have hbd := edgeL_bd T hI.1
    have hb0 : ∀ j, 0 ≤ (edgeL T).getD j 0 := by
      intro j
      by_cases hj : j < (edgeL T).length
      · have := hbd _ (List.getElem_mem hj); simp [hj]; omega
      · simp [List.getD_eq_getElem?_getD, List.getElem?_eq_none (Nat.le_of_not_lt hj)]
    have hlt := lt_classN (edgeL T)
    have hcn : 0 ≤ classN (edgeL T) ∧ classN (edgeL T) ≤ 100001 := by
      unfold classN
      split
      · omega
      · have := TP.maxTo_bd (edgeL T) 100000 hbd (by omega) (edgeL T).length (Nat.le_refl _); omega
    obtain ⟨N, hN⟩ : ∃ N : Nat, classN (edgeL T) = N := ⟨(classN (edgeL T)).toNat, by omega⟩
    have hdn := degTo_len (edgeL T)
    have hdb := degTo_bd (edgeL T)
    have hd0 : degTo (edgeL T) 0 = List.replicate N 0 := by simp [degTo, hN]
    have hds : ∀ j, degTo (edgeL T) (j + 1) = (degTo (edgeL T) j).set ((edgeL T).getD j 0).toNat ((degTo (edgeL T) j).getD ((edgeL T).getD j 0).toNat 0 + 1) := fun j => rfl
    rw [hN] at hlt hcn
    simp only [hN, Int.toNat_natCast] at hdn
    repeat' first
     | (with_reducible first | refine AOps.nil ?_ | refine athen_n ?_ | refine athen_r ?_ | refine athen_e ?_ | refine ablock_n ?_ | refine ablock_r ?_ | refine ablock_s ?_ | refine AWp.seq' ?_ | refine AWp.block ?_ | refine AWp.skip ?_ | refine AWp.exit ?_ | refine AWp.ret ?_ | refine AWp.region ?_) | (with_reducible refine ablock_e ?_ ?_; focus rfl)
     | ((first | refine AOps.cons1 rfl rfl rfl fun K hK => ?_ | refine AWp.cond rfl fun X Y hX hY => ?_ | refine aret_r ?_ | refine aret_n ?_); simp (disch := (first | omega | (simp only [nx]; first | done | omega))) only [acond_bool, aresK, retv, xxq, tfF23, makeSliceK, mapOf, xxa, xxb, xxc, bne, ↓reduceIte, reduceCtorEq, Nat.reduceEqDiff, Nat.reduceAdd, Nat.reduceMul, Nat.reduceSub, Nat.reduceLT, Int.reduceAdd, Int.reduceSub, Int.reduceMul, Int.reduceLT, Int.reduceToNat, ne_eq, *]; (repeat first | ((with_reducible refine And.intro (fun hc => ?_) (fun hc => absurd hc (by omega))); clear hc) | ((with_reducible refine And.intro (fun hc => absurd hc (by omega)) (fun hc => ?_)); clear hc) | ((with_reducible refine And.intro ?_ ?_); focus ((first | omega | assumption | exact cok _ rfl | exact one_ints _ | exact one_map fun _ => rfl | ((repeat refine one_cons (by first | rfl | assumption) ?_); exact one_nil) | rfl | decide | (intro u hu; cases hu)); done)) | (with_reducible refine (fun hc => ?_ : _ → _); clear hc)); (first | (refine hK.out _ _ ?_; clear hK K) | (refine And.intro (hK.out _ _ ?_) (hK.out _ _ ?_) <;> clear hK K) | (refine (normalCode_c (hT1 (by ((repeat first | exact Ext.refl _ | assumption | refine Ext.push ?_ _ | refine Ext.set ?_ _ (by first | omega | (simp only [nx, *]; omega)) | (apply Ext.up; focus (assumption; done))); done))) hl).mono ?_; rintro u H1 ⟨rfl, hx1⟩; have hx1g := hx1.get; have hx1s := hx1.size; (try simp only [nx] at hx1s); rw [h0]; refine hK.out _ _ ?_; try clear hK K) | (refine (edgeClasses_c (hT1 (by ((repeat first | exact Ext.refl _ | assumption | refine Ext.push ?_ _ | refine Ext.set ?_ _ (by first | omega | (simp only [nx, *]; omega)) | (apply Ext.up; focus (assumption; done))); done))) hI.fine).mono ?_; rintro u H2 ⟨hO2, hx2⟩; have hx2g := hx2.get; have hx2s := hx2.size; (try simp only [nx] at hx2s); obtain ⟨pe, ke, rfl, hpe, hhe⟩ := hO2.row; rw [hle] at hO2; refine hK.out _ _ ?_; try clear hK K) | (refine (classCount_c (OwnI.row hO2) (by omega) hbd).mono ?_; rintro u H2 ⟨rfl, rfl⟩; rw [hN]; refine hK.out _ _ ?_; try clear hK K) | (refine hX.out ?_; try clear hX hY X Y) | (refine hY.out ?_; try clear hX hY X Y) | (refine And.intro (fun hc => ?_) (fun hc => ?_) <;> first | (exfalso; omega) | (refine hX.out ?_; try clear hX hY X Y) | (refine hY.out ?_; try clear hX hY X Y)) | skip))
    refine AWp.loop (fun A H' => ∃ j : Nat, j ≤ 6 * T.length ∧ A 6 = .slice (some ⟨H2.size, 0, none⟩) N (N + 1) ∧ A 19 = .slice pe (6 * T.length) ke ∧ A 20 = I (6 * T.length : Nat) ∧ A 21 = I j ∧ H'.get H2.size = .cells (ints (degTo (edgeL T) j)) 1 false ∧ H2.size < H'.size ∧ Ext H2 H') (fun A _ => 6 * T.length - (intV (A 21)).toNat) ?_ ?_
    · refine ⟨0, by omega, ?_, ?_, ?_, ?_, ?_, ?_, ?_⟩
      all_goals first | omega | ((repeat first | exact Ext.refl _ | assumption | refine Ext.push ?_ _ | refine Ext.set ?_ _ (by first | omega | (simp only [nx, *]; omega)) | (apply Ext.up; focus (assumption; done))); done) | (simp (disch := (first | omega | (simp only [nx]; first | done | omega))) only [xxq, xxa, xxb, xxc, bne, ↓reduceIte, reduceCtorEq, Nat.reduceEqDiff, Nat.reduceAdd, Nat.reduceMul, Nat.reduceSub, Nat.reduceLT, Int.reduceAdd, Int.reduceSub, Int.reduceMul, Int.reduceLT, Int.reduceToNat, ne_eq, *, hd0, intV_int]; first | done | omega | rfl | exact congrArg (Value.int .i64) (by omega) | ((repeat first | exact Ext.refl _ | assumption | refine Ext.push ?_ _ | refine Ext.set ?_ _ (by first | omega | (simp only [nx, *]; omega)) | (apply Ext.up; focus (assumption; done))); done) | skip) | rfl | skip
    · rintro A H3 ⟨j, hj, b6, b19, b20, b21, hg, hs, hx3⟩
      by_cases hjl : j < 6 * T.length
      · obtain ⟨b, cs, ro, hpb, hbs, hgb, hc⟩ := hhe j (by omega)
        have hg1 := (hx3.get b hbs).trans hgb
        have hl1 := hlt j (by omega)
        have hl0 := hb0 j
        obtain ⟨z, hz⟩ : ∃ z : Nat, (edgeL T).getD j 0 = (z : Int) := ⟨((edgeL T).getD j 0).toNat, by omega⟩
        have hst := hds j
        rw [hz, Int.toNat_natCast] at hst
        have hdz := hdb j z
        have hdl := hdn j
        rw [hz] at hc hl1
        have hgz := ints_get (l := degTo (edgeL T) j) (i := z) (by omega)
        have hil := ints_len (degTo (edgeL T) j)
        have hset := ints_set (degTo (edgeL T) j) z ((degTo (edgeL T) j).getD z 0 + 1)
        have hne : b ≠ H2.size := by omega
        clear hhe hlt hb0 hdb hdn hds hz hbd
        generalize hdd : degTo (edgeL T) j = dd at *
        generalize dd.getD z 0 = y at *
        repeat' first
         | (with_reducible first | refine AOps.nil ?_ | refine athen_n ?_ | refine athen_r ?_ | refine athen_e ?_ | refine ablock_n ?_ | refine ablock_r ?_ | refine ablock_s ?_ | refine AWp.seq' ?_ | refine AWp.block ?_ | refine AWp.skip ?_ | refine AWp.exit ?_ | refine AWp.ret ?_ | refine AWp.region ?_) | (with_reducible refine ablock_e ?_ ?_; focus rfl)
         | ((first | refine AOps.cons1 rfl rfl rfl fun K hK => ?_ | refine AWp.cond rfl fun X Y hX hY => ?_ | refine aret_r ?_ | refine aret_n ?_); simp (disch := (first | omega | (simp only [nx]; first | done | omega))) only [acond_bool, aresK, retv, xxq, tfF23, makeSliceK, mapOf, xxa, xxb, xxc, bne, ↓reduceIte, reduceCtorEq, Nat.reduceEqDiff, Nat.reduceAdd, Nat.reduceMul, Nat.reduceSub, Nat.reduceLT, Int.reduceAdd, Int.reduceSub, Int.reduceMul, Int.reduceLT, Int.reduceToNat, ne_eq, *]; (repeat first | ((with_reducible refine And.intro (fun hc => ?_) (fun hc => absurd hc (by omega))); clear hc) | ((with_reducible refine And.intro (fun hc => absurd hc (by omega)) (fun hc => ?_)); clear hc) | ((with_reducible refine And.intro ?_ ?_); focus ((first | omega | assumption | exact cok _ rfl | exact one_ints _ | exact one_map fun _ => rfl | ((repeat refine one_cons (by first | rfl | assumption) ?_); exact one_nil) | rfl | decide | (intro u hu; cases hu)); done)) | (with_reducible refine (fun hc => ?_ : _ → _); clear hc)); (first | (refine hK.out _ _ ?_; clear hK K) | (refine And.intro (hK.out _ _ ?_) (hK.out _ _ ?_) <;> clear hK K) | (refine hX.out ?_; try clear hX hY X Y) | (refine hY.out ?_; try clear hX hY X Y) | (refine And.intro (fun hc => ?_) (fun hc => ?_) <;> first | (exfalso; omega) | (refine hX.out ?_; try clear hX hY X Y) | (refine hY.out ?_; try clear hX hY X Y)) | skip))
        refine ⟨⟨j + 1, by omega, ?_, ?_, ?_, ?_, ?_, ?_, ?_⟩, ?_⟩
        all_goals first | omega | ((repeat first | exact Ext.refl _ | assumption | refine Ext.push ?_ _ | refine Ext.set ?_ _ (by first | omega | (simp only [nx, *]; omega)) | (apply Ext.up; focus (assumption; done))); done) | (simp (disch := (first | omega | (simp only [nx]; first | done | omega))) only [xxq, xxa, xxb, xxc, bne, ↓reduceIte, reduceCtorEq, Nat.reduceEqDiff, Nat.reduceAdd, Nat.reduceMul, Nat.reduceSub, Nat.reduceLT, Int.reduceAdd, Int.reduceSub, Int.reduceMul, Int.reduceLT, Int.reduceToNat, ne_eq, *, hst, hset, intV_int]; first | done | omega | rfl | exact congrArg (Value.int .i64) (by omega) | ((repeat first | exact Ext.refl _ | assumption | refine Ext.push ?_ _ | refine Ext.set ?_ _ (by first | omega | (simp only [nx, *]; omega)) | (apply Ext.up; focus (assumption; done))); done) | skip) | rfl | skip
      · obtain rfl : j = 6 * T.length := by omega
        have hdl := hdn (6 * T.length)
        clear hhe hlt hb0 hdb hdn hds hbd
        repeat' first
         | (with_reducible first | refine AOps.nil ?_ | refine athen_n ?_ | refine athen_r ?_ | refine athen_e ?_ | refine ablock_n ?_ | refine ablock_r ?_ | refine ablock_s ?_ | refine AWp.seq' ?_ | refine AWp.block ?_ | refine AWp.skip ?_ | refine AWp.exit ?_ | refine AWp.ret ?_ | refine AWp.region ?_) | (with_reducible refine ablock_e ?_ ?_; focus rfl)
         | ((first | refine AOps.cons1 rfl rfl rfl fun K hK => ?_ | refine AWp.cond rfl fun X Y hX hY => ?_ | refine aret_r ?_ | refine aret_n ?_); simp (disch := (first | omega | (simp only [nx]; first | done | omega))) only [acond_bool, aresK, retv, xxq, tfF23, makeSliceK, mapOf, xxa, xxb, xxc, bne, ↓reduceIte, reduceCtorEq, Nat.reduceEqDiff, Nat.reduceAdd, Nat.reduceMul, Nat.reduceSub, Nat.reduceLT, Int.reduceAdd, Int.reduceSub, Int.reduceMul, Int.reduceLT, Int.reduceToNat, ne_eq, *]; (repeat first | ((with_reducible refine And.intro (fun hc => ?_) (fun hc => absurd hc (by omega))); clear hc) | ((with_reducible refine And.intro (fun hc => absurd hc (by omega)) (fun hc => ?_)); clear hc) | ((with_reducible refine And.intro ?_ ?_); focus ((first | omega | assumption | exact cok _ rfl | exact one_ints _ | exact one_map fun _ => rfl | ((repeat refine one_cons (by first | rfl | assumption) ?_); exact one_nil) | rfl | decide | (intro u hu; cases hu)); done)) | (with_reducible refine (fun hc => ?_ : _ → _); clear hc)); (first | (refine hK.out _ _ ?_; clear hK K) | (refine And.intro (hK.out _ _ ?_) (hK.out _ _ ?_) <;> clear hK K) | (refine hX.out ?_; try clear hX hY X Y) | (refine hY.out ?_; try clear hX hY X Y) | (refine And.intro (fun hc => ?_) (fun hc => ?_) <;> first | (exfalso; omega) | (refine hX.out ?_; try clear hX hY X Y) | (refine hY.out ?_; try clear hX hY X Y)) | skip))
        refine hQ.out _ _ ⟨_, by rw [h0], .inr ⟨H2.size, N + 1, by rw [hdl], by omega, hs, Nat.le_refl _, hg⟩, by ((repeat first | exact Ext.refl _ | assumption | refine Ext.push ?_ _ | refine Ext.set ?_ _ (by first | omega | (simp only [nx, *]; omega)) | (apply Ext.up; focus (assumption; done))); done)⟩
  · have hdl : degL T = [] := by unfold degL; rw [if_neg h0]
    simp only [hdl] at hQ
    have hnb : (nCode T == 0) = false := by rw [beq_eq_false_iff_ne]; exact h0
    repeat' first
     | (with_reducible first | refine AOps.nil ?_ | refine athen_n ?_ | refine athen_r ?_ | refine athen_e ?_ | refine ablock_n ?_ | refine ablock_r ?_ | refine ablock_s ?_ | refine AWp.seq' ?_ | refine AWp.block ?_ | refine AWp.skip ?_ | refine AWp.exit ?_ | refine AWp.ret ?_ | refine AWp.region ?_) | (with_reducible refine ablock_e ?_ ?_; focus rfl)
     | ((first | refine AOps.cons1 rfl rfl rfl fun K hK => ?_ | refine AWp.cond rfl fun X Y hX hY => ?_ | refine aret_r ?_ | refine aret_n ?_); simp (disch := (first | omega | (simp only [nx]; first | done | omega))) only [acond_bool, aresK, retv, xxq, tfF23, makeSliceK, mapOf, xxa, xxb, xxc, bne, ↓reduceIte, reduceCtorEq, Nat.reduceEqDiff, Nat.reduceAdd, Nat.reduceMul, Nat.reduceSub, Nat.reduceLT, Int.reduceAdd, Int.reduceSub, Int.reduceMul, Int.reduceLT, Int.reduceToNat, ne_eq, *]; (repeat first | ((with_reducible refine And.intro (fun hc => ?_) (fun hc => absurd hc (by omega))); clear hc) | ((with_reducible refine And.intro (fun hc => absurd hc (by omega)) (fun hc => ?_)); clear hc) | ((with_reducible refine And.intro ?_ ?_); focus ((first | omega | assumption | exact cok _ rfl | exact one_ints _ | exact one_map fun _ => rfl | ((repeat refine one_cons (by first | rfl | assumption) ?_); exact one_nil) | rfl | decide | (intro u hu; cases hu)); done)) | (with_reducible refine (fun hc => ?_ : _ → _); clear hc)); (first | (refine hK.out _ _ ?_; clear hK K) | (refine And.intro (hK.out _ _ ?_) (hK.out _ _ ?_) <;> clear hK K) | (refine (normalCode_c (hT1 (by ((repeat first | exact Ext.refl _ | assumption | refine Ext.push ?_ _ | refine Ext.set ?_ _ (by first | omega | (simp only [nx, *]; omega)) | (apply Ext.up; focus (assumption; done))); done))) hl).mono ?_; rintro u H1 ⟨rfl, hx1⟩; have hx1g := hx1.get; have hx1s := hx1.size; (try simp only [nx] at hx1s); refine hK.out _ _ ?_; try clear hK K) | (refine hX.out ?_; try clear hX hY X Y) | (refine hY.out ?_; try clear hX hY X Y) | (refine And.intro (fun hc => ?_) (fun hc => ?_) <;> first | (exfalso; omega) | (refine hX.out ?_; try clear hX hY X Y) | (refine hY.out ?_; try clear hX hY X Y)) | skip))
    exact hQ.out _ _ ⟨_, rfl, .inl ⟨rfl, rfl⟩, by ((repeat first | exact Ext.refl _ | assumption | refine Ext.push ?_ _ | refine Ext.set ?_ _ (by first | omega | (simp only [nx, *]; omega)) | (apply Ext.up; focus (assumption; done))); done)⟩
set_option maxHeartbeats 1000000 in
theorem specEdgeDegrees_c {H : Heap} {v : Value} {T : List (List (Int × Int))} (hT : RowT H v T) (hl : T.length ≤ 1048576) : ACalls Try.prog 22 [.agg #[v]] H fun u H' => ∃ w, u = .tuple #[w, I (nCode T)] ∧ RowI H' w (degL T) ∧ Ext H H' := by
  have hT0 := hT
  obtain ⟨p, k, rfl, hp, hh⟩ := hT
  clear hh
  have hT1 := fun {H' : Heap} (h : Ext H H') => hT0.ext h
  clear hT0
  refine ACalls.body Try.func22 rfl Try.ntmps22 (rs := [.tmp 2, .tmp 3]) rfl (by simp) rfl fun Q hQ A hA => ?_
  have a0 := hA 0 _ _ rfl
  clear hA
  by_cases h0 : nCode T = 0
  · obtain ⟨hI, h6⟩ := nCode_zero h0
    have hdl : degL T = degTo (edgeL T) (6 * T.length) := by unfold degL; rw [if_pos h0]
    simp only [hdl] at hQ
    have hle := edgeL_len T
    have hbd := edgeL_bd T hI.1
    have hb0 : ∀ j, 0 ≤ (edgeL T).getD j 0 := by
      intro j
      by_cases hj : j < (edgeL T).length
      · have := hbd _ (List.getElem_mem hj); simp [hj]; omega
      · simp [List.getD_eq_getElem?_getD, List.getElem?_eq_none (Nat.le_of_not_lt hj)]
    have hlt := lt_classN (edgeL T)
    have hcn : 0 ≤ classN (edgeL T) ∧ classN (edgeL T) ≤ 100001 := by
      unfold classN
      split
      · omega
      · have := TP.maxTo_bd (edgeL T) 100000 hbd (by omega) (edgeL T).length (Nat.le_refl _); omega
    obtain ⟨N, hN⟩ : ∃ N : Nat, classN (edgeL T) = N := ⟨(classN (edgeL T)).toNat, by omega⟩
    have hdn := degTo_len (edgeL T)
    have hdb := degTo_bd (edgeL T)
    have hd0 : degTo (edgeL T) 0 = List.replicate N 0 := by simp [degTo, hN]
    have hds : ∀ j, degTo (edgeL T) (j + 1) = (degTo (edgeL T) j).set ((edgeL T).getD j 0).toNat ((degTo (edgeL T) j).getD ((edgeL T).getD j 0).toNat 0 + 1) := fun j => rfl
    have hck : ∀ a e, a < T.length → e < 6 → (chunkR 6 T.length (edgeL T)).getD a [] = ((edgeL T).drop (a * 6)).take 6 ∧ (((edgeL T).drop (a * 6)).take 6).length = 6 ∧ (((edgeL T).drop (a * 6)).take 6).getD e 0 = (edgeL T).getD (6 * a + e) 0 := fun a e ha he => by
      refine ⟨chunkR_get _ _ _ _ ha, by rw [List.length_take, List.length_drop]; omega, ?_⟩
      rw [List.getD_eq_getElem?_getD, List.getElem?_take, if_pos he, List.getElem?_drop, ← List.getD_eq_getElem?_getD, Nat.mul_comm]
    have hcl := chunkR_len 6 T.length (edgeL T)
    have hcu : (countsL T).length = 4 ∧ (countsL T).getD 1 0 = N := ⟨rfl, hN⟩
    rw [hN] at hlt hcn
    simp only [hN, Int.toNat_natCast] at hdn
    repeat' first
     | (with_reducible first | refine AOps.nil ?_ | refine athen_n ?_ | refine athen_r ?_ | refine athen_e ?_ | refine ablock_n ?_ | refine ablock_r ?_ | refine ablock_s ?_ | refine AWp.seq' ?_ | refine AWp.block ?_ | refine AWp.skip ?_ | refine AWp.exit ?_ | refine AWp.ret ?_ | refine AWp.region ?_) | (with_reducible refine ablock_e ?_ ?_; focus rfl)
     | ((first | refine AOps.cons1 rfl rfl rfl fun K hK => ?_ | refine AWp.cond rfl fun X Y hX hY => ?_ | refine aret_r ?_ | refine aret_n ?_); simp (disch := (first | omega | (simp only [nx]; first | done | omega))) only [acond_bool, aresK, retv, xxq, tfF23, makeSliceK, mapOf, allocK, xxa, xxb, xxc, bne, ↓reduceIte, reduceCtorEq, Nat.reduceEqDiff, Nat.reduceAdd, Nat.reduceMul, Nat.reduceSub, Nat.reduceLT, Int.reduceAdd, Int.reduceSub, Int.reduceMul, Int.reduceLT, Int.reduceToNat, ne_eq, *]; (repeat first | ((with_reducible refine And.intro (fun hc => ?_) (fun hc => absurd hc (by omega))); clear hc) | ((with_reducible refine And.intro (fun hc => absurd hc (by omega)) (fun hc => ?_)); clear hc) | ((with_reducible refine And.intro ?_ ?_); focus ((first | omega | assumption | exact cok _ rfl | exact one_ints _ | exact one_map fun _ => rfl | ((repeat refine one_cons (by first | rfl | assumption) ?_); exact one_nil) | rfl | decide | (intro u hu; cases hu)); done)) | (with_reducible refine (fun hc => ?_ : _ → _); clear hc)); (first | (refine hK.out _ _ ?_; clear hK K) | (refine And.intro (hK.out _ _ ?_) (hK.out _ _ ?_) <;> clear hK K) | (refine (l17Code_c (hT1 (by ((repeat first | exact Ext.refl _ | assumption | refine Ext.push ?_ _ | refine Ext.set ?_ _ (by first | omega | (simp only [nx, *]; omega)) | (apply Ext.up; focus (assumption; done))); done))) hl).mono ?_; rintro u H1 ⟨rfl, hx1⟩; have hx1g := hx1.get; have hx1s := hx1.size; (try simp only [nx] at hx1s); rw [h0]; refine hK.out _ _ ?_; try clear hK K) | (refine (l08Count_c (hT1 (by ((repeat first | exact Ext.refl _ | assumption | refine Ext.push ?_ _ | refine Ext.set ?_ _ (by first | omega | (simp only [nx, *]; omega)) | (apply Ext.up; focus (assumption; done))); done))) hI.fine).mono ?_; rintro u H2 ⟨w0, w1, w2, c, rfl, hR0, hR1, hR2, hR, hx2⟩; have k0 := hR0.one; have k1 := hR1.one; have k2 := hR2.one; have hx2g := hx2.get; have hx2s := hx2.size; (try simp only [nx] at hx2s); obtain ⟨bc, kc, csc, roc, rfl, hbc, hgc, hcc⟩ := hR.cell (j := 1) (by rw [hcu.1]; omega); have hcc1 := hcc 1 (by rw [hcu.1]; omega); rw [hcu.2] at hcc1; rw [hcu.1]; clear hcc; refine hK.out _ _ ?_; try clear hK K) | (refine hX.out ?_; try clear hX hY X Y) | (refine hY.out ?_; try clear hX hY X Y) | (refine And.intro (fun hc => ?_) (fun hc => ?_) <;> first | (exfalso; omega) | (refine hX.out ?_; try clear hX hY X Y) | (refine hY.out ?_; try clear hX hY X Y)) | skip))
    have hbox : H2.get H.size = .cells [.slice p T.length k] 1 false := by
      rw [hx2.get _ (by omega), hx1.get _ (by simp only [nx]; omega), get_push_eq rfl]
    have hsz2 : H.size < H2.size := by omega
    obtain ⟨p1, k1', rfl, hp1, hr1⟩ := hR1
    rw [hcl] at hr1
    rw [hcl] at k1
    clear hR0 hR2 hR hx1g hx1s hx2g hx2s
    refine AWp.loop (fun A H' => ∃ a : Nat, a ≤ T.length ∧ A 1 = .pointer (some ⟨H.size, 0, none⟩) ∧ A 5 = .pointer (some ⟨H2.size, 0, none⟩) ∧ A 7 = .slice (some ⟨H2.size + 1, 0, none⟩) N (N + 1) ∧ A 8 = I a ∧
      H'.get H2.size = .cells [w0, .slice p1 T.length k1', w2] 1 false ∧ H'.get (H2.size + 1) = .cells (ints (degTo (edgeL T) (6 * a))) 1 false ∧ H2.size + 1 < H'.size ∧ Ext H2 H') (fun A _ => T.length - (intV (A 8)).toNat) ?_ ?_
    · refine ⟨0, by omega, ?_, ?_, ?_, ?_, ?_, ?_, ?_, ?_⟩
      all_goals first | omega | ((repeat first | exact Ext.refl _ | assumption | refine Ext.push ?_ _ | refine Ext.set ?_ _ (by first | omega | (simp only [nx, *]; omega)) | (apply Ext.up; focus (assumption; done))); done) | (simp (disch := (first | omega | (simp only [nx]; first | done | omega))) only [xxq, xxa, xxb, xxc, bne, ↓reduceIte, reduceCtorEq, Nat.reduceEqDiff, Nat.reduceAdd, Nat.reduceMul, Nat.reduceSub, Nat.reduceLT, Int.reduceAdd, Int.reduceSub, Int.reduceMul, Int.reduceLT, Int.reduceToNat, ne_eq, *, hd0, intV_int]; first | done | omega | rfl | exact congrArg (Value.int .i64) (by omega) | ((repeat first | exact Ext.refl _ | assumption | refine Ext.push ?_ _ | refine Ext.set ?_ _ (by first | omega | (simp only [nx, *]; omega)) | (apply Ext.up; focus (assumption; done))); done) | skip) | rfl | skip
    · rintro A H3 ⟨a, ha, b1, b5, b7, b8, hg1, hg2, hs, hx3⟩
      have hbx := (hx3.get H.size (by omega)).trans hbox
      by_cases hlt' : a < T.length
      · obtain ⟨b, cs, ro, r, hpb, hbs, hgb, hc, hRr⟩ := hr1 a hlt'
        obtain ⟨p2, k2', e2, hp2, hr2⟩ := hRr
        have hgb1 := (hx3.get b hbs).trans hgb
        rw [(hck a 0 hlt' (by omega)).1, (hck a 0 hlt' (by omega)).2.1] at e2
        rw [(hck a 0 hlt' (by omega)).1, (hck a 0 hlt' (by omega)).2.1] at hr2
        subst e2
        repeat' first
         | (with_reducible first | refine AOps.nil ?_ | refine athen_n ?_ | refine athen_r ?_ | refine athen_e ?_ | refine ablock_n ?_ | refine ablock_r ?_ | refine ablock_s ?_ | refine AWp.seq' ?_ | refine AWp.block ?_ | refine AWp.skip ?_ | refine AWp.exit ?_ | refine AWp.ret ?_ | refine AWp.region ?_) | (with_reducible refine ablock_e ?_ ?_; focus rfl)
         | ((first | refine AOps.cons1 rfl rfl rfl fun K hK => ?_ | refine AWp.cond rfl fun X Y hX hY => ?_ | refine aret_r ?_ | refine aret_n ?_); simp (disch := (first | omega | (simp only [nx]; first | done | omega))) only [acond_bool, aresK, retv, xxq, tfF23, makeSliceK, mapOf, allocK, xxa, xxb, xxc, bne, ↓reduceIte, reduceCtorEq, Nat.reduceEqDiff, Nat.reduceAdd, Nat.reduceMul, Nat.reduceSub, Nat.reduceLT, Int.reduceAdd, Int.reduceSub, Int.reduceMul, Int.reduceLT, Int.reduceToNat, ne_eq, *]; (repeat first | ((with_reducible refine And.intro (fun hc => ?_) (fun hc => absurd hc (by omega))); clear hc) | ((with_reducible refine And.intro (fun hc => absurd hc (by omega)) (fun hc => ?_)); clear hc) | ((with_reducible refine And.intro ?_ ?_); focus ((first | omega | assumption | exact cok _ rfl | exact one_ints _ | exact one_map fun _ => rfl | ((repeat refine one_cons (by first | rfl | assumption) ?_); exact one_nil) | rfl | decide | (intro u hu; cases hu)); done)) | (with_reducible refine (fun hc => ?_ : _ → _); clear hc)); (first | (refine hK.out _ _ ?_; clear hK K) | (refine And.intro (hK.out _ _ ?_) (hK.out _ _ ?_) <;> clear hK K) | (refine hX.out ?_; try clear hX hY X Y) | (refine hY.out ?_; try clear hX hY X Y) | (refine And.intro (fun hc => ?_) (fun hc => ?_) <;> first | (exfalso; omega) | (refine hX.out ?_; try clear hX hY X Y) | (refine hY.out ?_; try clear hX hY X Y)) | skip))
        refine AWp.loop (fun A H' => ∃ e : Nat, e ≤ 6 ∧ A 1 = .pointer (some ⟨H.size, 0, none⟩) ∧ A 5 = .pointer (some ⟨H2.size, 0, none⟩) ∧ A 7 = .slice (some ⟨H2.size + 1, 0, none⟩) N (N + 1) ∧ A 8 = I a ∧ A 9 = I e ∧
          H'.get H2.size = .cells [w0, .slice p1 T.length k1', w2] 1 false ∧ H'.get (H2.size + 1) = .cells (ints (degTo (edgeL T) (6 * a + e))) 1 false ∧ H2.size + 1 < H'.size ∧ Ext H2 H') (fun A _ => 6 - (intV (A 9)).toNat) ?_ ?_
        · refine ⟨0, by omega, ?_, ?_, ?_, ?_, ?_, ?_, ?_, ?_, ?_⟩
          all_goals first | omega | ((repeat first | exact Ext.refl _ | assumption | refine Ext.push ?_ _ | refine Ext.set ?_ _ (by first | omega | (simp only [nx, *]; omega)) | (apply Ext.up; focus (assumption; done))); done) | (simp (disch := (first | omega | (simp only [nx]; first | done | omega))) only [xxq, xxa, xxb, xxc, bne, ↓reduceIte, reduceCtorEq, Nat.reduceEqDiff, Nat.reduceAdd, Nat.reduceMul, Nat.reduceSub, Nat.reduceLT, Int.reduceAdd, Int.reduceSub, Int.reduceMul, Int.reduceLT, Int.reduceToNat, ne_eq, *, intV_int]; first | done | omega | rfl | exact congrArg (Value.int .i64) (by omega) | ((repeat first | exact Ext.refl _ | assumption | refine Ext.push ?_ _ | refine Ext.set ?_ _ (by first | omega | (simp only [nx, *]; omega)) | (apply Ext.up; focus (assumption; done))); done) | skip) | rfl | skip
        · clear b1 b5 b7 hg1 hg2 hs hx3 hbx hgb1
          rintro A1 H4 ⟨e, he, b1, b5, b7, c8, b9, hg1, hg2, hs, hx3⟩
          by_cases he6 : e < 6
          · obtain ⟨bb, ds, ro2, hpb2, hbs2, hgb2, hc2⟩ := hr2 e he6
            have hgb1 := (hx3.get b hbs).trans hgb
            have hgb3 := (hx3.get bb hbs2).trans hgb2
            rw [(hck a e hlt' he6).2.2] at hc2
            have hl1 := hlt (6 * a + e) (by omega)
            have hl0 := hb0 (6 * a + e)
            have hst : degTo (edgeL T) (6 * a + (e + 1)) = _ := hds (6 * a + e)
            have hdb' := hdb (6 * a + e)
            have hdl := hdn (6 * a + e)
            generalize (edgeL T).getD (6 * a + e) 0 = zz' at hc2 hl1 hl0 hst
            obtain ⟨z, rfl⟩ : ∃ z : Nat, zz' = (z : Int) := ⟨zz'.toNat, by omega⟩
            rw [Int.toNat_natCast] at hst
            have hdz := hdb' z
            have hgz := ints_get (l := degTo (edgeL T) (6 * a + e)) (i := z) (by omega)
            have hil := ints_len (degTo (edgeL T) (6 * a + e))
            have hset := ints_set (degTo (edgeL T) (6 * a + e)) z ((degTo (edgeL T) (6 * a + e)).getD z 0 + 1)
            have hne1 : b ≠ H2.size + 1 := by have := hbs; omega
            have hne2 : bb ≠ H2.size + 1 := by have := hbs2; omega
            clear hlt hb0 hds hdb hdn hdb' hck hr1 hr2 hbd
            generalize hdd : degTo (edgeL T) (6 * a + e) = dd at *
            generalize dd.getD z 0 = y at *
            repeat' first
             | (with_reducible first | refine AOps.nil ?_ | refine athen_n ?_ | refine athen_r ?_ | refine athen_e ?_ | refine ablock_n ?_ | refine ablock_r ?_ | refine ablock_s ?_ | refine AWp.seq' ?_ | refine AWp.block ?_ | refine AWp.skip ?_ | refine AWp.exit ?_ | refine AWp.ret ?_ | refine AWp.region ?_) | (with_reducible refine ablock_e ?_ ?_; focus rfl)
             | ((first | refine AOps.cons1 rfl rfl rfl fun K hK => ?_ | refine AWp.cond rfl fun X Y hX hY => ?_ | refine aret_r ?_ | refine aret_n ?_); simp (disch := (first | omega | (simp only [nx]; first | done | omega))) only [acond_bool, aresK, retv, xxq, tfF23, makeSliceK, mapOf, allocK, xxa, xxb, xxc, bne, ↓reduceIte, reduceCtorEq, Nat.reduceEqDiff, Nat.reduceAdd, Nat.reduceMul, Nat.reduceSub, Nat.reduceLT, Int.reduceAdd, Int.reduceSub, Int.reduceMul, Int.reduceLT, Int.reduceToNat, ne_eq, *]; (repeat first | ((with_reducible refine And.intro (fun hc => ?_) (fun hc => absurd hc (by omega))); clear hc) | ((with_reducible refine And.intro (fun hc => absurd hc (by omega)) (fun hc => ?_)); clear hc) | ((with_reducible refine And.intro ?_ ?_); focus ((first | omega | assumption | exact cok _ rfl | exact one_ints _ | exact one_map fun _ => rfl | ((repeat refine one_cons (by first | rfl | assumption) ?_); exact one_nil) | rfl | decide | (intro u hu; cases hu)); done)) | (with_reducible refine (fun hc => ?_ : _ → _); clear hc)); (first | (refine hK.out _ _ ?_; clear hK K) | (refine And.intro (hK.out _ _ ?_) (hK.out _ _ ?_) <;> clear hK K) | (refine hX.out ?_; try clear hX hY X Y) | (refine hY.out ?_; try clear hX hY X Y) | (refine And.intro (fun hc => ?_) (fun hc => ?_) <;> first | (exfalso; omega) | (refine hX.out ?_; try clear hX hY X Y) | (refine hY.out ?_; try clear hX hY X Y)) | skip))
            refine ⟨⟨e + 1, by omega, ?_, ?_, ?_, ?_, ?_, ?_, ?_, ?_, ?_⟩, ?_⟩
            all_goals first | omega | ((repeat first | exact Ext.refl _ | assumption | refine Ext.push ?_ _ | refine Ext.set ?_ _ (by first | omega | (simp only [nx, *]; omega)) | (apply Ext.up; focus (assumption; done))); done) | (simp (disch := (first | omega | (simp only [nx]; first | done | omega))) only [xxq, xxa, xxb, xxc, bne, ↓reduceIte, reduceCtorEq, Nat.reduceEqDiff, Nat.reduceAdd, Nat.reduceMul, Nat.reduceSub, Nat.reduceLT, Int.reduceAdd, Int.reduceSub, Int.reduceMul, Int.reduceLT, Int.reduceToNat, ne_eq, *, hst, hset, intV_int]; first | done | omega | rfl | exact congrArg (Value.int .i64) (by omega) | ((repeat first | exact Ext.refl _ | assumption | refine Ext.push ?_ _ | refine Ext.set ?_ _ (by first | omega | (simp only [nx, *]; omega)) | (apply Ext.up; focus (assumption; done))); done) | skip) | rfl | skip
          · obtain rfl : e = 6 := by omega
            have h66 : 6 * (a + 1) = 6 * a + 6 := by omega
            clear hlt hb0 hds hdb hdn hck hr1 hr2 hbd
            repeat' first
             | (with_reducible first | refine AOps.nil ?_ | refine athen_n ?_ | refine athen_r ?_ | refine athen_e ?_ | refine ablock_n ?_ | refine ablock_r ?_ | refine ablock_s ?_ | refine AWp.seq' ?_ | refine AWp.block ?_ | refine AWp.skip ?_ | refine AWp.exit ?_ | refine AWp.ret ?_ | refine AWp.region ?_) | (with_reducible refine ablock_e ?_ ?_; focus rfl)
             | ((first | refine AOps.cons1 rfl rfl rfl fun K hK => ?_ | refine AWp.cond rfl fun X Y hX hY => ?_ | refine aret_r ?_ | refine aret_n ?_); simp (disch := (first | omega | (simp only [nx]; first | done | omega))) only [acond_bool, aresK, retv, xxq, tfF23, makeSliceK, mapOf, allocK, xxa, xxb, xxc, bne, ↓reduceIte, reduceCtorEq, Nat.reduceEqDiff, Nat.reduceAdd, Nat.reduceMul, Nat.reduceSub, Nat.reduceLT, Int.reduceAdd, Int.reduceSub, Int.reduceMul, Int.reduceLT, Int.reduceToNat, ne_eq, *]; (repeat first | ((with_reducible refine And.intro (fun hc => ?_) (fun hc => absurd hc (by omega))); clear hc) | ((with_reducible refine And.intro (fun hc => absurd hc (by omega)) (fun hc => ?_)); clear hc) | ((with_reducible refine And.intro ?_ ?_); focus ((first | omega | assumption | exact cok _ rfl | exact one_ints _ | exact one_map fun _ => rfl | ((repeat refine one_cons (by first | rfl | assumption) ?_); exact one_nil) | rfl | decide | (intro u hu; cases hu)); done)) | (with_reducible refine (fun hc => ?_ : _ → _); clear hc)); (first | (refine hK.out _ _ ?_; clear hK K) | (refine And.intro (hK.out _ _ ?_) (hK.out _ _ ?_) <;> clear hK K) | (refine hX.out ?_; try clear hX hY X Y) | (refine hY.out ?_; try clear hX hY X Y) | (refine And.intro (fun hc => ?_) (fun hc => ?_) <;> first | (exfalso; omega) | (refine hX.out ?_; try clear hX hY X Y) | (refine hY.out ?_; try clear hX hY X Y)) | skip))
            refine ⟨⟨a + 1, by omega, ?_, ?_, ?_, ?_, ?_, ?_, ?_, ?_⟩, ?_⟩
            all_goals first | omega | ((repeat first | exact Ext.refl _ | assumption | refine Ext.push ?_ _ | refine Ext.set ?_ _ (by first | omega | (simp only [nx, *]; omega)) | (apply Ext.up; focus (assumption; done))); done) | (simp (disch := (first | omega | (simp only [nx]; first | done | omega))) only [xxq, xxa, xxb, xxc, bne, ↓reduceIte, reduceCtorEq, Nat.reduceEqDiff, Nat.reduceAdd, Nat.reduceMul, Nat.reduceSub, Nat.reduceLT, Int.reduceAdd, Int.reduceSub, Int.reduceMul, Int.reduceLT, Int.reduceToNat, ne_eq, *, h66, intV_int]; first | done | omega | rfl | exact congrArg (Value.int .i64) (by omega) | ((repeat first | exact Ext.refl _ | assumption | refine Ext.push ?_ _ | refine Ext.set ?_ _ (by first | omega | (simp only [nx, *]; omega)) | (apply Ext.up; focus (assumption; done))); done) | skip) | rfl | skip
      · obtain rfl : a = T.length := by omega
        have hdl := hdn (6 * T.length)
        clear hlt hb0 hds hdb hdn hck hr1 hbd
        repeat' first
         | (with_reducible first | refine AOps.nil ?_ | refine athen_n ?_ | refine athen_r ?_ | refine athen_e ?_ | refine ablock_n ?_ | refine ablock_r ?_ | refine ablock_s ?_ | refine AWp.seq' ?_ | refine AWp.block ?_ | refine AWp.skip ?_ | refine AWp.exit ?_ | refine AWp.ret ?_ | refine AWp.region ?_) | (with_reducible refine ablock_e ?_ ?_; focus rfl)
         | ((first | refine AOps.cons1 rfl rfl rfl fun K hK => ?_ | refine AWp.cond rfl fun X Y hX hY => ?_ | refine aret_r ?_ | refine aret_n ?_); simp (disch := (first | omega | (simp only [nx]; first | done | omega))) only [acond_bool, aresK, retv, xxq, tfF23, makeSliceK, mapOf, allocK, xxa, xxb, xxc, bne, ↓reduceIte, reduceCtorEq, Nat.reduceEqDiff, Nat.reduceAdd, Nat.reduceMul, Nat.reduceSub, Nat.reduceLT, Int.reduceAdd, Int.reduceSub, Int.reduceMul, Int.reduceLT, Int.reduceToNat, ne_eq, *]; (repeat first | ((with_reducible refine And.intro (fun hc => ?_) (fun hc => absurd hc (by omega))); clear hc) | ((with_reducible refine And.intro (fun hc => absurd hc (by omega)) (fun hc => ?_)); clear hc) | ((with_reducible refine And.intro ?_ ?_); focus ((first | omega | assumption | exact cok _ rfl | exact one_ints _ | exact one_map fun _ => rfl | ((repeat refine one_cons (by first | rfl | assumption) ?_); exact one_nil) | rfl | decide | (intro u hu; cases hu)); done)) | (with_reducible refine (fun hc => ?_ : _ → _); clear hc)); (first | (refine hK.out _ _ ?_; clear hK K) | (refine And.intro (hK.out _ _ ?_) (hK.out _ _ ?_) <;> clear hK K) | (refine hX.out ?_; try clear hX hY X Y) | (refine hY.out ?_; try clear hX hY X Y) | (refine And.intro (fun hc => ?_) (fun hc => ?_) <;> first | (exfalso; omega) | (refine hX.out ?_; try clear hX hY X Y) | (refine hY.out ?_; try clear hX hY X Y)) | skip))
        refine hQ.out _ _ ⟨_, by rw [h0], ⟨_, N + 1, by rw [hdl], fun h => (by cases h), fun j hj => ⟨_, _, _, rfl, hs, hg2, ints_get hj⟩⟩, by ((repeat first | exact Ext.refl _ | assumption | refine Ext.push ?_ _ | refine Ext.set ?_ _ (by first | omega | (simp only [nx, *]; omega)) | (apply Ext.up; focus (assumption; done))); done)⟩
  · have hdl : degL T = [] := by unfold degL; rw [if_neg h0]
    simp only [hdl] at hQ
    repeat' first
     | (with_reducible first | refine AOps.nil ?_ | refine athen_n ?_ | refine athen_r ?_ | refine athen_e ?_ | refine ablock_n ?_ | refine ablock_r ?_ | refine ablock_s ?_ | refine AWp.seq' ?_ | refine AWp.block ?_ | refine AWp.skip ?_ | refine AWp.exit ?_ | refine AWp.ret ?_ | refine AWp.region ?_) | (with_reducible refine ablock_e ?_ ?_; focus rfl)
     | ((first | refine AOps.cons1 rfl rfl rfl fun K hK => ?_ | refine AWp.cond rfl fun X Y hX hY => ?_ | refine aret_r ?_ | refine aret_n ?_); simp (disch := (first | omega | (simp only [nx]; first | done | omega))) only [acond_bool, aresK, retv, xxq, tfF23, makeSliceK, mapOf, allocK, xxa, xxb, xxc, bne, ↓reduceIte, reduceCtorEq, Nat.reduceEqDiff, Nat.reduceAdd, Nat.reduceMul, Nat.reduceSub, Nat.reduceLT, Int.reduceAdd, Int.reduceSub, Int.reduceMul, Int.reduceLT, Int.reduceToNat, ne_eq, *]; (repeat first | ((with_reducible refine And.intro (fun hc => ?_) (fun hc => absurd hc (by omega))); clear hc) | ((with_reducible refine And.intro (fun hc => absurd hc (by omega)) (fun hc => ?_)); clear hc) | ((with_reducible refine And.intro ?_ ?_); focus ((first | omega | assumption | exact cok _ rfl | exact one_ints _ | exact one_map fun _ => rfl | ((repeat refine one_cons (by first | rfl | assumption) ?_); exact one_nil) | rfl | decide | (intro u hu; cases hu)); done)) | (with_reducible refine (fun hc => ?_ : _ → _); clear hc)); (first | (refine hK.out _ _ ?_; clear hK K) | (refine And.intro (hK.out _ _ ?_) (hK.out _ _ ?_) <;> clear hK K) | (refine (l17Code_c (hT1 (by ((repeat first | exact Ext.refl _ | assumption | refine Ext.push ?_ _ | refine Ext.set ?_ _ (by first | omega | (simp only [nx, *]; omega)) | (apply Ext.up; focus (assumption; done))); done))) hl).mono ?_; rintro u H1 ⟨rfl, hx1⟩; have hx1g := hx1.get; have hx1s := hx1.size; (try simp only [nx] at hx1s); refine hK.out _ _ ?_; try clear hK K) | (refine hX.out ?_; try clear hX hY X Y) | (refine hY.out ?_; try clear hX hY X Y) | (refine And.intro (fun hc => ?_) (fun hc => ?_) <;> first | (exfalso; omega) | (refine hX.out ?_; try clear hX hY X Y) | (refine hY.out ?_; try clear hX hY X Y)) | skip))
    exact hQ.out _ _ ⟨_, rfl, RowI.nil, by ((repeat first | exact Ext.refl _ | assumption | refine Ext.push ?_ _ | refine Ext.set ?_ _ (by first | omega | (simp only [nx, *]; omega)) | (apply Ext.up; focus (assumption; done))); done)⟩
end Go.Proofs.Ytibkopejnhihkaa.Rai
