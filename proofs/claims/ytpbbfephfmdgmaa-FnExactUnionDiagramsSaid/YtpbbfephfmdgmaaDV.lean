/- A part of the walk: what functions of the program do, over an abstract heap. -/
import Derived.Test.YtpbbfephfmdgmaaDS
namespace Go.Proofs.Ytpbbfephfmdgmaa.Rai
open Go TP
set_option linter.unusedVariables false
set_option linter.unusedSimpArgs false
set_option maxRecDepth 20000
theorem tfDV : (Try.prog.underlying 27 = some (.slice 54)) ∧ (el Try.prog 27 = some (none, 5)) ∧ (tk Try.prog 2 = some none) ∧ (tk Try.prog 27 = some none) ∧ (tk Try.prog 54 = some (some 5)) ∧ (cz Try.prog 54 = some 5) ∧ (bz Try.prog 54 = some 40) ∧ (zr Try.prog 54 = some (.agg #[.int .i64 0, .int .i64 0, .int .i64 0, .int .i64 0, .int .i64 0])) ∧ (fo Try.prog 29 0 = some (0, none)) ∧ (fo Try.prog 54 0 = some (0, none)) ∧ (fo Try.prog 54 1 = some (1, none)) ∧ (fo Try.prog 54 2 = some (2, none)) ∧ (fo Try.prog 54 3 = some (3, none)) ∧ (fo Try.prog 54 4 = some (4, none)) := by
  refine ⟨?_, ?_, ?_, ?_, ?_, ?_, ?_, ?_, ?_, ?_, ?_, ?_, ?_, ?_⟩ <;> kernel_rfl
theorem rnDV {a b : Prop} (hb : b) (h : Later b → a := by
  intro hb
  first
  | ((with_reducible first | refine AOps.nil ?_ | refine athen_n ?_ | refine athen_r ?_ | refine athen_e ?_ | refine ablock_n ?_ | refine ablock_r ?_ | refine ablock_s ?_ | refine AWp.seq' ?_ | refine AWp.block ?_ | refine AWp.skip ?_ | refine AWp.exit ?_ | refine AWp.ret ?_ | refine AWp.region ?_ | (refine ablock_e ?_ ?_; focus rfl)); repeat (with_reducible first | refine AOps.nil ?_ | refine athen_n ?_ | refine athen_r ?_ | refine athen_e ?_ | refine ablock_n ?_ | refine ablock_r ?_ | refine ablock_s ?_ | refine AWp.seq' ?_ | refine AWp.block ?_ | refine AWp.skip ?_ | refine AWp.exit ?_ | refine AWp.ret ?_ | refine AWp.region ?_ | (refine ablock_e ?_ ?_; focus rfl)))
  | (refine AOps.guardu rfl rfl rfl ?_ ?_; focus (simp (disch := (first | omega | (simp only [nx]; first | done | omega))) only [Value.bool.injEq, Bool.and_true, Bool.true_and, Bool.and_false, Bool.false_and, beq_self_eq_true, bne, Bool.not_true, Bool.not_false, sx, nx, dx, ↓reduceIte, reduceCtorEq, Nat.reduceEqDiff, ne_eq, not_false_eq_true, *]; done))
  | ((first | refine AOps.cons2 rfl rfl fun K hK => ?_ | refine AWp.cond rfl fun X Y hX hY => ?_ | refine AOps.guard rfl rfl rfl fun X Y hX hY => ?_ | refine aret_r ?_ | refine aret_n ?_); simp (disch := (first | omega | (simp only [nx]; first | done | omega))) only [acond_bool, aresK, retv, xxq, tfDV, sliceK, bnd, appendK, appsK, copyK, clearK, makeSliceK, buildSliceK, buildK, lookupK, mapPutK, mapOf, convK, allocK, indexK, partK, xxa, xxb, xxc, bne, Int.reduceEq, Int.reduceBEq, Int.reduceNe, Int.reduceBNe, Int.reduceLE, Int.reduceGT, Int.reduceGE, Int.reduceNeg, ↓reduceIte, reduceCtorEq, Nat.reduceEqDiff, Nat.reduceAdd, Nat.reduceMul, Nat.reduceSub, Nat.reduceLT, Int.reduceAdd, Int.reduceSub, Int.reduceMul, Int.reduceLT, Int.reduceToNat, ne_eq, *]; (repeat first | ((with_reducible refine And.intro (fun hc => ?_) (fun hc => absurd hc (by omega))); clear hc) | ((with_reducible refine And.intro (fun hc => absurd hc (by omega)) (fun hc => ?_)); clear hc) | ((with_reducible refine And.intro ?_ ?_); focus ((first | omega | assumption | exact cok _ rfl | exact one_ints _ | exact one_map fun _ => rfl | ((repeat refine one_cons (by first | rfl | assumption) ?_); exact one_nil) | rfl | decide | (intro u hu; cases hu)); done)) | (with_reducible refine (fun hc => ?_ : _ → _); clear hc)); (first | refine hK.out _ _ ?_ | refine ACalls.hk hK ?_ | refine appendK.hk hK ?_ | refine (fun (q : _ ∧ _) => And.intro (hK.out _ _ q.1) (hK.out _ _ q.2)) ?_ | refine hX.out ?_ | refine hY.out ?_ | refine (fun (q : (_ → _) ∧ (_ → _)) => And.intro (fun hc => hX.out (q.1 hc)) (fun hc => hY.out (q.2 hc))) ?_ | refine (fun (q : (_ → _) ∧ (_ → _)) => And.intro (fun hc => hY.out (q.1 hc)) (fun hc => hX.out (q.2 hc))) ?_ | skip))
  exact hb.out) : a := h ⟨hb⟩
theorem hlDV {p b : Prop} (hb : b) (h : p := by simp (disch := (first | omega | (simp only [nx]; first | done | omega))) only [heldIn_iff, List.zipIdx_cons, List.zipIdx_nil, List.map_cons, List.map_nil, xxq, tfDV, sliceK, bnd, appendK, appsK, copyK, clearK, makeSliceK, buildSliceK, buildK, lookupK, mapPutK, mapOf, convK, allocK, indexK, partK, xxa, xxb, xxc, bne, Int.reduceEq, Int.reduceBEq, Int.reduceNe, Int.reduceBNe, Int.reduceLE, Int.reduceGT, Int.reduceGE, Int.reduceNeg, ↓reduceIte, reduceCtorEq, Nat.reduceEqDiff, Nat.reduceAdd, Nat.reduceMul, Nat.reduceSub, Nat.reduceLT, Int.reduceAdd, Int.reduceSub, Int.reduceMul, Int.reduceLT, Int.reduceToNat, ne_eq, *]; first | done | trivial) : p ∧ b := ⟨h, hb⟩
theorem ivDV {p : Prop} (h : p := by first | omega | ((repeat first | exact Ext.refl _ | assumption | refine Ext.push ?_ _ | refine Ext.set ?_ _ (by first | omega | (simp only [nx, *]; omega)) | (apply Ext.up; focus (assumption; done))); done) | (simp (disch := (first | omega | (simp only [nx]; first | done | omega))) only [xxq, xxa, xxb, xxc, bne, Int.reduceEq, Int.reduceBEq, Int.reduceNe, Int.reduceBNe, Int.reduceLE, Int.reduceGT, Int.reduceGE, Int.reduceNeg, ↓reduceIte, reduceCtorEq, Nat.reduceEqDiff, Nat.reduceAdd, Nat.reduceMul, Nat.reduceSub, Nat.reduceLT, Int.reduceAdd, Int.reduceSub, Int.reduceMul, Int.reduceLT, Int.reduceToNat, ne_eq, *, intV_int]; first | done | omega | rfl | exact congrArg (Value.int .i64) (by omega) | ((repeat first | exact Ext.refl _ | assumption | refine Ext.push ?_ _ | refine Ext.set ?_ _ (by first | omega | (simp only [nx, *]; omega)) | (apply Ext.up; focus (assumption; done))); done)) | rfl) : p := h
theorem smDV {a b : Prop} (hb : b) (h : Later b → a := by intro hb; simp (disch := (first | omega | (simp only [nx]; first | done | omega))) only [xxq, xxa, xxb, xxc, bne, Int.reduceEq, Int.reduceBEq, Int.reduceNe, Int.reduceBNe, Int.reduceLE, Int.reduceGT, Int.reduceGE, Int.reduceNeg, ↓reduceIte, reduceCtorEq, Nat.reduceEqDiff, Nat.reduceAdd, Nat.reduceMul, Nat.reduceSub, Nat.reduceLT, Int.reduceAdd, Int.reduceSub, Int.reduceMul, Int.reduceLT, Int.reduceToNat, ne_eq, *, intV_int]; exact hb.out) : a := h ⟨hb⟩
theorem gtDV {A F : Fr} {t : Nat} {v : Value} (h : Ag [] A F) (e : F t = v := by simp (disch := (first | omega | (simp only [nx]; first | done | omega))) only [xxq, xxa, xxb, xxc, bne, Int.reduceEq, Int.reduceBEq, Int.reduceNe, Int.reduceBNe, Int.reduceLE, Int.reduceGT, Int.reduceGE, Int.reduceNeg, ↓reduceIte, reduceCtorEq, Nat.reduceEqDiff, Nat.reduceAdd, Nat.reduceMul, Nat.reduceSub, Nat.reduceLT, Int.reduceAdd, Int.reduceSub, Int.reduceMul, Int.reduceLT, Int.reduceToNat, ne_eq, *, intV_int]; exact rfl) : A t = v := (h.h t rfl).trans e
theorem agDV {D : List Nat} {A F : Fr} (h : Ag D A F := by
  repeat (with_reducible first | exact Ag.refl _ _ | refine Ag.nop ?_ | refine Ag.dead rfl ?_ | (refine Ag.live ?_ ?_; focus exact ivDV) | refine Ag.dr rfl ?_ | (refine Ag.lr ?_ ?_; focus exact ivDV) | refine Ag.up (by assumption) rfl ?_)) : Ag D A F := h
theorem sdDV {p : Prop} (h : p := by first | omega | assumption | (simp (disch := (first | omega | (simp only [nx]; first | done | omega))) only [xxq, tfDV, sliceK, bnd, appendK, appsK, copyK, clearK, makeSliceK, buildSliceK, buildK, lookupK, mapPutK, mapOf, convK, allocK, indexK, partK, xxa, xxb, xxc, bne, Int.reduceEq, Int.reduceBEq, Int.reduceNe, Int.reduceBNe, Int.reduceLE, Int.reduceGT, Int.reduceGE, Int.reduceNeg, ↓reduceIte, reduceCtorEq, Nat.reduceEqDiff, Nat.reduceAdd, Nat.reduceMul, Nat.reduceSub, Nat.reduceLT, Int.reduceAdd, Int.reduceSub, Int.reduceMul, Int.reduceLT, Int.reduceToNat, ne_eq, *]; first | done | omega | rfl)) : p := h
def mk5 (k : Int) : Cr := ⟨k, k + 1, k + 2, k + 3, k + 4⟩
def marksC (k : Int) (n : Nat) : List Cr := (List.range n).map fun (i : Nat) => mk5 (k + 5 * (i : Int))
theorem marksC_len (k : Int) (n : Nat) : (marksC k n).length = n := by simp [marksC]
theorem marksC_get (k : Int) (n j : Nat) (h : j < n) : (marksC k n).getD j cr0 = mk5 (k + 5 * (j : Int)) := by simp [marksC, h]
theorem set_drop5 {L : List Value} (x0 x1 x2 x3 x4 : Value) (i : Nat) (v : Value) : (x0 :: x1 :: x2 :: x3 :: x4 :: L).set (i + 5) v = x0 :: x1 :: x2 :: x3 :: x4 :: L.set i v := rfl
theorem crs_set5 (C : List Cr) (j : Nat) (h : j < C.length) (a b c d s : Int) : (((((crs C).set (j * 5) (I a)).set (j * 5 + 1) (I b)).set (j * 5 + 2) (I c)).set (j * 5 + 3) (I d)).set (j * 5 + 4) (I s) = crs (C.set j ⟨a, b, c, d, s⟩) := by
  induction C generalizing j with
  | nil => simp at h
  | cons x C ih =>
    cases j with
    | zero => rfl
    | succ j =>
      have e : ∀ i, (j + 1) * 5 + i = (j * 5 + i) + 5 := fun i => by omega
      have e0 : (j + 1) * 5 = j * 5 + 5 := by omega
      rw [e 1, e 2, e 3, e 4, e0, crs_cons]
      simp only [cr5, List.cons_append, List.nil_append, set_drop5]
      rw [ih j (by simpa using h)]
      rfl
set_option maxHeartbeats 2000000 in
theorem markCrossingS_c {H : Heap} {g n c : Nat} {C : List Cr} {k : Int} (hg : H.get g = .cells (crs C) 5 false) (hn : C.length = n) (hl : n ≤ 1048576) (h0 : 0 ≤ k) (h1 : k ≤ 1000000000) :
    ACalls Try.prog 47 [.slice (some ⟨g, 0, none⟩) n c, I k] H fun u H' => u = I (k + 5 * n) ∧ H' = H.set g (.cells (crs (marksC k n)) 5 false) := by
  refine ACalls.body Try.func47 rfl Try.ntmps47 (rs := [.tmp 4]) rfl (by simp) rfl fun Q hQ A hA => ?_
  have a0 := hA 0 _ _ rfl
  have a1 := hA 1 _ _ rfl
  clear hA
  repeat' first | refine rnDV ?_ | with_reducible refine And.intro (fun hc => ?_) (fun hc => ?_) | fail
  refine AWp.cut (fun Ac hAc => ?_)
  have c0 := gtDV (t := 0) hAc
  have c1 := gtDV (t := 1) hAc
  have c5 := gtDV (t := 5) hAc
  refine AWp.loop (fun A' H' => ∃ (j : Nat) (M : List Cr), Ag [6, 7, 8, 9, 10, 11, 12, 13, 14, 15, 16, 17, 18, 19, 20, 21, 22, 23, 24, 25, 26, 27, 28, 29, 30, 31, 32, 33, 34, 35, 36, 37, 38, 39, 40, 41, 42, 43, 44, 45, 46] A' (put (put Ac (some 1) (I (k + 5 * (j : Int)))) (some 5) (I j)) ∧ j ≤ n ∧ M.length = n ∧ M.take j = (marksC k n).take j ∧ H' = H.set g (.cells (crs M) 5 false)) (fun A' _ => n - (intV (A' 5)).toNat) ?_ ?_
  · refine ⟨0, C, ?_, by omega, hn, rfl, by rw [set_self hg]⟩
    have e : k + 5 * ((0 : Nat) : Int) = k := by omega
    rw [e]
    exact agDV
  · rintro A1 H1 ⟨j, M, hA, hj, hM, ht, rfl⟩
    have d0 := hA.h 0 rfl
    have d1 := hA.h 1 rfl
    have d5 := hA.h 5 rfl
    have hlen := crs_len M
    rw [hM] at hlen
    by_cases hlt : j < n
    · have hset := crs_set5 M j (by omega) (k + 5 * (j : Int)) (k + 5 * (j : Int) + 1) (k + 5 * (j : Int) + 1 + 1) (k + 5 * (j : Int) + 1 + 1 + 1) (k + 5 * (j : Int) + 1 + 1 + 1 + 1)
      have zf0 := @set_set
      repeat' first | refine rnDV ?_ | with_reducible refine And.intro (fun hc => ?_) (fun hc => ?_) | fail
      refine ⟨⟨j + 1, M.set j (mk5 (k + 5 * (j : Int))), ?_, by omega, by simp [hM], ?_, ?_⟩, ?_⟩
      rotate_left 1
      · have := take_setd (d := cr0) (C := marksC k n) (by rw [hM, marksC_len]) ht (by rw [marksC_len]; exact hlt)
        rw [marksC_get k n j hlt] at this
        exact this
      · congr 4
        unfold mk5
        congr 1 <;> omega
      · exact ivDV
      · have e : k + 5 * (j : Int) + 1 + 1 + 1 + 1 + 1 = k + 5 * ((j + 1 : Nat) : Int) := by omega
        rw [← e]
        exact agDV
    · obtain rfl : j = n := by omega
      rw [List.take_of_length_le (by omega), List.take_of_length_le (by rw [marksC_len]; omega)] at ht
      subst ht
      repeat' first | refine rnDV ?_ | with_reducible refine And.intro (fun hc => ?_) (fun hc => ?_) | fail
      exact hQ.out _ _ ⟨rfl, rfl⟩
theorem markDiagram_c {H : Heap} {v : Value} {g : Nat} {C : List Cr} {k : Int} (z : Int) (hO : OwC H v g C) (hl : C.length ≤ 1048576) (h0 : 0 ≤ k) (h1 : k ≤ 1000000000) :
    ACalls Try.prog 20 [.agg #[v, I z], I k] H fun u H' => u = I (k + 5 * C.length) ∧ OwC H' v g (marksC k C.length) ∧ ExtR g (g + 1) H H' := by
  obtain ⟨c, rfl, o1, o2⟩ := hO
  refine ACalls.body Try.func20 rfl Try.ntmps20 (rs := [.tmp 4]) rfl (by simp) rfl fun Q hQ A hA => ?_
  have a0 := hA 0 _ _ rfl
  have a1 := hA 1 _ _ rfl
  clear hA
  repeat' first | refine rnDV ?_ | (refine (markCrossingS_c (g := g) (C := C) (by exact sdDV) rfl hl h0 h1).mono ?_; rintro u H1 ⟨rfl, rfl⟩) | with_reducible refine And.intro (fun hc => ?_) (fun hc => ?_) | fail
  refine hQ.out _ _ ⟨rfl, ⟨c, by rw [marksC_len], ?_, ?_⟩, ?_⟩
  all_goals first | exact ivDV | refine smDV ?_ | skip
  exact ((ExtR.refl H).push _).set _ (by omega) (by omega)
set_option maxHeartbeats 2000000 in
theorem heldCrossingS_c {H : Heap} {v : Value} {n : Nat} {k : Int} (hV : RdC H v (marksC k n)) (hl : n ≤ 1048576) (h0 : 0 ≤ k) (h1 : k ≤ 1000000000) :
    ACalls Try.prog 48 [v, I k] H fun u H' => u = I (k + 5 * n) ∧ H' = H := by
  obtain ⟨p, c, rfl, hp, hh⟩ := hV
  rw [marksC_len] at hh
  rw [marksC_len]
  refine ACalls.body Try.func48 rfl Try.ntmps48 (rs := [.tmp 4]) rfl (by simp) rfl fun Q hQ A hA => ?_
  have a0 := hA 0 _ _ rfl
  have a1 := hA 1 _ _ rfl
  clear hA
  repeat' first | refine rnDV ?_ | with_reducible refine And.intro (fun hc => ?_) (fun hc => ?_) | fail
  refine AWp.cut (fun Ac hAc => ?_)
  have c0 := gtDV (t := 0) hAc
  have c1 := gtDV (t := 1) hAc
  have c5 := gtDV (t := 5) hAc
  refine AWp.loop (fun A' H' => ∃ (j : Nat), Ag [6, 7, 8, 9, 10, 11, 12, 13, 14, 15, 16, 17, 18, 19, 20, 21, 22, 23, 24, 25, 26, 27, 28, 29, 30, 31, 32, 33, 34, 35, 36, 37, 38, 39, 40, 41, 42, 43, 44, 45, 46, 47, 48, 49, 50, 51, 52, 53, 54, 55, 56] A' (put (put Ac (some 1) (I (k + 5 * (j : Int)))) (some 5) (I j)) ∧ j ≤ n ∧ H' = H) (fun A' _ => n - (intV (A' 5)).toNat) ?_ ?_
  · refine ⟨0, ?_, by omega, rfl⟩
    have e : k + 5 * ((0 : Nat) : Int) = k := by omega
    rw [e]
    exact agDV
  · rintro A1 H1 ⟨j, hA, hj, rfl⟩
    have d0 := hA.h 0 rfl
    have d1 := hA.h 1 rfl
    have d5 := hA.h 5 rfl
    by_cases hlt : j < n
    · obtain ⟨b1, cs, ro, rfl, hb, hg, hl5, hcc⟩ := hh j hlt
      obtain ⟨f0, f1, f2, f3, f4⟩ := rd5 hcc
      rw [marksC_get k n j hlt] at f0 f1 f2 f3 f4
      have e1 : k + 5 * (j : Int) + 2 = k + 5 * (j : Int) + 1 + 1 := by omega
      have e2 : k + 5 * (j : Int) + 3 = k + 5 * (j : Int) + 1 + 1 + 1 := by omega
      have e3 : k + 5 * (j : Int) + 4 = k + 5 * (j : Int) + 1 + 1 + 1 + 1 := by omega
      simp only [mk5] at f0 f1 f2 f3 f4
      rw [e1] at f2
      rw [e2] at f3
      rw [e3] at f4
      clear e1 e2 e3 hcc
      repeat' first | refine rnDV ?_ | with_reducible refine And.intro (fun hc => ?_) (fun hc => ?_) | fail
      refine ⟨⟨j + 1, ?_, by omega, rfl⟩, ?_⟩
      · have e : k + 5 * (j : Int) + 1 + 1 + 1 + 1 + 1 = k + 5 * ((j + 1 : Nat) : Int) := by omega
        rw [← e]
        exact agDV
      all_goals first | exact ivDV | refine smDV ?_ | skip
    · obtain rfl : j = n := by omega
      repeat' first | refine rnDV ?_ | with_reducible refine And.intro (fun hc => ?_) (fun hc => ?_) | fail
      exact hQ.out _ _ ⟨rfl, rfl⟩
theorem heldDiagram_c {H : Heap} {v : Value} {n : Nat} {k : Int} (z : Int) (hV : RdC H v (marksC k n)) (hl : n ≤ 1048576) (h0 : 0 ≤ k) (h1 : k ≤ 1000000000) :
    ACalls Try.prog 21 [.agg #[v, I z], I k] H fun u H' => u = I (k + 5 * n) ∧ Ext H H' := by
  have hone := hV.one
  have hV1 := fun {H' : Heap} (h : Ext H H') => hV.ext h
  refine ACalls.body Try.func21 rfl Try.ntmps21 (rs := [.tmp 4]) rfl (by simp) rfl fun Q hQ A hA => ?_
  have a0 := hA 0 _ _ rfl
  have a1 := hA 1 _ _ rfl
  clear hA
  repeat' first | refine rnDV ?_ | (refine (heldCrossingS_c (n := n) (hV1 (by exact ex1)) hl h0 h1).mono ?_; rintro u H1 ⟨rfl, rfl⟩) | with_reducible refine And.intro (fun hc => ?_) (fun hc => ?_) | fail
  exact hQ.out _ _ ⟨rfl, by exact ex1⟩
end Go.Proofs.Ytpbbfephfmdgmaa.Rai
