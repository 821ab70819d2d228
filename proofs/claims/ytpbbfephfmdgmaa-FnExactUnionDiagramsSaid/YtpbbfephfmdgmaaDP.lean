/- A part of the walk: what functions of the program do, over an abstract heap. -/
import Derived.Test.YtpbbfephfmdgmaaDM
import Derived.Test.YtpbbfephfmdgmaaDO
namespace Go.Proofs.Ytpbbfephfmdgmaa.Rai
open Go TP
set_option linter.unusedVariables false
set_option linter.unusedSimpArgs false
set_option maxRecDepth 20000
theorem tfDP : (Try.prog.underlying 27 = some (.slice 54)) ∧ (el Try.prog 27 = some (none, 5)) ∧ (Try.prog.underlying 58 = some (.slice 87)) ∧ (el Try.prog 58 = some (none, 2)) ∧ (Try.prog.underlying 65 = some (.slice 2)) ∧ (el Try.prog 65 = some (none, 1)) ∧ (tk Try.prog 2 = some none) ∧ (tk Try.prog 27 = some none) ∧ (tk Try.prog 54 = some (some 5)) ∧ (tk Try.prog 58 = some none) ∧ (tk Try.prog 87 = some (some 2)) ∧ (cz Try.prog 2 = some 1) ∧ (bz Try.prog 2 = some 8) ∧ (cz Try.prog 54 = some 5) ∧ (bz Try.prog 54 = some 40) ∧ (cz Try.prog 87 = some 2) ∧ (bz Try.prog 87 = some 16) ∧ (zr Try.prog 2 = some (.int .i64 0)) ∧ (zr Try.prog 54 = some (.agg #[.int .i64 0, .int .i64 0, .int .i64 0, .int .i64 0, .int .i64 0])) ∧ (zr Try.prog 87 = some (.agg #[.int .i64 0, .int .i64 0])) ∧ (fo Try.prog 29 0 = some (0, none)) ∧ (fo Try.prog 60 0 = some (0, none)) ∧ (fo Try.prog 60 1 = some (1, none)) ∧ (fo Try.prog 87 0 = some (0, none)) := by
  refine ⟨?_, ?_, ?_, ?_, ?_, ?_, ?_, ?_, ?_, ?_, ?_, ?_, ?_, ?_, ?_, ?_, ?_, ?_, ?_, ?_, ?_, ?_, ?_, ?_⟩ <;> kernel_rfl
theorem rnDP {a b : Prop} (hb : b) (h : Later b → a := by
  intro hb
  first
  | ((with_reducible first | refine AOps.nil ?_ | refine athen_n ?_ | refine athen_r ?_ | refine athen_e ?_ | refine ablock_n ?_ | refine ablock_r ?_ | refine ablock_s ?_ | refine AWp.seq' ?_ | refine AWp.block ?_ | refine AWp.skip ?_ | refine AWp.exit ?_ | refine AWp.ret ?_ | refine AWp.region ?_ | (refine ablock_e ?_ ?_; focus rfl)); repeat (with_reducible first | refine AOps.nil ?_ | refine athen_n ?_ | refine athen_r ?_ | refine athen_e ?_ | refine ablock_n ?_ | refine ablock_r ?_ | refine ablock_s ?_ | refine AWp.seq' ?_ | refine AWp.block ?_ | refine AWp.skip ?_ | refine AWp.exit ?_ | refine AWp.ret ?_ | refine AWp.region ?_ | (refine ablock_e ?_ ?_; focus rfl)))
  | (refine AOps.guardu rfl rfl rfl ?_ ?_; focus (simp (disch := (first | omega | (simp only [nx]; first | done | omega))) only [Value.bool.injEq, Bool.and_true, Bool.true_and, Bool.and_false, Bool.false_and, beq_self_eq_true, bne, Bool.not_true, Bool.not_false, sx, nx, dx, ↓reduceIte, reduceCtorEq, Nat.reduceEqDiff, ne_eq, not_false_eq_true, *]; done))
  | ((first | refine AOps.cons2 rfl rfl fun K hK => ?_ | refine AWp.cond rfl fun X Y hX hY => ?_ | refine AOps.guard rfl rfl rfl fun X Y hX hY => ?_ | refine aret_r ?_ | refine aret_n ?_); simp (disch := (first | omega | (simp only [nx]; first | done | omega))) only [acond_bool, aresK, retv, xxq, tfDP, sliceK, bnd, appendK, appsK, copyK, clearK, makeSliceK, buildSliceK, buildK, lookupK, mapPutK, mapOf, convK, allocK, indexK, partK, xxa, xxb, xxc, bne, Int.reduceEq, Int.reduceBEq, Int.reduceNe, Int.reduceBNe, Int.reduceLE, Int.reduceGT, Int.reduceGE, Int.reduceNeg, ↓reduceIte, reduceCtorEq, Nat.reduceEqDiff, Nat.reduceAdd, Nat.reduceMul, Nat.reduceSub, Nat.reduceLT, Int.reduceAdd, Int.reduceSub, Int.reduceMul, Int.reduceLT, Int.reduceToNat, ne_eq, *]; (repeat first | ((with_reducible refine And.intro (fun hc => ?_) (fun hc => absurd hc (by omega))); clear hc) | ((with_reducible refine And.intro (fun hc => absurd hc (by omega)) (fun hc => ?_)); clear hc) | ((with_reducible refine And.intro ?_ ?_); focus ((first | omega | assumption | exact cok _ rfl | exact one_ints _ | exact one_map fun _ => rfl | ((repeat refine one_cons (by first | rfl | assumption) ?_); exact one_nil) | rfl | decide | (intro u hu; cases hu)); done)) | (with_reducible refine (fun hc => ?_ : _ → _); clear hc)); (first | refine hK.out _ _ ?_ | refine ACalls.hk hK ?_ | refine appendK.hk hK ?_ | refine (fun (q : _ ∧ _) => And.intro (hK.out _ _ q.1) (hK.out _ _ q.2)) ?_ | refine hX.out ?_ | refine hY.out ?_ | refine (fun (q : (_ → _) ∧ (_ → _)) => And.intro (fun hc => hX.out (q.1 hc)) (fun hc => hY.out (q.2 hc))) ?_ | refine (fun (q : (_ → _) ∧ (_ → _)) => And.intro (fun hc => hY.out (q.1 hc)) (fun hc => hX.out (q.2 hc))) ?_ | skip))
  exact hb.out) : a := h ⟨hb⟩
theorem rdDP {a b : Prop} (hb : b) (h : Later b → a := by
  intro hb
  first
  | with_reducible refine APl.nil ?_
  | ((first | refine APl.pure2 rfl rfl rfl rfl fun Kx hKx => ?_ | refine APl.load rfl rfl rfl fun Kx hKx => ?_ | refine APl.slice rfl rfl rfl fun Kx hKx => ?_ | refine APl.act2 rfl rfl rfl rfl fun Kx hKx => ?_); simp (disch := (first | omega | (simp only [nx]; first | done | omega))) only [heldIn_iff, List.zipIdx_cons, List.zipIdx_nil, List.map_cons, List.map_nil, xxq, tfDP, sliceK, bnd, appendK, appsK, copyK, clearK, makeSliceK, buildSliceK, buildK, lookupK, mapPutK, mapOf, convK, allocK, indexK, partK, xxa, xxb, xxc, bne, Int.reduceEq, Int.reduceBEq, Int.reduceNe, Int.reduceBNe, Int.reduceLE, Int.reduceGT, Int.reduceGE, Int.reduceNeg, ↓reduceIte, reduceCtorEq, Nat.reduceEqDiff, Nat.reduceAdd, Nat.reduceMul, Nat.reduceSub, Nat.reduceLT, Int.reduceAdd, Int.reduceSub, Int.reduceMul, Int.reduceLT, Int.reduceToNat, ne_eq, *]; (repeat first | ((with_reducible refine And.intro (fun hc => ?_) (fun hc => absurd hc (by omega))); clear hc) | ((with_reducible refine And.intro (fun hc => absurd hc (by omega)) (fun hc => ?_)); clear hc) | ((with_reducible refine And.intro ?_ ?_); focus ((first | omega | assumption | exact cok _ rfl | exact one_ints _ | exact one_map fun _ => rfl | ((repeat refine one_cons (by first | rfl | assumption) ?_); exact one_nil) | rfl | decide | (intro u hu; cases hu)); done)) | (with_reducible refine (fun hc => ?_ : _ → _); clear hc)); (first | refine hKx.out _ ?_ | refine hKx.out _ _ ?_ | refine ACalls.hkx hKx ?_ | refine (fun (q : _ ∧ _) => And.intro (hKx.out _ q.1) (hKx.out _ q.2)) ?_ | refine (fun (q : (_ → _) ∧ _) => And.intro (fun hc => hKx.out _ (q.1 hc)) (hKx.out _ q.2)) ?_ | (refine hKx.out _ _ ?_ ?_; focus (simp (disch := (first | omega | (simp only [nx]; first | done | omega))) only [heldIn_iff, List.zipIdx_cons, List.zipIdx_nil, List.map_cons, List.map_nil, xxq, tfDP, sliceK, bnd, appendK, appsK, copyK, clearK, makeSliceK, buildSliceK, buildK, lookupK, mapPutK, mapOf, convK, allocK, indexK, partK, xxa, xxb, xxc, bne, Int.reduceEq, Int.reduceBEq, Int.reduceNe, Int.reduceBNe, Int.reduceLE, Int.reduceGT, Int.reduceGE, Int.reduceNeg, ↓reduceIte, reduceCtorEq, Nat.reduceEqDiff, Nat.reduceAdd, Nat.reduceMul, Nat.reduceSub, Nat.reduceLT, Int.reduceAdd, Int.reduceSub, Int.reduceMul, Int.reduceLT, Int.reduceToNat, ne_eq, *]; first | done | trivial))))
  exact hb.out) : a := h ⟨hb⟩
theorem hlDP {p b : Prop} (hb : b) (h : p := by simp (disch := (first | omega | (simp only [nx]; first | done | omega))) only [heldIn_iff, List.zipIdx_cons, List.zipIdx_nil, List.map_cons, List.map_nil, xxq, tfDP, sliceK, bnd, appendK, appsK, copyK, clearK, makeSliceK, buildSliceK, buildK, lookupK, mapPutK, mapOf, convK, allocK, indexK, partK, xxa, xxb, xxc, bne, Int.reduceEq, Int.reduceBEq, Int.reduceNe, Int.reduceBNe, Int.reduceLE, Int.reduceGT, Int.reduceGE, Int.reduceNeg, ↓reduceIte, reduceCtorEq, Nat.reduceEqDiff, Nat.reduceAdd, Nat.reduceMul, Nat.reduceSub, Nat.reduceLT, Int.reduceAdd, Int.reduceSub, Int.reduceMul, Int.reduceLT, Int.reduceToNat, ne_eq, *]; first | done | trivial) : p ∧ b := ⟨h, hb⟩
theorem ivDP {p : Prop} (h : p := by first | omega | ((repeat first | exact Ext.refl _ | assumption | refine Ext.push ?_ _ | refine Ext.set ?_ _ (by first | omega | (simp only [nx, *]; omega)) | (apply Ext.up; focus (assumption; done))); done) | (simp (disch := (first | omega | (simp only [nx]; first | done | omega))) only [xxq, xxa, xxb, xxc, bne, Int.reduceEq, Int.reduceBEq, Int.reduceNe, Int.reduceBNe, Int.reduceLE, Int.reduceGT, Int.reduceGE, Int.reduceNeg, ↓reduceIte, reduceCtorEq, Nat.reduceEqDiff, Nat.reduceAdd, Nat.reduceMul, Nat.reduceSub, Nat.reduceLT, Int.reduceAdd, Int.reduceSub, Int.reduceMul, Int.reduceLT, Int.reduceToNat, ne_eq, *, intV_int]; first | done | omega | rfl | exact congrArg (Value.int .i64) (by omega) | ((repeat first | exact Ext.refl _ | assumption | refine Ext.push ?_ _ | refine Ext.set ?_ _ (by first | omega | (simp only [nx, *]; omega)) | (apply Ext.up; focus (assumption; done))); done)) | rfl) : p := h
theorem smDP {a b : Prop} (hb : b) (h : Later b → a := by intro hb; simp (disch := (first | omega | (simp only [nx]; first | done | omega))) only [xxq, xxa, xxb, xxc, bne, Int.reduceEq, Int.reduceBEq, Int.reduceNe, Int.reduceBNe, Int.reduceLE, Int.reduceGT, Int.reduceGE, Int.reduceNeg, ↓reduceIte, reduceCtorEq, Nat.reduceEqDiff, Nat.reduceAdd, Nat.reduceMul, Nat.reduceSub, Nat.reduceLT, Int.reduceAdd, Int.reduceSub, Int.reduceMul, Int.reduceLT, Int.reduceToNat, ne_eq, *, intV_int]; exact hb.out) : a := h ⟨hb⟩
theorem gtDP {A F : Fr} {t : Nat} {v : Value} (h : Ag [] A F) (e : F t = v := by simp (disch := (first | omega | (simp only [nx]; first | done | omega))) only [xxq, xxa, xxb, xxc, bne, Int.reduceEq, Int.reduceBEq, Int.reduceNe, Int.reduceBNe, Int.reduceLE, Int.reduceGT, Int.reduceGE, Int.reduceNeg, ↓reduceIte, reduceCtorEq, Nat.reduceEqDiff, Nat.reduceAdd, Nat.reduceMul, Nat.reduceSub, Nat.reduceLT, Int.reduceAdd, Int.reduceSub, Int.reduceMul, Int.reduceLT, Int.reduceToNat, ne_eq, *, intV_int]; exact rfl) : A t = v := (h.h t rfl).trans e
theorem agDP {D : List Nat} {A F : Fr} (h : Ag D A F := by
  repeat (with_reducible first | exact Ag.refl _ _ | refine Ag.nop ?_ | refine Ag.dead rfl ?_ | (refine Ag.live ?_ ?_; focus exact ivDP) | refine Ag.dr rfl ?_ | (refine Ag.lr ?_ ?_; focus exact ivDP) | refine Ag.up (by assumption) rfl ?_)) : Ag D A F := h
theorem sdDP {p : Prop} (h : p := by first | omega | assumption | (simp (disch := (first | omega | (simp only [nx]; first | done | omega))) only [xxq, tfDP, sliceK, bnd, appendK, appsK, copyK, clearK, makeSliceK, buildSliceK, buildK, lookupK, mapPutK, mapOf, convK, allocK, indexK, partK, xxa, xxb, xxc, bne, Int.reduceEq, Int.reduceBEq, Int.reduceNe, Int.reduceBNe, Int.reduceLE, Int.reduceGT, Int.reduceGE, Int.reduceNeg, ↓reduceIte, reduceCtorEq, Nat.reduceEqDiff, Nat.reduceAdd, Nat.reduceMul, Nat.reduceSub, Nat.reduceLT, Int.reduceAdd, Int.reduceSub, Int.reduceMul, Int.reduceLT, Int.reduceToNat, ne_eq, *]; first | done | omega | rfl)) : p := h
theorem endP_c (C : List Cr) (h : Cnt C) (a : Nat) (b : Bool) (ha : a < 2 * C.length) : (endP (fnd C a b (4 * C.length))).1 = crF C a b := by
  obtain ⟨j, h1, h2⟩ := place_at h b ha
  rw [h1, h2]; rfl
set_option maxHeartbeats 4000000 in
theorem parts_c {H : Heap} {v vf vt : Value} {C : List Cr} (z : Int) (hC : RdC H v C) (hn : C.length ≤ 10) (hV : Cnt C) (hf : RdE H vf (endsL C false (2 * C.length) (4 * C.length))) (ht : RdE H vt (endsL C true (2 * C.length) (4 * C.length))) :
    ACalls Try.prog 77 [.agg #[v, I z], .agg #[vf, vt]] H fun u H' => RowI H' u (numL (prt C (2 * C.length))) ∧ Ext H H' := by
  obtain ⟨p, kk, rfl, hp, hh⟩ := hC
  clear hh
  obtain ⟨gf, kf, rfl, hf1, rof, hf2⟩ := hf
  obtain ⟨gt, kt, rfl, ht1, rot, ht2⟩ := ht
  rw [endsL_len, endsL_len]
  have lf := prs_len (endsL C false (2 * C.length) (4 * C.length))
  have lt := prs_len (endsL C true (2 * C.length) (4 * C.length))
  rw [endsL_len] at lf lt
  have hcl := cntL_len C.length
  have h2n : (2 * C.length : Nat) ≤ 20 := by omega
  refine ACalls.body Try.func77 rfl Try.ntmps77 (rs := [.tmp 4]) rfl (by simp) rfl fun Q hQ A hA => ?_
  have a0 := hA 0 _ _ rfl
  have a1 := hA 1 _ _ rfl
  clear hA
  repeat' first | refine rnDP ?_ | (refine (sizeC_c _ _ _).mono ?_; rintro v H' ⟨rfl, rfl⟩) | with_reducible refine And.intro (fun hc => ?_) (fun hc => ?_) | fail
  refine (counting_c C.length (by omega)).mono ?_
  rintro u H1 ⟨hO, hx1⟩
  have hx1g := hx1.get; have hx1s := hx1.size; (try simp only [nx] at hx1s)
  have hbx : H1.get (H.size + 1) = .cells [.slice (some ⟨gf, 0, none⟩) (2 * C.length) kf, .slice (some ⟨gt, 0, none⟩) (2 * C.length) kt] 1 false := by exact ivDP
  have hx0 : Ext H H1 := by exact ex1
  have hz1 : H.size + 1 < H1.size := by omega
  rcases hO with ⟨rfl, hnil⟩ | ⟨g, rfl, hg1, hg2, hg3⟩
  · have hC0 : C.length = 0 := by rw [hnil] at hcl; simpa using hcl.symm
    clear hx1g hx1s hx1
    repeat' first | refine rnDP ?_ | with_reducible refine And.intro (fun hc => ?_) (fun hc => ?_) | fail
    refine AWp.cut (fun Ac hAc => ?_)
    have c3 := gtDP (t := 3) hAc
    have c5 := gtDP (t := 5) hAc
    have c13 := gtDP (t := 13) hAc
    have c14 := gtDP (t := 14) hAc
    have c15 := gtDP (t := 15) hAc
    clear a0 a1
    refine AWp.loop (fun A' H' => ∃ _ : Unit, Ag [6, 7, 16, 17, 18, 19, 20, 21, 22, 23, 24, 25, 26, 27, 28, 29, 30] A' (put Ac (some 15) (I 0)) ∧ H' = H1) (fun A' _ => 0) ?_ ?_
    · exact ⟨(), agDP, rfl⟩
    rintro A1 H2 ⟨_, hA, rfl⟩
    have d3 := hA.h 3 rfl
    have d5 := hA.h 5 rfl
    have d13 := hA.h 13 rfl
    have d14 := hA.h 14 rfl
    have d15 := hA.h 15 rfl
    repeat' first | refine rnDP ?_ | with_reducible refine And.intro (fun hc => ?_) (fun hc => ?_) | fail
    refine (numbered_c (l := []) ⟨none, 0, rfl, fun _ => rfl, fun j hj => by simp at hj⟩ (by simp)).mono ?_
    rintro u H3 ⟨hO3, hx3⟩
    repeat' first | refine rnDP ?_ | with_reducible refine And.intro (fun hc => ?_) (fun hc => ?_) | fail
    refine hQ.out _ _ ⟨?_, hx0.trans hx3⟩
    have : prt C (2 * C.length) = [] := List.eq_nil_of_length_eq_zero (by rw [prt_len, hC0])
    rw [this]; exact hO3.row
  · rw [hcl]
    simp only [nx] at hg1
    clear hx1g hx1s hx1
    repeat' first | refine rnDP ?_ | with_reducible refine And.intro (fun hc => ?_) (fun hc => ?_) | fail
    refine AWp.cut (fun Ac hAc => ?_)
    have c3 := gtDP (t := 3) hAc
    have c5 := gtDP (t := 5) hAc
    have c13 := gtDP (t := 13) hAc
    have c14 := gtDP (t := 14) hAc
    have c15 := gtDP (t := 15) hAc
    clear a0 a1
    refine AWp.loop (fun A' H' => ∃ (k : Nat), Ag [6, 7, 16, 17, 18, 19, 20, 21, 22, 23, 24, 25, 26, 27, 28, 29, 30] A' (put Ac (some 15) (I k)) ∧ k ≤ 2 * C.length ∧ H'.get g = .cells (ints (prt C k)) 1 false ∧ g < H'.size ∧ H'.get (H.size + 1) = .cells [.slice (some ⟨gf, 0, none⟩) (2 * C.length) kf, .slice (some ⟨gt, 0, none⟩) (2 * C.length) kt] 1 false ∧ H.size + 1 < H'.size ∧ Ext H H') (fun A' _ => 2 * C.length - (intV (A' 15)).toNat) ?_ ?_
    · exact ⟨0, agDP, by omega, hg3, hg2, hbx, hz1, hx0⟩
    · clear hg2 hg3 hbx hz1 hx0
      rintro A1 H2 ⟨k, hA, hk, w1, w2, w3, w4, w5⟩
      have d3 := hA.h 3 rfl
      have d5 := hA.h 5 rfl
      have d13 := hA.h 13 rfl
      have d14 := hA.h 14 rfl
      have d15 := hA.h 15 rfl
      have hxs := w5.size
      by_cases hlt : k < 2 * C.length
      · have gf2 := prs_get (C := endsL C false (2 * C.length) (4 * C.length)) (i := k) (by rw [endsL_len]; exact hlt)
        have gt2 := prs_at (L := endsL C true (2 * C.length) (4 * C.length)) (a := k) (by rw [endsL_len]; exact hlt)
        rw [endsL_get hlt, pr2, endP_c C hV k false hlt] at gf2
        rw [endsL_get hlt, endP_c C hV k true hlt] at gt2
        obtain ⟨gt3, gt4⟩ := gt2
        have hl1 := crF_lt hV (b := true) hlt
        have hl2 := crF_lt hV (b := false) hlt
        have hstep : prt C (k + 1) = unionL (prt C k) (crF C k false) (crF C k true) := rfl
        have hpl := prt_len C k
        have hf3 := (w5.get gf hf1).trans hf2
        have ht3 := (w5.get gt ht1).trans ht2
        generalize crF C k false = i1 at *
        generalize crF C k true = i2 at *
        generalize prt C k = m at *
        generalize (endP (fnd C k false (4 * C.length))).2 = e2 at *
        repeat' first | refine rnDP ?_ | with_reducible refine And.intro (fun hc => ?_) (fun hc => ?_) | fail
        refine AWp.planned [0,1,2,3,4,5,6,7,8,9] mixed (by kernel_rfl) ?_
        repeat' first | refine rdDP ?_ | (refine (union_c (g := g) (l := m) (n := C.length) (by exact sdDP) hpl (by omega) (by omega) (by omega) (by omega) (by omega)).mono ?_; rintro v H3 ⟨rfl, rfl⟩; simp only [Int.toNat_natCast]; refine hlDP ?_) | with_reducible refine And.intro (fun hc => ?_) ?_ | with_reducible refine And.intro ?_ ?_ | fail
        repeat' first | refine rnDP ?_ | with_reducible refine And.intro (fun hc => ?_) (fun hc => ?_) | fail
        refine ⟨⟨k + 1, agDP, by omega, ?_, ?_, ?_, ?_, ?_⟩, ?_⟩
        all_goals first | exact ivDP | refine smDP ?_ | skip
      · obtain rfl : k = 2 * C.length := by omega
        have hpl := prt_len C (2 * C.length)
        repeat' first | refine rnDP ?_ | with_reducible refine And.intro (fun hc => ?_) (fun hc => ?_) | fail
        refine (numbered_c (l := prt C (2 * C.length)) ⟨some ⟨g, 0, none⟩, 0, by rw [hpl], fun h => (by cases h), fun j hj => ⟨g, _, _, rfl, w2, w1, ints_get hj⟩⟩ (by omega)).mono ?_
        rintro u H3 ⟨hO3, hx3⟩
        repeat' first | refine rnDP ?_ | with_reducible refine And.intro (fun hc => ?_) (fun hc => ?_) | fail
        exact hQ.out _ _ ⟨hO3.row, w5.trans hx3⟩
end Go.Proofs.Ytpbbfephfmdgmaa.Rai
