/- A part of the walk: what functions of the program do, over an abstract heap. -/
import Derived.Test.YtpbbfephfmdgmaaDZ
namespace Go.Proofs.Ytpbbfephfmdgmaa.Rai
open Go TP
set_option linter.unusedVariables false
set_option linter.unusedSimpArgs false
set_option maxRecDepth 20000
theorem tfEA : (Try.prog.underlying 27 = some (.slice 54)) ∧ (el Try.prog 27 = some (none, 5)) ∧ (tk Try.prog 2 = some none) ∧ (tk Try.prog 27 = some none) ∧ (tk Try.prog 29 = some (some 2)) ∧ (tk Try.prog 54 = some (some 5)) ∧ (cz Try.prog 54 = some 5) ∧ (bz Try.prog 54 = some 40) ∧ (zr Try.prog 29 = some (.agg #[.slice none 0 0, .int .i64 0])) ∧ (zr Try.prog 54 = some (.agg #[.int .i64 0, .int .i64 0, .int .i64 0, .int .i64 0, .int .i64 0])) ∧ (fo Try.prog 29 0 = some (0, none)) ∧ (fo Try.prog 29 1 = some (1, none)) ∧ (el Try.prog 29 = none) ∧ (placesOf Try.prog 29 = some #[(0, 1), (1, 1)]) := by
  refine ⟨?_, ?_, ?_, ?_, ?_, ?_, ?_, ?_, ?_, ?_, ?_, ?_, ?_, ?_⟩ <;> kernel_rfl
theorem rnEA {a b : Prop} (hb : b) (h : Later b → a := by
  intro hb
  first
  | ((with_reducible first | refine AOps.nil ?_ | refine athen_n ?_ | refine athen_r ?_ | refine athen_e ?_ | refine ablock_n ?_ | refine ablock_r ?_ | refine ablock_s ?_ | refine AWp.seq' ?_ | refine AWp.block ?_ | refine AWp.skip ?_ | refine AWp.exit ?_ | refine AWp.ret ?_ | refine AWp.region ?_ | (refine ablock_e ?_ ?_; focus rfl)); repeat (with_reducible first | refine AOps.nil ?_ | refine athen_n ?_ | refine athen_r ?_ | refine athen_e ?_ | refine ablock_n ?_ | refine ablock_r ?_ | refine ablock_s ?_ | refine AWp.seq' ?_ | refine AWp.block ?_ | refine AWp.skip ?_ | refine AWp.exit ?_ | refine AWp.ret ?_ | refine AWp.region ?_ | (refine ablock_e ?_ ?_; focus rfl)))
  | (refine AOps.guardu rfl rfl rfl ?_ ?_; focus (simp (disch := (first | omega | (simp only [nx]; first | done | omega))) only [Value.bool.injEq, Bool.and_true, Bool.true_and, Bool.and_false, Bool.false_and, beq_self_eq_true, bne, Bool.not_true, Bool.not_false, sx, nx, dx, ↓reduceIte, reduceCtorEq, Nat.reduceEqDiff, ne_eq, not_false_eq_true, *]; done))
  | ((first | refine AOps.cons2 rfl rfl fun K hK => ?_ | refine AWp.cond rfl fun X Y hX hY => ?_ | refine AOps.guard rfl rfl rfl fun X Y hX hY => ?_ | refine aret_r ?_ | refine aret_n ?_); simp (disch := (first | omega | (simp only [nx]; first | done | omega))) only [acond_bool, aresK, retv, xxq, tfEA, sliceK, bnd, copyK, clearK, makeSliceK, buildSliceK, buildK, lookupK, mapPutK, mapOf, convK, allocK, indexK, partK, xxa, xxb, xxc, bne, Int.reduceEq, Int.reduceBEq, Int.reduceNe, Int.reduceBNe, Int.reduceLE, Int.reduceGT, Int.reduceGE, Int.reduceNeg, ↓reduceIte, reduceCtorEq, Nat.reduceEqDiff, Nat.reduceAdd, Nat.reduceMul, Nat.reduceSub, Nat.reduceLT, Int.reduceAdd, Int.reduceSub, Int.reduceMul, Int.reduceLT, Int.reduceToNat, ne_eq, *]; (repeat first | ((with_reducible refine And.intro (fun hc => ?_) (fun hc => absurd hc (by omega))); clear hc) | ((with_reducible refine And.intro (fun hc => absurd hc (by omega)) (fun hc => ?_)); clear hc) | ((with_reducible refine And.intro ?_ ?_); focus ((first | omega | assumption | exact cok _ rfl | exact one_ints _ | exact one_map fun _ => rfl | ((repeat refine one_cons (by first | rfl | assumption) ?_); exact one_nil) | rfl | decide | (intro u hu; cases hu)); done)) | (with_reducible refine (fun hc => ?_ : _ → _); clear hc)); (first | refine hK.out _ _ ?_ | refine ACalls.hk hK ?_ | refine appendK.hk hK ?_ | refine (fun (q : _ ∧ _) => And.intro (hK.out _ _ q.1) (hK.out _ _ q.2)) ?_ | refine hX.out ?_ | refine hY.out ?_ | refine (fun (q : (_ → _) ∧ (_ → _)) => And.intro (fun hc => hX.out (q.1 hc)) (fun hc => hY.out (q.2 hc))) ?_ | refine (fun (q : (_ → _) ∧ (_ → _)) => And.intro (fun hc => hY.out (q.1 hc)) (fun hc => hX.out (q.2 hc))) ?_ | skip))
  exact hb.out) : a := h ⟨hb⟩
theorem rqEA {a b : Prop} (hb : b) (h : Later b → a := by
  intro hb
  first
  | with_reducible refine APg.nil ?_
  | ((first | refine APg.pure rfl rfl rfl rfl fun Kx hKx => ?_ | refine APg.load rfl rfl rfl fun Kx hKx => ?_ | refine APg.slice rfl rfl rfl fun Kx hKx => ?_ | refine APg.act rfl rfl rfl rfl fun Kx hKx => ?_); simp (disch := (first | omega | (simp only [nx]; first | done | omega))) only [heldIn_iff, List.zipIdx_cons, List.zipIdx_nil, List.map_cons, List.map_nil, heldG_iff, Nat.reduceBEq, Bool.or_false, Bool.or_true, Bool.false_or, Bool.true_or, xxq, tfEA, sliceK, bnd, copyK, clearK, makeSliceK, buildSliceK, buildK, lookupK, mapPutK, mapOf, convK, allocK, indexK, partK, xxa, xxb, xxc, bne, Int.reduceEq, Int.reduceBEq, Int.reduceNe, Int.reduceBNe, Int.reduceLE, Int.reduceGT, Int.reduceGE, Int.reduceNeg, ↓reduceIte, reduceCtorEq, Nat.reduceEqDiff, Nat.reduceAdd, Nat.reduceMul, Nat.reduceSub, Nat.reduceLT, Int.reduceAdd, Int.reduceSub, Int.reduceMul, Int.reduceLT, Int.reduceToNat, ne_eq, *]; (repeat first | ((with_reducible refine And.intro (fun hc => ?_) (fun hc => absurd hc (by omega))); clear hc) | ((with_reducible refine And.intro (fun hc => absurd hc (by omega)) (fun hc => ?_)); clear hc) | ((with_reducible refine And.intro ?_ ?_); focus ((first | omega | assumption | exact cok _ rfl | exact one_ints _ | exact one_map fun _ => rfl | ((repeat refine one_cons (by first | rfl | assumption) ?_); exact one_nil) | rfl | decide | (intro u hu; cases hu)); done)) | (with_reducible refine (fun hc => ?_ : _ → _); clear hc)); (first | refine hKx.out _ ?_ | refine hKx.out _ _ ?_ | refine ACalls.hkx hKx ?_ | refine appendK.hkx hKx ?_ | refine (fun (q : _ ∧ _) => And.intro (hKx.out _ q.1) (hKx.out _ q.2)) ?_ | refine (fun (q : (_ → _) ∧ _) => And.intro (fun hc => hKx.out _ (q.1 hc)) (hKx.out _ q.2)) ?_ | (refine hKx.out _ _ ?_ ?_; focus (simp (disch := (first | omega | (simp only [nx]; first | done | omega))) only [heldIn_iff, List.zipIdx_cons, List.zipIdx_nil, List.map_cons, List.map_nil, heldG_iff, Nat.reduceBEq, Bool.or_false, Bool.or_true, Bool.false_or, Bool.true_or, xxq, tfEA, sliceK, bnd, copyK, clearK, makeSliceK, buildSliceK, buildK, lookupK, mapPutK, mapOf, convK, allocK, indexK, partK, xxa, xxb, xxc, bne, Int.reduceEq, Int.reduceBEq, Int.reduceNe, Int.reduceBNe, Int.reduceLE, Int.reduceGT, Int.reduceGE, Int.reduceNeg, ↓reduceIte, reduceCtorEq, Nat.reduceEqDiff, Nat.reduceAdd, Nat.reduceMul, Nat.reduceSub, Nat.reduceLT, Int.reduceAdd, Int.reduceSub, Int.reduceMul, Int.reduceLT, Int.reduceToNat, ne_eq, *]; first | done | trivial))))
  exact hb.out) : a := h ⟨hb⟩
theorem hgEA {p b : Prop} (hb : b) (h : p := by simp (disch := (first | omega | (simp only [nx]; first | done | omega))) only [heldIn_iff, List.zipIdx_cons, List.zipIdx_nil, List.map_cons, List.map_nil, heldG_iff, Nat.reduceBEq, Bool.or_false, Bool.or_true, Bool.false_or, Bool.true_or, xxq, tfEA, sliceK, bnd, copyK, clearK, makeSliceK, buildSliceK, buildK, lookupK, mapPutK, mapOf, convK, allocK, indexK, partK, xxa, xxb, xxc, bne, Int.reduceEq, Int.reduceBEq, Int.reduceNe, Int.reduceBNe, Int.reduceLE, Int.reduceGT, Int.reduceGE, Int.reduceNeg, ↓reduceIte, reduceCtorEq, Nat.reduceEqDiff, Nat.reduceAdd, Nat.reduceMul, Nat.reduceSub, Nat.reduceLT, Int.reduceAdd, Int.reduceSub, Int.reduceMul, Int.reduceLT, Int.reduceToNat, ne_eq, *]; first | done | trivial) : p ∧ b := ⟨h, hb⟩
theorem hlEA {p b : Prop} (hb : b) (h : p := by simp (disch := (first | omega | (simp only [nx]; first | done | omega))) only [heldIn_iff, List.zipIdx_cons, List.zipIdx_nil, List.map_cons, List.map_nil, xxq, tfEA, sliceK, bnd, copyK, clearK, makeSliceK, buildSliceK, buildK, lookupK, mapPutK, mapOf, convK, allocK, indexK, partK, xxa, xxb, xxc, bne, Int.reduceEq, Int.reduceBEq, Int.reduceNe, Int.reduceBNe, Int.reduceLE, Int.reduceGT, Int.reduceGE, Int.reduceNeg, ↓reduceIte, reduceCtorEq, Nat.reduceEqDiff, Nat.reduceAdd, Nat.reduceMul, Nat.reduceSub, Nat.reduceLT, Int.reduceAdd, Int.reduceSub, Int.reduceMul, Int.reduceLT, Int.reduceToNat, ne_eq, *]; first | done | trivial) : p ∧ b := ⟨h, hb⟩
theorem ivEA {p : Prop} (h : p := by first | omega | ((repeat first | exact Ext.refl _ | assumption | refine Ext.push ?_ _ | refine Ext.set ?_ _ (by first | omega | (simp only [nx, *]; omega)) | (apply Ext.up; focus (assumption; done))); done) | (simp (disch := (first | omega | (simp only [nx]; first | done | omega))) only [xxq, xxa, xxb, xxc, bne, Int.reduceEq, Int.reduceBEq, Int.reduceNe, Int.reduceBNe, Int.reduceLE, Int.reduceGT, Int.reduceGE, Int.reduceNeg, ↓reduceIte, reduceCtorEq, Nat.reduceEqDiff, Nat.reduceAdd, Nat.reduceMul, Nat.reduceSub, Nat.reduceLT, Int.reduceAdd, Int.reduceSub, Int.reduceMul, Int.reduceLT, Int.reduceToNat, ne_eq, *, intV_int]; first | done | omega | rfl | exact congrArg (Value.int .i64) (by omega) | ((repeat first | exact Ext.refl _ | assumption | refine Ext.push ?_ _ | refine Ext.set ?_ _ (by first | omega | (simp only [nx, *]; omega)) | (apply Ext.up; focus (assumption; done))); done)) | rfl) : p := h
theorem smEA {a b : Prop} (hb : b) (h : Later b → a := by intro hb; simp (disch := (first | omega | (simp only [nx]; first | done | omega))) only [xxq, xxa, xxb, xxc, bne, Int.reduceEq, Int.reduceBEq, Int.reduceNe, Int.reduceBNe, Int.reduceLE, Int.reduceGT, Int.reduceGE, Int.reduceNeg, ↓reduceIte, reduceCtorEq, Nat.reduceEqDiff, Nat.reduceAdd, Nat.reduceMul, Nat.reduceSub, Nat.reduceLT, Int.reduceAdd, Int.reduceSub, Int.reduceMul, Int.reduceLT, Int.reduceToNat, ne_eq, *, intV_int]; exact hb.out) : a := h ⟨hb⟩
theorem gtEA {A F : Fr} {t : Nat} {v : Value} (h : Ag [] A F) (e : F t = v := by simp (disch := (first | omega | (simp only [nx]; first | done | omega))) only [xxq, xxa, xxb, xxc, bne, Int.reduceEq, Int.reduceBEq, Int.reduceNe, Int.reduceBNe, Int.reduceLE, Int.reduceGT, Int.reduceGE, Int.reduceNeg, ↓reduceIte, reduceCtorEq, Nat.reduceEqDiff, Nat.reduceAdd, Nat.reduceMul, Nat.reduceSub, Nat.reduceLT, Int.reduceAdd, Int.reduceSub, Int.reduceMul, Int.reduceLT, Int.reduceToNat, ne_eq, *, intV_int]; exact rfl) : A t = v := (h.h t rfl).trans e
theorem agEA {D : List Nat} {A F : Fr} (h : Ag D A F := by
  repeat (with_reducible first | exact Ag.refl _ _ | refine Ag.nop ?_ | refine Ag.dead rfl ?_ | (refine Ag.live ?_ ?_; focus exact ivEA) | refine Ag.dr rfl ?_ | (refine Ag.lr ?_ ?_; focus exact ivEA) | refine Ag.up (by assumption) rfl ?_)) : Ag D A F := h
theorem sdEA {p : Prop} (h : p := by first | omega | assumption | (simp (disch := (first | omega | (simp only [nx]; first | done | omega))) only [xxq, tfEA, sliceK, bnd, copyK, clearK, makeSliceK, buildSliceK, buildK, lookupK, mapPutK, mapOf, convK, allocK, indexK, partK, xxa, xxb, xxc, bne, Int.reduceEq, Int.reduceBEq, Int.reduceNe, Int.reduceBNe, Int.reduceLE, Int.reduceGT, Int.reduceGE, Int.reduceNeg, ↓reduceIte, reduceCtorEq, Nat.reduceEqDiff, Nat.reduceAdd, Nat.reduceMul, Nat.reduceSub, Nat.reduceLT, Int.reduceAdd, Int.reduceSub, Int.reduceMul, Int.reduceLT, Int.reduceToNat, ne_eq, *]; first | done | omega | rfl)) : p := h
set_option maxHeartbeats 4000000 in
theorem mapCrossings_c {H : Heap} {v : Value} {C : List Cr} (z : Int) (F : Cr → Cr) (f : Nat) (hF : ∀ (H : Heap) (x : Cr), ACalls Try.prog f [crV x] H fun u H' => u = .agg #[I (F x).a, I (F x).b, I (F x).c, I (F x).d, I (F x).s] ∧ Ext H H') (hC : RdC H v C) (hS : C.length ≤ 1048576) :
    ACalls Try.prog 45 [.agg #[v, I z], .func (.func f) #[] #[]] H fun u H' => (∃ w, u = .agg #[w, I (mapV C z F).2] ∧ OwN H.size H'.size H' w (mapV C z F).1) ∧ Ext H H' := by
  have hC1 := fun {H' : Heap} (h : Ext H H') => hC.ext h
  have hone := hC.one
  unfold mapV
  by_cases h : IsD C z
  · have hd : decide (IsD C z) = true := decide_eq_true h
    have hn := h.1
    rw [if_pos h]
    obtain ⟨p, kk, rfl, hp, hh⟩ := hC
    refine ACalls.body Try.func45 rfl Try.ntmps45 (rs := [.cell 4 29]) rfl (by simp) rfl fun Q hQ A hA => ?_
    have a0 := hA 0 _ _ rfl
    have a1 := hA 1 _ _ rfl
    clear hA
    repeat' first | refine rnEA ?_ | (refine (isDiagram_c z (hC1 (by exact ex1)) hS).mono ?_; rintro u H1 ⟨rfl, hx1⟩; rw [hd]; have hx1g := hx1.get; have hx1s := hx1.size; (try simp only [nx] at hx1s)) | with_reducible refine And.intro (fun hc => ?_) (fun hc => ?_) | fail
    have f2 : H1.get (H.size + 1) = .cells [.slice none 0 0, I 0] 1 false := by exact ivEA
    have f3 : H.size + 1 < H1.size := by omega
    have f4 : Ext H H1 := by exact ex1
    clear hx1 hx1g hx1s
    obtain ⟨Hb, hHb⟩ : ∃ X, X = (H1.push (.cells [.slice none 0 0, I 0] 1 false)).set H1.size (.cells [.slice none 0 0, I z] 1 false) := ⟨_, rfl⟩
    have k2 : Hb.get (H.size + 1) = .cells [.slice none 0 0, I 0] 1 false := by rw [hHb]; exact ivEA
    have k3 : Hb.get H1.size = .cells [.slice none 0 0, I z] 1 false := by rw [hHb]; exact ivEA
    have k4 : Ext H Hb := by rw [hHb]; (exact ex1)
    have k5 : Hb.size = H1.size + 1 := by rw [hHb]; rfl
    rw [← hHb]
    clear hHb f2 f4
    refine AWp.cut (fun Ac hAc => ?_)
    have c1 := gtEA (t := 1) hAc
    have c4 := gtEA (t := 4) hAc
    have c5 := gtEA (t := 5) hAc
    have c16 := gtEA (t := 16) hAc
    have c17 := gtEA (t := 17) hAc
    have c18 := gtEA (t := 18) hAc
    clear a0 a1
    refine AWp.loop (fun A' H' => ∃ (k : Nat) (w : Value) (g : Nat), Ag [7, 19, 20, 21, 22, 23, 24, 25, 26, 27, 28, 29, 30] A' (put Ac (some 18) (I k)) ∧ k ≤ C.length ∧ H'.get H1.size = .cells [w, I z] 1 false ∧ OG 5 H' w g k (crs ((C.map F).take k)) ∧ (w = .slice none 0 0 ∨ Hb.size ≤ g) ∧ Ext H H' ∧ H'.get (H.size + 1) = .cells [.slice none 0 0, I 0] 1 false ∧ Hb.size ≤ H'.size) (fun A' _ => C.length - (intV (A' 18)).toNat) ?_ ?_
    · exact ⟨0, _, 0, agEA, by omega, k3, .inl ⟨rfl, rfl, rfl⟩, .inl rfl, k4, k2, Nat.le_refl _⟩
    · clear k2 k3 k4
      rintro A1 H2 ⟨k, w, g, hA, hk, k3, hO, hg, hx, k2, k6⟩
      have d1 := hA.h 1 rfl
      have d4 := hA.h 4 rfl
      have d5 := hA.h 5 rfl
      have d16 := hA.h 16 rfl
      have d17 := hA.h 17 rfl
      have d18 := hA.h 18 rfl
      have hw := hO.one
      have hxs := hx.size
      by_cases hlt : k < C.length
      · have zf5 := fl5
        have zc5 := ck5
        obtain ⟨b1, cs, ro, rfl, hb, hgb, hl, hcc⟩ := hh k hlt
        have hgb2 := (hx.get b1 hb).trans hgb
        have hmk : (C.map F).take (k + 1) = (C.map F).take k ++ [F (C.getD k cr0)] := by
          rw [List.take_succ_eq_append_getElem (by simpa using hlt)]
          simp [hlt]
        have hgne : k ≠ 0 → Hb.size ≤ g := fun h => hg.resolve_left (hO.nn h)
        obtain ⟨x, hxx⟩ : ∃ x, C.getD k cr0 = x := ⟨_, rfl⟩
        rw [hxx] at hcc hmk
        rw [cr5] at hcc
        repeat' first | refine rnEA ?_ | with_reducible refine And.intro (fun hc => ?_) (fun hc => ?_) | fail
        refine AWp.plannedG [(0, []), (1, []), (2, []), (3, []), (4, [3]), (5, []), (6, [1]), (7, []), (8, [1, 3])] mixed (by kernel_rfl) ?_
        repeat' first | refine rqEA ?_ | (refine (hF _ x).mono ?_; rintro u H3 ⟨rfl, hx3⟩; have hx3g := hx3.get; have hx3s := hx3.size; (try simp only [nx] at hx3s); refine hgEA ?_) | (refine OG.append (z := 40) (n := k) (m := 1) apC ⟨by decide, by decide, ck5, rfl, by decide⟩ (hO.keep (H' := H3.push (.cells [I (F x).a, I (F x).b, I (F x).c, I (F x).d, I (F x).s] 5 false)) (by simp only [nx]; omega) (.inr fun h => by rw [get_push_lt (by omega), hx3g _ (by simp only [nx]; omega), get_set_ne (by omega), get_push_lt h])) (new := [I (F x).a, I (F x).b, I (F x).c, I (F x).d, I (F x).s]) (ro := false) (by exact ivEA) rfl (by omega) (one_cons rfl (one_cons rfl (one_cons rfl (one_cons rfl (one_cons rfl one_nil))))) (by omega) ?_; rintro w4 g4 H4 hO4 hg4 hs4 hk4; simp only [nx] at hg4 hs4 hk4; have hw4 := hO4.one; have gn : ∀ b, b < Hb.size → k ≠ 0 → b ≠ g := fun b hb' h => (by have := hgne h; omega); have gn2 : ∀ b, b < H2.size → (k ≠ 0 → b ≠ g) → H4.get b = H2.get b := fun b hb' h => (by rw [hk4 _ (by omega) h, get_push_lt (by omega), hx3g _ (by simp only [nx]; omega), get_set_ne (by omega), get_push_lt hb']); have e41 : H4.get H1.size = .cells [w, I z] 1 false := (by rw [gn2 _ (by omega) (gn _ (by omega))]; exact k3); have gn3 : k ≠ 0 → H2.size ≠ g := fun h => (by have := hO.lt h; omega); have e42 : H4.get H2.size = .cells [I x.a, I x.b, I x.c, I x.d, I x.s] 1 false := (by rw [hk4 _ (by omega) gn3, get_push_lt (by omega), hx3g _ (by simp only [nx]; omega), get_set_eq]); refine hgEA ?_) | fail
        have hO4 : OG 5 H4 w4 g4 (k + 1) (crs ((C.map F).take (k + 1))) := by rw [hmk, crs_app]; exact hO4
        repeat' first | refine rnEA ?_ | with_reducible refine And.intro (fun hc => ?_) (fun hc => ?_) | fail
        refine ⟨⟨k + 1, w4, g4, agEA, by omega, by exact ivEA, hO4.keep (by simp only [nx]; omega) (.inr fun h => by rw [get_set_ne (by omega)]), .inr (by omega), ⟨by simp only [nx]; omega, fun b hb' => by rw [get_set_ne (by omega), gn2 b (by omega) (gn _ (by omega))]; exact hx.get b hb'⟩, by rw [get_set_ne (by omega), gn2 _ (by omega) (gn _ (by omega))]; exact k2, by simp only [nx]; omega⟩, ?_⟩
        all_goals first | exact ivEA | refine smEA ?_ | skip
      · obtain rfl : k = C.length := by omega
        rw [List.take_of_length_le (by simp)] at hO
        have hml : (C.map F).length = C.length := by simp
        repeat' first | refine rnEA ?_ | with_reducible refine And.intro (fun hc => ?_) (fun hc => ?_) | fail
        refine hQ.out _ _ ⟨⟨w, rfl, OwN.low (OwN.of (hO.keep ?_ ?_) hg hml.symm rfl) (by omega)⟩, by exact ex1⟩
        · simp only [nx]; omega
        · refine hg.imp id fun h1 h2 => ?_
          rw [get_set_ne (by omega)]
  · have hd : decide (IsD C z) = false := decide_eq_false h
    rw [if_neg h]
    refine ACalls.body Try.func45 rfl Try.ntmps45 (rs := [.cell 4 29]) rfl (by simp) rfl fun Q hQ A hA => ?_
    have a0 := hA 0 _ _ rfl
    have a1 := hA 1 _ _ rfl
    clear hA
    repeat' first | refine rnEA ?_ | (refine (isDiagram_c z (hC1 (by exact ex1)) hS).mono ?_; rintro u H1 ⟨rfl, hx1⟩; rw [hd]; have hx1g := hx1.get; have hx1s := hx1.size; (try simp only [nx] at hx1s)) | with_reducible refine And.intro (fun hc => ?_) (fun hc => ?_) | fail
    exact hQ.out _ _ ⟨⟨_, rfl, Nat.le_refl _, .inl ⟨rfl, rfl⟩⟩, by exact ex1⟩
theorem MirrorDiagram_c {H : Heap} {v : Value} {C : List Cr} (z : Int) (hC : RdC H v C) (hS : C.length ≤ 1048576) : ACalls Try.prog 28 [.agg #[v, I z]] H fun u H' => (∃ w, u = .agg #[w, I (mapV C z flipC).2] ∧ OwN H.size H'.size H' w (mapV C z flipC).1) ∧ Ext H H' := by
  have hC1 := fun {H' : Heap} (h : Ext H H') => hC.ext h
  have hone := hC.one
  refine ACalls.body Try.func28 rfl Try.ntmps28 (rs := [.cell 2 29]) rfl (by simp) rfl fun Q hQ A hA => ?_
  have a0 := hA 0 _ _ rfl
  clear hA
  repeat' first | refine rnEA ?_ | with_reducible refine And.intro (fun hc => ?_) (fun hc => ?_) | fail
  refine (mapCrossings_c z flipC _ (fun H x => flipped_c x) (hC1 (by exact ex1)) hS).mono ?_
  rintro u H1 ⟨⟨w, rfl, hO⟩, hx1⟩
  have hx1g := hx1.get; have hx1s := hx1.size; (try simp only [nx] at hx1s)
  have how := hO.rd.one
  repeat' first | refine rnEA ?_ | with_reducible refine And.intro (fun hc => ?_) (fun hc => ?_) | fail
  refine hQ.out _ _ ⟨⟨w, rfl, ?_⟩, by exact ex1⟩
  exact (hO.keep (H' := H1.set (H.size + 1) _) (lo' := H.size + 1) (hi' := H.size + 1 + 1) ((ExtR.refl H1).set _ (by omega) (by omega)) (.inr (by simp only [nx]; omega))).low (by simp only [nx]; omega)
theorem ReverseDiagram_c {H : Heap} {v : Value} {C : List Cr} (z : Int) (hC : RdC H v C) (hS : C.length ≤ 1048576) : ACalls Try.prog 19 [.agg #[v, I z]] H fun u H' => (∃ w, u = .agg #[w, I (mapV C z revC).2] ∧ OwN H.size H'.size H' w (mapV C z revC).1) ∧ Ext H H' := by
  have hC1 := fun {H' : Heap} (h : Ext H H') => hC.ext h
  have hone := hC.one
  refine ACalls.body Try.func19 rfl Try.ntmps19 (rs := [.cell 2 29]) rfl (by simp) rfl fun Q hQ A hA => ?_
  have a0 := hA 0 _ _ rfl
  clear hA
  repeat' first | refine rnEA ?_ | with_reducible refine And.intro (fun hc => ?_) (fun hc => ?_) | fail
  refine (mapCrossings_c z revC _ (fun H x => revFn_c x) (hC1 (by exact ex1)) hS).mono ?_
  rintro u H1 ⟨⟨w, rfl, hO⟩, hx1⟩
  have hx1g := hx1.get; have hx1s := hx1.size; (try simp only [nx] at hx1s)
  have how := hO.rd.one
  repeat' first | refine rnEA ?_ | with_reducible refine And.intro (fun hc => ?_) (fun hc => ?_) | fail
  refine hQ.out _ _ ⟨⟨w, rfl, ?_⟩, by exact ex1⟩
  exact (hO.keep (H' := H1.set (H.size + 1) _) (lo' := H.size + 1) (hi' := H.size + 1 + 1) ((ExtR.refl H1).set _ (by omega) (by omega)) (.inr (by simp only [nx]; omega))).low (by simp only [nx]; omega)
end Go.Proofs.Ytpbbfephfmdgmaa.Rai
