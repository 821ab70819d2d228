/- A part of the walk: what functions of the program do, over an abstract heap. -/
import Derived.Test.YtpbbfephfmdgmaaDY
namespace Go.Proofs.Ytpbbfephfmdgmaa.Rai
open Go TP
set_option linter.unusedVariables false
set_option linter.unusedSimpArgs false
set_option maxRecDepth 20000
theorem tfDZ : (Try.prog.underlying 27 = some (.slice 54)) ∧ (el Try.prog 27 = some (none, 5)) ∧ (tk Try.prog 2 = some none) ∧ (tk Try.prog 27 = some none) ∧ (tk Try.prog 29 = some (some 2)) ∧ (tk Try.prog 54 = some (some 5)) ∧ (cz Try.prog 54 = some 5) ∧ (bz Try.prog 54 = some 40) ∧ (zr Try.prog 29 = some (.agg #[.slice none 0 0, .int .i64 0])) ∧ (zr Try.prog 54 = some (.agg #[.int .i64 0, .int .i64 0, .int .i64 0, .int .i64 0, .int .i64 0])) ∧ (fo Try.prog 29 0 = some (0, none)) ∧ (fo Try.prog 29 1 = some (1, none)) ∧ (fo Try.prog 54 0 = some (0, none)) ∧ (fo Try.prog 54 1 = some (1, none)) ∧ (fo Try.prog 54 2 = some (2, none)) ∧ (fo Try.prog 54 3 = some (3, none)) ∧ (fo Try.prog 54 4 = some (4, none)) ∧ (el Try.prog 29 = none) ∧ (placesOf Try.prog 29 = some #[(0, 1), (1, 1)]) ∧ (el Try.prog 54 = none) ∧ (placesOf Try.prog 54 = some #[(0, 1), (1, 1), (2, 1), (3, 1), (4, 1)]) := by
  refine ⟨?_, ?_, ?_, ?_, ?_, ?_, ?_, ?_, ?_, ?_, ?_, ?_, ?_, ?_, ?_, ?_, ?_, ?_, ?_, ?_, ?_⟩ <;> kernel_rfl
theorem rnDZ {a b : Prop} (hb : b) (h : Later b → a := by
  intro hb
  first
  | ((with_reducible first | refine AOps.nil ?_ | refine athen_n ?_ | refine athen_r ?_ | refine athen_e ?_ | refine ablock_n ?_ | refine ablock_r ?_ | refine ablock_s ?_ | refine AWp.seq' ?_ | refine AWp.block ?_ | refine AWp.skip ?_ | refine AWp.exit ?_ | refine AWp.ret ?_ | refine AWp.region ?_ | (refine ablock_e ?_ ?_; focus rfl)); repeat (with_reducible first | refine AOps.nil ?_ | refine athen_n ?_ | refine athen_r ?_ | refine athen_e ?_ | refine ablock_n ?_ | refine ablock_r ?_ | refine ablock_s ?_ | refine AWp.seq' ?_ | refine AWp.block ?_ | refine AWp.skip ?_ | refine AWp.exit ?_ | refine AWp.ret ?_ | refine AWp.region ?_ | (refine ablock_e ?_ ?_; focus rfl)))
  | (refine AOps.guardu rfl rfl rfl ?_ ?_; focus (simp (disch := (first | omega | (simp only [nx]; first | done | omega))) only [Value.bool.injEq, Bool.and_true, Bool.true_and, Bool.and_false, Bool.false_and, beq_self_eq_true, bne, Bool.not_true, Bool.not_false, sx, nx, dx, ↓reduceIte, reduceCtorEq, Nat.reduceEqDiff, ne_eq, not_false_eq_true, *]; done))
  | ((first | refine AOps.cons2 rfl rfl fun K hK => ?_ | refine AWp.cond rfl fun X Y hX hY => ?_ | refine AOps.guard rfl rfl rfl fun X Y hX hY => ?_ | refine aret_r ?_ | refine aret_n ?_); simp (disch := (first | omega | (simp only [nx]; first | done | omega))) only [acond_bool, aresK, retv, xxq, tfDZ, sliceK, bnd, copyK, clearK, makeSliceK, buildSliceK, buildK, lookupK, mapPutK, mapOf, convK, allocK, indexK, partK, xxa, xxb, xxc, bne, Int.reduceEq, Int.reduceBEq, Int.reduceNe, Int.reduceBNe, Int.reduceLE, Int.reduceGT, Int.reduceGE, Int.reduceNeg, ↓reduceIte, reduceCtorEq, Nat.reduceEqDiff, Nat.reduceAdd, Nat.reduceMul, Nat.reduceSub, Nat.reduceLT, Int.reduceAdd, Int.reduceSub, Int.reduceMul, Int.reduceLT, Int.reduceToNat, ne_eq, *]; (repeat first | ((with_reducible refine And.intro (fun hc => ?_) (fun hc => absurd hc (by omega))); clear hc) | ((with_reducible refine And.intro (fun hc => absurd hc (by omega)) (fun hc => ?_)); clear hc) | ((with_reducible refine And.intro ?_ ?_); focus ((first | omega | assumption | exact cok _ rfl | exact one_ints _ | exact one_map fun _ => rfl | ((repeat refine one_cons (by first | rfl | assumption) ?_); exact one_nil) | rfl | decide | (intro u hu; cases hu)); done)) | (with_reducible refine (fun hc => ?_ : _ → _); clear hc)); (first | refine hK.out _ _ ?_ | refine ACalls.hk hK ?_ | refine appendK.hk hK ?_ | refine (fun (q : _ ∧ _) => And.intro (hK.out _ _ q.1) (hK.out _ _ q.2)) ?_ | refine hX.out ?_ | refine hY.out ?_ | refine (fun (q : (_ → _) ∧ (_ → _)) => And.intro (fun hc => hX.out (q.1 hc)) (fun hc => hY.out (q.2 hc))) ?_ | refine (fun (q : (_ → _) ∧ (_ → _)) => And.intro (fun hc => hY.out (q.1 hc)) (fun hc => hX.out (q.2 hc))) ?_ | skip))
  exact hb.out) : a := h ⟨hb⟩
theorem rqDZ {a b : Prop} (hb : b) (h : Later b → a := by
  intro hb
  first
  | with_reducible refine APg.nil ?_
  | ((first | refine APg.pure rfl rfl rfl rfl fun Kx hKx => ?_ | refine APg.load rfl rfl rfl fun Kx hKx => ?_ | refine APg.slice rfl rfl rfl fun Kx hKx => ?_ | refine APg.act rfl rfl rfl rfl fun Kx hKx => ?_); simp (disch := (first | omega | (simp only [nx]; first | done | omega))) only [heldIn_iff, List.zipIdx_cons, List.zipIdx_nil, List.map_cons, List.map_nil, heldG_iff, Nat.reduceBEq, Bool.or_false, Bool.or_true, Bool.false_or, Bool.true_or, xxq, tfDZ, sliceK, bnd, copyK, clearK, makeSliceK, buildSliceK, buildK, lookupK, mapPutK, mapOf, convK, allocK, indexK, partK, xxa, xxb, xxc, bne, Int.reduceEq, Int.reduceBEq, Int.reduceNe, Int.reduceBNe, Int.reduceLE, Int.reduceGT, Int.reduceGE, Int.reduceNeg, ↓reduceIte, reduceCtorEq, Nat.reduceEqDiff, Nat.reduceAdd, Nat.reduceMul, Nat.reduceSub, Nat.reduceLT, Int.reduceAdd, Int.reduceSub, Int.reduceMul, Int.reduceLT, Int.reduceToNat, ne_eq, *]; (repeat first | ((with_reducible refine And.intro (fun hc => ?_) (fun hc => absurd hc (by omega))); clear hc) | ((with_reducible refine And.intro (fun hc => absurd hc (by omega)) (fun hc => ?_)); clear hc) | ((with_reducible refine And.intro ?_ ?_); focus ((first | omega | assumption | exact cok _ rfl | exact one_ints _ | exact one_map fun _ => rfl | ((repeat refine one_cons (by first | rfl | assumption) ?_); exact one_nil) | rfl | decide | (intro u hu; cases hu)); done)) | (with_reducible refine (fun hc => ?_ : _ → _); clear hc)); (first | refine hKx.out _ ?_ | refine hKx.out _ _ ?_ | refine ACalls.hkx hKx ?_ | refine appendK.hkx hKx ?_ | refine (fun (q : _ ∧ _) => And.intro (hKx.out _ q.1) (hKx.out _ q.2)) ?_ | refine (fun (q : (_ → _) ∧ _) => And.intro (fun hc => hKx.out _ (q.1 hc)) (hKx.out _ q.2)) ?_ | (refine hKx.out _ _ ?_ ?_; focus (simp (disch := (first | omega | (simp only [nx]; first | done | omega))) only [heldIn_iff, List.zipIdx_cons, List.zipIdx_nil, List.map_cons, List.map_nil, heldG_iff, Nat.reduceBEq, Bool.or_false, Bool.or_true, Bool.false_or, Bool.true_or, xxq, tfDZ, sliceK, bnd, copyK, clearK, makeSliceK, buildSliceK, buildK, lookupK, mapPutK, mapOf, convK, allocK, indexK, partK, xxa, xxb, xxc, bne, Int.reduceEq, Int.reduceBEq, Int.reduceNe, Int.reduceBNe, Int.reduceLE, Int.reduceGT, Int.reduceGE, Int.reduceNeg, ↓reduceIte, reduceCtorEq, Nat.reduceEqDiff, Nat.reduceAdd, Nat.reduceMul, Nat.reduceSub, Nat.reduceLT, Int.reduceAdd, Int.reduceSub, Int.reduceMul, Int.reduceLT, Int.reduceToNat, ne_eq, *]; first | done | trivial))))
  exact hb.out) : a := h ⟨hb⟩
theorem hgDZ {p b : Prop} (hb : b) (h : p := by simp (disch := (first | omega | (simp only [nx]; first | done | omega))) only [heldIn_iff, List.zipIdx_cons, List.zipIdx_nil, List.map_cons, List.map_nil, heldG_iff, Nat.reduceBEq, Bool.or_false, Bool.or_true, Bool.false_or, Bool.true_or, xxq, tfDZ, sliceK, bnd, copyK, clearK, makeSliceK, buildSliceK, buildK, lookupK, mapPutK, mapOf, convK, allocK, indexK, partK, xxa, xxb, xxc, bne, Int.reduceEq, Int.reduceBEq, Int.reduceNe, Int.reduceBNe, Int.reduceLE, Int.reduceGT, Int.reduceGE, Int.reduceNeg, ↓reduceIte, reduceCtorEq, Nat.reduceEqDiff, Nat.reduceAdd, Nat.reduceMul, Nat.reduceSub, Nat.reduceLT, Int.reduceAdd, Int.reduceSub, Int.reduceMul, Int.reduceLT, Int.reduceToNat, ne_eq, *]; first | done | trivial) : p ∧ b := ⟨h, hb⟩
theorem hlDZ {p b : Prop} (hb : b) (h : p := by simp (disch := (first | omega | (simp only [nx]; first | done | omega))) only [heldIn_iff, List.zipIdx_cons, List.zipIdx_nil, List.map_cons, List.map_nil, xxq, tfDZ, sliceK, bnd, copyK, clearK, makeSliceK, buildSliceK, buildK, lookupK, mapPutK, mapOf, convK, allocK, indexK, partK, xxa, xxb, xxc, bne, Int.reduceEq, Int.reduceBEq, Int.reduceNe, Int.reduceBNe, Int.reduceLE, Int.reduceGT, Int.reduceGE, Int.reduceNeg, ↓reduceIte, reduceCtorEq, Nat.reduceEqDiff, Nat.reduceAdd, Nat.reduceMul, Nat.reduceSub, Nat.reduceLT, Int.reduceAdd, Int.reduceSub, Int.reduceMul, Int.reduceLT, Int.reduceToNat, ne_eq, *]; first | done | trivial) : p ∧ b := ⟨h, hb⟩
theorem ivDZ {p : Prop} (h : p := by first | omega | ((repeat first | exact Ext.refl _ | assumption | refine Ext.push ?_ _ | refine Ext.set ?_ _ (by first | omega | (simp only [nx, *]; omega)) | (apply Ext.up; focus (assumption; done))); done) | (simp (disch := (first | omega | (simp only [nx]; first | done | omega))) only [xxq, xxa, xxb, xxc, bne, Int.reduceEq, Int.reduceBEq, Int.reduceNe, Int.reduceBNe, Int.reduceLE, Int.reduceGT, Int.reduceGE, Int.reduceNeg, ↓reduceIte, reduceCtorEq, Nat.reduceEqDiff, Nat.reduceAdd, Nat.reduceMul, Nat.reduceSub, Nat.reduceLT, Int.reduceAdd, Int.reduceSub, Int.reduceMul, Int.reduceLT, Int.reduceToNat, ne_eq, *, intV_int]; first | done | omega | rfl | exact congrArg (Value.int .i64) (by omega) | ((repeat first | exact Ext.refl _ | assumption | refine Ext.push ?_ _ | refine Ext.set ?_ _ (by first | omega | (simp only [nx, *]; omega)) | (apply Ext.up; focus (assumption; done))); done)) | rfl) : p := h
theorem smDZ {a b : Prop} (hb : b) (h : Later b → a := by intro hb; simp (disch := (first | omega | (simp only [nx]; first | done | omega))) only [xxq, xxa, xxb, xxc, bne, Int.reduceEq, Int.reduceBEq, Int.reduceNe, Int.reduceBNe, Int.reduceLE, Int.reduceGT, Int.reduceGE, Int.reduceNeg, ↓reduceIte, reduceCtorEq, Nat.reduceEqDiff, Nat.reduceAdd, Nat.reduceMul, Nat.reduceSub, Nat.reduceLT, Int.reduceAdd, Int.reduceSub, Int.reduceMul, Int.reduceLT, Int.reduceToNat, ne_eq, *, intV_int]; exact hb.out) : a := h ⟨hb⟩
theorem gtDZ {A F : Fr} {t : Nat} {v : Value} (h : Ag [] A F) (e : F t = v := by simp (disch := (first | omega | (simp only [nx]; first | done | omega))) only [xxq, xxa, xxb, xxc, bne, Int.reduceEq, Int.reduceBEq, Int.reduceNe, Int.reduceBNe, Int.reduceLE, Int.reduceGT, Int.reduceGE, Int.reduceNeg, ↓reduceIte, reduceCtorEq, Nat.reduceEqDiff, Nat.reduceAdd, Nat.reduceMul, Nat.reduceSub, Nat.reduceLT, Int.reduceAdd, Int.reduceSub, Int.reduceMul, Int.reduceLT, Int.reduceToNat, ne_eq, *, intV_int]; exact rfl) : A t = v := (h.h t rfl).trans e
theorem agDZ {D : List Nat} {A F : Fr} (h : Ag D A F := by
  repeat (with_reducible first | exact Ag.refl _ _ | refine Ag.nop ?_ | refine Ag.dead rfl ?_ | (refine Ag.live ?_ ?_; focus exact ivDZ) | refine Ag.dr rfl ?_ | (refine Ag.lr ?_ ?_; focus exact ivDZ) | refine Ag.up (by assumption) rfl ?_)) : Ag D A F := h
theorem sdDZ {p : Prop} (h : p := by first | omega | assumption | (simp (disch := (first | omega | (simp only [nx]; first | done | omega))) only [xxq, tfDZ, sliceK, bnd, copyK, clearK, makeSliceK, buildSliceK, buildK, lookupK, mapPutK, mapOf, convK, allocK, indexK, partK, xxa, xxb, xxc, bne, Int.reduceEq, Int.reduceBEq, Int.reduceNe, Int.reduceBNe, Int.reduceLE, Int.reduceGT, Int.reduceGE, Int.reduceNeg, ↓reduceIte, reduceCtorEq, Nat.reduceEqDiff, Nat.reduceAdd, Nat.reduceMul, Nat.reduceSub, Nat.reduceLT, Int.reduceAdd, Int.reduceSub, Int.reduceMul, Int.reduceLT, Int.reduceToNat, ne_eq, *]; first | done | omega | rfl)) : p := h
/-- What 'Mirror' and 'Reverse' return. -/
def mapV (C : List Cr) (z : Int) (F : Cr → Cr) : List Cr × Int := if IsD C z then (C.map F, z) else ([], 0)
set_option maxHeartbeats 4000000 in
theorem specMirrorDiagram_c {H : Heap} {v : Value} {C : List Cr} (z : Int) (hC : RdC H v C) (hS : C.length ≤ 1048576) : ACalls Try.prog 27 [.agg #[v, I z]] H fun u H' => (∃ w, u = .agg #[w, I (mapV C z flipC).2] ∧ OwN H.size H'.size H' w (mapV C z flipC).1) ∧ Ext H H' := by
  have hC1 := fun {H' : Heap} (h : Ext H H') => hC.ext h
  have hone := hC.one
  unfold mapV
  by_cases h : IsD C z
  · have hd : decide (IsD C z) = true := decide_eq_true h
    have hn := h.1
    rw [if_pos h]
    obtain ⟨p, kk, rfl, hp, hh⟩ := hC
    refine ACalls.body Try.func27 rfl Try.ntmps27 (rs := [.cell 2 29]) rfl (by simp) rfl fun Q hQ A hA => ?_
    have a0 := hA 0 _ _ rfl
    clear hA
    repeat' first | refine rnDZ ?_ | (refine (specIsDiagram_c z (hC1 (by exact ex1)) hS).mono ?_; rintro u H1 ⟨rfl, hx1⟩; rw [hd]; have hx1g := hx1.get; have hx1s := hx1.size; (try simp only [nx] at hx1s)) | with_reducible refine And.intro (fun hc => ?_) (fun hc => ?_) | fail
    have f1 : H1.get H.size = .cells [.slice p C.length kk, I z] 1 false := by exact ivDZ
    have f2 : H1.get (H.size + 1) = .cells [.slice none 0 0, I 0] 1 false := by exact ivDZ
    have f3 : H.size + 1 < H1.size := by omega
    have f4 : Ext H H1 := by exact ex1
    clear hx1 hx1g hx1s
    obtain ⟨Hb, hHb⟩ : ∃ X, X = (H1.push (.cells [.slice none 0 0, I 0] 1 false)).set H1.size (.cells [.slice none 0 0, I z] 1 false) := ⟨_, rfl⟩
    have k1 : Hb.get H.size = .cells [.slice p C.length kk, I z] 1 false := by rw [hHb]; exact ivDZ
    have k2 : Hb.get (H.size + 1) = .cells [.slice none 0 0, I 0] 1 false := by rw [hHb]; exact ivDZ
    have k3 : Hb.get H1.size = .cells [.slice none 0 0, I z] 1 false := by rw [hHb]; exact ivDZ
    have k4 : Ext H Hb := by rw [hHb]; (exact ex1)
    have k5 : Hb.size = H1.size + 1 := by rw [hHb]; rfl
    rw [← hHb]
    clear hHb f1 f2 f4
    repeat' first | refine rnDZ ?_ | with_reducible refine And.intro (fun hc => ?_) (fun hc => ?_) | fail
    refine AWp.cut (fun Ac hAc => ?_)
    have c1 := gtDZ (t := 1) hAc
    have c2 := gtDZ (t := 2) hAc
    have c3 := gtDZ (t := 3) hAc
    have c4 := gtDZ (t := 4) hAc
    clear a0
    refine AWp.loop (fun A' H' => ∃ (k : Nat) (w : Value) (g : Nat), Ag [12, 13, 14, 15, 16, 17, 18, 19, 20, 21, 22, 23, 24, 25, 26, 27, 28, 29] A' (put Ac (some 4) (I k)) ∧ k ≤ C.length ∧ H'.get H1.size = .cells [w, I z] 1 false ∧ OG 5 H' w g k (crs ((C.map flipC).take k)) ∧ (w = .slice none 0 0 ∨ Hb.size ≤ g) ∧ Ext H H' ∧ H'.get H.size = .cells [.slice p C.length kk, I z] 1 false ∧ H'.get (H.size + 1) = .cells [.slice none 0 0, I 0] 1 false ∧ Hb.size ≤ H'.size) (fun A' _ => C.length - (intV (A' 4)).toNat) ?_ ?_
    · exact ⟨0, _, 0, agDZ, by omega, k3, .inl ⟨rfl, rfl, rfl⟩, .inl rfl, k4, k1, k2, Nat.le_refl _⟩
    · clear k1 k2 k3 k4
      rintro A1 H2 ⟨k, w, g, hA, hk, k3, hO, hg, hx, k1, k2, k6⟩
      have d1 := hA.h 1 rfl
      have d2 := hA.h 2 rfl
      have d3 := hA.h 3 rfl
      have d4 := hA.h 4 rfl
      have hw := hO.one
      have hxs := hx.size
      by_cases hlt : k < C.length
      · have zf5 := fl5
        have zc5 := ck5
        obtain ⟨b1, cs, ro, rfl, hb, hgb, hl, hcc⟩ := hh k hlt
        have hgb2 := (hx.get b1 hb).trans hgb
        obtain ⟨f0, f1, f2, f3', f4⟩ := rd5 hcc
        have hmk : (C.map flipC).take (k + 1) = (C.map flipC).take k ++ [flipC (C.getD k cr0)] := by
          rw [List.take_succ_eq_append_getElem (by simpa using hlt)]
          simp [hlt]
        have hgne : k ≠ 0 → Hb.size ≤ g := fun h => hg.resolve_left (hO.nn h)
        obtain ⟨x, hxx⟩ : ∃ x, C.getD k cr0 = x := ⟨_, rfl⟩
        rw [hxx] at hcc f0 f1 f2 f3' f4 hmk
        rw [cr5] at hcc
        repeat' first | refine rnDZ ?_ | with_reducible refine And.intro (fun hc => ?_) (fun hc => ?_) | fail
        refine AWp.plannedG [(0, []), (1, []), (2, []), (3, []), (4, []), (5, []), (6, []), (7, [6]), (8, []), (9, [1]), (10, []), (11, [1, 3, 6])] mixed (by kernel_rfl) ?_
        repeat' first | refine rqDZ ?_ | (refine (l25Mirror_c x).mono ?_; rintro u H3 ⟨rfl, hx3⟩; have hx3g := hx3.get; have hx3s := hx3.size; (try simp only [nx] at hx3s); refine hgDZ ?_) | (refine OG.append (z := 40) (n := k) (m := 1) apC ⟨by decide, by decide, ck5, rfl, by decide⟩ (hO.keep (H' := H3.push (.cells [I (flipC x).a, I (flipC x).b, I (flipC x).c, I (flipC x).d, I (flipC x).s] 5 false)) (by simp only [nx]; omega) (.inr fun h => by rw [get_push_lt (by omega)]; exact hx3g _ h)) (new := [I (flipC x).a, I (flipC x).b, I (flipC x).c, I (flipC x).d, I (flipC x).s]) (ro := false) (by exact ivDZ) rfl (by omega) (one_cons rfl (one_cons rfl (one_cons rfl (one_cons rfl (one_cons rfl one_nil))))) (by omega) ?_; rintro w4 g4 H4 hO4 hg4 hs4 hk4; simp only [nx] at hg4 hs4 hk4; have hw4 := hO4.one; have gn : ∀ b, b < Hb.size → k ≠ 0 → b ≠ g := fun b hb' h => (by have := hgne h; omega); have e41 : H4.get H1.size = .cells [w, I z] 1 false := (by rw [hk4 _ (by omega) (gn _ (by omega)), get_push_lt (by omega), hx3g _ (by omega)]; exact k3); have e42 : H4.get b1 = .cells cs 5 ro := (by rw [hk4 _ (by omega) (gn _ (by omega)), get_push_lt (by omega), hx3g _ (by omega)]; exact hgb2); have e43 : H4.get H.size = .cells [.slice (some ⟨b1, 0, none⟩) C.length kk, I z] 1 false := (by rw [hk4 _ (by omega) (gn _ (by omega)), get_push_lt (by omega), hx3g _ (by omega)]; exact k1); refine hgDZ ?_) | with_reducible refine And.intro (fun hc => ?_) ?_ | with_reducible refine And.intro ?_ ?_ | fail
        have HB : ∀ b, b < H.size → (H3.push (.cells [I (flipC x).a, I (flipC x).b, I (flipC x).c, I (flipC x).d, I (flipC x).s] 5 false)).get b = H.get b := fun b hb' => by rw [get_push_lt (by omega), hx3.get b (by omega)]; exact hx.get b hb'
        have B1 : (H3.push (.cells [I (flipC x).a, I (flipC x).b, I (flipC x).c, I (flipC x).d, I (flipC x).s] 5 false)).get H.size = .cells [.slice (some ⟨b1, 0, none⟩) C.length kk, I z] 1 false := by rw [get_push_lt (by omega), hx3.get _ (by omega)]; exact k1
        have B2 : (H3.push (.cells [I (flipC x).a, I (flipC x).b, I (flipC x).c, I (flipC x).d, I (flipC x).s] 5 false)).get (H.size + 1) = .cells [.slice none 0 0, I 0] 1 false := by rw [get_push_lt (by omega), hx3.get _ (by omega)]; exact k2
        have hw4 := hO4.one
        have hO4 : OG 5 H4 w4 g4 (k + 1) (crs ((C.map flipC).take (k + 1))) := by rw [hmk, crs_app]; exact hO4
        repeat' first | refine rnDZ ?_ | with_reducible refine And.intro (fun hc => ?_) (fun hc => ?_) | fail
        refine ⟨⟨k + 1, w4, g4, agDZ, by omega, by exact ivDZ, hO4.keep (by simp only [nx]; omega) (.inr fun h => by rw [get_set_ne (by omega)]), .inr (by omega), ⟨by simp only [nx]; omega, fun b hb' => by rw [get_set_ne (by omega), hk4 b (by omega) (fun h => by have := hgne h; omega)]; exact HB b hb'⟩, by rw [get_set_ne (by omega), hk4 _ (by omega) (fun h => by have := hgne h; omega)]; exact B1, by rw [get_set_ne (by omega), hk4 _ (by omega) (fun h => by have := hgne h; omega)]; exact B2, by simp only [nx]; omega⟩, ?_⟩
        all_goals first | exact ivDZ | refine smDZ ?_ | skip
      · obtain rfl : k = C.length := by omega
        rw [List.take_of_length_le (by simp)] at hO
        have hml : (C.map flipC).length = C.length := by simp
        repeat' first | refine rnDZ ?_ | with_reducible refine And.intro (fun hc => ?_) (fun hc => ?_) | fail
        refine hQ.out _ _ ⟨⟨w, rfl, OwN.low (OwN.of (hO.keep ?_ ?_) hg hml.symm rfl) (by omega)⟩, by exact ex1⟩
        · simp only [nx]; omega
        · refine hg.imp id fun h1 h2 => ?_
          rw [get_set_ne (by omega)]
  · have hd : decide (IsD C z) = false := decide_eq_false h
    rw [if_neg h]
    refine ACalls.body Try.func27 rfl Try.ntmps27 (rs := [.cell 2 29]) rfl (by simp) rfl fun Q hQ A hA => ?_
    have a0 := hA 0 _ _ rfl
    clear hA
    repeat' first | refine rnDZ ?_ | (refine (specIsDiagram_c z (hC1 (by exact ex1)) hS).mono ?_; rintro u H1 ⟨rfl, hx1⟩; rw [hd]; have hx1g := hx1.get; have hx1s := hx1.size; (try simp only [nx] at hx1s)) | with_reducible refine And.intro (fun hc => ?_) (fun hc => ?_) | fail
    exact hQ.out _ _ ⟨⟨_, rfl, Nat.le_refl _, .inl ⟨rfl, rfl⟩⟩, by exact ex1⟩
set_option maxHeartbeats 4000000 in
theorem specReverseDiagram_c {H : Heap} {v : Value} {C : List Cr} (z : Int) (hC : RdC H v C) (hS : C.length ≤ 1048576) : ACalls Try.prog 18 [.agg #[v, I z]] H fun u H' => (∃ w, u = .agg #[w, I (mapV C z revC).2] ∧ OwN H.size H'.size H' w (mapV C z revC).1) ∧ Ext H H' := by
  have hC1 := fun {H' : Heap} (h : Ext H H') => hC.ext h
  have hone := hC.one
  unfold mapV
  by_cases h : IsD C z
  · have hd : decide (IsD C z) = true := decide_eq_true h
    have hn := h.1
    rw [if_pos h]
    obtain ⟨p, kk, rfl, hp, hh⟩ := hC
    refine ACalls.body Try.func18 rfl Try.ntmps18 (rs := [.cell 2 29]) rfl (by simp) rfl fun Q hQ A hA => ?_
    have a0 := hA 0 _ _ rfl
    clear hA
    repeat' first | refine rnDZ ?_ | (refine (specIsDiagram_c z (hC1 (by exact ex1)) hS).mono ?_; rintro u H1 ⟨rfl, hx1⟩; rw [hd]; have hx1g := hx1.get; have hx1s := hx1.size; (try simp only [nx] at hx1s)) | with_reducible refine And.intro (fun hc => ?_) (fun hc => ?_) | fail
    have f1 : H1.get H.size = .cells [.slice p C.length kk, I z] 1 false := by exact ivDZ
    have f2 : H1.get (H.size + 1) = .cells [.slice none 0 0, I 0] 1 false := by exact ivDZ
    have f3 : H.size + 1 < H1.size := by omega
    have f4 : Ext H H1 := by exact ex1
    clear hx1 hx1g hx1s
    obtain ⟨Hb, hHb⟩ : ∃ X, X = (H1.push (.cells [.slice none 0 0, I 0] 1 false)).set H1.size (.cells [.slice none 0 0, I z] 1 false) := ⟨_, rfl⟩
    have k1 : Hb.get H.size = .cells [.slice p C.length kk, I z] 1 false := by rw [hHb]; exact ivDZ
    have k2 : Hb.get (H.size + 1) = .cells [.slice none 0 0, I 0] 1 false := by rw [hHb]; exact ivDZ
    have k3 : Hb.get H1.size = .cells [.slice none 0 0, I z] 1 false := by rw [hHb]; exact ivDZ
    have k4 : Ext H Hb := by rw [hHb]; (exact ex1)
    have k5 : Hb.size = H1.size + 1 := by rw [hHb]; rfl
    rw [← hHb]
    clear hHb f1 f2 f4
    repeat' first | refine rnDZ ?_ | with_reducible refine And.intro (fun hc => ?_) (fun hc => ?_) | fail
    refine AWp.cut (fun Ac hAc => ?_)
    have c1 := gtDZ (t := 1) hAc
    have c2 := gtDZ (t := 2) hAc
    have c3 := gtDZ (t := 3) hAc
    have c4 := gtDZ (t := 4) hAc
    clear a0
    refine AWp.loop (fun A' H' => ∃ (k : Nat) (w : Value) (g : Nat), Ag [5, 13, 14, 15, 16, 17, 18, 19, 20, 21, 22, 23, 24, 25, 26, 27, 28, 29, 30, 31, 32, 33, 34, 35, 36, 37, 38, 39, 40] A' (put Ac (some 4) (I k)) ∧ k ≤ C.length ∧ H'.get H1.size = .cells [w, I z] 1 false ∧ OG 5 H' w g k (crs ((C.map revC).take k)) ∧ (w = .slice none 0 0 ∨ Hb.size ≤ g) ∧ Ext H H' ∧ H'.get H.size = .cells [.slice p C.length kk, I z] 1 false ∧ H'.get (H.size + 1) = .cells [.slice none 0 0, I 0] 1 false ∧ Hb.size ≤ H'.size) (fun A' _ => C.length - (intV (A' 4)).toNat) ?_ ?_
    · exact ⟨0, _, 0, agDZ, by omega, k3, .inl ⟨rfl, rfl, rfl⟩, .inl rfl, k4, k1, k2, Nat.le_refl _⟩
    · clear k1 k2 k3 k4
      rintro A1 H2 ⟨k, w, g, hA, hk, k3, hO, hg, hx, k1, k2, k6⟩
      have d1 := hA.h 1 rfl
      have d2 := hA.h 2 rfl
      have d3 := hA.h 3 rfl
      have d4 := hA.h 4 rfl
      have hw := hO.one
      have hxs := hx.size
      by_cases hlt : k < C.length
      · have zf5 := fl5
        have zc5 := ck5
        obtain ⟨b1, cs, ro, rfl, hb, hgb, hl, hcc⟩ := hh k hlt
        have hgb2 := (hx.get b1 hb).trans hgb
        obtain ⟨f0, f1, f2, f3', f4⟩ := rd5 hcc
        have hmk : (C.map revC).take (k + 1) = (C.map revC).take k ++ [revC (C.getD k cr0)] := by
          rw [List.take_succ_eq_append_getElem (by simpa using hlt)]
          simp [hlt]
        have hgne : k ≠ 0 → Hb.size ≤ g := fun h => hg.resolve_left (hO.nn h)
        obtain ⟨x, hxx⟩ : ∃ x, C.getD k cr0 = x := ⟨_, rfl⟩
        rw [hxx] at hcc f0 f1 f2 f3' f4 hmk
        rw [cr5] at hcc
        repeat' first | refine rnDZ ?_ | with_reducible refine And.intro (fun hc => ?_) (fun hc => ?_) | fail
        refine OG.append (z := 40) (n := k) (m := 1) apC ⟨by decide, by decide, ck5, rfl, by decide⟩ (hO.keep (H' := ((H2.push (.cells [I 0, I 0, I 0, I 0, I 0] 1 false)).set H2.size (.cells [I x.a, I x.b, I x.c, I x.d, I x.s] 1 false)).push (.cells [I x.c, I x.d, I x.a, I x.b, I x.s] 5 false)) (by simp only [nx]; omega) (.inr fun h => by rw [get_push_lt (by simp only [nx]; omega), get_set_ne (by omega), get_push_lt h])) (new := [I x.c, I x.d, I x.a, I x.b, I x.s]) (ro := false) (by exact ivDZ) rfl (by omega) (one_cons rfl (one_cons rfl (one_cons rfl (one_cons rfl (one_cons rfl one_nil))))) (by omega) ?_
        rintro w4 g4 H4 hO4 hg4 hs4 hk4
        simp only [nx] at hg4 hs4 hk4
        have hw4 := hO4.one
        have gn : ∀ b, b < Hb.size → k ≠ 0 → b ≠ g := fun b hb' h => (by have := hgne h; omega)
        have e41 : H4.get H1.size = .cells [w, I z] 1 false := (by rw [hk4 _ (by omega) (gn _ (by omega)), get_push_lt (by simp only [nx]; omega), get_set_ne (by omega), get_push_lt (by omega)]; exact k3)
        have HB : ∀ b, b < H.size → (((H2.push (.cells [I 0, I 0, I 0, I 0, I 0] 1 false)).set H2.size (.cells [I x.a, I x.b, I x.c, I x.d, I x.s] 1 false)).push (.cells [I x.c, I x.d, I x.a, I x.b, I x.s] 5 false)).get b = H.get b := fun b hb' => by rw [get_push_lt (by simp only [nx]; omega), get_set_ne (by omega), get_push_lt (by omega)]; exact hx.get b hb'
        have B1 : (((H2.push (.cells [I 0, I 0, I 0, I 0, I 0] 1 false)).set H2.size (.cells [I x.a, I x.b, I x.c, I x.d, I x.s] 1 false)).push (.cells [I x.c, I x.d, I x.a, I x.b, I x.s] 5 false)).get H.size = .cells [.slice (some ⟨b1, 0, none⟩) C.length kk, I z] 1 false := by rw [get_push_lt (by simp only [nx]; omega), get_set_ne (by omega), get_push_lt (by omega)]; exact k1
        have B2 : (((H2.push (.cells [I 0, I 0, I 0, I 0, I 0] 1 false)).set H2.size (.cells [I x.a, I x.b, I x.c, I x.d, I x.s] 1 false)).push (.cells [I x.c, I x.d, I x.a, I x.b, I x.s] 5 false)).get (H.size + 1) = .cells [.slice none 0 0, I 0] 1 false := by rw [get_push_lt (by simp only [nx]; omega), get_set_ne (by omega), get_push_lt (by omega)]; exact k2
        have hw4 := hO4.one
        have hO4 : OG 5 H4 w4 g4 (k + 1) (crs ((C.map revC).take (k + 1))) := by rw [hmk, crs_app]; exact hO4
        repeat' first | refine rnDZ ?_ | with_reducible refine And.intro (fun hc => ?_) (fun hc => ?_) | fail
        refine ⟨⟨k + 1, w4, g4, agDZ, by omega, by exact ivDZ, hO4.keep (by simp only [nx]; omega) (.inr fun h => by rw [get_set_ne (by omega)]), .inr (by omega), ⟨by simp only [nx]; omega, fun b hb' => by rw [get_set_ne (by omega), hk4 b (by omega) (fun h => by have := hgne h; omega)]; exact HB b hb'⟩, by rw [get_set_ne (by omega), hk4 _ (by omega) (fun h => by have := hgne h; omega)]; exact B1, by rw [get_set_ne (by omega), hk4 _ (by omega) (fun h => by have := hgne h; omega)]; exact B2, by simp only [nx]; omega⟩, ?_⟩
        all_goals first | exact ivDZ | refine smDZ ?_ | skip
      · obtain rfl : k = C.length := by omega
        rw [List.take_of_length_le (by simp)] at hO
        have hml : (C.map revC).length = C.length := by simp
        repeat' first | refine rnDZ ?_ | with_reducible refine And.intro (fun hc => ?_) (fun hc => ?_) | fail
        refine hQ.out _ _ ⟨⟨w, rfl, OwN.low (OwN.of (hO.keep ?_ ?_) hg hml.symm rfl) (by omega)⟩, by exact ex1⟩
        · simp only [nx]; omega
        · refine hg.imp id fun h1 h2 => ?_
          rw [get_set_ne (by omega)]
  · have hd : decide (IsD C z) = false := decide_eq_false h
    rw [if_neg h]
    refine ACalls.body Try.func18 rfl Try.ntmps18 (rs := [.cell 2 29]) rfl (by simp) rfl fun Q hQ A hA => ?_
    have a0 := hA 0 _ _ rfl
    clear hA
    repeat' first | refine rnDZ ?_ | (refine (specIsDiagram_c z (hC1 (by exact ex1)) hS).mono ?_; rintro u H1 ⟨rfl, hx1⟩; rw [hd]; have hx1g := hx1.get; have hx1s := hx1.size; (try simp only [nx] at hx1s)) | with_reducible refine And.intro (fun hc => ?_) (fun hc => ?_) | fail
    exact hQ.out _ _ ⟨⟨_, rfl, Nat.le_refl _, .inl ⟨rfl, rfl⟩⟩, by exact ex1⟩
end Go.Proofs.Ytpbbfephfmdgmaa.Rai
