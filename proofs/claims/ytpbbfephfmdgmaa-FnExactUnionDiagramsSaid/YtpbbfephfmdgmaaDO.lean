/- A part of the walk: what functions of the program do, over an abstract heap. -/
import Derived.Test.YtpbbfephfmdgmaaDL
namespace Go.Proofs.Ytpbbfephfmdgmaa.Rai
open Go TP
set_option linter.unusedVariables false
set_option linter.unusedSimpArgs false
set_option maxRecDepth 20000
theorem tfDO : (Try.prog.underlying 27 = some (.slice 54)) ∧ (el Try.prog 27 = some (none, 5)) ∧ (Try.prog.underlying 37 = some (.slice 65)) ∧ (el Try.prog 37 = some (none, 1)) ∧ (Try.prog.underlying 58 = some (.slice 87)) ∧ (el Try.prog 58 = some (none, 2)) ∧ (Try.prog.underlying 65 = some (.slice 2)) ∧ (el Try.prog 65 = some (none, 1)) ∧ (Try.prog.underlying 72 = some (.slice 4)) ∧ (el Try.prog 72 = some (none, 1)) ∧ (tk Try.prog 2 = some none) ∧ (tk Try.prog 4 = some none) ∧ (tk Try.prog 27 = some none) ∧ (tk Try.prog 29 = some (some 2)) ∧ (tk Try.prog 54 = some (some 5)) ∧ (tk Try.prog 58 = some none) ∧ (tk Try.prog 60 = some (some 2)) ∧ (tk Try.prog 65 = some none) ∧ (tk Try.prog 87 = some (some 2)) ∧ (cz Try.prog 2 = some 1) ∧ (bz Try.prog 2 = some 8) ∧ (cz Try.prog 4 = some 1) ∧ (bz Try.prog 4 = some 1) ∧ (cz Try.prog 54 = some 5) ∧ (bz Try.prog 54 = some 40) ∧ (cz Try.prog 65 = some 1) ∧ (bz Try.prog 65 = some 24) ∧ (cz Try.prog 87 = some 2) ∧ (bz Try.prog 87 = some 16) ∧ (zr Try.prog 2 = some (.int .i64 0)) ∧ (zr Try.prog 4 = some (.bool false)) ∧ (zr Try.prog 54 = some (.agg #[.int .i64 0, .int .i64 0, .int .i64 0, .int .i64 0, .int .i64 0])) ∧ (zr Try.prog 65 = some (.slice none 0 0)) ∧ (zr Try.prog 87 = some (.agg #[.int .i64 0, .int .i64 0])) ∧ (fo Try.prog 29 0 = some (0, none)) ∧ (fo Try.prog 60 1 = some (1, none)) ∧ (fo Try.prog 87 0 = some (0, none)) ∧ (fo Try.prog 87 1 = some (1, none)) ∧ (el Try.prog 87 = none) ∧ (placesOf Try.prog 87 = some #[(0, 1), (1, 1)]) := by
  refine ⟨?_, ?_, ?_, ?_, ?_, ?_, ?_, ?_, ?_, ?_, ?_, ?_, ?_, ?_, ?_, ?_, ?_, ?_, ?_, ?_, ?_, ?_, ?_, ?_, ?_, ?_, ?_, ?_, ?_, ?_, ?_, ?_, ?_, ?_, ?_, ?_, ?_, ?_, ?_, ?_⟩ <;> kernel_rfl
theorem rnDO {a b : Prop} (hb : b) (h : Later b → a := by
  intro hb
  first
  | ((with_reducible first | refine AOps.nil ?_ | refine athen_n ?_ | refine athen_r ?_ | refine athen_e ?_ | refine ablock_n ?_ | refine ablock_r ?_ | refine ablock_s ?_ | refine AWp.seq' ?_ | refine AWp.block ?_ | refine AWp.skip ?_ | refine AWp.exit ?_ | refine AWp.ret ?_ | refine AWp.region ?_ | (refine ablock_e ?_ ?_; focus rfl)); repeat (with_reducible first | refine AOps.nil ?_ | refine athen_n ?_ | refine athen_r ?_ | refine athen_e ?_ | refine ablock_n ?_ | refine ablock_r ?_ | refine ablock_s ?_ | refine AWp.seq' ?_ | refine AWp.block ?_ | refine AWp.skip ?_ | refine AWp.exit ?_ | refine AWp.ret ?_ | refine AWp.region ?_ | (refine ablock_e ?_ ?_; focus rfl)))
  | (refine AOps.guardu rfl rfl rfl ?_ ?_; focus (simp (disch := (first | omega | (simp only [nx]; first | done | omega))) only [Value.bool.injEq, Bool.and_true, Bool.true_and, Bool.and_false, Bool.false_and, beq_self_eq_true, bne, Bool.not_true, Bool.not_false, sx, nx, dx, ↓reduceIte, reduceCtorEq, Nat.reduceEqDiff, ne_eq, not_false_eq_true, *]; done))
  | ((first | refine AOps.cons2 rfl rfl fun K hK => ?_ | refine AWp.cond rfl fun X Y hX hY => ?_ | refine AOps.guard rfl rfl rfl fun X Y hX hY => ?_ | refine aret_r ?_ | refine aret_n ?_); simp (disch := (first | omega | (simp only [nx]; first | done | omega))) only [acond_bool, aresK, retv, xxq, tfDO, sliceK, bnd, copyK, clearK, makeSliceK, buildSliceK, buildK, lookupK, mapPutK, mapOf, convK, allocK, indexK, partK, xxa, xxb, xxc, bne, Int.reduceEq, Int.reduceBEq, Int.reduceNe, Int.reduceBNe, Int.reduceLE, Int.reduceGT, Int.reduceGE, Int.reduceNeg, ↓reduceIte, reduceCtorEq, Nat.reduceEqDiff, Nat.reduceAdd, Nat.reduceMul, Nat.reduceSub, Nat.reduceLT, Int.reduceAdd, Int.reduceSub, Int.reduceMul, Int.reduceLT, Int.reduceToNat, ne_eq, *]; (repeat first | ((with_reducible refine And.intro (fun hc => ?_) (fun hc => absurd hc (by omega))); clear hc) | ((with_reducible refine And.intro (fun hc => absurd hc (by omega)) (fun hc => ?_)); clear hc) | ((with_reducible refine And.intro ?_ ?_); focus ((first | omega | assumption | exact cok _ rfl | exact one_ints _ | exact one_map fun _ => rfl | ((repeat refine one_cons (by first | rfl | assumption) ?_); exact one_nil) | rfl | decide | (intro u hu; cases hu)); done)) | (with_reducible refine (fun hc => ?_ : _ → _); clear hc)); (first | refine hK.out _ _ ?_ | refine ACalls.hk hK ?_ | refine appendK.hk hK ?_ | refine (fun (q : _ ∧ _) => And.intro (hK.out _ _ q.1) (hK.out _ _ q.2)) ?_ | refine hX.out ?_ | refine hY.out ?_ | refine (fun (q : (_ → _) ∧ (_ → _)) => And.intro (fun hc => hX.out (q.1 hc)) (fun hc => hY.out (q.2 hc))) ?_ | refine (fun (q : (_ → _) ∧ (_ → _)) => And.intro (fun hc => hY.out (q.1 hc)) (fun hc => hX.out (q.2 hc))) ?_ | skip))
  exact hb.out) : a := h ⟨hb⟩
theorem hlDO {p b : Prop} (hb : b) (h : p := by simp (disch := (first | omega | (simp only [nx]; first | done | omega))) only [heldIn_iff, List.zipIdx_cons, List.zipIdx_nil, List.map_cons, List.map_nil, xxq, tfDO, sliceK, bnd, copyK, clearK, makeSliceK, buildSliceK, buildK, lookupK, mapPutK, mapOf, convK, allocK, indexK, partK, xxa, xxb, xxc, bne, Int.reduceEq, Int.reduceBEq, Int.reduceNe, Int.reduceBNe, Int.reduceLE, Int.reduceGT, Int.reduceGE, Int.reduceNeg, ↓reduceIte, reduceCtorEq, Nat.reduceEqDiff, Nat.reduceAdd, Nat.reduceMul, Nat.reduceSub, Nat.reduceLT, Int.reduceAdd, Int.reduceSub, Int.reduceMul, Int.reduceLT, Int.reduceToNat, ne_eq, *]; first | done | trivial) : p ∧ b := ⟨h, hb⟩
theorem ivDO {p : Prop} (h : p := by first | omega | ((repeat first | exact Ext.refl _ | assumption | refine Ext.push ?_ _ | refine Ext.set ?_ _ (by first | omega | (simp only [nx, *]; omega)) | (apply Ext.up; focus (assumption; done))); done) | (simp (disch := (first | omega | (simp only [nx]; first | done | omega))) only [xxq, xxa, xxb, xxc, bne, Int.reduceEq, Int.reduceBEq, Int.reduceNe, Int.reduceBNe, Int.reduceLE, Int.reduceGT, Int.reduceGE, Int.reduceNeg, ↓reduceIte, reduceCtorEq, Nat.reduceEqDiff, Nat.reduceAdd, Nat.reduceMul, Nat.reduceSub, Nat.reduceLT, Int.reduceAdd, Int.reduceSub, Int.reduceMul, Int.reduceLT, Int.reduceToNat, ne_eq, *, intV_int]; first | done | omega | rfl | exact congrArg (Value.int .i64) (by omega) | ((repeat first | exact Ext.refl _ | assumption | refine Ext.push ?_ _ | refine Ext.set ?_ _ (by first | omega | (simp only [nx, *]; omega)) | (apply Ext.up; focus (assumption; done))); done)) | rfl) : p := h
theorem smDO {a b : Prop} (hb : b) (h : Later b → a := by intro hb; simp (disch := (first | omega | (simp only [nx]; first | done | omega))) only [xxq, xxa, xxb, xxc, bne, Int.reduceEq, Int.reduceBEq, Int.reduceNe, Int.reduceBNe, Int.reduceLE, Int.reduceGT, Int.reduceGE, Int.reduceNeg, ↓reduceIte, reduceCtorEq, Nat.reduceEqDiff, Nat.reduceAdd, Nat.reduceMul, Nat.reduceSub, Nat.reduceLT, Int.reduceAdd, Int.reduceSub, Int.reduceMul, Int.reduceLT, Int.reduceToNat, ne_eq, *, intV_int]; exact hb.out) : a := h ⟨hb⟩
theorem gtDO {A F : Fr} {t : Nat} {v : Value} (h : Ag [] A F) (e : F t = v := by simp (disch := (first | omega | (simp only [nx]; first | done | omega))) only [xxq, xxa, xxb, xxc, bne, Int.reduceEq, Int.reduceBEq, Int.reduceNe, Int.reduceBNe, Int.reduceLE, Int.reduceGT, Int.reduceGE, Int.reduceNeg, ↓reduceIte, reduceCtorEq, Nat.reduceEqDiff, Nat.reduceAdd, Nat.reduceMul, Nat.reduceSub, Nat.reduceLT, Int.reduceAdd, Int.reduceSub, Int.reduceMul, Int.reduceLT, Int.reduceToNat, ne_eq, *, intV_int]; exact rfl) : A t = v := (h.h t rfl).trans e
theorem agDO {D : List Nat} {A F : Fr} (h : Ag D A F := by
  repeat (with_reducible first | exact Ag.refl _ _ | refine Ag.nop ?_ | refine Ag.dead rfl ?_ | (refine Ag.live ?_ ?_; focus exact ivDO) | refine Ag.dr rfl ?_ | (refine Ag.lr ?_ ?_; focus exact ivDO) | refine Ag.up (by assumption) rfl ?_)) : Ag D A F := h
theorem sdDO {p : Prop} (h : p := by first | omega | assumption | (simp (disch := (first | omega | (simp only [nx]; first | done | omega))) only [xxq, tfDO, sliceK, bnd, copyK, clearK, makeSliceK, buildSliceK, buildK, lookupK, mapPutK, mapOf, convK, allocK, indexK, partK, xxa, xxb, xxc, bne, Int.reduceEq, Int.reduceBEq, Int.reduceNe, Int.reduceBNe, Int.reduceLE, Int.reduceGT, Int.reduceGE, Int.reduceNeg, ↓reduceIte, reduceCtorEq, Nat.reduceEqDiff, Nat.reduceAdd, Nat.reduceMul, Nat.reduceSub, Nat.reduceLT, Int.reduceAdd, Int.reduceSub, Int.reduceMul, Int.reduceLT, Int.reduceToNat, ne_eq, *]; first | done | omega | rfl)) : p := h
set_option maxHeartbeats 4000000 in
theorem regions_c {H : Heap} {v vf vt : Value} {C : List Cr} (z : Int) (hC : RdC H v C) (hn : C.length ≤ 10) (hV : Cnt C) (hf : RdE H vf (endsL C false (2 * C.length) (4 * C.length))) (ht : RdE H vt (endsL C true (2 * C.length) (4 * C.length))) : ACalls Try.prog 50 [.agg #[v, I z], .agg #[vf, vt]] H fun u H' => OwnRR H.size H'.size H' u (regs (sucC C) (4 * C.length) (4 * C.length)).2 ∧ Ext H H' := by
  have hC1 := fun {H' : Heap} (h : Ext H H') => hC.ext h
  obtain ⟨p, kk, rfl, hp, hh⟩ := hC
  clear hh
  have hf1 := fun {H' : Heap} (h : Ext H H') => hf.ext h
  have ht1 := fun {H' : Heap} (h : Ext H H') => ht.ext h
  obtain ⟨gvf, kvf, rfl, _⟩ := hf
  obtain ⟨gvt, kvt, rfl, _⟩ := ht
  rw [endsL_len] at hf1 ht1
  rw [endsL_len, endsL_len]
  have hs : ∀ x, x < 4 * C.length → sucC C x < 4 * C.length := fun x hx => sucC_lt hV hx
  obtain ⟨N, hN⟩ : ∃ N, 4 * C.length = N := ⟨_, rfl⟩
  have hNi : (4 * (C.length : Int)) = (N : Int) := by omega
  have hN40 : N ≤ 40 := by omega
  have hrep := rep_bools N false
  have hr0 : (regs (sucC C) N 0).1 = List.replicate N false := rfl
  have hQN : (regs (sucC C) (4 * C.length) (4 * C.length)).2 = (regs (sucC C) N N).2 := by rw [hN]
  rw [hQN]
  clear hQN
  rw [hN] at hs
  obtain ⟨M, hM⟩ : ∃ M, 2 * C.length = M := ⟨_, rfl⟩
  rw [hM]
  have hMi : (M : Int) = 2 * C.length := by omega
  skip
  skip
  rw [hM] at hf1 ht1
  refine ACalls.body Try.func50 rfl Try.ntmps50 (rs := [.tmp 4]) rfl (by simp) rfl fun Q hQ A hA => ?_
  have a0 := hA 0 _ _ rfl
  have a1 := hA 1 _ _ rfl
  clear hA
  repeat' first | refine rnDO ?_ | with_reducible refine And.intro (fun hc => ?_) (fun hc => ?_) | fail
  obtain ⟨Hb, hHb⟩ : ∃ X, X = ((H.push (.cells [.slice p C.length kk, I z] 1 false)).push (.cells [.slice (some ⟨gvf, 0, none⟩) M kvf, .slice (some ⟨gvt, 0, none⟩) M kvt] 1 false)).push (.cells (bools (List.replicate N false)) 1 false) := ⟨_, rfl⟩
  have f1 : Hb.get H.size = .cells [.slice p C.length kk, I z] 1 false := by rw [hHb]; exact ivDO
  have f2 : Hb.get (H.size + 1) = .cells [.slice (some ⟨gvf, 0, none⟩) M kvf, .slice (some ⟨gvt, 0, none⟩) M kvt] 1 false := by rw [hHb]; exact ivDO
  have f3 : Hb.get (H.size + 1 + 1) = .cells (bools (regs (sucC C) N 0).1) 1 false := by rw [hHb, hr0]; exact ivDO
  have f4 : Hb.size = H.size + 1 + 1 + 1 := by rw [hHb]; rfl
  have f5 : Ext H Hb := by rw [hHb]; exact ex1
  rw [← hHb]
  clear hHb hrep hr0
  refine AWp.cut (fun Ac hAc => ?_)
  have c2 := gtDO (t := 2) hAc
  have c3 := gtDO (t := 3) hAc
  have c6 := gtDO (t := 6) hAc
  have c17 := gtDO (t := 17) hAc
  have c5 := gtDO (t := 5) hAc
  have c18 := gtDO (t := 18) hAc
  clear a0 a1
  refine AWp.loop (fun A' H' => ∃ (k : Nat) (w : Value) (g : Nat), Ag [7, 8, 9, 10, 19, 20, 21, 22, 23, 24, 25, 26, 27, 28, 29, 30, 31, 32, 33, 34, 35, 36, 37, 38, 39, 40, 41, 42, 43, 44, 45, 46, 47, 48, 49, 50, 51, 52, 53, 54, 55, 56] A' (put (put Ac (some 5) (w)) (some 18) (I k)) ∧ k ≤ N ∧ H'.get (H.size + 1 + 1) = .cells (bools (regs (sucC C) N k).1) 1 false ∧ OLL (H.size + 1 + 1 + 1) H'.size H' w g (regs (sucC C) N k).2 ∧ (w = .slice none 0 0 ∨ H.size ≤ g) ∧ ((regs (sucC C) N k).2 ≠ [] → H.size + 1 + 1 < g) ∧ Ext H H' ∧ H'.get H.size = .cells [.slice p C.length kk, I z] 1 false ∧ H'.get (H.size + 1) = .cells [.slice (some ⟨gvf, 0, none⟩) M kvf, .slice (some ⟨gvt, 0, none⟩) M kvt] 1 false ∧ Hb.size ≤ H'.size ∧ g ≠ H.size + 1 + 1) (fun A' _ => N - (intV (A' 18)).toNat) ?_ ?_
  · exact ⟨0, _, H.size + 1 + 1 + 1, agDO, by omega, f3, OLL.nil (OL.nil) (Nat.le_refl _), .inl rfl, fun h => by simp [regs] at h, f5, f1, f2, Nat.le_refl _, by omega⟩
  · clear f1 f2 f3 f5
    rintro A1 H1 ⟨k, w, g, hA, hk, k1, hO, k2, k3, hx, k5, kx5, k6, k7⟩
    have d2 := hA.h 2 rfl
    have d3 := hA.h 3 rfl
    have d5 := hA.h 5 rfl
    have d6 := hA.h 6 rfl
    have d17 := hA.h 17 rfl
    have d18 := hA.h 18 rfl
    have hxs := hx.size
    have hdl := regs_len (sucC C) N k
    have hbl := bools_len (regs (sucC C) N k).1
    by_cases hlt : k < N
    · have hst : regs (sucC C) N (k + 1) = if (regs (sucC C) N k).1.getD k false = true then regs (sucC C) N k else ((walk (sucC C) (N + 1) (regs (sucC C) N k).1 k []).1, (regs (sucC C) N k).2 ++ [(walk (sucC C) (N + 1) (regs (sucC C) N k).1 k []).2]) := rfl
      have hRl := (regs_short hs k hk).1
      obtain ⟨W, hW⟩ : ∃ W, walk (sucC C) (N + 1) (regs (sucC C) N k).1 k [] = W := ⟨_, rfl⟩
      rw [hW] at hst
      obtain ⟨D0, hD0⟩ : ∃ D, (regs (sucC C) N k).1 = D := ⟨_, rfl⟩
      obtain ⟨R0, hR0⟩ : ∃ D, (regs (sucC C) N k).2 = D := ⟨_, rfl⟩
      rw [hD0] at hbl hdl k1 hW hst
      rw [hR0] at hst hO hRl k3
      have hcnt : D0.count false ≤ N := by have := List.count_le_length (a := false) (l := D0); omega
      have hreg : regs (sucC C) N k = (D0, R0) := by rw [← hD0, ← hR0]
      rw [hreg] at hst
      clear hD0 hR0 hreg
      repeat' first | refine rnDO ?_ | with_reducible refine And.intro (fun hc => ?_) (fun hc => ?_) | fail
      refine AWp.cut (fun Ae hAe => ?_)
      have e2 := gtDO (t := 2) hAe
      have e3 := gtDO (t := 3) hAe
      have e5 := gtDO (t := 5) hAe
      have e6 := gtDO (t := 6) hAe
      have e17 := gtDO (t := 17) hAe
      have e18 := gtDO (t := 18) hAe
      have e8 := gtDO (t := 8) hAe
      have e9 := gtDO (t := 9) hAe
      refine AWp.loopx (σ := List Bool) (fun D A' H' => ∃ (a : Nat) (l : List Int) (x : Value) (gr f : Nat), Ag [10, 22, 23, 24, 25, 26, 27, 28, 29, 30, 31, 32, 33, 34, 35, 36, 37, 38, 39, 40, 41, 42, 43, 44, 45, 46, 47, 48] A' (put (put Ae (some 8) (x)) (some 9) (I a)) ∧ walk (sucC C) f D a l = W ∧ D.count false < f ∧ a < N ∧ D.length = N ∧ l.length + D.count false ≤ N ∧ (l = [] → D = D0 ∧ a = k) ∧ (l ≠ [] → D0.getD k false = false) ∧ H'.get (H.size + 1 + 1) = .cells (bools D) 1 false ∧ OL H' x gr (ints l) ∧ (x = .slice none 0 0 ∨ H1.size ≤ gr) ∧ (∀ b, b < H1.size → b ≠ H.size + 1 + 1 → H'.get b = H1.get b) ∧ H1.size ≤ H'.size) (fun D => D.count false) (D0) ?_ ?_
      · exact ⟨k, [], _, H1.size, N + 1, agDO, hW, by omega, hlt, hdl, by simpa using hcnt, fun _ => ⟨rfl, rfl⟩, fun h => absurd rfl h, k1, OL.nil, .inl rfl, fun b hb hne => rfl, Nat.le_refl _⟩
      · rintro D A2 H2 ⟨a, l, x, gr, f, hA2, hw, hcf, haN, hDl, hlc, hnil, hnn, q1, hOx, q2, q4, q3⟩
        have f2 := hA2.h 2 rfl
        have f3 := hA2.h 3 rfl
        have f5 := hA2.h 5 rfl
        have f6 := hA2.h 6 rfl
        have f8 := hA2.h 8 rfl
        have f9 := hA2.h 9 rfl
        have f17 := hA2.h 17 rfl
        have f18 := hA2.h 18 rfl
        have hbl2 := bools_len D
        have hget2 := bools_get (l := D) (i := a) (by omega)
        have q5 := (q4 H.size (by omega) (by omega)).trans k5
        have qx5 := (q4 (H.size + 1) (by omega) (by omega)).trans kx5
        obtain ⟨f, rfl⟩ : ∃ f', f = f' + 1 := ⟨f - 1, by omega⟩
        rcases hda : D.getD a false with _ | _
        · rw [hda] at hget2
          unfold walk at hw
          rw [if_neg (by rw [hda]; simp)] at hw
          have hcs := count_set_true hda (by omega)
          have hbs := bools_set D a true
          have hsa := hs a haN
          have hk0 : D0.getD k false = false := by
            by_cases e : l = []
            · obtain ⟨h1, h2⟩ := hnil e
              rw [← h1, ← h2]; exact hda
            · exact hnn e
          repeat' first | refine rnDO ?_ | with_reducible refine And.intro (fun hc => ?_) (fun hc => ?_) | fail
          refine OL.append (z := 8) apT ⟨by decide, by decide, rfl, rfl⟩ (hOx.keep (H' := (H2.set (H.size + 1 + 1) (.cells (bools (D.set a true)) 1 false)).push (.cells [I a] 1 false)) (by simp only [nx]; omega) (q2.imp id fun h h' => by rw [get_push_lt (by simp only [nx]; omega), get_set_ne (by omega)])) (new := [I a]) (by exact ivDO) rfl (by omega) (fun h => by have := hOx.lt h; omega) (one_cons rfl one_nil) (by rw [ints_len]; omega) ?_
          rintro x2 gr2 H3 hO3 r1 r2 r3
          simp only [nx] at r1 r2 r3
          have hne1 : ∀ b, b < H1.size → ints l ≠ [] → b ≠ gr := fun b hb h => by have := q2.resolve_left (hOx.nn h); omega
          have q6 : H3.get H.size = .cells [.slice p C.length kk, I z] 1 false := by rw [r3 _ (by omega) (hne1 _ (by omega)), get_push_lt (by simp only [nx]; omega), get_set_ne (by omega)]; exact q5
          have qx6 : H3.get (H.size + 1) = .cells [.slice (some ⟨gvf, 0, none⟩) M kvf, .slice (some ⟨gvt, 0, none⟩) M kvt] 1 false := by rw [r3 _ (by omega) (hne1 _ (by omega)), get_push_lt (by simp only [nx]; omega), get_set_ne (by omega)]; exact qx5
          have hx3 : Ext H H3 := ⟨by omega, fun b hb => by rw [r3 b (by omega) (hne1 _ (by omega)), get_push_lt (by simp only [nx]; omega), get_set_ne (by omega), q4 b (by omega) (by omega)]; exact hx.get b hb⟩
          have q7 : H3.get (H.size + 1 + 1) = .cells (bools (D.set a true)) 1 false := by rw [r3 _ (by omega) (hne1 _ (by omega)), get_push_lt (by simp only [nx]; omega), get_set_eq]
          have q8 : ∀ b, b < H1.size → b ≠ H.size + 1 + 1 → H3.get b = H1.get b := fun b hb hne => by rw [r3 b (by omega) (hne1 _ (by omega)), get_push_lt (by simp only [nx]; omega), get_set_ne hne]; exact q4 b hb hne
          rw [show [I (a : Int)] = ints [(a : Int)] from rfl, app_ints] at hO3
          have hgr2 := hO3.lt (by simp [ints])
          have hs1 := hf1 hx3
          have hs2 := ht1 hx3
          have hd4 : ((a : Int) / 4) = ((a / 4 : Nat) : Int) := by omega
          have hm4 : ((a : Int) + 1) % 4 = (((a + 1) % 4 : Nat) : Int) := by omega
          repeat' first | refine rnDO ?_ | with_reducible refine And.intro (fun hc => ?_) (fun hc => ?_) | fail
          refine (other_c z (hC1 hx3) hn hV (by rw [hM]; exact hs1) (by rw [hM]; exact hs2) (a / 4) ((a + 1) % 4) (by omega) (by omega)).mono ?_
          rintro u H4 ⟨⟨j, hj, rfl⟩, hx4⟩
          have hx4g := hx4.get; have hx4s := hx4.size; (try simp only [nx] at hx4s)
          have hsc : sucC C a = j := by have := (sucC_spec hV a (by omega)).1; rw [show (a % 4 + 1) % 4 = (a + 1) % 4 by omega, hj] at this; injection this with this; exact this.symm
          have hjv : (4 * ((j / 4 : Nat) : Int) + ((j % 4 : Nat) : Int)) = ((sucC C a : Nat) : Int) := by rw [hsc]; omega
          rw [← hsc] at hj
          generalize j / 4 = j1 at *
          generalize j % 4 = j2 at *
          repeat' first | refine rnDO ?_ | with_reducible refine And.intro (fun hc => ?_) (fun hc => ?_) | fail
          have hx5 : Ext H3 ((H4.push (.cells [I 0, I 0] 1 false)).set H4.size (.cells [I j1, I j2] 1 false)) := by exact ex1
          refine ⟨D.set a true, ⟨sucC C a, l ++ [(a : Int)], x2, gr2, f, agDO, hw, by omega, hsa, by simpa using hDl, by rw [List.length_append, List.length_singleton]; omega, fun h => by simp at h, fun _ => hk0, by rw [hx5.get _ (by omega)]; exact q7, hO3.ext hx5, .inr (by omega), fun b hb hne => by rw [hx5.get b (by omega)]; exact q8 b hb hne, by first | (have := hx5.size; omega) | (simp only [nx]; omega)⟩, by omega⟩
        · rw [hda] at hget2
          unfold walk at hw
          rw [if_pos hda] at hw
          by_cases hl0 : l = []
          · subst hl0
            obtain ⟨rfl, rfl⟩ := hnil rfl
            rw [if_pos hda] at hst
            obtain ⟨xp, xc, rfl⟩ := hOx.shape
            have hx0 : (ints ([] : List Int)).length = 0 := rfl
            rw [hx0] at *
            repeat' first | refine rnDO ?_ | with_reducible refine And.intro (fun hc => ?_) (fun hc => ?_) | fail
            refine ⟨⟨a + 1, w, g, agDO, by omega, by rw [hst]; exact q1, by rw [hst]; exact hO.keep q3 (fun b h1 h2 => q4 b (by omega) (by omega)) (.inr fun h => q4 g h k7) (by omega) (Nat.le_refl _), k2, by rw [hst]; exact k3, ⟨by omega, fun b hb => by rw [q4 b (by omega) (by omega)]; exact hx.get b hb⟩, q5, qx5, by omega, k7⟩, ?_⟩
            all_goals first | exact ivDO | refine smDO ?_ | skip
          · have hll : 0 < l.length := List.length_pos_iff.2 hl0
            rw [if_neg (by rw [hnn hl0]; simp)] at hst
            have q2r := q2.resolve_left (hOx.nn (by simpa [ints] using hl0))
            obtain ⟨rfl, o1, o2⟩ := hOx.at (by rw [ints_len]; exact hll)
            rw [ints_len] at *
            have hO2 : OLL (H.size + 1 + 1 + 1) H1.size H2 w g R0 := hO.keep q3 (fun b h1 h2 => q4 b (by omega) (by omega)) (.inr fun h => q4 g h k7) (Nat.le_refl _) (by omega)
            repeat' first | refine rnDO ?_ | with_reducible refine And.intro (fun hc => ?_) (fun hc => ?_) | fail
            refine OLL.append (z := 24) apU ⟨by decide, by decide, rfl, rfl⟩ (hO2.keep (H' := H2.push (.cells [.slice (some ⟨gr, 0, none⟩) l.length 0] 1 false)) (hi' := H1.size) (by simp only [nx]; omega) (fun b h1 h2 => get_push_lt (by omega)) (.inr fun h => get_push_lt h) (Nat.le_refl _) (by simp only [nx]; omega)) (b := gr) (row := l) (by exact ivDO) (fun h => by have := hO2.lt h; omega) rfl q2r (by omega) (by simp only [nx]; omega) (fun h => by have := hO.lt h; omega) (by rw [get_push_lt (by omega)]; exact o2) (by omega) ?_
            rintro w2 g2 H3 hO3 r1 r2 r3
            simp only [nx] at r1 r2 r3 hO3
            have hfin : (regs (sucC C) N (k + 1)).2 = R0 ++ [l] := by rw [hst, ← hw]
            have hfin1 : (regs (sucC C) N (k + 1)).1 = D := by rw [hst, ← hw]
            rw [← hfin] at hO3
            have hne1 : ∀ b, b < H.size + 1 + 1 + 1 → R0 ≠ [] → b ≠ g := fun b hb h => by have := k3 h; omega
            repeat' first | refine rnDO ?_ | with_reducible refine And.intro (fun hc => ?_) (fun hc => ?_) | fail
            refine ⟨⟨k + 1, w2, g2, agDO, by omega, by rw [hfin1, r3 _ (by omega) (hne1 _ (by omega)), get_push_lt (by omega)]; exact q1, hO3.keep (Nat.le_refl _) (fun _ _ _ => rfl) (.inr fun _ => rfl) r2 (Nat.le_refl _), .inr (by omega), fun _ => by omega, ⟨by omega, fun b hb => by rw [r3 b (by omega) (hne1 _ (by omega)), get_push_lt (by omega), q4 b (by omega) (by omega)]; exact hx.get b hb⟩, by rw [r3 _ (by omega) (hne1 _ (by omega)), get_push_lt (by omega)]; exact q5, by rw [r3 _ (by omega) (hne1 _ (by omega)), get_push_lt (by omega)]; exact qx5, by omega, by omega⟩, ?_⟩
            all_goals first | exact ivDO | refine smDO ?_ | skip
    · obtain rfl : k = N := by omega
      repeat' first | refine rnDO ?_ | with_reducible refine And.intro (fun hc => ?_) (fun hc => ?_) | fail
      exact hQ.out _ _ ⟨hO.own (by omega) k2, hx⟩
set_option maxHeartbeats 4000000 in
theorem strands_c {H : Heap} {v vf vt : Value} {C : List Cr} (z : Int) (hC : RdC H v C) (hn : C.length ≤ 10) (hV : Cnt C) (hf : RdE H vf (endsL C false (2 * C.length) (4 * C.length))) (ht : RdE H vt (endsL C true (2 * C.length) (4 * C.length))) : ACalls Try.prog 58 [.agg #[v, I z], .agg #[vf, vt]] H fun u H' => OwnRR H.size H'.size H' u (regs (nxtC C) (2 * C.length) (2 * C.length)).2 ∧ Ext H H' := by
  have hC1 := fun {H' : Heap} (h : Ext H H') => hC.ext h
  obtain ⟨p, kk, rfl, hp, hh⟩ := hC
  clear hh
  have hf1 := fun {H' : Heap} (h : Ext H H') => hf.ext h
  have ht1 := fun {H' : Heap} (h : Ext H H') => ht.ext h
  obtain ⟨gvf, kvf, rfl, _⟩ := hf
  obtain ⟨gvt, kvt, rfl, _⟩ := ht
  rw [endsL_len] at hf1 ht1
  rw [endsL_len, endsL_len]
  have hs : ∀ x, x < 2 * C.length → nxtC C x < 2 * C.length := fun x hx => nxtC_lt hV hx
  obtain ⟨N, hN⟩ : ∃ N, 2 * C.length = N := ⟨_, rfl⟩
  have hNi : (2 * (C.length : Int)) = (N : Int) := by omega
  have hN40 : N ≤ 40 := by omega
  have hrep := rep_bools N false
  have hr0 : (regs (nxtC C) N 0).1 = List.replicate N false := rfl
  have hQN : (regs (nxtC C) (2 * C.length) (2 * C.length)).2 = (regs (nxtC C) N N).2 := by rw [hN]
  rw [hQN]
  clear hQN
  rw [hN] at hs
  obtain ⟨M, hM⟩ : ∃ M, 2 * C.length = M := ⟨_, rfl⟩
  rw [hM]
  skip
  have hNM : M = N := by omega
  subst hNM
  rw [hM] at hf1 ht1
  refine ACalls.body Try.func58 rfl Try.ntmps58 (rs := [.tmp 4]) rfl (by simp) rfl fun Q hQ A hA => ?_
  have a0 := hA 0 _ _ rfl
  have a1 := hA 1 _ _ rfl
  clear hA
  repeat' first | refine rnDO ?_ | with_reducible refine And.intro (fun hc => ?_) (fun hc => ?_) | fail
  obtain ⟨Hb, hHb⟩ : ∃ X, X = ((H.push (.cells [.slice p C.length kk, I z] 1 false)).push (.cells [.slice (some ⟨gvf, 0, none⟩) M kvf, .slice (some ⟨gvt, 0, none⟩) M kvt] 1 false)).push (.cells (bools (List.replicate M false)) 1 false) := ⟨_, rfl⟩
  have f1 : Hb.get H.size = .cells [.slice p C.length kk, I z] 1 false := by rw [hHb]; exact ivDO
  have f2 : Hb.get (H.size + 1) = .cells [.slice (some ⟨gvf, 0, none⟩) M kvf, .slice (some ⟨gvt, 0, none⟩) M kvt] 1 false := by rw [hHb]; exact ivDO
  have f3 : Hb.get (H.size + 1 + 1) = .cells (bools (regs (nxtC C) M 0).1) 1 false := by rw [hHb, hr0]; exact ivDO
  have f4 : Hb.size = H.size + 1 + 1 + 1 := by rw [hHb]; rfl
  have f5 : Ext H Hb := by rw [hHb]; exact ex1
  rw [← hHb]
  clear hHb hrep hr0
  refine AWp.cut (fun Ac hAc => ?_)
  have c2 := gtDO (t := 2) hAc
  have c3 := gtDO (t := 3) hAc
  have c6 := gtDO (t := 6) hAc
  have c15 := gtDO (t := 15) hAc
  have c5 := gtDO (t := 5) hAc
  have c16 := gtDO (t := 16) hAc
  clear a0 a1
  refine AWp.loop (fun A' H' => ∃ (k : Nat) (w : Value) (g : Nat), Ag [7, 8, 9, 17, 18, 19, 20, 21, 22, 23, 24, 25, 26, 27, 28, 29, 30, 31, 32, 33, 34, 35, 36, 37, 38, 39, 40, 41, 42, 43] A' (put (put Ac (some 5) (w)) (some 16) (I k)) ∧ k ≤ M ∧ H'.get (H.size + 1 + 1) = .cells (bools (regs (nxtC C) M k).1) 1 false ∧ OLL (H.size + 1 + 1 + 1) H'.size H' w g (regs (nxtC C) M k).2 ∧ (w = .slice none 0 0 ∨ H.size ≤ g) ∧ ((regs (nxtC C) M k).2 ≠ [] → H.size + 1 + 1 < g) ∧ Ext H H' ∧ H'.get H.size = .cells [.slice p C.length kk, I z] 1 false ∧ H'.get (H.size + 1) = .cells [.slice (some ⟨gvf, 0, none⟩) M kvf, .slice (some ⟨gvt, 0, none⟩) M kvt] 1 false ∧ Hb.size ≤ H'.size ∧ g ≠ H.size + 1 + 1) (fun A' _ => M - (intV (A' 16)).toNat) ?_ ?_
  · exact ⟨0, _, H.size + 1 + 1 + 1, agDO, by omega, f3, OLL.nil (OL.nil) (Nat.le_refl _), .inl rfl, fun h => by simp [regs] at h, f5, f1, f2, Nat.le_refl _, by omega⟩
  · clear f1 f2 f3 f5
    rintro A1 H1 ⟨k, w, g, hA, hk, k1, hO, k2, k3, hx, k5, kx5, k6, k7⟩
    have d2 := hA.h 2 rfl
    have d3 := hA.h 3 rfl
    have d5 := hA.h 5 rfl
    have d6 := hA.h 6 rfl
    have d15 := hA.h 15 rfl
    have d16 := hA.h 16 rfl
    have hxs := hx.size
    have hdl := regs_len (nxtC C) M k
    have hbl := bools_len (regs (nxtC C) M k).1
    by_cases hlt : k < M
    · have hst : regs (nxtC C) M (k + 1) = if (regs (nxtC C) M k).1.getD k false = true then regs (nxtC C) M k else ((walk (nxtC C) (M + 1) (regs (nxtC C) M k).1 k []).1, (regs (nxtC C) M k).2 ++ [(walk (nxtC C) (M + 1) (regs (nxtC C) M k).1 k []).2]) := rfl
      have hRl := (regs_short hs k hk).1
      obtain ⟨W, hW⟩ : ∃ W, walk (nxtC C) (M + 1) (regs (nxtC C) M k).1 k [] = W := ⟨_, rfl⟩
      rw [hW] at hst
      obtain ⟨D0, hD0⟩ : ∃ D, (regs (nxtC C) M k).1 = D := ⟨_, rfl⟩
      obtain ⟨R0, hR0⟩ : ∃ D, (regs (nxtC C) M k).2 = D := ⟨_, rfl⟩
      rw [hD0] at hbl hdl k1 hW hst
      rw [hR0] at hst hO hRl k3
      have hcnt : D0.count false ≤ M := by have := List.count_le_length (a := false) (l := D0); omega
      have hreg : regs (nxtC C) M k = (D0, R0) := by rw [← hD0, ← hR0]
      rw [hreg] at hst
      clear hD0 hR0 hreg
      repeat' first | refine rnDO ?_ | with_reducible refine And.intro (fun hc => ?_) (fun hc => ?_) | fail
      refine AWp.cut (fun Ae hAe => ?_)
      have e2 := gtDO (t := 2) hAe
      have e3 := gtDO (t := 3) hAe
      have e5 := gtDO (t := 5) hAe
      have e6 := gtDO (t := 6) hAe
      have e15 := gtDO (t := 15) hAe
      have e16 := gtDO (t := 16) hAe
      have e8 := gtDO (t := 8) hAe
      have e9 := gtDO (t := 9) hAe
      refine AWp.loopx (σ := List Bool) (fun D A' H' => ∃ (a : Nat) (l : List Int) (x : Value) (gr f : Nat), Ag [20, 21, 22, 23, 24, 25, 26, 27, 28, 29, 30, 31, 32, 33, 34, 35] A' (put (put Ae (some 8) (x)) (some 9) (I a)) ∧ walk (nxtC C) f D a l = W ∧ D.count false < f ∧ a < M ∧ D.length = M ∧ l.length + D.count false ≤ M ∧ (l = [] → D = D0 ∧ a = k) ∧ (l ≠ [] → D0.getD k false = false) ∧ H'.get (H.size + 1 + 1) = .cells (bools D) 1 false ∧ OL H' x gr (ints l) ∧ (x = .slice none 0 0 ∨ H1.size ≤ gr) ∧ (∀ b, b < H1.size → b ≠ H.size + 1 + 1 → H'.get b = H1.get b) ∧ H1.size ≤ H'.size) (fun D => D.count false) (D0) ?_ ?_
      · exact ⟨k, [], _, H1.size, M + 1, agDO, hW, by omega, hlt, hdl, by simpa using hcnt, fun _ => ⟨rfl, rfl⟩, fun h => absurd rfl h, k1, OL.nil, .inl rfl, fun b hb hne => rfl, Nat.le_refl _⟩
      · rintro D A2 H2 ⟨a, l, x, gr, f, hA2, hw, hcf, haN, hDl, hlc, hnil, hnn, q1, hOx, q2, q4, q3⟩
        have f2 := hA2.h 2 rfl
        have f3 := hA2.h 3 rfl
        have f5 := hA2.h 5 rfl
        have f6 := hA2.h 6 rfl
        have f8 := hA2.h 8 rfl
        have f9 := hA2.h 9 rfl
        have f15 := hA2.h 15 rfl
        have f16 := hA2.h 16 rfl
        have hbl2 := bools_len D
        have hget2 := bools_get (l := D) (i := a) (by omega)
        have q5 := (q4 H.size (by omega) (by omega)).trans k5
        have qx5 := (q4 (H.size + 1) (by omega) (by omega)).trans kx5
        obtain ⟨f, rfl⟩ : ∃ f', f = f' + 1 := ⟨f - 1, by omega⟩
        rcases hda : D.getD a false with _ | _
        · rw [hda] at hget2
          unfold walk at hw
          rw [if_neg (by rw [hda]; simp)] at hw
          have hcs := count_set_true hda (by omega)
          have hbs := bools_set D a true
          have hsa := hs a haN
          have hk0 : D0.getD k false = false := by
            by_cases e : l = []
            · obtain ⟨h1, h2⟩ := hnil e
              rw [← h1, ← h2]; exact hda
            · exact hnn e
          repeat' first | refine rnDO ?_ | with_reducible refine And.intro (fun hc => ?_) (fun hc => ?_) | fail
          refine OL.append (z := 8) apT ⟨by decide, by decide, rfl, rfl⟩ (hOx.keep (H' := (H2.set (H.size + 1 + 1) (.cells (bools (D.set a true)) 1 false)).push (.cells [I a] 1 false)) (by simp only [nx]; omega) (q2.imp id fun h h' => by rw [get_push_lt (by simp only [nx]; omega), get_set_ne (by omega)])) (new := [I a]) (by exact ivDO) rfl (by omega) (fun h => by have := hOx.lt h; omega) (one_cons rfl one_nil) (by rw [ints_len]; omega) ?_
          rintro x2 gr2 H3 hO3 r1 r2 r3
          simp only [nx] at r1 r2 r3
          have hne1 : ∀ b, b < H1.size → ints l ≠ [] → b ≠ gr := fun b hb h => by have := q2.resolve_left (hOx.nn h); omega
          have q6 : H3.get H.size = .cells [.slice p C.length kk, I z] 1 false := by rw [r3 _ (by omega) (hne1 _ (by omega)), get_push_lt (by simp only [nx]; omega), get_set_ne (by omega)]; exact q5
          have qx6 : H3.get (H.size + 1) = .cells [.slice (some ⟨gvf, 0, none⟩) M kvf, .slice (some ⟨gvt, 0, none⟩) M kvt] 1 false := by rw [r3 _ (by omega) (hne1 _ (by omega)), get_push_lt (by simp only [nx]; omega), get_set_ne (by omega)]; exact qx5
          have hx3 : Ext H H3 := ⟨by omega, fun b hb => by rw [r3 b (by omega) (hne1 _ (by omega)), get_push_lt (by simp only [nx]; omega), get_set_ne (by omega), q4 b (by omega) (by omega)]; exact hx.get b hb⟩
          have q7 : H3.get (H.size + 1 + 1) = .cells (bools (D.set a true)) 1 false := by rw [r3 _ (by omega) (hne1 _ (by omega)), get_push_lt (by simp only [nx]; omega), get_set_eq]
          have q8 : ∀ b, b < H1.size → b ≠ H.size + 1 + 1 → H3.get b = H1.get b := fun b hb hne => by rw [r3 b (by omega) (hne1 _ (by omega)), get_push_lt (by simp only [nx]; omega), get_set_ne hne]; exact q4 b hb hne
          rw [show [I (a : Int)] = ints [(a : Int)] from rfl, app_ints] at hO3
          have hgr2 := hO3.lt (by simp [ints])
          repeat' first | refine rnDO ?_ | (refine (next_c z (hC1 hx3) hn hV rfl (by rw [hM]; exact ht1 hx3) a (by omega)).mono ?_; rintro u H4 ⟨rfl, hx4⟩; have hx4g := hx4.get; have hx4s := hx4.size; (try simp only [nx] at hx4s)) | with_reducible refine And.intro (fun hc => ?_) (fun hc => ?_) | fail
          have hx5 := hx4
          refine ⟨D.set a true, ⟨nxtC C a, l ++ [(a : Int)], x2, gr2, f, agDO, hw, by omega, hsa, by simpa using hDl, by rw [List.length_append, List.length_singleton]; omega, fun h => by simp at h, fun _ => hk0, by rw [hx5.get _ (by omega)]; exact q7, hO3.ext hx5, .inr (by omega), fun b hb hne => by rw [hx5.get b (by omega)]; exact q8 b hb hne, by first | (have := hx5.size; omega) | (simp only [nx]; omega)⟩, by omega⟩
        · rw [hda] at hget2
          unfold walk at hw
          rw [if_pos hda] at hw
          by_cases hl0 : l = []
          · subst hl0
            obtain ⟨rfl, rfl⟩ := hnil rfl
            rw [if_pos hda] at hst
            obtain ⟨xp, xc, rfl⟩ := hOx.shape
            have hx0 : (ints ([] : List Int)).length = 0 := rfl
            rw [hx0] at *
            repeat' first | refine rnDO ?_ | with_reducible refine And.intro (fun hc => ?_) (fun hc => ?_) | fail
            refine ⟨⟨a + 1, w, g, agDO, by omega, by rw [hst]; exact q1, by rw [hst]; exact hO.keep q3 (fun b h1 h2 => q4 b (by omega) (by omega)) (.inr fun h => q4 g h k7) (by omega) (Nat.le_refl _), k2, by rw [hst]; exact k3, ⟨by omega, fun b hb => by rw [q4 b (by omega) (by omega)]; exact hx.get b hb⟩, q5, qx5, by omega, k7⟩, ?_⟩
            all_goals first | exact ivDO | refine smDO ?_ | skip
          · have hll : 0 < l.length := List.length_pos_iff.2 hl0
            rw [if_neg (by rw [hnn hl0]; simp)] at hst
            have q2r := q2.resolve_left (hOx.nn (by simpa [ints] using hl0))
            obtain ⟨rfl, o1, o2⟩ := hOx.at (by rw [ints_len]; exact hll)
            rw [ints_len] at *
            have hO2 : OLL (H.size + 1 + 1 + 1) H1.size H2 w g R0 := hO.keep q3 (fun b h1 h2 => q4 b (by omega) (by omega)) (.inr fun h => q4 g h k7) (Nat.le_refl _) (by omega)
            repeat' first | refine rnDO ?_ | with_reducible refine And.intro (fun hc => ?_) (fun hc => ?_) | fail
            refine OLL.append (z := 24) apU ⟨by decide, by decide, rfl, rfl⟩ (hO2.keep (H' := H2.push (.cells [.slice (some ⟨gr, 0, none⟩) l.length 0] 1 false)) (hi' := H1.size) (by simp only [nx]; omega) (fun b h1 h2 => get_push_lt (by omega)) (.inr fun h => get_push_lt h) (Nat.le_refl _) (by simp only [nx]; omega)) (b := gr) (row := l) (by exact ivDO) (fun h => by have := hO2.lt h; omega) rfl q2r (by omega) (by simp only [nx]; omega) (fun h => by have := hO.lt h; omega) (by rw [get_push_lt (by omega)]; exact o2) (by omega) ?_
            rintro w2 g2 H3 hO3 r1 r2 r3
            simp only [nx] at r1 r2 r3 hO3
            have hfin : (regs (nxtC C) M (k + 1)).2 = R0 ++ [l] := by rw [hst, ← hw]
            have hfin1 : (regs (nxtC C) M (k + 1)).1 = D := by rw [hst, ← hw]
            rw [← hfin] at hO3
            have hne1 : ∀ b, b < H.size + 1 + 1 + 1 → R0 ≠ [] → b ≠ g := fun b hb h => by have := k3 h; omega
            repeat' first | refine rnDO ?_ | with_reducible refine And.intro (fun hc => ?_) (fun hc => ?_) | fail
            refine ⟨⟨k + 1, w2, g2, agDO, by omega, by rw [hfin1, r3 _ (by omega) (hne1 _ (by omega)), get_push_lt (by omega)]; exact q1, hO3.keep (Nat.le_refl _) (fun _ _ _ => rfl) (.inr fun _ => rfl) r2 (Nat.le_refl _), .inr (by omega), fun _ => by omega, ⟨by omega, fun b hb => by rw [r3 b (by omega) (hne1 _ (by omega)), get_push_lt (by omega), q4 b (by omega) (by omega)]; exact hx.get b hb⟩, by rw [r3 _ (by omega) (hne1 _ (by omega)), get_push_lt (by omega)]; exact q5, by rw [r3 _ (by omega) (hne1 _ (by omega)), get_push_lt (by omega)]; exact qx5, by omega, by omega⟩, ?_⟩
            all_goals first | exact ivDO | refine smDO ?_ | skip
    · obtain rfl : k = M := by omega
      repeat' first | refine rnDO ?_ | with_reducible refine And.intro (fun hc => ?_) (fun hc => ?_) | fail
      exact hQ.out _ _ ⟨hO.own (by omega) k2, hx⟩
end Go.Proofs.Ytpbbfephfmdgmaa.Rai
