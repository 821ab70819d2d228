/- A part of the walk: what functions of the program do, over an abstract heap. -/
import Derived.Test.YtpbbfephfmdgmaaDL
namespace Go.Proofs.Ytpbbfephfmdgmaa.Rai
open Go TP
set_option linter.unusedVariables false
set_option linter.unusedSimpArgs false
set_option maxRecDepth 20000
theorem tfDM : (Try.prog.underlying 4 = some .bool) ∧ (Try.prog.underlying 27 = some (.slice 54)) ∧ (el Try.prog 27 = some (none, 5)) ∧ (Try.prog.underlying 65 = some (.slice 2)) ∧ (el Try.prog 65 = some (none, 1)) ∧ (tk Try.prog 2 = some none) ∧ (tk Try.prog 27 = some none) ∧ (tk Try.prog 29 = some (some 2)) ∧ (tk Try.prog 54 = some (some 5)) ∧ (cz Try.prog 2 = some 1) ∧ (bz Try.prog 2 = some 8) ∧ (cz Try.prog 54 = some 5) ∧ (bz Try.prog 54 = some 40) ∧ (zr Try.prog 2 = some (.int .i64 0)) ∧ (zr Try.prog 54 = some (.agg #[.int .i64 0, .int .i64 0, .int .i64 0, .int .i64 0, .int .i64 0])) ∧ (fo Try.prog 29 0 = some (0, none)) := by
  refine ⟨?_, ?_, ?_, ?_, ?_, ?_, ?_, ?_, ?_, ?_, ?_, ?_, ?_, ?_, ?_, ?_⟩ <;> kernel_rfl
theorem rnDM {a b : Prop} (hb : b) (h : Later b → a := by
  intro hb
  first
  | ((with_reducible first | refine AOps.nil ?_ | refine athen_n ?_ | refine athen_r ?_ | refine athen_e ?_ | refine ablock_n ?_ | refine ablock_r ?_ | refine ablock_s ?_ | refine AWp.seq' ?_ | refine AWp.block ?_ | refine AWp.skip ?_ | refine AWp.exit ?_ | refine AWp.ret ?_ | refine AWp.region ?_ | (refine ablock_e ?_ ?_; focus rfl)); repeat (with_reducible first | refine AOps.nil ?_ | refine athen_n ?_ | refine athen_r ?_ | refine athen_e ?_ | refine ablock_n ?_ | refine ablock_r ?_ | refine ablock_s ?_ | refine AWp.seq' ?_ | refine AWp.block ?_ | refine AWp.skip ?_ | refine AWp.exit ?_ | refine AWp.ret ?_ | refine AWp.region ?_ | (refine ablock_e ?_ ?_; focus rfl)))
  | (refine AOps.guardu rfl rfl rfl ?_ ?_; focus (simp (disch := (first | omega | (simp only [nx]; first | done | omega))) only [Value.bool.injEq, Bool.and_true, Bool.true_and, Bool.and_false, Bool.false_and, beq_self_eq_true, bne, Bool.not_true, Bool.not_false, sx, nx, dx, ↓reduceIte, reduceCtorEq, Nat.reduceEqDiff, ne_eq, not_false_eq_true, *]; done))
  | ((first | refine AOps.cons2 rfl rfl fun K hK => ?_ | refine AWp.cond rfl fun X Y hX hY => ?_ | refine AOps.guard rfl rfl rfl fun X Y hX hY => ?_ | refine aret_r ?_ | refine aret_n ?_); simp (disch := (first | omega | (simp only [nx]; first | done | omega))) only [acond_bool, aresK, retv, xxq, tfDM, sliceK, bnd, copyK, clearK, makeSliceK, buildSliceK, buildK, lookupK, mapPutK, mapOf, convK, allocK, indexK, partK, xxa, xxb, xxc, bne, Int.reduceEq, Int.reduceBEq, Int.reduceNe, Int.reduceBNe, Int.reduceLE, Int.reduceGT, Int.reduceGE, Int.reduceNeg, ↓reduceIte, reduceCtorEq, Nat.reduceEqDiff, Nat.reduceAdd, Nat.reduceMul, Nat.reduceSub, Nat.reduceLT, Int.reduceAdd, Int.reduceSub, Int.reduceMul, Int.reduceLT, Int.reduceToNat, ne_eq, *]; (repeat first | ((with_reducible refine And.intro (fun hc => ?_) (fun hc => absurd hc (by omega))); clear hc) | ((with_reducible refine And.intro (fun hc => absurd hc (by omega)) (fun hc => ?_)); clear hc) | ((with_reducible refine And.intro ?_ ?_); focus ((first | omega | assumption | exact cok _ rfl | exact one_ints _ | exact one_map fun _ => rfl | ((repeat refine one_cons (by first | rfl | assumption) ?_); exact one_nil) | rfl | decide | (intro u hu; cases hu)); done)) | (with_reducible refine (fun hc => ?_ : _ → _); clear hc)); (first | refine hK.out _ _ ?_ | refine ACalls.hk hK ?_ | refine appendK.hk hK ?_ | refine (fun (q : _ ∧ _) => And.intro (hK.out _ _ q.1) (hK.out _ _ q.2)) ?_ | refine hX.out ?_ | refine hY.out ?_ | refine (fun (q : (_ → _) ∧ (_ → _)) => And.intro (fun hc => hX.out (q.1 hc)) (fun hc => hY.out (q.2 hc))) ?_ | refine (fun (q : (_ → _) ∧ (_ → _)) => And.intro (fun hc => hY.out (q.1 hc)) (fun hc => hX.out (q.2 hc))) ?_ | skip))
  exact hb.out) : a := h ⟨hb⟩
theorem rdDM {a b : Prop} (hb : b) (h : Later b → a := by
  intro hb
  first
  | with_reducible refine APl.nil ?_
  | ((first | refine APl.pure2 rfl rfl rfl rfl fun Kx hKx => ?_ | refine APl.load rfl rfl rfl fun Kx hKx => ?_ | refine APl.slice rfl rfl rfl fun Kx hKx => ?_ | refine APl.act2 rfl rfl rfl rfl fun Kx hKx => ?_); simp (disch := (first | omega | (simp only [nx]; first | done | omega))) only [heldIn_iff, List.zipIdx_cons, List.zipIdx_nil, List.map_cons, List.map_nil, xxq, tfDM, sliceK, bnd, copyK, clearK, makeSliceK, buildSliceK, buildK, lookupK, mapPutK, mapOf, convK, allocK, indexK, partK, xxa, xxb, xxc, bne, Int.reduceEq, Int.reduceBEq, Int.reduceNe, Int.reduceBNe, Int.reduceLE, Int.reduceGT, Int.reduceGE, Int.reduceNeg, ↓reduceIte, reduceCtorEq, Nat.reduceEqDiff, Nat.reduceAdd, Nat.reduceMul, Nat.reduceSub, Nat.reduceLT, Int.reduceAdd, Int.reduceSub, Int.reduceMul, Int.reduceLT, Int.reduceToNat, ne_eq, *]; (repeat first | ((with_reducible refine And.intro (fun hc => ?_) (fun hc => absurd hc (by omega))); clear hc) | ((with_reducible refine And.intro (fun hc => absurd hc (by omega)) (fun hc => ?_)); clear hc) | ((with_reducible refine And.intro ?_ ?_); focus ((first | omega | assumption | exact cok _ rfl | exact one_ints _ | exact one_map fun _ => rfl | ((repeat refine one_cons (by first | rfl | assumption) ?_); exact one_nil) | rfl | decide | (intro u hu; cases hu)); done)) | (with_reducible refine (fun hc => ?_ : _ → _); clear hc)); (first | refine hKx.out _ ?_ | refine hKx.out _ _ ?_ | refine ACalls.hkx hKx ?_ | refine (fun (q : _ ∧ _) => And.intro (hKx.out _ q.1) (hKx.out _ q.2)) ?_ | refine (fun (q : (_ → _) ∧ _) => And.intro (fun hc => hKx.out _ (q.1 hc)) (hKx.out _ q.2)) ?_ | (refine hKx.out _ _ ?_ ?_; focus (simp (disch := (first | omega | (simp only [nx]; first | done | omega))) only [heldIn_iff, List.zipIdx_cons, List.zipIdx_nil, List.map_cons, List.map_nil, xxq, tfDM, sliceK, bnd, copyK, clearK, makeSliceK, buildSliceK, buildK, lookupK, mapPutK, mapOf, convK, allocK, indexK, partK, xxa, xxb, xxc, bne, Int.reduceEq, Int.reduceBEq, Int.reduceNe, Int.reduceBNe, Int.reduceLE, Int.reduceGT, Int.reduceGE, Int.reduceNeg, ↓reduceIte, reduceCtorEq, Nat.reduceEqDiff, Nat.reduceAdd, Nat.reduceMul, Nat.reduceSub, Nat.reduceLT, Int.reduceAdd, Int.reduceSub, Int.reduceMul, Int.reduceLT, Int.reduceToNat, ne_eq, *]; first | done | trivial))))
  exact hb.out) : a := h ⟨hb⟩
theorem hlDM {p b : Prop} (hb : b) (h : p := by simp (disch := (first | omega | (simp only [nx]; first | done | omega))) only [heldIn_iff, List.zipIdx_cons, List.zipIdx_nil, List.map_cons, List.map_nil, xxq, tfDM, sliceK, bnd, copyK, clearK, makeSliceK, buildSliceK, buildK, lookupK, mapPutK, mapOf, convK, allocK, indexK, partK, xxa, xxb, xxc, bne, Int.reduceEq, Int.reduceBEq, Int.reduceNe, Int.reduceBNe, Int.reduceLE, Int.reduceGT, Int.reduceGE, Int.reduceNeg, ↓reduceIte, reduceCtorEq, Nat.reduceEqDiff, Nat.reduceAdd, Nat.reduceMul, Nat.reduceSub, Nat.reduceLT, Int.reduceAdd, Int.reduceSub, Int.reduceMul, Int.reduceLT, Int.reduceToNat, ne_eq, *]; first | done | trivial) : p ∧ b := ⟨h, hb⟩
theorem ivDM {p : Prop} (h : p := by first | omega | ((repeat first | exact Ext.refl _ | assumption | refine Ext.push ?_ _ | refine Ext.set ?_ _ (by first | omega | (simp only [nx, *]; omega)) | (apply Ext.up; focus (assumption; done))); done) | (simp (disch := (first | omega | (simp only [nx]; first | done | omega))) only [xxq, xxa, xxb, xxc, bne, Int.reduceEq, Int.reduceBEq, Int.reduceNe, Int.reduceBNe, Int.reduceLE, Int.reduceGT, Int.reduceGE, Int.reduceNeg, ↓reduceIte, reduceCtorEq, Nat.reduceEqDiff, Nat.reduceAdd, Nat.reduceMul, Nat.reduceSub, Nat.reduceLT, Int.reduceAdd, Int.reduceSub, Int.reduceMul, Int.reduceLT, Int.reduceToNat, ne_eq, *, intV_int]; first | done | omega | rfl | exact congrArg (Value.int .i64) (by omega) | ((repeat first | exact Ext.refl _ | assumption | refine Ext.push ?_ _ | refine Ext.set ?_ _ (by first | omega | (simp only [nx, *]; omega)) | (apply Ext.up; focus (assumption; done))); done)) | rfl) : p := h
theorem smDM {a b : Prop} (hb : b) (h : Later b → a := by intro hb; simp (disch := (first | omega | (simp only [nx]; first | done | omega))) only [xxq, xxa, xxb, xxc, bne, Int.reduceEq, Int.reduceBEq, Int.reduceNe, Int.reduceBNe, Int.reduceLE, Int.reduceGT, Int.reduceGE, Int.reduceNeg, ↓reduceIte, reduceCtorEq, Nat.reduceEqDiff, Nat.reduceAdd, Nat.reduceMul, Nat.reduceSub, Nat.reduceLT, Int.reduceAdd, Int.reduceSub, Int.reduceMul, Int.reduceLT, Int.reduceToNat, ne_eq, *, intV_int]; exact hb.out) : a := h ⟨hb⟩
theorem gtDM {A F : Fr} {t : Nat} {v : Value} (h : Ag [] A F) (e : F t = v := by simp (disch := (first | omega | (simp only [nx]; first | done | omega))) only [xxq, xxa, xxb, xxc, bne, Int.reduceEq, Int.reduceBEq, Int.reduceNe, Int.reduceBNe, Int.reduceLE, Int.reduceGT, Int.reduceGE, Int.reduceNeg, ↓reduceIte, reduceCtorEq, Nat.reduceEqDiff, Nat.reduceAdd, Nat.reduceMul, Nat.reduceSub, Nat.reduceLT, Int.reduceAdd, Int.reduceSub, Int.reduceMul, Int.reduceLT, Int.reduceToNat, ne_eq, *, intV_int]; exact rfl) : A t = v := (h.h t rfl).trans e
theorem agDM {D : List Nat} {A F : Fr} (h : Ag D A F := by
  repeat (with_reducible first | exact Ag.refl _ _ | refine Ag.nop ?_ | refine Ag.dead rfl ?_ | (refine Ag.live ?_ ?_; focus exact ivDM) | refine Ag.dr rfl ?_ | (refine Ag.lr ?_ ?_; focus exact ivDM) | refine Ag.up (by assumption) rfl ?_)) : Ag D A F := h
theorem sdDM {p : Prop} (h : p := by first | omega | assumption | (simp (disch := (first | omega | (simp only [nx]; first | done | omega))) only [xxq, tfDM, sliceK, bnd, copyK, clearK, makeSliceK, buildSliceK, buildK, lookupK, mapPutK, mapOf, convK, allocK, indexK, partK, xxa, xxb, xxc, bne, Int.reduceEq, Int.reduceBEq, Int.reduceNe, Int.reduceBNe, Int.reduceLE, Int.reduceGT, Int.reduceGE, Int.reduceNeg, ↓reduceIte, reduceCtorEq, Nat.reduceEqDiff, Nat.reduceAdd, Nat.reduceMul, Nat.reduceSub, Nat.reduceLT, Int.reduceAdd, Int.reduceSub, Int.reduceMul, Int.reduceLT, Int.reduceToNat, ne_eq, *]; first | done | omega | rfl)) : p := h
/-- The crossing at which an arc begins (or ends). -/
def crF (C : List Cr) (a : Nat) (b : Bool) : Nat := (fnd C a b (4 * C.length)).getD 0 / 4
def prt (C : List Cr) : Nat → List Int
  | 0 => cntL C.length
  | k + 1 => unionL (prt C k) (crF C k false) (crF C k true)
def jrt (C : List Cr) : Nat → List Int
  | 0 => cntL C.length
  | k + 1 => joinL (jrt C k) (crF C k true) (crF C k false)
theorem crF_lt {C : List Cr} (h : Cnt C) {a : Nat} {b : Bool} (ha : a < 2 * C.length) : crF C a b < C.length := by
  obtain ⟨j, h1, h2, _⟩ := cnt_fnd h a b ha
  unfold crF; rw [h1, Option.getD_some]; omega
theorem joinL_comm (l : List Int) (i k : Nat) : joinL l i k = joinL l k i := by unfold joinL; rw [Int.max_comm, Int.min_comm]
theorem mk_prt {C : List Cr} (h : Cnt C) : ∀ k, k ≤ 2 * C.length → Mk C.length (prt C k) (jrt C k)
  | 0, _ => mk_cnt _
  | k + 1, hk => by
    unfold prt jrt
    rw [joinL_comm]
    exact mk_join (mk_prt h k (by omega)) _ _ (crF_lt h (by omega)) (crF_lt h (by omega))
theorem prt_len (C : List Cr) (k : Nat) : (prt C k).length = C.length := by
  induction k with
  | zero => exact cntL_len _
  | succ k ih => unfold prt; rw [unionL_len, ih]
theorem jrt_len (C : List Cr) (k : Nat) : (jrt C k).length = C.length := by
  induction k with
  | zero => exact cntL_len _
  | succ k ih => unfold jrt; rw [joinL_len, ih]
/-- How many parts. -/
def partN (C : List Cr) : Nat := rank (jrt C (2 * C.length)) C.length
theorem partN_is {C : List Cr} (h : Cnt C) : classN (numL (prt C (2 * C.length))) = partN C := by
  obtain ⟨h1, h2, h3⟩ := mk_prt h (2 * C.length) (Nat.le_refl _)
  have := (classes_same h1 h2).2
  rw [jrt_len] at this
  exact this
theorem partN_le (C : List Cr) : partN C ≤ C.length := by
  unfold partN rank roots
  rw [List.length_map]
  have := List.length_filter_le (fun j => decide ((jrt C (2 * C.length)).getD j 0 = (j : Int))) (List.range C.length)
  rw [List.length_range] at this
  exact this
theorem place_at {C : List Cr} (h : Cnt C) {a : Nat} (b : Bool) (ha : a < 2 * C.length) : ∃ j, fnd C a b (4 * C.length) = some j ∧ crF C a b = j / 4 := by
  obtain ⟨j, h1, _⟩ := cnt_fnd h a b ha
  exact ⟨j, h1, by unfold crF; rw [h1]; rfl⟩
theorem ints_get0 {l : List Int} {i : Nat} (h : i < l.length) : (ints l)[i]? = some (I (l.getD i 0)) := ints_get h
set_option maxHeartbeats 4000000 in
theorem l25Parts_c {H : Heap} {v : Value} {C : List Cr} (z : Int) (hC : RdC H v C) (hn : C.length ≤ 10) (hV : Cnt C) : ACalls Try.prog 67 [.agg #[v, I z]] H fun u H' => (∃ g, OL H' u g (ints (jrt C (2 * C.length)))) ∧ Ext H H' := by
  have hC1 := fun {H' : Heap} (h : Ext H H') => hC.ext h
  obtain ⟨p, kk, rfl, hp, hh⟩ := hC
  clear hh
  have hcl := cntL_len
  refine ACalls.body Try.func67 rfl Try.ntmps67 (rs := [.tmp 2]) rfl (by simp) rfl fun Q hQ A hA => ?_
  have a0 := hA 0 _ _ rfl
  clear hA
  repeat' first | refine rnDM ?_ | with_reducible refine And.intro (fun hc => ?_) (fun hc => ?_) | fail
  refine AWp.cut (fun Ac hAc => ?_)
  have c1 := gtDM (t := 1) hAc
  have c3 := gtDM (t := 3) hAc
  have c4 := gtDM (t := 4) hAc
  clear a0
  refine AWp.loop (fun A' H' => ∃ (k : Nat) (x : Value) (g : Nat), Ag [14, 15, 16, 17, 18, 19, 20, 21, 22, 23, 24] A' (put (put Ac (some 3) (x)) (some 4) (I k)) ∧ k ≤ C.length ∧ OL H' x g (ints (cntL k)) ∧ H.size + 1 ≤ g ∧ Ext H H' ∧ H'.get H.size = .cells [.slice p C.length kk, I z] 1 false ∧ H.size < H'.size) (fun A' _ => C.length - (intV (A' 4)).toNat) ?_ ?_
  · refine ⟨0, _, H.size + 1, agDM, by omega, .inr ⟨1, rfl, by simp only [nx]; omega, by exact ivDM, .inr ⟨rfl, rfl⟩⟩, by omega, by exact ex1, by exact ivDM, by simp only [nx]; omega⟩
  · rintro A1 H1 ⟨k, x, g, hA, hk, hO, hg, hx, hbx, hxz⟩
    have d1 := hA.h 1 rfl
    have d3 := hA.h 3 rfl
    have d4 := hA.h 4 rfl
    have hxs := hx.size
    by_cases hlt : k < C.length
    · have hkl := hcl k
      have hks := cntL_succ k
      repeat' first | refine rnDM ?_ | with_reducible refine And.intro (fun hc => ?_) (fun hc => ?_) | fail
      refine OL.append (z := 8) apT ⟨by decide, by decide, rfl, rfl⟩ (hO.keep (H' := H1.push (.cells [I k] 1 false)) (by simp only [nx]; omega) (.inr fun h => get_push_lt h)) (new := [I k]) (by exact ivDM) rfl (by omega) (fun h => by have := hO.lt h; omega) (one_cons rfl one_nil) (by rw [ints_len]; omega) ?_
      rintro x2 g2 H3 hO3 r1 r2 r3
      simp only [nx] at r1 r2 r3
      rw [show [I (k : Int)] = ints [(k : Int)] from rfl, app_ints, ← hks] at hO3
      have hx3 : Ext H H3 := ⟨by omega, fun b hb => by rw [r3 b (by omega) (fun _ => by omega), get_push_lt (by omega)]; exact hx.get b hb⟩
      have hb3 : H3.get H.size = .cells [.slice p C.length kk, I z] 1 false := by rw [r3 _ (by omega) (fun _ => by omega), get_push_lt hxz]; exact hbx
      repeat' first | refine rnDM ?_ | with_reducible refine And.intro (fun hc => ?_) (fun hc => ?_) | fail
      refine ⟨⟨k + 1, x2, g2, agDM, by omega, hO3, by omega, hx3, hb3, by omega⟩, ?_⟩
      all_goals first | exact ivDM | refine smDM ?_ | skip
    · obtain rfl : k = C.length := by omega
      repeat' first | refine rnDM ?_ | with_reducible refine And.intro (fun hc => ?_) (fun hc => ?_) | fail
      refine AWp.cut (fun Ae hAe => ?_)
      have e1 := gtDM (t := 1) hAe
      have e3 := gtDM (t := 3) hAe
      have e5 := gtDM (t := 5) hAe
      refine AWp.loop (fun A' H' => ∃ (a : Nat), Ag [6, 7, 8, 9, 10, 11, 12, 25, 26, 27, 28, 29, 30, 31, 32, 33, 34, 35, 36, 37, 38, 39, 40, 41, 42, 43, 44, 45, 46, 47, 48, 49, 50, 51, 52, 53, 54, 55, 56, 57, 58, 59, 60, 61, 62, 63, 64, 65, 66, 67, 68, 69, 70, 71, 72] A' (put Ae (some 5) (I a)) ∧ a ≤ 2 * C.length ∧ OL H' x g (ints (jrt C a)) ∧ H.size + 1 ≤ g ∧ Ext H H' ∧ H'.get H.size = .cells [.slice p C.length kk, I z] 1 false ∧ H.size < H'.size) (fun A' _ => 2 * C.length - (intV (A' 5)).toNat) ?_ ?_
      · exact ⟨0, agDM, by omega, hO, hg, hx, hbx, hxz⟩
      · rintro A2 H2 ⟨a, hA2, ha, hO2, hg2, hx2, hbx2, hxz2⟩
        have f1 := hA2.h 1 rfl
        have f3 := hA2.h 3 rfl
        have f5 := hA2.h 5 rfl
        have hxs2 := hx2.size
        by_cases hal : a < 2 * C.length
        · obtain ⟨j1, hj1, hc1⟩ := place_at hV true hal
          obtain ⟨j2, hj2, hc2⟩ := place_at hV false hal
          have hl1 := crF_lt hV (b := true) hal
          have hl2 := crF_lt hV (b := false) hal
          have hjl := jrt_len C a
          have hstep : jrt C (a + 1) = joinL (jrt C a) (crF C a true) (crF C a false) := rfl
          obtain ⟨rfl, o1, o2⟩ := hO2.at (by rw [ints_len]; omega)
          have hil : (ints (jrt C a)).length = C.length := by rw [ints_len, hjl]
          rw [hc1] at hl1 hstep
          rw [hc2] at hl2 hstep
          have hp1 : placeV (some j1) = .tuple #[I (j1 / 4 : Nat), I (j1 % 4 : Nat)] := rfl
          have hp2 : placeV (some j2) = .tuple #[I (j2 / 4 : Nat), I (j2 % 4 : Nat)] := rfl
          generalize j1 / 4 = i1 at *
          generalize j2 / 4 = i2 at *
          generalize jrt C a = m at *
          have hm1 := ints_get0 (l := m) (i := i1) (by omega)
          have hm2 := ints_get0 (l := m) (i := i2) (by omega)
          clear hO hO2
          repeat' first | refine rnDM ?_ | with_reducible refine And.intro (fun hc => ?_) (fun hc => ?_) | fail
          refine (l25Place_c z (hC1 hx2) (by omega) a true).mono ?_
          rintro u H3 ⟨rfl, hx3⟩
          rw [hj1, hp1]
          have hx3g := hx3.get; have hx3s := hx3.size; (try simp only [nx] at hx3s)
          repeat' first | refine rnDM ?_ | with_reducible refine And.intro (fun hc => ?_) (fun hc => ?_) | fail
          refine (l25Place_c z (hC1 (hx2.trans hx3)) (by omega) a false).mono ?_
          rintro u H4 ⟨rfl, hx4⟩
          rw [hj2, hp2]
          have hx4g := hx4.get; have hx4s := hx4.size; (try simp only [nx] at hx4s)
          repeat' first | refine rnDM ?_ | with_reducible refine And.intro (fun hc => ?_) (fun hc => ?_) | fail
          refine AWp.planned [0,1,2,3,4,5,6,7,8,9] mixed (by kernel_rfl) ?_
          repeat' first | refine rdDM ?_ | with_reducible refine And.intro (fun hc => ?_) ?_ | with_reducible refine And.intro ?_ ?_ | fail
          repeat' first | refine rnDM ?_ | with_reducible refine And.intro (fun hc => ?_) (fun hc => ?_) | fail
          have o3 : H4.get g = .cells (ints m) 1 false := by exact ivDM
          have hx5 : Ext H H4 := (hx2.trans hx3).trans hx4
          have hb5 : H4.get H.size = .cells [.slice p C.length kk, I z] 1 false := by exact ivDM
          have hg5 : g < H4.size := by omega
          have hxz5 : H.size < H4.size := by omega
          clear hx3g hx4g hm1 hm2 hx3 hx4
          refine AWp.cut (fun Aq hAq => ?_)
          have q1 := gtDM (t := 1) hAq
          have q3 := gtDM (t := 3) hAq
          have q5 := gtDM (t := 5) hAq
          have q10 := gtDM (t := 10) hAq
          have q11 := gtDM (t := 11) hAq
          have q12 := gtDM (t := 12) hAq
          refine AWp.loop (fun A' H' => ∃ (k : Nat), Ag [53, 54, 55, 56, 57, 58, 59, 60, 61, 62, 63, 64, 65, 66, 67, 68, 69, 70, 71, 72] A' (put Aq (some 12) (I k)) ∧ k ≤ C.length ∧ H'.get g = .cells (ints (turnTo (max (m.getD i1 0) (m.getD i2 0)) (min (m.getD i1 0) (m.getD i2 0)) m k)) 1 false ∧ Ext H H' ∧ H'.get H.size = .cells [.slice p C.length kk, I z] 1 false ∧ H.size < H'.size ∧ g < H'.size) (fun A' _ => C.length - (intV (A' 12)).toNat) ?_ ?_
          · exact ⟨0, agDM, by omega, by rw [show turnTo (max (m.getD i1 0) (m.getD i2 0)) (min (m.getD i1 0) (m.getD i2 0)) m 0 = m by simp [turnTo, turnL]]; exact o3, hx5, hb5, hxz5, hg5⟩
          · rintro A3 H6 ⟨k, hA3, hk, w1, w2, w3, w4, w5⟩
            have s1 := hA3.h 1 rfl
            have s3 := hA3.h 3 rfl
            have s5 := hA3.h 5 rfl
            have s10 := hA3.h 10 rfl
            have s11 := hA3.h 11 rfl
            have s12 := hA3.h 12 rfl
            have tl := turnTo_len (max (m.getD i1 0) (m.getD i2 0)) (min (m.getD i1 0) (m.getD i2 0)) m k
            have til := ints_len (turnTo (max (m.getD i1 0) (m.getD i2 0)) (min (m.getD i1 0) (m.getD i2 0)) m k)
            by_cases hlt : k < C.length
            · have hget := turnTo_get (max (m.getD i1 0) (m.getD i2 0)) (min (m.getD i1 0) (m.getD i2 0)) m k (by omega)
              have gg := ints_get (l := turnTo (max (m.getD i1 0) (m.getD i2 0)) (min (m.getD i1 0) (m.getD i2 0)) m k) (i := k) (by omega)
              rw [hget] at gg
              have hmx : (if m.getD i2 0 > m.getD i1 0 then m.getD i2 0 else m.getD i1 0) = max (m.getD i1 0) (m.getD i2 0) := by split <;> omega
              have hmn : (if m.getD i2 0 < m.getD i1 0 then m.getD i2 0 else m.getD i1 0) = min (m.getD i1 0) (m.getD i2 0) := by split <;> omega
              by_cases hy : m.getD k 0 = max (m.getD i1 0) (m.getD i2 0)
              · have yes := turnTo_yes (max (m.getD i1 0) (m.getD i2 0)) (min (m.getD i1 0) (m.getD i2 0)) m k (by omega) hy
                have hyb : (m.getD k 0 == max (m.getD i1 0) (m.getD i2 0)) = true := by rw [beq_iff_eq]; exact hy
                clear hget hy
                generalize turnTo (max (m.getD i1 0) (m.getD i2 0)) (min (m.getD i1 0) (m.getD i2 0)) m k = mk at *
                generalize max (m.getD i1 0) (m.getD i2 0) = hi at *
                generalize min (m.getD i1 0) (m.getD i2 0) = lo at *
                generalize m.getD k 0 = y at *
                repeat' first | refine rnDM ?_ | with_reducible refine And.intro (fun hc => ?_) (fun hc => ?_) | fail
                refine ⟨⟨k + 1, agDM, by omega, ?_, ?_, ?_, ?_, ?_⟩, ?_⟩
                all_goals first | exact ivDM | (simp (disch := (first | omega | (simp only [nx]; first | done | omega))) only [xxq, xxa, xxb, xxc, bne, Int.reduceEq, Int.reduceBEq, Int.reduceNe, Int.reduceBNe, Int.reduceLE, Int.reduceGT, Int.reduceGE, Int.reduceNeg, ↓reduceIte, reduceCtorEq, Nat.reduceEqDiff, Nat.reduceAdd, Nat.reduceMul, Nat.reduceSub, Nat.reduceLT, Int.reduceAdd, Int.reduceSub, Int.reduceMul, Int.reduceLT, Int.reduceToNat, ne_eq, *, yes, intV_int]; first | done | omega | rfl | exact congrArg (Value.int .i64) (by omega) | exact ex1 | skip) | skip
              · have no := turnTo_no (max (m.getD i1 0) (m.getD i2 0)) (min (m.getD i1 0) (m.getD i2 0)) m k (by omega) hy
                have hyb : (m.getD k 0 == max (m.getD i1 0) (m.getD i2 0)) = false := by rw [beq_eq_false_iff_ne]; exact hy
                clear hget hy
                generalize turnTo (max (m.getD i1 0) (m.getD i2 0)) (min (m.getD i1 0) (m.getD i2 0)) m k = mk at *
                generalize max (m.getD i1 0) (m.getD i2 0) = hi at *
                generalize min (m.getD i1 0) (m.getD i2 0) = lo at *
                generalize m.getD k 0 = y at *
                repeat' first | refine rnDM ?_ | with_reducible refine And.intro (fun hc => ?_) (fun hc => ?_) | fail
                refine ⟨⟨k + 1, agDM, by omega, by rw [no]; exact w1, w2, w3, w4, w5⟩, ?_⟩
                all_goals first | exact ivDM | refine smDM ?_ | skip
            · obtain rfl : k = C.length := by omega
              have ta : turnTo (max (m.getD i1 0) (m.getD i2 0)) (min (m.getD i1 0) (m.getD i2 0)) m C.length = jrt C (a + 1) := by
                rw [hstep, ← hjl, turnTo_all]; rfl
              rw [ta] at w1
              have hln := jrt_len C (a + 1)
              repeat' first | refine rnDM ?_ | with_reducible refine And.intro (fun hc => ?_) (fun hc => ?_) | fail
              refine ⟨⟨a + 1, agDM, by omega, .inr ⟨0, by simp only [ints_len, hln, hjl], w5, w1, .inl ⟨rfl, fun h => by have := congrArg List.length h; rw [ints_len, hln, List.length_nil] at this; omega⟩⟩, hg2, w2, w3, w4⟩, ?_⟩
              all_goals first | exact ivDM | refine smDM ?_ | skip
        · obtain rfl : a = 2 * C.length := by omega
          repeat' first | refine rnDM ?_ | with_reducible refine And.intro (fun hc => ?_) (fun hc => ?_) | fail
          exact hQ.out _ _ ⟨⟨g, hO2⟩, hx2⟩
set_option maxHeartbeats 1000000 in
theorem l25PartCount_c {H : Heap} {v : Value} {C : List Cr} (z : Int) (hC : RdC H v C) (hn : C.length ≤ 10) (hV : Cnt C) : ACalls Try.prog 39 [.agg #[v, I z]] H fun u H' => u = I (partN C) ∧ Ext H H' := by
  have hC1 := fun {H' : Heap} (h : Ext H H') => hC.ext h
  have hone := hC.one
  refine ACalls.body Try.func39 rfl Try.ntmps39 (rs := [.tmp 2]) rfl (by simp) rfl fun Q hQ A hA => ?_
  have a0 := hA 0 _ _ rfl
  clear hA
  repeat' first | refine rnDM ?_ | (refine (l25Parts_c z (hC1 (by exact ex1)) hn hV).mono ?_; rintro u H1 ⟨⟨g, hO⟩, hx1⟩) | with_reducible refine And.intro (fun hc => ?_) (fun hc => ?_) | fail
  obtain ⟨x, c, rfl⟩ := hO.shape
  have hjl := jrt_len C (2 * C.length)
  have hil : (ints (jrt C (2 * C.length))).length = C.length := by rw [ints_len, hjl]
  rw [hil]
  have hx0 : Ext H H1 := hx1.pop
  repeat' first | refine rnDM ?_ | with_reducible refine And.intro (fun hc => ?_) (fun hc => ?_) | fail
  refine AWp.cut (fun Ac hAc => ?_)
  have c4 := gtDM (t := 4) hAc
  have c3 := gtDM (t := 3) hAc
  have c5 := gtDM (t := 5) hAc
  clear a0
  have hr0 : rank (jrt C (2 * C.length)) 0 = 0 := rfl
  refine AWp.loop (fun A' H' => ∃ (k : Nat), Ag [8, 9, 10, 11, 12, 13, 14, 15, 16, 17, 18, 19, 20, 21] A' (put (put Ac (some 3) (I (rank (jrt C (2 * C.length)) k))) (some 5) (I k)) ∧ k ≤ C.length ∧ H' = H1) (fun A' _ => C.length - (intV (A' 5)).toNat) ?_ ?_
  · exact ⟨0, agDM, by omega, rfl⟩
  · rintro A1 H1 ⟨k, hA, hk, rfl⟩
    have d3 := hA.h 3 rfl
    have d4 := hA.h 4 rfl
    have d5 := hA.h 5 rfl
    by_cases hlt : k < C.length
    · obtain ⟨e1, o1, o2⟩ := hO.at (by omega)
      rw [hil] at e1
      injection e1 with e1 e2 e3
      subst e1 e3
      have hgt := ints_get0 (l := jrt C (2 * C.length)) (i := k) (by omega)
      have hrk : rank (jrt C (2 * C.length)) (k + 1) = if (jrt C (2 * C.length)).getD k 0 = k then rank (jrt C (2 * C.length)) k + 1 else rank (jrt C (2 * C.length)) k := by
        unfold rank; rw [roots_succ]; split <;> simp
      have hrl : rank (jrt C (2 * C.length)) k ≤ 1000 := by
        unfold rank roots
        rw [List.length_map]
        have := List.length_filter_le (fun j => decide ((jrt C (2 * C.length)).getD j 0 = (j : Int))) (List.range k)
        rw [List.length_range] at this
        omega
      clear hO
      by_cases hy : (jrt C (2 * C.length)).getD k 0 = k
      · rw [if_pos hy] at hrk
        rw [hy] at hgt
        clear hy
        generalize jrt C (2 * C.length) = m at *
        generalize rank m k = rk at *
        repeat' first | refine rnDM ?_ | with_reducible refine And.intro (fun hc => ?_) (fun hc => ?_) | fail
        refine ⟨⟨k + 1, agDM, by omega, rfl⟩, ?_⟩
        all_goals first | exact ivDM | refine smDM ?_ | skip
      · rw [if_neg hy] at hrk
        have hyb : ((jrt C (2 * C.length)).getD k 0 == (k : Int)) = false := by rw [beq_eq_false_iff_ne]; exact hy
        clear hy
        generalize jrt C (2 * C.length) = m at *
        generalize m.getD k 0 = y at *
        repeat' first | refine rnDM ?_ | with_reducible refine And.intro (fun hc => ?_) (fun hc => ?_) | fail
        refine ⟨⟨k + 1, agDM, by omega, rfl⟩, ?_⟩
        all_goals first | exact ivDM | refine smDM ?_ | skip
    · obtain rfl : k = C.length := by omega
      repeat' first | refine rnDM ?_ | with_reducible refine And.intro (fun hc => ?_) (fun hc => ?_) | fail
      exact hQ.out _ _ ⟨rfl, hx0⟩
end Go.Proofs.Ytpbbfephfmdgmaa.Rai
