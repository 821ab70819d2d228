/- A part of the walk: what functions of the program do, over an abstract heap. -/
import Derived.Test.YtpbbfephfmdgmaaED
namespace Go.Proofs.Ytpbbfephfmdgmaa.Rai
open Go TP
set_option linter.unusedVariables false
set_option linter.unusedSimpArgs false
set_option maxRecDepth 20000
theorem tfEE : (Try.prog.underlying 27 = some (.slice 54)) ∧ (el Try.prog 27 = some (none, 5)) ∧ (Try.prog.underlying 37 = some (.slice 65)) ∧ (el Try.prog 37 = some (none, 1)) ∧ (Try.prog.underlying 58 = some (.slice 87)) ∧ (el Try.prog 58 = some (none, 2)) ∧ (Try.prog.underlying 65 = some (.slice 2)) ∧ (el Try.prog 65 = some (none, 1)) ∧ (tk Try.prog 2 = some none) ∧ (tk Try.prog 27 = some none) ∧ (tk Try.prog 29 = some (some 2)) ∧ (tk Try.prog 54 = some (some 5)) ∧ (tk Try.prog 58 = some none) ∧ (tk Try.prog 60 = some (some 2)) ∧ (tk Try.prog 65 = some none) ∧ (tk Try.prog 87 = some (some 2)) ∧ (cz Try.prog 2 = some 1) ∧ (bz Try.prog 2 = some 8) ∧ (cz Try.prog 54 = some 5) ∧ (bz Try.prog 54 = some 40) ∧ (cz Try.prog 65 = some 1) ∧ (bz Try.prog 65 = some 24) ∧ (cz Try.prog 87 = some 2) ∧ (bz Try.prog 87 = some 16) ∧ (zr Try.prog 2 = some (.int .i64 0)) ∧ (zr Try.prog 54 = some (.agg #[.int .i64 0, .int .i64 0, .int .i64 0, .int .i64 0, .int .i64 0])) ∧ (zr Try.prog 60 = some (.agg #[.slice none 0 0, .slice none 0 0])) ∧ (zr Try.prog 65 = some (.slice none 0 0)) ∧ (zr Try.prog 87 = some (.agg #[.int .i64 0, .int .i64 0])) ∧ (fo Try.prog 29 0 = some (0, none)) ∧ (fo Try.prog 54 0 = some (0, none)) ∧ (fo Try.prog 54 1 = some (1, none)) ∧ (fo Try.prog 54 4 = some (4, none)) ∧ (fo Try.prog 60 1 = some (1, none)) := by
  refine ⟨?_, ?_, ?_, ?_, ?_, ?_, ?_, ?_, ?_, ?_, ?_, ?_, ?_, ?_, ?_, ?_, ?_, ?_, ?_, ?_, ?_, ?_, ?_, ?_, ?_, ?_, ?_, ?_, ?_, ?_, ?_, ?_, ?_, ?_⟩ <;> kernel_rfl
theorem rnEE {a b : Prop} (hb : b) (h : Later b → a := by
  intro hb
  first
  | ((with_reducible first | refine AOps.nil ?_ | refine athen_n ?_ | refine athen_r ?_ | refine athen_e ?_ | refine ablock_n ?_ | refine ablock_r ?_ | refine ablock_s ?_ | refine AWp.seq' ?_ | refine AWp.block ?_ | refine AWp.skip ?_ | refine AWp.exit ?_ | refine AWp.ret ?_ | refine AWp.region ?_ | (refine ablock_e ?_ ?_; focus rfl)); repeat (with_reducible first | refine AOps.nil ?_ | refine athen_n ?_ | refine athen_r ?_ | refine athen_e ?_ | refine ablock_n ?_ | refine ablock_r ?_ | refine ablock_s ?_ | refine AWp.seq' ?_ | refine AWp.block ?_ | refine AWp.skip ?_ | refine AWp.exit ?_ | refine AWp.ret ?_ | refine AWp.region ?_ | (refine ablock_e ?_ ?_; focus rfl)))
  | (refine AOps.guardu rfl rfl rfl ?_ ?_; focus (simp (disch := (first | omega | (simp only [nx]; first | done | omega))) only [Value.bool.injEq, Bool.and_true, Bool.true_and, Bool.and_false, Bool.false_and, beq_self_eq_true, bne, Bool.not_true, Bool.not_false, sx, nx, dx, ↓reduceIte, reduceCtorEq, Nat.reduceEqDiff, ne_eq, not_false_eq_true, *]; done))
  | ((first | refine AOps.cons2 rfl rfl fun K hK => ?_ | refine AWp.cond rfl fun X Y hX hY => ?_ | refine AOps.guard rfl rfl rfl fun X Y hX hY => ?_ | refine aret_r ?_ | refine aret_n ?_); simp (disch := (first | omega | (simp only [nx]; first | done | omega))) only [acond_bool, aresK, retv, xxq, tfEE, sliceK, bnd, appendK, appsK, copyK, clearK, makeSliceK, buildSliceK, buildK, lookupK, mapPutK, mapOf, convK, allocK, indexK, partK, xxa, xxb, xxc, bne, Int.reduceEq, Int.reduceBEq, Int.reduceNe, Int.reduceBNe, Int.reduceLE, Int.reduceGT, Int.reduceGE, Int.reduceNeg, ↓reduceIte, reduceCtorEq, Nat.reduceEqDiff, Nat.reduceAdd, Nat.reduceMul, Nat.reduceSub, Nat.reduceLT, Int.reduceAdd, Int.reduceSub, Int.reduceMul, Int.reduceLT, Int.reduceToNat, ne_eq, *]; (repeat first | ((with_reducible refine And.intro (fun hc => ?_) (fun hc => absurd hc (by omega))); clear hc) | ((with_reducible refine And.intro (fun hc => absurd hc (by omega)) (fun hc => ?_)); clear hc) | ((with_reducible refine And.intro ?_ ?_); focus ((first | omega | assumption | exact cok _ rfl | exact one_ints _ | exact one_map fun _ => rfl | ((repeat refine one_cons (by first | rfl | assumption) ?_); exact one_nil) | rfl | decide | (intro u hu; cases hu)); done)) | (with_reducible refine (fun hc => ?_ : _ → _); clear hc)); (first | refine hK.out _ _ ?_ | refine ACalls.hk hK ?_ | refine appendK.hk hK ?_ | refine (fun (q : _ ∧ _) => And.intro (hK.out _ _ q.1) (hK.out _ _ q.2)) ?_ | refine hX.out ?_ | refine hY.out ?_ | refine (fun (q : (_ → _) ∧ (_ → _)) => And.intro (fun hc => hX.out (q.1 hc)) (fun hc => hY.out (q.2 hc))) ?_ | refine (fun (q : (_ → _) ∧ (_ → _)) => And.intro (fun hc => hY.out (q.1 hc)) (fun hc => hX.out (q.2 hc))) ?_ | skip))
  exact hb.out) : a := h ⟨hb⟩
theorem rdEE {a b : Prop} (hb : b) (h : Later b → a := by
  intro hb
  first
  | with_reducible refine APl.nil ?_
  | ((first | refine APl.pure2 rfl rfl rfl rfl fun Kx hKx => ?_ | refine APl.load rfl rfl rfl fun Kx hKx => ?_ | refine APl.slice rfl rfl rfl fun Kx hKx => ?_ | refine APl.act2 rfl rfl rfl rfl fun Kx hKx => ?_); simp (disch := (first | omega | (simp only [nx]; first | done | omega))) only [heldIn_iff, List.zipIdx_cons, List.zipIdx_nil, List.map_cons, List.map_nil, xxq, tfEE, sliceK, bnd, appendK, appsK, copyK, clearK, makeSliceK, buildSliceK, buildK, lookupK, mapPutK, mapOf, convK, allocK, indexK, partK, xxa, xxb, xxc, bne, Int.reduceEq, Int.reduceBEq, Int.reduceNe, Int.reduceBNe, Int.reduceLE, Int.reduceGT, Int.reduceGE, Int.reduceNeg, ↓reduceIte, reduceCtorEq, Nat.reduceEqDiff, Nat.reduceAdd, Nat.reduceMul, Nat.reduceSub, Nat.reduceLT, Int.reduceAdd, Int.reduceSub, Int.reduceMul, Int.reduceLT, Int.reduceToNat, ne_eq, *]; (repeat first | ((with_reducible refine And.intro (fun hc => ?_) (fun hc => absurd hc (by omega))); clear hc) | ((with_reducible refine And.intro (fun hc => absurd hc (by omega)) (fun hc => ?_)); clear hc) | ((with_reducible refine And.intro ?_ ?_); focus ((first | omega | assumption | exact cok _ rfl | exact one_ints _ | exact one_map fun _ => rfl | ((repeat refine one_cons (by first | rfl | assumption) ?_); exact one_nil) | rfl | decide | (intro u hu; cases hu)); done)) | (with_reducible refine (fun hc => ?_ : _ → _); clear hc)); (first | refine hKx.out _ ?_ | refine hKx.out _ _ ?_ | refine ACalls.hkx hKx ?_ | refine appendK.hkx hKx ?_ | refine (fun (q : _ ∧ _) => And.intro (hKx.out _ q.1) (hKx.out _ q.2)) ?_ | refine (fun (q : (_ → _) ∧ _) => And.intro (fun hc => hKx.out _ (q.1 hc)) (hKx.out _ q.2)) ?_ | (refine hKx.out _ _ ?_ ?_; focus (simp (disch := (first | omega | (simp only [nx]; first | done | omega))) only [heldIn_iff, List.zipIdx_cons, List.zipIdx_nil, List.map_cons, List.map_nil, xxq, tfEE, sliceK, bnd, appendK, appsK, copyK, clearK, makeSliceK, buildSliceK, buildK, lookupK, mapPutK, mapOf, convK, allocK, indexK, partK, xxa, xxb, xxc, bne, Int.reduceEq, Int.reduceBEq, Int.reduceNe, Int.reduceBNe, Int.reduceLE, Int.reduceGT, Int.reduceGE, Int.reduceNeg, ↓reduceIte, reduceCtorEq, Nat.reduceEqDiff, Nat.reduceAdd, Nat.reduceMul, Nat.reduceSub, Nat.reduceLT, Int.reduceAdd, Int.reduceSub, Int.reduceMul, Int.reduceLT, Int.reduceToNat, ne_eq, *]; first | done | trivial))))
  exact hb.out) : a := h ⟨hb⟩
theorem hlEE {p b : Prop} (hb : b) (h : p := by simp (disch := (first | omega | (simp only [nx]; first | done | omega))) only [heldIn_iff, List.zipIdx_cons, List.zipIdx_nil, List.map_cons, List.map_nil, xxq, tfEE, sliceK, bnd, appendK, appsK, copyK, clearK, makeSliceK, buildSliceK, buildK, lookupK, mapPutK, mapOf, convK, allocK, indexK, partK, xxa, xxb, xxc, bne, Int.reduceEq, Int.reduceBEq, Int.reduceNe, Int.reduceBNe, Int.reduceLE, Int.reduceGT, Int.reduceGE, Int.reduceNeg, ↓reduceIte, reduceCtorEq, Nat.reduceEqDiff, Nat.reduceAdd, Nat.reduceMul, Nat.reduceSub, Nat.reduceLT, Int.reduceAdd, Int.reduceSub, Int.reduceMul, Int.reduceLT, Int.reduceToNat, ne_eq, *]; first | done | trivial) : p ∧ b := ⟨h, hb⟩
theorem ivEE {p : Prop} (h : p := by first | omega | ((repeat first | exact Ext.refl _ | assumption | refine Ext.push ?_ _ | refine Ext.set ?_ _ (by first | omega | (simp only [nx, *]; omega)) | (apply Ext.up; focus (assumption; done))); done) | (simp (disch := (first | omega | (simp only [nx]; first | done | omega))) only [xxq, xxa, xxb, xxc, bne, Int.reduceEq, Int.reduceBEq, Int.reduceNe, Int.reduceBNe, Int.reduceLE, Int.reduceGT, Int.reduceGE, Int.reduceNeg, ↓reduceIte, reduceCtorEq, Nat.reduceEqDiff, Nat.reduceAdd, Nat.reduceMul, Nat.reduceSub, Nat.reduceLT, Int.reduceAdd, Int.reduceSub, Int.reduceMul, Int.reduceLT, Int.reduceToNat, ne_eq, *, intV_int]; first | done | omega | rfl | exact congrArg (Value.int .i64) (by omega) | ((repeat first | exact Ext.refl _ | assumption | refine Ext.push ?_ _ | refine Ext.set ?_ _ (by first | omega | (simp only [nx, *]; omega)) | (apply Ext.up; focus (assumption; done))); done)) | rfl) : p := h
theorem smEE {a b : Prop} (hb : b) (h : Later b → a := by intro hb; simp (disch := (first | omega | (simp only [nx]; first | done | omega))) only [xxq, xxa, xxb, xxc, bne, Int.reduceEq, Int.reduceBEq, Int.reduceNe, Int.reduceBNe, Int.reduceLE, Int.reduceGT, Int.reduceGE, Int.reduceNeg, ↓reduceIte, reduceCtorEq, Nat.reduceEqDiff, Nat.reduceAdd, Nat.reduceMul, Nat.reduceSub, Nat.reduceLT, Int.reduceAdd, Int.reduceSub, Int.reduceMul, Int.reduceLT, Int.reduceToNat, ne_eq, *, intV_int]; exact hb.out) : a := h ⟨hb⟩
theorem gtEE {A F : Fr} {t : Nat} {v : Value} (h : Ag [] A F) (e : F t = v := by simp (disch := (first | omega | (simp only [nx]; first | done | omega))) only [xxq, xxa, xxb, xxc, bne, Int.reduceEq, Int.reduceBEq, Int.reduceNe, Int.reduceBNe, Int.reduceLE, Int.reduceGT, Int.reduceGE, Int.reduceNeg, ↓reduceIte, reduceCtorEq, Nat.reduceEqDiff, Nat.reduceAdd, Nat.reduceMul, Nat.reduceSub, Nat.reduceLT, Int.reduceAdd, Int.reduceSub, Int.reduceMul, Int.reduceLT, Int.reduceToNat, ne_eq, *, intV_int]; exact rfl) : A t = v := (h.h t rfl).trans e
theorem agEE {D : List Nat} {A F : Fr} (h : Ag D A F := by
  repeat (with_reducible first | exact Ag.refl _ _ | refine Ag.nop ?_ | refine Ag.dead rfl ?_ | (refine Ag.live ?_ ?_; focus exact ivEE) | refine Ag.dr rfl ?_ | (refine Ag.lr ?_ ?_; focus exact ivEE) | refine Ag.up (by assumption) rfl ?_)) : Ag D A F := h
theorem sdEE {p : Prop} (h : p := by first | omega | assumption | (simp (disch := (first | omega | (simp only [nx]; first | done | omega))) only [xxq, tfEE, sliceK, bnd, appendK, appsK, copyK, clearK, makeSliceK, buildSliceK, buildK, lookupK, mapPutK, mapOf, convK, allocK, indexK, partK, xxa, xxb, xxc, bne, Int.reduceEq, Int.reduceBEq, Int.reduceNe, Int.reduceBNe, Int.reduceLE, Int.reduceGT, Int.reduceGE, Int.reduceNeg, ↓reduceIte, reduceCtorEq, Nat.reduceEqDiff, Nat.reduceAdd, Nat.reduceMul, Nat.reduceSub, Nat.reduceLT, Int.reduceAdd, Int.reduceSub, Int.reduceMul, Int.reduceLT, Int.reduceToNat, ne_eq, *]; first | done | omega | rfl)) : p := h
theorem own_iff {s : Nat → Nat} {N : Nat} (hs : ∀ x, x < N → s x < N) {a i : Nat} (ha : a < N) (hi : i < (regs s N N).2.length) : ((ownO N (regs s N N).2 (regs s N N).2.length).getD a 0 = (i : Int)) ↔ (a : Int) ∈ (regs s N N).2.getD i [] := by
  obtain ⟨h1, h2, h3, h4⟩ := regs_mem hs N (Nat.le_refl _)
  obtain ⟨j, hj, hm⟩ := (h2 a ha).1 (h4 a ha)
  have hr : ∀ i, i < (regs s N N).2.length → ∀ x ∈ (regs s N N).2.getD i [], 0 ≤ x := fun i hi x hx => by obtain ⟨b, rfl, _⟩ := h1 i hi x hx; omega
  rw [ownO_get hr h3 ha _ (Nat.le_refl _) j hj hm]
  constructor
  · intro e
    have : j = i := by omega
    subst this; exact hm
  · intro h; rw [h3 a j i hj hi hm h]
theorem arcAB {C : List Cr} (h : Cnt C) {k : Nat} (hk : k < C.length) : (∃ a : Nat, (C.getD k cr0).a = a ∧ a < 2 * C.length) ∧ ∃ b : Nat, (C.getD k cr0).b = b ∧ b < 2 * C.length := by
  have h1 := h.2 (4 * k) (by omega)
  have h2 := h.2 (4 * k + 1) (by omega)
  unfold ok1 eAt at h1 h2
  rw [show 4 * k / 4 = k by omega, show 4 * k % 4 = 0 by omega] at h1
  rw [show (4 * k + 1) / 4 = k by omega, show (4 * k + 1) % 4 = 1 by omega] at h2
  have a1 : 0 ≤ (C.getD k cr0).a := h1.1
  have a2 : (C.getD k cr0).a ≤ ((2 * C.length : Nat) : Int) - 1 := h1.2.1
  have b1 : 0 ≤ (C.getD k cr0).b := h2.1
  have b2 : (C.getD k cr0).b ≤ ((2 * C.length : Nat) : Int) - 1 := h2.2.1
  exact ⟨⟨(C.getD k cr0).a.toNat, by omega, by omega⟩, (C.getD k cr0).b.toNat, by omega, by omega⟩
set_option maxHeartbeats 8000000 in
theorem LinkingNumber_c {H : Heap} {v : Value} {C : List Cr} (z i j : Int) (hC : RdC H v C) (hS : C.length ≤ 1048576) : ACalls Try.prog 30 [.agg #[v, I z], I i, I j] H fun u H' => u = .tuple #[I (linkV C z i j).1, I (linkV C z i j).2] ∧ Ext H H' := by
  have hC1 := fun {H' : Heap} (h : Ext H H') => hC.ext h
  have hone := hC.one
  unfold linkV
  by_cases h : IsD C z
  · have hd : decide (IsD C z) = true := decide_eq_true h
    rw [if_pos h]
    have hnl := fun x hx => nxtC_lt h.2.2.1 (k := x) hx
    have hrs := regs_short (s := nxtC C) (N := 2 * C.length) hnl (2 * C.length) (Nat.le_refl _)
    have hn := h.1
    have hsg := h.2.2.1.1
    have harc := @arcAB C h.2.2.1
    have hmem := (regs_mem hnl (2 * C.length) (Nat.le_refl _)).1
    have hown := fun {a i : Nat} => own_iff hnl (a := a) (i := i)
    obtain ⟨R, hR⟩ : ∃ R, (regs (nxtC C) (2 * C.length) (2 * C.length)).2 = R := ⟨_, rfl⟩
    rw [hR] at hrs hmem ⊢
    simp only [hR] at hown
    obtain ⟨hr1, hr2⟩ := hrs
    have hr3 : R.length ≤ 1000000 := by omega
    by_cases h1 : (0 ≤ i ∧ i ≤ (R.length : Int) - 1)
    · have h1d : decide (0 ≤ i ∧ i ≤ (R.length : Int) - 1) = true := decide_eq_true h1
      by_cases h2 : (0 ≤ j ∧ j ≤ (R.length : Int) - 1)
      · have h2d : decide (0 ≤ j ∧ j ≤ (R.length : Int) - 1) = true := decide_eq_true h2
        rw [if_pos ⟨h1, h2⟩]
        by_cases h3 : i = j
        · have h3d : (i == j) = true := by rw [beq_iff_eq]; exact h3
          rw [if_pos h3]
          clear h3 h1 h2
          refine ACalls.body Try.func30 rfl Try.ntmps30 (rs := [.tmp 6, .tmp 7]) rfl (by simp) rfl fun Q hQ A hA => ?_
          have a0 := hA 0 _ _ rfl
          have a1 := hA 1 _ _ rfl
          have a2 := hA 2 _ _ rfl
          clear hA
          repeat' first | refine rnEE ?_ | (refine (drawing_c z (hC1 (by exact ex1)) hS).mono ?_; rintro u H1 ⟨⟨vf, vt, rfl, o1, o2, hD⟩, hx1⟩; rw [hd]; obtain ⟨hRf, hRt⟩ := hD h; have hx1g := hx1.get; have hx1s := hx1.size; (try simp only [nx] at hx1s)) | (refine (strands_c z (hC1 (by exact ex1)) h.1 h.2.2.1 (hRf.ext (by exact ex1)) (hRt.ext (by exact ex1))).mono ?_; rintro u H2 ⟨hO, hx2⟩; rw [hR] at hO; obtain ⟨pr, cr, rfl⟩ := hO.shape; have hx2g := hx2.get; have hx2s := hx2.size; (try simp only [nx] at hx2s)) | ((with_reducible refine (hasIndexR_c _ _ _ hr3 i).mono ?_; rintro v H' ⟨rfl, rfl⟩; rw [h1d])) | ((refine (hasIndexR_c _ _ _ hr3 _).mono ?_; rintro v H' ⟨rfl, rfl⟩; rw [h2d])) | with_reducible refine And.intro (fun hc => ?_) (fun hc => ?_) | fail
          exact hQ.out _ _ ⟨rfl, by exact ex1⟩
        · have h3d : (i == j) = false := by rw [beq_eq_false_iff_ne]; exact h3
          rw [if_neg h3]
          obtain ⟨i, rfl⟩ : ∃ i' : Nat, i = i' := ⟨i.toNat, by omega⟩
          obtain ⟨j, rfl⟩ : ∃ j' : Nat, j = j' := ⟨j.toNat, by omega⟩
          have hiR : i < R.length := by omega
          have hjR : j < R.length := by omega
          have hij : i ≠ j := fun e => h3 (by rw [e])
          simp only [Int.toNat_natCast]
          obtain ⟨p, kk, hvv, hp, hh⟩ := id hC
          subst hvv
          clear h3 h1 h2
          refine ACalls.body Try.func30 rfl Try.ntmps30 (rs := [.tmp 6, .tmp 7]) rfl (by simp) rfl fun Q hQ A hA => ?_
          have a0 := hA 0 _ _ rfl
          have a1 := hA 1 _ _ rfl
          have a2 := hA 2 _ _ rfl
          clear hA
          repeat' first | refine rnEE ?_ | (refine (drawing_c z (hC1 (by exact ex1)) hS).mono ?_; rintro u H1 ⟨⟨vf, vt, rfl, o1, o2, hD⟩, hx1⟩; rw [hd]; obtain ⟨hRf, hRt⟩ := hD h; have hx1g := hx1.get; have hx1s := hx1.size; (try simp only [nx] at hx1s)) | (refine (strands_c z (hC1 (by exact ex1)) h.1 h.2.2.1 (hRf.ext (by exact ex1)) (hRt.ext (by exact ex1))).mono ?_; rintro u H2 ⟨hO, hx2⟩; rw [hR] at hO; obtain ⟨pr, cr, rfl⟩ := hO.shape; have hx2g := hx2.get; have hx2s := hx2.size; (try simp only [nx] at hx2s)) | ((with_reducible refine (hasIndexR_c _ _ _ hr3 i).mono ?_; rintro v H' ⟨rfl, rfl⟩; rw [h1d])) | ((refine (hasIndexR_c _ _ _ hr3 _).mono ?_; rintro v H' ⟨rfl, rfl⟩; rw [h2d])) | with_reducible refine And.intro (fun hc => ?_) (fun hc => ?_) | fail
          obtain ⟨H2, hH2⟩ : ∃ x, x = H' := ⟨_, rfl⟩
          subst hH2
          obtain ⟨gt, kt, ev, hgt, _⟩ := hRt
          rw [endsL_len] at ev
          subst ev
          repeat' first | refine rnEE ?_ | (refine (owners_c (hO.rows.ext (by exact ex1)) (by omega) (by omega) (fun i hi => by have := hr2 i hi; omega) hmem).mono ?_; rintro u H3 ⟨⟨g, rfl, hgs, hga⟩, hx3⟩; have hx3g := hx3.get; have hx3s := hx3.size; (try simp only [nx] at hx3s)) | with_reducible refine And.intro (fun hc => ?_) (fun hc => ?_) | fail
          have f3 : Ext H H3 := by exact ex1
          have hol := ownO_len (2 * C.length) R R.length
          have hil := ints_len (ownO (2 * C.length) R R.length)
          have hig := fun {a : Nat} (h : a < 2 * C.length) => ints_get0 (l := ownO (2 * C.length) R R.length) (i := a) (by rw [hol]; exact h)
          generalize ownO (2 * C.length) R R.length = acc at *
          clear hx1 hx2 hx1g hx2g hx1s hx2s hO hx3g hx3s hx3
          refine AWp.cut (fun Ac hAc => ?_)
          have c1 := gtEE (t := 1) hAc
          have c2 := gtEE (t := 2) hAc
          have c11 := gtEE (t := 11) hAc
          have c48 := gtEE (t := 48) hAc
          have c49 := gtEE (t := 49) hAc
          have c12 := gtEE (t := 12) hAc
          have c50 := gtEE (t := 50) hAc
          clear a0 a1 a2
          refine AWp.loop (fun A' H' => ∃ (k : Nat), Ag [14, 15, 16, 51, 52, 53, 54, 55, 56, 57, 58, 59, 60, 61, 62, 63, 64, 65, 66, 67, 68, 69, 70, 71, 72, 73, 74, 75, 76, 77, 78, 79, 80, 81, 82, 83, 84, 85, 86] A' (put (put Ac (some 12) (I (lnk C R i j k))) (some 50) (I k)) ∧ k ≤ C.length ∧ Ext H3 H') (fun A' _ => C.length - (intV (A' 50)).toNat) ?_ ?_
          · exact ⟨0, (by rw [show lnk C R i j 0 = 0 from rfl]; exact agEE), by omega, Ext.refl _⟩
          · rintro A1 H4 ⟨k, hA, hk, hx4⟩
            have d1 := hA.h 1 rfl
            have d2 := hA.h 2 rfl
            have d11 := hA.h 11 rfl
            have d12 := hA.h 12 rfl
            have d48 := hA.h 48 rfl
            have d49 := hA.h 49 rfl
            have d50 := hA.h 50 rfl
            have g2 := (hx4.get _ hgs).trans hga
            have hxs := hx4.size
            by_cases hlt : k < C.length
            · obtain ⟨b1, cs, ro, rfl, hb, hg, hl, hcc⟩ := hh k hlt
              have hgb := ((f3.trans hx4).get b1 hb).trans hg
              have hfs := f3.size
              obtain ⟨⟨a, ha, haN⟩, b, hb2, hbN⟩ := harc hlt
              have hbd := lnk_bd hsg R i j k hk
              have hsx : (C.getD k cr0).s = 1 ∨ (C.getD k cr0).s = -1 := hsg k hlt
              have hst : lnk C R i j (k + 1) = if (decide ((C.getD k cr0).a ∈ R.getD i []) && decide ((C.getD k cr0).b ∈ R.getD j []) || decide ((C.getD k cr0).a ∈ R.getD j []) && decide ((C.getD k cr0).b ∈ R.getD i [])) = true then lnk C R i j k + (C.getD k cr0).s else lnk C R i j k := by
                show (if _ then _ else _) = _
                simp only [Bool.or_eq_true, Bool.and_eq_true, decide_eq_true_eq]
              have i1 := hig haN
              have i2 := hig hbN
              have w1 : decide ((a : Int) ∈ R.getD i []) = (acc.getD a 0 == (i : Int)) := by rw [Bool.eq_iff_iff, decide_eq_true_eq, beq_iff_eq]; exact (hown haN hiR).symm
              have w2 : decide ((b : Int) ∈ R.getD j []) = (acc.getD b 0 == (j : Int)) := by rw [Bool.eq_iff_iff, decide_eq_true_eq, beq_iff_eq]; exact (hown hbN hjR).symm
              have w3 : decide ((a : Int) ∈ R.getD j []) = (acc.getD a 0 == (j : Int)) := by rw [Bool.eq_iff_iff, decide_eq_true_eq, beq_iff_eq]; exact (hown haN hjR).symm
              have w4 : decide ((b : Int) ∈ R.getD i []) = (acc.getD b 0 == (i : Int)) := by rw [Bool.eq_iff_iff, decide_eq_true_eq, beq_iff_eq]; exact (hown hbN hiR).symm
              rw [ha, hb2, w1, w2, w3, w4] at hst
              rw [cr5, ha, hb2] at hcc
              clear w1 w2 w3 w4 hig hown
              generalize (C.getD k cr0) = x at *
              generalize acc.getD a 0 = o1 at *
              generalize acc.getD b 0 = o2 at *
              have hsx2 : -1 ≤ x.s ∧ x.s ≤ 1 := by omega
              have hxr : Ext H3 ((H4.push (.cells [I 0, I 0, I 0, I 0, I 0] 1 false)).set H4.size (.cells [I a, I b, I x.c, I x.d, I x.s] 1 false)) := (hx4.push _).set _ (by omega)
              clear hsx hh hr2 hx4 harc hmem f3 hij
              generalize lnk C R i j k = L at *
              rcases hq1 : (o1 == (i : Int)) with _ | _
              · rcases hq3 : (o1 == (j : Int)) with _ | _
                · have hst2 : lnk C R i j (k + 1) = L := by rw [hst, hq1, hq3]; rfl
                  clear hst
                  repeat' first | refine rnEE ?_ | with_reducible refine And.intro (fun hc => ?_) (fun hc => ?_) | fail
                  refine AWp.planned [0,1,2,3,4,5,6,7,8,9,10,11] mixed (by kernel_rfl) ?_
                  repeat' first | refine rdEE ?_ | with_reducible refine And.intro (fun hc => ?_) ?_ | with_reducible refine And.intro ?_ ?_ | fail
                  repeat' first | refine rnEE ?_ | with_reducible refine And.intro (fun hc => ?_) (fun hc => ?_) | fail
                  refine ⟨⟨k + 1, (by rw [hst2]; exact agEE), by omega, hxr⟩, ?_⟩
                  all_goals first | exact ivEE | refine smEE ?_ | skip
                · rcases hq4 : (o2 == (i : Int)) with _ | _
                  · have hst2 : lnk C R i j (k + 1) = L := by rw [hst, hq1, hq3, hq4]; rfl
                    clear hst
                    repeat' first | refine rnEE ?_ | with_reducible refine And.intro (fun hc => ?_) (fun hc => ?_) | fail
                    refine AWp.planned [0,1,2,3,4,5,6,7,8,9,10,11] mixed (by kernel_rfl) ?_
                    repeat' first | refine rdEE ?_ | with_reducible refine And.intro (fun hc => ?_) ?_ | with_reducible refine And.intro ?_ ?_ | fail
                    repeat' first | refine rnEE ?_ | with_reducible refine And.intro (fun hc => ?_) (fun hc => ?_) | fail
                    refine ⟨⟨k + 1, (by rw [hst2]; exact agEE), by omega, hxr⟩, ?_⟩
                    all_goals first | exact ivEE | refine smEE ?_ | skip
                  · have hst2 : lnk C R i j (k + 1) = L + x.s := by rw [hst, hq1, hq3, hq4]; rfl
                    clear hst
                    repeat' first | refine rnEE ?_ | with_reducible refine And.intro (fun hc => ?_) (fun hc => ?_) | fail
                    refine AWp.planned [0,1,2,3,4,5,6,7,8,9,10,11] mixed (by kernel_rfl) ?_
                    repeat' first | refine rdEE ?_ | with_reducible refine And.intro (fun hc => ?_) ?_ | with_reducible refine And.intro ?_ ?_ | fail
                    repeat' first | refine rnEE ?_ | with_reducible refine And.intro (fun hc => ?_) (fun hc => ?_) | fail
                    refine ⟨⟨k + 1, (by rw [hst2]; exact agEE), by omega, hxr⟩, ?_⟩
                    all_goals first | exact ivEE | refine smEE ?_ | skip
              · rcases hq2 : (o2 == (j : Int)) with _ | _
                · rcases hq3 : (o1 == (j : Int)) with _ | _
                  · have hst2 : lnk C R i j (k + 1) = L := by rw [hst, hq1, hq2, hq3]; rfl
                    clear hst
                    repeat' first | refine rnEE ?_ | with_reducible refine And.intro (fun hc => ?_) (fun hc => ?_) | fail
                    refine AWp.planned [0,1,2,3,4,5,6,7,8,9,10,11] mixed (by kernel_rfl) ?_
                    repeat' first | refine rdEE ?_ | with_reducible refine And.intro (fun hc => ?_) ?_ | with_reducible refine And.intro ?_ ?_ | fail
                    repeat' first | refine rnEE ?_ | with_reducible refine And.intro (fun hc => ?_) (fun hc => ?_) | fail
                    refine ⟨⟨k + 1, (by rw [hst2]; exact agEE), by omega, hxr⟩, ?_⟩
                    all_goals first | exact ivEE | refine smEE ?_ | skip
                  · rcases hq4 : (o2 == (i : Int)) with _ | _
                    · have hst2 : lnk C R i j (k + 1) = L := by rw [hst, hq1, hq2, hq3, hq4]; rfl
                      clear hst
                      repeat' first | refine rnEE ?_ | with_reducible refine And.intro (fun hc => ?_) (fun hc => ?_) | fail
                      refine AWp.planned [0,1,2,3,4,5,6,7,8,9,10,11] mixed (by kernel_rfl) ?_
                      repeat' first | refine rdEE ?_ | with_reducible refine And.intro (fun hc => ?_) ?_ | with_reducible refine And.intro ?_ ?_ | fail
                      repeat' first | refine rnEE ?_ | with_reducible refine And.intro (fun hc => ?_) (fun hc => ?_) | fail
                      refine ⟨⟨k + 1, (by rw [hst2]; exact agEE), by omega, hxr⟩, ?_⟩
                      all_goals first | exact ivEE | refine smEE ?_ | skip
                    · have hst2 : lnk C R i j (k + 1) = L + x.s := by rw [hst, hq1, hq2, hq3, hq4]; rfl
                      clear hst
                      repeat' first | refine rnEE ?_ | with_reducible refine And.intro (fun hc => ?_) (fun hc => ?_) | fail
                      refine AWp.planned [0,1,2,3,4,5,6,7,8,9,10,11] mixed (by kernel_rfl) ?_
                      repeat' first | refine rdEE ?_ | with_reducible refine And.intro (fun hc => ?_) ?_ | with_reducible refine And.intro ?_ ?_ | fail
                      repeat' first | refine rnEE ?_ | with_reducible refine And.intro (fun hc => ?_) (fun hc => ?_) | fail
                      refine ⟨⟨k + 1, (by rw [hst2]; exact agEE), by omega, hxr⟩, ?_⟩
                      all_goals first | exact ivEE | refine smEE ?_ | skip
                · have hst2 : lnk C R i j (k + 1) = L + x.s := by rw [hst, hq1, hq2]; rfl
                  clear hst
                  repeat' first | refine rnEE ?_ | with_reducible refine And.intro (fun hc => ?_) (fun hc => ?_) | fail
                  refine AWp.planned [0,1,2,3,4,5,6,7,8,9,10,11] mixed (by kernel_rfl) ?_
                  repeat' first | refine rdEE ?_ | with_reducible refine And.intro (fun hc => ?_) ?_ | with_reducible refine And.intro ?_ ?_ | fail
                  repeat' first | refine rnEE ?_ | with_reducible refine And.intro (fun hc => ?_) (fun hc => ?_) | fail
                  refine ⟨⟨k + 1, (by rw [hst2]; exact agEE), by omega, hxr⟩, ?_⟩
                  all_goals first | exact ivEE | refine smEE ?_ | skip
            · obtain rfl : k = C.length := by omega
              have hbd := lnk_bd hsg R i j C.length (Nat.le_refl _)
              generalize lnk C R i j C.length = L at *
              have hdt : (L.tdiv 2).natAbs = L.natAbs / 2 := Int.natAbs_tdiv L 2
              have hdv : IntKind.i64.wrap (L.tdiv 2) = L.tdiv 2 := wrap64_id (by omega) (by omega)
              repeat' first | refine rnEE ?_ | with_reducible refine And.intro (fun hc => ?_) (fun hc => ?_) | fail
              (try rw [hdv])
              exact hQ.out _ _ ⟨rfl, f3.trans hx4⟩
      · have h2d : decide (0 ≤ j ∧ j ≤ (R.length : Int) - 1) = false := decide_eq_false h2
        rw [if_neg (fun q => h2 q.2)]
        clear h1 h2
        refine ACalls.body Try.func30 rfl Try.ntmps30 (rs := [.tmp 6, .tmp 7]) rfl (by simp) rfl fun Q hQ A hA => ?_
        have a0 := hA 0 _ _ rfl
        have a1 := hA 1 _ _ rfl
        have a2 := hA 2 _ _ rfl
        clear hA
        repeat' first | refine rnEE ?_ | (refine (drawing_c z (hC1 (by exact ex1)) hS).mono ?_; rintro u H1 ⟨⟨vf, vt, rfl, o1, o2, hD⟩, hx1⟩; rw [hd]; obtain ⟨hRf, hRt⟩ := hD h; have hx1g := hx1.get; have hx1s := hx1.size; (try simp only [nx] at hx1s)) | (refine (strands_c z (hC1 (by exact ex1)) h.1 h.2.2.1 (hRf.ext (by exact ex1)) (hRt.ext (by exact ex1))).mono ?_; rintro u H2 ⟨hO, hx2⟩; rw [hR] at hO; obtain ⟨pr, cr, rfl⟩ := hO.shape; have hx2g := hx2.get; have hx2s := hx2.size; (try simp only [nx] at hx2s)) | ((with_reducible refine (hasIndexR_c _ _ _ hr3 i).mono ?_; rintro v H' ⟨rfl, rfl⟩; rw [h1d])) | ((refine (hasIndexR_c _ _ _ hr3 _).mono ?_; rintro v H' ⟨rfl, rfl⟩; rw [h2d])) | with_reducible refine And.intro (fun hc => ?_) (fun hc => ?_) | fail
        exact hQ.out _ _ ⟨rfl, by exact ex1⟩
    · have h1d : decide (0 ≤ i ∧ i ≤ (R.length : Int) - 1) = false := decide_eq_false h1
      rw [if_neg (fun q => h1 q.1)]
      clear h1
      refine ACalls.body Try.func30 rfl Try.ntmps30 (rs := [.tmp 6, .tmp 7]) rfl (by simp) rfl fun Q hQ A hA => ?_
      have a0 := hA 0 _ _ rfl
      have a1 := hA 1 _ _ rfl
      have a2 := hA 2 _ _ rfl
      clear hA
      repeat' first | refine rnEE ?_ | (refine (drawing_c z (hC1 (by exact ex1)) hS).mono ?_; rintro u H1 ⟨⟨vf, vt, rfl, o1, o2, hD⟩, hx1⟩; rw [hd]; obtain ⟨hRf, hRt⟩ := hD h; have hx1g := hx1.get; have hx1s := hx1.size; (try simp only [nx] at hx1s)) | (refine (strands_c z (hC1 (by exact ex1)) h.1 h.2.2.1 (hRf.ext (by exact ex1)) (hRt.ext (by exact ex1))).mono ?_; rintro u H2 ⟨hO, hx2⟩; rw [hR] at hO; obtain ⟨pr, cr, rfl⟩ := hO.shape; have hx2g := hx2.get; have hx2s := hx2.size; (try simp only [nx] at hx2s)) | ((with_reducible refine (hasIndexR_c _ _ _ hr3 i).mono ?_; rintro v H' ⟨rfl, rfl⟩; rw [h1d])) | with_reducible refine And.intro (fun hc => ?_) (fun hc => ?_) | fail
      exact hQ.out _ _ ⟨rfl, by exact ex1⟩
  · have hd : decide (IsD C z) = false := decide_eq_false h
    rw [if_neg h]
    refine ACalls.body Try.func30 rfl Try.ntmps30 (rs := [.tmp 6, .tmp 7]) rfl (by simp) rfl fun Q hQ A hA => ?_
    have a0 := hA 0 _ _ rfl
    have a1 := hA 1 _ _ rfl
    have a2 := hA 2 _ _ rfl
    clear hA
    repeat' first | refine rnEE ?_ | (refine (drawing_c z (hC1 (by exact ex1)) hS).mono ?_; rintro u H1 ⟨⟨vf, vt, rfl, o1, o2, hD⟩, hx1⟩; rw [hd]; have hx1g := hx1.get; have hx1s := hx1.size; (try simp only [nx] at hx1s)) | with_reducible refine And.intro (fun hc => ?_) (fun hc => ?_) | fail
    exact hQ.out _ _ ⟨rfl, by exact ex1⟩
end Go.Proofs.Ytpbbfephfmdgmaa.Rai
