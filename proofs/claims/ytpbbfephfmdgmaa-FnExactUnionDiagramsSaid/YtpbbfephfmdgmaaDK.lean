/- A part of the walk: what functions of the program do, over an abstract heap. -/
import Derived.Test.YtpbbfephfmdgmaaDJ
namespace Go.Proofs.Ytpbbfephfmdgmaa.Rai
open Go TP
set_option linter.unusedVariables false
set_option linter.unusedSimpArgs false
set_option maxRecDepth 20000
theorem tfDK : (Try.prog.underlying 4 = some .bool) ∧ (Try.prog.underlying 27 = some (.slice 54)) ∧ (el Try.prog 27 = some (none, 5)) ∧ (Try.prog.underlying 58 = some (.slice 87)) ∧ (el Try.prog 58 = some (none, 2)) ∧ (Try.prog.underlying 94 = some (.array 4 2)) ∧ (el Try.prog 94 = some (some 4, 1)) ∧ (tk Try.prog 2 = some none) ∧ (tk Try.prog 27 = some none) ∧ (tk Try.prog 29 = some (some 2)) ∧ (tk Try.prog 54 = some (some 5)) ∧ (tk Try.prog 58 = some none) ∧ (tk Try.prog 87 = some (some 2)) ∧ (cz Try.prog 2 = some 1) ∧ (bz Try.prog 2 = some 8) ∧ (cz Try.prog 54 = some 5) ∧ (bz Try.prog 54 = some 40) ∧ (cz Try.prog 87 = some 2) ∧ (bz Try.prog 87 = some 16) ∧ (zr Try.prog 2 = some (.int .i64 0)) ∧ (zr Try.prog 54 = some (.agg #[.int .i64 0, .int .i64 0, .int .i64 0, .int .i64 0, .int .i64 0])) ∧ (zr Try.prog 87 = some (.agg #[.int .i64 0, .int .i64 0])) ∧ (fo Try.prog 29 0 = some (0, none)) ∧ (fo Try.prog 60 0 = some (0, none)) ∧ (fo Try.prog 60 1 = some (1, none)) ∧ (fo Try.prog 87 0 = some (0, none)) ∧ (fo Try.prog 87 1 = some (1, none)) := by
  refine ⟨?_, ?_, ?_, ?_, ?_, ?_, ?_, ?_, ?_, ?_, ?_, ?_, ?_, ?_, ?_, ?_, ?_, ?_, ?_, ?_, ?_, ?_, ?_, ?_, ?_, ?_, ?_⟩ <;> kernel_rfl
theorem rnDK {a b : Prop} (hb : b) (h : Later b → a := by
  intro hb
  first
  | ((with_reducible first | refine AOps.nil ?_ | refine athen_n ?_ | refine athen_r ?_ | refine athen_e ?_ | refine ablock_n ?_ | refine ablock_r ?_ | refine ablock_s ?_ | refine AWp.seq' ?_ | refine AWp.block ?_ | refine AWp.skip ?_ | refine AWp.exit ?_ | refine AWp.ret ?_ | refine AWp.region ?_ | (refine ablock_e ?_ ?_; focus rfl)); repeat (with_reducible first | refine AOps.nil ?_ | refine athen_n ?_ | refine athen_r ?_ | refine athen_e ?_ | refine ablock_n ?_ | refine ablock_r ?_ | refine ablock_s ?_ | refine AWp.seq' ?_ | refine AWp.block ?_ | refine AWp.skip ?_ | refine AWp.exit ?_ | refine AWp.ret ?_ | refine AWp.region ?_ | (refine ablock_e ?_ ?_; focus rfl)))
  | (refine AOps.guardu rfl rfl rfl ?_ ?_; focus (simp (disch := (first | omega | (simp only [nx]; first | done | omega))) only [Value.bool.injEq, Bool.and_true, Bool.true_and, Bool.and_false, Bool.false_and, beq_self_eq_true, bne, Bool.not_true, Bool.not_false, sx, nx, dx, ↓reduceIte, reduceCtorEq, Nat.reduceEqDiff, ne_eq, not_false_eq_true, *]; done))
  | ((first | refine AOps.cons2 rfl rfl fun K hK => ?_ | refine AWp.cond rfl fun X Y hX hY => ?_ | refine AOps.guard rfl rfl rfl fun X Y hX hY => ?_ | refine aret_r ?_ | refine aret_n ?_); simp (disch := (first | omega | (simp only [nx]; first | done | omega))) only [acond_bool, aresK, retv, xxq, tfDK, sliceK, bnd, appendK, appsK, copyK, clearK, makeSliceK, buildSliceK, buildK, lookupK, mapPutK, mapOf, convK, allocK, indexK, partK, xxa, xxb, xxc, bne, Int.reduceEq, Int.reduceBEq, Int.reduceNe, Int.reduceBNe, Int.reduceLE, Int.reduceGT, Int.reduceGE, Int.reduceNeg, ↓reduceIte, reduceCtorEq, Nat.reduceEqDiff, Nat.reduceAdd, Nat.reduceMul, Nat.reduceSub, Nat.reduceLT, Int.reduceAdd, Int.reduceSub, Int.reduceMul, Int.reduceLT, Int.reduceToNat, ne_eq, *]; (repeat first | ((with_reducible refine And.intro (fun hc => ?_) (fun hc => absurd hc (by omega))); clear hc) | ((with_reducible refine And.intro (fun hc => absurd hc (by omega)) (fun hc => ?_)); clear hc) | ((with_reducible refine And.intro ?_ ?_); focus ((first | omega | assumption | exact cok _ rfl | exact one_ints _ | exact one_map fun _ => rfl | ((repeat refine one_cons (by first | rfl | assumption) ?_); exact one_nil) | rfl | decide | (intro u hu; cases hu)); done)) | (with_reducible refine (fun hc => ?_ : _ → _); clear hc)); (first | refine hK.out _ _ ?_ | refine ACalls.hk hK ?_ | refine appendK.hk hK ?_ | refine (fun (q : _ ∧ _) => And.intro (hK.out _ _ q.1) (hK.out _ _ q.2)) ?_ | refine hX.out ?_ | refine hY.out ?_ | refine (fun (q : (_ → _) ∧ (_ → _)) => And.intro (fun hc => hX.out (q.1 hc)) (fun hc => hY.out (q.2 hc))) ?_ | refine (fun (q : (_ → _) ∧ (_ → _)) => And.intro (fun hc => hY.out (q.1 hc)) (fun hc => hX.out (q.2 hc))) ?_ | skip))
  exact hb.out) : a := h ⟨hb⟩
theorem rdDK {a b : Prop} (hb : b) (h : Later b → a := by
  intro hb
  first
  | with_reducible refine APl.nil ?_
  | ((first | refine APl.pure2 rfl rfl rfl rfl fun Kx hKx => ?_ | refine APl.load rfl rfl rfl fun Kx hKx => ?_ | refine APl.slice rfl rfl rfl fun Kx hKx => ?_ | refine APl.act2 rfl rfl rfl rfl fun Kx hKx => ?_); simp (disch := (first | omega | (simp only [nx]; first | done | omega))) only [heldIn_iff, List.zipIdx_cons, List.zipIdx_nil, List.map_cons, List.map_nil, xxq, tfDK, sliceK, bnd, appendK, appsK, copyK, clearK, makeSliceK, buildSliceK, buildK, lookupK, mapPutK, mapOf, convK, allocK, indexK, partK, xxa, xxb, xxc, bne, Int.reduceEq, Int.reduceBEq, Int.reduceNe, Int.reduceBNe, Int.reduceLE, Int.reduceGT, Int.reduceGE, Int.reduceNeg, ↓reduceIte, reduceCtorEq, Nat.reduceEqDiff, Nat.reduceAdd, Nat.reduceMul, Nat.reduceSub, Nat.reduceLT, Int.reduceAdd, Int.reduceSub, Int.reduceMul, Int.reduceLT, Int.reduceToNat, ne_eq, *]; (repeat first | ((with_reducible refine And.intro (fun hc => ?_) (fun hc => absurd hc (by omega))); clear hc) | ((with_reducible refine And.intro (fun hc => absurd hc (by omega)) (fun hc => ?_)); clear hc) | ((with_reducible refine And.intro ?_ ?_); focus ((first | omega | assumption | exact cok _ rfl | exact one_ints _ | exact one_map fun _ => rfl | ((repeat refine one_cons (by first | rfl | assumption) ?_); exact one_nil) | rfl | decide | (intro u hu; cases hu)); done)) | (with_reducible refine (fun hc => ?_ : _ → _); clear hc)); (first | refine hKx.out _ ?_ | refine hKx.out _ _ ?_ | refine ACalls.hkx hKx ?_ | refine (fun (q : _ ∧ _) => And.intro (hKx.out _ q.1) (hKx.out _ q.2)) ?_ | refine (fun (q : (_ → _) ∧ _) => And.intro (fun hc => hKx.out _ (q.1 hc)) (hKx.out _ q.2)) ?_ | (refine hKx.out _ _ ?_ ?_; focus (simp (disch := (first | omega | (simp only [nx]; first | done | omega))) only [heldIn_iff, List.zipIdx_cons, List.zipIdx_nil, List.map_cons, List.map_nil, xxq, tfDK, sliceK, bnd, appendK, appsK, copyK, clearK, makeSliceK, buildSliceK, buildK, lookupK, mapPutK, mapOf, convK, allocK, indexK, partK, xxa, xxb, xxc, bne, Int.reduceEq, Int.reduceBEq, Int.reduceNe, Int.reduceBNe, Int.reduceLE, Int.reduceGT, Int.reduceGE, Int.reduceNeg, ↓reduceIte, reduceCtorEq, Nat.reduceEqDiff, Nat.reduceAdd, Nat.reduceMul, Nat.reduceSub, Nat.reduceLT, Int.reduceAdd, Int.reduceSub, Int.reduceMul, Int.reduceLT, Int.reduceToNat, ne_eq, *]; first | done | trivial))))
  exact hb.out) : a := h ⟨hb⟩
theorem hlDK {p b : Prop} (hb : b) (h : p := by simp (disch := (first | omega | (simp only [nx]; first | done | omega))) only [heldIn_iff, List.zipIdx_cons, List.zipIdx_nil, List.map_cons, List.map_nil, xxq, tfDK, sliceK, bnd, appendK, appsK, copyK, clearK, makeSliceK, buildSliceK, buildK, lookupK, mapPutK, mapOf, convK, allocK, indexK, partK, xxa, xxb, xxc, bne, Int.reduceEq, Int.reduceBEq, Int.reduceNe, Int.reduceBNe, Int.reduceLE, Int.reduceGT, Int.reduceGE, Int.reduceNeg, ↓reduceIte, reduceCtorEq, Nat.reduceEqDiff, Nat.reduceAdd, Nat.reduceMul, Nat.reduceSub, Nat.reduceLT, Int.reduceAdd, Int.reduceSub, Int.reduceMul, Int.reduceLT, Int.reduceToNat, ne_eq, *]; first | done | trivial) : p ∧ b := ⟨h, hb⟩
theorem ivDK {p : Prop} (h : p := by first | omega | ((repeat first | exact Ext.refl _ | assumption | refine Ext.push ?_ _ | refine Ext.set ?_ _ (by first | omega | (simp only [nx, *]; omega)) | (apply Ext.up; focus (assumption; done))); done) | (simp (disch := (first | omega | (simp only [nx]; first | done | omega))) only [xxq, xxa, xxb, xxc, bne, Int.reduceEq, Int.reduceBEq, Int.reduceNe, Int.reduceBNe, Int.reduceLE, Int.reduceGT, Int.reduceGE, Int.reduceNeg, ↓reduceIte, reduceCtorEq, Nat.reduceEqDiff, Nat.reduceAdd, Nat.reduceMul, Nat.reduceSub, Nat.reduceLT, Int.reduceAdd, Int.reduceSub, Int.reduceMul, Int.reduceLT, Int.reduceToNat, ne_eq, *, intV_int]; first | done | omega | rfl | exact congrArg (Value.int .i64) (by omega) | ((repeat first | exact Ext.refl _ | assumption | refine Ext.push ?_ _ | refine Ext.set ?_ _ (by first | omega | (simp only [nx, *]; omega)) | (apply Ext.up; focus (assumption; done))); done)) | rfl) : p := h
theorem smDK {a b : Prop} (hb : b) (h : Later b → a := by intro hb; simp (disch := (first | omega | (simp only [nx]; first | done | omega))) only [xxq, xxa, xxb, xxc, bne, Int.reduceEq, Int.reduceBEq, Int.reduceNe, Int.reduceBNe, Int.reduceLE, Int.reduceGT, Int.reduceGE, Int.reduceNeg, ↓reduceIte, reduceCtorEq, Nat.reduceEqDiff, Nat.reduceAdd, Nat.reduceMul, Nat.reduceSub, Nat.reduceLT, Int.reduceAdd, Int.reduceSub, Int.reduceMul, Int.reduceLT, Int.reduceToNat, ne_eq, *, intV_int]; exact hb.out) : a := h ⟨hb⟩
theorem gtDK {A F : Fr} {t : Nat} {v : Value} (h : Ag [] A F) (e : F t = v := by simp (disch := (first | omega | (simp only [nx]; first | done | omega))) only [xxq, xxa, xxb, xxc, bne, Int.reduceEq, Int.reduceBEq, Int.reduceNe, Int.reduceBNe, Int.reduceLE, Int.reduceGT, Int.reduceGE, Int.reduceNeg, ↓reduceIte, reduceCtorEq, Nat.reduceEqDiff, Nat.reduceAdd, Nat.reduceMul, Nat.reduceSub, Nat.reduceLT, Int.reduceAdd, Int.reduceSub, Int.reduceMul, Int.reduceLT, Int.reduceToNat, ne_eq, *, intV_int]; exact rfl) : A t = v := (h.h t rfl).trans e
theorem agDK {D : List Nat} {A F : Fr} (h : Ag D A F := by
  repeat (with_reducible first | exact Ag.refl _ _ | refine Ag.nop ?_ | refine Ag.dead rfl ?_ | (refine Ag.live ?_ ?_; focus exact ivDK) | refine Ag.dr rfl ?_ | (refine Ag.lr ?_ ?_; focus exact ivDK) | refine Ag.up (by assumption) rfl ?_)) : Ag D A F := h
theorem sdDK {p : Prop} (h : p := by first | omega | assumption | (simp (disch := (first | omega | (simp only [nx]; first | done | omega))) only [xxq, tfDK, sliceK, bnd, appendK, appsK, copyK, clearK, makeSliceK, buildSliceK, buildK, lookupK, mapPutK, mapOf, convK, allocK, indexK, partK, xxa, xxb, xxc, bne, Int.reduceEq, Int.reduceBEq, Int.reduceNe, Int.reduceBNe, Int.reduceLE, Int.reduceGT, Int.reduceGE, Int.reduceNeg, ↓reduceIte, reduceCtorEq, Nat.reduceEqDiff, Nat.reduceAdd, Nat.reduceMul, Nat.reduceSub, Nat.reduceLT, Int.reduceAdd, Int.reduceSub, Int.reduceMul, Int.reduceLT, Int.reduceToNat, ne_eq, *]; first | done | omega | rfl)) : p := h
theorem endP_some (j : Nat) : endP (some j) = (((j / 4 : Nat) : Int), ((j % 4 : Nat) : Int)) := rfl
theorem other_c {H : Heap} {v vf vt : Value} {C : List Cr} (z : Int) (hC : RdC H v C) (hn : C.length ≤ 10) (hV : Cnt C) (hf : RdE H vf (endsL C false (2 * C.length) (4 * C.length))) (ht : RdE H vt (endsL C true (2 * C.length) (4 * C.length))) (c q : Nat) (hc : c < C.length) (hq : q < 4) :
    ACalls Try.prog 78 [.agg #[v, I z], .agg #[vf, vt], .agg #[I c, I q]] H fun u H' => (∃ j, fnd C (eAt C (4 * c + q)) (!nAt C (4 * c + q)) (4 * C.length) = some j ∧ u = .agg #[I (j / 4 : Nat), I (j % 4 : Nat)]) ∧ Ext H H' := by
  obtain ⟨p, kk, rfl, hp, hh⟩ := hC
  obtain ⟨b1, cs, ro, rfl, hb, hg, hl, hcc⟩ := hh c hc
  obtain ⟨gf, kf, rfl, hf1, rof, hf2⟩ := hf
  obtain ⟨gt, kt, rfl, ht1, rot, ht2⟩ := ht
  rw [endsL_len]
  rw [endsL_len]
  obtain ⟨a, ha, hal⟩ := cnt_arc hV (4 * c + q) (by omega)
  obtain ⟨j, hj, _⟩ := cnt_fnd hV a (!nAt C (4 * c + q)) hal
  rw [ha, hj]
  have he := eAt_at C c q hq
  have hn2 := nAt_at C c q hq
  have hsx : (C.getD c cr0).s = 1 ∨ (C.getD c cr0).s = -1 := hV.1 c hc
  obtain ⟨x, hxx⟩ : ∃ x, C.getD c cr0 = x := ⟨_, rfl⟩
  rw [hxx] at hcc he hn2 hsx
  rw [cr5] at hcc
  rw [ha] at he
  rw [hn2] at hj
  have hend : [I (endC x 0), I (endC x 1), I (endC x 2), I (endC x 3)][q]? = some (I a) := by
    rw [he]
    have : q = 0 ∨ q = 1 ∨ q = 2 ∨ q = 3 := by omega
    rcases this with rfl | rfl | rfl | rfl <;> rfl
  have lf := prs_len (endsL C false (2 * C.length) (4 * C.length))
  have lt := prs_len (endsL C true (2 * C.length) (4 * C.length))
  rw [endsL_len] at lf lt
  have gf2 := prs_get (C := endsL C false (2 * C.length) (4 * C.length)) (i := a) (by rw [endsL_len]; exact hal)
  have gt2 := prs_get (C := endsL C true (2 * C.length) (4 * C.length)) (i := a) (by rw [endsL_len]; exact hal)
  rw [endsL_get hal, pr2] at gf2 gt2
  obtain ⟨h50, h51, h52, h53, h54⟩ := rd5 (x := x) hcc
  clear he hn2 hxx hh ha
  rcases hen : entC x q with _ | _
  · rw [hen] at hj
    simp only [Bool.not_false] at hj
    rw [hj, endP_some] at gt2
    refine ACalls.body Try.func78 rfl Try.ntmps78 (rs := [.cell 6 87]) rfl (by simp) rfl fun Q hQ A hA => ?_
    have a0 := hA 0 _ _ rfl
    have a1 := hA 1 _ _ rfl
    have a2 := hA 2 _ _ rfl
    clear hA
    repeat' first | refine rnDK ?_ | with_reducible refine And.intro (fun hc => ?_) (fun hc => ?_) | fail
    refine AWp.planned [0,2,3,1,4,5] mixed (by kernel_rfl) ?_
    repeat' first | refine rdDK ?_ | (refine (ends_c x).mono ?_; rintro v H6 ⟨rfl, hx6⟩; have hx6g := hx6.get; have hx6s := hx6.size; (try simp only [nx] at hx6s); refine hlDK ?_) | with_reducible refine And.intro (fun hc => ?_) ?_ | with_reducible refine And.intro ?_ ?_ | fail
    repeat' first | refine rnDK ?_ | (refine (enters_c x hsx q hq).mono ?_; rintro v H6 ⟨rfl, hx6⟩; have hx6g := hx6.get; have hx6s := hx6.size; (try simp only [nx] at hx6s)) | with_reducible refine And.intro (fun hc => ?_) (fun hc => ?_) | fail
    exact hQ.out _ _ ⟨⟨j, rfl, rfl⟩, by exact ex1⟩
  · rw [hen] at hj
    simp only [Bool.not_true] at hj
    rw [hj, endP_some] at gf2
    refine ACalls.body Try.func78 rfl Try.ntmps78 (rs := [.cell 6 87]) rfl (by simp) rfl fun Q hQ A hA => ?_
    have a0 := hA 0 _ _ rfl
    have a1 := hA 1 _ _ rfl
    have a2 := hA 2 _ _ rfl
    clear hA
    repeat' first | refine rnDK ?_ | with_reducible refine And.intro (fun hc => ?_) (fun hc => ?_) | fail
    refine AWp.planned [0,2,3,1,4,5] mixed (by kernel_rfl) ?_
    repeat' first | refine rdDK ?_ | (refine (ends_c x).mono ?_; rintro v H6 ⟨rfl, hx6⟩; have hx6g := hx6.get; have hx6s := hx6.size; (try simp only [nx] at hx6s); refine hlDK ?_) | with_reducible refine And.intro (fun hc => ?_) ?_ | with_reducible refine And.intro ?_ ?_ | fail
    repeat' first | refine rnDK ?_ | (refine (enters_c x hsx q hq).mono ?_; rintro v H6 ⟨rfl, hx6⟩; have hx6g := hx6.get; have hx6s := hx6.size; (try simp only [nx] at hx6s)) | with_reducible refine And.intro (fun hc => ?_) (fun hc => ?_) | fail
    exact hQ.out _ _ ⟨⟨j, rfl, rfl⟩, by exact ex1⟩
theorem next_c {H : Heap} {v vf vt : Value} {C : List Cr} (z : Int) (hC : RdC H v C) (hn : C.length ≤ 10) (hV : Cnt C) (hf : vf.oneCell' = true) (ht : RdE H vt (endsL C true (2 * C.length) (4 * C.length))) (a : Nat) (hal : a < 2 * C.length) :
    ACalls Try.prog 80 [.agg #[v, I z], .agg #[vf, vt], I a] H fun u H' => u = I (nxtC C a) ∧ Ext H H' := by
  obtain ⟨p, kk, rfl, hp, hh⟩ := hC
  obtain ⟨gt, kt, rfl, ht1, rot, ht2⟩ := ht
  rw [endsL_len]
  obtain ⟨j, hj, hjl, he, _⟩ := nxtC_spec hV a hal
  have hc : j / 4 < C.length := by omega
  obtain ⟨b1, cs, ro, rfl, hb, hg, hl, hcc⟩ := hh (j / 4) hc
  have hq : (j % 4 + 2) % 4 < 4 := by omega
  have hm : ((j % 4 : Nat) : Int) + 2 = ((j % 4 + 2 : Nat) : Int) := by omega
  have hm2 : ((j % 4 + 2 : Nat) : Int) % 4 = (((j % 4 + 2) % 4 : Nat) : Int) := by omega
  rw [eAt_at C (j / 4) ((j % 4 + 2) % 4) hq] at he
  obtain ⟨x, hxx⟩ : ∃ x, C.getD (j / 4) cr0 = x := ⟨_, rfl⟩
  rw [hxx] at hcc he
  rw [cr5] at hcc
  have hend : [I (endC x 0), I (endC x 1), I (endC x 2), I (endC x 3)][(j % 4 + 2) % 4]? = some (I (nxtC C a)) := by
    rw [← he]
    generalize (j % 4 + 2) % 4 = q at hq
    have : q = 0 ∨ q = 1 ∨ q = 2 ∨ q = 3 := by omega
    rcases this with rfl | rfl | rfl | rfl <;> rfl
  have lt := prs_len (endsL C true (2 * C.length) (4 * C.length))
  rw [endsL_len] at lt
  have gt2 := prs_get (C := endsL C true (2 * C.length) (4 * C.length)) (i := a) (by rw [endsL_len]; exact hal)
  rw [endsL_get hal, pr2, hj, endP_some] at gt2
  obtain ⟨h50, h51, h52, h53, h54⟩ := rd5 (x := x) hcc
  have hjm : j % 4 < 4 := by omega
  generalize nxtC C a = nx0 at *
  generalize j / 4 = c at *
  generalize j % 4 = q4 at *
  generalize hq0 : (q4 + 2) % 4 = q at *
  clear he hxx hh
  refine ACalls.body Try.func80 rfl Try.ntmps80 (rs := [.tmp 6]) rfl (by simp) rfl fun Q hQ A hA => ?_
  have a0 := hA 0 _ _ rfl
  have a1 := hA 1 _ _ rfl
  have a2 := hA 2 _ _ rfl
  clear hA
  repeat' first | refine rnDK ?_ | with_reducible refine And.intro (fun hc => ?_) (fun hc => ?_) | fail
  refine AWp.planned [0,1,2,3,4,5,7,8,9,10,6,11,12] mixed (by kernel_rfl) ?_
  repeat' first | refine rdDK ?_ | (refine (ends_c x).mono ?_; rintro v H6 ⟨rfl, hx6⟩; have hx6g := hx6.get; have hx6s := hx6.size; (try simp only [nx] at hx6s); refine hlDK ?_) | with_reducible refine And.intro (fun hc => ?_) ?_ | with_reducible refine And.intro ?_ ?_ | fail
  repeat' first | refine rnDK ?_ | with_reducible refine And.intro (fun hc => ?_) (fun hc => ?_) | fail
  exact hQ.out _ _ ⟨rfl, by exact ex1⟩
theorem l25Next_c {H : Heap} {v : Value} {C : List Cr} (z : Int) (hC : RdC H v C) (hn : C.length ≤ 10) (hV : Cnt C) (a : Nat) (hal : a < 2 * C.length) : ACalls Try.prog 79 [.agg #[v, I z], I a] H fun u H' => u = I (nxtC C a) ∧ Ext H H' := by
  have hC1 := fun {H' : Heap} (h : Ext H H') => hC.ext h
  have hone := hC.one
  obtain ⟨p, kk, rfl, hp, hh⟩ := hC
  clear hone
  obtain ⟨j, hj, hjl, he, _⟩ := nxtC_spec hV a hal
  have hc : j / 4 < C.length := by omega
  obtain ⟨b1, cs, ro, rfl, hb, hg, hl, hcc⟩ := hh (j / 4) hc
  have hq : (j % 4 + 2) % 4 < 4 := by omega
  have hm : ((j % 4 : Nat) : Int) + 2 = ((j % 4 + 2 : Nat) : Int) := by omega
  have hm2 : ((j % 4 + 2 : Nat) : Int) % 4 = (((j % 4 + 2) % 4 : Nat) : Int) := by omega
  rw [eAt_at C (j / 4) ((j % 4 + 2) % 4) hq] at he
  obtain ⟨x, hxx⟩ : ∃ x, C.getD (j / 4) cr0 = x := ⟨_, rfl⟩
  rw [hxx] at hcc he
  rw [cr5] at hcc
  have hjm : j % 4 < 4 := by omega
  have hpl : placeV (some j) = .tuple #[I (j / 4 : Nat), I (j % 4 : Nat)] := rfl
  generalize nxtC C a = nx0 at *
  generalize j / 4 = c at *
  generalize j % 4 = q4 at *
  clear hxx hh
  refine ACalls.body Try.func79 rfl Try.ntmps79 (rs := [.tmp 4]) rfl (by simp) rfl fun Q hQ A hA => ?_
  have a0 := hA 0 _ _ rfl
  have a1 := hA 1 _ _ rfl
  clear hA
  repeat' first | refine rnDK ?_ | with_reducible refine And.intro (fun hc => ?_) (fun hc => ?_) | fail
  refine (l25Place_c z (hC1 (by exact ex1)) (by omega) a true).mono ?_
  rintro u H1 ⟨rfl, hx1⟩
  rw [hj, hpl]
  have hx1g := hx1.get; have hx1s := hx1.size; (try simp only [nx] at hx1s)
  repeat' first | refine rnDK ?_ | (refine (l25End_c x _ hq).mono ?_; rintro v H6 ⟨rfl, hx6⟩; have hx6g := hx6.get; have hx6s := hx6.size; (try simp only [nx] at hx6s)) | with_reducible refine And.intro (fun hc => ?_) (fun hc => ?_) | fail
  exact hQ.out _ _ ⟨by rw [← he], by exact ex1⟩
end Go.Proofs.Ytpbbfephfmdgmaa.Rai
