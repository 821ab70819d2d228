/- A part of the walk: what functions of the program do, over an abstract heap. -/
import Derived.Test.YtpbbfephfmdgmaaDA
namespace Go.Proofs.Ytpbbfephfmdgmaa.Rai
open Go TP
set_option linter.unusedVariables false
set_option linter.unusedSimpArgs false
set_option maxRecDepth 20000
theorem tfDB : (Try.prog.underlying 22 = some (.slice 78)) ∧ (el Try.prog 22 = some (none, 5)) ∧ (Try.prog.underlying 27 = some (.slice 54)) ∧ (el Try.prog 27 = some (none, 5)) ∧ (tk Try.prog 2 = some none) ∧ (tk Try.prog 22 = some none) ∧ (tk Try.prog 54 = some (some 5)) ∧ (tk Try.prog 78 = some (some 5)) ∧ (cz Try.prog 54 = some 5) ∧ (bz Try.prog 54 = some 40) ∧ (cz Try.prog 78 = some 5) ∧ (bz Try.prog 78 = some 40) ∧ (zr Try.prog 54 = some (.agg #[.int .i64 0, .int .i64 0, .int .i64 0, .int .i64 0, .int .i64 0])) ∧ (zr Try.prog 78 = some (.agg #[.int .i64 0, .int .i64 0, .int .i64 0, .int .i64 0, .int .i64 0])) ∧ (fo Try.prog 24 0 = some (0, none)) ∧ (fo Try.prog 54 0 = some (0, none)) ∧ (fo Try.prog 54 1 = some (1, none)) ∧ (fo Try.prog 54 2 = some (2, none)) ∧ (fo Try.prog 54 3 = some (3, none)) ∧ (fo Try.prog 54 4 = some (4, none)) ∧ (fo Try.prog 78 0 = some (0, none)) ∧ (fo Try.prog 78 1 = some (1, none)) ∧ (fo Try.prog 78 2 = some (2, none)) ∧ (fo Try.prog 78 3 = some (3, none)) ∧ (fo Try.prog 78 4 = some (4, none)) := by
  refine ⟨?_, ?_, ?_, ?_, ?_, ?_, ?_, ?_, ?_, ?_, ?_, ?_, ?_, ?_, ?_, ?_, ?_, ?_, ?_, ?_, ?_, ?_, ?_, ?_, ?_⟩ <;> kernel_rfl
theorem rnDB {a b : Prop} (hb : b) (h : Later b → a := by
  intro hb
  first
  | ((with_reducible first | refine AOps.nil ?_ | refine athen_n ?_ | refine athen_r ?_ | refine athen_e ?_ | refine ablock_n ?_ | refine ablock_r ?_ | refine ablock_s ?_ | refine AWp.seq' ?_ | refine AWp.block ?_ | refine AWp.skip ?_ | refine AWp.exit ?_ | refine AWp.ret ?_ | refine AWp.region ?_ | (refine ablock_e ?_ ?_; focus rfl)); repeat (with_reducible first | refine AOps.nil ?_ | refine athen_n ?_ | refine athen_r ?_ | refine athen_e ?_ | refine ablock_n ?_ | refine ablock_r ?_ | refine ablock_s ?_ | refine AWp.seq' ?_ | refine AWp.block ?_ | refine AWp.skip ?_ | refine AWp.exit ?_ | refine AWp.ret ?_ | refine AWp.region ?_ | (refine ablock_e ?_ ?_; focus rfl)))
  | (refine AOps.guardu rfl rfl rfl ?_ ?_; focus (simp (disch := (first | omega | (simp only [nx]; first | done | omega))) only [Value.bool.injEq, Bool.and_true, Bool.true_and, Bool.and_false, Bool.false_and, beq_self_eq_true, bne, Bool.not_true, Bool.not_false, sx, nx, dx, ↓reduceIte, reduceCtorEq, Nat.reduceEqDiff, ne_eq, not_false_eq_true, *]; done))
  | ((first | refine AOps.cons2 rfl rfl fun K hK => ?_ | refine AWp.cond rfl fun X Y hX hY => ?_ | refine AOps.guard rfl rfl rfl fun X Y hX hY => ?_ | refine aret_r ?_ | refine aret_n ?_); simp (disch := (first | omega | (simp only [nx]; first | done | omega))) only [acond_bool, aresK, retv, xxq, tfDB, sliceK, bnd, appendK, appsK, copyK, clearK, makeSliceK, buildSliceK, buildK, lookupK, mapPutK, mapOf, convK, allocK, indexK, partK, xxa, xxb, xxc, bne, Int.reduceEq, Int.reduceBEq, Int.reduceNe, Int.reduceBNe, Int.reduceLE, Int.reduceGT, Int.reduceGE, Int.reduceNeg, ↓reduceIte, reduceCtorEq, Nat.reduceEqDiff, Nat.reduceAdd, Nat.reduceMul, Nat.reduceSub, Nat.reduceLT, Int.reduceAdd, Int.reduceSub, Int.reduceMul, Int.reduceLT, Int.reduceToNat, ne_eq, *]; (repeat first | ((with_reducible refine And.intro (fun hc => ?_) (fun hc => absurd hc (by omega))); clear hc) | ((with_reducible refine And.intro (fun hc => absurd hc (by omega)) (fun hc => ?_)); clear hc) | ((with_reducible refine And.intro ?_ ?_); focus ((first | omega | assumption | exact cok _ rfl | exact one_ints _ | exact one_map fun _ => rfl | ((repeat refine one_cons (by first | rfl | assumption) ?_); exact one_nil) | rfl | decide | (intro u hu; cases hu)); done)) | (with_reducible refine (fun hc => ?_ : _ → _); clear hc)); (first | refine hK.out _ _ ?_ | refine ACalls.hk hK ?_ | refine appendK.hk hK ?_ | refine (fun (q : _ ∧ _) => And.intro (hK.out _ _ q.1) (hK.out _ _ q.2)) ?_ | refine hX.out ?_ | refine hY.out ?_ | refine (fun (q : (_ → _) ∧ (_ → _)) => And.intro (fun hc => hX.out (q.1 hc)) (fun hc => hY.out (q.2 hc))) ?_ | refine (fun (q : (_ → _) ∧ (_ → _)) => And.intro (fun hc => hY.out (q.1 hc)) (fun hc => hX.out (q.2 hc))) ?_ | skip))
  exact hb.out) : a := h ⟨hb⟩
theorem hlDB {p b : Prop} (hb : b) (h : p := by simp (disch := (first | omega | (simp only [nx]; first | done | omega))) only [heldIn_iff, List.zipIdx_cons, List.zipIdx_nil, List.map_cons, List.map_nil, xxq, tfDB, sliceK, bnd, appendK, appsK, copyK, clearK, makeSliceK, buildSliceK, buildK, lookupK, mapPutK, mapOf, convK, allocK, indexK, partK, xxa, xxb, xxc, bne, Int.reduceEq, Int.reduceBEq, Int.reduceNe, Int.reduceBNe, Int.reduceLE, Int.reduceGT, Int.reduceGE, Int.reduceNeg, ↓reduceIte, reduceCtorEq, Nat.reduceEqDiff, Nat.reduceAdd, Nat.reduceMul, Nat.reduceSub, Nat.reduceLT, Int.reduceAdd, Int.reduceSub, Int.reduceMul, Int.reduceLT, Int.reduceToNat, ne_eq, *]; first | done | trivial) : p ∧ b := ⟨h, hb⟩
theorem ivDB {p : Prop} (h : p := by first | omega | ((repeat first | exact Ext.refl _ | assumption | refine Ext.push ?_ _ | refine Ext.set ?_ _ (by first | omega | (simp only [nx, *]; omega)) | (apply Ext.up; focus (assumption; done))); done) | (simp (disch := (first | omega | (simp only [nx]; first | done | omega))) only [xxq, xxa, xxb, xxc, bne, Int.reduceEq, Int.reduceBEq, Int.reduceNe, Int.reduceBNe, Int.reduceLE, Int.reduceGT, Int.reduceGE, Int.reduceNeg, ↓reduceIte, reduceCtorEq, Nat.reduceEqDiff, Nat.reduceAdd, Nat.reduceMul, Nat.reduceSub, Nat.reduceLT, Int.reduceAdd, Int.reduceSub, Int.reduceMul, Int.reduceLT, Int.reduceToNat, ne_eq, *, intV_int]; first | done | omega | rfl | exact congrArg (Value.int .i64) (by omega) | ((repeat first | exact Ext.refl _ | assumption | refine Ext.push ?_ _ | refine Ext.set ?_ _ (by first | omega | (simp only [nx, *]; omega)) | (apply Ext.up; focus (assumption; done))); done)) | rfl) : p := h
theorem smDB {a b : Prop} (hb : b) (h : Later b → a := by intro hb; simp (disch := (first | omega | (simp only [nx]; first | done | omega))) only [xxq, xxa, xxb, xxc, bne, Int.reduceEq, Int.reduceBEq, Int.reduceNe, Int.reduceBNe, Int.reduceLE, Int.reduceGT, Int.reduceGE, Int.reduceNeg, ↓reduceIte, reduceCtorEq, Nat.reduceEqDiff, Nat.reduceAdd, Nat.reduceMul, Nat.reduceSub, Nat.reduceLT, Int.reduceAdd, Int.reduceSub, Int.reduceMul, Int.reduceLT, Int.reduceToNat, ne_eq, *, intV_int]; exact hb.out) : a := h ⟨hb⟩
theorem gtDB {A F : Fr} {t : Nat} {v : Value} (h : Ag [] A F) (e : F t = v := by simp (disch := (first | omega | (simp only [nx]; first | done | omega))) only [xxq, xxa, xxb, xxc, bne, Int.reduceEq, Int.reduceBEq, Int.reduceNe, Int.reduceBNe, Int.reduceLE, Int.reduceGT, Int.reduceGE, Int.reduceNeg, ↓reduceIte, reduceCtorEq, Nat.reduceEqDiff, Nat.reduceAdd, Nat.reduceMul, Nat.reduceSub, Nat.reduceLT, Int.reduceAdd, Int.reduceSub, Int.reduceMul, Int.reduceLT, Int.reduceToNat, ne_eq, *, intV_int]; exact rfl) : A t = v := (h.h t rfl).trans e
theorem agDB {D : List Nat} {A F : Fr} (h : Ag D A F := by
  repeat (with_reducible first | exact Ag.refl _ _ | refine Ag.nop ?_ | refine Ag.dead rfl ?_ | (refine Ag.live ?_ ?_; focus exact ivDB) | refine Ag.dr rfl ?_ | (refine Ag.lr ?_ ?_; focus exact ivDB) | refine Ag.up (by assumption) rfl ?_)) : Ag D A F := h
theorem sdDB {p : Prop} (h : p := by first | omega | assumption | (simp (disch := (first | omega | (simp only [nx]; first | done | omega))) only [xxq, tfDB, sliceK, bnd, appendK, appsK, copyK, clearK, makeSliceK, buildSliceK, buildK, lookupK, mapPutK, mapOf, convK, allocK, indexK, partK, xxa, xxb, xxc, bne, Int.reduceEq, Int.reduceBEq, Int.reduceNe, Int.reduceBNe, Int.reduceLE, Int.reduceGT, Int.reduceGE, Int.reduceNeg, ↓reduceIte, reduceCtorEq, Nat.reduceEqDiff, Nat.reduceAdd, Nat.reduceMul, Nat.reduceSub, Nat.reduceLT, Int.reduceAdd, Int.reduceSub, Int.reduceMul, Int.reduceLT, Int.reduceToNat, ne_eq, *]; first | done | omega | rfl)) : p := h
def crs (C : List Cr) : List Value := C.flatMap cr5
theorem crs_nil : crs [] = [] := rfl
theorem crs_cons (x : Cr) (C : List Cr) : crs (x :: C) = cr5 x ++ crs C := rfl
theorem crs_len (C : List Cr) : (crs C).length = C.length * 5 := by
  induction C with
  | nil => rfl
  | cons x C ih => rw [crs_cons, List.length_append, ih, List.length_cons]; simp [cr5]; omega
theorem crs_drop (C : List Cr) (i : Nat) : (crs C).drop (i * 5) = crs (C.drop i) := by
  induction C generalizing i with
  | nil => simp [crs_nil]
  | cons x C ih =>
    cases i with
    | zero => simp
    | succ i =>
      have e : (i + 1) * 5 = i * 5 + 1 + 1 + 1 + 1 + 1 := by omega
      rw [crs_cons, e]
      simp only [cr5, List.cons_append, List.nil_append, List.drop_succ_cons]
      exact ih i
theorem crs_take (C : List Cr) (i : Nat) : (crs C).take (i * 5) = crs (C.take i) := by
  induction C generalizing i with
  | nil => simp [crs_nil]
  | cons x C ih =>
    cases i with
    | zero => simp [crs_nil]
    | succ i =>
      have e : (i + 1) * 5 = i * 5 + 1 + 1 + 1 + 1 + 1 := by omega
      rw [crs_cons, e]
      simp only [cr5, List.cons_append, List.nil_append, List.take_succ_cons]
      rw [ih i]
      rfl
theorem crs_get {C : List Cr} {i : Nat} (h : i < C.length) : ((crs C).drop (i * 5)).take 5 = cr5 (C.getD i cr0) := by
  rw [crs_drop, List.drop_eq_getElem_cons h, crs_cons]
  simp [cr5, h]
theorem crs_app (C E : List Cr) : crs (C ++ E) = crs C ++ crs E := by simp [crs]
theorem crs_set {C : List Cr} {i : Nat} (h : i < C.length) (x : Cr) : (crs C).take (i * 5) ++ cr5 x ++ (crs C).drop (i * 5 + 5) = crs (C.set i x) := by
  have e : i * 5 + 5 = (i + 1) * 5 := by omega
  rw [e, crs_take, crs_drop, List.set_eq_take_append_cons_drop, if_pos h, crs_app, crs_cons]
  simp
theorem crs_rep (n : Nat) : (List.replicate n (cr5 cr0)).flatten = crs (List.replicate n cr0) := by
  induction n with
  | zero => rfl
  | succ n ih => rw [List.replicate_succ, List.replicate_succ, List.flatten_cons, ih]; rfl
theorem zc5 (n : Nat) : (zcells #[I 0, I 0, I 0, I 0, I 0] (n * 5)).toList = crs (List.replicate n cr0) := (zcells_eq [I 0, I 0, I 0, I 0, I 0] n (by decide)).trans (crs_rep n)
theorem take_setd {α : Type} {M C : List α} {j : Nat} {d : α} (hM : M.length = C.length) (ht : M.take j = C.take j) (h : j < C.length) : (M.set j (C.getD j d)).take (j + 1) = C.take (j + 1) := by
  rw [List.take_succ_eq_append_getElem (by rw [List.length_set]; omega), List.take_set_of_le (Nat.le_refl j), ht, List.take_succ_eq_append_getElem h]
  congr 2
  rw [List.getElem_set_self]
  simp [h]
/-- A row of crossings that can be read. -/
def RdC (H : Heap) (v : Value) (C : List Cr) : Prop := ∃ p k, v = .slice p C.length k ∧ (p = none → k = 0) ∧ ∀ i, i < C.length → ∃ b cs ro, p = some ⟨b, 0, none⟩ ∧ b < H.size ∧ H.get b = .cells cs 5 ro ∧ i * 5 + 5 ≤ cs.length ∧ (cs.drop (i * 5)).take 5 = cr5 (C.getD i cr0)
theorem RdC.ext {H H' : Heap} {v : Value} {C : List Cr} (h : RdC H v C) (g : Ext H H') : RdC H' v C := by
  obtain ⟨p, k, rfl, hp, hh⟩ := h
  refine ⟨p, k, rfl, hp, fun j hj => ?_⟩
  obtain ⟨b, cs, ro, rfl, hb, hg, hc⟩ := hh j hj
  exact ⟨b, cs, ro, rfl, Nat.lt_of_lt_of_le hb g.size, by rw [g.get b hb, hg], hc⟩
theorem RdC.one {H : Heap} {v : Value} {C : List Cr} (h : RdC H v C) : v.oneCell' = true := by obtain ⟨p, k, rfl, hp, hh⟩ := h; rfl
/-- A row of crossings of one's own. -/
def OwC (H : Heap) (v : Value) (g : Nat) (C : List Cr) : Prop := ∃ k, v = .slice (some ⟨g, 0, none⟩) C.length k ∧ g < H.size ∧ H.get g = .cells (crs C) 5 false
theorem OwC.rd {H : Heap} {v : Value} {g : Nat} {C : List Cr} (h : OwC H v g C) : RdC H v C := by
  obtain ⟨k, rfl, h1, h2⟩ := h
  exact ⟨_, k, rfl, fun h => (by cases h), fun i hi => ⟨g, _, _, rfl, h1, h2, by rw [crs_len]; omega, crs_get hi⟩⟩
theorem OwC.ext {H H' : Heap} {v : Value} {g : Nat} {C : List Cr} (h : OwC H v g C) (x : Ext H H') : OwC H' v g C := by
  obtain ⟨k, rfl, h1, h2⟩ := h
  exact ⟨k, rfl, Nat.lt_of_lt_of_le h1 x.size, (x.get g h1).trans h2⟩
theorem szCrossingS_c {H : Heap} (p : Option Addr) (n c : Nat) (left : Int) (h0 : 0 ≤ left) (h1 : left ≤ 1048576) (hn : n ≤ 9223372036854775807) : ACalls Try.prog 35 [.slice p n c, I left] H fun v H' => v = I (if left - n < 0 then -1 else left - n) ∧ H' = H := by
  refine ACalls.body Try.func35 rfl Try.ntmps35 (rs := [.tmp 4]) rfl (by simp) rfl fun Q hQ A hA => ?_
  have a0 := hA 0 _ _ rfl
  have a1 := hA 1 _ _ rfl
  clear hA
  by_cases h : left - n < 0
  · rw [if_pos h] at hQ
    repeat' first | refine rnDB ?_ | with_reducible refine And.intro (fun hc => ?_) (fun hc => ?_) | fail
    exact hQ.out _ _ ⟨rfl, rfl⟩
  · rw [if_neg h] at hQ
    repeat' first | refine rnDB ?_ | with_reducible refine And.intro (fun hc => ?_) (fun hc => ?_) | fail
    exact hQ.out _ _ ⟨rfl, rfl⟩
theorem szDiagram_c {H : Heap} {v : Value} {C : List Cr} (z : Int) (hC : RdC H v C) (hS : C.length ≤ 9223372036854775807) (left : Int) (h0 : 0 ≤ left) (h1 : left ≤ 1048576) : ACalls Try.prog 11 [.agg #[v, I z], I left] H fun u H' => u = I (if left - C.length < 0 then -1 else left - C.length) ∧ Ext H H' := by
  obtain ⟨p, k, rfl, hp, hh⟩ := hC
  refine ACalls.body Try.func11 rfl Try.ntmps11 (rs := [.tmp 4]) rfl (by simp) rfl fun Q hQ A hA => ?_
  have a0 := hA 0 _ _ rfl
  have a1 := hA 1 _ _ rfl
  clear hA
  by_cases h : left - (C.length : Int) < 0
  · rw [if_pos h] at hQ
    repeat' first | refine rnDB ?_ | (refine (szCrossingS_c _ _ _ _ h0 h1 hS).mono ?_; rintro v H' ⟨rfl, rfl⟩; rw [if_pos h]) | with_reducible refine And.intro (fun hc => ?_) (fun hc => ?_) | fail
    exact hQ.out _ _ ⟨rfl, by exact ex1⟩
  · rw [if_neg h] at hQ
    repeat' first | refine rnDB ?_ | (refine (szCrossingS_c _ _ _ _ h0 h1 hS).mono ?_; rintro v H' ⟨rfl, rfl⟩; rw [if_neg h]) | with_reducible refine And.intro (fun hc => ?_) (fun hc => ?_) | fail
    exact hQ.out _ _ ⟨rfl, by exact ex1⟩
theorem toCrossing_c {H : Heap} (x : Cr) : ACalls Try.prog 68 [crV x] H fun v H' => v = crV x ∧ Ext H H' := by
  refine ACalls.body Try.func68 rfl Try.ntmps68 (rs := [.cell 2 54]) rfl (by simp) rfl fun Q hQ A hA => ?_
  have a0 := hA 0 _ _ rfl
  clear hA
  repeat' first | refine rnDB ?_ | with_reducible refine And.intro (fun hc => ?_) (fun hc => ?_) | fail
  exact hQ.out _ _ ⟨rfl, by exact ex1⟩
theorem toCrossingS_c {H : Heap} {v : Value} {C : List Cr} (hC : RdC H v C) (hS : C.length ≤ 1048576) : ACalls Try.prog 40 [v] H fun u H' => OwC H' u H.size C ∧ Ext H H' := by
  obtain ⟨p, k, rfl, hp, hh⟩ := hC
  refine ACalls.body Try.func40 rfl Try.ntmps40 (rs := [.tmp 2]) rfl (by simp) rfl fun Q hQ A hA => ?_
  have a0 := hA 0 _ _ rfl
  clear hA
  repeat' first | refine rnDB ?_ | with_reducible refine And.intro (fun hc => ?_) (fun hc => ?_) | fail
  obtain ⟨H1, hH1⟩ : ∃ X, X = H.push (.cells (crs (List.replicate C.length cr0)) 5 false) := ⟨_, rfl⟩
  have e1 : H1.get H.size = .cells (crs (List.replicate C.length cr0)) 5 false := by rw [hH1, get_push_eq rfl]
  have e2 : H1.size = H.size + 1 := by rw [hH1]; rfl
  have e3 : Ext H H1 := by rw [hH1]; exact ex1
  rw [zc5, ← hH1]
  clear hH1
  refine AWp.cut (fun Ac hAc => ?_)
  have c0 := gtDB (t := 0) hAc
  have c3 := gtDB (t := 3) hAc
  have c4 := gtDB (t := 4) hAc
  refine AWp.loop (fun A' H' => ∃ (j : Nat) (M : List Cr), Ag [8, 9, 10, 11, 12, 13, 14, 15, 16, 17, 18, 19, 20, 21] A' (put Ac (some 4) (I j)) ∧ j ≤ C.length ∧ M.length = C.length ∧ M.take j = C.take j ∧ Ext H H' ∧ H'.get H.size = .cells (crs M) 5 false ∧ H.size < H'.size) (fun A' _ => C.length - (intV (A' 4)).toNat) ?_ ?_
  · refine ⟨0, List.replicate C.length cr0, agDB, by omega, by simp, rfl, e3, e1, by omega⟩
  · rintro A' H' ⟨j, M, hA, hj, hM, ht, hx, hg, hs⟩
    have d0 := hA.h 0 rfl
    have d3 := hA.h 3 rfl
    have d4 := hA.h 4 rfl
    by_cases hlt : j < C.length
    · obtain ⟨b, cs, ro, rfl, hb, hg2, hl, hc⟩ := hh j hlt
      have hg3 := (hx.get b hb).trans hg2
      have hset := crs_set (C := M) (i := j) (by omega) (C.getD j cr0)
      have hlen := crs_len M
      rw [cr5] at hc hset
      repeat' first | refine rnDB ?_ | (refine (toCrossing_c (C.getD j cr0)).mono ?_; rintro v H2 ⟨rfl, hx2⟩; have hx2g := hx2.get; have hx2s := hx2.size; (try simp only [nx] at hx2s)) | with_reducible refine And.intro (fun hc => ?_) (fun hc => ?_) | fail
      refine ⟨⟨j + 1, M.set j (C.getD j cr0), agDB, by omega, by simp [hM], take_setd hM ht hlt, ?_, ?_, ?_⟩, ?_⟩
      all_goals first | exact ivDB | refine smDB ?_ | skip
    · obtain rfl : j = C.length := by omega
      rw [List.take_of_length_le (by omega), List.take_of_length_le (by omega)] at ht
      subst ht
      repeat' first | refine rnDB ?_ | with_reducible refine And.intro (fun hc => ?_) (fun hc => ?_) | fail
      exact hQ.out _ _ ⟨⟨_, rfl, hs, hg⟩, hx⟩
end Go.Proofs.Ytpbbfephfmdgmaa.Rai
