/- A part of the walk: what functions of the program do, over an abstract heap. -/
import Derived.Test.YtpbbfephfmdgmaaDA
namespace Go.Proofs.Ytpbbfephfmdgmaa.Rai
open Go TP
set_option linter.unusedVariables false
set_option linter.unusedSimpArgs false
set_option maxRecDepth 20000
theorem tfDU1 : (Try.prog.underlying 65 = some (.slice 2)) ∧ (el Try.prog 65 = some (none, 1)) ∧ (Try.prog.underlying 105 = some (.map 2 2)) ∧ (mk Try.prog 105 = some 2) ∧ (tk Try.prog 2 = some none) ∧ (cz Try.prog 2 = some 1) ∧ (bz Try.prog 2 = some 8) ∧ (zr Try.prog 2 = some (.int .i64 0)) := by
  refine ⟨?_, ?_, ?_, ?_, ?_, ?_, ?_, ?_⟩ <;> kernel_rfl
theorem rnDU1 {a b : Prop} (hb : b) (h : Later b → a := by
  intro hb
  first
  | ((with_reducible first | refine AOps.nil ?_ | refine athen_n ?_ | refine athen_r ?_ | refine athen_e ?_ | refine ablock_n ?_ | refine ablock_r ?_ | refine ablock_s ?_ | refine AWp.seq' ?_ | refine AWp.block ?_ | refine AWp.skip ?_ | refine AWp.exit ?_ | refine AWp.ret ?_ | refine AWp.region ?_ | (refine ablock_e ?_ ?_; focus rfl)); repeat (with_reducible first | refine AOps.nil ?_ | refine athen_n ?_ | refine athen_r ?_ | refine athen_e ?_ | refine ablock_n ?_ | refine ablock_r ?_ | refine ablock_s ?_ | refine AWp.seq' ?_ | refine AWp.block ?_ | refine AWp.skip ?_ | refine AWp.exit ?_ | refine AWp.ret ?_ | refine AWp.region ?_ | (refine ablock_e ?_ ?_; focus rfl)))
  | (refine AOps.guardu rfl rfl rfl ?_ ?_; focus (simp (disch := (first | omega | (simp only [nx]; first | done | omega))) only [Value.bool.injEq, Bool.and_true, Bool.true_and, Bool.and_false, Bool.false_and, beq_self_eq_true, bne, Bool.not_true, Bool.not_false, sx, nx, dx, ↓reduceIte, reduceCtorEq, Nat.reduceEqDiff, ne_eq, not_false_eq_true, *]; done))
  | ((first | refine AOps.cons2 rfl rfl fun K hK => ?_ | refine AWp.cond rfl fun X Y hX hY => ?_ | refine AOps.guard rfl rfl rfl fun X Y hX hY => ?_ | refine aret_r ?_ | refine aret_n ?_); simp (disch := (first | omega | (simp only [nx]; first | done | omega))) only [acond_bool, aresK, retv, xxq, tfDU1, sliceK, bnd, appendK, appsK, copyK, clearK, makeSliceK, buildSliceK, buildK, lookupK, mapPutK, mapOf, convK, allocK, indexK, partK, xxa, xxb, xxc, bne, Int.reduceEq, Int.reduceBEq, Int.reduceNe, Int.reduceBNe, Int.reduceLE, Int.reduceGT, Int.reduceGE, Int.reduceNeg, ↓reduceIte, reduceCtorEq, Nat.reduceEqDiff, Nat.reduceAdd, Nat.reduceMul, Nat.reduceSub, Nat.reduceLT, Int.reduceAdd, Int.reduceSub, Int.reduceMul, Int.reduceLT, Int.reduceToNat, ne_eq, *]; (repeat first | ((with_reducible refine And.intro (fun hc => ?_) (fun hc => absurd hc (by omega))); clear hc) | ((with_reducible refine And.intro (fun hc => absurd hc (by omega)) (fun hc => ?_)); clear hc) | ((with_reducible refine And.intro ?_ ?_); focus ((first | omega | assumption | exact cok _ rfl | exact one_ints _ | exact one_map fun _ => rfl | ((repeat refine one_cons (by first | rfl | assumption) ?_); exact one_nil) | rfl | decide | (intro u hu; cases hu)); done)) | (with_reducible refine (fun hc => ?_ : _ → _); clear hc)); (first | refine hK.out _ _ ?_ | refine ACalls.hk hK ?_ | refine appendK.hk hK ?_ | refine (fun (q : _ ∧ _) => And.intro (hK.out _ _ q.1) (hK.out _ _ q.2)) ?_ | refine hX.out ?_ | refine hY.out ?_ | refine (fun (q : (_ → _) ∧ (_ → _)) => And.intro (fun hc => hX.out (q.1 hc)) (fun hc => hY.out (q.2 hc))) ?_ | refine (fun (q : (_ → _) ∧ (_ → _)) => And.intro (fun hc => hY.out (q.1 hc)) (fun hc => hX.out (q.2 hc))) ?_ | skip))
  exact hb.out) : a := h ⟨hb⟩
theorem rdDU1 {a b : Prop} (hb : b) (h : Later b → a := by
  intro hb
  first
  | with_reducible refine APl.nil ?_
  | ((first | refine APl.pure2 rfl rfl rfl rfl fun Kx hKx => ?_ | refine APl.load rfl rfl rfl fun Kx hKx => ?_ | refine APl.slice rfl rfl rfl fun Kx hKx => ?_ | refine APl.act2 rfl rfl rfl rfl fun Kx hKx => ?_); simp (disch := (first | omega | (simp only [nx]; first | done | omega))) only [heldIn_iff, List.zipIdx_cons, List.zipIdx_nil, List.map_cons, List.map_nil, xxq, tfDU1, sliceK, bnd, appendK, appsK, copyK, clearK, makeSliceK, buildSliceK, buildK, lookupK, mapPutK, mapOf, convK, allocK, indexK, partK, xxa, xxb, xxc, bne, Int.reduceEq, Int.reduceBEq, Int.reduceNe, Int.reduceBNe, Int.reduceLE, Int.reduceGT, Int.reduceGE, Int.reduceNeg, ↓reduceIte, reduceCtorEq, Nat.reduceEqDiff, Nat.reduceAdd, Nat.reduceMul, Nat.reduceSub, Nat.reduceLT, Int.reduceAdd, Int.reduceSub, Int.reduceMul, Int.reduceLT, Int.reduceToNat, ne_eq, *]; (repeat first | ((with_reducible refine And.intro (fun hc => ?_) (fun hc => absurd hc (by omega))); clear hc) | ((with_reducible refine And.intro (fun hc => absurd hc (by omega)) (fun hc => ?_)); clear hc) | ((with_reducible refine And.intro ?_ ?_); focus ((first | omega | assumption | exact cok _ rfl | exact one_ints _ | exact one_map fun _ => rfl | ((repeat refine one_cons (by first | rfl | assumption) ?_); exact one_nil) | rfl | decide | (intro u hu; cases hu)); done)) | (with_reducible refine (fun hc => ?_ : _ → _); clear hc)); (first | refine hKx.out _ ?_ | refine hKx.out _ _ ?_ | refine ACalls.hkx hKx ?_ | refine (fun (q : _ ∧ _) => And.intro (hKx.out _ q.1) (hKx.out _ q.2)) ?_ | refine (fun (q : (_ → _) ∧ _) => And.intro (fun hc => hKx.out _ (q.1 hc)) (hKx.out _ q.2)) ?_ | (refine hKx.out _ _ ?_ ?_; focus (simp (disch := (first | omega | (simp only [nx]; first | done | omega))) only [heldIn_iff, List.zipIdx_cons, List.zipIdx_nil, List.map_cons, List.map_nil, xxq, tfDU1, sliceK, bnd, appendK, appsK, copyK, clearK, makeSliceK, buildSliceK, buildK, lookupK, mapPutK, mapOf, convK, allocK, indexK, partK, xxa, xxb, xxc, bne, Int.reduceEq, Int.reduceBEq, Int.reduceNe, Int.reduceBNe, Int.reduceLE, Int.reduceGT, Int.reduceGE, Int.reduceNeg, ↓reduceIte, reduceCtorEq, Nat.reduceEqDiff, Nat.reduceAdd, Nat.reduceMul, Nat.reduceSub, Nat.reduceLT, Int.reduceAdd, Int.reduceSub, Int.reduceMul, Int.reduceLT, Int.reduceToNat, ne_eq, *]; first | done | trivial))))
  exact hb.out) : a := h ⟨hb⟩
theorem hlDU1 {p b : Prop} (hb : b) (h : p := by simp (disch := (first | omega | (simp only [nx]; first | done | omega))) only [heldIn_iff, List.zipIdx_cons, List.zipIdx_nil, List.map_cons, List.map_nil, xxq, tfDU1, sliceK, bnd, appendK, appsK, copyK, clearK, makeSliceK, buildSliceK, buildK, lookupK, mapPutK, mapOf, convK, allocK, indexK, partK, xxa, xxb, xxc, bne, Int.reduceEq, Int.reduceBEq, Int.reduceNe, Int.reduceBNe, Int.reduceLE, Int.reduceGT, Int.reduceGE, Int.reduceNeg, ↓reduceIte, reduceCtorEq, Nat.reduceEqDiff, Nat.reduceAdd, Nat.reduceMul, Nat.reduceSub, Nat.reduceLT, Int.reduceAdd, Int.reduceSub, Int.reduceMul, Int.reduceLT, Int.reduceToNat, ne_eq, *]; first | done | trivial) : p ∧ b := ⟨h, hb⟩
theorem ivDU1 {p : Prop} (h : p := by first | omega | ((repeat first | exact Ext.refl _ | assumption | refine Ext.push ?_ _ | refine Ext.set ?_ _ (by first | omega | (simp only [nx, *]; omega)) | (apply Ext.up; focus (assumption; done))); done) | (simp (disch := (first | omega | (simp only [nx]; first | done | omega))) only [xxq, xxa, xxb, xxc, bne, Int.reduceEq, Int.reduceBEq, Int.reduceNe, Int.reduceBNe, Int.reduceLE, Int.reduceGT, Int.reduceGE, Int.reduceNeg, ↓reduceIte, reduceCtorEq, Nat.reduceEqDiff, Nat.reduceAdd, Nat.reduceMul, Nat.reduceSub, Nat.reduceLT, Int.reduceAdd, Int.reduceSub, Int.reduceMul, Int.reduceLT, Int.reduceToNat, ne_eq, *, intV_int]; first | done | omega | rfl | exact congrArg (Value.int .i64) (by omega) | ((repeat first | exact Ext.refl _ | assumption | refine Ext.push ?_ _ | refine Ext.set ?_ _ (by first | omega | (simp only [nx, *]; omega)) | (apply Ext.up; focus (assumption; done))); done)) | rfl) : p := h
theorem smDU1 {a b : Prop} (hb : b) (h : Later b → a := by intro hb; simp (disch := (first | omega | (simp only [nx]; first | done | omega))) only [xxq, xxa, xxb, xxc, bne, Int.reduceEq, Int.reduceBEq, Int.reduceNe, Int.reduceBNe, Int.reduceLE, Int.reduceGT, Int.reduceGE, Int.reduceNeg, ↓reduceIte, reduceCtorEq, Nat.reduceEqDiff, Nat.reduceAdd, Nat.reduceMul, Nat.reduceSub, Nat.reduceLT, Int.reduceAdd, Int.reduceSub, Int.reduceMul, Int.reduceLT, Int.reduceToNat, ne_eq, *, intV_int]; exact hb.out) : a := h ⟨hb⟩
theorem gtDU1 {A F : Fr} {t : Nat} {v : Value} (h : Ag [] A F) (e : F t = v := by simp (disch := (first | omega | (simp only [nx]; first | done | omega))) only [xxq, xxa, xxb, xxc, bne, Int.reduceEq, Int.reduceBEq, Int.reduceNe, Int.reduceBNe, Int.reduceLE, Int.reduceGT, Int.reduceGE, Int.reduceNeg, ↓reduceIte, reduceCtorEq, Nat.reduceEqDiff, Nat.reduceAdd, Nat.reduceMul, Nat.reduceSub, Nat.reduceLT, Int.reduceAdd, Int.reduceSub, Int.reduceMul, Int.reduceLT, Int.reduceToNat, ne_eq, *, intV_int]; exact rfl) : A t = v := (h.h t rfl).trans e
theorem agDU1 {D : List Nat} {A F : Fr} (h : Ag D A F := by
  repeat (with_reducible first | exact Ag.refl _ _ | refine Ag.nop ?_ | refine Ag.dead rfl ?_ | (refine Ag.live ?_ ?_; focus exact ivDU1) | refine Ag.dr rfl ?_ | (refine Ag.lr ?_ ?_; focus exact ivDU1) | refine Ag.up (by assumption) rfl ?_)) : Ag D A F := h
theorem sdDU1 {p : Prop} (h : p := by first | omega | assumption | (simp (disch := (first | omega | (simp only [nx]; first | done | omega))) only [xxq, tfDU1, sliceK, bnd, appendK, appsK, copyK, clearK, makeSliceK, buildSliceK, buildK, lookupK, mapPutK, mapOf, convK, allocK, indexK, partK, xxa, xxb, xxc, bne, Int.reduceEq, Int.reduceBEq, Int.reduceNe, Int.reduceBNe, Int.reduceLE, Int.reduceGT, Int.reduceGE, Int.reduceNeg, ↓reduceIte, reduceCtorEq, Nat.reduceEqDiff, Nat.reduceAdd, Nat.reduceMul, Nat.reduceSub, Nat.reduceLT, Int.reduceAdd, Int.reduceSub, Int.reduceMul, Int.reduceLT, Int.reduceToNat, ne_eq, *]; first | done | omega | rfl)) : p := h
/-- A row of whole numbers of one's own. -/
def OwnI (H0 H : Heap) (v : Value) (l : List Int) : Prop := (v = .slice none 0 0 ∧ l = []) ∨ ∃ g, v = .slice (some ⟨g, 0, none⟩) l.length 0 ∧ H0.size ≤ g ∧ g < H.size ∧ H.get g = .cells (ints l) 1 false
def RowI (H : Heap) (v : Value) (l : List Int) : Prop := ∃ p k, v = .slice p l.length k ∧ (p = none → k = 0) ∧ ∀ j, j < l.length → ∃ b cs ro, p = some ⟨b, 0, none⟩ ∧ b < H.size ∧ H.get b = .cells cs 1 ro ∧ cs[j]? = some (I (l.getD j 0))
theorem RowI.ext {H H' : Heap} {v : Value} {l : List Int} (h : RowI H v l) (g : Ext H H') : RowI H' v l := by
  obtain ⟨p, k, rfl, hp, hh⟩ := h
  refine ⟨p, k, rfl, hp, fun j hj => ?_⟩
  obtain ⟨b, cs, ro, rfl, hb, hg, hc⟩ := hh j hj
  exact ⟨b, cs, ro, rfl, Nat.lt_of_lt_of_le hb g.size, by rw [g.get b hb, hg], hc⟩
theorem OwnI.ext {H0 H H' : Heap} {v : Value} {l : List Int} (h : OwnI H0 H v l) (g : Ext H H') : OwnI H0 H' v l := by
  rcases h with ⟨rfl, rfl⟩ | ⟨b, rfl, h1, h2, h3⟩
  · exact .inl ⟨rfl, rfl⟩
  · exact .inr ⟨b, rfl, h1, Nat.lt_of_lt_of_le h2 g.size, by rw [g.get b h2, h3]⟩
theorem OwnI.row {H0 H : Heap} {v : Value} {l : List Int} (h : OwnI H0 H v l) : RowI H v l := by
  rcases h with ⟨rfl, rfl⟩ | ⟨b, rfl, h1, h2, h3⟩
  · exact ⟨none, 0, rfl, fun _ => rfl, fun j hj => by simp at hj⟩
  · exact ⟨_, 0, rfl, fun h => (by cases h), fun j hj => ⟨b, _, _, rfl, h2, h3, ints_get hj⟩⟩
theorem OwnI.below {H0 H1 H : Heap} {v : Value} {l : List Int} (h : OwnI H1 H v l) (g : H0.size ≤ H1.size) : OwnI H0 H v l := by
  rcases h with ⟨rfl, rfl⟩ | ⟨b, rfl, h1, h2, h3⟩
  · exact .inl ⟨rfl, rfl⟩
  · exact .inr ⟨b, rfl, Nat.le_trans g h1, h2, h3⟩
set_option maxHeartbeats 1000000 in
theorem counting_c {H : Heap} (n : Nat) (hn : n ≤ 100000) : ACalls Try.prog 89 [I n] H fun v H' => OwnI H H' v (cntL n) ∧ Ext H H' := by
  refine ACalls.body Try.func89 rfl Try.ntmps89 (rs := [.tmp 2]) rfl (by simp) rfl fun Q hQ A hA => ?_
  have a0 := hA 0 _ _ rfl
  clear hA
  repeat' first | refine rnDU1 ?_ | with_reducible refine And.intro (fun hc => ?_) (fun hc => ?_) | fail
  refine AWp.loop (fun A H' => ∃ j : Nat, j ≤ n ∧ A 5 = I n ∧ A 6 = I j ∧ OwnI H H' (A 3) (cntL j) ∧ Ext H H') (fun A _ => n - (intV (A 6)).toNat) ?_ ?_
  · refine ⟨0, by omega, ?_, ?_, .inl ⟨?_, rfl⟩, ?_⟩
    all_goals first | exact ivDU1 | refine smDU1 ?_ | skip
  · rintro A H' ⟨j, hj, b5, b6, hO, hx⟩
    have hcl := cntL_len j
    have hcs := cntL_succ j
    by_cases hlt : j < n
    · rcases hO with ⟨b3, hnil⟩ | ⟨g, b3, hg1, hg2, hg⟩
      · obtain rfl : j = 0 := by rw [hnil] at hcl; simpa using hcl.symm
        have hgx := hx.size
        repeat' first | refine rnDU1 ?_ | with_reducible refine And.intro (fun hc => ?_) (fun hc => ?_) | fail
        refine ⟨⟨0 + 1, by omega, ?_, ?_, .inr ⟨H'.size + 1, ?_, ?_, ?_, ?_⟩, ?_⟩, ?_⟩
        all_goals first | exact ivDU1 | refine smDU1 ?_ | skip
      · have hgx := hx.size
        repeat' first | refine rnDU1 ?_ | with_reducible refine And.intro (fun hc => ?_) (fun hc => ?_) | fail
        refine ⟨⟨j + 1, by omega, ?_, ?_, .inr ⟨H'.size + 1, ?_, ?_, ?_, ?_⟩, ?_⟩, ?_⟩
        all_goals first | exact ivDU1 | refine smDU1 ?_ | skip
    · obtain rfl : j = n := by omega
      repeat' first | refine rnDU1 ?_ | with_reducible refine And.intro (fun hc => ?_) (fun hc => ?_) | fail
      exact hQ.out _ _ ⟨hO, hx⟩
set_option maxHeartbeats 1000000 in
theorem union_c {H : Heap} {g c : Nat} {l : List Int} {i k : Int} {n : Nat} (hg : H.get g = .cells (ints l) 1 false) (hn : l.length = n) (hl : n ≤ 100000) (hi0 : 0 ≤ i) (hi : i < n) (hk0 : 0 ≤ k) (hk : k < n) :
    ACalls Try.prog 90 [.slice (some ⟨g, 0, none⟩) n c, I i, I k] H fun v H' => v = undef ∧ H' = H.set g (.cells (ints (unionL l i.toNat k.toNat)) 1 false) := by
  obtain ⟨i, rfl⟩ : ∃ q : Nat, i = q := ⟨i.toNat, by omega⟩
  obtain ⟨k, rfl⟩ : ∃ q : Nat, k = q := ⟨k.toNat, by omega⟩
  subst hn
  simp only [Int.toNat_natCast]
  refine ACalls.body Try.func90 rfl Try.ntmps90 (rs := []) rfl (by simp) rfl fun Q hQ A hA => ?_
  have a0 := hA 0 _ _ rfl
  have a1 := hA 1 _ _ rfl
  have a2 := hA 2 _ _ rfl
  clear hA
  have hgi := ints_get (l := l) (i := i) (by omega)
  have hgk := ints_get (l := l) (i := k) (by omega)
  refine AWp.seq' ?_
  refine AWp.planned [0,1,2,3,4,5,6,7,8,9] mixed (by kernel_rfl) ?_
  repeat' first | refine rdDU1 ?_ | with_reducible refine And.intro (fun hc => ?_) ?_ | with_reducible refine And.intro ?_ ?_ | fail
  repeat' first | refine rnDU1 ?_ | with_reducible refine And.intro (fun hc => ?_) (fun hc => ?_) | fail
  refine AWp.loop (fun A H' => ∃ n : Nat, n ≤ l.length ∧ A 0 = .slice (some ⟨g, 0, none⟩) l.length c ∧ A 6 = I (l.getD k 0) ∧ A 7 = I (l.getD i 0) ∧ A 18 = .slice (some ⟨g, 0, none⟩) l.length c ∧ A 19 = I l.length ∧ A 20 = I n ∧
    H' = H.set g (.cells (ints (turnTo (l.getD k 0) (l.getD i 0) l n)) 1 false)) (fun A _ => l.length - (intV (A 20)).toNat) ?_ ?_
  · refine ⟨0, by omega, ?_, ?_, ?_, ?_, ?_, ?_, ?_⟩
    all_goals first | exact ivDU1 | refine smDU1 ?_ | skip
    rw [set_self]; simp [turnTo, turnL, hg]
  · rintro A H' ⟨n, hn, b0, b6, b7, b18, b19, b20, rfl⟩
    have tl := turnTo_len (l.getD k 0) (l.getD i 0) l n
    by_cases hlt : n < l.length
    · have hget := turnTo_get (l.getD k 0) (l.getD i 0) l n hlt
      have gg := ints_get (l := turnTo (l.getD k 0) (l.getD i 0) l n) (i := n) (by omega)
      rw [hget] at gg
      by_cases hy : l.getD n 0 = l.getD k 0
      · have yes := turnTo_yes (l.getD k 0) (l.getD i 0) l n hlt hy
        have hyb : (l.getD n 0 == l.getD k 0) = true := by rw [beq_iff_eq]; exact hy
        clear hget hy
        generalize l.getD n 0 = x at *
        repeat' first | refine rnDU1 ?_ | with_reducible refine And.intro (fun hc => ?_) (fun hc => ?_) | fail
        refine ⟨⟨n + 1, by omega, ?_, ?_, ?_, ?_, ?_, ?_, ?_⟩, ?_⟩
        all_goals first | exact ivDU1 | (simp (disch := (first | omega | (simp only [nx]; first | done | omega))) only [xxq, xxa, xxb, xxc, bne, Int.reduceEq, Int.reduceBEq, Int.reduceNe, Int.reduceBNe, Int.reduceLE, Int.reduceGT, Int.reduceGE, Int.reduceNeg, ↓reduceIte, reduceCtorEq, Nat.reduceEqDiff, Nat.reduceAdd, Nat.reduceMul, Nat.reduceSub, Nat.reduceLT, Int.reduceAdd, Int.reduceSub, Int.reduceMul, Int.reduceLT, Int.reduceToNat, ne_eq, *, yes, set_set, intV_int]; first | done | omega | rfl | exact congrArg (Value.int .i64) (by omega) | exact ex1 | skip) | skip
      · have no := turnTo_no (l.getD k 0) (l.getD i 0) l n hlt hy
        have hyb : (l.getD n 0 == l.getD k 0) = false := by rw [beq_eq_false_iff_ne]; exact hy
        clear hget hy
        generalize l.getD n 0 = x at *
        repeat' first | refine rnDU1 ?_ | with_reducible refine And.intro (fun hc => ?_) (fun hc => ?_) | fail
        refine ⟨⟨n + 1, by omega, ?_, ?_, ?_, ?_, ?_, ?_, ?_⟩, ?_⟩
        all_goals first | exact ivDU1 | (simp (disch := (first | omega | (simp only [nx]; first | done | omega))) only [xxq, xxa, xxb, xxc, bne, Int.reduceEq, Int.reduceBEq, Int.reduceNe, Int.reduceBNe, Int.reduceLE, Int.reduceGT, Int.reduceGE, Int.reduceNeg, ↓reduceIte, reduceCtorEq, Nat.reduceEqDiff, Nat.reduceAdd, Nat.reduceMul, Nat.reduceSub, Nat.reduceLT, Int.reduceAdd, Int.reduceSub, Int.reduceMul, Int.reduceLT, Int.reduceToNat, ne_eq, *, no, intV_int]; first | done | omega | rfl | exact congrArg (Value.int .i64) (by omega) | exact ex1 | skip) | skip
    · obtain rfl : n = l.length := by omega
      have ta := turnTo_all (l.getD k 0) (l.getD i 0) l
      repeat' first | refine rnDU1 ?_ | with_reducible refine And.intro (fun hc => ?_) (fun hc => ?_) | fail
      refine hQ.out _ _ ⟨rfl, ?_⟩
      rfl
def mapL (l : List Int) : List (Int × Value) := l.zipIdx.map fun x => (x.1, I x.2)
theorem mapL_len (l : List Int) : (mapL l).length = l.length := by simp [mapL]
theorem mapL_get (l : List Int) (x : Int) : mget (mapL l) x = if x ∈ l then some (I (l.idxOf x)) else none := by
  have key : ∀ (l : List Int) (k : Nat), mget ((l.zipIdx k).map fun x => (x.1, I x.2)) x = if x ∈ l then some (I ((k + l.idxOf x : Nat) : Int)) else none := by
    intro l
    induction l with
    | nil => intro k; simp [mget]
    | cons y l ih =>
      intro k
      simp only [mget, List.zipIdx_cons, List.map_cons, List.find?_cons]
      by_cases h : y = x
      · subst h; simp
      · have h1 : (y == x) = false := by simpa using h
        have := ih (k + 1)
        simp only [mget] at this
        simp only [h1]
        rw [this, List.idxOf_cons, h1]
        have : x ∈ y :: l ↔ x ∈ l := by simp [Ne.symm h]
        simp only [this, cond_false]
        split
        · congr 3; omega
        · rfl
  have := key l 0
  simpa [mapL] using this
theorem mapL_put (l : List Int) (x : Int) (h : ¬ x ∈ l) : mput (mapL l) x (I l.length) = mapL (l ++ [x]) := by
  have hn : (mapL l).findIdx? (fun p => p.1 == x) = none := by
    rw [List.findIdx?_eq_none_iff]
    intro p hp
    obtain ⟨q, hq, rfl⟩ := List.mem_map.1 hp
    have : q.1 ∈ l := by
      obtain ⟨i, hi, e⟩ := List.mem_iff_getElem.1 hq
      rw [← e]
      simp at hi
      simp
    simp only [beq_eq_false_iff_ne, ne_eq]
    intro e; exact h (e ▸ this)
  unfold mput
  rw [hn]
  simp [mapL, List.zipIdx_append]
set_option maxHeartbeats 1000000 in
theorem max_c {H : Heap} {v : Value} {l : List Int} (h : RowI H v l) (h0 : 0 < l.length) (hl : l.length ≤ 100000) : ACalls Try.prog 88 [v] H fun u H' => u = I (maxTo l l.length) ∧ H' = H := by
  obtain ⟨p, k, rfl, hp, hh⟩ := h
  obtain ⟨b, cs, ro, rfl, hb, hg, hc0⟩ := hh 0 h0
  have hh : ∀ j, j < l.length → cs[j]? = some (I (l.getD j 0)) := by
    intro j hj
    obtain ⟨b', cs', ro', e, _, hg', hc⟩ := hh j hj
    injection e with e; injection e with e; subst e
    rw [hg] at hg'; injection hg' with e1; subst e1
    exact hc
  refine ACalls.body Try.func88 rfl Try.ntmps88 (rs := [.tmp 2]) rfl (by simp) rfl fun Q hQ A hA => ?_
  have a0 := hA 0 _ _ rfl
  clear hA
  repeat' first | refine rnDU1 ?_ | with_reducible refine And.intro (fun hc => ?_) (fun hc => ?_) | fail
  refine AWp.loop (fun A H' => ∃ j : Nat, 1 ≤ j ∧ j ≤ l.length ∧ A 0 = .slice (some ⟨b, 0, none⟩) l.length k ∧ A 3 = I (maxTo l j) ∧ A 4 = I j ∧ H' = H) (fun A _ => l.length - (intV (A 4)).toNat) ?_ ?_
  · refine ⟨1, by omega, by omega, ?_, ?_, ?_, ?_⟩
    all_goals first | exact ivDU1 | (simp (disch := (first | omega | (simp only [nx]; first | done | omega))) only [xxq, xxa, xxb, xxc, bne, Int.reduceEq, Int.reduceBEq, Int.reduceNe, Int.reduceBNe, Int.reduceLE, Int.reduceGT, Int.reduceGE, Int.reduceNeg, ↓reduceIte, reduceCtorEq, Nat.reduceEqDiff, Nat.reduceAdd, Nat.reduceMul, Nat.reduceSub, Nat.reduceLT, Int.reduceAdd, Int.reduceSub, Int.reduceMul, Int.reduceLT, Int.reduceToNat, ne_eq, *, maxTo, intV_int]; first | done | omega | rfl | exact congrArg (Value.int .i64) (by omega) | exact ex1 | skip) | skip
  · rintro A H' ⟨j, hj0, hj, b0, b3, b4, rfl⟩
    by_cases hlt : j < l.length
    · have hcj := hh j hlt
      have hm : maxTo l (j + 1) = max (maxTo l j) (l.getD j 0) := rfl
      clear hh
      repeat' first | refine rnDU1 ?_ | with_reducible refine And.intro (fun hc => ?_) (fun hc => ?_) | fail
      refine ⟨⟨j + 1, by omega, by omega, ?_, ?_, ?_, ?_⟩, ?_⟩
      all_goals first | exact ivDU1 | refine smDU1 ?_ | skip
    · obtain rfl : j = l.length := by omega
      repeat' first | refine rnDU1 ?_ | with_reducible refine And.intro (fun hc => ?_) (fun hc => ?_) | fail
      exact hQ.out _ _ ⟨rfl, rfl⟩
theorem maxTo_bd {l : List Int} (hb : ∀ x ∈ l, 0 ≤ x ∧ x ≤ 100000) : ∀ k, 0 ≤ maxTo l k ∧ maxTo l k ≤ 100000 := by
  have hg : ∀ j, 0 ≤ l.getD j 0 ∧ l.getD j 0 ≤ 100000 := by
    intro j
    by_cases hj : j < l.length
    · have := hb _ (List.getElem_mem hj); simpa [hj] using this
    · simp [List.getD_eq_getElem?_getD, List.getElem?_eq_none (Nat.le_of_not_lt hj)]
  intro k
  induction k with
  | zero => exact hg 0
  | succ k ih => have := hg k; unfold maxTo; omega
theorem classCount_c {H : Heap} {v : Value} {l : List Int} (h : RowI H v l) (hl : l.length ≤ 100000) (hb : ∀ x ∈ l, 0 ≤ x ∧ x ≤ 100000) : ACalls Try.prog 76 [v] H fun u H' => u = I (classN l) ∧ H' = H := by
  have h' := h
  obtain ⟨p, k, rfl, hp, hh⟩ := h
  have hmb := maxTo_bd hb l.length
  clear hh
  refine ACalls.body Try.func76 rfl Try.ntmps76 (rs := [.tmp 2]) rfl (by simp) rfl fun Q hQ A hA => ?_
  have a0 := hA 0 _ _ rfl
  clear hA
  by_cases h0 : l.length = 0
  · have hc : classN l = 0 := by unfold classN; rw [if_pos h0]
    have h0b : ((l.length : Int) == 0) = true := by rw [beq_iff_eq]; omega
    repeat' first | refine rnDU1 ?_ | with_reducible refine And.intro (fun hc => ?_) (fun hc => ?_) | fail
    exact hQ.out _ _ ⟨by rw [hc], rfl⟩
  · have hc : classN l = maxTo l l.length + 1 := by unfold classN; rw [if_neg h0]
    have h0b : ((l.length : Int) == 0) = false := by rw [beq_eq_false_iff_ne]; omega
    repeat' first | refine rnDU1 ?_ | (refine (max_c h' (by omega) hl).mono ?_; rintro v H1 ⟨rfl, rfl⟩) | with_reducible refine And.intro (fun hc => ?_) (fun hc => ?_) | fail
    exact hQ.out _ _ ⟨by rw [hc], rfl⟩
set_option maxHeartbeats 1000000 in
theorem numbered_c {H : Heap} {v : Value} {l : List Int} (h : RowI H v l) (hl : l.length ≤ 100000) : ACalls Try.prog 91 [v] H fun u H' => OwnI H H' u (numL l) ∧ Ext H H' := by
  obtain ⟨p, k, rfl, hp, hh⟩ := h
  refine ACalls.body Try.func91 rfl Try.ntmps91 (rs := [.tmp 2]) rfl (by simp) rfl fun Q hQ A hA => ?_
  have a0 := hA 0 _ _ rfl
  clear hA
  repeat' first | refine rnDU1 ?_ | with_reducible refine And.intro (fun hc => ?_) (fun hc => ?_) | fail
  refine AWp.loop (fun A H' => ∃ j : Nat, j ≤ l.length ∧ A 3 = .map (some H.size) ∧ A 10 = .slice p l.length k ∧ A 11 = I l.length ∧ A 12 = I j ∧ H.size < H'.size ∧ H'.get H.size = .map (mapL (nst (l.take j)).1) ∧ OwnI (H.push .absent) H' (A 4) (nst (l.take j)).2 ∧ Ext H H') (fun A _ => l.length - (intV (A 12)).toNat) ?_ ?_
  · refine ⟨0, by omega, ?_, ?_, ?_, ?_, ?_, ?_, .inl ⟨?_, ?_⟩, ?_⟩
    all_goals first | exact ivDU1 | (simp (disch := (first | omega | (simp only [nx]; first | done | omega))) only [xxq, xxa, xxb, xxc, bne, Int.reduceEq, Int.reduceBEq, Int.reduceNe, Int.reduceBNe, Int.reduceLE, Int.reduceGT, Int.reduceGE, Int.reduceNeg, ↓reduceIte, reduceCtorEq, Nat.reduceEqDiff, Nat.reduceAdd, Nat.reduceMul, Nat.reduceSub, Nat.reduceLT, Int.reduceAdd, Int.reduceSub, Int.reduceMul, Int.reduceLT, Int.reduceToNat, ne_eq, *, nst, mapL, intV_int]; first | done | omega | rfl | exact congrArg (Value.int .i64) (by omega) | exact ex1 | skip) | skip
  · rintro A H' ⟨j, hj, b3, b10, b11, b12, hs, hm, hO, hx⟩
    by_cases hlt : j < l.length
    · obtain ⟨b, cs, ro, rfl, hb, hg, hc⟩ := hh j hlt
      have hg' := (hx.get b hb).trans hg
      have hst : nst (l.take (j + 1)) = nstep (nst (l.take j)) (l.getD j 0) := by
        rw [List.take_succ_eq_append_getElem hlt, nst_snoc]
        congr 1
        simp [hlt]
      have hn1 := nst_len1 (l.take j)
      have hn2 := nst_len2 (l.take j)
      have htl : (l.take j).length = j := by rw [List.length_take]; omega
      rw [htl] at hn1 hn2
      clear hh htl
      generalize l.getD j 0 = x at *
      generalize hs0 : nst (l.take j) = s at *
      obtain ⟨s1, s2⟩ := s
      dsimp only at *
      have hmg := mapL_get s1 x
      have hml := mapL_len s1
      by_cases hin : x ∈ s1
      · have hst' : nst (l.take (j + 1)) = (s1, s2 ++ [(s1.idxOf x : Int)]) := by rw [hst]; simp [nstep, hin]
        rw [if_pos hin] at hmg
        clear hst hs0
        have hxs := hx.size
        rcases hO with ⟨b4, hnil⟩ | ⟨g, b4, hg1, hg2, hg3⟩
        · subst hnil
          repeat' first | refine rnDU1 ?_ | with_reducible refine And.intro (fun hc => ?_) (fun hc => ?_) | fail
          refine ⟨⟨j + 1, by omega, ?_, ?_, ?_, ?_, ?_, ?_, .inr ⟨H'.size + 1, ?_, ?_, ?_, ?_⟩, ?_⟩, ?_⟩
          all_goals first | exact ivDU1 | (simp (disch := (first | omega | (simp only [nx]; first | done | omega))) only [xxq, xxa, xxb, xxc, bne, Int.reduceEq, Int.reduceBEq, Int.reduceNe, Int.reduceBNe, Int.reduceLE, Int.reduceGT, Int.reduceGE, Int.reduceNeg, ↓reduceIte, reduceCtorEq, Nat.reduceEqDiff, Nat.reduceAdd, Nat.reduceMul, Nat.reduceSub, Nat.reduceLT, Int.reduceAdd, Int.reduceSub, Int.reduceMul, Int.reduceLT, Int.reduceToNat, ne_eq, *, hst', List.length_append, List.length_cons, List.length_nil, intV_int]; first | done | omega | rfl | exact congrArg (Value.int .i64) (by omega) | exact ex1 | skip) | skip
          rw [show j = 0 by simpa using hn2.symm]
        · simp only [nx] at hg1
          repeat' first | refine rnDU1 ?_ | with_reducible refine And.intro (fun hc => ?_) (fun hc => ?_) | fail
          refine ⟨⟨j + 1, by omega, ?_, ?_, ?_, ?_, ?_, ?_, .inr ⟨H'.size + 1, ?_, ?_, ?_, ?_⟩, ?_⟩, ?_⟩
          all_goals first | exact ivDU1 | (simp (disch := (first | omega | (simp only [nx]; first | done | omega))) only [xxq, xxa, xxb, xxc, bne, Int.reduceEq, Int.reduceBEq, Int.reduceNe, Int.reduceBNe, Int.reduceLE, Int.reduceGT, Int.reduceGE, Int.reduceNeg, ↓reduceIte, reduceCtorEq, Nat.reduceEqDiff, Nat.reduceAdd, Nat.reduceMul, Nat.reduceSub, Nat.reduceLT, Int.reduceAdd, Int.reduceSub, Int.reduceMul, Int.reduceLT, Int.reduceToNat, ne_eq, *, hst', List.length_append, List.length_cons, List.length_nil, intV_int]; first | done | omega | rfl | exact congrArg (Value.int .i64) (by omega) | exact ex1 | skip) | skip
      · have hst' : nst (l.take (j + 1)) = (s1 ++ [x], s2 ++ [(s1.length : Int)]) := by rw [hst]; simp [nstep, hin]
        have hmp := mapL_put s1 x hin
        have hmg2 := mapL_get (s1 ++ [x]) x
        have hio : (s1 ++ [x]).idxOf x = s1.length := by rw [List.idxOf_append, if_neg hin]; simp
        rw [if_pos (by simp), hio] at hmg2
        rw [if_neg hin] at hmg
        clear hst hs0 hio
        have hxs := hx.size
        rcases hO with ⟨b4, hnil⟩ | ⟨g, b4, hg1, hg2, hg3⟩
        · subst hnil
          repeat' first | refine rnDU1 ?_ | with_reducible refine And.intro (fun hc => ?_) (fun hc => ?_) | fail
          refine ⟨⟨j + 1, by omega, ?_, ?_, ?_, ?_, ?_, ?_, .inr ⟨H'.size + 1, ?_, ?_, ?_, ?_⟩, ?_⟩, ?_⟩
          all_goals first | exact ivDU1 | (simp (disch := (first | omega | (simp only [nx]; first | done | omega))) only [xxq, xxa, xxb, xxc, bne, Int.reduceEq, Int.reduceBEq, Int.reduceNe, Int.reduceBNe, Int.reduceLE, Int.reduceGT, Int.reduceGE, Int.reduceNeg, ↓reduceIte, reduceCtorEq, Nat.reduceEqDiff, Nat.reduceAdd, Nat.reduceMul, Nat.reduceSub, Nat.reduceLT, Int.reduceAdd, Int.reduceSub, Int.reduceMul, Int.reduceLT, Int.reduceToNat, ne_eq, *, hst', List.length_append, List.length_cons, List.length_nil, intV_int]; first | done | omega | rfl | exact congrArg (Value.int .i64) (by omega) | exact ex1 | skip) | skip
          rw [show j = 0 by simpa using hn2.symm]
        · simp only [nx] at hg1
          repeat' first | refine rnDU1 ?_ | with_reducible refine And.intro (fun hc => ?_) (fun hc => ?_) | fail
          refine ⟨⟨j + 1, by omega, ?_, ?_, ?_, ?_, ?_, ?_, .inr ⟨H'.size + 1, ?_, ?_, ?_, ?_⟩, ?_⟩, ?_⟩
          all_goals first | exact ivDU1 | (simp (disch := (first | omega | (simp only [nx]; first | done | omega))) only [xxq, xxa, xxb, xxc, bne, Int.reduceEq, Int.reduceBEq, Int.reduceNe, Int.reduceBNe, Int.reduceLE, Int.reduceGT, Int.reduceGE, Int.reduceNeg, ↓reduceIte, reduceCtorEq, Nat.reduceEqDiff, Nat.reduceAdd, Nat.reduceMul, Nat.reduceSub, Nat.reduceLT, Int.reduceAdd, Int.reduceSub, Int.reduceMul, Int.reduceLT, Int.reduceToNat, ne_eq, *, hst', List.length_append, List.length_cons, List.length_nil, intV_int]; first | done | omega | rfl | exact congrArg (Value.int .i64) (by omega) | exact ex1 | skip) | skip
    · obtain rfl : j = l.length := by omega
      rw [List.take_length] at hO
      repeat' first | refine rnDU1 ?_ | with_reducible refine And.intro (fun hc => ?_) (fun hc => ?_) | fail
      exact hQ.out _ _ ⟨hO.below (by simp only [nx]; omega), hx⟩
end Go.Proofs.Ytpbbfephfmdgmaa.Rai
