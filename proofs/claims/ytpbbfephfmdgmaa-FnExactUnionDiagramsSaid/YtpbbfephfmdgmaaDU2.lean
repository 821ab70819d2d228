/- A part of the walk: what functions of the program do, over an abstract heap. -/
import Derived.Test.YtpbbfephfmdgmaaDU1
namespace Go.Proofs.Ytpbbfephfmdgmaa.Rai
open Go TP
set_option linter.unusedVariables false
set_option linter.unusedSimpArgs false
set_option maxRecDepth 20000
theorem tfDU2 : (Try.prog.underlying 37 = some (.slice 65)) ∧ (el Try.prog 37 = some (none, 1)) ∧ (Try.prog.underlying 65 = some (.slice 2)) ∧ (el Try.prog 65 = some (none, 1)) ∧ (tk Try.prog 2 = some none) ∧ (tk Try.prog 65 = some none) ∧ (cz Try.prog 2 = some 1) ∧ (bz Try.prog 2 = some 8) ∧ (cz Try.prog 65 = some 1) ∧ (bz Try.prog 65 = some 24) ∧ (zr Try.prog 2 = some (.int .i64 0)) ∧ (zr Try.prog 65 = some (.slice none 0 0)) := by
  refine ⟨?_, ?_, ?_, ?_, ?_, ?_, ?_, ?_, ?_, ?_, ?_, ?_⟩ <;> kernel_rfl
theorem rnDU2 {a b : Prop} (hb : b) (h : Later b → a := by
  intro hb
  first
  | ((with_reducible first | refine AOps.nil ?_ | refine athen_n ?_ | refine athen_r ?_ | refine athen_e ?_ | refine ablock_n ?_ | refine ablock_r ?_ | refine ablock_s ?_ | refine AWp.seq' ?_ | refine AWp.block ?_ | refine AWp.skip ?_ | refine AWp.exit ?_ | refine AWp.ret ?_ | refine AWp.region ?_ | (refine ablock_e ?_ ?_; focus rfl)); repeat (with_reducible first | refine AOps.nil ?_ | refine athen_n ?_ | refine athen_r ?_ | refine athen_e ?_ | refine ablock_n ?_ | refine ablock_r ?_ | refine ablock_s ?_ | refine AWp.seq' ?_ | refine AWp.block ?_ | refine AWp.skip ?_ | refine AWp.exit ?_ | refine AWp.ret ?_ | refine AWp.region ?_ | (refine ablock_e ?_ ?_; focus rfl)))
  | (refine AOps.guardu rfl rfl rfl ?_ ?_; focus (simp (disch := (first | omega | (simp only [nx]; first | done | omega))) only [Value.bool.injEq, Bool.and_true, Bool.true_and, Bool.and_false, Bool.false_and, beq_self_eq_true, bne, Bool.not_true, Bool.not_false, sx, nx, dx, ↓reduceIte, reduceCtorEq, Nat.reduceEqDiff, ne_eq, not_false_eq_true, *]; done))
  | ((first | refine AOps.cons2 rfl rfl fun K hK => ?_ | refine AWp.cond rfl fun X Y hX hY => ?_ | refine AOps.guard rfl rfl rfl fun X Y hX hY => ?_ | refine aret_r ?_ | refine aret_n ?_); simp (disch := (first | omega | (simp only [nx]; first | done | omega))) only [acond_bool, aresK, retv, xxq, tfDU2, sliceK, bnd, appendK, appsK, copyK, clearK, makeSliceK, buildSliceK, buildK, lookupK, mapPutK, mapOf, convK, allocK, indexK, partK, xxa, xxb, xxc, bne, Int.reduceEq, Int.reduceBEq, Int.reduceNe, Int.reduceBNe, Int.reduceLE, Int.reduceGT, Int.reduceGE, Int.reduceNeg, ↓reduceIte, reduceCtorEq, Nat.reduceEqDiff, Nat.reduceAdd, Nat.reduceMul, Nat.reduceSub, Nat.reduceLT, Int.reduceAdd, Int.reduceSub, Int.reduceMul, Int.reduceLT, Int.reduceToNat, ne_eq, *]; (repeat first | ((with_reducible refine And.intro (fun hc => ?_) (fun hc => absurd hc (by omega))); clear hc) | ((with_reducible refine And.intro (fun hc => absurd hc (by omega)) (fun hc => ?_)); clear hc) | ((with_reducible refine And.intro ?_ ?_); focus ((first | omega | assumption | exact cok _ rfl | exact one_ints _ | exact one_map fun _ => rfl | ((repeat refine one_cons (by first | rfl | assumption) ?_); exact one_nil) | rfl | decide | (intro u hu; cases hu)); done)) | (with_reducible refine (fun hc => ?_ : _ → _); clear hc)); (first | refine hK.out _ _ ?_ | refine ACalls.hk hK ?_ | refine appendK.hk hK ?_ | refine (fun (q : _ ∧ _) => And.intro (hK.out _ _ q.1) (hK.out _ _ q.2)) ?_ | refine hX.out ?_ | refine hY.out ?_ | refine (fun (q : (_ → _) ∧ (_ → _)) => And.intro (fun hc => hX.out (q.1 hc)) (fun hc => hY.out (q.2 hc))) ?_ | refine (fun (q : (_ → _) ∧ (_ → _)) => And.intro (fun hc => hY.out (q.1 hc)) (fun hc => hX.out (q.2 hc))) ?_ | skip))
  exact hb.out) : a := h ⟨hb⟩
theorem rdDU2 {a b : Prop} (hb : b) (h : Later b → a := by
  intro hb
  first
  | with_reducible refine APl.nil ?_
  | ((first | refine APl.pure2 rfl rfl rfl rfl fun Kx hKx => ?_ | refine APl.load rfl rfl rfl fun Kx hKx => ?_ | refine APl.slice rfl rfl rfl fun Kx hKx => ?_ | refine APl.act2 rfl rfl rfl rfl fun Kx hKx => ?_); simp (disch := (first | omega | (simp only [nx]; first | done | omega))) only [heldIn_iff, List.zipIdx_cons, List.zipIdx_nil, List.map_cons, List.map_nil, xxq, tfDU2, sliceK, bnd, appendK, appsK, copyK, clearK, makeSliceK, buildSliceK, buildK, lookupK, mapPutK, mapOf, convK, allocK, indexK, partK, xxa, xxb, xxc, bne, Int.reduceEq, Int.reduceBEq, Int.reduceNe, Int.reduceBNe, Int.reduceLE, Int.reduceGT, Int.reduceGE, Int.reduceNeg, ↓reduceIte, reduceCtorEq, Nat.reduceEqDiff, Nat.reduceAdd, Nat.reduceMul, Nat.reduceSub, Nat.reduceLT, Int.reduceAdd, Int.reduceSub, Int.reduceMul, Int.reduceLT, Int.reduceToNat, ne_eq, *]; (repeat first | ((with_reducible refine And.intro (fun hc => ?_) (fun hc => absurd hc (by omega))); clear hc) | ((with_reducible refine And.intro (fun hc => absurd hc (by omega)) (fun hc => ?_)); clear hc) | ((with_reducible refine And.intro ?_ ?_); focus ((first | omega | assumption | exact cok _ rfl | exact one_ints _ | exact one_map fun _ => rfl | ((repeat refine one_cons (by first | rfl | assumption) ?_); exact one_nil) | rfl | decide | (intro u hu; cases hu)); done)) | (with_reducible refine (fun hc => ?_ : _ → _); clear hc)); (first | refine hKx.out _ ?_ | refine hKx.out _ _ ?_ | refine ACalls.hkx hKx ?_ | refine (fun (q : _ ∧ _) => And.intro (hKx.out _ q.1) (hKx.out _ q.2)) ?_ | refine (fun (q : (_ → _) ∧ _) => And.intro (fun hc => hKx.out _ (q.1 hc)) (hKx.out _ q.2)) ?_ | (refine hKx.out _ _ ?_ ?_; focus (simp (disch := (first | omega | (simp only [nx]; first | done | omega))) only [heldIn_iff, List.zipIdx_cons, List.zipIdx_nil, List.map_cons, List.map_nil, xxq, tfDU2, sliceK, bnd, appendK, appsK, copyK, clearK, makeSliceK, buildSliceK, buildK, lookupK, mapPutK, mapOf, convK, allocK, indexK, partK, xxa, xxb, xxc, bne, Int.reduceEq, Int.reduceBEq, Int.reduceNe, Int.reduceBNe, Int.reduceLE, Int.reduceGT, Int.reduceGE, Int.reduceNeg, ↓reduceIte, reduceCtorEq, Nat.reduceEqDiff, Nat.reduceAdd, Nat.reduceMul, Nat.reduceSub, Nat.reduceLT, Int.reduceAdd, Int.reduceSub, Int.reduceMul, Int.reduceLT, Int.reduceToNat, ne_eq, *]; first | done | trivial))))
  exact hb.out) : a := h ⟨hb⟩
theorem hlDU2 {p b : Prop} (hb : b) (h : p := by simp (disch := (first | omega | (simp only [nx]; first | done | omega))) only [heldIn_iff, List.zipIdx_cons, List.zipIdx_nil, List.map_cons, List.map_nil, xxq, tfDU2, sliceK, bnd, appendK, appsK, copyK, clearK, makeSliceK, buildSliceK, buildK, lookupK, mapPutK, mapOf, convK, allocK, indexK, partK, xxa, xxb, xxc, bne, Int.reduceEq, Int.reduceBEq, Int.reduceNe, Int.reduceBNe, Int.reduceLE, Int.reduceGT, Int.reduceGE, Int.reduceNeg, ↓reduceIte, reduceCtorEq, Nat.reduceEqDiff, Nat.reduceAdd, Nat.reduceMul, Nat.reduceSub, Nat.reduceLT, Int.reduceAdd, Int.reduceSub, Int.reduceMul, Int.reduceLT, Int.reduceToNat, ne_eq, *]; first | done | trivial) : p ∧ b := ⟨h, hb⟩
theorem ivDU2 {p : Prop} (h : p := by first | omega | ((repeat first | exact Ext.refl _ | assumption | refine Ext.push ?_ _ | refine Ext.set ?_ _ (by first | omega | (simp only [nx, *]; omega)) | (apply Ext.up; focus (assumption; done))); done) | (simp (disch := (first | omega | (simp only [nx]; first | done | omega))) only [xxq, xxa, xxb, xxc, bne, Int.reduceEq, Int.reduceBEq, Int.reduceNe, Int.reduceBNe, Int.reduceLE, Int.reduceGT, Int.reduceGE, Int.reduceNeg, ↓reduceIte, reduceCtorEq, Nat.reduceEqDiff, Nat.reduceAdd, Nat.reduceMul, Nat.reduceSub, Nat.reduceLT, Int.reduceAdd, Int.reduceSub, Int.reduceMul, Int.reduceLT, Int.reduceToNat, ne_eq, *, intV_int]; first | done | omega | rfl | exact congrArg (Value.int .i64) (by omega) | ((repeat first | exact Ext.refl _ | assumption | refine Ext.push ?_ _ | refine Ext.set ?_ _ (by first | omega | (simp only [nx, *]; omega)) | (apply Ext.up; focus (assumption; done))); done)) | rfl) : p := h
theorem smDU2 {a b : Prop} (hb : b) (h : Later b → a := by intro hb; simp (disch := (first | omega | (simp only [nx]; first | done | omega))) only [xxq, xxa, xxb, xxc, bne, Int.reduceEq, Int.reduceBEq, Int.reduceNe, Int.reduceBNe, Int.reduceLE, Int.reduceGT, Int.reduceGE, Int.reduceNeg, ↓reduceIte, reduceCtorEq, Nat.reduceEqDiff, Nat.reduceAdd, Nat.reduceMul, Nat.reduceSub, Nat.reduceLT, Int.reduceAdd, Int.reduceSub, Int.reduceMul, Int.reduceLT, Int.reduceToNat, ne_eq, *, intV_int]; exact hb.out) : a := h ⟨hb⟩
theorem gtDU2 {A F : Fr} {t : Nat} {v : Value} (h : Ag [] A F) (e : F t = v := by simp (disch := (first | omega | (simp only [nx]; first | done | omega))) only [xxq, xxa, xxb, xxc, bne, Int.reduceEq, Int.reduceBEq, Int.reduceNe, Int.reduceBNe, Int.reduceLE, Int.reduceGT, Int.reduceGE, Int.reduceNeg, ↓reduceIte, reduceCtorEq, Nat.reduceEqDiff, Nat.reduceAdd, Nat.reduceMul, Nat.reduceSub, Nat.reduceLT, Int.reduceAdd, Int.reduceSub, Int.reduceMul, Int.reduceLT, Int.reduceToNat, ne_eq, *, intV_int]; exact rfl) : A t = v := (h.h t rfl).trans e
theorem agDU2 {D : List Nat} {A F : Fr} (h : Ag D A F := by
  repeat (with_reducible first | exact Ag.refl _ _ | refine Ag.nop ?_ | refine Ag.dead rfl ?_ | (refine Ag.live ?_ ?_; focus exact ivDU2) | refine Ag.dr rfl ?_ | (refine Ag.lr ?_ ?_; focus exact ivDU2) | refine Ag.up (by assumption) rfl ?_)) : Ag D A F := h
theorem sdDU2 {p : Prop} (h : p := by first | omega | assumption | (simp (disch := (first | omega | (simp only [nx]; first | done | omega))) only [xxq, tfDU2, sliceK, bnd, appendK, appsK, copyK, clearK, makeSliceK, buildSliceK, buildK, lookupK, mapPutK, mapOf, convK, allocK, indexK, partK, xxa, xxb, xxc, bne, Int.reduceEq, Int.reduceBEq, Int.reduceNe, Int.reduceBNe, Int.reduceLE, Int.reduceGT, Int.reduceGE, Int.reduceNeg, ↓reduceIte, reduceCtorEq, Nat.reduceEqDiff, Nat.reduceAdd, Nat.reduceMul, Nat.reduceSub, Nat.reduceLT, Int.reduceAdd, Int.reduceSub, Int.reduceMul, Int.reduceLT, Int.reduceToNat, ne_eq, *]; first | done | omega | rfl)) : p := h
def RowsI (H : Heap) (v : Value) (R : List (List Int)) : Prop := ∃ p k, v = .slice p R.length k ∧ (p = none → k = 0) ∧ ∀ a, a < R.length → ∃ b cs ro r, p = some ⟨b, 0, none⟩ ∧ b < H.size ∧ H.get b = .cells cs 1 ro ∧ cs[a]? = some r ∧ RowI H r (R.getD a [])
theorem RowsI.ext {H H' : Heap} {v : Value} {R : List (List Int)} (h : RowsI H v R) (g : Ext H H') : RowsI H' v R := by
  obtain ⟨p, k, rfl, hp, hh⟩ := h
  refine ⟨p, k, rfl, hp, fun j hj => ?_⟩
  obtain ⟨b, cs, ro, r, rfl, hb, hg, hc, hr⟩ := hh j hj
  exact ⟨b, cs, ro, r, rfl, Nat.lt_of_lt_of_le hb g.size, by rw [g.get b hb, hg], hc, hr.ext g⟩
theorem RowsI.one {H : Heap} {v : Value} {R : List (List Int)} (h : RowsI H v R) : v.oneCell' = true := by obtain ⟨p, k, rfl, _⟩ := h; rfl
/-- A row of whole numbers that may be written, its block from lo to hi. -/
def OwnR (lo hi : Nat) (H : Heap) (v : Value) (l : List Int) : Prop := (v = .slice none 0 0 ∧ l = []) ∨ ∃ g c, v = .slice (some ⟨g, 0, none⟩) l.length c ∧ lo ≤ g ∧ g < hi ∧ hi ≤ H.size ∧ H.get g = .cells (ints l) 1 false
theorem OwnR.row {lo hi : Nat} {H : Heap} {v : Value} {l : List Int} (h : OwnR lo hi H v l) : RowI H v l := by
  rcases h with ⟨rfl, rfl⟩ | ⟨g, c, rfl, h1, h2, h3, h4⟩
  · exact ⟨none, 0, rfl, fun _ => rfl, fun j hj => by simp at hj⟩
  · exact ⟨_, c, rfl, fun h => (by cases h), fun j hj => ⟨g, _, _, rfl, by omega, h4, ints_get hj⟩⟩
theorem OwnR.keep {lo hi lo' hi' : Nat} {H H' : Heap} {v : Value} {l : List Int} (h : OwnR lo hi H v l) (k : ExtR lo' hi' H H') (hd : hi ≤ lo' ∨ hi' ≤ lo) : OwnR lo hi H' v l := by
  rcases h with ⟨rfl, rfl⟩ | ⟨g, c, rfl, h1, h2, h3, h4⟩
  · exact .inl ⟨rfl, rfl⟩
  · exact .inr ⟨g, c, rfl, h1, h2, Nat.le_trans h3 k.size, by rw [k.get g (by omega) (by omega), h4]⟩
theorem OwnR.one {lo hi : Nat} {H : Heap} {v : Value} {l : List Int} (h : OwnR lo hi H v l) : v.oneCell' = true := by
  rcases h with ⟨rfl, rfl⟩ | ⟨g, c, rfl, h1, h2, h3, h4⟩ <;> rfl
theorem RowI.keep {lo hi : Nat} {H H' : Heap} {v : Value} {l : List Int} {n : Nat} (h : RowI H v l) (hb : ∀ b, H.get b ≠ .absent → b < H.size) (k : Ext H H') : RowI H' v l := h.ext k
def marks (k : Int) (n : Nat) : List Int := (List.range n).map fun (i : Nat) => k + (i : Int)
theorem marks_len (k : Int) (n : Nat) : (marks k n).length = n := by simp [marks]
theorem marks_get (k : Int) (n j : Nat) (h : j < n) : (marks k n).getD j 0 = k + j := by simp [marks, h]
set_option maxHeartbeats 1000000 in
theorem eqInt64S_c {H : Heap} {v w : Value} {l : List Int} (hV : RowI H v l) (hW : RowI H w l) (hl : l.length ≤ 4611686018427387904) : ACalls Try.prog 51 [v, w] H fun u H' => u = B true ∧ H' = H := by
  obtain ⟨p, k, rfl, hp, hh⟩ := hV
  obtain ⟨p2, k2, rfl, hp2, hh2⟩ := hW
  refine ACalls.body Try.func51 rfl Try.ntmps51 (rs := [.tmp 4]) rfl (by simp) rfl fun Q hQ A hA => ?_
  have a0 := hA 0 _ _ rfl
  have a1 := hA 1 _ _ rfl
  clear hA
  repeat' first | refine rnDU2 ?_ | with_reducible refine And.intro (fun hc => ?_) (fun hc => ?_) | fail
  refine AWp.loop (fun A H' => ∃ j : Nat, j ≤ l.length ∧ A 0 = .slice p l.length k ∧ A 1 = .slice p2 l.length k2 ∧ A 5 = I j ∧ H' = H) (fun A _ => l.length - (intV (A 5)).toNat) ?_ ?_
  · refine ⟨0, by omega, ?_, ?_, ?_, ?_⟩
    all_goals first | exact ivDU2 | refine smDU2 ?_ | skip
  · rintro A H' ⟨j, hj, b0, b1, b5, rfl⟩
    by_cases hlt : j < l.length
    · obtain ⟨b, cs, ro, hpb, hbs, hg, hc⟩ := hh j hlt
      obtain ⟨d, ds, ro2, hpd, hds, hg2, hc2⟩ := hh2 j hlt
      clear hh hh2
      generalize l.getD j 0 = x at hc hc2
      repeat' first | refine rnDU2 ?_ | with_reducible refine And.intro (fun hc => ?_) (fun hc => ?_) | fail
      refine AWp.planned [0,1,2,3,4,5,6,7,8] mixed (by kernel_rfl) ?_
      repeat' first | refine rdDU2 ?_ | with_reducible refine And.intro (fun hc => ?_) ?_ | with_reducible refine And.intro ?_ ?_ | fail
      repeat' first | refine rnDU2 ?_ | with_reducible refine And.intro (fun hc => ?_) (fun hc => ?_) | fail
      refine ⟨⟨j + 1, by omega, ?_, ?_, ?_, ?_⟩, ?_⟩
      all_goals first | exact ivDU2 | refine smDU2 ?_ | skip
    · obtain rfl : j = l.length := by omega
      repeat' first | refine rnDU2 ?_ | with_reducible refine And.intro (fun hc => ?_) (fun hc => ?_) | fail
      exact hQ.out _ _ ⟨rfl, rfl⟩
set_option maxHeartbeats 1000000 in
theorem markRow_c {H : Heap} {g n c : Nat} {l : List Int} {k : Int} (hg : H.get g = .cells (ints l) 1 false) (hn : l.length = n) (hl : n ≤ 4611686018427387904) (h0 : 0 ≤ k) (h1 : k ≤ 4611686018427387903) :
    ACalls Try.prog 52 [.slice (some ⟨g, 0, none⟩) n c, I k] H fun u H' => u = I (k + n) ∧ H' = H.set g (.cells (ints (marks k n)) 1 false) := by
  refine ACalls.body Try.func52 rfl Try.ntmps52 (rs := [.tmp 4]) rfl (by simp) rfl fun Q hQ A hA => ?_
  have a0 := hA 0 _ _ rfl
  have a1 := hA 1 _ _ rfl
  clear hA
  repeat' first | refine rnDU2 ?_ | with_reducible refine And.intro (fun hc => ?_) (fun hc => ?_) | fail
  refine AWp.loop (fun A H' => ∃ (j : Nat) (m : List Int), j ≤ n ∧ A 0 = .slice (some ⟨g, 0, none⟩) n c ∧ A 1 = I (k + j) ∧ A 5 = I j ∧ m.length = n ∧ m.take j = (marks k n).take j ∧ H' = H.set g (.cells (ints m) 1 false)) (fun A _ => n - (intV (A 5)).toNat) ?_ ?_
  · refine ⟨0, l, by omega, ?_, ?_, ?_, hn, rfl, ?_⟩
    all_goals first | exact ivDU2 | refine smDU2 ?_ | skip
    rw [set_self hg]
  · rintro A H' ⟨j, m, hj, b0, b1, b5, hml, hmt, rfl⟩
    have hil := ints_len m
    have hmk := marks_len k n
    by_cases hlt : j < n
    · have hset := ints_set m j (k + j)
      have zf0 := @set_set
      repeat' first | refine rnDU2 ?_ | with_reducible refine And.intro (fun hc => ?_) (fun hc => ?_) | fail
      refine ⟨⟨j + 1, m.set j (k + j), by omega, ?_, ?_, ?_, ?_, ?_, ?_⟩, ?_⟩
      rotate_left 4
      · rw [List.take_succ_eq_append_getElem (by rw [List.length_set]; omega), List.take_set_of_le (Nat.le_refl j), hmt, List.take_succ_eq_append_getElem (by omega)]
        congr 2
        rw [List.getElem_set_self]
        have := marks_get k n j hlt
        rw [List.getD_eq_getElem?_getD, List.getElem?_eq_getElem (by omega)] at this
        exact this.symm
      all_goals first | exact ivDU2 | refine smDU2 ?_ | skip
    · obtain rfl : j = n := by omega
      rw [List.take_of_length_le (by omega), List.take_of_length_le (by omega)] at hmt
      subst hmt
      repeat' first | refine rnDU2 ?_ | with_reducible refine And.intro (fun hc => ?_) (fun hc => ?_) | fail
      exact hQ.out _ _ ⟨rfl, rfl⟩
set_option maxHeartbeats 1000000 in
theorem heldRow_c {H : Heap} {v : Value} {n : Nat} {k : Int} (hV : RowI H v (marks k n)) (hl : n ≤ 4611686018427387904) (h0 : 0 ≤ k) (h1 : k ≤ 4611686018427387903) :
    ACalls Try.prog 53 [v, I k] H fun u H' => u = I (k + n) ∧ H' = H := by
  obtain ⟨p, c, rfl, hp, hh⟩ := hV
  rw [marks_len] at hh
  rw [marks_len]
  refine ACalls.body Try.func53 rfl Try.ntmps53 (rs := [.tmp 4]) rfl (by simp) rfl fun Q hQ A hA => ?_
  have a0 := hA 0 _ _ rfl
  have a1 := hA 1 _ _ rfl
  clear hA
  repeat' first | refine rnDU2 ?_ | with_reducible refine And.intro (fun hc => ?_) (fun hc => ?_) | fail
  refine AWp.loop (fun A H' => ∃ j : Nat, j ≤ n ∧ A 0 = .slice p n c ∧ A 1 = I (k + j) ∧ A 5 = I j ∧ H' = H) (fun A _ => n - (intV (A 5)).toNat) ?_ ?_
  · refine ⟨0, by omega, ?_, ?_, ?_, ?_⟩
    all_goals first | exact ivDU2 | refine smDU2 ?_ | skip
  · rintro A H' ⟨j, hj, b0, b1, b5, rfl⟩
    by_cases hlt : j < n
    · obtain ⟨b, cs, ro, hpb, hbs, hg, hc⟩ := hh j hlt
      rw [marks_get k n j hlt] at hc
      clear hh
      repeat' first | refine rnDU2 ?_ | with_reducible refine And.intro (fun hc => ?_) (fun hc => ?_) | fail
      refine ⟨⟨j + 1, by omega, ?_, ?_, ?_, ?_⟩, ?_⟩
      all_goals first | exact ivDU2 | refine smDU2 ?_ | skip
    · obtain rfl : j = n := by omega
      repeat' first | refine rnDU2 ?_ | with_reducible refine And.intro (fun hc => ?_) (fun hc => ?_) | fail
      exact hQ.out _ _ ⟨rfl, rfl⟩
theorem markInt64S_c {H : Heap} {lo hi : Nat} {v : Value} {l : List Int} (hV : OwnR lo hi H v l) (hl : l.length ≤ 4611686018427387904) :
    ACalls Try.prog 52 [v, I 1] H fun u H' => u = I (1 + l.length) ∧ OwnR lo hi H' v (marks 1 l.length) ∧ ExtR lo hi H H' := by
  rcases hV with ⟨rfl, rfl⟩ | ⟨g, c, rfl, h1, h2, h3, h4⟩
  · refine ACalls.body Try.func52 rfl Try.ntmps52 (rs := [.tmp 4]) rfl (by simp) rfl fun Q hQ A hA => ?_
    have a0 := hA 0 _ _ rfl
    have a1 := hA 1 _ _ rfl
    clear hA
    repeat' first | refine rnDU2 ?_ | with_reducible refine And.intro (fun hc => ?_) (fun hc => ?_) | fail
    refine AWp.loop (fun A H' => A 0 = .slice none 0 0 ∧ A 1 = I 1 ∧ A 5 = I 0 ∧ H' = H) (fun _ _ => 0) ?_ ?_
    · refine ⟨?_, ?_, ?_, ?_⟩
      all_goals first | exact ivDU2 | refine smDU2 ?_ | skip
    · rintro A H' ⟨b0, b1, b5, rfl⟩
      repeat' first | refine rnDU2 ?_ | with_reducible refine And.intro (fun hc => ?_) (fun hc => ?_) | fail
      exact hQ.out _ _ ⟨rfl, .inl ⟨rfl, rfl⟩, ExtR.refl _⟩
  · refine (markRow_c h4 rfl hl (by omega) (by omega)).mono ?_
    rintro u H' ⟨rfl, rfl⟩
    exact ⟨rfl, .inr ⟨g, c, by rw [marks_len], h1, h2, h3, get_set_eq⟩, (ExtR.refl H).set _ h1 h2⟩
/-- Rows of whole numbers that may be written, all blocks apart, from lo to hi. -/
def OwnRR (lo hi : Nat) (H : Heap) (v : Value) (R : List (List Int)) : Prop := (v = .slice none 0 0 ∧ R = []) ∨ ∃ (g c : Nat) (cs : List Value) (bs : Nat → Nat), v = .slice (some ⟨g, 0, none⟩) R.length c ∧ lo ≤ g ∧ g < hi ∧ hi ≤ H.size ∧ H.get g = .cells cs 1 false ∧
  (∀ a, a < R.length → ∃ c', cs[a]? = some (.slice (some ⟨bs a, 0, none⟩) (R.getD a []).length c') ∧ lo ≤ bs a ∧ bs a < hi ∧ bs a ≠ g ∧ H.get (bs a) = .cells (ints (R.getD a [])) 1 false) ∧ ∀ a a', a < R.length → a' < R.length → a ≠ a' → bs a ≠ bs a'
theorem OwnRR.rows {lo hi : Nat} {H : Heap} {v : Value} {R : List (List Int)} (h : OwnRR lo hi H v R) : RowsI H v R := by
  rcases h with ⟨rfl, rfl⟩ | ⟨g, c, cs, bs, rfl, h1, h2, h3, h4, h5, h6⟩
  · exact ⟨none, 0, rfl, fun _ => rfl, fun a ha => by simp at ha⟩
  · refine ⟨_, c, rfl, fun h => (by cases h), fun a ha => ?_⟩
    obtain ⟨c', k1, k2, k3, k4, k5⟩ := h5 a ha
    exact ⟨g, cs, _, _, rfl, by omega, h4, k1, _, c', rfl, fun h => (by cases h), fun j hj => ⟨bs a, _, _, rfl, by omega, k5, ints_get hj⟩⟩
theorem OwnRR.keep {lo hi lo' hi' : Nat} {H H' : Heap} {v : Value} {R : List (List Int)} (h : OwnRR lo hi H v R) (k : ExtR lo' hi' H H') (hd : hi ≤ lo' ∨ hi' ≤ lo) : OwnRR lo hi H' v R := by
  rcases h with ⟨rfl, rfl⟩ | ⟨g, c, cs, bs, rfl, h1, h2, h3, h4, h5, h6⟩
  · exact .inl ⟨rfl, rfl⟩
  · refine .inr ⟨g, c, cs, bs, rfl, h1, h2, Nat.le_trans h3 k.size, by rw [k.get g (by omega) (by omega), h4], fun a ha => ?_, h6⟩
    obtain ⟨c', k1, k2, k3, k4, k5⟩ := h5 a ha
    exact ⟨c', k1, k2, k3, k4, by rw [k.get _ (by omega) (by omega), k5]⟩
theorem OwnRR.ext {lo hi : Nat} {H H' : Heap} {v : Value} {R : List (List Int)} (h : OwnRR lo hi H v R) (k : Ext H H') : OwnRR lo hi H' v R := h.keep (k.r hi hi) (.inl (Nat.le_refl _))
theorem OwnRR.one {lo hi : Nat} {H : Heap} {v : Value} {R : List (List Int)} (h : OwnRR lo hi H v R) : v.oneCell' = true := by
  rcases h with ⟨rfl, rfl⟩ | ⟨g, c, cs, bs, rfl, _⟩ <;> rfl
theorem RowsI.nil {H : Heap} : RowsI H (.slice none 0 0) [] := ⟨none, 0, rfl, fun _ => rfl, fun a ha => by simp at ha⟩
def offs (R : List (List Int)) : Nat → Nat
  | 0 => 0
  | j + 1 => offs R j + (R.getD j []).length
def marked (k : Int) (R : List (List Int)) : List (List Int) := (List.range R.length).map fun a => marks (k + offs R a) (R.getD a []).length
theorem marked_len (k : Int) (R : List (List Int)) : (marked k R).length = R.length := by simp [marked]
theorem marked_get (k : Int) (R : List (List Int)) (a : Nat) (h : a < R.length) : (marked k R).getD a [] = marks (k + offs R a) (R.getD a []).length := by simp [marked, h]
/-- All rows are short. -/
def ShortR (R : List (List Int)) : Prop := R.length ≤ 1000000 ∧ ∀ a, a < R.length → (R.getD a []).length ≤ 1000000
theorem offs_le {R : List (List Int)} (hS : ShortR R) : ∀ j, j ≤ R.length → offs R j ≤ j * 1000000
  | 0, _ => Nat.zero_le _
  | j + 1, h => by
    have := offs_le hS j (by omega)
    have := hS.2 j (by omega)
    simp only [offs]; omega
set_option maxHeartbeats 1000000 in
theorem eqInt64SS_c {H : Heap} {v w : Value} {R : List (List Int)} (hV : RowsI H v R) (hW : RowsI H w R) (hS : ShortR R) : ACalls Try.prog 24 [v, w] H fun u H' => u = B true ∧ H' = H := by
  obtain ⟨p, k, rfl, hp, hh⟩ := hV
  obtain ⟨p2, k2, rfl, hp2, hh2⟩ := hW
  obtain ⟨hS1, hS2⟩ := hS
  refine ACalls.body Try.func24 rfl Try.ntmps24 (rs := [.tmp 4]) rfl (by simp) rfl fun Q hQ A hA => ?_
  have a0 := hA 0 _ _ rfl
  have a1 := hA 1 _ _ rfl
  clear hA
  repeat' first | refine rnDU2 ?_ | with_reducible refine And.intro (fun hc => ?_) (fun hc => ?_) | fail
  refine AWp.loop (fun A H' => ∃ j : Nat, j ≤ R.length ∧ A 0 = .slice p R.length k ∧ A 1 = .slice p2 R.length k2 ∧ A 5 = I j ∧ H' = H) (fun A _ => R.length - (intV (A 5)).toNat) ?_ ?_
  · refine ⟨0, by omega, ?_, ?_, ?_, ?_⟩
    all_goals first | exact ivDU2 | refine smDU2 ?_ | skip
  · rintro A H' ⟨j, hj, b0, b1, b5, rfl⟩
    by_cases hlt : j < R.length
    · obtain ⟨b, cs, ro, r, hpb, hbs, hg, hc, hF⟩ := hh j hlt
      obtain ⟨d, ds, ro2, r2, hpd, hds, hg2, hc2, hF2⟩ := hh2 j hlt
      have hS2j := hS2 j hlt
      clear hh hh2 hS2
      repeat' first | refine rnDU2 ?_ | with_reducible refine And.intro (fun hc => ?_) (fun hc => ?_) | fail
      refine AWp.planned [0,1,2,3,4,5,6,7,8,9] mixed (by kernel_rfl) ?_
      repeat' first | refine rdDU2 ?_ | (refine (eqInt64S_c hF hF2 (by omega)).mono ?_; rintro v H' ⟨rfl, rfl⟩; refine hlDU2 ?_) | with_reducible refine And.intro (fun hc => ?_) ?_ | with_reducible refine And.intro ?_ ?_ | fail
      repeat' first | refine rnDU2 ?_ | with_reducible refine And.intro (fun hc => ?_) (fun hc => ?_) | fail
      refine ⟨⟨j + 1, by omega, ?_, ?_, ?_, ?_⟩, ?_⟩
      all_goals first | exact ivDU2 | refine smDU2 ?_ | skip
    · obtain rfl : j = R.length := by omega
      repeat' first | refine rnDU2 ?_ | with_reducible refine And.intro (fun hc => ?_) (fun hc => ?_) | fail
      exact hQ.out _ _ ⟨rfl, rfl⟩
set_option maxHeartbeats 1000000 in
theorem heldInt64SS_c {H : Heap} {v : Value} {R : List (List Int)} {k : Int} (hV : RowsI H v (marked k R)) (hS : ShortR R) (h0 : 0 ≤ k) (h1 : k ≤ 1000000000000000) : ACalls Try.prog 26 [v, I k] H fun u H' => u = I (k + offs R R.length) ∧ H' = H := by
  have hol := fun j => offs_le hS j
  obtain ⟨p, c, rfl, hp, hh⟩ := hV
  rw [marked_len] at hh
  rw [marked_len]
  obtain ⟨hS1, hS2⟩ := hS
  refine ACalls.body Try.func26 rfl Try.ntmps26 (rs := [.tmp 4]) rfl (by simp) rfl fun Q hQ A hA => ?_
  have a0 := hA 0 _ _ rfl
  have a1 := hA 1 _ _ rfl
  clear hA
  repeat' first | refine rnDU2 ?_ | with_reducible refine And.intro (fun hc => ?_) (fun hc => ?_) | fail
  refine AWp.loop (fun A H' => ∃ j : Nat, j ≤ R.length ∧ A 0 = .slice p R.length c ∧ A 1 = I (k + offs R j) ∧ A 5 = I j ∧ H' = H) (fun A _ => R.length - (intV (A 5)).toNat) ?_ ?_
  · refine ⟨0, by omega, ?_, ?_, ?_, ?_⟩
    all_goals first | exact ivDU2 | (simp (disch := (first | omega | (simp only [nx]; first | done | omega))) only [xxq, xxa, xxb, xxc, bne, Int.reduceEq, Int.reduceBEq, Int.reduceNe, Int.reduceBNe, Int.reduceLE, Int.reduceGT, Int.reduceGE, Int.reduceNeg, ↓reduceIte, reduceCtorEq, Nat.reduceEqDiff, Nat.reduceAdd, Nat.reduceMul, Nat.reduceSub, Nat.reduceLT, Int.reduceAdd, Int.reduceSub, Int.reduceMul, Int.reduceLT, Int.reduceToNat, ne_eq, *, offs, intV_int]; first | done | omega | rfl | exact congrArg (Value.int .i64) (by omega) | exact ex1 | skip) | skip
  · rintro A H' ⟨j, hj, b0, b1, b5, rfl⟩
    have hoj := hol j hj
    by_cases hlt : j < R.length
    · obtain ⟨b, cs, ro, r, hpb, hbs, hg, hc, hF⟩ := hh j hlt
      rw [marked_get _ _ _ hlt] at hF
      have hS2j := hS2 j hlt
      have hos : offs R (j + 1) = offs R j + (R.getD j []).length := rfl
      generalize (R.getD j []).length = L at hF hS2j hos
      clear hh hS2 hol
      repeat' first | refine rnDU2 ?_ | (refine (heldRow_c hF (by omega) (by omega) (by omega)).mono ?_; rintro v H' ⟨rfl, rfl⟩) | with_reducible refine And.intro (fun hc => ?_) (fun hc => ?_) | fail
      refine ⟨⟨j + 1, by omega, ?_, ?_, ?_, ?_⟩, ?_⟩
      all_goals first | exact ivDU2 | refine smDU2 ?_ | skip
    · obtain rfl : j = R.length := by omega
      clear hol
      repeat' first | refine rnDU2 ?_ | with_reducible refine And.intro (fun hc => ?_) (fun hc => ?_) | fail
      exact hQ.out _ _ ⟨rfl, rfl⟩
set_option maxHeartbeats 2000000 in
theorem markInt64SS_c {H : Heap} {lo hi : Nat} {v : Value} {R : List (List Int)} {k : Int} (hV : OwnRR lo hi H v R) (hS : ShortR R) (h0 : 0 ≤ k) (h1 : k ≤ 1000000000000000) :
    ACalls Try.prog 25 [v, I k] H fun u H' => u = I (k + offs R R.length) ∧ OwnRR lo hi H' v (marked k R) ∧ ExtR lo hi H H' := by
  have hol := fun j => offs_le hS j
  rcases hV with ⟨rfl, rfl⟩ | ⟨g, c, cs, bs, rfl, q1, q2, q3, q4, q5, q6⟩
  · refine ACalls.body Try.func25 rfl Try.ntmps25 (rs := [.tmp 4]) rfl (by simp) rfl fun Q hQ A hA => ?_
    have a0 := hA 0 _ _ rfl
    have a1 := hA 1 _ _ rfl
    clear hA
    repeat' first | refine rnDU2 ?_ | with_reducible refine And.intro (fun hc => ?_) (fun hc => ?_) | fail
    refine AWp.loop (fun A H' => A 0 = .slice none 0 0 ∧ A 1 = I k ∧ A 5 = I 0 ∧ H' = H) (fun _ _ => 0) ?_ ?_
    · refine ⟨?_, ?_, ?_, ?_⟩
      all_goals first | exact ivDU2 | refine smDU2 ?_ | skip
    · rintro A H' ⟨b0, b1, b5, rfl⟩
      repeat' first | refine rnDU2 ?_ | with_reducible refine And.intro (fun hc => ?_) (fun hc => ?_) | fail
      exact hQ.out _ _ ⟨by simp [offs], .inl ⟨rfl, rfl⟩, ExtR.refl _⟩
  · obtain ⟨hS1, hS2⟩ := hS
    have hml := marked_len k R
    have hmg := marked_get k R
    refine ACalls.body Try.func25 rfl Try.ntmps25 (rs := [.tmp 4]) rfl (by simp) rfl fun Q hQ A hA => ?_
    have a0 := hA 0 _ _ rfl
    have a1 := hA 1 _ _ rfl
    clear hA
    repeat' first | refine rnDU2 ?_ | with_reducible refine And.intro (fun hc => ?_) (fun hc => ?_) | fail
    refine AWp.loop (fun A H' => ∃ j : Nat, j ≤ R.length ∧ A 0 = .slice (some ⟨g, 0, none⟩) R.length c ∧ A 1 = I (k + offs R j) ∧ A 5 = I j ∧ H'.get g = .cells cs 1 false ∧ ExtR lo hi H H' ∧
      (∀ a, a < R.length → H'.get (bs a) = .cells (ints (if a < j then (marked k R).getD a [] else R.getD a [])) 1 false)) (fun A _ => R.length - (intV (A 5)).toNat) ?_ ?_
    · refine ⟨0, by omega, ?_, ?_, ?_, q4, ExtR.refl H, fun a ha => ?_⟩
      rotate_left 3
      · obtain ⟨c', k1, k2, k3, k4, k5⟩ := q5 a ha
        rw [if_neg (by omega)]; exact k5
      all_goals first | exact ivDU2 | (simp (disch := (first | omega | (simp only [nx]; first | done | omega))) only [xxq, xxa, xxb, xxc, bne, Int.reduceEq, Int.reduceBEq, Int.reduceNe, Int.reduceBNe, Int.reduceLE, Int.reduceGT, Int.reduceGE, Int.reduceNeg, ↓reduceIte, reduceCtorEq, Nat.reduceEqDiff, Nat.reduceAdd, Nat.reduceMul, Nat.reduceSub, Nat.reduceLT, Int.reduceAdd, Int.reduceSub, Int.reduceMul, Int.reduceLT, Int.reduceToNat, ne_eq, *, offs, intV_int]; first | done | omega | rfl | exact congrArg (Value.int .i64) (by omega) | exact ex1 | skip) | skip
    · rintro A H' ⟨j, hj, b0, b1, b5, hg, hx, hrow⟩
      have hoj := hol j hj
      by_cases hlt : j < R.length
      · obtain ⟨c', k1, k2, k3, k4, k5⟩ := q5 j hlt
        have hrj := hrow j hlt
        rw [if_neg (by omega)] at hrj
        have hS2j := hS2 j hlt
        have hos : offs R (j + 1) = offs R j + (R.getD j []).length := rfl
        have hmj := hmg j hlt
        have hx2 := hx.set (.cells (ints (marks (k + offs R j) (R.getD j []).length)) 1 false) k2 k3
        have hrow2 : ∀ a, a < R.length → (H'.set (bs j) (.cells (ints (marks (k + offs R j) (R.getD j []).length)) 1 false)).get (bs a) = .cells (ints (if a < j + 1 then (marked k R).getD a [] else R.getD a [])) 1 false := by
          intro a ha
          by_cases e : a = j
          · subst e
            rw [get_set_eq, if_pos (by omega), hmj]
          · rw [get_set_ne (q6 a j ha hlt e), hrow a ha]
            by_cases h : a < j
            · rw [if_pos h, if_pos (by omega)]
            · rw [if_neg h, if_neg (by omega)]
        have hg2 : (H'.set (bs j) (.cells (ints (marks (k + offs R j) (R.getD j []).length)) 1 false)).get g = .cells cs 1 false := (get_set_ne (Ne.symm k4)).trans hg
        have hlr : (R.getD j []).length = (R.getD j []).length := rfl
        clear hol hS2 hmg hmj q5 q6 hrow hml
        generalize hrr : R.getD j [] = r at *
        repeat' first | refine rnDU2 ?_ | (refine (markRow_c hrj rfl (by omega) (by omega) (by omega)).mono ?_; rintro u' H2 ⟨rfl, rfl⟩) | with_reducible refine And.intro (fun hc => ?_) (fun hc => ?_) | fail
        refine ⟨⟨j + 1, by omega, ?_, ?_, ?_, hg2, hx2, hrow2⟩, ?_⟩
        all_goals first | exact ivDU2 | refine smDU2 ?_ | skip
      · obtain rfl : j = R.length := by omega
        clear hol
        repeat' first | refine rnDU2 ?_ | with_reducible refine And.intro (fun hc => ?_) (fun hc => ?_) | fail
        refine hQ.out _ _ ⟨rfl, .inr ⟨g, c, cs, bs, by rw [hml], q1, q2, Nat.le_trans q3 hx.size, hg, fun a ha => ?_, fun a a' ha ha' => q6 a a' (by omega) (by omega)⟩, hx⟩
        rw [hml] at ha
        obtain ⟨c', k1, k2, k3, k4, k5⟩ := q5 a ha
        have := hrow a ha
        rw [if_pos ha] at this
        exact ⟨c', by rw [hmg a ha, marks_len]; exact k1, k2, k3, k4, this⟩
end Go.Proofs.Ytpbbfephfmdgmaa.Rai
