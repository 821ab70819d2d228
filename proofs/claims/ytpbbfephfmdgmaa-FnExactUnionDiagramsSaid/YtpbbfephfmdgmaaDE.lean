/- A part of the walk: what functions of the program do, over an abstract heap. -/
import Derived.Test.YtpbbfephfmdgmaaDC
namespace Go.Proofs.Ytpbbfephfmdgmaa.Rai
open Go TP
set_option linter.unusedVariables false
set_option linter.unusedSimpArgs false
set_option maxRecDepth 20000
theorem tfDE : (Try.prog.underlying 4 = some .bool) ∧ (Try.prog.underlying 27 = some (.slice 54)) ∧ (el Try.prog 27 = some (none, 5)) ∧ (tk Try.prog 27 = some none) ∧ (tk Try.prog 54 = some (some 5)) ∧ (cz Try.prog 54 = some 5) ∧ (bz Try.prog 54 = some 40) ∧ (zr Try.prog 54 = some (.agg #[.int .i64 0, .int .i64 0, .int .i64 0, .int .i64 0, .int .i64 0])) ∧ (fo Try.prog 29 0 = some (0, none)) := by
  refine ⟨?_, ?_, ?_, ?_, ?_, ?_, ?_, ?_, ?_⟩ <;> kernel_rfl
theorem rnDE {a b : Prop} (hb : b) (h : Later b → a := by
  intro hb
  first
  | ((with_reducible first | refine AOps.nil ?_ | refine athen_n ?_ | refine athen_r ?_ | refine athen_e ?_ | refine ablock_n ?_ | refine ablock_r ?_ | refine ablock_s ?_ | refine AWp.seq' ?_ | refine AWp.block ?_ | refine AWp.skip ?_ | refine AWp.exit ?_ | refine AWp.ret ?_ | refine AWp.region ?_ | (refine ablock_e ?_ ?_; focus rfl)); repeat (with_reducible first | refine AOps.nil ?_ | refine athen_n ?_ | refine athen_r ?_ | refine athen_e ?_ | refine ablock_n ?_ | refine ablock_r ?_ | refine ablock_s ?_ | refine AWp.seq' ?_ | refine AWp.block ?_ | refine AWp.skip ?_ | refine AWp.exit ?_ | refine AWp.ret ?_ | refine AWp.region ?_ | (refine ablock_e ?_ ?_; focus rfl)))
  | (refine AOps.guardu rfl rfl rfl ?_ ?_; focus (simp (disch := (first | omega | (simp only [nx]; first | done | omega))) only [Value.bool.injEq, Bool.and_true, Bool.true_and, Bool.and_false, Bool.false_and, beq_self_eq_true, bne, Bool.not_true, Bool.not_false, sx, nx, dx, ↓reduceIte, reduceCtorEq, Nat.reduceEqDiff, ne_eq, not_false_eq_true, *]; done))
  | ((first | refine AOps.cons2 rfl rfl fun K hK => ?_ | refine AWp.cond rfl fun X Y hX hY => ?_ | refine AOps.guard rfl rfl rfl fun X Y hX hY => ?_ | refine aret_r ?_ | refine aret_n ?_); simp (disch := (first | omega | (simp only [nx]; first | done | omega))) only [acond_bool, aresK, retv, xxq, tfDE, sliceK, bnd, appendK, appsK, copyK, clearK, makeSliceK, buildSliceK, buildK, lookupK, mapPutK, mapOf, convK, allocK, indexK, partK, xxa, xxb, xxc, bne, Int.reduceEq, Int.reduceBEq, Int.reduceNe, Int.reduceBNe, Int.reduceLE, Int.reduceGT, Int.reduceGE, Int.reduceNeg, ↓reduceIte, reduceCtorEq, Nat.reduceEqDiff, Nat.reduceAdd, Nat.reduceMul, Nat.reduceSub, Nat.reduceLT, Int.reduceAdd, Int.reduceSub, Int.reduceMul, Int.reduceLT, Int.reduceToNat, ne_eq, *]; (repeat first | ((with_reducible refine And.intro (fun hc => ?_) (fun hc => absurd hc (by omega))); clear hc) | ((with_reducible refine And.intro (fun hc => absurd hc (by omega)) (fun hc => ?_)); clear hc) | ((with_reducible refine And.intro ?_ ?_); focus ((first | omega | assumption | exact cok _ rfl | exact one_ints _ | exact one_map fun _ => rfl | ((repeat refine one_cons (by first | rfl | assumption) ?_); exact one_nil) | rfl | decide | (intro u hu; cases hu)); done)) | (with_reducible refine (fun hc => ?_ : _ → _); clear hc)); (first | refine hK.out _ _ ?_ | refine ACalls.hk hK ?_ | refine appendK.hk hK ?_ | refine (fun (q : _ ∧ _) => And.intro (hK.out _ _ q.1) (hK.out _ _ q.2)) ?_ | refine hX.out ?_ | refine hY.out ?_ | refine (fun (q : (_ → _) ∧ (_ → _)) => And.intro (fun hc => hX.out (q.1 hc)) (fun hc => hY.out (q.2 hc))) ?_ | refine (fun (q : (_ → _) ∧ (_ → _)) => And.intro (fun hc => hY.out (q.1 hc)) (fun hc => hX.out (q.2 hc))) ?_ | skip))
  exact hb.out) : a := h ⟨hb⟩
theorem hlDE {p b : Prop} (hb : b) (h : p := by simp (disch := (first | omega | (simp only [nx]; first | done | omega))) only [heldIn_iff, List.zipIdx_cons, List.zipIdx_nil, List.map_cons, List.map_nil, xxq, tfDE, sliceK, bnd, appendK, appsK, copyK, clearK, makeSliceK, buildSliceK, buildK, lookupK, mapPutK, mapOf, convK, allocK, indexK, partK, xxa, xxb, xxc, bne, Int.reduceEq, Int.reduceBEq, Int.reduceNe, Int.reduceBNe, Int.reduceLE, Int.reduceGT, Int.reduceGE, Int.reduceNeg, ↓reduceIte, reduceCtorEq, Nat.reduceEqDiff, Nat.reduceAdd, Nat.reduceMul, Nat.reduceSub, Nat.reduceLT, Int.reduceAdd, Int.reduceSub, Int.reduceMul, Int.reduceLT, Int.reduceToNat, ne_eq, *]; first | done | trivial) : p ∧ b := ⟨h, hb⟩
theorem ivDE {p : Prop} (h : p := by first | omega | ((repeat first | exact Ext.refl _ | assumption | refine Ext.push ?_ _ | refine Ext.set ?_ _ (by first | omega | (simp only [nx, *]; omega)) | (apply Ext.up; focus (assumption; done))); done) | (simp (disch := (first | omega | (simp only [nx]; first | done | omega))) only [xxq, xxa, xxb, xxc, bne, Int.reduceEq, Int.reduceBEq, Int.reduceNe, Int.reduceBNe, Int.reduceLE, Int.reduceGT, Int.reduceGE, Int.reduceNeg, ↓reduceIte, reduceCtorEq, Nat.reduceEqDiff, Nat.reduceAdd, Nat.reduceMul, Nat.reduceSub, Nat.reduceLT, Int.reduceAdd, Int.reduceSub, Int.reduceMul, Int.reduceLT, Int.reduceToNat, ne_eq, *, intV_int]; first | done | omega | rfl | exact congrArg (Value.int .i64) (by omega) | ((repeat first | exact Ext.refl _ | assumption | refine Ext.push ?_ _ | refine Ext.set ?_ _ (by first | omega | (simp only [nx, *]; omega)) | (apply Ext.up; focus (assumption; done))); done)) | rfl) : p := h
theorem smDE {a b : Prop} (hb : b) (h : Later b → a := by intro hb; simp (disch := (first | omega | (simp only [nx]; first | done | omega))) only [xxq, xxa, xxb, xxc, bne, Int.reduceEq, Int.reduceBEq, Int.reduceNe, Int.reduceBNe, Int.reduceLE, Int.reduceGT, Int.reduceGE, Int.reduceNeg, ↓reduceIte, reduceCtorEq, Nat.reduceEqDiff, Nat.reduceAdd, Nat.reduceMul, Nat.reduceSub, Nat.reduceLT, Int.reduceAdd, Int.reduceSub, Int.reduceMul, Int.reduceLT, Int.reduceToNat, ne_eq, *, intV_int]; exact hb.out) : a := h ⟨hb⟩
theorem gtDE {A F : Fr} {t : Nat} {v : Value} (h : Ag [] A F) (e : F t = v := by simp (disch := (first | omega | (simp only [nx]; first | done | omega))) only [xxq, xxa, xxb, xxc, bne, Int.reduceEq, Int.reduceBEq, Int.reduceNe, Int.reduceBNe, Int.reduceLE, Int.reduceGT, Int.reduceGE, Int.reduceNeg, ↓reduceIte, reduceCtorEq, Nat.reduceEqDiff, Nat.reduceAdd, Nat.reduceMul, Nat.reduceSub, Nat.reduceLT, Int.reduceAdd, Int.reduceSub, Int.reduceMul, Int.reduceLT, Int.reduceToNat, ne_eq, *, intV_int]; exact rfl) : A t = v := (h.h t rfl).trans e
theorem agDE {D : List Nat} {A F : Fr} (h : Ag D A F := by
  repeat (with_reducible first | exact Ag.refl _ _ | refine Ag.nop ?_ | refine Ag.dead rfl ?_ | (refine Ag.live ?_ ?_; focus exact ivDE) | refine Ag.dr rfl ?_ | (refine Ag.lr ?_ ?_; focus exact ivDE) | refine Ag.up (by assumption) rfl ?_)) : Ag D A F := h
theorem sdDE {p : Prop} (h : p := by first | omega | assumption | (simp (disch := (first | omega | (simp only [nx]; first | done | omega))) only [xxq, tfDE, sliceK, bnd, appendK, appsK, copyK, clearK, makeSliceK, buildSliceK, buildK, lookupK, mapPutK, mapOf, convK, allocK, indexK, partK, xxa, xxb, xxc, bne, Int.reduceEq, Int.reduceBEq, Int.reduceNe, Int.reduceBNe, Int.reduceLE, Int.reduceGT, Int.reduceGE, Int.reduceNeg, ↓reduceIte, reduceCtorEq, Nat.reduceEqDiff, Nat.reduceAdd, Nat.reduceMul, Nat.reduceSub, Nat.reduceLT, Int.reduceAdd, Int.reduceSub, Int.reduceMul, Int.reduceLT, Int.reduceToNat, ne_eq, *]; first | done | omega | rfl)) : p := h
/-- The ends in their order: the arc, and whether it enters. -/
def eAt (C : List Cr) (j : Nat) : Int := endC (C.getD (j / 4) cr0) (j % 4)
def nAt (C : List Cr) (j : Nat) : Bool := entC (C.getD (j / 4) cr0) (j % 4)
theorem eAt_at (C : List Cr) (c p : Nat) (hp : p < 4) : eAt C (4 * c + p) = endC (C.getD c cr0) p := by
  unfold eAt; rw [show (4 * c + p) / 4 = c by omega, show (4 * c + p) % 4 = p by omega]
theorem nAt_at (C : List Cr) (c p : Nat) (hp : p < 4) : nAt C (4 * c + p) = entC (C.getD c cr0) p := by
  unfold nAt; rw [show (4 * c + p) / 4 = c by omega, show (4 * c + p) % 4 = p by omega]
/-- The first end below k with arc a that enters (or leaves). -/
def fnd (C : List Cr) (a : Int) (b : Bool) : Nat → Option Nat
  | 0 => none
  | k + 1 => match fnd C a b k with
    | some j => some j
    | none => if eAt C k = a ∧ nAt C k = b then some k else none
theorem fnd_mono {C : List Cr} {a : Int} {b : Bool} {k j : Nat} (h : fnd C a b k = some j) : ∀ m, k ≤ m → fnd C a b m = some j
  | 0, hm => by obtain rfl : k = 0 := by omega
                exact h
  | m + 1, hm => by
    by_cases e : k = m + 1
    · rw [← e]; exact h
    · unfold fnd; rw [fnd_mono h m (by omega)]
theorem fnd_spec {C : List Cr} {a : Int} {b : Bool} {j : Nat} : ∀ {k : Nat}, fnd C a b k = some j → j < k ∧ eAt C j = a ∧ nAt C j = b
  | 0, h => by cases h
  | k + 1, h => by
    unfold fnd at h
    split at h
    · rename_i i hi; injection h with h; subst h
      obtain ⟨h1, h2⟩ := fnd_spec hi
      exact ⟨by omega, h2⟩
    · split at h
      · rename_i h2; injection h with h; subst h; exact ⟨by omega, h2⟩
      · cases h
theorem fnd_none {C : List Cr} {a : Int} {b : Bool} : ∀ {k : Nat}, fnd C a b k = none → ∀ j, j < k → ¬ (eAt C j = a ∧ nAt C j = b)
  | 0, _, j, hj => by omega
  | k + 1, h, j, hj => by
    unfold fnd at h
    split at h
    · cases h
    · rename_i h1
      split at h
      · cases h
      · rename_i h2
        by_cases e : j = k
        · rw [e]; exact h2
        · exact fnd_none h1 j (by omega)
def placeV (o : Option Nat) : Value := match o with
  | some j => .tuple #[I (j / 4 : Nat), I (j % 4 : Nat)]
  | none => .tuple #[I (-1), I (-1)]
theorem l25Place_c {H : Heap} {v : Value} {C : List Cr} (z : Int) (hC : RdC H v C) (hn : C.length ≤ 1000) (a : Int) (b : Bool) : ACalls Try.prog 82 [.agg #[v, I z], I a, B b] H fun u H' => u = placeV (fnd C a b (4 * C.length)) ∧ Ext H H' := by
  have h1 := hC.one
  obtain ⟨p, k, rfl, hp, hh⟩ := hC
  clear h1
  refine ACalls.body Try.func82 rfl Try.ntmps82 (rs := [.tmp 6, .tmp 7]) rfl (by simp) rfl fun Q hQ A hA => ?_
  have a0 := hA 0 _ _ rfl
  have a1 := hA 1 _ _ rfl
  have a2 := hA 2 _ _ rfl
  clear hA
  repeat' first | refine rnDE ?_ | with_reducible refine And.intro (fun hc => ?_) (fun hc => ?_) | fail
  refine AWp.cut (fun Ac hAc => ?_)
  have c1 := gtDE (t := 1) hAc
  have c2 := gtDE (t := 2) hAc
  have c3 := gtDE (t := 3) hAc
  have c8 := gtDE (t := 8) hAc
  clear a0 a1 a2
  refine AWp.loop (fun A' H' => ∃ (c : Nat), Ag [9, 10, 11, 12, 13, 14, 15, 16, 17, 18, 19, 20, 21, 22, 23, 24, 25, 26, 27, 28, 29, 30, 31, 32, 33, 34, 35, 36, 37, 38, 39, 40, 41, 42] A' (put Ac (some 8) (I c)) ∧ c ≤ C.length ∧ fnd C a b (4 * c) = none ∧ Ext (H.push (.cells [.slice p C.length k, I z] 1 false)) H') (fun A' _ => C.length - (intV (A' 8)).toNat) ?_ ?_
  · exact ⟨0, agDE, by omega, rfl, Ext.refl _⟩
  · rintro A1 H1 ⟨c, hA, hc, hf, hx⟩
    have d1 := hA.h 1 rfl
    have d2 := hA.h 2 rfl
    have d3 := hA.h 3 rfl
    have d8 := hA.h 8 rfl
    have hx0 : Ext H H1 := hx.pop
    have hbx : H1.get H.size = .cells [.slice p C.length k, I z] 1 false := (hx.get H.size (by simp only [nx]; omega)).trans (get_push_eq rfl)
    have hxs := hx0.size
    by_cases hlt : c < C.length
    · obtain ⟨b1, cs, ro, rfl, hb, hg, hl, hcc⟩ := hh c hlt
      rw [cr5] at hcc
      repeat' first | refine rnDE ?_ | with_reducible refine And.intro (fun hc => ?_) (fun hc => ?_) | fail
      refine AWp.cut (fun Ae hAe => ?_)
      have e1 := gtDE (t := 1) hAe
      have e2 := gtDE (t := 2) hAe
      have e3 := gtDE (t := 3) hAe
      have e8 := gtDE (t := 8) hAe
      have e9 := gtDE (t := 9) hAe
      clear d1 d2 d3
      refine AWp.loop (fun A' H' => ∃ (q : Nat), Ag [17, 18, 19, 20, 21, 22, 23, 24, 25, 26, 27, 28, 29, 30, 31, 32, 33, 34, 35, 36, 37, 38, 39, 40, 41, 42] A' (put Ae (some 9) (I q)) ∧ q ≤ 4 ∧ fnd C a b (4 * c + q) = none ∧ Ext H1 H') (fun A' _ => 4 - (intV (A' 9)).toNat) ?_ ?_
      · exact ⟨0, agDE, by omega, hf, Ext.refl _⟩
      · rintro A2 H2 ⟨q, hA2, hq, hf2, hx2⟩
        have f1 := hA2.h 1 rfl
        have f2 := hA2.h 2 rfl
        have f3 := hA2.h 3 rfl
        have f8 := hA2.h 8 rfl
        have f9 := hA2.h 9 rfl
        have hg2 := ((hx0.trans hx2).get b1 hb).trans hg
        have hbx2 := (hx2.get H.size (by have := hx.size; simp only [nx] at this; omega)).trans hbx
        have hxs2 := hx2.size
        have hxs1 := hx.size
        simp only [nx] at hxs1
        by_cases hq4 : q < 4
        · have he := eAt_at C c q hq4
          have hn2 := nAt_at C c q hq4
          have hst : fnd C a b (4 * c + (q + 1)) = if eAt C (4 * c + q) = a ∧ nAt C (4 * c + q) = b then some (4 * c + q) else none := by
            rw [← Nat.add_assoc]; show (match fnd C a b (4 * c + q) with | some j => some j | none => _) = _
            rw [hf2]
          rw [he, hn2] at hst
          by_cases h1 : endC (C.getD c cr0) q = a
          · by_cases h2 : entC (C.getD c cr0) q = b
            · rw [if_pos ⟨h1, h2⟩] at hst
              have hfin := fnd_mono hst (4 * C.length) (by omega)
              have hq1 : (4 * c + q) / 4 = c := by omega
              have hq2 : (4 * c + q) % 4 = q := by omega
              rw [hfin] at hQ
              simp only [placeV, hq1, hq2] at hQ
              repeat' first | refine rnDE ?_ | (refine (l25End_c (C.getD c cr0) q hq4).mono ?_; rintro v H3 ⟨rfl, hx3⟩; have hx3g := hx3.get; have hx3s := hx3.size; (try simp only [nx] at hx3s)) | (refine (l25Enters_c (C.getD c cr0) q hq4).mono ?_; rintro v H4 ⟨rfl, hx4⟩; have hx4g := hx4.get; have hx4s := hx4.size; (try simp only [nx] at hx4s)) | with_reducible refine And.intro (fun hc => ?_) (fun hc => ?_) | fail
              exact hQ.out _ _ ⟨rfl, by exact ex1⟩
            · rw [if_neg (fun h => h2 h.2)] at hst
              have hb2 : (entC (C.getD c cr0) q == b) = false := by simpa using h2
              clear h2
              repeat' first | refine rnDE ?_ | (refine (l25End_c (C.getD c cr0) q hq4).mono ?_; rintro v H3 ⟨rfl, hx3⟩; have hx3g := hx3.get; have hx3s := hx3.size; (try simp only [nx] at hx3s)) | (refine (l25Enters_c (C.getD c cr0) q hq4).mono ?_; rintro v H4 ⟨rfl, hx4⟩; have hx4g := hx4.get; have hx4s := hx4.size; (try simp only [nx] at hx4s)) | with_reducible refine And.intro (fun hc => ?_) (fun hc => ?_) | fail
              refine ⟨⟨q + 1, agDE, by omega, hst, by exact ex1⟩, ?_⟩
              all_goals first | exact ivDE | refine smDE ?_ | skip
          · rw [if_neg (fun h => h1 h.1)] at hst
            have hb1 : (endC (C.getD c cr0) q == a) = false := by simpa using h1
            clear h1
            repeat' first | refine rnDE ?_ | (refine (l25End_c (C.getD c cr0) q hq4).mono ?_; rintro v H3 ⟨rfl, hx3⟩; have hx3g := hx3.get; have hx3s := hx3.size; (try simp only [nx] at hx3s)) | (refine (l25Enters_c (C.getD c cr0) q hq4).mono ?_; rintro v H4 ⟨rfl, hx4⟩; have hx4g := hx4.get; have hx4s := hx4.size; (try simp only [nx] at hx4s)) | with_reducible refine And.intro (fun hc => ?_) (fun hc => ?_) | fail
            refine ⟨⟨q + 1, agDE, by omega, hst, by exact ex1⟩, ?_⟩
            all_goals first | exact ivDE | refine smDE ?_ | skip
        · obtain rfl : q = 4 := by omega
          repeat' first | refine rnDE ?_ | with_reducible refine And.intro (fun hc => ?_) (fun hc => ?_) | fail
          refine ⟨⟨c + 1, agDE, by omega, hf2, hx.trans hx2⟩, ?_⟩
          all_goals first | exact ivDE | refine smDE ?_ | skip
    · obtain rfl : c = C.length := by omega
      rw [hf] at hQ
      repeat' first | refine rnDE ?_ | with_reducible refine And.intro (fun hc => ?_) (fun hc => ?_) | fail
      exact hQ.out _ _ ⟨rfl, hx0⟩
end Go.Proofs.Ytpbbfephfmdgmaa.Rai
