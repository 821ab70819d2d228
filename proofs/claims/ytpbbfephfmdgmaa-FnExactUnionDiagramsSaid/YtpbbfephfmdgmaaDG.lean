/- A part of the walk: what functions of the program do, over an abstract heap. -/
import Derived.Test.YtpbbfephfmdgmaaDF
namespace Go.Proofs.Ytpbbfephfmdgmaa.Rai
open Go TP
set_option linter.unusedVariables false
set_option linter.unusedSimpArgs false
set_option maxRecDepth 20000
theorem tfDG : (Try.prog.underlying 4 = some .bool) ∧ (Try.prog.underlying 27 = some (.slice 54)) ∧ (el Try.prog 27 = some (none, 5)) ∧ (tk Try.prog 27 = some none) ∧ (tk Try.prog 29 = some (some 2)) ∧ (tk Try.prog 54 = some (some 5)) ∧ (cz Try.prog 54 = some 5) ∧ (bz Try.prog 54 = some 40) ∧ (zr Try.prog 54 = some (.agg #[.int .i64 0, .int .i64 0, .int .i64 0, .int .i64 0, .int .i64 0])) ∧ (fo Try.prog 29 0 = some (0, none)) := by
  refine ⟨?_, ?_, ?_, ?_, ?_, ?_, ?_, ?_, ?_, ?_⟩ <;> kernel_rfl
theorem rnDG {a b : Prop} (hb : b) (h : Later b → a := by
  intro hb
  first
  | ((with_reducible first | refine AOps.nil ?_ | refine athen_n ?_ | refine athen_r ?_ | refine athen_e ?_ | refine ablock_n ?_ | refine ablock_r ?_ | refine ablock_s ?_ | refine AWp.seq' ?_ | refine AWp.block ?_ | refine AWp.skip ?_ | refine AWp.exit ?_ | refine AWp.ret ?_ | refine AWp.region ?_ | (refine ablock_e ?_ ?_; focus rfl)); repeat (with_reducible first | refine AOps.nil ?_ | refine athen_n ?_ | refine athen_r ?_ | refine athen_e ?_ | refine ablock_n ?_ | refine ablock_r ?_ | refine ablock_s ?_ | refine AWp.seq' ?_ | refine AWp.block ?_ | refine AWp.skip ?_ | refine AWp.exit ?_ | refine AWp.ret ?_ | refine AWp.region ?_ | (refine ablock_e ?_ ?_; focus rfl)))
  | (refine AOps.guardu rfl rfl rfl ?_ ?_; focus (simp (disch := (first | omega | (simp only [nx]; first | done | omega))) only [Value.bool.injEq, Bool.and_true, Bool.true_and, Bool.and_false, Bool.false_and, beq_self_eq_true, bne, Bool.not_true, Bool.not_false, sx, nx, dx, ↓reduceIte, reduceCtorEq, Nat.reduceEqDiff, ne_eq, not_false_eq_true, *]; done))
  | ((first | refine AOps.cons2 rfl rfl fun K hK => ?_ | refine AWp.cond rfl fun X Y hX hY => ?_ | refine AOps.guard rfl rfl rfl fun X Y hX hY => ?_ | refine aret_r ?_ | refine aret_n ?_); simp (disch := (first | omega | (simp only [nx]; first | done | omega))) only [acond_bool, aresK, retv, xxq, tfDG, sliceK, bnd, appendK, appsK, copyK, clearK, makeSliceK, buildSliceK, buildK, lookupK, mapPutK, mapOf, convK, allocK, indexK, partK, xxa, xxb, xxc, bne, Int.reduceEq, Int.reduceBEq, Int.reduceNe, Int.reduceBNe, Int.reduceLE, Int.reduceGT, Int.reduceGE, Int.reduceNeg, ↓reduceIte, reduceCtorEq, Nat.reduceEqDiff, Nat.reduceAdd, Nat.reduceMul, Nat.reduceSub, Nat.reduceLT, Int.reduceAdd, Int.reduceSub, Int.reduceMul, Int.reduceLT, Int.reduceToNat, ne_eq, *]; (repeat first | ((with_reducible refine And.intro (fun hc => ?_) (fun hc => absurd hc (by omega))); clear hc) | ((with_reducible refine And.intro (fun hc => absurd hc (by omega)) (fun hc => ?_)); clear hc) | ((with_reducible refine And.intro ?_ ?_); focus ((first | omega | assumption | exact cok _ rfl | exact one_ints _ | exact one_map fun _ => rfl | ((repeat refine one_cons (by first | rfl | assumption) ?_); exact one_nil) | rfl | decide | (intro u hu; cases hu)); done)) | (with_reducible refine (fun hc => ?_ : _ → _); clear hc)); (first | refine hK.out _ _ ?_ | refine ACalls.hk hK ?_ | refine appendK.hk hK ?_ | refine (fun (q : _ ∧ _) => And.intro (hK.out _ _ q.1) (hK.out _ _ q.2)) ?_ | refine hX.out ?_ | refine hY.out ?_ | refine (fun (q : (_ → _) ∧ (_ → _)) => And.intro (fun hc => hX.out (q.1 hc)) (fun hc => hY.out (q.2 hc))) ?_ | refine (fun (q : (_ → _) ∧ (_ → _)) => And.intro (fun hc => hY.out (q.1 hc)) (fun hc => hX.out (q.2 hc))) ?_ | skip))
  exact hb.out) : a := h ⟨hb⟩
theorem rdDG {a b : Prop} (hb : b) (h : Later b → a := by
  intro hb
  first
  | with_reducible refine APl.nil ?_
  | ((first | refine APl.pure2 rfl rfl rfl rfl fun Kx hKx => ?_ | refine APl.load rfl rfl rfl fun Kx hKx => ?_ | refine APl.slice rfl rfl rfl fun Kx hKx => ?_ | refine APl.act2 rfl rfl rfl rfl fun Kx hKx => ?_); simp (disch := (first | omega | (simp only [nx]; first | done | omega))) only [heldIn_iff, List.zipIdx_cons, List.zipIdx_nil, List.map_cons, List.map_nil, xxq, tfDG, sliceK, bnd, appendK, appsK, copyK, clearK, makeSliceK, buildSliceK, buildK, lookupK, mapPutK, mapOf, convK, allocK, indexK, partK, xxa, xxb, xxc, bne, Int.reduceEq, Int.reduceBEq, Int.reduceNe, Int.reduceBNe, Int.reduceLE, Int.reduceGT, Int.reduceGE, Int.reduceNeg, ↓reduceIte, reduceCtorEq, Nat.reduceEqDiff, Nat.reduceAdd, Nat.reduceMul, Nat.reduceSub, Nat.reduceLT, Int.reduceAdd, Int.reduceSub, Int.reduceMul, Int.reduceLT, Int.reduceToNat, ne_eq, *]; (repeat first | ((with_reducible refine And.intro (fun hc => ?_) (fun hc => absurd hc (by omega))); clear hc) | ((with_reducible refine And.intro (fun hc => absurd hc (by omega)) (fun hc => ?_)); clear hc) | ((with_reducible refine And.intro ?_ ?_); focus ((first | omega | assumption | exact cok _ rfl | exact one_ints _ | exact one_map fun _ => rfl | ((repeat refine one_cons (by first | rfl | assumption) ?_); exact one_nil) | rfl | decide | (intro u hu; cases hu)); done)) | (with_reducible refine (fun hc => ?_ : _ → _); clear hc)); (first | refine hKx.out _ ?_ | refine hKx.out _ _ ?_ | refine ACalls.hkx hKx ?_ | refine (fun (q : _ ∧ _) => And.intro (hKx.out _ q.1) (hKx.out _ q.2)) ?_ | refine (fun (q : (_ → _) ∧ _) => And.intro (fun hc => hKx.out _ (q.1 hc)) (hKx.out _ q.2)) ?_ | (refine hKx.out _ _ ?_ ?_; focus (simp (disch := (first | omega | (simp only [nx]; first | done | omega))) only [heldIn_iff, List.zipIdx_cons, List.zipIdx_nil, List.map_cons, List.map_nil, xxq, tfDG, sliceK, bnd, appendK, appsK, copyK, clearK, makeSliceK, buildSliceK, buildK, lookupK, mapPutK, mapOf, convK, allocK, indexK, partK, xxa, xxb, xxc, bne, Int.reduceEq, Int.reduceBEq, Int.reduceNe, Int.reduceBNe, Int.reduceLE, Int.reduceGT, Int.reduceGE, Int.reduceNeg, ↓reduceIte, reduceCtorEq, Nat.reduceEqDiff, Nat.reduceAdd, Nat.reduceMul, Nat.reduceSub, Nat.reduceLT, Int.reduceAdd, Int.reduceSub, Int.reduceMul, Int.reduceLT, Int.reduceToNat, ne_eq, *]; first | done | trivial))))
  exact hb.out) : a := h ⟨hb⟩
theorem hlDG {p b : Prop} (hb : b) (h : p := by simp (disch := (first | omega | (simp only [nx]; first | done | omega))) only [heldIn_iff, List.zipIdx_cons, List.zipIdx_nil, List.map_cons, List.map_nil, xxq, tfDG, sliceK, bnd, appendK, appsK, copyK, clearK, makeSliceK, buildSliceK, buildK, lookupK, mapPutK, mapOf, convK, allocK, indexK, partK, xxa, xxb, xxc, bne, Int.reduceEq, Int.reduceBEq, Int.reduceNe, Int.reduceBNe, Int.reduceLE, Int.reduceGT, Int.reduceGE, Int.reduceNeg, ↓reduceIte, reduceCtorEq, Nat.reduceEqDiff, Nat.reduceAdd, Nat.reduceMul, Nat.reduceSub, Nat.reduceLT, Int.reduceAdd, Int.reduceSub, Int.reduceMul, Int.reduceLT, Int.reduceToNat, ne_eq, *]; first | done | trivial) : p ∧ b := ⟨h, hb⟩
theorem ivDG {p : Prop} (h : p := by first | omega | ((repeat first | exact Ext.refl _ | assumption | refine Ext.push ?_ _ | refine Ext.set ?_ _ (by first | omega | (simp only [nx, *]; omega)) | (apply Ext.up; focus (assumption; done))); done) | (simp (disch := (first | omega | (simp only [nx]; first | done | omega))) only [xxq, xxa, xxb, xxc, bne, Int.reduceEq, Int.reduceBEq, Int.reduceNe, Int.reduceBNe, Int.reduceLE, Int.reduceGT, Int.reduceGE, Int.reduceNeg, ↓reduceIte, reduceCtorEq, Nat.reduceEqDiff, Nat.reduceAdd, Nat.reduceMul, Nat.reduceSub, Nat.reduceLT, Int.reduceAdd, Int.reduceSub, Int.reduceMul, Int.reduceLT, Int.reduceToNat, ne_eq, *, intV_int]; first | done | omega | rfl | exact congrArg (Value.int .i64) (by omega) | ((repeat first | exact Ext.refl _ | assumption | refine Ext.push ?_ _ | refine Ext.set ?_ _ (by first | omega | (simp only [nx, *]; omega)) | (apply Ext.up; focus (assumption; done))); done)) | rfl) : p := h
theorem smDG {a b : Prop} (hb : b) (h : Later b → a := by intro hb; simp (disch := (first | omega | (simp only [nx]; first | done | omega))) only [xxq, xxa, xxb, xxc, bne, Int.reduceEq, Int.reduceBEq, Int.reduceNe, Int.reduceBNe, Int.reduceLE, Int.reduceGT, Int.reduceGE, Int.reduceNeg, ↓reduceIte, reduceCtorEq, Nat.reduceEqDiff, Nat.reduceAdd, Nat.reduceMul, Nat.reduceSub, Nat.reduceLT, Int.reduceAdd, Int.reduceSub, Int.reduceMul, Int.reduceLT, Int.reduceToNat, ne_eq, *, intV_int]; exact hb.out) : a := h ⟨hb⟩
theorem gtDG {A F : Fr} {t : Nat} {v : Value} (h : Ag [] A F) (e : F t = v := by simp (disch := (first | omega | (simp only [nx]; first | done | omega))) only [xxq, xxa, xxb, xxc, bne, Int.reduceEq, Int.reduceBEq, Int.reduceNe, Int.reduceBNe, Int.reduceLE, Int.reduceGT, Int.reduceGE, Int.reduceNeg, ↓reduceIte, reduceCtorEq, Nat.reduceEqDiff, Nat.reduceAdd, Nat.reduceMul, Nat.reduceSub, Nat.reduceLT, Int.reduceAdd, Int.reduceSub, Int.reduceMul, Int.reduceLT, Int.reduceToNat, ne_eq, *, intV_int]; exact rfl) : A t = v := (h.h t rfl).trans e
theorem agDG {D : List Nat} {A F : Fr} (h : Ag D A F := by
  repeat (with_reducible first | exact Ag.refl _ _ | refine Ag.nop ?_ | refine Ag.dead rfl ?_ | (refine Ag.live ?_ ?_; focus exact ivDG) | refine Ag.dr rfl ?_ | (refine Ag.lr ?_ ?_; focus exact ivDG) | refine Ag.up (by assumption) rfl ?_)) : Ag D A F := h
theorem sdDG {p : Prop} (h : p := by first | omega | assumption | (simp (disch := (first | omega | (simp only [nx]; first | done | omega))) only [xxq, tfDG, sliceK, bnd, appendK, appsK, copyK, clearK, makeSliceK, buildSliceK, buildK, lookupK, mapPutK, mapOf, convK, allocK, indexK, partK, xxa, xxb, xxc, bne, Int.reduceEq, Int.reduceBEq, Int.reduceNe, Int.reduceBNe, Int.reduceLE, Int.reduceGT, Int.reduceGE, Int.reduceNeg, ↓reduceIte, reduceCtorEq, Nat.reduceEqDiff, Nat.reduceAdd, Nat.reduceMul, Nat.reduceSub, Nat.reduceLT, Int.reduceAdd, Int.reduceSub, Int.reduceMul, Int.reduceLT, Int.reduceToNat, ne_eq, *]; first | done | omega | rfl)) : p := h
/-- As many different numbers below n as there are: each is met. -/
theorem pig : ∀ (n : Nat) (f : Nat → Nat), (∀ j, j < n → f j < n) → (∀ i j, i < j → j < n → f i ≠ f j) → ∀ v, v < n → ∃ j, j < n ∧ f j = v
  | 0, f, _, _, v, hv => by omega
  | n + 1, f, h1, h2, v, hv => by
    have ih := pig n (fun j => if f j = n then f n else f j) (fun j hj => by
      have a := h1 j (by omega)
      have b := h1 n (by omega)
      have c := h2 j n hj (by omega)
      try dsimp only
      split <;> omega) (fun i j hij hj => by
      have a := h2 i j hij (by omega)
      have b := h2 i n (by omega) (by omega)
      have c := h2 j n hj (by omega)
      try dsimp only
      split <;> split <;> omega)
    by_cases e : v = f n
    · exact ⟨n, by omega, e.symm⟩
    · by_cases e2 : v = n
      · have hw : f n < n := by have := h1 n (by omega); omega
        obtain ⟨j, hj, hg⟩ := ih (f n) hw
        refine ⟨j, by omega, ?_⟩
        try dsimp only at hg
        split at hg
        · rename_i h; omega
        · exact absurd hg (h2 j n hj (by omega))
      · obtain ⟨j, hj, hg⟩ := ih v (by omega)
        refine ⟨j, by omega, ?_⟩
        try dsimp only at hg
        split at hg
        · exact absurd hg.symm e
        · exact hg
theorem cnt_two {C : List Cr} (h : Cnt C) : ∀ i j, i < j → j < 4 * C.length → ¬ (eAt C i = eAt C j ∧ nAt C i = nAt C j) := fun i j hij hj hh =>
  fnd_none (h.2 j hj).2.2 i hij hh
/-- Each arc has an end that enters and one that leaves. -/
theorem cnt_all {C : List Cr} (h : Cnt C) (a : Nat) (b : Bool) (ha : a < 2 * C.length) : ∃ j, j < 4 * C.length ∧ eAt C j = a ∧ nAt C j = b := by
  have hb : ∀ j, j < 4 * C.length → 0 ≤ eAt C j ∧ eAt C j < 2 * C.length := fun j hj => by
    have := (h.2 j hj).1; have := (h.2 j hj).2.1; omega
  obtain ⟨j, hj, he⟩ := pig (4 * C.length) (fun j => 2 * (eAt C j).toNat + if nAt C j = true then 1 else 0) (fun j hj => by
    have := hb j hj
    try dsimp only
    split <;> omega) (fun i j hij hj => by
    have h1 := hb i (by omega)
    have h2 := hb j hj
    have h3 := cnt_two h i j hij hj
    try dsimp only
    intro e
    apply h3
    constructor
    · split at e <;> split at e <;> omega
    · cases e1 : nAt C i <;> cases e2 : nAt C j <;> simp [e1, e2] at e ⊢ <;> omega) (2 * a + if b = true then 1 else 0) (by split <;> omega)
  have := hb j hj
  refine ⟨j, hj, ?_, ?_⟩
  · (try dsimp only at he); split at he <;> split at he <;> omega
  · (try dsimp only at he); cases e1 : nAt C j <;> cases b <;> simp [e1] at he ⊢ <;> omega
theorem cnt_fnd {C : List Cr} (h : Cnt C) (a : Nat) (b : Bool) (ha : a < 2 * C.length) : ∃ j, fnd C a b (4 * C.length) = some j ∧ j < 4 * C.length ∧ eAt C j = a ∧ nAt C j = b := by
  cases e : fnd C a b (4 * C.length) with
  | none =>
    obtain ⟨j, hj, h1, h2⟩ := cnt_all h a b ha
    exact absurd ⟨h1, h2⟩ (fnd_none e j hj)
  | some j => exact ⟨j, rfl, fnd_spec e⟩
/-- The corner behind a corner. -/
def sucC (C : List Cr) (k : Nat) : Nat := (fnd C (eAt C (4 * (k / 4) + (k % 4 + 1) % 4)) (!nAt C (4 * (k / 4) + (k % 4 + 1) % 4)) (4 * C.length)).getD 0
/-- The arc behind an arc. -/
def nxtC (C : List Cr) (a : Nat) : Nat := (eAt C (4 * ((fnd C a true (4 * C.length)).getD 0 / 4) + ((fnd C a true (4 * C.length)).getD 0 % 4 + 2) % 4)).toNat
theorem cnt_arc {C : List Cr} (h : Cnt C) (j : Nat) (hj : j < 4 * C.length) : ∃ a : Nat, eAt C j = a ∧ a < 2 * C.length := by
  have h1 := (h.2 j hj).1
  have h2 := (h.2 j hj).2.1
  exact ⟨(eAt C j).toNat, by omega, by omega⟩
theorem sucC_spec {C : List Cr} (h : Cnt C) (k : Nat) (hk : k < 4 * C.length) : fnd C (eAt C (4 * (k / 4) + (k % 4 + 1) % 4)) (!nAt C (4 * (k / 4) + (k % 4 + 1) % 4)) (4 * C.length) = some (sucC C k) ∧ sucC C k < 4 * C.length := by
  obtain ⟨a, ha, hl⟩ := cnt_arc h (4 * (k / 4) + (k % 4 + 1) % 4) (by omega)
  unfold sucC
  rw [ha]
  obtain ⟨j, h1, h2, _⟩ := cnt_fnd h a (!nAt C (4 * (k / 4) + (k % 4 + 1) % 4)) hl
  rw [h1]
  exact ⟨rfl, h2⟩
theorem nxtC_spec {C : List Cr} (h : Cnt C) (a : Nat) (ha : a < 2 * C.length) : ∃ j, fnd C a true (4 * C.length) = some j ∧ j < 4 * C.length ∧ eAt C (4 * (j / 4) + (j % 4 + 2) % 4) = (nxtC C a : Nat) ∧ nxtC C a < 2 * C.length := by
  obtain ⟨j, h1, h2, _⟩ := cnt_fnd h a true ha
  obtain ⟨x, hx, hl⟩ := cnt_arc h (4 * (j / 4) + (j % 4 + 2) % 4) (by omega)
  have e : nxtC C a = x := by unfold nxtC; rw [h1, Option.getD_some, hx, Int.toNat_natCast]
  exact ⟨j, h1, h2, by rw [e]; exact hx, by rw [e]; exact hl⟩
set_option maxHeartbeats 1000000 in
theorem l25Successor_c {H : Heap} {v : Value} {C : List Cr} (z : Int) (hC : RdC H v C) (hn : C.length ≤ 10) (hV : Cnt C) (k : Nat) (hk : k < 4 * C.length) : ACalls Try.prog 66 [.agg #[v, I z], I k] H fun u H' => u = I (sucC C k) ∧ Ext H H' := by
  have hC1 := fun {H' : Heap} (h : Ext H H') => hC.ext h
  have hone := hC.one
  obtain ⟨p, kk, rfl, hp, hh⟩ := hC
  clear hone
  obtain ⟨b1, cs, ro, rfl, hb, hg, hl, hcc⟩ := hh (k / 4) (by omega)
  obtain ⟨hs1, hs2⟩ := sucC_spec hV k hk
  have he := eAt_at C (k / 4) ((k % 4 + 1) % 4) (by omega)
  have hn2 := nAt_at C (k / 4) ((k % 4 + 1) % 4) (by omega)
  have hd : ((k : Int) / 4) = ((k / 4 : Nat) : Int) := by omega
  have hm : ((k : Int) % 4 + 1) % 4 = (((k % 4 + 1) % 4 : Nat) : Int) := by omega
  have hq : (k % 4 + 1) % 4 < 4 := by omega
  have hc4 : k / 4 < C.length := by omega
  rw [he, hn2] at hs1
  obtain ⟨x, hxx⟩ : ∃ x, C.getD (k / 4) cr0 = x := ⟨_, rfl⟩
  rw [hxx] at hcc hs1
  rw [cr5] at hcc
  generalize k / 4 = c at *
  generalize (k % 4 + 1) % 4 = q at *
  have hfin : (4 * ((sucC C k / 4 : Nat) : Int) + ((sucC C k % 4 : Nat) : Int)) = sucC C k := by omega
  generalize sucC C k = s at *
  clear he hn2 hxx hh
  refine ACalls.body Try.func66 rfl Try.ntmps66 (rs := [.tmp 4]) rfl (by simp) rfl fun Q hQ A hA => ?_
  have a0 := hA 0 _ _ rfl
  have a1 := hA 1 _ _ rfl
  clear hA
  repeat' first | refine rnDG ?_ | with_reducible refine And.intro (fun hc => ?_) (fun hc => ?_) | fail
  refine AWp.planned [0,1,2,4,5,3,6,7,8,9,10,11,12,13] mixed (by kernel_rfl) ?_
  repeat' first | refine rdDG ?_ | (refine (l25End_c x q hq).mono ?_; rintro v H4 ⟨rfl, hx4⟩; have hx4g := hx4.get; have hx4s := hx4.size; (try simp only [nx] at hx4s); refine hlDG ?_) | (refine (l25Enters_c x q hq).mono ?_; rintro v H5 ⟨rfl, hx5⟩; have hx5g := hx5.get; have hx5s := hx5.size; (try simp only [nx] at hx5s); refine hlDG ?_) | (refine (l25Place_c z (hC1 (by exact ex1)) (by omega) _ _).mono ?_; rintro v H6 ⟨rfl, hx6⟩; rw [hs1]; simp only [placeV]; have hx6g := hx6.get; have hx6s := hx6.size; (try simp only [nx] at hx6s); refine hlDG ?_) | with_reducible refine And.intro (fun hc => ?_) ?_ | with_reducible refine And.intro ?_ ?_ | fail
  repeat' first | refine rnDG ?_ | with_reducible refine And.intro (fun hc => ?_) (fun hc => ?_) | fail
  exact hQ.out _ _ ⟨rfl, by exact ex1⟩
end Go.Proofs.Ytpbbfephfmdgmaa.Rai
