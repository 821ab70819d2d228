/- A part of the walk: what functions of the program do, over an abstract heap. -/
import Derived.Test.YtpbbfephfmdgmaaRaiB
import Derived.Test.YtpbbfephfmdgmaaTPx
import Derived.Test.YtpbbfephfmdgmaaProg
namespace Go.Proofs.Ytpbbfephfmdgmaa.Rai
open Go TP
set_option linter.unusedVariables false
set_option linter.unusedSimpArgs false
set_option maxRecDepth 20000
theorem mixed : Try.prog.follows .mixedOrders = true := by kernel_rfl
theorem tfDA : (Try.prog.underlying 27 = some (.slice 54)) ∧ (el Try.prog 27 = some (none, 5)) ∧ (Try.prog.underlying 37 = some (.slice 65)) ∧ (el Try.prog 37 = some (none, 1)) ∧ (Try.prog.underlying 58 = some (.slice 87)) ∧ (el Try.prog 58 = some (none, 2)) ∧ (Try.prog.underlying 65 = some (.slice 2)) ∧ (el Try.prog 65 = some (none, 1)) ∧ (Try.prog.underlying 94 = some (.array 4 2)) ∧ (el Try.prog 94 = some (some 4, 1)) ∧ (tk Try.prog 2 = some none) ∧ (tk Try.prog 54 = some (some 5)) ∧ (tk Try.prog 65 = some none) ∧ (tk Try.prog 87 = some (some 2)) ∧ (tk Try.prog 94 = some (some 4)) ∧ (cz Try.prog 2 = some 1) ∧ (bz Try.prog 2 = some 8) ∧ (cz Try.prog 54 = some 5) ∧ (bz Try.prog 54 = some 40) ∧ (cz Try.prog 65 = some 1) ∧ (bz Try.prog 65 = some 24) ∧ (cz Try.prog 87 = some 2) ∧ (bz Try.prog 87 = some 16) ∧ (zr Try.prog 2 = some (.int .i64 0)) ∧ (zr Try.prog 54 = some (.agg #[.int .i64 0, .int .i64 0, .int .i64 0, .int .i64 0, .int .i64 0])) ∧ (zr Try.prog 65 = some (.slice none 0 0)) ∧ (zr Try.prog 87 = some (.agg #[.int .i64 0, .int .i64 0])) ∧ (zr Try.prog 94 = some (.agg #[.int .i64 0, .int .i64 0, .int .i64 0, .int .i64 0])) ∧ (fo Try.prog 54 0 = some (0, none)) ∧ (fo Try.prog 54 1 = some (1, none)) ∧ (fo Try.prog 54 2 = some (2, none)) ∧ (fo Try.prog 54 3 = some (3, none)) ∧ (fo Try.prog 54 4 = some (4, none)) := by
  refine ⟨?_, ?_, ?_, ?_, ?_, ?_, ?_, ?_, ?_, ?_, ?_, ?_, ?_, ?_, ?_, ?_, ?_, ?_, ?_, ?_, ?_, ?_, ?_, ?_, ?_, ?_, ?_, ?_, ?_, ?_, ?_, ?_, ?_⟩ <;> kernel_rfl
theorem rnDA {a b : Prop} (hb : b) (h : Later b → a := by
  intro hb
  first
  | ((with_reducible first | refine AOps.nil ?_ | refine athen_n ?_ | refine athen_r ?_ | refine athen_e ?_ | refine ablock_n ?_ | refine ablock_r ?_ | refine ablock_s ?_ | refine AWp.seq' ?_ | refine AWp.block ?_ | refine AWp.skip ?_ | refine AWp.exit ?_ | refine AWp.ret ?_ | refine AWp.region ?_ | (refine ablock_e ?_ ?_; focus rfl)); repeat (with_reducible first | refine AOps.nil ?_ | refine athen_n ?_ | refine athen_r ?_ | refine athen_e ?_ | refine ablock_n ?_ | refine ablock_r ?_ | refine ablock_s ?_ | refine AWp.seq' ?_ | refine AWp.block ?_ | refine AWp.skip ?_ | refine AWp.exit ?_ | refine AWp.ret ?_ | refine AWp.region ?_ | (refine ablock_e ?_ ?_; focus rfl)))
  | (refine AOps.guardu rfl rfl rfl ?_ ?_; focus (simp (disch := (first | omega | (simp only [nx]; first | done | omega))) only [Value.bool.injEq, Bool.and_true, Bool.true_and, Bool.and_false, Bool.false_and, beq_self_eq_true, bne, Bool.not_true, Bool.not_false, sx, nx, dx, ↓reduceIte, reduceCtorEq, Nat.reduceEqDiff, ne_eq, not_false_eq_true, *]; done))
  | ((first | refine AOps.cons2 rfl rfl fun K hK => ?_ | refine AWp.cond rfl fun X Y hX hY => ?_ | refine AOps.guard rfl rfl rfl fun X Y hX hY => ?_ | refine aret_r ?_ | refine aret_n ?_); simp (disch := (first | omega | (simp only [nx]; first | done | omega))) only [acond_bool, aresK, retv, xxq, tfDA, sliceK, bnd, appendK, appsK, copyK, clearK, makeSliceK, buildSliceK, buildK, lookupK, mapPutK, mapOf, convK, allocK, indexK, partK, xxa, xxb, xxc, bne, Int.reduceEq, Int.reduceBEq, Int.reduceNe, Int.reduceBNe, Int.reduceLE, Int.reduceGT, Int.reduceGE, Int.reduceNeg, ↓reduceIte, reduceCtorEq, Nat.reduceEqDiff, Nat.reduceAdd, Nat.reduceMul, Nat.reduceSub, Nat.reduceLT, Int.reduceAdd, Int.reduceSub, Int.reduceMul, Int.reduceLT, Int.reduceToNat, ne_eq, *]; (repeat first | ((with_reducible refine And.intro (fun hc => ?_) (fun hc => absurd hc (by omega))); clear hc) | ((with_reducible refine And.intro (fun hc => absurd hc (by omega)) (fun hc => ?_)); clear hc) | ((with_reducible refine And.intro ?_ ?_); focus ((first | omega | assumption | exact cok _ rfl | exact one_ints _ | exact one_map fun _ => rfl | ((repeat refine one_cons (by first | rfl | assumption) ?_); exact one_nil) | rfl | decide | (intro u hu; cases hu)); done)) | (with_reducible refine (fun hc => ?_ : _ → _); clear hc)); (first | refine hK.out _ _ ?_ | refine ACalls.hk hK ?_ | refine appendK.hk hK ?_ | refine (fun (q : _ ∧ _) => And.intro (hK.out _ _ q.1) (hK.out _ _ q.2)) ?_ | refine hX.out ?_ | refine hY.out ?_ | refine (fun (q : (_ → _) ∧ (_ → _)) => And.intro (fun hc => hX.out (q.1 hc)) (fun hc => hY.out (q.2 hc))) ?_ | refine (fun (q : (_ → _) ∧ (_ → _)) => And.intro (fun hc => hY.out (q.1 hc)) (fun hc => hX.out (q.2 hc))) ?_ | skip))
  exact hb.out) : a := h ⟨hb⟩
theorem hlDA {p b : Prop} (hb : b) (h : p := by simp (disch := (first | omega | (simp only [nx]; first | done | omega))) only [heldIn_iff, List.zipIdx_cons, List.zipIdx_nil, List.map_cons, List.map_nil, xxq, tfDA, sliceK, bnd, appendK, appsK, copyK, clearK, makeSliceK, buildSliceK, buildK, lookupK, mapPutK, mapOf, convK, allocK, indexK, partK, xxa, xxb, xxc, bne, Int.reduceEq, Int.reduceBEq, Int.reduceNe, Int.reduceBNe, Int.reduceLE, Int.reduceGT, Int.reduceGE, Int.reduceNeg, ↓reduceIte, reduceCtorEq, Nat.reduceEqDiff, Nat.reduceAdd, Nat.reduceMul, Nat.reduceSub, Nat.reduceLT, Int.reduceAdd, Int.reduceSub, Int.reduceMul, Int.reduceLT, Int.reduceToNat, ne_eq, *]; first | done | trivial) : p ∧ b := ⟨h, hb⟩
theorem ivDA {p : Prop} (h : p := by first | omega | ((repeat first | exact Ext.refl _ | assumption | refine Ext.push ?_ _ | refine Ext.set ?_ _ (by first | omega | (simp only [nx, *]; omega)) | (apply Ext.up; focus (assumption; done))); done) | (simp (disch := (first | omega | (simp only [nx]; first | done | omega))) only [xxq, xxa, xxb, xxc, bne, Int.reduceEq, Int.reduceBEq, Int.reduceNe, Int.reduceBNe, Int.reduceLE, Int.reduceGT, Int.reduceGE, Int.reduceNeg, ↓reduceIte, reduceCtorEq, Nat.reduceEqDiff, Nat.reduceAdd, Nat.reduceMul, Nat.reduceSub, Nat.reduceLT, Int.reduceAdd, Int.reduceSub, Int.reduceMul, Int.reduceLT, Int.reduceToNat, ne_eq, *, intV_int]; first | done | omega | rfl | exact congrArg (Value.int .i64) (by omega) | ((repeat first | exact Ext.refl _ | assumption | refine Ext.push ?_ _ | refine Ext.set ?_ _ (by first | omega | (simp only [nx, *]; omega)) | (apply Ext.up; focus (assumption; done))); done)) | rfl) : p := h
theorem smDA {a b : Prop} (hb : b) (h : Later b → a := by intro hb; simp (disch := (first | omega | (simp only [nx]; first | done | omega))) only [xxq, xxa, xxb, xxc, bne, Int.reduceEq, Int.reduceBEq, Int.reduceNe, Int.reduceBNe, Int.reduceLE, Int.reduceGT, Int.reduceGE, Int.reduceNeg, ↓reduceIte, reduceCtorEq, Nat.reduceEqDiff, Nat.reduceAdd, Nat.reduceMul, Nat.reduceSub, Nat.reduceLT, Int.reduceAdd, Int.reduceSub, Int.reduceMul, Int.reduceLT, Int.reduceToNat, ne_eq, *, intV_int]; exact hb.out) : a := h ⟨hb⟩
theorem gtDA {A F : Fr} {t : Nat} {v : Value} (h : Ag [] A F) (e : F t = v := by simp (disch := (first | omega | (simp only [nx]; first | done | omega))) only [xxq, xxa, xxb, xxc, bne, Int.reduceEq, Int.reduceBEq, Int.reduceNe, Int.reduceBNe, Int.reduceLE, Int.reduceGT, Int.reduceGE, Int.reduceNeg, ↓reduceIte, reduceCtorEq, Nat.reduceEqDiff, Nat.reduceAdd, Nat.reduceMul, Nat.reduceSub, Nat.reduceLT, Int.reduceAdd, Int.reduceSub, Int.reduceMul, Int.reduceLT, Int.reduceToNat, ne_eq, *, intV_int]; exact rfl) : A t = v := (h.h t rfl).trans e
theorem agDA {D : List Nat} {A F : Fr} (h : Ag D A F := by
  repeat (with_reducible first | exact Ag.refl _ _ | refine Ag.nop ?_ | refine Ag.dead rfl ?_ | (refine Ag.live ?_ ?_; focus exact ivDA) | refine Ag.dr rfl ?_ | (refine Ag.lr ?_ ?_; focus exact ivDA) | refine Ag.up (by assumption) rfl ?_)) : Ag D A F := h
theorem sdDA {p : Prop} (h : p := by first | omega | assumption | (simp (disch := (first | omega | (simp only [nx]; first | done | omega))) only [xxq, tfDA, sliceK, bnd, appendK, appsK, copyK, clearK, makeSliceK, buildSliceK, buildK, lookupK, mapPutK, mapOf, convK, allocK, indexK, partK, xxa, xxb, xxc, bne, Int.reduceEq, Int.reduceBEq, Int.reduceNe, Int.reduceBNe, Int.reduceLE, Int.reduceGT, Int.reduceGE, Int.reduceNeg, ↓reduceIte, reduceCtorEq, Nat.reduceEqDiff, Nat.reduceAdd, Nat.reduceMul, Nat.reduceSub, Nat.reduceLT, Int.reduceAdd, Int.reduceSub, Int.reduceMul, Int.reduceLT, Int.reduceToNat, ne_eq, *]; first | done | omega | rfl)) : p := h
theorem inRange_c {H : Heap} (x lo hi : Int) : ACalls Try.prog 71 [I x, I lo, I hi] H fun v H' => v = B (decide (lo ≤ x ∧ x ≤ hi)) ∧ H' = H := by
  refine ACalls.body Try.func71 rfl Try.ntmps71 (rs := [.tmp 6]) rfl (by simp) rfl fun Q hQ A hA => ?_
  have a0 := hA 0 _ _ rfl
  have a1 := hA 1 _ _ rfl
  have a2 := hA 2 _ _ rfl
  clear hA
  by_cases h1 : lo ≤ x
  · by_cases h2 : x ≤ hi
    · repeat' first | refine rnDA ?_ | with_reducible refine And.intro (fun hc => ?_) (fun hc => ?_) | fail
      refine hQ.out _ _ ⟨?_, rfl⟩
      simp [h1, h2]
    · repeat' first | refine rnDA ?_ | with_reducible refine And.intro (fun hc => ?_) (fun hc => ?_) | fail
      refine hQ.out _ _ ⟨?_, rfl⟩
      simp [h1, h2]
  · repeat' first | refine rnDA ?_ | with_reducible refine And.intro (fun hc => ?_) (fun hc => ?_) | fail
    refine hQ.out _ _ ⟨?_, rfl⟩
    simp [h1]
theorem l01In_c {H : Heap} (x lo hi : Int) : ACalls Try.prog 36 [I x, I lo, I hi] H fun v H' => v = B (decide (lo ≤ x ∧ x ≤ hi)) ∧ H' = H := by
  refine ACalls.body Try.func36 rfl Try.ntmps36 (rs := [.tmp 6]) rfl (by simp) rfl fun Q hQ A hA => ?_
  have a0 := hA 0 _ _ rfl
  have a1 := hA 1 _ _ rfl
  have a2 := hA 2 _ _ rfl
  clear hA
  by_cases h1 : x ≥ lo
  · by_cases h2 : x ≤ hi
    · repeat' first | refine rnDA ?_ | with_reducible refine And.intro (fun hc => ?_) (fun hc => ?_) | fail
      refine hQ.out _ _ ⟨?_, rfl⟩
      simp [h2]; omega
    · repeat' first | refine rnDA ?_ | with_reducible refine And.intro (fun hc => ?_) (fun hc => ?_) | fail
      refine hQ.out _ _ ⟨?_, rfl⟩
      simp [h2]
  · repeat' first | refine rnDA ?_ | with_reducible refine And.intro (fun hc => ?_) (fun hc => ?_) | fail
    refine hQ.out _ _ ⟨?_, rfl⟩
    simp; omega
theorem sizeC_c {H : Heap} (p : Option Addr) (n k : Nat) : ACalls Try.prog 70 [.slice p n k] H fun v H' => v = I n ∧ H' = H := by
  refine ACalls.body Try.func70 rfl Try.ntmps70 (rs := [.tmp 2]) rfl (by simp) rfl fun Q hQ A hA => ?_
  have a0 := hA 0 _ _ rfl
  clear hA
  repeat' first | refine rnDA ?_ | with_reducible refine And.intro (fun hc => ?_) (fun hc => ?_) | fail
  exact hQ.out _ _ ⟨rfl, rfl⟩
theorem sizeR_c {H : Heap} (p : Option Addr) (n k : Nat) : ACalls Try.prog 75 [.slice p n k] H fun v H' => v = I n ∧ H' = H := by
  refine ACalls.body Try.func75 rfl Try.ntmps75 (rs := [.tmp 2]) rfl (by simp) rfl fun Q hQ A hA => ?_
  have a0 := hA 0 _ _ rfl
  clear hA
  repeat' first | refine rnDA ?_ | with_reducible refine And.intro (fun hc => ?_) (fun hc => ?_) | fail
  exact hQ.out _ _ ⟨rfl, rfl⟩
theorem sizeE_c {H : Heap} (p : Option Addr) (n k : Nat) : ACalls Try.prog 93 [.slice p n k] H fun v H' => v = I n ∧ H' = H := by
  refine ACalls.body Try.func93 rfl Try.ntmps93 (rs := [.tmp 2]) rfl (by simp) rfl fun Q hQ A hA => ?_
  have a0 := hA 0 _ _ rfl
  clear hA
  repeat' first | refine rnDA ?_ | with_reducible refine And.intro (fun hc => ?_) (fun hc => ?_) | fail
  exact hQ.out _ _ ⟨rfl, rfl⟩
theorem hasIndexE_c {H : Heap} (p : Option Addr) (n k : Nat) (hn : n ≤ 1000000) (x : Int) : ACalls Try.prog 87 [.slice p n k, I x] H fun v H' => v = B (decide (0 ≤ x ∧ x ≤ (n : Int) - 1)) ∧ H' = H := by
  refine ACalls.body Try.func87 rfl Try.ntmps87 (rs := [.tmp 4]) rfl (by simp) rfl fun Q hQ A hA => ?_
  have a0 := hA 0 _ _ rfl
  have a1 := hA 1 _ _ rfl
  clear hA
  repeat' first | refine rnDA ?_ | (refine (sizeE_c _ _ _).mono ?_; rintro v H' ⟨rfl, rfl⟩) | (refine (inRange_c _ _ _).mono ?_; rintro v H' ⟨rfl, rfl⟩) | with_reducible refine And.intro (fun hc => ?_) (fun hc => ?_) | fail
  exact hQ.out _ _ ⟨rfl, rfl⟩
theorem hasIndexR_c {H : Heap} (p : Option Addr) (n k : Nat) (hn : n ≤ 1000000) (x : Int) : ACalls Try.prog 59 [.slice p n k, I x] H fun v H' => v = B (decide (0 ≤ x ∧ x ≤ (n : Int) - 1)) ∧ H' = H := by
  refine ACalls.body Try.func59 rfl Try.ntmps59 (rs := [.tmp 4]) rfl (by simp) rfl fun Q hQ A hA => ?_
  have a0 := hA 0 _ _ rfl
  have a1 := hA 1 _ _ rfl
  clear hA
  repeat' first | refine rnDA ?_ | (refine (sizeR_c _ _ _).mono ?_; rintro v H' ⟨rfl, rfl⟩) | (refine (inRange_c _ _ _).mono ?_; rintro v H' ⟨rfl, rfl⟩) | with_reducible refine And.intro (fun hc => ?_) (fun hc => ?_) | fail
  exact hQ.out _ _ ⟨rfl, rfl⟩
/-- A crossing: the arcs around it, its sign. -/
structure Cr where
  a : Int
  b : Int
  c : Int
  d : Int
  s : Int
def cr5 (x : Cr) : List Value := [I x.a, I x.b, I x.c, I x.d, I x.s]
abbrev crV (x : Cr) : Value := .agg #[I x.a, I x.b, I x.c, I x.d, I x.s]
def cr0 : Cr := ⟨0, 0, 0, 0, 0⟩
/-- The arc at a position. -/
def endC (x : Cr) : Nat → Int
  | 0 => x.a
  | 1 => x.b
  | 2 => x.c
  | _ => x.d
def entC (x : Cr) : Nat → Bool
  | 0 => true
  | 1 => decide (x.s = -1)
  | 2 => false
  | _ => decide (x.s = 1)
theorem l25End_c {H : Heap} (x : Cr) (p : Nat) (hp : p < 4) : ACalls Try.prog 64 [crV x, I p] H fun v H' => v = I (endC x p) ∧ Ext H H' := by
  have : p = 0 ∨ p = 1 ∨ p = 2 ∨ p = 3 := by omega
  rcases this with rfl | rfl | rfl | rfl
  all_goals
    first | change ACalls _ _ [crV x, I 0] H _ | change ACalls _ _ [crV x, I 1] H _ | change ACalls _ _ [crV x, I 2] H _ | change ACalls _ _ [crV x, I 3] H _
    refine ACalls.body Try.func64 rfl Try.ntmps64 (rs := [.tmp 4]) rfl (by simp) rfl fun Q hQ A hA => ?_
    have a0 := hA 0 _ _ rfl
    have a1 := hA 1 _ _ rfl
    clear hA
    repeat' first | refine rnDA ?_ | with_reducible refine And.intro (fun hc => ?_) (fun hc => ?_) | fail
    exact hQ.out _ _ ⟨rfl, by exact ex1⟩
set_option maxHeartbeats 1000000 in
theorem l25Enters_c {H : Heap} (x : Cr) (p : Nat) (hp : p < 4) : ACalls Try.prog 65 [crV x, I p] H fun v H' => v = B (entC x p) ∧ Ext H H' := by
  have : p = 0 ∨ p = 1 ∨ p = 2 ∨ p = 3 := by omega
  rcases this with rfl | rfl | rfl | rfl
  all_goals
    first | change ACalls _ _ [crV x, I 0] H _ | change ACalls _ _ [crV x, I 1] H _ | change ACalls _ _ [crV x, I 2] H _ | change ACalls _ _ [crV x, I 3] H _
    refine ACalls.body Try.func65 rfl Try.ntmps65 (rs := [.tmp 4]) rfl (by simp) rfl fun Q hQ A hA => ?_
    have a0 := hA 0 _ _ rfl
    have a1 := hA 1 _ _ rfl
    clear hA
    repeat' first | refine rnDA ?_ | with_reducible refine And.intro (fun hc => ?_) (fun hc => ?_) | fail
    all_goals exact hQ.out _ _ ⟨by first | rfl | (simp [entC, *]; done), by exact ex1⟩
theorem ends_c {H : Heap} (x : Cr) : ACalls Try.prog 85 [crV x] H fun v H' => v = .agg #[I (endC x 0), I (endC x 1), I (endC x 2), I (endC x 3)] ∧ Ext H H' := by
  refine ACalls.body Try.func85 rfl Try.ntmps85 (rs := [.cell 2 94]) rfl (by simp) rfl fun Q hQ A hA => ?_
  have a0 := hA 0 _ _ rfl
  clear hA
  repeat' first | refine rnDA ?_ | with_reducible refine And.intro (fun hc => ?_) (fun hc => ?_) | fail
  exact hQ.out _ _ ⟨rfl, by exact ex1⟩
theorem enters_c {H : Heap} (x : Cr) (hs : x.s = 1 ∨ x.s = -1) (p : Nat) (hp : p < 4) : ACalls Try.prog 86 [crV x, I p] H fun v H' => v = B (entC x p) ∧ Ext H H' := by
  have : p = 0 ∨ p = 1 ∨ p = 2 ∨ p = 3 := by omega
  rcases hs with hs | hs <;> rcases this with rfl | rfl | rfl | rfl
  all_goals
    first | change ACalls _ _ [crV x, I 0] H _ | change ACalls _ _ [crV x, I 1] H _ | change ACalls _ _ [crV x, I 2] H _ | change ACalls _ _ [crV x, I 3] H _
    refine ACalls.body Try.func86 rfl Try.ntmps86 (rs := [.tmp 4]) rfl (by simp) rfl fun Q hQ A hA => ?_
    have a0 := hA 0 _ _ rfl
    have a1 := hA 1 _ _ rfl
    clear hA
    repeat' first | refine rnDA ?_ | with_reducible refine And.intro (fun hc => ?_) (fun hc => ?_) | fail
    exact hQ.out _ _ ⟨by simp [entC, hs], by exact ex1⟩
end Go.Proofs.Ytpbbfephfmdgmaa.Rai
