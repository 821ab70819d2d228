/- A part of the walk: what functions of the program do, over an abstract heap. -/
import Derived.Test.YtpbbfephfmdgmaaDX
import Derived.Test.YtpbbfephfmdgmaaRaiQ
namespace Go.Proofs.Ytpbbfephfmdgmaa.Rai
open Go TP
set_option linter.unusedVariables false
set_option linter.unusedSimpArgs false
set_option maxRecDepth 20000
theorem tfDY : (Try.prog.underlying 27 = some (.slice 54)) ∧ (el Try.prog 27 = some (none, 5)) ∧ (tk Try.prog 2 = some none) ∧ (tk Try.prog 27 = some none) ∧ (tk Try.prog 54 = some (some 5)) ∧ (cz Try.prog 54 = some 5) ∧ (bz Try.prog 54 = some 40) ∧ (zr Try.prog 54 = some (.agg #[.int .i64 0, .int .i64 0, .int .i64 0, .int .i64 0, .int .i64 0])) ∧ (fo Try.prog 29 0 = some (0, none)) ∧ (fo Try.prog 54 0 = some (0, none)) ∧ (fo Try.prog 54 1 = some (1, none)) ∧ (fo Try.prog 54 2 = some (2, none)) ∧ (fo Try.prog 54 3 = some (3, none)) ∧ (fo Try.prog 54 4 = some (4, none)) ∧ (el Try.prog 54 = none) ∧ (placesOf Try.prog 54 = some #[(0, 1), (1, 1), (2, 1), (3, 1), (4, 1)]) := by
  refine ⟨?_, ?_, ?_, ?_, ?_, ?_, ?_, ?_, ?_, ?_, ?_, ?_, ?_, ?_, ?_, ?_⟩ <;> kernel_rfl
theorem rnDY {a b : Prop} (hb : b) (h : Later b → a := by
  intro hb
  first
  | ((with_reducible first | refine AOps.nil ?_ | refine athen_n ?_ | refine athen_r ?_ | refine athen_e ?_ | refine ablock_n ?_ | refine ablock_r ?_ | refine ablock_s ?_ | refine AWp.seq' ?_ | refine AWp.block ?_ | refine AWp.skip ?_ | refine AWp.exit ?_ | refine AWp.ret ?_ | refine AWp.region ?_ | (refine ablock_e ?_ ?_; focus rfl)); repeat (with_reducible first | refine AOps.nil ?_ | refine athen_n ?_ | refine athen_r ?_ | refine athen_e ?_ | refine ablock_n ?_ | refine ablock_r ?_ | refine ablock_s ?_ | refine AWp.seq' ?_ | refine AWp.block ?_ | refine AWp.skip ?_ | refine AWp.exit ?_ | refine AWp.ret ?_ | refine AWp.region ?_ | (refine ablock_e ?_ ?_; focus rfl)))
  | (refine AOps.guardu rfl rfl rfl ?_ ?_; focus (simp (disch := (first | omega | (simp only [nx]; first | done | omega))) only [Value.bool.injEq, Bool.and_true, Bool.true_and, Bool.and_false, Bool.false_and, beq_self_eq_true, bne, Bool.not_true, Bool.not_false, sx, nx, dx, ↓reduceIte, reduceCtorEq, Nat.reduceEqDiff, ne_eq, not_false_eq_true, *]; done))
  | ((first | refine AOps.cons2 rfl rfl fun K hK => ?_ | refine AWp.cond rfl fun X Y hX hY => ?_ | refine AOps.guard rfl rfl rfl fun X Y hX hY => ?_ | refine aret_r ?_ | refine aret_n ?_); simp (disch := (first | omega | (simp only [nx]; first | done | omega))) only [acond_bool, aresK, retv, xxq, tfDY, sliceK, bnd, copyK, clearK, makeSliceK, buildSliceK, buildK, lookupK, mapPutK, mapOf, convK, allocK, indexK, partK, xxa, xxb, xxc, bne, Int.reduceEq, Int.reduceBEq, Int.reduceNe, Int.reduceBNe, Int.reduceLE, Int.reduceGT, Int.reduceGE, Int.reduceNeg, ↓reduceIte, reduceCtorEq, Nat.reduceEqDiff, Nat.reduceAdd, Nat.reduceMul, Nat.reduceSub, Nat.reduceLT, Int.reduceAdd, Int.reduceSub, Int.reduceMul, Int.reduceLT, Int.reduceToNat, ne_eq, *]; (repeat first | ((with_reducible refine And.intro (fun hc => ?_) (fun hc => absurd hc (by omega))); clear hc) | ((with_reducible refine And.intro (fun hc => absurd hc (by omega)) (fun hc => ?_)); clear hc) | ((with_reducible refine And.intro ?_ ?_); focus ((first | omega | assumption | exact cok _ rfl | exact one_ints _ | exact one_map fun _ => rfl | ((repeat refine one_cons (by first | rfl | assumption) ?_); exact one_nil) | rfl | decide | (intro u hu; cases hu)); done)) | (with_reducible refine (fun hc => ?_ : _ → _); clear hc)); (first | refine hK.out _ _ ?_ | refine ACalls.hk hK ?_ | refine appendK.hk hK ?_ | refine (fun (q : _ ∧ _) => And.intro (hK.out _ _ q.1) (hK.out _ _ q.2)) ?_ | refine hX.out ?_ | refine hY.out ?_ | refine (fun (q : (_ → _) ∧ (_ → _)) => And.intro (fun hc => hX.out (q.1 hc)) (fun hc => hY.out (q.2 hc))) ?_ | refine (fun (q : (_ → _) ∧ (_ → _)) => And.intro (fun hc => hY.out (q.1 hc)) (fun hc => hX.out (q.2 hc))) ?_ | skip))
  exact hb.out) : a := h ⟨hb⟩
theorem hlDY {p b : Prop} (hb : b) (h : p := by simp (disch := (first | omega | (simp only [nx]; first | done | omega))) only [heldIn_iff, List.zipIdx_cons, List.zipIdx_nil, List.map_cons, List.map_nil, xxq, tfDY, sliceK, bnd, copyK, clearK, makeSliceK, buildSliceK, buildK, lookupK, mapPutK, mapOf, convK, allocK, indexK, partK, xxa, xxb, xxc, bne, Int.reduceEq, Int.reduceBEq, Int.reduceNe, Int.reduceBNe, Int.reduceLE, Int.reduceGT, Int.reduceGE, Int.reduceNeg, ↓reduceIte, reduceCtorEq, Nat.reduceEqDiff, Nat.reduceAdd, Nat.reduceMul, Nat.reduceSub, Nat.reduceLT, Int.reduceAdd, Int.reduceSub, Int.reduceMul, Int.reduceLT, Int.reduceToNat, ne_eq, *]; first | done | trivial) : p ∧ b := ⟨h, hb⟩
theorem ivDY {p : Prop} (h : p := by first | omega | ((repeat first | exact Ext.refl _ | assumption | refine Ext.push ?_ _ | refine Ext.set ?_ _ (by first | omega | (simp only [nx, *]; omega)) | (apply Ext.up; focus (assumption; done))); done) | (simp (disch := (first | omega | (simp only [nx]; first | done | omega))) only [xxq, xxa, xxb, xxc, bne, Int.reduceEq, Int.reduceBEq, Int.reduceNe, Int.reduceBNe, Int.reduceLE, Int.reduceGT, Int.reduceGE, Int.reduceNeg, ↓reduceIte, reduceCtorEq, Nat.reduceEqDiff, Nat.reduceAdd, Nat.reduceMul, Nat.reduceSub, Nat.reduceLT, Int.reduceAdd, Int.reduceSub, Int.reduceMul, Int.reduceLT, Int.reduceToNat, ne_eq, *, intV_int]; first | done | omega | rfl | exact congrArg (Value.int .i64) (by omega) | ((repeat first | exact Ext.refl _ | assumption | refine Ext.push ?_ _ | refine Ext.set ?_ _ (by first | omega | (simp only [nx, *]; omega)) | (apply Ext.up; focus (assumption; done))); done)) | rfl) : p := h
theorem smDY {a b : Prop} (hb : b) (h : Later b → a := by intro hb; simp (disch := (first | omega | (simp only [nx]; first | done | omega))) only [xxq, xxa, xxb, xxc, bne, Int.reduceEq, Int.reduceBEq, Int.reduceNe, Int.reduceBNe, Int.reduceLE, Int.reduceGT, Int.reduceGE, Int.reduceNeg, ↓reduceIte, reduceCtorEq, Nat.reduceEqDiff, Nat.reduceAdd, Nat.reduceMul, Nat.reduceSub, Nat.reduceLT, Int.reduceAdd, Int.reduceSub, Int.reduceMul, Int.reduceLT, Int.reduceToNat, ne_eq, *, intV_int]; exact hb.out) : a := h ⟨hb⟩
theorem gtDY {A F : Fr} {t : Nat} {v : Value} (h : Ag [] A F) (e : F t = v := by simp (disch := (first | omega | (simp only [nx]; first | done | omega))) only [xxq, xxa, xxb, xxc, bne, Int.reduceEq, Int.reduceBEq, Int.reduceNe, Int.reduceBNe, Int.reduceLE, Int.reduceGT, Int.reduceGE, Int.reduceNeg, ↓reduceIte, reduceCtorEq, Nat.reduceEqDiff, Nat.reduceAdd, Nat.reduceMul, Nat.reduceSub, Nat.reduceLT, Int.reduceAdd, Int.reduceSub, Int.reduceMul, Int.reduceLT, Int.reduceToNat, ne_eq, *, intV_int]; exact rfl) : A t = v := (h.h t rfl).trans e
theorem agDY {D : List Nat} {A F : Fr} (h : Ag D A F := by
  repeat (with_reducible first | exact Ag.refl _ _ | refine Ag.nop ?_ | refine Ag.dead rfl ?_ | (refine Ag.live ?_ ?_; focus exact ivDY) | refine Ag.dr rfl ?_ | (refine Ag.lr ?_ ?_; focus exact ivDY) | refine Ag.up (by assumption) rfl ?_)) : Ag D A F := h
theorem sdDY {p : Prop} (h : p := by first | omega | assumption | (simp (disch := (first | omega | (simp only [nx]; first | done | omega))) only [xxq, tfDY, sliceK, bnd, copyK, clearK, makeSliceK, buildSliceK, buildK, lookupK, mapPutK, mapOf, convK, allocK, indexK, partK, xxa, xxb, xxc, bne, Int.reduceEq, Int.reduceBEq, Int.reduceNe, Int.reduceBNe, Int.reduceLE, Int.reduceGT, Int.reduceGE, Int.reduceNeg, ↓reduceIte, reduceCtorEq, Nat.reduceEqDiff, Nat.reduceAdd, Nat.reduceMul, Nat.reduceSub, Nat.reduceLT, Int.reduceAdd, Int.reduceSub, Int.reduceMul, Int.reduceLT, Int.reduceToNat, ne_eq, *]; first | done | omega | rfl)) : p := h
theorem apC : Try.prog.underlying 27 = some (.slice 54) ∧ cz Try.prog 54 = some 5 ∧ bz Try.prog 54 = some 40 ∧ zr Try.prog 54 = some (.agg #[I 0, I 0, I 0, I 0, I 0]) ∧ el Try.prog 27 = some (none, 5) := ⟨by kernel_rfl, by kernel_rfl, by kernel_rfl, by kernel_rfl, by kernel_rfl⟩
def flipC (x : Cr) : Cr := if x.s = 1 then ⟨x.d, x.a, x.b, x.c, -1⟩ else ⟨x.b, x.c, x.d, x.a, 1⟩
def revC (x : Cr) : Cr := ⟨x.c, x.d, x.a, x.b, x.s⟩
theorem l25Mirror_c {H : Heap} (x : Cr) : ACalls Try.prog 54 [crV x] H fun u H' => u = .agg #[I (flipC x).a, I (flipC x).b, I (flipC x).c, I (flipC x).d, I (flipC x).s] ∧ Ext H H' := by
  unfold flipC
  by_cases h : x.s = 1
  · rw [if_pos h]
    refine ACalls.body Try.func54 rfl Try.ntmps54 (rs := [.cell 2 54]) rfl (by simp) rfl fun Q hQ A hA => ?_
    have a0 := hA 0 _ _ rfl
    clear hA
    repeat' first | refine rnDY ?_ | with_reducible refine And.intro (fun hc => ?_) (fun hc => ?_) | fail
    exact hQ.out _ _ ⟨rfl, by exact ex1⟩
  · rw [if_neg h]
    have hb : (x.s == 1) = false := by simpa using h
    clear h
    refine ACalls.body Try.func54 rfl Try.ntmps54 (rs := [.cell 2 54]) rfl (by simp) rfl fun Q hQ A hA => ?_
    have a0 := hA 0 _ _ rfl
    clear hA
    repeat' first | refine rnDY ?_ | with_reducible refine And.intro (fun hc => ?_) (fun hc => ?_) | fail
    exact hQ.out _ _ ⟨rfl, by exact ex1⟩
theorem flipped_c {H : Heap} (x : Cr) : ACalls Try.prog 55 [crV x] H fun u H' => u = .agg #[I (flipC x).a, I (flipC x).b, I (flipC x).c, I (flipC x).d, I (flipC x).s] ∧ Ext H H' := by
  unfold flipC
  by_cases h : x.s = 1
  · rw [if_pos h]
    refine ACalls.body Try.func55 rfl Try.ntmps55 (rs := [.cell 2 54]) rfl (by simp) rfl fun Q hQ A hA => ?_
    have a0 := hA 0 _ _ rfl
    clear hA
    repeat' first | refine rnDY ?_ | with_reducible refine And.intro (fun hc => ?_) (fun hc => ?_) | fail
    exact hQ.out _ _ ⟨rfl, by exact ex1⟩
  · rw [if_neg h]
    have hb : (x.s == 1) = false := by simpa using h
    clear h
    refine ACalls.body Try.func55 rfl Try.ntmps55 (rs := [.cell 2 54]) rfl (by simp) rfl fun Q hQ A hA => ?_
    have a0 := hA 0 _ _ rfl
    clear hA
    repeat' first | refine rnDY ?_ | with_reducible refine And.intro (fun hc => ?_) (fun hc => ?_) | fail
    exact hQ.out _ _ ⟨rfl, by exact ex1⟩
theorem revFn_c {H : Heap} (x : Cr) : ACalls Try.prog 46 [crV x] H fun u H' => u = .agg #[I (revC x).a, I (revC x).b, I (revC x).c, I (revC x).d, I (revC x).s] ∧ Ext H H' := by
  refine ACalls.body Try.func46 rfl Try.ntmps46 (rs := [.cell 2 54]) rfl (by simp) rfl fun Q hQ A hA => ?_
  have a0 := hA 0 _ _ rfl
  clear hA
  repeat' first | refine rnDY ?_ | with_reducible refine And.intro (fun hc => ?_) (fun hc => ?_) | fail
  exact hQ.out _ _ ⟨rfl, by exact ex1⟩
theorem fl5 (a b c d s : Int) : Instr.fill (fun i => some (i * 5, 5)) (zcells #[Value.int .i64 0, Value.int .i64 0, Value.int .i64 0, Value.int .i64 0, Value.int .i64 0] 5) [(0, Value.agg #[I a, I b, I c, I d, I s])] = some #[I a, I b, I c, I d, I s] := by
  have e : (zcells #[Value.int .i64 0, Value.int .i64 0, Value.int .i64 0, Value.int .i64 0, Value.int .i64 0] 5).toList = [I 0, I 0, I 0, I 0, I 0] := zcells_eq [I 0, I 0, I 0, I 0, I 0] 1 (by decide)
  rw [fill_eq, e]
  rfl
theorem ck5 : constOk (Value.agg #[Value.int .i64 0, Value.int .i64 0, Value.int .i64 0, Value.int .i64 0, Value.int .i64 0]) = true := cok [_, _, _, _, _] rfl
/-- Crossings that may be written, their block from lo to hi (or none). -/
def OwN (lo hi : Nat) (H : Heap) (w : Value) (C : List Cr) : Prop := hi ≤ H.size ∧ ((w = .slice none 0 0 ∧ C = []) ∨ ∃ g, lo ≤ g ∧ g < hi ∧ OwC H w g C)
theorem OwN.of {lo : Nat} {H : Heap} {w : Value} {g n : Nat} {C : List Cr} {L : List Value} (h : OG 5 H w g n L) (hl : w = .slice none 0 0 ∨ lo ≤ g) (hn : n = C.length) (hL : L = crs C) : OwN lo H.size H w C := by
  subst hn hL
  refine ⟨Nat.le_refl _, ?_⟩
  rcases h with ⟨rfl, h1, _⟩ | ⟨c, rfl, h1, h2, h3⟩
  · exact .inl ⟨rfl, List.eq_nil_of_length_eq_zero h1⟩
  · exact .inr ⟨g, by rcases hl with h | h; cases h; exact h, h1, c, rfl, h1, h2⟩
theorem OwN.rd {lo hi : Nat} {H : Heap} {w : Value} {C : List Cr} (h : OwN lo hi H w C) : RdC H w C := by
  obtain ⟨_, ⟨rfl, rfl⟩ | ⟨g, _, _, h⟩⟩ := h
  · exact ⟨none, 0, rfl, fun _ => rfl, fun i hi => by simp at hi⟩
  · exact h.rd
theorem OwN.keep {lo hi lo' hi' : Nat} {H H' : Heap} {w : Value} {C : List Cr} (h : OwN lo hi H w C) (k : ExtR lo' hi' H H') (hd : hi ≤ lo' ∨ hi' ≤ lo) : OwN lo hi H' w C := by
  obtain ⟨h0, ⟨rfl, rfl⟩ | ⟨g, h1, h2, c, rfl, h3, h4⟩⟩ := h
  · exact ⟨Nat.le_trans h0 k.size, .inl ⟨rfl, rfl⟩⟩
  · exact ⟨Nat.le_trans h0 k.size, .inr ⟨g, h1, h2, c, rfl, Nat.lt_of_lt_of_le h3 k.size, (k.get g h3 (by omega)).trans h4⟩⟩
theorem OwN.ext {lo hi : Nat} {H H' : Heap} {w : Value} {C : List Cr} (h : OwN lo hi H w C) (k : Ext H H') : OwN lo hi H' w C := h.keep (k.r hi hi) (.inl (Nat.le_refl _))
theorem OwN.low {lo lo' hi : Nat} {H : Heap} {w : Value} {C : List Cr} (h : OwN lo hi H w C) (hl : lo' ≤ lo) : OwN lo' hi H w C := by
  obtain ⟨h0, h | ⟨g, h1, h2⟩⟩ := h
  · exact ⟨h0, .inl h⟩
  · exact ⟨h0, .inr ⟨g, by omega, h2⟩⟩
theorem markNil_c {H : Heap} {k : Int} : ACalls Try.prog 47 [.slice none 0 0, I k] H fun u H' => u = I k ∧ H' = H := by
  refine ACalls.body Try.func47 rfl Try.ntmps47 (rs := [.tmp 4]) rfl (by simp) rfl fun Q hQ A hA => ?_
  have a0 := hA 0 _ _ rfl
  have a1 := hA 1 _ _ rfl
  clear hA
  repeat' first | refine rnDY ?_ | with_reducible refine And.intro (fun hc => ?_) (fun hc => ?_) | fail
  refine AWp.loop (fun A' H' => A' 0 = .slice none 0 0 ∧ A' 1 = I k ∧ A' 5 = I 0 ∧ H' = H) (fun _ _ => 0) ⟨by exact ivDY, by exact ivDY, by exact ivDY, rfl⟩ ?_
  rintro A1 H1 ⟨b0, b1, b5, rfl⟩
  repeat' first | refine rnDY ?_ | with_reducible refine And.intro (fun hc => ?_) (fun hc => ?_) | fail
  exact hQ.out _ _ ⟨rfl, rfl⟩
theorem markN_c {H : Heap} {lo hi : Nat} {v : Value} {C : List Cr} {k : Int} (z : Int) (hO : OwN lo hi H v C) (hl : C.length ≤ 1048576) (h0 : 0 ≤ k) (h1 : k ≤ 1000000000) :
    ACalls Try.prog 20 [.agg #[v, I z], I k] H fun u H' => u = I (k + 5 * C.length) ∧ OwN lo hi H' v (marksC k C.length) ∧ ExtR lo hi H H' := by
  obtain ⟨q0, ⟨rfl, rfl⟩ | ⟨g, q1, q2, hO⟩⟩ := hO
  · refine ACalls.body Try.func20 rfl Try.ntmps20 (rs := [.tmp 4]) rfl (by simp) rfl fun Q hQ A hA => ?_
    have a0 := hA 0 _ _ rfl
    have a1 := hA 1 _ _ rfl
    clear hA
    repeat' first | refine rnDY ?_ | (refine (markNil_c (k := k)).mono ?_; rintro u H1 ⟨rfl, rfl⟩) | with_reducible refine And.intro (fun hc => ?_) (fun hc => ?_) | fail
    refine hQ.out _ _ ⟨?_, ⟨by simp only [nx]; omega, .inl ⟨rfl, rfl⟩⟩, (ExtR.refl H).push _⟩
    show I k = I (k + 5 * (0 : Int))
    congr 1; omega
  · refine (markDiagram_c z hO hl h0 h1).mono ?_
    rintro u H1 ⟨rfl, h2, h3⟩
    exact ⟨rfl, ⟨Nat.le_trans q0 h3.size, .inr ⟨g, q1, q2, h2⟩⟩, h3.size, fun b hb hn => h3.get b hb (by omega)⟩
end Go.Proofs.Ytpbbfephfmdgmaa.Rai
