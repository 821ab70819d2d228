/- A part of the walk: what functions of the program do, over an abstract heap. -/
import Derived.Test.YtpbbfephfmdgmaaDV
namespace Go.Proofs.Ytpbbfephfmdgmaa.Rai
open Go TP
set_option linter.unusedVariables false
set_option linter.unusedSimpArgs false
set_option maxRecDepth 20000
theorem tfDW : (Try.prog.underlying 37 = some (.slice 65)) ∧ (el Try.prog 37 = some (none, 1)) ∧ (tk Try.prog 24 = some (some 2)) ∧ (tk Try.prog 29 = some (some 2)) ∧ (tk Try.prog 60 = some (some 2)) ∧ (tk Try.prog 65 = some none) ∧ (cz Try.prog 65 = some 1) ∧ (bz Try.prog 65 = some 24) ∧ (zr Try.prog 29 = some (.agg #[.slice none 0 0, .int .i64 0])) ∧ (zr Try.prog 60 = some (.agg #[.slice none 0 0, .slice none 0 0])) ∧ (zr Try.prog 65 = some (.slice none 0 0)) := by
  refine ⟨?_, ?_, ?_, ?_, ?_, ?_, ?_, ?_, ?_, ?_, ?_⟩ <;> kernel_rfl
theorem rnDW {a b : Prop} (hb : b) (h : Later b → a := by
  intro hb
  first
  | ((with_reducible first | refine AOps.nil ?_ | refine athen_n ?_ | refine athen_r ?_ | refine athen_e ?_ | refine ablock_n ?_ | refine ablock_r ?_ | refine ablock_s ?_ | refine AWp.seq' ?_ | refine AWp.block ?_ | refine AWp.skip ?_ | refine AWp.exit ?_ | refine AWp.ret ?_ | refine AWp.region ?_ | (refine ablock_e ?_ ?_; focus rfl)); repeat (with_reducible first | refine AOps.nil ?_ | refine athen_n ?_ | refine athen_r ?_ | refine athen_e ?_ | refine ablock_n ?_ | refine ablock_r ?_ | refine ablock_s ?_ | refine AWp.seq' ?_ | refine AWp.block ?_ | refine AWp.skip ?_ | refine AWp.exit ?_ | refine AWp.ret ?_ | refine AWp.region ?_ | (refine ablock_e ?_ ?_; focus rfl)))
  | (refine AOps.guardu rfl rfl rfl ?_ ?_; focus (simp (disch := (first | omega | (simp only [nx]; first | done | omega))) only [Value.bool.injEq, Bool.and_true, Bool.true_and, Bool.and_false, Bool.false_and, beq_self_eq_true, bne, Bool.not_true, Bool.not_false, sx, nx, dx, ↓reduceIte, reduceCtorEq, Nat.reduceEqDiff, ne_eq, not_false_eq_true, *]; done))
  | ((first | refine AOps.cons2 rfl rfl fun K hK => ?_ | refine AWp.cond rfl fun X Y hX hY => ?_ | refine AOps.guard rfl rfl rfl fun X Y hX hY => ?_ | refine aret_r ?_ | refine aret_n ?_); simp (disch := (first | omega | (simp only [nx]; first | done | omega))) only [acond_bool, aresK, retv, xxq, tfDW, sliceK, bnd, appendK, appsK, copyK, clearK, makeSliceK, buildSliceK, buildK, lookupK, mapPutK, mapOf, convK, allocK, indexK, partK, xxa, xxb, xxc, bne, Int.reduceEq, Int.reduceBEq, Int.reduceNe, Int.reduceBNe, Int.reduceLE, Int.reduceGT, Int.reduceGE, Int.reduceNeg, ↓reduceIte, reduceCtorEq, Nat.reduceEqDiff, Nat.reduceAdd, Nat.reduceMul, Nat.reduceSub, Nat.reduceLT, Int.reduceAdd, Int.reduceSub, Int.reduceMul, Int.reduceLT, Int.reduceToNat, ne_eq, *]; (repeat first | ((with_reducible refine And.intro (fun hc => ?_) (fun hc => absurd hc (by omega))); clear hc) | ((with_reducible refine And.intro (fun hc => absurd hc (by omega)) (fun hc => ?_)); clear hc) | ((with_reducible refine And.intro ?_ ?_); focus ((first | omega | assumption | exact cok _ rfl | exact one_ints _ | exact one_map fun _ => rfl | ((repeat refine one_cons (by first | rfl | assumption) ?_); exact one_nil) | rfl | decide | (intro u hu; cases hu)); done)) | (with_reducible refine (fun hc => ?_ : _ → _); clear hc)); (first | refine hK.out _ _ ?_ | refine ACalls.hk hK ?_ | refine appendK.hk hK ?_ | refine (fun (q : _ ∧ _) => And.intro (hK.out _ _ q.1) (hK.out _ _ q.2)) ?_ | refine hX.out ?_ | refine hY.out ?_ | refine (fun (q : (_ → _) ∧ (_ → _)) => And.intro (fun hc => hX.out (q.1 hc)) (fun hc => hY.out (q.2 hc))) ?_ | refine (fun (q : (_ → _) ∧ (_ → _)) => And.intro (fun hc => hY.out (q.1 hc)) (fun hc => hX.out (q.2 hc))) ?_ | skip))
  exact hb.out) : a := h ⟨hb⟩
theorem rdDW {a b : Prop} (hb : b) (h : Later b → a := by
  intro hb
  first
  | with_reducible refine APl.nil ?_
  | ((first | refine APl.pure2 rfl rfl rfl rfl fun Kx hKx => ?_ | refine APl.load rfl rfl rfl fun Kx hKx => ?_ | refine APl.slice rfl rfl rfl fun Kx hKx => ?_ | refine APl.act2 rfl rfl rfl rfl fun Kx hKx => ?_); simp (disch := (first | omega | (simp only [nx]; first | done | omega))) only [heldIn_iff, List.zipIdx_cons, List.zipIdx_nil, List.map_cons, List.map_nil, xxq, tfDW, sliceK, bnd, appendK, appsK, copyK, clearK, makeSliceK, buildSliceK, buildK, lookupK, mapPutK, mapOf, convK, allocK, indexK, partK, xxa, xxb, xxc, bne, Int.reduceEq, Int.reduceBEq, Int.reduceNe, Int.reduceBNe, Int.reduceLE, Int.reduceGT, Int.reduceGE, Int.reduceNeg, ↓reduceIte, reduceCtorEq, Nat.reduceEqDiff, Nat.reduceAdd, Nat.reduceMul, Nat.reduceSub, Nat.reduceLT, Int.reduceAdd, Int.reduceSub, Int.reduceMul, Int.reduceLT, Int.reduceToNat, ne_eq, *]; (repeat first | ((with_reducible refine And.intro (fun hc => ?_) (fun hc => absurd hc (by omega))); clear hc) | ((with_reducible refine And.intro (fun hc => absurd hc (by omega)) (fun hc => ?_)); clear hc) | ((with_reducible refine And.intro ?_ ?_); focus ((first | omega | assumption | exact cok _ rfl | exact one_ints _ | exact one_map fun _ => rfl | ((repeat refine one_cons (by first | rfl | assumption) ?_); exact one_nil) | rfl | decide | (intro u hu; cases hu)); done)) | (with_reducible refine (fun hc => ?_ : _ → _); clear hc)); (first | refine hKx.out _ ?_ | refine hKx.out _ _ ?_ | refine ACalls.hkx hKx ?_ | refine (fun (q : _ ∧ _) => And.intro (hKx.out _ q.1) (hKx.out _ q.2)) ?_ | refine (fun (q : (_ → _) ∧ _) => And.intro (fun hc => hKx.out _ (q.1 hc)) (hKx.out _ q.2)) ?_ | (refine hKx.out _ _ ?_ ?_; focus (simp (disch := (first | omega | (simp only [nx]; first | done | omega))) only [heldIn_iff, List.zipIdx_cons, List.zipIdx_nil, List.map_cons, List.map_nil, xxq, tfDW, sliceK, bnd, appendK, appsK, copyK, clearK, makeSliceK, buildSliceK, buildK, lookupK, mapPutK, mapOf, convK, allocK, indexK, partK, xxa, xxb, xxc, bne, Int.reduceEq, Int.reduceBEq, Int.reduceNe, Int.reduceBNe, Int.reduceLE, Int.reduceGT, Int.reduceGE, Int.reduceNeg, ↓reduceIte, reduceCtorEq, Nat.reduceEqDiff, Nat.reduceAdd, Nat.reduceMul, Nat.reduceSub, Nat.reduceLT, Int.reduceAdd, Int.reduceSub, Int.reduceMul, Int.reduceLT, Int.reduceToNat, ne_eq, *]; first | done | trivial))))
  exact hb.out) : a := h ⟨hb⟩
theorem hlDW {p b : Prop} (hb : b) (h : p := by simp (disch := (first | omega | (simp only [nx]; first | done | omega))) only [heldIn_iff, List.zipIdx_cons, List.zipIdx_nil, List.map_cons, List.map_nil, xxq, tfDW, sliceK, bnd, appendK, appsK, copyK, clearK, makeSliceK, buildSliceK, buildK, lookupK, mapPutK, mapOf, convK, allocK, indexK, partK, xxa, xxb, xxc, bne, Int.reduceEq, Int.reduceBEq, Int.reduceNe, Int.reduceBNe, Int.reduceLE, Int.reduceGT, Int.reduceGE, Int.reduceNeg, ↓reduceIte, reduceCtorEq, Nat.reduceEqDiff, Nat.reduceAdd, Nat.reduceMul, Nat.reduceSub, Nat.reduceLT, Int.reduceAdd, Int.reduceSub, Int.reduceMul, Int.reduceLT, Int.reduceToNat, ne_eq, *]; first | done | trivial) : p ∧ b := ⟨h, hb⟩
theorem ivDW {p : Prop} (h : p := by first | omega | ((repeat first | exact Ext.refl _ | assumption | refine Ext.push ?_ _ | refine Ext.set ?_ _ (by first | omega | (simp only [nx, *]; omega)) | (apply Ext.up; focus (assumption; done))); done) | (simp (disch := (first | omega | (simp only [nx]; first | done | omega))) only [xxq, xxa, xxb, xxc, bne, Int.reduceEq, Int.reduceBEq, Int.reduceNe, Int.reduceBNe, Int.reduceLE, Int.reduceGT, Int.reduceGE, Int.reduceNeg, ↓reduceIte, reduceCtorEq, Nat.reduceEqDiff, Nat.reduceAdd, Nat.reduceMul, Nat.reduceSub, Nat.reduceLT, Int.reduceAdd, Int.reduceSub, Int.reduceMul, Int.reduceLT, Int.reduceToNat, ne_eq, *, intV_int]; first | done | omega | rfl | exact congrArg (Value.int .i64) (by omega) | ((repeat first | exact Ext.refl _ | assumption | refine Ext.push ?_ _ | refine Ext.set ?_ _ (by first | omega | (simp only [nx, *]; omega)) | (apply Ext.up; focus (assumption; done))); done)) | rfl) : p := h
theorem smDW {a b : Prop} (hb : b) (h : Later b → a := by intro hb; simp (disch := (first | omega | (simp only [nx]; first | done | omega))) only [xxq, xxa, xxb, xxc, bne, Int.reduceEq, Int.reduceBEq, Int.reduceNe, Int.reduceBNe, Int.reduceLE, Int.reduceGT, Int.reduceGE, Int.reduceNeg, ↓reduceIte, reduceCtorEq, Nat.reduceEqDiff, Nat.reduceAdd, Nat.reduceMul, Nat.reduceSub, Nat.reduceLT, Int.reduceAdd, Int.reduceSub, Int.reduceMul, Int.reduceLT, Int.reduceToNat, ne_eq, *, intV_int]; exact hb.out) : a := h ⟨hb⟩
theorem gtDW {A F : Fr} {t : Nat} {v : Value} (h : Ag [] A F) (e : F t = v := by simp (disch := (first | omega | (simp only [nx]; first | done | omega))) only [xxq, xxa, xxb, xxc, bne, Int.reduceEq, Int.reduceBEq, Int.reduceNe, Int.reduceBNe, Int.reduceLE, Int.reduceGT, Int.reduceGE, Int.reduceNeg, ↓reduceIte, reduceCtorEq, Nat.reduceEqDiff, Nat.reduceAdd, Nat.reduceMul, Nat.reduceSub, Nat.reduceLT, Int.reduceAdd, Int.reduceSub, Int.reduceMul, Int.reduceLT, Int.reduceToNat, ne_eq, *, intV_int]; exact rfl) : A t = v := (h.h t rfl).trans e
theorem agDW {D : List Nat} {A F : Fr} (h : Ag D A F := by
  repeat (with_reducible first | exact Ag.refl _ _ | refine Ag.nop ?_ | refine Ag.dead rfl ?_ | (refine Ag.live ?_ ?_; focus exact ivDW) | refine Ag.dr rfl ?_ | (refine Ag.lr ?_ ?_; focus exact ivDW) | refine Ag.up (by assumption) rfl ?_)) : Ag D A F := h
theorem sdDW {p : Prop} (h : p := by first | omega | assumption | (simp (disch := (first | omega | (simp only [nx]; first | done | omega))) only [xxq, tfDW, sliceK, bnd, appendK, appsK, copyK, clearK, makeSliceK, buildSliceK, buildK, lookupK, mapPutK, mapOf, convK, allocK, indexK, partK, xxa, xxb, xxc, bne, Int.reduceEq, Int.reduceBEq, Int.reduceNe, Int.reduceBNe, Int.reduceLE, Int.reduceGT, Int.reduceGE, Int.reduceNeg, ↓reduceIte, reduceCtorEq, Nat.reduceEqDiff, Nat.reduceAdd, Nat.reduceMul, Nat.reduceSub, Nat.reduceLT, Int.reduceAdd, Int.reduceSub, Int.reduceMul, Int.reduceLT, Int.reduceToNat, ne_eq, *]; first | done | omega | rfl)) : p := h
theorem ExtR.toExt {lo hi : Nat} {H0 H1 H2 : Heap} (h : ExtR lo hi H1 H2) (k : Ext H0 H1) (hl : H0.size ≤ lo) : Ext H0 H2 := ⟨Nat.le_trans k.size h.size, fun b hb => (h.get b (Nat.lt_of_lt_of_le hb k.size) (by omega)).trans (k.get b hb)⟩
theorem OwnRR.low {lo lo' hi : Nat} {H : Heap} {v : Value} {R : List (List Int)} (h : OwnRR lo hi H v R) (hl : lo' ≤ lo) : OwnRR lo' hi H v R := by
  rcases h with ⟨rfl, rfl⟩ | ⟨g, c, cs, bs, rfl, h1, h2, h3, h4, h5, h6⟩
  · exact .inl ⟨rfl, rfl⟩
  · refine .inr ⟨g, c, cs, bs, rfl, by omega, h2, h3, h4, fun a ha => ?_, h6⟩
    obtain ⟨c', k1, k2, k3⟩ := h5 a ha
    exact ⟨c', k1, by omega, k3⟩
theorem OwnRR.empty {lo : Nat} {H : Heap} (hl : lo ≤ H.size) : OwnRR lo (H.push (.cells [] 1 false)).size (H.push (.cells [] 1 false)) (.slice (some ⟨H.size, 0, none⟩) 0 1) [] :=
  .inr ⟨H.size, 1, [], fun _ => 0, rfl, hl, by simp only [nx]; omega, Nat.le_refl _, get_push_eq rfl, fun a ha => by simp at ha, fun a a' ha => by simp at ha⟩
theorem OwC.lt {H : Heap} {v : Value} {g : Nat} {C : List Cr} (h : OwC H v g C) : g < H.size := by obtain ⟨k, _, h1, _⟩ := h; exact h1
/-- What 'RegionsOf' returns. -/
def rowsRegionsOf (C : List Cr) (z : Int) : List (List Int) := if IsD C z then (regs (sucC C) (4 * C.length) (4 * C.length)).2 else []
theorem shortRegionsOf (C : List Cr) (z : Int) : ShortR (rowsRegionsOf C z) := by
  unfold rowsRegionsOf
  split
  · rename_i h
    obtain ⟨h1, h2⟩ := regs_short (s := sucC C) (N := 4 * C.length) (fun x hx => sucC_lt h.2.2.1 hx) (4 * C.length) (Nat.le_refl _)
    have := h.1
    exact ⟨by omega, fun a ha => Nat.le_trans (h2 a ha) (by omega)⟩
  · exact ⟨by simp, fun a ha => by simp at ha⟩
theorem specRegionsOf_c {H : Heap} {v : Value} {C : List Cr} (z : Int) (hC : RdC H v C) (hS : C.length ≤ 1048576) : ACalls Try.prog 22 [.agg #[v, I z]] H fun u H' => OwnRR H.size H'.size H' u (rowsRegionsOf C z) ∧ Ext H H' := by
  have hC1 := fun {H' : Heap} (h : Ext H H') => hC.ext h
  have hone := hC.one
  unfold rowsRegionsOf
  by_cases h : IsD C z
  · have hd : decide (IsD C z) = true := decide_eq_true h
    rw [if_pos h]
    refine ACalls.body Try.func22 rfl Try.ntmps22 (rs := [.tmp 2]) rfl (by simp) rfl fun Q hQ A hA => ?_
    have a0 := hA 0 _ _ rfl
    clear hA
    repeat' first | refine rnDW ?_ | (refine (specIsDiagram_c z (hC1 (by exact ex1)) hS).mono ?_; rintro u H1 ⟨rfl, hx1⟩; rw [hd]; have hx1g := hx1.get; have hx1s := hx1.size; (try simp only [nx] at hx1s)) | (refine (l25Regions_c z (hC1 (by exact ex1)) h.1 h.2.2.1).mono ?_; rintro u H2 ⟨hO, hx2⟩; have hx2g := hx2.get; have hx2s := hx2.size; (try simp only [nx] at hx2s)) | with_reducible refine And.intro (fun hc => ?_) (fun hc => ?_) | fail
    exact hQ.out _ _ ⟨hO.low (by omega), by exact ex1⟩
  · have hd : decide (IsD C z) = false := decide_eq_false h
    rw [if_neg h]
    refine ACalls.body Try.func22 rfl Try.ntmps22 (rs := [.tmp 2]) rfl (by simp) rfl fun Q hQ A hA => ?_
    have a0 := hA 0 _ _ rfl
    clear hA
    repeat' first | refine rnDW ?_ | (refine (specIsDiagram_c z (hC1 (by exact ex1)) hS).mono ?_; rintro u H1 ⟨rfl, hx1⟩; rw [hd]; have hx1g := hx1.get; have hx1s := hx1.size; (try simp only [nx] at hx1s)) | with_reducible refine And.intro (fun hc => ?_) (fun hc => ?_) | fail
    exact hQ.out _ _ ⟨OwnRR.empty (by omega), by exact ex1⟩
theorem RegionsOf_c {H : Heap} {v : Value} {C : List Cr} (z : Int) (hC : RdC H v C) (hS : C.length ≤ 1048576) : ACalls Try.prog 23 [.agg #[v, I z]] H fun u H' => OwnRR H.size H'.size H' u (rowsRegionsOf C z) ∧ Ext H H' := by
  have hC1 := fun {H' : Heap} (h : Ext H H') => hC.ext h
  have hone := hC.one
  unfold rowsRegionsOf
  by_cases h : IsD C z
  · have hd : decide (IsD C z) = true := decide_eq_true h
    rw [if_pos h]
    refine ACalls.body Try.func23 rfl Try.ntmps23 (rs := [.tmp 2]) rfl (by simp) rfl fun Q hQ A hA => ?_
    have a0 := hA 0 _ _ rfl
    clear hA
    repeat' first | refine rnDW ?_ | (refine (drawing_c z (hC1 (by exact ex1)) hS).mono ?_; rintro u H1 ⟨⟨vf, vt, rfl, o1, o2, hD⟩, hx1⟩; rw [hd]; obtain ⟨hRf, hRt⟩ := hD h; have hx1g := hx1.get; have hx1s := hx1.size; (try simp only [nx] at hx1s)) | (refine (regions_c z (hC1 (by exact ex1)) h.1 h.2.2.1 (hRf.ext (by exact ex1)) (hRt.ext (by exact ex1))).mono ?_; rintro u H2 ⟨hO, hx2⟩; have hx2g := hx2.get; have hx2s := hx2.size; (try simp only [nx] at hx2s)) | with_reducible refine And.intro (fun hc => ?_) (fun hc => ?_) | fail
    exact hQ.out _ _ ⟨hO.low (by simp only [nx]; omega), by exact ex1⟩
  · have hd : decide (IsD C z) = false := decide_eq_false h
    rw [if_neg h]
    refine ACalls.body Try.func23 rfl Try.ntmps23 (rs := [.tmp 2]) rfl (by simp) rfl fun Q hQ A hA => ?_
    have a0 := hA 0 _ _ rfl
    clear hA
    repeat' first | refine rnDW ?_ | (refine (drawing_c z (hC1 (by exact ex1)) hS).mono ?_; rintro u H1 ⟨⟨vf, vt, rfl, o1, o2, hD⟩, hx1⟩; rw [hd]; have hx1g := hx1.get; have hx1s := hx1.size; (try simp only [nx] at hx1s)) | with_reducible refine And.intro (fun hc => ?_) (fun hc => ?_) | fail
    exact hQ.out _ _ ⟨.inl ⟨rfl, rfl⟩, by exact ex1⟩
set_option maxHeartbeats 4000000 in
theorem lawRegionsOf_c {H : Heap} {v : Value} {C : List Cr} (z : Int) (hC : RdC H v C) (hS : C.length ≤ 9223372036854775807) : ACalls Try.prog 6 [.agg #[v, I z]] H fun u H' => u = B true := by
  have hC1 := fun {H' : Heap} (h : Ext H H') => hC.ext h
  have hone := hC.one
  by_cases hl : (1048576 : Int) - C.length < 0
  · refine ACalls.body Try.func6 rfl Try.ntmps6 (rs := [.tmp 2]) rfl (by simp) rfl fun Q hQ A hA => ?_
    have a0 := hA 0 _ _ rfl
    clear hA
    repeat' first | refine rnDW ?_ | (refine (szDiagram_c z (hC1 (by exact ex1)) hS 1048576 (by omega) (by omega)).mono ?_; rintro u H1 ⟨rfl, hx1⟩; rw [if_pos hl]; have hx1g := hx1.get; have hx1s := hx1.size; (try simp only [nx] at hx1s)) | with_reducible refine And.intro (fun hc => ?_) (fun hc => ?_) | fail
    exact hQ.out _ _ rfl
  · have hS2 : C.length ≤ 1048576 := by omega
    have hsh := shortRegionsOf C z
    have hol := offs_le hsh (rowsRegionsOf C z).length (Nat.le_refl _)
    have hrl := hsh.1
    have hsp := fun {H : Heap} {v : Value} (h : RdC H v C) => specRegionsOf_c z h hS2
    have him := fun {H : Heap} {v : Value} (h : RdC H v C) => RegionsOf_c z h hS2
    generalize rowsRegionsOf C z = R at *
    have hob : offs R R.length ≤ 1000000 * 1000000 := Nat.le_trans hol (Nat.mul_le_mul hrl (Nat.le_refl _))
    clear hol hrl
    refine ACalls.body Try.func6 rfl Try.ntmps6 (rs := [.tmp 2]) rfl (by simp) rfl fun Q hQ A hA => ?_
    have a0 := hA 0 _ _ rfl
    clear hA
    repeat' first | refine rnDW ?_ | (refine (szDiagram_c z (hC1 (by exact ex1)) hS 1048576 (by omega) (by omega)).mono ?_; rintro u H1 ⟨rfl, hx1⟩; rw [if_neg hl]; have hx1g := hx1.get; have hx1s := hx1.size; (try simp only [nx] at hx1s)) | with_reducible refine And.intro (fun hc => ?_) (fun hc => ?_) | fail
    refine (toDiagram_c z (hC1 (by exact ex1)) hS2).mono ?_
    rintro u H2 ⟨⟨w1, g1, rfl, hO1, hg1⟩, hx2⟩
    have hx2g := hx2.get; have hx2s := hx2.size; (try simp only [nx] at hx2s)
    repeat' first | refine rnDW ?_ | with_reducible refine And.intro (fun hc => ?_) (fun hc => ?_) | fail
    refine (hsp hO1.rd).mono ?_
    rintro w H3 ⟨hW, hx3⟩
    have hx3g := hx3.get; have hx3s := hx3.size; (try simp only [nx] at hx3s)
    have hWr := hW.rows
    repeat' first | refine rnDW ?_ | with_reducible refine And.intro (fun hc => ?_) (fun hc => ?_) | fail
    refine (toDiagram_c z (hC1 (by exact ex1)) hS2).mono ?_
    rintro u H4 ⟨⟨w2, g2, rfl, hO2, hg2⟩, hx4⟩
    have hx4g := hx4.get; have hx4s := hx4.size; (try simp only [nx] at hx4s)
    have ho2 := hO2.rd.one
    repeat' first | refine rnDW ?_ | with_reducible refine And.intro (fun hc => ?_) (fun hc => ?_) | fail
    refine (him (hO2.rd.ext (by exact ex1))).mono ?_
    rintro u H5 ⟨hU, hx5⟩
    have hx5g := hx5.get; have hx5s := hx5.size; (try simp only [nx] at hx5s)
    simp only [nx] at hU
    repeat' first | refine rnDW ?_ | (refine (eqInt64SS_c hU.rows (hWr.ext (by exact ex1)) hsh).mono ?_; rintro u' H5 ⟨rfl, rfl⟩) | with_reducible refine And.intro (fun hc => ?_) (fun hc => ?_) | fail
    refine AWp.planned [0,1,2,3,4] mixed (by kernel_rfl) ?_
    repeat' first | refine rdDW ?_ | (refine (toDiagram_c z (hC1 (by exact ex1)) hS2).mono ?_; rintro u' H6 ⟨⟨w3, g3, rfl, hO3, hg3⟩, hx6⟩; have hx6g := hx6.get; have hx6s := hx6.size; (try simp only [nx] at hx6s); refine hlDW ?_) | (refine (eqDiagram_c z ((hO2.rd.ext (by exact ex1))) hO3.rd hS2).mono ?_; rintro u' H7 ⟨rfl, hx7⟩; have hx7g := hx7.get; have hx7s := hx7.size; (try simp only [nx] at hx7s); refine hlDW ?_) | with_reducible refine And.intro (fun hc => ?_) ?_ | with_reducible refine And.intro ?_ ?_ | fail
    obtain ⟨hO27, hU7, hx37, hx07⟩ : OwC H7 w2 g2 C ∧ OwnRR (H4.size + 1) H5.size H7 u R ∧ Ext H3 H7 ∧ Ext H H7 := ⟨hO2.ext (by exact ex1), hU.ext (by exact ex1), by exact ex1, by exact ex1⟩
    have hgl := hO2.lt
    repeat' first | refine rnDW ?_ | with_reducible refine And.intro (fun hc => ?_) (fun hc => ?_) | fail
    refine (markDiagram_c (k := 1) z hO27 hS2 (by omega) (by omega)).mono ?_
    rintro u' H8 ⟨rfl, hO28, e8⟩
    have e8g := e8.get; have e8s := e8.size; (try simp only [nx] at e8s)
    have hU8 : OwnRR (H4.size + 1) H5.size H8 u R := hU7.keep e8 (.inr (by omega))
    have hx38 : Ext H3 H8 := e8.toExt hx37 (by omega)
    have hx08 : Ext H H8 := e8.toExt hx07 (by omega)
    have hneg5 : (1 + 5 * (C.length : Int) < 0) = False := eq_false (by omega)
    clear hO28
    repeat' first | refine rnDW ?_ | (refine (eqInt64SS_c hU8.rows (hWr.ext hx38) hsh).mono ?_; rintro u' H8 ⟨rfl, rfl⟩) | with_reducible refine And.intro (fun hc => ?_) (fun hc => ?_) | fail
    refine (markInt64SS_c (k := 1) hU8 hsh (by omega) (by omega)).mono ?_
    rintro u' H9 ⟨rfl, hU9, e9⟩
    have e9g := e9.get; have e9s := e9.size; (try simp only [nx] at e9s)
    have hx39 : Ext H3 H9 := e9.toExt hx38 (by omega)
    have hx09 : Ext H H9 := e9.toExt hx08 (by omega)
    have hneg : (1 + (offs R R.length : Int) < 0) = False := eq_false (by omega)
    repeat' first | refine rnDW ?_ | (refine (heldInt64SS_c (k := 1) hU9.rows hsh (by omega) (by omega)).mono ?_; rintro u' H9 ⟨rfl, rfl⟩) | with_reducible refine And.intro (fun hc => ?_) (fun hc => ?_) | fail
    refine (toDiagram_c z (hC1 hx09) hS2).mono ?_
    rintro u' H10 ⟨⟨w4, g4, rfl, hO4, hg4⟩, hx10⟩
    have hx10g := hx10.get; have hx10s := hx10.size; (try simp only [nx] at hx10s)
    repeat' first | refine rnDW ?_ | with_reducible refine And.intro (fun hc => ?_) (fun hc => ?_) | fail
    refine (him hO4.rd).mono ?_
    rintro u2 H11 ⟨hV, hx11⟩
    have hx11g := hx11.get; have hx11s := hx11.size; (try simp only [nx] at hx11s)
    have hx3b : Ext H3 H11 := (hx39.trans hx10).trans hx11
    have hU11 := hU9.ext (hx10.trans hx11)
    repeat' first | refine rnDW ?_ | (refine (eqInt64SS_c hV.rows (hWr.ext hx3b) hsh).mono ?_; rintro u' H11 ⟨rfl, rfl⟩) | (refine (heldInt64SS_c (k := 1) hU11.rows hsh (by omega) (by omega)).mono ?_; rintro u' H11 ⟨rfl, rfl⟩) | with_reducible refine And.intro (fun hc => ?_) (fun hc => ?_) | fail
    exact hQ.out _ _ rfl
end Go.Proofs.Ytpbbfephfmdgmaa.Rai
