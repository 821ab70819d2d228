/- A part of the walk: what functions of the program do, over an abstract heap. -/
import Derived.Test.YtibkopejnhihkaaF19
import Derived.Test.YtibkopejnhihkaaF20
namespace Go.Proofs.Ytibkopejnhihkaa.Rai
open Go TP
set_option linter.unusedVariables false
set_option linter.unusedSimpArgs false
set_option maxRecDepth 20000
theorem tfF21 : (tk Try.prog 29 = some (some 1)) ∧ (tk Try.prog 50 = some (some 3)) ∧ (zr Try.prog 50 = some (.agg #[.slice none 0 0, .slice none 0 0, .slice none 0 0])) := by
  refine ⟨?_, ?_, ?_⟩ <;> kernel_rfl
theorem specClassCounts_c {H : Heap} {v : Value} {T : List (List (Int × Int))} (hT : RowT H v T) (hl : T.length ≤ 1048576) : ACalls Try.prog 28 [.agg #[v]] H fun u H' => RowI H' u (if IsTri T then countsL T else []) ∧ Ext H H' := by
  have hv := hT.one
  have hT1 := fun {H' : Heap} (h : Ext H H') => hT.ext h
  clear hT
  refine ACalls.body Try.func28 rfl Try.ntmps28 (rs := [.tmp 2]) rfl (by simp) rfl fun Q hQ A hA => ?_
  have a0 := hA 0 _ _ rfl
  clear hA
  by_cases h : IsTri T
  · simp only [if_pos h] at hQ
    have hd : decide (IsTri T) = true := by simpa using h
    repeat' first
     | (with_reducible first | refine AOps.nil ?_ | refine athen_n ?_ | refine athen_r ?_ | refine athen_e ?_ | refine ablock_n ?_ | refine ablock_r ?_ | refine ablock_s ?_ | refine AWp.seq' ?_ | refine AWp.block ?_ | refine AWp.skip ?_ | refine AWp.exit ?_ | refine AWp.ret ?_ | refine AWp.region ?_) | (with_reducible refine ablock_e ?_ ?_; focus rfl)
     | ((first | refine AOps.cons1 rfl rfl rfl fun K hK => ?_ | refine AWp.cond rfl fun X Y hX hY => ?_ | refine aret_r ?_ | refine aret_n ?_); simp (disch := (first | omega | (simp only [nx]; first | done | omega))) only [acond_bool, aresK, retv, xxq, tfF21, allocK, xxa, xxb, xxc, bne, ↓reduceIte, reduceCtorEq, Nat.reduceEqDiff, Nat.reduceAdd, Nat.reduceMul, Nat.reduceSub, Nat.reduceLT, Int.reduceAdd, Int.reduceSub, Int.reduceMul, Int.reduceLT, Int.reduceToNat, ne_eq, *]; (repeat first | ((with_reducible refine And.intro (fun hc => ?_) (fun hc => absurd hc (by omega))); clear hc) | ((with_reducible refine And.intro (fun hc => absurd hc (by omega)) (fun hc => ?_)); clear hc) | ((with_reducible refine And.intro ?_ ?_); focus ((first | omega | assumption | exact cok _ rfl | exact one_ints _ | exact one_map fun _ => rfl | ((repeat refine one_cons (by first | rfl | assumption) ?_); exact one_nil) | rfl | decide | (intro u hu; cases hu)); done)) | (with_reducible refine (fun hc => ?_ : _ → _); clear hc)); (first | (refine hK.out _ _ ?_; clear hK K) | (refine And.intro (hK.out _ _ ?_) (hK.out _ _ ?_) <;> clear hK K) | (refine (specIsTri_c (hT1 (by ((repeat first | exact Ext.refl _ | assumption | refine Ext.push ?_ _ | refine Ext.set ?_ _ (by first | omega | (simp only [nx, *]; omega)) | (apply Ext.up; focus (assumption; done))); done))) hl).mono ?_; rintro u H1 ⟨rfl, hx1⟩; have hx1g := hx1.get; have hx1s := hx1.size; (try simp only [nx] at hx1s); refine hK.out _ _ ?_; try clear hK K) | (refine (l08Count_c (hT1 (by ((repeat first | exact Ext.refl _ | assumption | refine Ext.push ?_ _ | refine Ext.set ?_ _ (by first | omega | (simp only [nx, *]; omega)) | (apply Ext.up; focus (assumption; done))); done))) h.fine).mono ?_; rintro u H2 ⟨w0, w1, w2, c, rfl, hR0, hR1, hR2, hR, hx2⟩; have k0 := hR0.one; have k1 := hR1.one; have k2 := hR2.one; have hx2g := hx2.get; have hx2s := hx2.size; (try simp only [nx] at hx2s); refine hK.out _ _ ?_; try clear hK K) | (refine hX.out ?_; try clear hX hY X Y) | (refine hY.out ?_; try clear hX hY X Y) | (refine And.intro (fun hc => ?_) (fun hc => ?_) <;> first | (exfalso; omega) | (refine hX.out ?_; try clear hX hY X Y) | (refine hY.out ?_; try clear hX hY X Y)) | skip))
    exact hQ.out _ _ ⟨hR.ext (by ((repeat first | exact Ext.refl _ | assumption | refine Ext.push ?_ _ | refine Ext.set ?_ _ (by first | omega | (simp only [nx, *]; omega)) | (apply Ext.up; focus (assumption; done))); done)), by ((repeat first | exact Ext.refl _ | assumption | refine Ext.push ?_ _ | refine Ext.set ?_ _ (by first | omega | (simp only [nx, *]; omega)) | (apply Ext.up; focus (assumption; done))); done)⟩
  · simp only [if_neg h] at hQ
    have hd : decide (IsTri T) = false := by simpa using h
    repeat' first
     | (with_reducible first | refine AOps.nil ?_ | refine athen_n ?_ | refine athen_r ?_ | refine athen_e ?_ | refine ablock_n ?_ | refine ablock_r ?_ | refine ablock_s ?_ | refine AWp.seq' ?_ | refine AWp.block ?_ | refine AWp.skip ?_ | refine AWp.exit ?_ | refine AWp.ret ?_ | refine AWp.region ?_) | (with_reducible refine ablock_e ?_ ?_; focus rfl)
     | ((first | refine AOps.cons1 rfl rfl rfl fun K hK => ?_ | refine AWp.cond rfl fun X Y hX hY => ?_ | refine aret_r ?_ | refine aret_n ?_); simp (disch := (first | omega | (simp only [nx]; first | done | omega))) only [acond_bool, aresK, retv, xxq, tfF21, allocK, xxa, xxb, xxc, bne, ↓reduceIte, reduceCtorEq, Nat.reduceEqDiff, Nat.reduceAdd, Nat.reduceMul, Nat.reduceSub, Nat.reduceLT, Int.reduceAdd, Int.reduceSub, Int.reduceMul, Int.reduceLT, Int.reduceToNat, ne_eq, *]; (repeat first | ((with_reducible refine And.intro (fun hc => ?_) (fun hc => absurd hc (by omega))); clear hc) | ((with_reducible refine And.intro (fun hc => absurd hc (by omega)) (fun hc => ?_)); clear hc) | ((with_reducible refine And.intro ?_ ?_); focus ((first | omega | assumption | exact cok _ rfl | exact one_ints _ | exact one_map fun _ => rfl | ((repeat refine one_cons (by first | rfl | assumption) ?_); exact one_nil) | rfl | decide | (intro u hu; cases hu)); done)) | (with_reducible refine (fun hc => ?_ : _ → _); clear hc)); (first | (refine hK.out _ _ ?_; clear hK K) | (refine And.intro (hK.out _ _ ?_) (hK.out _ _ ?_) <;> clear hK K) | (refine (specIsTri_c (hT1 (by ((repeat first | exact Ext.refl _ | assumption | refine Ext.push ?_ _ | refine Ext.set ?_ _ (by first | omega | (simp only [nx, *]; omega)) | (apply Ext.up; focus (assumption; done))); done))) hl).mono ?_; rintro u H1 ⟨rfl, hx1⟩; have hx1g := hx1.get; have hx1s := hx1.size; (try simp only [nx] at hx1s); refine hK.out _ _ ?_; try clear hK K) | (refine hX.out ?_; try clear hX hY X Y) | (refine hY.out ?_; try clear hX hY X Y) | (refine And.intro (fun hc => ?_) (fun hc => ?_) <;> first | (exfalso; omega) | (refine hX.out ?_; try clear hX hY X Y) | (refine hY.out ?_; try clear hX hY X Y)) | skip))
    exact hQ.out _ _ ⟨RowI.nil, by ((repeat first | exact Ext.refl _ | assumption | refine Ext.push ?_ _ | refine Ext.set ?_ _ (by first | omega | (simp only [nx, *]; omega)) | (apply Ext.up; focus (assumption; done))); done)⟩
theorem ExtR.toExt {lo hi : Nat} {H0 H1 H2 : Heap} (h : ExtR lo hi H1 H2) (k : Ext H0 H1) (hl : H0.size ≤ lo) : Ext H0 H2 := ⟨Nat.le_trans k.size h.size, fun b hb => (h.get b (Nat.lt_of_lt_of_le hb k.size) (by omega)).trans (k.get b hb)⟩
theorem OwnC.r {H0 H : Heap} {v : Value} {l : List Int} (h : OwnC H0 H v l) : OwnR H0.size H.size H v l := by
  obtain ⟨g, c, rfl, h1, h2, h3⟩ := h
  exact .inr ⟨g, c, rfl, h1, h2, Nat.le_refl _, h3⟩
theorem OwnT.ext {lo hi : Nat} {H H' : Heap} {v : Value} {T : List (List (Int × Int))} (h : OwnT lo hi H v T) (k : Ext H H') : OwnT lo hi H' v T := h.keep (k.r hi hi) (.inl (Nat.le_refl _))
theorem OwnR.ext {lo hi : Nat} {H H' : Heap} {v : Value} {l : List Int} (h : OwnR lo hi H v l) (k : Ext H H') : OwnR lo hi H' v l := h.keep (k.r hi hi) (.inl (Nat.le_refl _))
theorem OwnT.hi {lo hi : Nat} {H : Heap} {v : Value} {T : List (List (Int × Int))} (h : OwnT lo hi H v T) : hi ≤ H.size := by
  obtain ⟨g, c, cs, rfl, h1, h2, h3, _⟩ := h; exact h3
end Go.Proofs.Ytibkopejnhihkaa.Rai
