/- A part of the walk: what functions of the program do, over an abstract heap. -/
import Derived.Test.YtmoknllbpjpkmaaGreatV1
namespace Go.Proofs.YtmoknllbpjpkmaaGreat.Zed
open Go TP
set_option linter.unusedVariables false
set_option linter.unusedSimpArgs false
set_option maxRecDepth 20000
namespace tfV3
theorem tf : (Tryz.prog.underlying 25 = some (.slice 2)) ∧ (el Tryz.prog 25 = some (none, 1)) ∧ (Tryz.prog.underlying 37 = some (.slice 25)) ∧ (el Tryz.prog 37 = some (none, 1)) ∧ (tk Tryz.prog 2 = some none) ∧ (tk Tryz.prog 25 = some none) ∧ (tk Tryz.prog 31 = some (some 1)) ∧ (cz Tryz.prog 2 = some 1) ∧ (bz Tryz.prog 2 = some 8) ∧ (cz Tryz.prog 25 = some 1) ∧ (bz Tryz.prog 25 = some 24) ∧ (zr Tryz.prog 2 = some (.int .i64 0)) ∧ (zr Tryz.prog 25 = some (.slice none 0 0)) := by
  refine ⟨?_, ?_, ?_, ?_, ?_, ?_, ?_, ?_, ?_, ?_, ?_, ?_, ?_⟩ <;> kernel_rfl
end tfV3
open tfV3
theorem rb5_V3 {a b : Prop} (hb : b) (h : Later b → a := by
  intro hb
  first
  | ((first | (with_reducible first | refine AOps.nil ?_ | refine athen_n ?_ | refine athen_r ?_ | refine athen_e ?_ | refine ablock_n ?_ | refine ablock_r ?_ | refine ablock_s ?_ | refine AWp.seq' ?_ | refine AWp.block ?_ | refine AWp.skip ?_ | refine AWp.exit ?_ | refine AWp.ret ?_ | (refine ablock_e ?_ ?_; focus rfl)) | ((with_reducible refine AWp.regionB 5 ?_ ?_); focus (exact rfl))); repeat (first | (with_reducible first | refine AOps.nil ?_ | refine athen_n ?_ | refine athen_r ?_ | refine athen_e ?_ | refine ablock_n ?_ | refine ablock_r ?_ | refine ablock_s ?_ | refine AWp.seq' ?_ | refine AWp.block ?_ | refine AWp.skip ?_ | refine AWp.exit ?_ | refine AWp.ret ?_ | (refine ablock_e ?_ ?_; focus rfl)) | ((with_reducible refine AWp.regionB 5 ?_ ?_); focus (exact rfl))))
  | (refine AOps.guardu rfl rfl rfl ?_ ?_; focus (simp (disch := (first | omega | (simp only [nx]; first | done | omega))) only [Value.bool.injEq, Bool.and_true, Bool.true_and, Bool.and_false, Bool.false_and, beq_self_eq_true, bne, Bool.not_true, Bool.not_false, sx, nx, dx, ↓reduceIte, reduceCtorEq, Nat.reduceEqDiff, ne_eq, not_false_eq_true, *]; done))
  | ((first | ((with_reducible refine AOps.lit ?_ ?_ ?_ fun K hK => ?_); exact rfl; exact rfl; exact rfl) | ((with_reducible refine AOps.boxz ?_ ?_ fun K hK => ?_); exact rfl; exact rfl) | ((with_reducible refine AOps.cons2 ?_ ?_ fun K hK => ?_); exact rfl; exact rfl) | ((with_reducible refine AWp.cond ?_ fun X Y hX hY => ?_); exact rfl) | refine AOps.guard rfl rfl rfl fun X Y hX hY => ?_ | refine aret_r ?_ | refine aret_n ?_); simp (disch := (first | omega | (simp only [nx]; first | done | omega))) only [acond_bool, aresK, retv, xxq, zxq, tf, litK, copyK, clearK, makeSliceK, buildSliceK, buildK, lookupK, mapPutK, mapOf, convK, allocK, indexK, partK, xxa, xxb, xxc, bne, Int.reduceEq, Int.reduceBEq, Int.reduceNe, Int.reduceBNe, Int.reduceLE, Int.reduceGT, Int.reduceGE, Int.reduceNeg, ↓reduceIte, reduceCtorEq, Nat.reduceEqDiff, Nat.reduceAdd, Nat.reduceMul, Nat.reduceSub, Nat.reduceLT, Int.reduceAdd, Int.reduceSub, Int.reduceMul, Int.reduceLT, Int.reduceToNat, ne_eq, *]; (repeat first | ((with_reducible refine And.intro (fun hc => ?_) (fun hc => absurd hc (by omega))); clear hc) | ((with_reducible refine And.intro (fun hc => absurd hc (by omega)) (fun hc => ?_)); clear hc) | ((with_reducible refine And.intro ?_ ?_); focus ((first | omega | assumption | exact cok _ rfl | exact one_ints _ | exact one_map fun _ => rfl | ((repeat refine one_cons (by first | rfl | assumption) ?_); exact one_nil) | rfl | decide | (intro u hu; cases hu)); done)) | (with_reducible refine (fun hc => ?_ : _ → _); clear hc)); (first | refine hK.out _ _ ?_ | refine ACalls.hk hK ?_ | (refine appendK.hk hK ?_; try (refine appendK.ofZ ?_; simp (disch := (first | omega | (simp only [nx]; first | done | omega))) only [xxq, zxq, tf, litK, copyK, clearK, makeSliceK, buildSliceK, buildK, lookupK, mapPutK, mapOf, convK, allocK, indexK, partK, xxa, xxb, xxc, bne, Int.reduceEq, Int.reduceBEq, Int.reduceNe, Int.reduceBNe, Int.reduceLE, Int.reduceGT, Int.reduceGE, Int.reduceNeg, ↓reduceIte, reduceCtorEq, Nat.reduceEqDiff, Nat.reduceAdd, Nat.reduceMul, Nat.reduceSub, Nat.reduceLT, Int.reduceAdd, Int.reduceSub, Int.reduceMul, Int.reduceLT, Int.reduceToNat, ne_eq, *]; (repeat first | ((with_reducible refine And.intro (fun hc => ?_) (fun hc => absurd hc (by omega))); clear hc) | ((with_reducible refine And.intro (fun hc => absurd hc (by omega)) (fun hc => ?_)); clear hc) | ((with_reducible refine And.intro ?_ ?_); focus ((first | omega | assumption | exact cok _ rfl | exact one_ints _ | exact one_map fun _ => rfl | ((repeat refine one_cons (by first | rfl | assumption) ?_); exact one_nil) | rfl | decide | (intro u hu; cases hu)); done)) | (with_reducible refine (fun hc => ?_ : _ → _); clear hc)))) | refine (fun (q : _ ∧ _) => And.intro (hK.out _ _ q.1) (hK.out _ _ q.2)) ?_ | refine hX.out ?_ | refine hY.out ?_ | refine (fun (q : (_ → _) ∧ (_ → _)) => And.intro (fun hc => hX.out (q.1 hc)) (fun hc => hY.out (q.2 hc))) ?_ | refine (fun (q : (_ → _) ∧ (_ → _)) => And.intro (fun hc => hY.out (q.1 hc)) (fun hc => hX.out (q.2 hc))) ?_ | skip))
  exact hb.out) : a := h ⟨hb⟩
set_option maxHeartbeats 8000000 in
theorem spec_dec {T : List (List (Int × Int))} {v : List Int} (hc : ZCalls Tryz.prog 26 [zT T, zI v] (I 0)) (st up S : Nat → List Int) (D : Nat → List (List Int)) (N : Nat) (h0 : st 0 = v) (hD0 : D 0 = []) (hDs : ∀ k, D (k + 1) = D k ++ [up k]) (hDl : ∀ k, (D k).length = k) (hN : N ≤ 100000) (hvl : v.length ≤ 1000)
    (hs : ∀ k, k ≤ N → ZCalls Tryz.prog 27 [zI (st k)] (zI (S k))) (hS1 : ∀ k, k < N → 0 < (S k).length) (hS2 : (S N).length = 0) (hf : ∀ k, k < N → ZCalls Tryz.prog 28 [zT T, zI (st k)] (zI (up k))) (hp : ∀ k, k < N → ZCalls Tryz.prog 29 [zI (st k), zI (up k), I (-1)] (zI (st (k + 1)))) :
    ZCalls Tryz.prog 12 [zT T, zI v] (iiV (D N) 0) := by
  have hDb : ∀ k, k ≤ N → (D k).length ≤ 100000 := fun k hk => by rw [hDl]; omega
  clear hDl
  refine ZCalls.body Tryz.func12 rfl Tryz.ntmps12 (rs := [.tmp 4, .tmp 5]) rfl (by simp) rfl fun H Q hQ A hA => ?_
  have a0 := hA 0 _ _ rfl
  have a1 := hA 1 _ _ rfl
  clear hA
  repeat' first | refine rb5_V3 ?_ | (first | refine ZCalls.to (hc) ?_ | refine ZCalls.tf (hc) ?_) | with_reducible refine And.intro (fun hc => ?_) (fun hc => ?_) | fail
  refine AWp.growE (t := 7) 1 (by decide) (by exact ivY) ?_
  rcases Nat.eq_zero_or_pos v.length with hv0 | hv0
  case' inl =>
    have hvn : v = [] := List.eq_nil_of_length_eq_zero hv0
    subst hvn
    repeat' first | refine rnY ?_ | with_reducible refine And.intro (fun hc => ?_) (fun hc => ?_) | fail
    refine AWp.freezeI (t := 8) (g := H.size + 1 + 1) [] 0 (by exact ivY) (by exact ivY) rfl rfl rfl ?_
  case' inr =>
    repeat' first | refine rnY ?_ | (refine appI (cs := []) (by exact ivY) (by simp) rfl (by omega) (by omega) ?_) | with_reducible refine And.intro (fun hc => ?_) (fun hc => ?_) | fail
    refine AWp.freezeI (t := 8) (g := H.size + 1 + 1 + 1) v v.length (by exact ivY) (by exact ivY) rfl rfl rfl ?_
  all_goals
    refine AWp.cut (fun Ac hAc => ?_)
    have c2 := gtY (t := 2) hAc
    have c7 := gtY (t := 7) hAc
    have c8 := gtY (t := 8) hAc
    clear a0 a1 hc
    refine AWp.loopx (σ := Nat) (fun s A' H' => ∃ (k : Nat), Ag [9, 20, 21, 22, 23, 24, 25, 26, 27, 28, 29, 30, 31, 32, 33] A' (put (put Ac (some 7) (GZ (H.size + 1) 1 (D k).length ((D k).map fun r => zI r))) (some 8) (zI (st k))) ∧ s + k = N ∧ Ext H H' ∧ H'.get (H.size + 1) = .tok (D k).length 1 ∧ H.size + 1 < H'.size) (fun s => s) (N) ?_ ?_
    · refine ⟨0, ?_, by omega, by exact exY, ?_, by simp only [nx]; omega⟩
      · rw [hD0, h0]; exact agY
      · rw [hD0]; exact ivY
    · rintro s A1 H1 ⟨k, hA, hsk, hx, htg, hts⟩
      have d2 := gdY (t := 2) hA
      have d7 := gdY (t := 7) hA
      have d8 := gdY (t := 8) hA
      clear h0 hD0
      by_cases hlt : k < N
      · have hs := hs k (by omega)
        have hf := hf k hlt
        have hp := hp k hlt
        have hsl : (((S k).length : Nat) : Int) > 0 := by have := hS1 k hlt; omega
        have hDs := hDs k
        have hRl := hDb k (by omega)
        clear hS1 hS2 hDb
        generalize D k = R at *
        generalize S k = Sk at *
        generalize st k = sk at *
        generalize up k = u at *
        repeat' first | refine rnY ?_ | (first | refine ZCalls.to (hs) ?_ | refine ZCalls.tf (hs) ?_) | (first | refine ZCalls.to (hf) ?_ | refine ZCalls.tf (hf) ?_) | (first | refine ZCalls.to (hp) ?_ | refine ZCalls.tf (hp) ?_) | with_reducible refine And.intro (fun hc => ?_) (fun hc => ?_) | fail
        exact ⟨s - 1, ⟨k + 1, by rw [hDs]; exact agY, by omega, by exact exY, by rw [hDs]; exact ivY, by exact ivY⟩, by omega⟩
      · obtain rfl : k = N := by omega
        have hs := hs k (Nat.le_refl _)
        have hsl : ¬ (((S k).length : Nat) : Int) > 0 := by omega
        clear hf hp hDs hDb hS1 hS2
        generalize D k = R at *
        generalize S k = Sk at *
        generalize st k = sk at *
        refine AWp.wk1 (t := 7) (r := zII R) (by rw [d7]; exact Wk.gz) (by rw [d7]; intro e; cases e) ?_
        repeat' first | refine rnY ?_ | (first | refine ZCalls.to (hs) ?_ | refine ZCalls.tf (hs) ?_) | with_reducible refine And.intro (fun hc => ?_) (fun hc => ?_) | fail
        exact hQ.out _ _ (.eq (Cl.tuple (l := [zII R, I 0]) (Cl.cons (Cl.zII _) (Cl.cons (Cl.int _ _) Cl.nil))) rfl) (by exact exY)
end Go.Proofs.YtmoknllbpjpkmaaGreat.Zed
