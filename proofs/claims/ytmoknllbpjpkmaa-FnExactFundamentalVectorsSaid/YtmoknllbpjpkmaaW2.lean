/- A part of the walk: what functions of the program do, over an abstract heap. -/
import Derived.Test.YtmoknllbpjpkmaaW1
namespace Go.Proofs.Ytmoknllbpjpkmaa.Zed
open Go TP
set_option linter.unusedVariables false
set_option linter.unusedSimpArgs false
set_option maxRecDepth 20000
namespace tfW2
theorem tf : (Try.prog.underlying 25 = some (.slice 2)) ∧ (el Try.prog 25 = some (none, 1)) ∧ (Try.prog.underlying 144 = some (.array 4 2)) ∧ (el Try.prog 144 = some (some 4, 1)) ∧ (tk Try.prog 2 = some none) ∧ (tk Try.prog 144 = some (some 4)) ∧ (cz Try.prog 2 = some 1) ∧ (bz Try.prog 2 = some 8) ∧ (zr Try.prog 2 = some (.int .i64 0)) ∧ (zr Try.prog 144 = some (.agg #[.int .i64 0, .int .i64 0, .int .i64 0, .int .i64 0])) := by
  refine ⟨?_, ?_, ?_, ?_, ?_, ?_, ?_, ?_, ?_, ?_⟩ <;> kernel_rfl
end tfW2
open tfW2

def delL (cs : List Int) (n i : Nat) : List Int := (cs.take n).eraseIdx i ++ [0] ++ cs.drop n
theorem del_eq {cs : List Int} {n i : Nat} (hn : n ≤ cs.length) (hi : i < n) :
    List.take (n - 1) (List.take i cs ++ List.take (n - (i + 1)) (List.drop (i + 1) cs) ++ List.drop (n - 1) cs) ++ [0] ++ List.drop n (List.take i cs ++ List.take (n - (i + 1)) (List.drop (i + 1) cs) ++ List.drop (n - 1) cs) = delL cs n i := by
  unfold delL
  have e0 : (List.take i cs ++ List.take (n - (i + 1)) (List.drop (i + 1) cs)).length = n - 1 := by simp; omega
  rw [List.take_append_of_le_length (by omega), List.take_of_length_le (by omega), List.eraseIdx_eq_take_drop_succ, List.take_take, List.drop_take, show min i n = i by omega]
  congr 1
  rw [List.drop_append, List.drop_eq_nil_of_le (by omega), e0, List.nil_append, List.drop_drop]
  congr 1
  omega
theorem del_eq' {cs : List Int} {i : Nat} (hi : i < cs.length) :
    List.take i (List.take i cs ++ List.drop i cs) ++ [0] ++ List.drop (i + 1) (List.take i cs ++ List.drop i cs) = delL cs (i + 1) i := by
  rw [List.take_append_drop]
  unfold delL
  rw [List.eraseIdx_eq_take_drop_succ, List.take_take, List.drop_take, Nat.sub_self, List.take_zero, List.append_nil, show min i (i + 1) = i by omega]
set_option maxHeartbeats 1000000 in
theorem Delete_c {H : Heap} {b n i c : Nat} {cs : List Int} (hg : H.get b = .cells (ints cs) 1 false) (hc : cs.length = c) (hn : n ≤ c) (hi : i < n) (hb : c ≤ 1000000) :
    ACalls Try.prog 180 [.slice (some ⟨b, 0, none⟩) n (c + 1), I i, I ((i : Int) + 1)] H fun v H' => v = .slice (some ⟨b, 0, none⟩) (n - 1) (c + 1) ∧ H' = H.set b (.cells (ints (delL cs n i)) 1 false) := by
  refine ACalls.body Try.func180 rfl Try.ntmps180 (rs := [.tmp 6]) rfl (by simp) rfl fun Q hQ A hA => ?_
  have a0 := hA 0 _ _ rfl
  have a1 := hA 1 _ _ rfl
  have a2 := hA 2 _ _ rfl
  clear hA
  have hne : ¬ (i : Int) = (i : Int) + 1 := by omega
  have htn : ((i : Int) + 1).toNat = i + 1 := by omega
  have e1 : i + (n - (i + 1)) = n - 1 := by omega
  have e2 : n - (n - 1) = 1 := by omega
  have e3 : n - 1 + 1 = n := by omega
  by_cases hlast : c = i + 1
  · subst hlast
    obtain rfl : n = i + 1 := by omega
    clear e1 e2 e3
    have e5 : ¬ i + 1 = i := by omega
    repeat' first | refine rnY ?_ | with_reducible refine And.intro (fun hc => ?_) (fun hc => ?_) | fail
    refine AWp.zreg [(0, none), (1, none), (2, none), (3, none), (4, none), (5, none), (6, some []), (7, none)] mixed (by kernel_rfl) ?_
    repeat' first | refine rzY ?_ | fail
    have zf0 := @set_set
    have zf1 := @zero1
    repeat' first | refine rnY ?_ | with_reducible refine And.intro (fun hc => ?_) (fun hc => ?_) | fail
    exact hQ.out _ _ ⟨by simp, by rw [del_eq' (by omega)]⟩
  · have e4 : ¬ c = n - 1 := by omega
    repeat' first | refine rnY ?_ | with_reducible refine And.intro (fun hc => ?_) (fun hc => ?_) | fail
    refine AWp.zreg [(0, none), (1, none), (2, none), (3, none), (4, none), (5, none), (6, some []), (7, none)] mixed (by kernel_rfl) ?_
    repeat' first | refine rzY ?_ | fail
    have zf0 := @set_set
    have zf1 := @zero1
    repeat' first | refine rnY ?_ | with_reducible refine And.intro (fun hc => ?_) (fun hc => ?_) | fail
    exact hQ.out _ _ ⟨rfl, by rw [del_eq (by omega) hi]⟩
set_option maxHeartbeats 1000000 in
theorem perm_c {H : Heap} (p : Int) (h0 : 0 ≤ p) (h1 : p < 24) : ACalls Try.prog 147 [I p] H fun v H' => v = .agg (ints (pmL p)).toArray ∧ Ext H H' := by
  refine ACalls.body Try.func147 rfl Try.ntmps147 (rs := [.cell 2 144]) rfl (by simp) rfl fun Q hQ A hA => ?_
  have a0 := hA 0 _ _ rfl
  clear hA
  repeat' first | refine roY ?_ | with_reducible refine And.intro (fun hc => ?_) (fun hc => ?_) | fail
  refine AWp.loop (fun A H' => ∃ k : Nat, k ≤ 4 ∧ A 0 = I (stp p k).1 ∧ A 2 = .pointer (some ⟨H.size, 0, none⟩) ∧ A 3 = .pointer (some ⟨H.size + 1, 0, none⟩) ∧ A 4 = .slice (some ⟨H.size + 1 + 1, 0, none⟩) (4 - k) 5 ∧
    A 9 = .slice (some ⟨H.size + 1 + 1 + 1, 0, none⟩) 4 5 ∧ A 10 = I 4 ∧ A 11 = I k ∧ H'.size = H.size + 1 + 1 + 1 + 1 ∧ Ext H H' ∧ H'.get H.size = .cells (ints [0, 0, 0, 0]) 1 false ∧ H'.get (H.size + 1) = .cells (ints (stp p k).2.2) 1 false ∧
    H'.get (H.size + 1 + 1) = .cells (ints (stp p k).2.1) 1 false ∧ H'.get (H.size + 1 + 1 + 1) = .cells (ints [6, 2, 1, 1]) 1 false) (fun A _ => 4 - (intV (A 11)).toNat) ?_ ?_
  · refine ⟨0, by omega, ?_, ?_, ?_, ?_, ?_, ?_, ?_, ?_, ?_, ?_, ?_, ?_, ?_⟩
    all_goals first | exact ivY | (simp (disch := (first | omega | (simp only [nx]; first | done | omega))) only [xxq, zxq, xxa, xxb, xxc, bne, Int.reduceEq, Int.reduceBEq, Int.reduceNe, Int.reduceBNe, Int.reduceLE, Int.reduceGT, Int.reduceGE, Int.reduceNeg, ↓reduceIte, reduceCtorEq, Nat.reduceEqDiff, Nat.reduceAdd, Nat.reduceMul, Nat.reduceSub, Nat.reduceLT, Int.reduceAdd, Int.reduceSub, Int.reduceMul, Int.reduceLT, Int.reduceToNat, ne_eq, *, stp, intV_int]; first | done | omega | rfl | exact congrArg (Value.int .i64) (by omega) | exact exY | skip) | skip
  · rintro A H' ⟨k, hk, b0, b2, b3, b4, b9, b10, b11, hs, hx, g0, g1, g2, g3⟩
    by_cases hlt : k < 4
    · have hl := stp_len p k hk h0 h1
      have hX := stp_x p h0 h1
      have hstep : stp p (k + 1) = ((stp p k).1 % bl k, ((stp p k).2.1.take (4 - k)).eraseIdx ((stp p k).1 / bl k).toNat ++ [0] ++ (stp p k).2.1.drop (4 - k), (stp p k).2.2.set k ((stp p k).2.1.getD ((stp p k).1 / bl k).toNat 0)) := rfl
      have hb : ([.int .i64 6, .int .i64 2, .int .i64 1, .int .i64 1] : List Value)[k]? = some (I (bl k)) := by
        have : k = 0 ∨ k = 1 ∨ k = 2 ∨ k = 3 := by omega
        rcases this with rfl | rfl | rfl | rfl <;> rfl
      have hbl : 0 < bl k ∧ bl k ≤ 6 := by
        have : k = 0 ∨ k = 1 ∨ k = 2 ∨ k = 3 := by omega
        rcases this with rfl | rfl | rfl | rfl <;> simp [bl]
      have hq : 0 ≤ (stp p k).1 ∧ (stp p k).1 < 24 ∧ (stp p k).1 / bl k < 4 - k ∧ 0 ≤ (stp p k).1 / bl k ∧ 0 ≤ (stp p k).1 % bl k ∧ (stp p k).1 % bl k < 6 := by
        have : k = 0 ∨ k = 1 ∨ k = 2 ∨ k = 3 := by omega
        rcases this with rfl | rfl | rfl | rfl
        · simp [bl, stp]; omega
        · simp only [bl, List.getD_cons_succ, List.getD_cons_zero]; omega
        · simp only [bl, List.getD_cons_succ, List.getD_cons_zero]; omega
        · have : (stp p 3).1 = 0 ∨ (stp p 3).1 > 0 := by have := (stp_x p h0 h1).2.2; omega
          simp only [bl, List.getD_cons_succ, List.getD_cons_zero]; omega
      generalize stp p k = s at *
      obtain ⟨X, L, O⟩ := s
      generalize bl k = bk at *
      dsimp only at *
      obtain ⟨q, hqq⟩ : ∃ q : Nat, X / bk = (q : Int) := ⟨(X / bk).toNat, by omega⟩
      have hqn : (X / bk).toNat = q := by omega
      have hgl : (ints L)[q]? = some (I (L.getD q 0)) := ints_get (by omega)
      rw [hqn] at hstep
      obtain ⟨x1, x2, x3, x4, x5, x6⟩ := hq
      obtain ⟨y1, y2⟩ := hbl
      obtain ⟨z1, z2⟩ := hl
      clear hX
      repeat' first | refine roY ?_ | (refine (Delete_c (cs := L) (c := 4) (by exact sdY) (by omega) (by omega) (by omega) (by omega)).mono ?_; rintro v H1 ⟨rfl, rfl⟩) | with_reducible refine And.intro (fun hc => ?_) (fun hc => ?_) | fail
      refine ⟨⟨k + 1, by omega, ?_, ?_, ?_, ?_, ?_, ?_, ?_, ?_, ?_, ?_, ?_, ?_, ?_⟩, ?_⟩
      all_goals first | exact ivY | (simp (disch := (first | omega | (simp only [nx]; first | done | omega))) only [xxq, zxq, xxa, xxb, xxc, bne, Int.reduceEq, Int.reduceBEq, Int.reduceNe, Int.reduceBNe, Int.reduceLE, Int.reduceGT, Int.reduceGE, Int.reduceNeg, ↓reduceIte, reduceCtorEq, Nat.reduceEqDiff, Nat.reduceAdd, Nat.reduceMul, Nat.reduceSub, Nat.reduceLT, Int.reduceAdd, Int.reduceSub, Int.reduceMul, Int.reduceLT, Int.reduceToNat, ne_eq, *, hstep, hqn, delL, intV_int]; first | done | omega | rfl | exact congrArg (Value.int .i64) (by omega) | exact exY | skip) | skip
    · obtain rfl : k = 4 := by omega
      obtain ⟨z1, z2⟩ := stp_len p 4 (by omega) h0 h1
      repeat' first | refine roY ?_ | with_reducible refine And.intro (fun hc => ?_) (fun hc => ?_) | fail

      refine hQ.out _ _ ⟨?_, hx.set _ (by omega)⟩
      rfl
theorem perm_z (p : Int) (h0 : 0 ≤ p) (h1 : p < 24) : ZCalls Try.prog 147 [I p] (.agg (ints (pmL p)).toArray) :=
  .of fun H => (perm_c p h0 h1).mono fun v H' q => ⟨.eq (Cl.agg (Cl.ints _)) q.1, q.2⟩
end Go.Proofs.Ytmoknllbpjpkmaa.Zed
