/- A part of the walk: what functions of the program do, over an abstract heap. -/
import Derived.Test.YtmoknllbpjpkmaaGreatZedG
import Derived.Test.YtmoknllbpjpkmaaGreatTPx
import Derived.Test.YtmoknllbpjpkmaaGreatProg
import Derived.Test.YtmoknllbpjpkmaaGreatZedI
import Derived.Shelf.Abstract
import Derived.WalkKit
import Derived.OwnWalkIn
import Derived.TacticsInMore
import Derived.LoopNIn
import Derived.LoopIn
import Derived.RegionIn
namespace Go.Proofs.YtmoknllbpjpkmaaGreat.Zed
open Go TP
set_option linter.unusedVariables false
set_option linter.unusedSimpArgs false
set_option maxRecDepth 20000
theorem mixed : Tryz.prog.follows .mixedOrders = true := by kernel_rfl
namespace tfW1
theorem tf : (tk Tryz.prog 2 = some none) ∧ (fo Tryz.prog 80 0 = some (0, none)) := by
  refine ⟨?_, ?_⟩ <;> kernel_rfl
end tfW1
open tfW1

theorem inRange_z (x lo hi : Int) : ZCalls Tryz.prog 80 [I x, I lo, I hi] (B (decide (lo ≤ x ∧ x ≤ hi))) := by
  refine ZCalls.body Tryz.func80 rfl Tryz.ntmps80 (rs := [.tmp 6]) rfl (by simp) rfl fun H Q hQ A hA => ?_
  have a0 := hA 0 _ _ rfl
  have a1 := hA 1 _ _ rfl
  have a2 := hA 2 _ _ rfl
  clear hA
  by_cases h1 : lo ≤ x
  · by_cases h2 : x ≤ hi
    · repeat' first | refine rnY ?_ | with_reducible refine And.intro (fun hc => ?_) (fun hc => ?_) | fail
      exact hQ.out _ _ (.eq (Cl.bool _) (by simp [h1, h2])) (by exact exY)
    · repeat' first | refine rnY ?_ | with_reducible refine And.intro (fun hc => ?_) (fun hc => ?_) | fail
      exact hQ.out _ _ (.eq (Cl.bool _) (by simp [h1, h2])) (by exact exY)
  · repeat' first | refine rnY ?_ | with_reducible refine And.intro (fun hc => ?_) (fun hc => ?_) | fail
    exact hQ.out _ _ (.eq (Cl.bool _) (by simp [h1])) (by exact exY)
theorem isPerm_z (p : Int) : ZCalls Tryz.prog 135 [I p] (B (decide (0 ≤ p ∧ p ≤ 23))) := by
  refine ZCalls.body Tryz.func135 rfl Tryz.ntmps135 (rs := [.tmp 2]) rfl (by simp) rfl fun H Q hQ A hA => ?_
  have a0 := hA 0 _ _ rfl
  clear hA
  repeat' first | refine rnY ?_ | (first | refine ZCalls.to (inRange_z _ _ _) ?_ | refine ZCalls.tf (inRange_z _ _ _) ?_) | with_reducible refine And.intro (fun hc => ?_) (fun hc => ?_) | fail
  exact hQ.out _ _ (fv) (by exact exY)
theorem isBoundary_z (x y : Int) : ZCalls Tryz.prog 96 [.agg #[I x, I y]] (B (decide (x < 0))) := by
  refine ZCalls.body Tryz.func96 rfl Tryz.ntmps96 (rs := [.tmp 2]) rfl (by simp) rfl fun H Q hQ A hA => ?_
  have a0 := hA 0 _ _ rfl
  clear hA
  repeat' first | refine rnY ?_ | with_reducible refine And.intro (fun hc => ?_) (fun hc => ?_) | fail
  exact hQ.out _ _ (fv) (by exact exY)
end Go.Proofs.YtmoknllbpjpkmaaGreat.Zed
namespace Go.Proofs.YtmoknllbpjpkmaaGreat.Zed
open Go TP
set_option linter.unusedVariables false
set_option linter.unusedSimpArgs false
set_option maxRecDepth 20000
namespace tfW2
theorem tf : (Tryz.prog.underlying 25 = some (.slice 2)) ∧ (el Tryz.prog 25 = some (none, 1)) ∧ (Tryz.prog.underlying 109 = some (.array 4 2)) ∧ (el Tryz.prog 109 = some (some 4, 1)) ∧ (tk Tryz.prog 2 = some none) ∧ (tk Tryz.prog 109 = some (some 4)) ∧ (cz Tryz.prog 2 = some 1) ∧ (bz Tryz.prog 2 = some 8) ∧ (zr Tryz.prog 2 = some (.int .i64 0)) ∧ (zr Tryz.prog 109 = some (.agg #[.int .i64 0, .int .i64 0, .int .i64 0, .int .i64 0])) := by
  refine ⟨?_, ?_, ?_, ?_, ?_, ?_, ?_, ?_, ?_, ?_⟩ <;> kernel_rfl
end tfW2
open tfW2

def delL (cs : List Int) (n i : Nat) : List Int := (cs.take n).eraseIdx i ++ [0] ++ cs.drop n
theorem del_eq {cs : List Int} {n i : Nat} (hn : n ≤ cs.length) (hi : i < n) :
    List.take (n - 1) (List.take i cs ++ List.take (n - (i + 1)) (List.drop (i + 1) cs) ++ List.drop (n - 1) cs) ++ [0] ++ List.drop n (List.take i cs ++ List.take (n - (i + 1)) (List.drop (i + 1) cs) ++ List.drop (n - 1) cs) = delL cs n i := by
  unfold delL
  have e0 : (List.take i cs ++ List.take (n - (i + 1)) (List.drop (i + 1) cs)).length = n - 1 := by simp; omega
  rw [List.take_append_of_le_length (by omega), List.take_of_length_le (by omega), List.eraseIdx_eq_take_drop_succ, List.take_take, List.drop_take, show min i n = i by omega]
  congr 1
  rw [List.drop_append, List.drop_eq_nil_of_le (by omega), e0, List.nil_append, List.drop_drop]
  congr 1
  omega
theorem del_eq' {cs : List Int} {i : Nat} (hi : i < cs.length) :
    List.take i (List.take i cs ++ List.drop i cs) ++ [0] ++ List.drop (i + 1) (List.take i cs ++ List.drop i cs) = delL cs (i + 1) i := by
  rw [List.take_append_drop]
  unfold delL
  rw [List.eraseIdx_eq_take_drop_succ, List.take_take, List.drop_take, Nat.sub_self, List.take_zero, List.append_nil, show min i (i + 1) = i by omega]
set_option maxHeartbeats 1000000 in
theorem Delete_c {H : Heap} {b n i c : Nat} {cs : List Int} (hg : H.get b = .cells (ints cs) 1 false) (hc : cs.length = c) (hn : n ≤ c) (hi : i < n) (hb : c ≤ 1000000) :
    ACalls Tryz.prog 121 [.slice (some ⟨b, 0, none⟩) n (c + 1), I i, I ((i : Int) + 1)] H fun v H' => v = .slice (some ⟨b, 0, none⟩) (n - 1) (c + 1) ∧ H' = H.set b (.cells (ints (delL cs n i)) 1 false) := by
  refine ACalls.body Tryz.func121 rfl Tryz.ntmps121 (rs := [.tmp 6]) rfl (by simp) rfl fun Q hQ A hA => ?_
  have a0 := hA 0 _ _ rfl
  have a1 := hA 1 _ _ rfl
  have a2 := hA 2 _ _ rfl
  clear hA
  have hne : ¬ (i : Int) = (i : Int) + 1 := by omega
  have htn : ((i : Int) + 1).toNat = i + 1 := by omega
  have e1 : i + (n - (i + 1)) = n - 1 := by omega
  have e2 : n - (n - 1) = 1 := by omega
  have e3 : n - 1 + 1 = n := by omega
  by_cases hlast : c = i + 1
  · subst hlast
    obtain rfl : n = i + 1 := by omega
    clear e1 e2 e3
    have e5 : ¬ i + 1 = i := by omega
    repeat' first | refine rnY ?_ | with_reducible refine And.intro (fun hc => ?_) (fun hc => ?_) | fail
    refine AWp.zreg [(0, none), (1, none), (2, none), (3, none), (4, none), (5, none), (6, some []), (7, none)] mixed (by kernel_rfl) ?_
    repeat' first | refine rzY ?_ | fail
    have zf0 := @set_set
    have zf1 := @zero1
    repeat' first | refine rnY ?_ | with_reducible refine And.intro (fun hc => ?_) (fun hc => ?_) | fail
    exact hQ.out _ _ ⟨by simp, by rw [del_eq' (by omega)]⟩
  · have e4 : ¬ c = n - 1 := by omega
    repeat' first | refine rnY ?_ | with_reducible refine And.intro (fun hc => ?_) (fun hc => ?_) | fail
    refine AWp.zreg [(0, none), (1, none), (2, none), (3, none), (4, none), (5, none), (6, some []), (7, none)] mixed (by kernel_rfl) ?_
    repeat' first | refine rzY ?_ | fail
    have zf0 := @set_set
    have zf1 := @zero1
    repeat' first | refine rnY ?_ | with_reducible refine And.intro (fun hc => ?_) (fun hc => ?_) | fail
    exact hQ.out _ _ ⟨rfl, by rw [del_eq (by omega) hi]⟩
set_option maxHeartbeats 1000000 in
theorem perm_c {H : Heap} (p : Int) (h0 : 0 ≤ p) (h1 : p < 24) : ACalls Tryz.prog 97 [I p] H fun v H' => v = .agg (ints (pmL p)).toArray ∧ Ext H H' := by
  refine ACalls.body Tryz.func97 rfl Tryz.ntmps97 (rs := [.cell 2 109]) rfl (by simp) rfl fun Q hQ A hA => ?_
  have a0 := hA 0 _ _ rfl
  clear hA
  repeat' first | refine roY ?_ | with_reducible refine And.intro (fun hc => ?_) (fun hc => ?_) | fail
  refine AWp.loop (fun A H' => ∃ k : Nat, k ≤ 4 ∧ A 0 = I (stp p k).1 ∧ A 2 = .pointer (some ⟨H.size, 0, none⟩) ∧ A 3 = .pointer (some ⟨H.size + 1, 0, none⟩) ∧ A 4 = .slice (some ⟨H.size + 1 + 1, 0, none⟩) (4 - k) 5 ∧
    A 9 = .slice (some ⟨H.size + 1 + 1 + 1, 0, none⟩) 4 5 ∧ A 10 = I 4 ∧ A 11 = I k ∧ H'.size = H.size + 1 + 1 + 1 + 1 ∧ Ext H H' ∧ H'.get H.size = .cells (ints [0, 0, 0, 0]) 1 false ∧ H'.get (H.size + 1) = .cells (ints (stp p k).2.2) 1 false ∧
    H'.get (H.size + 1 + 1) = .cells (ints (stp p k).2.1) 1 false ∧ H'.get (H.size + 1 + 1 + 1) = .cells (ints [6, 2, 1, 1]) 1 false) (fun A _ => 4 - (intV (A 11)).toNat) ?_ ?_
  · refine ⟨0, by omega, ?_, ?_, ?_, ?_, ?_, ?_, ?_, ?_, ?_, ?_, ?_, ?_, ?_⟩
    all_goals first | exact ivY | (simp (disch := (first | omega | (simp only [nx]; first | done | omega))) only [xxq, zxq, xxa, xxb, xxc, bne, Int.reduceEq, Int.reduceBEq, Int.reduceNe, Int.reduceBNe, Int.reduceLE, Int.reduceGT, Int.reduceGE, Int.reduceNeg, ↓reduceIte, reduceCtorEq, Nat.reduceEqDiff, Nat.reduceAdd, Nat.reduceMul, Nat.reduceSub, Nat.reduceLT, Int.reduceAdd, Int.reduceSub, Int.reduceMul, Int.reduceLT, Int.reduceToNat, ne_eq, *, stp, intV_int]; first | done | omega | rfl | exact congrArg (Value.int .i64) (by omega) | exact exY | skip) | skip
  · rintro A H' ⟨k, hk, b0, b2, b3, b4, b9, b10, b11, hs, hx, g0, g1, g2, g3⟩
    by_cases hlt : k < 4
    · have hl := stp_len p k hk h0 h1
      have hX := stp_x p h0 h1
      have hstep : stp p (k + 1) = ((stp p k).1 % bl k, ((stp p k).2.1.take (4 - k)).eraseIdx ((stp p k).1 / bl k).toNat ++ [0] ++ (stp p k).2.1.drop (4 - k), (stp p k).2.2.set k ((stp p k).2.1.getD ((stp p k).1 / bl k).toNat 0)) := rfl
      have hb : ([.int .i64 6, .int .i64 2, .int .i64 1, .int .i64 1] : List Value)[k]? = some (I (bl k)) := by
        have : k = 0 ∨ k = 1 ∨ k = 2 ∨ k = 3 := by omega
        rcases this with rfl | rfl | rfl | rfl <;> rfl
      have hbl : 0 < bl k ∧ bl k ≤ 6 := by
        have : k = 0 ∨ k = 1 ∨ k = 2 ∨ k = 3 := by omega
        rcases this with rfl | rfl | rfl | rfl <;> simp [bl]
      have hq : 0 ≤ (stp p k).1 ∧ (stp p k).1 < 24 ∧ (stp p k).1 / bl k < 4 - k ∧ 0 ≤ (stp p k).1 / bl k ∧ 0 ≤ (stp p k).1 % bl k ∧ (stp p k).1 % bl k < 6 := by
        have : k = 0 ∨ k = 1 ∨ k = 2 ∨ k = 3 := by omega
        rcases this with rfl | rfl | rfl | rfl
        · simp [bl, stp]; omega
        · simp only [bl, List.getD_cons_succ, List.getD_cons_zero]; omega
        · simp only [bl, List.getD_cons_succ, List.getD_cons_zero]; omega
        · have : (stp p 3).1 = 0 ∨ (stp p 3).1 > 0 := by have := (stp_x p h0 h1).2.2; omega
          simp only [bl, List.getD_cons_succ, List.getD_cons_zero]; omega
      generalize stp p k = s at *
      obtain ⟨X, L, O⟩ := s
      generalize bl k = bk at *
      dsimp only at *
      obtain ⟨q, hqq⟩ : ∃ q : Nat, X / bk = (q : Int) := ⟨(X / bk).toNat, by omega⟩
      have hqn : (X / bk).toNat = q := by omega
      have hgl : (ints L)[q]? = some (I (L.getD q 0)) := ints_get (by omega)
      rw [hqn] at hstep
      obtain ⟨x1, x2, x3, x4, x5, x6⟩ := hq
      obtain ⟨y1, y2⟩ := hbl
      obtain ⟨z1, z2⟩ := hl
      clear hX
      repeat' first | refine roY ?_ | (refine (Delete_c (cs := L) (c := 4) (by exact sdY) (by omega) (by omega) (by omega) (by omega)).mono ?_; rintro v H1 ⟨rfl, rfl⟩) | with_reducible refine And.intro (fun hc => ?_) (fun hc => ?_) | fail
      refine ⟨⟨k + 1, by omega, ?_, ?_, ?_, ?_, ?_, ?_, ?_, ?_, ?_, ?_, ?_, ?_, ?_⟩, ?_⟩
      all_goals first | exact ivY | (simp (disch := (first | omega | (simp only [nx]; first | done | omega))) only [xxq, zxq, xxa, xxb, xxc, bne, Int.reduceEq, Int.reduceBEq, Int.reduceNe, Int.reduceBNe, Int.reduceLE, Int.reduceGT, Int.reduceGE, Int.reduceNeg, ↓reduceIte, reduceCtorEq, Nat.reduceEqDiff, Nat.reduceAdd, Nat.reduceMul, Nat.reduceSub, Nat.reduceLT, Int.reduceAdd, Int.reduceSub, Int.reduceMul, Int.reduceLT, Int.reduceToNat, ne_eq, *, hstep, hqn, delL, intV_int]; first | done | omega | rfl | exact congrArg (Value.int .i64) (by omega) | exact exY | skip) | skip
    · obtain rfl : k = 4 := by omega
      obtain ⟨z1, z2⟩ := stp_len p 4 (by omega) h0 h1
      repeat' first | refine roY ?_ | with_reducible refine And.intro (fun hc => ?_) (fun hc => ?_) | fail

      refine hQ.out _ _ ⟨?_, hx.set _ (by omega)⟩
      rfl
theorem perm_z (p : Int) (h0 : 0 ≤ p) (h1 : p < 24) : ZCalls Tryz.prog 97 [I p] (.agg (ints (pmL p)).toArray) :=
  .of fun H => (perm_c p h0 h1).mono fun v H' q => ⟨.eq (Cl.agg (Cl.ints _)) q.1, q.2⟩
end Go.Proofs.YtmoknllbpjpkmaaGreat.Zed
namespace Go.Proofs.YtmoknllbpjpkmaaGreat.Zed
open Go TP
set_option linter.unusedVariables false
set_option linter.unusedSimpArgs false
set_option maxRecDepth 20000
namespace tfW3
theorem tf : (Tryz.prog.underlying 25 = some (.slice 2)) ∧ (el Tryz.prog 25 = some (none, 1)) ∧ (Tryz.prog.underlying 29 = some (.slice 61)) ∧ (el Tryz.prog 29 = some (none, 1)) ∧ (Tryz.prog.underlying 109 = some (.array 4 2)) ∧ (el Tryz.prog 109 = some (some 4, 1)) ∧ (tk Tryz.prog 2 = some none) ∧ (tk Tryz.prog 61 = some none) ∧ (tk Tryz.prog 80 = some (some 2)) ∧ (tk Tryz.prog 109 = some (some 4)) ∧ (cz Tryz.prog 2 = some 1) ∧ (bz Tryz.prog 2 = some 8) ∧ (cz Tryz.prog 61 = some 1) ∧ (bz Tryz.prog 61 = some 24) ∧ (zr Tryz.prog 2 = some (.int .i64 0)) ∧ (zr Tryz.prog 61 = some (.slice none 0 0)) ∧ (zr Tryz.prog 80 = some (.agg #[.int .i64 0, .int .i64 0])) ∧ (zr Tryz.prog 109 = some (.agg #[.int .i64 0, .int .i64 0, .int .i64 0, .int .i64 0])) ∧ (fo Tryz.prog 80 1 = some (1, none)) ∧ (el Tryz.prog 80 = none) ∧ (placesOf Tryz.prog 80 = some #[(0, 1), (1, 1)]) := by
  refine ⟨?_, ?_, ?_, ?_, ?_, ?_, ?_, ?_, ?_, ?_, ?_, ?_, ?_, ?_, ?_, ?_, ?_, ?_, ?_, ?_, ?_⟩ <;> kernel_rfl
end tfW3
open tfW3

/-- A triangulation. -/
abbrev zT (T : List (List (Int × Int))) : Value := .agg #[zL zP T]
theorem Cl.zT (T : List (List (Int × Int))) : Cl (Zed.zT T) := Cl.agg (Cl.cons (Cl.zL (fun r => Cl.zP r) T) Cl.nil)
theorem target_z (t p f : Int) (h0 : 0 ≤ p) (h1 : p < 24) (hf0 : 0 ≤ f) (hf1 : f < 4) : ZCalls Tryz.prog 136 [.agg #[I t, I p], I f] (I (pm p f)) := by
  obtain ⟨n, rfl⟩ : ∃ n : Nat, f = n := ⟨f.toNat, by omega⟩
  have hl := (pmL_bd p h0 h1).1
  refine ZCalls.body Tryz.func136 rfl Tryz.ntmps136 (rs := [.tmp 4]) rfl (by simp) rfl fun H Q hQ A hA => ?_
  have a0 := hA 0 _ _ rfl
  have a1 := hA 1 _ _ rfl
  clear hA
  repeat' first | refine rnY ?_ | (first | refine ZCalls.to (perm_z _ h0 h1) ?_ | refine ZCalls.tf (perm_z _ h0 h1) ?_) | with_reducible refine And.intro (fun hc => ?_) (fun hc => ?_) | fail
  exact hQ.out _ _ (.eq (Cl.int _ _) (by simp [pm])) (by exact exY)
theorem size_z (n es : Nat) (cs : List Value) : ZCalls Tryz.prog 101 [FZ es n cs] (I n) := by
  refine ZCalls.body Tryz.func101 rfl Tryz.ntmps101 (rs := [.tmp 2]) rfl (by simp) rfl fun H Q hQ A hA => ?_
  have a0 := hA 0 _ _ rfl
  clear hA
  repeat' first | refine rnY ?_ | with_reducible refine And.intro (fun hc => ?_) (fun hc => ?_) | fail
  exact hQ.out _ _ (fv) (by exact exY)
theorem hasIndex_z (n es : Nat) (cs : List Value) (i : Int) (hn : n ≤ 1048576) : ZCalls Tryz.prog 134 [FZ es n cs, I i] (B (decide (0 ≤ i ∧ i ≤ (n : Int) - 1))) := by
  refine ZCalls.body Tryz.func134 rfl Tryz.ntmps134 (rs := [.tmp 4]) rfl (by simp) rfl fun H Q hQ A hA => ?_
  have a0 := hA 0 _ _ rfl
  have a1 := hA 1 _ _ rfl
  clear hA
  repeat' first | refine rnY ?_ | (first | refine ZCalls.to (size_z _ _ _) ?_ | refine ZCalls.tf (size_z _ _ _) ?_) | (first | refine ZCalls.to (inRange_z _ _ _) ?_ | refine ZCalls.tf (inRange_z _ _ _) ?_) | with_reducible refine And.intro (fun hc => ?_) (fun hc => ?_) | fail
  exact hQ.out _ _ (fv) (by exact exY)
theorem getD_bd4 {l : List Int} (hl : l.length = 4) (hb : ∀ x ∈ l, 0 ≤ x ∧ x ≤ 3) (j : Nat) : 0 ≤ l.getD j 0 ∧ l.getD j 0 ≤ 3 := by
  by_cases hj : j < l.length
  · have := hb _ (List.getElem_mem hj); simpa [hj] using this
  · simp [List.getD_eq_getElem?_getD, List.getElem?_eq_none (Nat.le_of_not_lt hj)]
set_option maxHeartbeats 1000000 in
theorem indexOf_z (l : List Int) (hl : l.length = 4) (hb : ∀ x ∈ l, 0 ≤ x ∧ x ≤ 3) : ZCalls Tryz.prog 141 [.agg (ints l).toArray] (I (ixs l 4)) := by
  have hbd := getD_bd4 hl hb
  refine ZCalls.body Tryz.func141 rfl Tryz.ntmps141 (rs := [.tmp 2]) rfl (by simp) rfl fun H Q hQ A hA => ?_
  have a0 := hA 0 _ _ rfl
  clear hA
  repeat' first | refine rnY ?_ | with_reducible refine And.intro (fun hc => ?_) (fun hc => ?_) | fail
  refine AWp.cut (fun Ac hAc => ?_)
  have c1 := gtY (t := 1) hAc
  have c9 := gtY (t := 9) hAc
  have c10 := gtY (t := 10) hAc
  have c3 := gtY (t := 3) hAc
  have c11 := gtY (t := 11) hAc
  clear a0
  refine AWp.loop (fun A' H' => ∃ (k : Nat), Ag [4, 5, 6, 8, 12, 13, 14, 15, 16, 17, 18, 19, 20, 21, 22, 23, 24, 25, 26, 27, 28, 29, 30, 31, 32, 33, 34, 35, 36, 37, 38, 39] A' (put (put Ac (some 3) (I (ixs l k))) (some 11) (I k)) ∧ k ≤ 4 ∧ Ext H H') (fun A' _ => 4 - (intV (A' 11)).toNat) ?_ ?_
  · have e0 : ixs l 0 = 0 := rfl
    exact ⟨0, agY, by omega, by exact exY⟩
  · rintro A1 H1 ⟨k, hA, hk, hx⟩
    have d1 := gdY (t := 1) hA
    have d3 := gdY (t := 3) hA
    have d9 := gdY (t := 9) hA
    have d10 := gdY (t := 10) hA
    have d11 := gdY (t := 11) hA
    by_cases hlt : k < 4
    · have hbk : ([.int .i64 6, .int .i64 2, .int .i64 1, .int .i64 1] : List Value)[k]? = some (I (bl k)) := by
        have : k = 0 ∨ k = 1 ∨ k = 2 ∨ k = 3 := by omega
        rcases this with rfl | rfl | rfl | rfl <;> rfl
      have hbl : 0 < bl k ∧ bl k ≤ 6 := by
        have : k = 0 ∨ k = 1 ∨ k = 2 ∨ k = 3 := by omega
        rcases this with rfl | rfl | rfl | rfl <;> simp [bl]
      repeat' first | refine rnY ?_ | with_reducible refine And.intro (fun hc => ?_) (fun hc => ?_) | fail
      refine AWp.cut (fun Ae hAe => ?_)
      have e1 := gtY (t := 1) hAe
      have e3 := gtY (t := 3) hAe
      have e4 := gtY (t := 4) hAe
      have e5 := gtY (t := 5) hAe
      have e9 := gtY (t := 9) hAe
      have e10 := gtY (t := 10) hAe
      have e11 := gtY (t := 11) hAe
      have e20 := gtY (t := 20) hAe
      have e21 := gtY (t := 21) hAe
      have e6 := gtY (t := 6) hAe
      have e22 := gtY (t := 22) hAe
      refine AWp.loop (fun A' H' => ∃ (j : Nat), Ag [8, 23, 24, 25, 26, 27, 28, 29, 30, 31, 32, 33] A' (put (put Ae (some 6) (I (l.getD k 0 - cnt l (l.getD k 0) j))) (some 22) (I j)) ∧ j ≤ k ∧ Ext H H') (fun A' _ => k - (intV (A' 22)).toNat) ?_ ?_
      · have e0 : cnt l (l.getD k 0) 0 = 0 := by simp [cnt]
        exact ⟨0, agY, by omega, by exact exY⟩
      · clear hx
        rintro A2 H2 ⟨j, hB, hj, hx⟩
        have f1 := gdY (t := 1) hB
        have f3 := gdY (t := 3) hB
        have f4 := gdY (t := 4) hB
        have f5 := gdY (t := 5) hB
        have f6 := gdY (t := 6) hB
        have f9 := gdY (t := 9) hB
        have f10 := gdY (t := 10) hB
        have f11 := gdY (t := 11) hB
        have f20 := gdY (t := 20) hB
        have f21 := gdY (t := 21) hB
        have f22 := gdY (t := 22) hB
        have hB1 := hbd j
        have hB2 := hbd k
        have hcb := cnt_bd l (l.getD k 0) j
        by_cases hjk : j < k
        · have hcs := cnt_succ l (l.getD k 0) j (by omega)
          have hlk : (ints (List.take k l))[j]? = some (I (l.getD j 0)) := by simp [ints, hjk, show j < l.length by omega]
          by_cases hless : l.getD j 0 < l.getD k 0
          · rw [if_pos hless] at hcs
            repeat' first | refine rnY ?_ | with_reducible refine And.intro (fun hc => ?_) (fun hc => ?_) | fail
            exact ⟨⟨j + 1, agY, by omega, by exact exY⟩, by exact ivY⟩
          · rw [if_neg hless] at hcs
            repeat' first | refine rnY ?_ | with_reducible refine And.intro (fun hc => ?_) (fun hc => ?_) | fail
            exact ⟨⟨j + 1, agY, by omega, by exact exY⟩, by exact ivY⟩
        · obtain rfl : j = k := by omega
          have hib : -100 ≤ ixs l j ∧ ixs l j ≤ 100 := by
            obtain ⟨y0, y1, y2, y3, rfl⟩ := four hl
            exact ixs_bd y0 y1 y2 y3 (hb _ (by simp)) (hb _ (by simp)) (hb _ (by simp)) (hb _ (by simp)) j hk
          have hib1 : -100 ≤ ixs l (j + 1) ∧ ixs l (j + 1) ≤ 100 := by
            obtain ⟨y0, y1, y2, y3, rfl⟩ := four hl
            exact ixs_bd y0 y1 y2 y3 (hb _ (by simp)) (hb _ (by simp)) (hb _ (by simp)) (hb _ (by simp)) (j + 1) (by omega)
          have hix : ixs l (j + 1) = ixs l j + (l.getD j 0 - cnt l (l.getD j 0) j) * bl j := rfl
          generalize hw : (l.getD j 0 - cnt l (l.getD j 0) j) * bl j = w at hix
          repeat' first | refine rnY ?_ | with_reducible refine And.intro (fun hc => ?_) (fun hc => ?_) | fail
          exact ⟨⟨j + 1, agY, by omega, by exact exY⟩, by exact ivY⟩
    · obtain rfl : k = 4 := by omega
      repeat' first | refine rnY ?_ | with_reducible refine And.intro (fun hc => ?_) (fun hc => ?_) | fail
      exact hQ.out _ _ (fv) (by exact exY)
set_option maxHeartbeats 1000000 in
theorem invert_z (p : Int) (h0 : 0 ≤ p) (h1 : p < 24) : ZCalls Tryz.prog 140 [I p] (I (invL p)) := by
  obtain ⟨hl, hbd⟩ := pmL_bd p h0 h1
  have hil := ivs_len (pmL p)
  have hib := ivs_bd (pmL p)
  refine ZCalls.body Tryz.func140 rfl Tryz.ntmps140 (rs := [.tmp 2]) rfl (by simp) rfl fun H Q hQ A hA => ?_
  have a0 := hA 0 _ _ rfl
  clear hA
  repeat' first | refine rnY ?_ | (first | refine ZCalls.to (perm_z _ h0 h1) ?_ | refine ZCalls.tf (perm_z _ h0 h1) ?_) | with_reducible refine And.intro (fun hc => ?_) (fun hc => ?_) | fail
  refine AWp.cut (fun Ac hAc => ?_)
  have c3 := gtY (t := 3) hAc
  have c7 := gtY (t := 7) hAc
  have c8 := gtY (t := 8) hAc
  clear a0
  refine AWp.loop (fun A' H' => ∃ (k : Nat), Ag [4, 5, 9, 10, 11, 12, 13, 14, 15] A' (put Ac (some 8) (I k)) ∧ k ≤ 4 ∧ Ext (H.push (.cells (ints (ivs (pmL p) k)) 1 false)) H') (fun A' _ => 4 - (intV (A' 8)).toNat) ?_ ?_
  · exact ⟨0, agY, by omega, by exact exY⟩
  · rintro A1 H1 ⟨k, hA, hk, hx⟩
    have d3 := gdY (t := 3) hA
    have d7 := gdY (t := 7) hA
    have d8 := gdY (t := 8) hA
    have hxg := hx.get; have hxs := hx.size; (try simp only [nx] at hxs)
    have hlk := hil k
    by_cases hlt : k < 4
    · have hw := getD_bd4 hl hbd k
      obtain ⟨q, hq⟩ : ∃ q : Nat, (pmL p).getD k 0 = (q : Int) := ⟨((pmL p).getD k 0).toNat, by omega⟩
      have hstep : ivs (pmL p) (k + 1) = (ivs (pmL p) k).set ((pmL p).getD k 0).toNat k := rfl
      rw [hq] at hstep
      clear hil hib
      repeat' first | refine rnY ?_ | with_reducible refine And.intro (fun hc => ?_) (fun hc => ?_) | fail
      exact ⟨⟨k + 1, agY, by omega, by exact exY⟩, by exact ivY⟩
    · obtain rfl : k = 4 := by omega
      have hi4 := hib 4 (by omega)
      clear hil hib
      repeat' first | refine rnY ?_ | (first | refine ZCalls.to (indexOf_z (ivs (pmL p) 4) hlk hi4) ?_ | refine ZCalls.tf (indexOf_z (ivs (pmL p) 4) hlk hi4) ?_) | with_reducible refine And.intro (fun hc => ?_) (fun hc => ?_) | fail
      exact hQ.out _ _ (fv) (by exact exY)
theorem partner_z (t p f : Int) (h0 : 0 ≤ p) (h1 : p < 24) : ZCalls Tryz.prog 137 [.agg #[I t, I p], I f] (.agg #[I f, I (invL p)]) := by
  refine ZCalls.body Tryz.func137 rfl Tryz.ntmps137 (rs := [.cell 4 80]) rfl (by simp) rfl fun H Q hQ A hA => ?_
  have a0 := hA 0 _ _ rfl
  have a1 := hA 1 _ _ rfl
  clear hA
  repeat' first | refine rnY ?_ | (first | refine ZCalls.to (invert_z _ h0 h1) ?_ | refine ZCalls.tf (invert_z _ h0 h1) ?_) | with_reducible refine And.intro (fun hc => ?_) (fun hc => ?_) | fail
  exact hQ.out _ _ (.cl (Cl.agg (l := [_, _]) (Cl.cons (Cl.int _ _) (Cl.cons (Cl.int _ _) Cl.nil)))) (by exact exY)
end Go.Proofs.YtmoknllbpjpkmaaGreat.Zed
namespace Go.Proofs.YtmoknllbpjpkmaaGreat.Zed
open Go TP
set_option linter.unusedVariables false
set_option linter.unusedSimpArgs false
set_option maxRecDepth 20000
namespace tfW4
theorem tf : (Tryz.prog.underlying 29 = some (.slice 61)) ∧ (el Tryz.prog 29 = some (none, 1)) ∧ (Tryz.prog.underlying 61 = some (.slice 80)) ∧ (el Tryz.prog 61 = some (none, 2)) ∧ (tk Tryz.prog 2 = some none) ∧ (tk Tryz.prog 29 = some none) ∧ (tk Tryz.prog 31 = some (some 1)) ∧ (tk Tryz.prog 61 = some none) ∧ (tk Tryz.prog 80 = some (some 2)) ∧ (cz Tryz.prog 61 = some 1) ∧ (bz Tryz.prog 61 = some 24) ∧ (cz Tryz.prog 80 = some 2) ∧ (bz Tryz.prog 80 = some 16) ∧ (zr Tryz.prog 61 = some (.slice none 0 0)) ∧ (zr Tryz.prog 80 = some (.agg #[.int .i64 0, .int .i64 0])) ∧ (fo Tryz.prog 31 0 = some (0, none)) ∧ (fo Tryz.prog 80 0 = some (0, none)) ∧ (fo Tryz.prog 80 1 = some (1, none)) ∧ (i2 Tryz.prog 80 = true) := by
  refine ⟨?_, ?_, ?_, ?_, ?_, ?_, ?_, ?_, ?_, ?_, ?_, ?_, ?_, ?_, ?_, ?_, ?_, ?_, ?_⟩ <;> kernel_rfl
end tfW4
open tfW4

def fc (T : List (List (Int × Int))) (a f : Nat) : Int × Int := (T.getD a []).getD f (0, 0)
def gd (T : List (List (Int × Int))) (a f : Nat) : Prop :=
  if (fc T a f).1 = -1 then (fc T a f).2 = 0 else (0 ≤ (fc T a f).1 ∧ (fc T a f).1 ≤ (T.length : Int) - 1) ∧ (0 ≤ (fc T a f).2 ∧ (fc T a f).2 ≤ 23) ∧
    fc T (fc T a f).1.toNat (pm (fc T a f).2 f).toNat = ((a : Int), invL (fc T a f).2) ∧ (¬ (fc T a f).1 = (a : Int) ∨ ¬ pm (fc T a f).2 f = (f : Int))
theorem gd_def (T : List (List (Int × Int))) (a f : Nat) : gd T a f = if (fc T a f).1 = -1 then (fc T a f).2 = 0 else (0 ≤ (fc T a f).1 ∧ (fc T a f).1 ≤ (T.length : Int) - 1) ∧ (0 ≤ (fc T a f).2 ∧ (fc T a f).2 ≤ 23) ∧
    fc T (fc T a f).1.toNat (pm (fc T a f).2 f).toNat = ((a : Int), invL (fc T a f).2) ∧ (¬ (fc T a f).1 = (a : Int) ∨ ¬ pm (fc T a f).2 f = (f : Int)) := rfl
instance (T : List (List (Int × Int))) (a f : Nat) : Decidable (gd T a f) := by unfold gd; infer_instance
set_option maxHeartbeats 2000000 in
theorem isGood_z {T : List (List (Int × Int))} (h8 : T.length ≤ 8) (h4 : ∀ a, a < T.length → (T.getD a []).length = 4) {a f : Nat} (ha : a < T.length) (hf : f < 4) : ZCalls Tryz.prog 126 [zT T, I a, I f] (B (decide (gd T a f))) := by
  refine ZCalls.body Tryz.func126 rfl Tryz.ntmps126 (rs := [.tmp 6]) rfl (by simp) rfl fun H Q hQ A hA => ?_
  have a0 := hA 0 _ _ rfl
  have a1 := hA 1 _ _ rfl
  have a2 := hA 2 _ _ rfl
  clear hA
  have hgd := gd_def T a f
  have h4a := h4 a ha
  obtain ⟨t, p, hx⟩ : ∃ t p, (T.getD a []).getD f (0, 0) = (t, p) := ⟨_, _, rfl⟩
  have hx' : fc T a f = (t, p) := hx
  rw [hx'] at hgd
  dsimp only at hgd
  by_cases h1 : t = -1
  · rw [if_pos h1] at hgd
    repeat' first | refine rnY ?_ | with_reducible refine And.intro (fun hc => ?_) (fun hc => ?_) | fail
    exact hQ.out _ _ (.eq (Cl.bool _) (by simp only [hgd]; by_cases hp : p = 0 <;> simp [hp])) (by exact exY)
  · rw [if_neg h1] at hgd
    have h1b : ¬ (t == -1) = true := by simpa using h1
    by_cases h2 : 0 ≤ t ∧ t ≤ (T.length : Int) - 1
    · obtain ⟨tn, rfl⟩ : ∃ tn : Nat, t = tn := ⟨t.toNat, by omega⟩
      have hz1 : decide (0 ≤ (tn : Int) ∧ (tn : Int) ≤ (T.length : Int) - 1) = true := by simpa using h2
      by_cases h3 : 0 ≤ p ∧ p ≤ 23
      · have hz2 : decide (0 ≤ p ∧ p ≤ 23) = true := by simpa using h3
        have hq := pm_bd p f h3.1 (by omega) (by omega) (by omega)
        obtain ⟨q, hq'⟩ : ∃ q : Nat, pm p f = (q : Int) := ⟨(pm p f).toNat, by omega⟩
        have h4t := h4 tn (by omega)
        obtain ⟨y1, y2, hy⟩ : ∃ y1 y2, (T.getD tn []).getD q (0, 0) = (y1, y2) := ⟨_, _, rfl⟩
        have hy' : fc T tn q = (y1, y2) := hy
        rw [hq'] at hgd hq
        simp only [Int.toNat_natCast, hy', h2, h3, and_self, true_and] at hgd
        have hfin : gd T a f ↔ ((y1 == (a : Int) && y2 == invL p) && (!((tn : Int) == (a : Int)) || !((q : Int) == (f : Int)))) = true := by
          rw [hgd]; simp [Prod.ext_iff, and_assoc]
        clear hgd
        repeat' first | refine rnY ?_ | (first | refine ZCalls.to (hasIndex_z _ _ _ _ (by omega)) ?_ | refine ZCalls.tf (hasIndex_z _ _ _ _ (by omega)) ?_) | (first | refine ZCalls.to (isPerm_z _) ?_ | refine ZCalls.tf (isPerm_z _) ?_) | (first | refine ZCalls.to (target_z _ _ _ h3.1 (by omega) (by omega) (by omega)) ?_ | refine ZCalls.tf (target_z _ _ _ h3.1 (by omega) (by omega) (by omega)) ?_) | with_reducible refine And.intro (fun hc => ?_) (fun hc => ?_) | fail
        rcases hc12 : (y1 == (a : Int) && y2 == invL p) with _ | _
        · refine AWp.zreg [(0, none), (1, none), (2, none), (3, none), (4, none), (5, none), (6, none), (7, none), (8, none), (9, none), (10, none), (11, none), (12, none), (13, none), (14, none), (15, none), (16, none), (17, none), (18, none), (19, none), (20, none), (21, none), (22, none), (23, none), (24, none)] mixed (by kernel_rfl) ?_
          repeat' first | refine rzY ?_ | (first | refine ZCalls.to (partner_z _ _ _ h3.1 (by omega)) ?_ | refine ZCalls.tf (partner_z _ _ _ h3.1 (by omega)) ?_) | fail
          repeat' first | refine rnY ?_ | with_reducible refine And.intro (fun hc => ?_) (fun hc => ?_) | fail
          exact hQ.out _ _ (.eq (Cl.bool _) (by rw [decide_eq_false (by rw [hfin, hc12]; simp)])) (by exact exY)
        · rcases hc3b : ((tn : Int) == (a : Int)) with _ | _
          · refine AWp.zreg [(0, none), (1, none), (2, none), (3, none), (4, none), (5, none), (6, none), (7, none), (8, none), (9, none), (10, none), (11, none), (12, none), (13, none), (14, none), (15, none), (16, none), (17, none), (18, none), (19, none), (20, none), (21, none), (22, none), (23, none), (24, none)] mixed (by kernel_rfl) ?_
            repeat' first | refine rzY ?_ | (first | refine ZCalls.to (partner_z _ _ _ h3.1 (by omega)) ?_ | refine ZCalls.tf (partner_z _ _ _ h3.1 (by omega)) ?_) | fail
            repeat' first | refine rnY ?_ | with_reducible refine And.intro (fun hc => ?_) (fun hc => ?_) | fail
            exact hQ.out _ _ (.eq (Cl.bool _) (by rw [decide_eq_true (by rw [hfin, hc12, hc3b]; simp)])) (by exact exY)
          · refine AWp.zreg [(0, none), (1, none), (2, none), (3, none), (4, none), (5, none), (6, none), (7, none), (8, none), (9, none), (10, none), (11, none), (12, none), (13, none), (14, none), (15, none), (16, none), (17, none), (18, none), (19, none), (20, none), (21, none), (22, none), (23, none), (24, none)] mixed (by kernel_rfl) ?_
            repeat' first | refine rzY ?_ | (first | refine ZCalls.to (partner_z _ _ _ h3.1 (by omega)) ?_ | refine ZCalls.tf (partner_z _ _ _ h3.1 (by omega)) ?_) | fail
            repeat' first | refine rnY ?_ | with_reducible refine And.intro (fun hc => ?_) (fun hc => ?_) | fail
            refine hQ.out _ _ (.eq (Cl.bool _) ?_) (by exact exY)
            rcases hc4b : ((q : Int) == (f : Int)) with _ | _
            · rw [decide_eq_true (by rw [hfin, hc12, hc3b, hc4b]; simp)]; rfl
            · rw [decide_eq_false (by rw [hfin, hc12, hc3b, hc4b]; simp)]; rfl
      · have hz2 : decide (0 ≤ p ∧ p ≤ 23) = false := by simpa using h3
        have hfin : ¬ gd T a f := by rw [hgd]; exact fun h => h3 h.2.1
        clear hgd
        repeat' first | refine rnY ?_ | (first | refine ZCalls.to (hasIndex_z _ _ _ _ (by omega)) ?_ | refine ZCalls.tf (hasIndex_z _ _ _ _ (by omega)) ?_) | (first | refine ZCalls.to (isPerm_z _) ?_ | refine ZCalls.tf (isPerm_z _) ?_) | with_reducible refine And.intro (fun hc => ?_) (fun hc => ?_) | fail
        exact hQ.out _ _ (.eq (Cl.bool _) (by rw [decide_eq_false hfin])) (by exact exY)
    · have hz1 : decide (0 ≤ t ∧ t ≤ (T.length : Int) - 1) = false := by simpa using h2
      have hfin : ¬ gd T a f := by rw [hgd]; exact fun h => h2 h.1
      clear hgd
      repeat' first | refine rnY ?_ | (first | refine ZCalls.to (hasIndex_z _ _ _ _ (by omega)) ?_ | refine ZCalls.tf (hasIndex_z _ _ _ _ (by omega)) ?_) | (first | refine ZCalls.to (isPerm_z _) ?_ | refine ZCalls.tf (isPerm_z _) ?_) | with_reducible refine And.intro (fun hc => ?_) (fun hc => ?_) | fail
      exact hQ.out _ _ (.eq (Cl.bool _) (by rw [decide_eq_false hfin])) (by exact exY)
theorem four_z (n es : Nat) (cs : List Value) : ZCalls Tryz.prog 125 [FZ es n cs] (B (!((n : Int) == 4))) := by
  refine ZCalls.body Tryz.func125 rfl Tryz.ntmps125 (rs := [.tmp 2]) rfl (by simp) rfl fun H Q hQ A hA => ?_
  have a0 := hA 0 _ _ rfl
  clear hA
  repeat' first | refine rnY ?_ | with_reducible refine And.intro (fun hc => ?_) (fun hc => ?_) | fail
  exact hQ.out _ _ (fv) (by exact exY)
/-- The first place where p holds; -1: none. -/
def fidx {α : Type} (p : α → Bool) (l : List α) : Int := match l.findIdx? p with
  | some i => i
  | none => -1
theorem fidx_at {α : Type} {p : α → Bool} {l : List α} (d : α) {j : Nat} (h : ∀ i, i < j → p (l.getD i d) = false) (hj : j < l.length) (hp : p (l.getD j d) = true) : fidx p l = j := by
  have e : l.findIdx? p = some j := by
    rw [List.findIdx?_eq_some_iff_getElem]
    refine ⟨hj, by simpa [hj] using hp, fun i hi => ?_⟩
    have := h i hi
    simpa [show i < l.length by omega] using this
  unfold fidx; rw [e]
theorem fidx_no {α : Type} {p : α → Bool} {l : List α} (d : α) (h : ∀ i, i < l.length → p (l.getD i d) = false) : fidx p l = -1 := by
  have e : l.findIdx? p = none := by
    rw [List.findIdx?_eq_none_iff]
    intro x hx
    obtain ⟨i, hi, rfl⟩ := List.getElem_of_mem hx
    have := h i hi
    simpa [hi] using this
  unfold fidx; rw [e]
theorem fidx_ge {α : Type} (p : α → Bool) (l : List α) : decide (fidx p l ≥ 0) = l.any p := by
  unfold fidx
  cases h : l.findIdx? p with
  | none =>
    rw [List.findIdx?_eq_none_iff] at h
    have : l.any p = false := by simpa using h
    rw [this]; rfl
  | some i =>
    rw [List.findIdx?_eq_some_iff_getElem] at h
    obtain ⟨hi, hp, _⟩ := h
    have : l.any p = true := List.any_eq_true.2 ⟨_, List.getElem_mem hi, hp⟩
    rw [this]; simp
set_option maxHeartbeats 1000000 in
theorem indexFF_z {T : List (List (Int × Int))} {F : FuncId} {xs : Array Value} {pr : List (Int × Int) → Bool} (hl : T.length ≤ 1048576) (hF : ∀ a, a < T.length → ZCalls Tryz.prog F ([zP (T.getD a [])] ++ xs.toList) (B (pr (T.getD a [])))) :
    ZCalls Tryz.prog 133 [zL zP T, .func (.func F) #[] xs] (I (fidx pr T)) := by
  refine ZCalls.body Tryz.func133 rfl Tryz.ntmps133 (rs := [.tmp 4]) rfl (by simp) rfl fun H Q hQ A hA => ?_
  have a0 := hA 0 _ _ rfl
  have a1 := hA 1 _ _ rfl
  clear hA
  repeat' first | refine rnY ?_ | with_reducible refine And.intro (fun hc => ?_) (fun hc => ?_) | fail
  refine AWp.cut (fun Ac hAc => ?_)
  have c0 := gtY (t := 0) hAc
  have c1 := gtY (t := 1) hAc
  have c7 := gtY (t := 7) hAc
  have c8 := gtY (t := 8) hAc
  clear a0 a1
  refine AWp.loop (fun A' H' => ∃ (k : Nat), Ag [5, 9, 10, 11, 12, 13, 14, 15, 16, 17, 18] A' (put Ac (some 8) (I k)) ∧ k ≤ T.length ∧ (∀ i, i < k → pr (T.getD i []) = false) ∧ Ext H H') (fun A' _ => T.length - (intV (A' 8)).toNat) ?_ ?_
  · exact ⟨0, agY, by omega, fun i hi => by omega, by exact exY⟩
  · rintro A1 H1 ⟨k, hA, hk, hno, hx⟩
    have d0 := gdY (t := 0) hA
    have d1 := gdY (t := 1) hA
    have d7 := gdY (t := 7) hA
    have d8 := gdY (t := 8) hA
    by_cases hlt : k < T.length
    · cases hp : pr (T.getD k [])
      · repeat' first | refine rnY ?_ | (first | refine ZCalls.to (hF k hlt) ?_ | refine ZCalls.tf (hF k hlt) ?_) | with_reducible refine And.intro (fun hc => ?_) (fun hc => ?_) | fail
        exact ⟨⟨k + 1, agY, by omega, all_succ hno hp, by exact exY⟩, by exact ivY⟩
      · repeat' first | refine rnY ?_ | (first | refine ZCalls.to (hF k hlt) ?_ | refine ZCalls.tf (hF k hlt) ?_) | with_reducible refine And.intro (fun hc => ?_) (fun hc => ?_) | fail
        exact hQ.out _ _ (.eq (Cl.int _ _) (by rw [fidx_at [] hno hlt hp])) (by exact exY)
    · obtain rfl : k = T.length := by omega
      repeat' first | refine rnY ?_ | with_reducible refine And.intro (fun hc => ?_) (fun hc => ?_) | fail
      exact hQ.out _ _ (.eq (Cl.int _ _) (by rw [fidx_no [] hno])) (by exact exY)
theorem containsFF_z {T : List (List (Int × Int))} {F : FuncId} {xs : Array Value} {pr : List (Int × Int) → Bool} (hl : T.length ≤ 1048576) (hF : ∀ a, a < T.length → ZCalls Tryz.prog F ([zP (T.getD a [])] ++ xs.toList) (B (pr (T.getD a [])))) :
    ZCalls Tryz.prog 124 [zL zP T, .func (.func F) #[] xs] (B (T.any pr)) := by
  refine ZCalls.body Tryz.func124 rfl Tryz.ntmps124 (rs := [.tmp 4]) rfl (by simp) rfl fun H Q hQ A hA => ?_
  have a0 := hA 0 _ _ rfl
  have a1 := hA 1 _ _ rfl
  clear hA
  repeat' first | refine rnY ?_ | (first | refine ZCalls.to (indexFF_z hl hF) ?_ | refine ZCalls.tf (indexFF_z hl hF) ?_) | with_reducible refine And.intro (fun hc => ?_) (fun hc => ?_) | fail
  exact hQ.out _ _ (.eq (Cl.bool _) (by rw [fidx_ge])) (by exact exY)
/-- Is T a triangulation? -/
def IsTri (T : List (List (Int × Int))) : Prop := T.length ≤ 8 ∧ (∀ a, a < T.length → (T.getD a []).length = 4) ∧ ∀ a, a < T.length → ∀ f, f < 4 → gd T a f
instance (T : List (List (Int × Int))) : Decidable (IsTri T) := by unfold IsTri; infer_instance
set_option maxHeartbeats 2000000 in
theorem isTriangulation_z {T : List (List (Int × Int))} (hl : T.length ≤ 1048576) : ZCalls Tryz.prog 111 [zT T] (B (decide (IsTri T))) := by
  refine ZCalls.body Tryz.func111 rfl Tryz.ntmps111 (rs := [.tmp 2]) rfl (by simp) rfl fun H Q hQ A hA => ?_
  have a0 := hA 0 _ _ rfl
  clear hA
  have hany : (T.any fun r => !((r.length : Int) == 4)) = false ↔ ∀ a, a < T.length → (T.getD a []).length = 4 := by
    rw [List.any_eq_false]
    refine ⟨fun h a ha => ?_, fun h x hx => ?_⟩
    · have := h _ (List.getElem_mem ha)
      simp only [Bool.not_eq_true', beq_eq_false_iff_ne, ne_eq, Classical.not_not] at this
      have e : (T.getD a []) = T[a] := by simp [ha]
      rw [e]; omega
    · obtain ⟨i, hi, rfl⟩ := List.getElem_of_mem hx
      have := h i hi
      have e : (T.getD i []) = T[i] := by simp [hi]
      rw [e] at this
      simp [this]
  by_cases h8 : T.length ≤ 8
  · have h8b : ¬ (T.length : Int) > 8 := by omega
    cases h4 : (T.any fun r => !((r.length : Int) == 4))
    · have h4' := hany.1 h4
      repeat' first | refine rnY ?_ | (first | refine ZCalls.to (containsFF_z (pr := fun r => !((r.length : Int) == 4)) hl (fun a _ => four_z _ _ _)) ?_ | refine ZCalls.tf (containsFF_z (pr := fun r => !((r.length : Int) == 4)) hl (fun a _ => four_z _ _ _)) ?_) | (first | refine ZCalls.to (size_z _ _ _) ?_ | refine ZCalls.tf (size_z _ _ _) ?_) | with_reducible refine And.intro (fun hc => ?_) (fun hc => ?_) | fail
      refine AWp.cut (fun Ac hAc => ?_)
      have c1 := gtY (t := 1) hAc
      have c16 := gtY (t := 16) hAc
      have c17 := gtY (t := 17) hAc
      clear a0
      refine AWp.loop (fun A' H' => ∃ (a : Nat), Ag [3, 4, 18, 19, 20, 21, 22, 23, 24, 25, 26, 27, 28, 29] A' (put Ac (some 17) (I a)) ∧ a ≤ T.length ∧ (∀ i, i < a → ∀ f, f < 4 → gd T i f) ∧ Ext H H') (fun A' _ => T.length - (intV (A' 17)).toNat) ?_ ?_
      · exact ⟨0, agY, by omega, fun i hi => by omega, by exact exY⟩
      · rintro A1 H1 ⟨a, hA, ha, hall, hx⟩
        have d1 := gdY (t := 1) hA
        have d16 := gdY (t := 16) hA
        have d17 := gdY (t := 17) hA
        by_cases hlt : a < T.length
        · repeat' first | refine rnY ?_ | with_reducible refine And.intro (fun hc => ?_) (fun hc => ?_) | fail
          refine AWp.cut (fun Am hAm => ?_)
          have m1 := gtY (t := 1) hAm
          have m3 := gtY (t := 3) hAm
          have m16 := gtY (t := 16) hAm
          have m17 := gtY (t := 17) hAm
          have m20 := gtY (t := 20) hAm
          refine AWp.loop (fun A' H' => ∃ (f : Nat), Ag [4, 21, 22, 23, 24, 25, 26, 27, 28] A' (put Am (some 20) (I f)) ∧ f ≤ 4 ∧ (∀ i, i < f → gd T a i) ∧ Ext H H') (fun A' _ => 4 - (intV (A' 20)).toNat) ?_ ?_
          · exact ⟨0, agY, by omega, fun i hi => by omega, by exact exY⟩
          · clear hx
            rintro A2 H2 ⟨f, hB, hf, hfs, hx⟩
            have f1 := gdY (t := 1) hB
            have f3 := gdY (t := 3) hB
            have f16 := gdY (t := 16) hB
            have f17 := gdY (t := 17) hB
            have f20 := gdY (t := 20) hB
            by_cases hff : f < 4
            · by_cases hg : gd T a f
              · have hgb : decide (gd T a f) = true := decide_eq_true hg
                repeat' first | refine rnY ?_ | (first | refine ZCalls.to (isGood_z h8 h4' hlt hff) ?_ | refine ZCalls.tf (isGood_z h8 h4' hlt hff) ?_) | with_reducible refine And.intro (fun hc => ?_) (fun hc => ?_) | fail
                exact ⟨⟨f + 1, agY, by omega, all_succ hfs hg, by exact exY⟩, by exact ivY⟩
              · have hgb : decide (gd T a f) = false := decide_eq_false hg
                repeat' first | refine rnY ?_ | (first | refine ZCalls.to (isGood_z h8 h4' hlt hff) ?_ | refine ZCalls.tf (isGood_z h8 h4' hlt hff) ?_) | with_reducible refine And.intro (fun hc => ?_) (fun hc => ?_) | fail
                exact hQ.out _ _ (.eq (Cl.bool _) (by rw [decide_eq_false fun h => hg (h.2.2 a hlt f hff)])) (by exact exY)
            · obtain rfl : f = 4 := by omega
              repeat' first | refine rnY ?_ | with_reducible refine And.intro (fun hc => ?_) (fun hc => ?_) | fail
              exact ⟨⟨a + 1, agY, by omega, all_succ hall hfs, by exact exY⟩, by exact ivY⟩
        · obtain rfl : a = T.length := by omega
          repeat' first | refine rnY ?_ | with_reducible refine And.intro (fun hc => ?_) (fun hc => ?_) | fail
          exact hQ.out _ _ (.eq (Cl.bool _) (by rw [decide_eq_true ⟨h8, h4', hall⟩])) (by exact exY)
    · repeat' first | refine rnY ?_ | (first | refine ZCalls.to (containsFF_z (pr := fun r => !((r.length : Int) == 4)) hl (fun a _ => four_z _ _ _)) ?_ | refine ZCalls.tf (containsFF_z (pr := fun r => !((r.length : Int) == 4)) hl (fun a _ => four_z _ _ _)) ?_) | with_reducible refine And.intro (fun hc => ?_) (fun hc => ?_) | fail
      exact hQ.out _ _ (.eq (Cl.bool _) (by rw [decide_eq_false fun h => by rw [hany.2 h.2.1] at h4; cases h4])) (by exact exY)
  · have h8b : (T.length : Int) > 8 := by omega
    repeat' first | refine rnY ?_ | with_reducible refine And.intro (fun hc => ?_) (fun hc => ?_) | fail
    exact hQ.out _ _ (.eq (Cl.bool _) (by rw [decide_eq_false fun h => h8 h.1])) (by exact exY)
end Go.Proofs.YtmoknllbpjpkmaaGreat.Zed
namespace Go.Proofs.YtmoknllbpjpkmaaGreat.Zed
open Go TP
set_option linter.unusedVariables false
set_option linter.unusedSimpArgs false
set_option maxRecDepth 20000
namespace tfW5
theorem tf : (Tryz.prog.underlying 25 = some (.slice 2)) ∧ (el Tryz.prog 25 = some (none, 1)) ∧ (tk Tryz.prog 2 = some none) ∧ (cz Tryz.prog 2 = some 1) ∧ (bz Tryz.prog 2 = some 8) ∧ (zr Tryz.prog 2 = some (.int .i64 0)) := by
  refine ⟨?_, ?_, ?_, ?_, ?_, ?_⟩ <;> kernel_rfl
end tfW5
open tfW5

set_option maxHeartbeats 2000000 in
theorem edge_z (a b : Int) (ha0 : 0 ≤ a) (ha1 : a < 4) (hb0 : 0 ≤ b) (hb1 : b < 4) (hab : a ≠ b) : ZCalls Tryz.prog 105 [I a, I b] (I (edgeN a b)) := by
  have ha : a = 0 ∨ a = 1 ∨ a = 2 ∨ a = 3 := by omega
  have hb : b = 0 ∨ b = 1 ∨ b = 2 ∨ b = 3 := by omega
  rcases ha with rfl | rfl | rfl | rfl <;> rcases hb with rfl | rfl | rfl | rfl
  all_goals first | exact absurd rfl hab | skip
  all_goals
    refine ZCalls.body Tryz.func105 rfl Tryz.ntmps105 (rs := [.tmp 4]) rfl (by simp) rfl fun H Q hQ A hA => ?_
    have a0 := hA 0 _ _ rfl
    have a1 := hA 1 _ _ rfl
    clear hA
    repeat' first | refine rnY ?_ | with_reducible refine And.intro (fun hc => ?_) (fun hc => ?_) | fail
    exact hQ.out _ _ (.eq (Cl.int _ _) (by rfl)) (by exact exY)
set_option maxHeartbeats 1000000 in
theorem counting_g (n : Nat) (hn : n ≤ 100000) (H : Heap) : ACalls Tryz.prog 100 [I n] H fun v H' => (∃ tag, v = GZ tag 1 n (ints (cntL n)) ∧ H.size ≤ tag ∧ H'.get tag = .tok n 1) ∧ Ext H H' := by
  refine ACalls.body Tryz.func100 rfl Tryz.ntmps100 (rs := [.tmp 2]) rfl (by simp) rfl fun Q hQ A hA => ?_
  have a0 := hA 0 _ _ rfl
  clear hA
  repeat' first | refine rnY ?_ | with_reducible refine And.intro (fun hc => ?_) (fun hc => ?_) | fail
  refine AWp.grow (t := 3) 1 (by decide) (by exact ivY) ?_
  refine AWp.cut (fun Ac hAc => ?_)
  have c5 := gtY (t := 5) hAc
  have c3 := gtY (t := 3) hAc
  have c6 := gtY (t := 6) hAc
  clear a0
  refine AWp.loop (fun A' H' => ∃ (j : Nat), Ag [4, 7, 8, 9, 10, 11, 12, 13] A' (put (put Ac (some 3) (GZ H.size 1 j (ints (cntL j)))) (some 6) (I j)) ∧ j ≤ n ∧ Ext (H.push (.tok j 1)) H') (fun A' _ => n - (intV (A' 6)).toNat) ?_ ?_
  · have e0 : cntL 0 = [] := rfl
    exact ⟨0, agY, by omega, by exact exY⟩
  · rintro A1 H1 ⟨j, hA, hj, hx⟩
    have d3 := gdY (t := 3) hA
    have d5 := gdY (t := 5) hA
    have d6 := gdY (t := 6) hA
    have hxg := hx.get; have hxs := hx.size; (try simp only [nx] at hxs)
    have hcl := cntL_len j
    have hcs := cntL_succ j
    by_cases hlt : j < n
    · repeat' first | refine rnY ?_ | with_reducible refine And.intro (fun hc => ?_) (fun hc => ?_) | fail
      exact ⟨⟨j + 1, agY, by omega, by exact exY⟩, by exact ivY⟩
    · obtain rfl : j = n := by omega
      repeat' first | refine rnY ?_ | with_reducible refine And.intro (fun hc => ?_) (fun hc => ?_) | fail
      exact hQ.out _ _ ⟨⟨_, rfl, Nat.le_refl _, by exact ivY⟩, by exact exY⟩
theorem counting_o (n : Nat) (hn : n ≤ 100000) (H : Heap) : ACalls Tryz.prog 100 [I n] H (OwnK H 1 n (ints (cntL n))) := .fresh (ints_flat _) (counting_g n hn) H
end Go.Proofs.YtmoknllbpjpkmaaGreat.Zed
namespace Go.Proofs.YtmoknllbpjpkmaaGreat.Zed
open Go TP
set_option linter.unusedVariables false
set_option linter.unusedSimpArgs false
set_option maxRecDepth 100000
namespace tfY3
theorem tf : (Tryz.prog.underlying 25 = some (.slice 2)) ∧ (el Tryz.prog 25 = some (none, 1)) ∧ (tk Tryz.prog 2 = some none) ∧ (tk Tryz.prog 3 = some none) ∧ (tk Tryz.prog 25 = some none) ∧ (cz Tryz.prog 2 = some 1) ∧ (bz Tryz.prog 2 = some 8) ∧ (zr Tryz.prog 2 = some (.int .i64 0)) := by
  refine ⟨?_, ?_, ?_, ?_, ?_, ?_, ?_, ?_⟩ <;> kernel_rfl
end tfY3
open tfY3

/-- The parts of a list. -/
def partL (n : Nat) (v : List Int) (j : Nat) : List Int := (v.drop (n * j)).take n
open Go.RowKit Go.Shelf in
set_option maxHeartbeats 2000000 in
theorem chunk1_in {n cnt L c : Nat} (hn : 0 < n) (hn2 : n ≤ 1000) (hL : L = n * cnt) (hl : L ≤ 1000000) (hc : L ≤ c) (l : Nat) (β1 b1 β2 b2 β base : Nat) (J : Nat → World → Prop) (Jx : World → Prop)
    (hb1 : ∀ j W, J j W → W.cell? ⟨β1, b1, none⟩ = some (.slice (some ⟨β, base, none⟩) L c)) (hb2 : ∀ j W, J j W → W.cell? ⟨β2, b2, none⟩ = some (.int .i64 n))
    (hd : ∀ j W k, J j W → J j { W with drawn := k })
    (hY : ∀ j W, j < cnt → J j W → YieldAt Fence.wide 0 Tryz.prog l #[.slice (some ⟨β, base + n * j, none⟩) n n] W fun e W' => (e = .returned (.bool true) ∧ J (j + 1) W') ∨ (e = .returned (.bool false) ∧ Jx W'))
    (W : World) (h0 : J 0 W) :
    CallsIn Fence.wide 1 Tryz.prog 138 #[.func (.yield l) #[] #[], .pointer (some ⟨β1, b1, none⟩), .pointer (some ⟨β2, b2, none⟩)] W fun e W' => ∃ v, e = .returned v ∧ (J cnt W' ∨ Jx W') := by
  refine callsIn_of_wp Tryz.func138 rfl trivial ?_ rfl
  simp only [Tryz.ntmps138, List.size_toArray, List.length_cons, List.length_nil, Nat.reduceAdd, Nat.reduceSub, Array.replicate_succ, Array.replicate_zero, List.push_toArray, List.append_toArray, List.nil_append, List.cons_append]
  gi_wp2
  gi_loopw [4] (fun i wr => ∃ k : Nat, k ≤ cnt ∧ i = .int .i64 ((n * k : Nat) : Int) ∧ J k wr)
    (fun i _ => L - (intOf i).toNat)
  case atStart => exact ⟨0, Nat.zero_le _, rfl, h0⟩
  case round =>
    obtain ⟨k, hk, rfl, hJs⟩ := hrel
    have c1 := hb1 k wr hJs
    have c2 := hb2 k wr hJs
    by_cases hlt : k < cnt
    · obtain ⟨fn, tmps, assign, body, hy, hR⟩ := hY k wr.drew hlt (hd k wr _ hJs)
      have hm : n * k + n ≤ L := by rw [hL, ← Nat.mul_succ]; exact Nat.mul_le_mul_left n hlt
      have hk1 : n * (k + 1) = n * k + n := Nat.mul_succ n k
      generalize n * k = i at *
      have c3 : wr.drew.cell? ⟨β1, b1, none⟩ = some (.slice (some ⟨β, base, none⟩) L c) := c1
      have c4 : wr.drew.cell? ⟨β2, b2, none⟩ = some (.int .i64 n) := c2
      clear hb1 hY h0
      gi_wp2
      gi_region
      gi_wp2
      refine hR.mono ?_
      rintro e W3 (⟨rfl, hJ3⟩ | ⟨rfl, hJx3⟩)
      · have c5 := hb2 (k + 1) W3 hJ3
        gi_wp2
        go_roundw
        case rel => exact ⟨k + 1, by omega, by rw [hk1]; simp, hJ3⟩
        case measure => simp [intOf]; omega
      · gi_wp2
        refine bodyPost_ret (results_none rfl _ _ _) rfl ?_
        exact ⟨_, rfl, .inr hJx3⟩
    · obtain rfl : k = cnt := by omega
      clear hb1 hb2 hY h0
      gi_wp2
      go_end0
      exact ⟨_, rfl, .inl hJs⟩
theorem chunk_z (v : List Int) (n : Nat) (hn : 0 < n) (hn2 : n ≤ 1000) : ZCalls Tryz.prog 128 [zI v, I n] (.func (.func 138) #[] #[PZ [zI v] 0, PZ [I n] 0]) := by
  intro H
  refine ACalls.body Tryz.func128 rfl Tryz.ntmps128 (rs := [.tmp 4]) rfl (by simp) rfl fun Q hQ A hA => ?_
  have a0 := hA 0 _ _ rfl
  have a1 := hA 1 _ _ rfl
  clear hA
  repeat' first | refine rnY ?_ | with_reducible refine And.intro (fun hc => ?_) (fun hc => ?_) | fail
  exact hQ.out _ _ ⟨rfl, rfl⟩
open Go.RowKit Go.Shelf in
set_option maxHeartbeats 2000000 in
theorem chunk1_nil {n : Nat} (a : Option Addr) (c : Nat) (l : Nat) (β1 b1 β2 b2 : Nat) (J : Nat → World → Prop) (Jx : World → Prop) (W : World)
    (hb1 : W.cell? ⟨β1, b1, none⟩ = some (.slice a 0 c)) (h0 : J 0 W) :
    CallsIn Fence.wide 1 Tryz.prog 138 #[.func (.yield l) #[] #[], .pointer (some ⟨β1, b1, none⟩), .pointer (some ⟨β2, b2, none⟩)] W fun e W' => ∃ v, e = .returned v ∧ (J 0 W' ∨ Jx W') := by
  refine callsIn_of_wp Tryz.func138 rfl trivial ?_ rfl
  simp only [Tryz.ntmps138, List.size_toArray, List.length_cons, List.length_nil, Nat.reduceAdd, Nat.reduceSub, Array.replicate_succ, Array.replicate_zero, List.push_toArray, List.append_toArray, List.nil_append, List.cons_append]
  gi_wp2
  gi_loopw [4] (fun i wr => i = .int .i64 0 ∧ J 0 wr ∧ wr.cell? ⟨β1, b1, none⟩ = some (.slice a 0 c))
    (fun i _ => 0)
  case atStart => exact ⟨rfl, h0, hb1⟩
  case round =>
    obtain ⟨rfl, hJs, c1⟩ := hrel
    gi_wp2
    go_end0
    exact ⟨_, rfl, .inl hJs⟩
/-- The parts as they come. -/
def partsZ (n cnt : Nat) (v : List Int) : List Value := (List.range cnt).map fun j => FZ 1 n (ints (partL n v j))
theorem chunk_iter {v : List Int} {n cnt : Nat} (hn : 0 < n) (hn2 : n ≤ 1000) (hL : v.length = n * cnt) (hl : v.length ≤ 1000000) : IterZ Tryz.prog 138 [PZ [zI v] 0, PZ [I n] 0] (partsZ n cnt v) := by
  refine ⟨fun args w => ?_, ?_⟩
  · have hn' : ¬ Tryz.f138.name = "runtime.NumGoroutine" := by decide
    have hb : ∃ c, Tryz.f138.body = some c := ⟨_, rfl⟩
    obtain ⟨c, hb⟩ := hb
    simp [callFunc, Tryz.func138, hn', hb]
  intro l φ0 has caps' J Jx W hcaps hfz hd hY h0
  obtain ⟨u1, r1, rfl, hu1, hr1⟩ := hcaps.inv_cons
  obtain ⟨u2, r2, rfl, hu2, hr2⟩ := hr1.inv_cons
  obtain rfl : r2 = [] := List.eq_nil_of_length_eq_zero (by simpa using hr2.1.symm)
  obtain ⟨β1, b1, us1, rfl, f1, g1⟩ := hu1.pz_inv
  obtain ⟨β2, b2, us2, rfl, f2, g2⟩ := hu2.pz_inv
  have e2 := (g2 0 _ rfl).int_inv
  have k2 := f2 0 (by simp)
  rw [e2] at k2
  have k1 := f1 0 (by simp)
  obtain ⟨a, c, ea, hcase⟩ := (g1 0 _ rfl).fz_inv
  rw [ea] at k1
  have hlen : (partsZ n cnt v).length = cnt := by simp [partsZ]
  rw [hlen]
  rcases hcase with ⟨hz, _, _⟩ | ⟨β, base, us, rfl, _, _, hc, f3, g3⟩
  · have hcnt : cnt = 0 := by
      rcases Nat.eq_zero_or_pos cnt with h | h
      · exact h
      · have := Nat.mul_pos hn h; omega
    subst hcnt
    rw [hz] at k1
    exact callsIn_wide.1 (chunk1_nil (n := n) a c l β1 (b1 + 0) β2 (b2 + 0) J Jx W (hfz 0 W h0 _ _ _ k1) h0)
  · refine callsIn_wide.1 (chunk1_in hn hn2 hL hl hc l β1 (b1 + 0) β2 (b2 + 0) β base J Jx (fun j W hJ => hfz j W hJ _ _ _ k1) (fun j W hJ => hfz j W hJ _ _ _ k2) hd (fun j W hj hJ => ?_) W h0)
    refine hY j (FZ 1 n (ints (partL n v j))) W _ (by simp [partsZ, hj]) hJ ?_
    have hm : n * j + n ≤ v.length := by rw [hL, ← Nat.mul_succ]; exact Nat.mul_le_mul_left n hj
    have hpl : (partL n v j).length = n := by simp [partL]; omega
    have hpg : ∀ i, i < n → (partL n v j).getD i 0 = v.getD (n * j + i) 0 := fun i hi => by simp [partL, List.getD_eq_getElem?_getD, List.getElem?_take, List.getElem?_drop, hi]
    refine .fz 1 n n β (base + n * j) _ (fun i => us (n * j + i)) (by decide) (by rw [ints_len, hpl]; omega) (Nat.le_refl _) (fun i hi => ?_) (fun i x hx => ?_)
    · rw [ints_len, hpl] at hi
      have := f3 (n * j + i) (by rw [ints_len]; omega)
      rw [← this, Nat.add_assoc]
    · have hi : i < n := by
        have := (List.getElem?_eq_some_iff.1 hx).1
        rw [ints_len, hpl] at this; exact this
      refine g3 (n * j + i) x ?_
      rw [ints_get (by omega)] at hx ⊢
      rw [← hx, hpg i hi]
end Go.Proofs.YtmoknllbpjpkmaaGreat.Zed
namespace Go.Proofs.YtmoknllbpjpkmaaGreat.Zed
open Go TP
set_option linter.unusedVariables false
set_option linter.unusedSimpArgs false
set_option maxRecDepth 20000
namespace tfW6
theorem tf : True := trivial
end tfW6
open tfW6

theorem IsTri.fine {T : List (List (Int × Int))} (h : IsTri T) : Fine T := by
  refine ⟨h.1, fun a ha => ⟨h.2.1 a ha, fun f hf h0 => ?_⟩⟩
  have := h.2.2 a ha f hf
  rw [gd_def] at this
  change 0 ≤ (fc T a f).1 at h0
  show (fc T a f).1 < _ ∧ 0 ≤ (fc T a f).2 ∧ (fc T a f).2 < 24
  rw [if_neg (by omega)] at this
  omega
section
variable {P : Program} {m : Nat} {c : Code} {Q : Exit → Fr → Heap → Prop} {A : Fr} {H : Heap}
end
end Go.Proofs.YtmoknllbpjpkmaaGreat.Zed
namespace Go.Proofs.YtmoknllbpjpkmaaGreat.Zed
open Go TP
set_option linter.unusedVariables false
set_option linter.unusedSimpArgs false
set_option maxRecDepth 20000
namespace tfX22
theorem tf : (Tryz.prog.underlying 29 = some (.slice 61)) ∧ (el Tryz.prog 29 = some (none, 1)) ∧ (Tryz.prog.underlying 61 = some (.slice 80)) ∧ (el Tryz.prog 61 = some (none, 2)) ∧ (Tryz.prog.underlying 109 = some (.array 4 2)) ∧ (el Tryz.prog 109 = some (some 4, 1)) ∧ (tk Tryz.prog 2 = some none) ∧ (tk Tryz.prog 29 = some none) ∧ (tk Tryz.prog 61 = some none) ∧ (tk Tryz.prog 80 = some (some 2)) ∧ (cz Tryz.prog 2 = some 1) ∧ (bz Tryz.prog 2 = some 8) ∧ (cz Tryz.prog 61 = some 1) ∧ (bz Tryz.prog 61 = some 24) ∧ (cz Tryz.prog 80 = some 2) ∧ (bz Tryz.prog 80 = some 16) ∧ (zr Tryz.prog 2 = some (.int .i64 0)) ∧ (zr Tryz.prog 61 = some (.slice none 0 0)) ∧ (zr Tryz.prog 80 = some (.agg #[.int .i64 0, .int .i64 0])) ∧ (fo Tryz.prog 31 0 = some (0, none)) ∧ (fo Tryz.prog 80 1 = some (1, none)) := by
  refine ⟨?_, ?_, ?_, ?_, ?_, ?_, ?_, ?_, ?_, ?_, ?_, ?_, ?_, ?_, ?_, ?_, ?_, ?_, ?_, ?_, ?_⟩ <;> kernel_rfl
end tfX22
open tfX22

set_option maxHeartbeats 2000000 in
/-- The visit of all glued faces, with any state: J a f is what holds before face f of tetrahedron a. -/
theorem glued_g {T : List (List (Int × Int))} (hF : Fine T) (F : FuncId) (v : Value) (J : Nat → Nat → Heap → Prop)
    (hext : ∀ a f H H', J a f H → Ext H H' → J a f H')
    (hskip : ∀ a f H, a < T.length → f < 4 → ((T.getD a []).getD f (0, 0)).1 < 0 → J a f H → J a (f + 1) H)
    (hrow : ∀ a H, a < T.length → J a 4 H → J (a + 1) 0 H)
    (visit : ∀ (H : Heap) (a f : Nat) (t p : Int), (T.getD a []).getD f (0, 0) = (t, p) → a < T.length → f < 4 → 0 ≤ t → t < T.length → 0 ≤ p → p < 24 → J a f H →
      ∀ x, ACalls Tryz.prog F [I a, I f, .agg #[I t, I p], .agg (ints (pmL p)).toArray, v] (H.push x) fun u H' => u = undef ∧ J a (f + 1) H' ∧ H'.get H.size = x)
    {H : Heap} (h0 : J 0 0 H) :
    ACalls Tryz.prog 102 [zT T, .func (.func F) #[] #[v]] H fun u H' => u = undef ∧ J T.length 0 H' := by
  have h8 := hF.1
  have h4 : ∀ a, a < T.length → (T.getD a []).length = 4 := fun a ha => (hF.2 a ha).1
  refine ACalls.body Tryz.func102 rfl Tryz.ntmps102 (rs := []) rfl (by simp) rfl fun Q hQ A hA => ?_
  have a0 := hA 0 _ _ rfl
  have a1 := hA 1 _ _ rfl
  clear hA
  repeat' first | refine rnY ?_ | with_reducible refine And.intro (fun hc => ?_) (fun hc => ?_) | fail
  refine AWp.cut (fun Ac hAc => ?_)
  have c1 := gtY (t := 1) hAc
  have c9 := gtY (t := 9) hAc
  have c10 := gtY (t := 10) hAc
  have c11 := gtY (t := 11) hAc
  clear a0 a1
  refine AWp.loop (fun A' H' => ∃ (a : Nat), Ag [4, 5, 6, 7, 12, 13, 14, 15, 16, 17, 18, 19, 20, 21, 22, 23, 24, 25, 26, 27, 28, 29, 30, 31, 32, 33, 34, 35] A' (put Ac (some 11) (I a)) ∧ a ≤ T.length ∧ J a 0 H') (fun A' _ => T.length - (intV (A' 11)).toNat) ?_ ?_
  · exact ⟨0, agY, by omega, h0⟩
  · rintro A1 H1 ⟨a, hA, ha, hx⟩
    have d1 := gdY (t := 1) hA
    have d9 := gdY (t := 9) hA
    have d10 := gdY (t := 10) hA
    have d11 := gdY (t := 11) hA
    by_cases hlt : a < T.length
    · have h4a := h4 a hlt
      have hfr := (hF.2 a hlt).2
      have hskip := fun f H => hskip a f H hlt
      have hrow := fun H => hrow a H hlt
      have hvis := fun H f t p he h1 h2 h3 h4 h5 h6 x => visit H a f t p he hlt h1 h2 h3 h4 h5 h6 x
      repeat' first | refine rnY ?_ | with_reducible refine And.intro (fun hc => ?_) (fun hc => ?_) | fail
      refine AWp.cut (fun Ae hAe => ?_)
      have e1 := gtY (t := 1) hAe
      have e4 := gtY (t := 4) hAe
      have e9 := gtY (t := 9) hAe
      have e10 := gtY (t := 10) hAe
      have e11 := gtY (t := 11) hAe
      have e16 := gtY (t := 16) hAe
      have e17 := gtY (t := 17) hAe
      have e18 := gtY (t := 18) hAe
      refine AWp.loop (fun A' H' => ∃ (f : Nat), Ag [6, 7, 19, 20, 21, 22, 23, 24, 25, 26, 27, 28, 29, 30, 31, 32, 33, 34] A' (put Ae (some 18) (I f)) ∧ f ≤ 4 ∧ J a f H') (fun A' _ => 4 - (intV (A' 18)).toNat) ?_ ?_
      · exact ⟨0, agY, by omega, hx⟩
      · clear hx
        rintro A2 H2 ⟨f, hB, hf, hx⟩
        have f1 := gdY (t := 1) hB
        have f4 := gdY (t := 4) hB
        have f9 := gdY (t := 9) hB
        have f10 := gdY (t := 10) hB
        have f11 := gdY (t := 11) hB
        have f16 := gdY (t := 16) hB
        have f17 := gdY (t := 17) hB
        have f18 := gdY (t := 18) hB
        by_cases hff : f < 4
        · have hfine := hfr f hff
          by_cases hq : ((T.getD a []).getD f (0, 0)).1 < 0
          · have hsk := hskip f _ hff hq hx
            clear hskip hrow hvis visit
            repeat' first | refine rnY ?_ | (first | refine ZCalls.to (isBoundary_z _ _) ?_ | refine ZCalls.tf (isBoundary_z _ _) ?_) | with_reducible refine And.intro (fun hc => ?_) (fun hc => ?_) | fail
            exact ⟨⟨f + 1, agY, by omega, hext _ _ _ _ hsk (by exact exY)⟩, by exact ivY⟩
          · obtain ⟨q1, q2, q3⟩ := hfine (by omega)
            clear hskip hrow visit
            repeat' first | refine rnY ?_ | (first | refine ZCalls.to (isBoundary_z _ _) ?_ | refine ZCalls.tf (isBoundary_z _ _) ?_) | with_reducible refine And.intro (fun hc => ?_) (fun hc => ?_) | fail
            refine AWp.zreg [(0, none), (1, none), (2, none), (3, none), (4, none), (5, none), (6, none), (7, some [3, 5])] mixed (by kernel_rfl) ?_
            repeat' first | refine rzY ?_ | (first | refine ZCalls.to (perm_z _ q2 q3) ?_ | refine ZCalls.tf (perm_z _ q2 q3) ?_) | (refine (hvis H2 f ((T.getD a []).getD f (0, 0)).1 ((T.getD a []).getD f (0, 0)).2 rfl hff (by omega) q1 q2 q3 hx (.cells [I ((T.getD a []).getD f (0, 0)).1, I ((T.getD a []).getD f (0, 0)).2] 1 false)).mono ?_; rintro u H3 ⟨rfl, hx3, hx5⟩; refine hgY ?_) | fail
            repeat' first | refine rnY ?_ | with_reducible refine And.intro (fun hc => ?_) (fun hc => ?_) | fail
            exact ⟨⟨f + 1, agY, by omega, hx3⟩, by exact ivY⟩
        · obtain rfl : f = 4 := by omega
          have hr := hrow _ hx
          clear hskip hvis visit
          repeat' first | refine rnY ?_ | with_reducible refine And.intro (fun hc => ?_) (fun hc => ?_) | fail
          exact ⟨⟨a + 1, agY, by omega, hr⟩, by exact ivY⟩
    · obtain rfl : a = T.length := by omega
      repeat' first | refine rnY ?_ | with_reducible refine And.intro (fun hc => ?_) (fun hc => ?_) | fail
      exact hQ.out _ _ ⟨rfl, hx⟩
end Go.Proofs.YtmoknllbpjpkmaaGreat.Zed
namespace Go.Proofs.YtmoknllbpjpkmaaGreat.Zed
open Go TP
set_option linter.unusedVariables false
set_option linter.unusedSimpArgs false
set_option maxRecDepth 20000
end Go.Proofs.YtmoknllbpjpkmaaGreat.Zed
namespace Go.Proofs.YtmoknllbpjpkmaaGreat.Zed
open Go TP
set_option linter.unusedVariables false
set_option linter.unusedSimpArgs false
set_option maxRecDepth 20000
namespace tfW8
theorem tf : (Tryz.prog.underlying 25 = some (.slice 2)) ∧ (el Tryz.prog 25 = some (none, 1)) ∧ (tk Tryz.prog 2 = some none) ∧ (tk Tryz.prog 25 = some none) ∧ (cz Tryz.prog 2 = some 1) ∧ (bz Tryz.prog 2 = some 8) ∧ (zr Tryz.prog 2 = some (.int .i64 0)) := by
  refine ⟨?_, ?_, ?_, ?_, ?_, ?_, ?_⟩ <;> kernel_rfl
end tfW8
open tfW8

set_option maxHeartbeats 1000000 in
theorem index_z {l : List Int} (hl : l.length ≤ 1048576) (x : Int) : ZCalls Tryz.prog 139 [zI l, I x] (I (fidx (fun y => x == y) l)) := by
  refine ZCalls.body Tryz.func139 rfl Tryz.ntmps139 (rs := [.tmp 4]) rfl (by simp) rfl fun H Q hQ A hA => ?_
  have a0 := hA 0 _ _ rfl
  have a1 := hA 1 _ _ rfl
  clear hA
  repeat' first | refine rnY ?_ | with_reducible refine And.intro (fun hc => ?_) (fun hc => ?_) | fail
  refine AWp.cut (fun Ac hAc => ?_)
  have c0 := gtY (t := 0) hAc
  have c1 := gtY (t := 1) hAc
  have c7 := gtY (t := 7) hAc
  have c8 := gtY (t := 8) hAc
  clear a0 a1
  refine AWp.loop (fun A' H' => ∃ (k : Nat), Ag [5, 9, 10, 11, 12, 13, 14, 15, 16, 17, 18] A' (put Ac (some 8) (I k)) ∧ k ≤ l.length ∧ (∀ i, i < k → (x == l.getD i 0) = false) ∧ Ext H H') (fun A' _ => l.length - (intV (A' 8)).toNat) ?_ ?_
  · exact ⟨0, agY, by omega, fun i hi => by omega, by exact exY⟩
  · rintro A1 H1 ⟨k, hA, hk, hno, hx⟩
    have d0 := gdY (t := 0) hA
    have d1 := gdY (t := 1) hA
    have d7 := gdY (t := 7) hA
    have d8 := gdY (t := 8) hA
    by_cases hlt : k < l.length
    · cases hp : (x == l.getD k 0)
      · repeat' first | refine rnY ?_ | with_reducible refine And.intro (fun hc => ?_) (fun hc => ?_) | fail
        exact ⟨⟨k + 1, agY, by omega, all_succ hno hp, by exact exY⟩, by exact ivY⟩
      · repeat' first | refine rnY ?_ | with_reducible refine And.intro (fun hc => ?_) (fun hc => ?_) | fail
        exact hQ.out _ _ (.eq (Cl.int _ _) (by rw [fidx_at 0 hno hlt hp])) (by exact exY)
    · obtain rfl : k = l.length := by omega
      repeat' first | refine rnY ?_ | with_reducible refine And.intro (fun hc => ?_) (fun hc => ?_) | fail
      exact hQ.out _ _ (.eq (Cl.int _ _) (by rw [fidx_no 0 hno])) (by exact exY)
theorem contains_z {l : List Int} (hl : l.length ≤ 1048576) (x : Int) : ZCalls Tryz.prog 132 [zI l, I x] (B (decide (x ∈ l))) := by
  refine ZCalls.body Tryz.func132 rfl Tryz.ntmps132 (rs := [.tmp 4]) rfl (by simp) rfl fun H Q hQ A hA => ?_
  have a0 := hA 0 _ _ rfl
  have a1 := hA 1 _ _ rfl
  clear hA
  repeat' first | refine rnY ?_ | (first | refine ZCalls.to (index_z hl x) ?_ | refine ZCalls.tf (index_z hl x) ?_) | with_reducible refine And.intro (fun hc => ?_) (fun hc => ?_) | fail
  exact hQ.out _ _ (.eq (Cl.bool _) (by rw [fidx_ge]; congr 1; rw [Bool.eq_iff_iff]; simp)) (by exact exY)
theorem othersFn_z {l : List Int} (hl : l.length ≤ 1048576) (x : Int) : ZCalls Tryz.prog 131 [I x, PZ [zI l] 0] (B (decide (x ∈ l))) := by
  refine ZCalls.body Tryz.func131 rfl Tryz.ntmps131 (rs := [.tmp 3]) rfl (by simp) rfl fun H Q hQ A hA => ?_
  have a0 := hA 0 _ _ rfl
  have a1 := hA 1 _ _ rfl
  clear hA
  repeat' first | refine rnY ?_ | (first | refine ZCalls.to (contains_z hl x) ?_ | refine ZCalls.tf (contains_z hl x) ?_) | with_reducible refine And.intro (fun hc => ?_) (fun hc => ?_) | fail
  exact hQ.out _ _ (fv) (by exact exY)
def slH (e : Option (Option Nat × Nat)) (b : Blk) (a : Addr) (n : Nat) (lo hi : Option Value) (K : Value → Prop) : Prop := match e, b with
  | some (none, s), .cells cs es ro => es = s ∧ a.spot = none ∧ bnd lo 0 fun l => bnd hi n fun h => l ≤ h ∧ (h ≤ n ∨ (ro = false ∧ a.off + h * s ≤ cs.length)) ∧
      (¬ (l = 0 ∨ l < n ∨ (ro = false ∧ a.off + l * s < cs.length)) → K (.slice (some ⟨a.block, a.off, none⟩) (h - l) 1)) ∧ K (.slice (some ⟨a.block, a.off + l * s, none⟩) (h - l) 0)
  | _, _ => False
theorem slHe (s : Nat) (cs : List Value) (es : Nat) (ro : Bool) (a : Addr) (n : Nat) (lo hi : Option Value) (K : Value → Prop) : slH (some (none, s)) (.cells cs es ro) a n lo hi K = (es = s ∧ a.spot = none ∧ bnd lo 0 fun l => bnd hi n fun h => l ≤ h ∧ (h ≤ n ∨ (ro = false ∧ a.off + h * s ≤ cs.length)) ∧
      (¬ (l = 0 ∨ l < n ∨ (ro = false ∧ a.off + l * s < cs.length)) → K (.slice (some ⟨a.block, a.off, none⟩) (h - l) 1)) ∧ K (.slice (some ⟨a.block, a.off + l * s, none⟩) (h - l) 0)) := rfl
theorem sl0K {P : Program} {t : TypeId} {H : Heap} {a : Addr} {n : Nat} {lo hi : Option Value} {K : Value → Prop} (hn : ∀ e, el P t = some e → e.1 = none) : sliceK P t H (.slice (some a) n 0) lo hi none K = slH (el P t) (H.get a.block) a n lo hi K := by
  unfold sliceK slH
  cases he : el P t with
  | none => rfl
  | some e =>
    obtain ⟨e1, e2⟩ := e
    have : e1 = none := hn _ he
    subst this
    cases hb : H.get a.block <;> simp only [hb]
section
variable {H : Heap} {g : Nat} {cap : Value} {l : List Int} {F : FuncId} {pr : Int → Bool}
set_option maxHeartbeats 1000000 in
theorem indexF_c (hg : H.get g = .cells (ints l) 1 false) (hl : l.length ≤ 100000) (hF : ∀ x, ZCalls Tryz.prog F [I x, cap] (B (pr x))) :
    ACalls Tryz.prog 114 [.slice (some ⟨g, 0, none⟩) l.length 0, .func (.func F) #[] #[cap]] H fun u H' => u = I (fidx pr l) ∧ H' = H := by
  refine ACalls.body Tryz.func114 rfl Tryz.ntmps114 (rs := [.tmp 4]) rfl (by simp) rfl fun Q hQ A hA => ?_
  have a0 := hA 0 _ _ rfl
  have a1 := hA 1 _ _ rfl
  clear hA
  repeat' first | refine rnY ?_ | with_reducible refine And.intro (fun hc => ?_) (fun hc => ?_) | fail
  refine AWp.cut (fun Ac hAc => ?_)
  have c0 := gtY (t := 0) hAc
  have c1 := gtY (t := 1) hAc
  have c7 := gtY (t := 7) hAc
  have c8 := gtY (t := 8) hAc
  clear a0 a1
  refine AWp.loop (fun A' H' => ∃ (k : Nat), Ag [5, 9, 10, 11, 12, 13, 14, 15, 16, 17, 18] A' (put Ac (some 8) (I k)) ∧ k ≤ l.length ∧ (∀ i, i < k → pr (l.getD i 0) = false) ∧ H' = H) (fun A' _ => l.length - (intV (A' 8)).toNat) ?_ ?_
  · exact ⟨0, agY, by omega, fun i hi => by omega, rfl⟩
  · rintro A1 H1 ⟨k, hA, hk, hno, rfl⟩
    have d0 := gdY (t := 0) hA
    have d1 := gdY (t := 1) hA
    have d7 := gdY (t := 7) hA
    have d8 := gdY (t := 8) hA
    by_cases hlt : k < l.length
    · have hFk := hF (l.getD k 0)
      cases hp : pr (l.getD k 0)
      · rw [hp] at hFk
        repeat' first | refine rnY ?_ | (first | refine ZCalls.to (hFk) ?_ | refine ZCalls.tf (hFk) ?_) | with_reducible refine And.intro (fun hc => ?_) (fun hc => ?_) | fail
        exact ⟨⟨k + 1, agY, by omega, all_succ hno hp, rfl⟩, by exact ivY⟩
      · rw [hp] at hFk
        repeat' first | refine rnY ?_ | (first | refine ZCalls.to (hFk) ?_ | refine ZCalls.tf (hFk) ?_) | with_reducible refine And.intro (fun hc => ?_) (fun hc => ?_) | fail
        exact hQ.out _ _ ⟨by rw [fidx_at 0 hno hlt hp], rfl⟩
    · obtain rfl : k = l.length := by omega
      repeat' first | refine rnY ?_ | with_reducible refine And.intro (fun hc => ?_) (fun hc => ?_) | fail
      exact hQ.out _ _ ⟨by rw [fidx_no 0 hno], rfl⟩
theorem FinV.ints {lo : Nat} {H : Heap} {g c : Nat} {l rest : List Int} (hg : lo ≤ g) (hget : H.get g = .cells (Zed.ints (l ++ rest)) 1 false) : FinV lo H (.slice (some ⟨g, 0, none⟩) l.length c) (zI l) :=
  .own hg hget (by rw [ints_len, List.length_append]; omega) (by rw [ints_len, Nat.mul_one]) (fun i x r hx hr => by
    have hr2 := hr
    unfold Zed.ints at hx hr
    rw [List.getElem?_map] at hx hr
    have hi : i < l.length := by
      have := (List.getElem?_eq_some_iff.1 hr2).1
      simpa [Zed.ints] using this
    rw [Nat.zero_add, List.getElem?_append_left hi] at hx
    have e : some x = some r := hx.symm.trans hr
    cases e
    obtain ⟨y, _, rfl⟩ := Option.map_eq_some_iff.1 hx
    exact .cl (Cl.int _ _))
theorem set_take' {l : List Int} {i : Nat} {x : Int} (h : i < l.length) : (l.set i x).take (i + 1) = l.take i ++ [x] := by
  rw [List.take_succ_eq_append_getElem (by simpa using h)]
  rw [List.getElem_set_self, List.take_set, List.set_eq_of_length_le (by rw [List.length_take]; omega)]
theorem fidx_some {α : Type} {p : α → Bool} {l : List α} (d : α) {j0 : Nat} (hj0 : j0 < l.length) (hp : p (l.getD j0 d) = true) : ∃ j : Nat, fidx p l = j ∧ j < l.length ∧ p (l.getD j d) = true ∧ ∀ i, i < j → p (l.getD i d) = false := by
  cases h : l.findIdx? p with
  | none =>
    rw [List.findIdx?_eq_none_iff] at h
    have := h (l.getD j0 d) (by simp [hj0])
    rw [hp] at this; cases this
  | some j =>
    rw [List.findIdx?_eq_some_iff_getElem] at h
    obtain ⟨hi, hp, hq⟩ := h
    have h' : l.findIdx? p = some j := by rw [List.findIdx?_eq_some_iff_getElem]; exact ⟨hi, hp, hq⟩
    refine ⟨j, by unfold fidx; rw [h'], hi, by simpa [hi] using hp, fun i hij => ?_⟩
    have := hq i hij
    simpa [show i < l.length by omega] using this
set_option maxHeartbeats 2000000 in
theorem deleteFunc_c (hg : H.get g = .cells (ints l) 1 false) (hl : l.length ≤ 100000) (j0 : Nat) (hj0 : j0 < l.length) (hpj : pr (l.getD j0 0) = true)
    (hF : ∀ x, ZCalls Tryz.prog F [I x, cap] (B (pr x))) :
    ACalls Tryz.prog 130 [.slice (some ⟨g, 0, none⟩) l.length 0, .func (.func F) #[] #[cap]] H fun u H' => u = .slice (some ⟨g, 0, none⟩) (l.filter fun x => !pr x).length 0 ∧ ∃ rest, H' = H.set g (.cells (ints (l.filter (fun x => !pr x) ++ rest)) 1 false) := by
  obtain ⟨j, hfi, hj, hpr, hno⟩ := fidx_some 0 hj0 hpj
  have hidx := indexF_c hg hl hF
  rw [hfi] at hidx
  clear hfi hpj hj0
  have hne : ((j : Int) == -1) = false := by rw [beq_eq_false_iff_ne]; omega
  refine ACalls.body Tryz.func130 rfl Tryz.ntmps130 (rs := [.tmp 4]) rfl (by simp) rfl fun Q hQ A hA => ?_
  have a0 := hA 0 _ _ rfl
  have a1 := hA 1 _ _ rfl
  clear hA
  repeat' first | refine rnY ?_ | (refine hidx.mono ?_; rintro u H1 ⟨rfl, rfl⟩) | with_reducible refine And.intro (fun hc => ?_) (fun hc => ?_) | fail
  have hflt : (l.take j).filter (fun x => !pr x) = l.take j := by
    rw [List.filter_eq_self]
    intro x hx
    obtain ⟨i, hi, e⟩ := List.mem_iff_getElem.1 hx
    rw [List.length_take] at hi
    have := hno i (by omega)
    rw [List.getElem_take] at e
    rw [List.getD_eq_getElem?_getD, List.getElem?_eq_getElem (by omega)] at this
    simp only [Option.getD_some, e] at this
    rw [this]; rfl
  clear hidx
  refine AWp.cut (fun Ac hAc => ?_)
  have c0 := gtY (t := 0) hAc
  have c1 := gtY (t := 1) hAc
  have c5 := gtY (t := 5) hAc
  have c6 := gtY (t := 6) hAc
  clear a0 a1
  refine AWp.loop (fun A' H' => ∃ (m i : Nat) (cs : List Int), Ag [7, 16, 17, 18, 19, 20, 21, 22, 23, 24, 25, 26, 27, 28, 29, 30, 31, 32, 33, 34, 35] A' (put (put Ac (some 5) (I i)) (some 6) (I m)) ∧ m ≤ l.length ∧ i < m ∧ cs.length = l.length ∧ cs.take i = (l.take m).filter (fun x => !pr x) ∧ cs.drop m = l.drop m ∧ H' = H1.set g (.cells (ints cs) 1 false)) (fun A' _ => l.length - (intV (A' 6)).toNat) ?_ ?_
  · refine ⟨j + 1, j, l, agY, by omega, by omega, rfl, ?_, rfl, by rw [set_self hg]⟩
    rw [List.take_succ_eq_append_getElem hj, List.filter_append, hflt]
    rw [List.getD_eq_getElem?_getD, List.getElem?_eq_getElem hj] at hpr
    simp only [Option.getD_some] at hpr
    simp [hpr]
  · clear hno hpr hflt hne
    rintro A2 H2 ⟨m, i, cs, hA, hm, him, hcl, htk, hdr, rfl⟩
    have d0 := gdY (t := 0) hA
    have d1 := gdY (t := 1) hA
    have d5 := gdY (t := 5) hA
    have d6 := gdY (t := 6) hA
    by_cases hlt : m < l.length
    · have hFm := hF (l.getD m 0)
      have hcm : cs.getD m 0 = l.getD m 0 := by
        have h0 : (cs.drop m)[0]? = (l.drop m)[0]? := by rw [hdr]
        rw [List.getElem?_drop, List.getElem?_drop, Nat.add_zero] at h0
        simp only [List.getD_eq_getElem?_getD, h0]
      have hd2 : ∀ c2 : List Int, c2.drop m = l.drop m → c2.drop (m + 1) = l.drop (m + 1) := fun c2 h => by
        rw [← List.drop_drop, h, List.drop_drop]
      have hts : (l.take (m + 1)).filter (fun x => !pr x) = (l.take m).filter (fun x => !pr x) ++ if pr (l.getD m 0) = true then [] else [l.getD m 0] := by
        rw [List.take_succ_eq_append_getElem hlt, List.filter_append]
        congr 1
        rw [show l.getD m 0 = l[m] by simp [hlt]]
        cases hq : pr l[m] <;> simp [hq]
      clear hF
      rcases hpr : pr (l.getD m 0) with _ | _
      · rw [hpr] at hFm hts
        rw [if_neg (by simp)] at hts
        generalize l.getD m 0 = y at *
        repeat' first | refine rnY ?_ | (first | refine ZCalls.to (hFm) ?_ | refine ZCalls.tf (hFm) ?_) | with_reducible refine And.intro (fun hc => ?_) (fun hc => ?_) | fail
        refine ⟨⟨m + 1, i + 1, cs.set i y, agY, by omega, by omega, by rw [List.length_set, hcl], ?_, ?_, by exact ivY⟩, by exact ivY⟩
        · rw [hts, set_take' (by omega), htk]
        · rw [List.drop_set_of_lt (by omega)]; exact hd2 _ hdr
      · rw [hpr] at hFm hts
        rw [if_pos rfl, List.append_nil] at hts
        generalize l.getD m 0 = y at *
        repeat' first | refine rnY ?_ | (first | refine ZCalls.to (hFm) ?_ | refine ZCalls.tf (hFm) ?_) | with_reducible refine And.intro (fun hc => ?_) (fun hc => ?_) | fail
        exact ⟨⟨m + 1, i, cs, agY, by omega, by omega, hcl, by rw [hts, htk], hd2 _ hdr, by exact ivY⟩, by exact ivY⟩
    · obtain rfl : m = l.length := by omega
      rw [List.take_length] at htk
      have hil : (l.filter fun x => !pr x).length = i := by rw [← htk, List.length_take]; omega
      have hni : ¬ l.length - i = 0 := by omega
      have hii : i + (l.length - i) = l.length := by omega
      clear hF
      have hel : ∀ (cs : List Value) (lo hi : Option Value) (K : Value → Prop), sliceK Tryz.prog 25 (H1.set g (.cells cs 1 false)) (.slice (some ⟨g, 0, none⟩) l.length 0) lo hi none K = slH (el Tryz.prog 25) (.cells cs 1 false) ⟨g, 0, none⟩ l.length lo hi K := fun cs lo hi K => by rw [sl0K (fun e he => by cases he; rfl), get_set_eq]
      have zf0 := @slHe
      have zf1 := @set_set
      have zf2 := @zero1
      have zf3 := @rep_ints
      repeat' first | refine rnY ?_ | with_reducible refine And.intro (fun hc => ?_) (fun hc => ?_) | fail
      refine hQ.out _ _ ⟨?_, List.replicate (l.length - i) 0, ?_⟩
      · rw [hil]
      · rw [List.drop_length, List.append_nil]
end
set_option maxHeartbeats 1000000 in
theorem others_z (l : List Int) (hl : l.length ≤ 1048576) (hm : ∃ j, j < 4 ∧ (cntL 4).getD j 0 ∈ l) : ZCalls Tryz.prog 116 [zI l] (zI (othersL l)) := by
  have hcl : (cntL 4).length = 4 := rfl
  have hcount := counting_o 4 (by omega)
  obtain ⟨j0, hj0, hpj⟩ := hm
  refine ZCalls.body Tryz.func116 rfl Tryz.ntmps116 (rs := [.tmp 2]) rfl (by simp) rfl fun H Q hQ A hA => ?_
  have a0 := hA 0 _ _ rfl
  clear hA
  repeat' first | refine rnY ?_ | (refine (hcount _).mono ?_; rintro u H1 (⟨rfl, h0, rfl⟩ | ⟨rfl, rfl⟩)) | with_reducible refine And.intro (fun hc => ?_) (fun hc => ?_) | fail
  · omega
  refine ACalls.mono (deleteFunc_c (l := cntL 4) (pr := fun x => decide (x ∈ l)) (get_push_eq rfl) (by omega) j0 (by omega) (by simpa using hpj) (fun x => othersFn_z hl x)) ?_
  rintro u H2 ⟨rfl, rest, rfl⟩
  repeat' first | refine rnY ?_ | with_reducible refine And.intro (fun hc => ?_) (fun hc => ?_) | fail
  exact hQ.out _ _ (FinV.ints (l := othersL l) (rest := rest) (Nat.le_refl _) (get_push_eq rfl)) (by exact exY)
end Go.Proofs.YtmoknllbpjpkmaaGreat.Zed
namespace Go.Proofs.YtmoknllbpjpkmaaGreat.Zed
open Go TP
set_option linter.unusedVariables false
set_option linter.unusedSimpArgs false
set_option maxRecDepth 20000
end Go.Proofs.YtmoknllbpjpkmaaGreat.Zed
namespace Go.Proofs.YtmoknllbpjpkmaaGreat.Zed
open Go TP
set_option linter.unusedVariables false
set_option linter.unusedSimpArgs false
set_option maxRecDepth 20000
namespace tfW10
theorem tf : (Tryz.prog.underlying 29 = some (.slice 61)) ∧ (el Tryz.prog 29 = some (none, 1)) ∧ (tk Tryz.prog 29 = some none) ∧ (tk Tryz.prog 31 = some (some 1)) ∧ (tk Tryz.prog 61 = some none) ∧ (cz Tryz.prog 61 = some 1) ∧ (bz Tryz.prog 61 = some 24) ∧ (zr Tryz.prog 61 = some (.slice none 0 0)) ∧ (fo Tryz.prog 31 0 = some (0, none)) := by
  refine ⟨?_, ?_, ?_, ?_, ?_, ?_, ?_, ?_, ?_⟩ <;> kernel_rfl
end tfW10
open tfW10

def codeN (T : List (List (Int × Int))) : Int := if IsTri T then (if T.length ≤ 6 then 0 else 3) else 1
set_option maxHeartbeats 1000000 in
theorem normalCode_z {T : List (List (Int × Int))} (hl : T.length ≤ 1048576) : ZCalls Tryz.prog 76 [zT T] (I (codeN T)) := by
  have ht := isTriangulation_z hl
  unfold codeN
  by_cases h : IsTri T
  · rw [if_pos h]
    rw [decide_eq_true h] at ht
    by_cases h6 : T.length ≤ 6
    · rw [if_pos h6]
      refine ZCalls.body Tryz.func76 rfl Tryz.ntmps76 (rs := [.tmp 2]) rfl (by simp) rfl fun H Q hQ A hA => ?_
      have a0 := hA 0 _ _ rfl
      clear hA
      repeat' first | refine rnY ?_ | (first | refine ZCalls.to (ht) ?_ | refine ZCalls.tf (ht) ?_) | with_reducible refine And.intro (fun hc => ?_) (fun hc => ?_) | fail
      exact hQ.out _ _ (fv) (by exact exY)
    · rw [if_neg h6]
      refine ZCalls.body Tryz.func76 rfl Tryz.ntmps76 (rs := [.tmp 2]) rfl (by simp) rfl fun H Q hQ A hA => ?_
      have a0 := hA 0 _ _ rfl
      clear hA
      repeat' first | refine rnY ?_ | (first | refine ZCalls.to (ht) ?_ | refine ZCalls.tf (ht) ?_) | with_reducible refine And.intro (fun hc => ?_) (fun hc => ?_) | fail
      exact hQ.out _ _ (fv) (by exact exY)
  · rw [if_neg h]
    rw [decide_eq_false h] at ht
    refine ZCalls.body Tryz.func76 rfl Tryz.ntmps76 (rs := [.tmp 2]) rfl (by simp) rfl fun H Q hQ A hA => ?_
    have a0 := hA 0 _ _ rfl
    clear hA
    repeat' first | refine rnY ?_ | (first | refine ZCalls.to (ht) ?_ | refine ZCalls.tf (ht) ?_) | with_reducible refine And.intro (fun hc => ?_) (fun hc => ?_) | fail
    exact hQ.out _ _ (fv) (by exact exY)
theorem opposite_z (e : Int) (h0 : 0 ≤ e) (h5 : e ≤ 5) : ZCalls Tryz.prog 108 [I e] (I (5 - e)) := by
  refine ZCalls.body Tryz.func108 rfl Tryz.ntmps108 (rs := [.tmp 2]) rfl (by simp) rfl fun H Q hQ A hA => ?_
  have a0 := hA 0 _ _ rfl
  clear hA
  repeat' first | refine rnY ?_ | with_reducible refine And.intro (fun hc => ?_) (fun hc => ?_) | fail
  exact hQ.out _ _ (fv) (by exact exY)
end Go.Proofs.YtmoknllbpjpkmaaGreat.Zed
namespace Go.Proofs.YtmoknllbpjpkmaaGreat.Zed
open Go TP
set_option linter.unusedVariables false
set_option linter.unusedSimpArgs false
set_option maxRecDepth 20000
namespace tfW11
theorem tf : True := trivial
end tfW11
open tfW11

theorem codeN_ok {T : List (List (Int × Int))} (h : codeN T = 0) : IsTri T := by
  unfold codeN at h
  split at h
  · assumption
  · simp at h
end Go.Proofs.YtmoknllbpjpkmaaGreat.Zed
namespace Go.Proofs.YtmoknllbpjpkmaaGreat.Zed
open Go TP
set_option linter.unusedVariables false
set_option linter.unusedSimpArgs false
set_option maxRecDepth 20000
namespace tfW12
theorem tf : (Tryz.prog.underlying 25 = some (.slice 2)) ∧ (el Tryz.prog 25 = some (none, 1)) ∧ (Tryz.prog.underlying 29 = some (.slice 61)) ∧ (el Tryz.prog 29 = some (none, 1)) ∧ (tk Tryz.prog 2 = some none) ∧ (tk Tryz.prog 29 = some none) ∧ (tk Tryz.prog 61 = some none) ∧ (cz Tryz.prog 2 = some 1) ∧ (bz Tryz.prog 2 = some 8) ∧ (cz Tryz.prog 61 = some 1) ∧ (bz Tryz.prog 61 = some 24) ∧ (zr Tryz.prog 2 = some (.int .i64 0)) ∧ (zr Tryz.prog 61 = some (.slice none 0 0)) ∧ (fo Tryz.prog 31 0 = some (0, none)) := by
  refine ⟨?_, ?_, ?_, ?_, ?_, ?_, ?_, ?_, ?_, ?_, ?_, ?_, ?_, ?_⟩ <;> kernel_rfl
end tfW12
open tfW12

theorem l07In_z (x lo hi : Int) : ZCalls Tryz.prog 84 [I x, I lo, I hi] (B (decide (lo ≤ x ∧ x ≤ hi))) := by
  by_cases h1 : lo ≤ x
  · have h1' : x ≥ lo := h1
    by_cases h2 : x ≤ hi
    · rw [decide_eq_true (show lo ≤ x ∧ x ≤ hi from ⟨h1, h2⟩)]
      refine ZCalls.body Tryz.func84 rfl Tryz.ntmps84 (rs := [.tmp 6]) rfl (by simp) rfl fun H Q hQ A hA => ?_
      have a0 := hA 0 _ _ rfl
      have a1 := hA 1 _ _ rfl
      have a2 := hA 2 _ _ rfl
      clear hA
      repeat' first | refine rnY ?_ | with_reducible refine And.intro (fun hc => ?_) (fun hc => ?_) | fail
      exact hQ.out _ _ (fv) (by exact exY)
    · rw [decide_eq_false (show ¬ (lo ≤ x ∧ x ≤ hi) from fun h => h2 h.2)]
      refine ZCalls.body Tryz.func84 rfl Tryz.ntmps84 (rs := [.tmp 6]) rfl (by simp) rfl fun H Q hQ A hA => ?_
      have a0 := hA 0 _ _ rfl
      have a1 := hA 1 _ _ rfl
      have a2 := hA 2 _ _ rfl
      clear hA
      repeat' first | refine rnY ?_ | with_reducible refine And.intro (fun hc => ?_) (fun hc => ?_) | fail
      exact hQ.out _ _ (fv) (by exact exY)
  · have h1' : ¬ x ≥ lo := h1
    rw [decide_eq_false (show ¬ (lo ≤ x ∧ x ≤ hi) from fun h => h1 h.1)]
    refine ZCalls.body Tryz.func84 rfl Tryz.ntmps84 (rs := [.tmp 6]) rfl (by simp) rfl fun H Q hQ A hA => ?_
    have a0 := hA 0 _ _ rfl
    have a1 := hA 1 _ _ rfl
    have a2 := hA 2 _ _ rfl
    clear hA
    repeat' first | refine rnY ?_ | with_reducible refine And.intro (fun hc => ?_) (fun hc => ?_) | fail
    exact hQ.out _ _ (fv) (by exact exY)
theorem l06Valid_z (x : Int) : ZCalls Tryz.prog 85 [I x] (B (decide (0 ≤ x ∧ x ≤ 23))) := by
  by_cases h1 : 0 ≤ x
  · have h1' : x ≥ 0 := h1
    by_cases h2 : x < 24
    · rw [decide_eq_true (show 0 ≤ x ∧ x ≤ 23 by omega)]
      refine ZCalls.body Tryz.func85 rfl Tryz.ntmps85 (rs := [.tmp 2]) rfl (by simp) rfl fun H Q hQ A hA => ?_
      have a0 := hA 0 _ _ rfl
      clear hA
      repeat' first | refine rnY ?_ | with_reducible refine And.intro (fun hc => ?_) (fun hc => ?_) | fail
      exact hQ.out _ _ (fv) (by exact exY)
    · rw [decide_eq_false (show ¬ (0 ≤ x ∧ x ≤ 23) by omega)]
      refine ZCalls.body Tryz.func85 rfl Tryz.ntmps85 (rs := [.tmp 2]) rfl (by simp) rfl fun H Q hQ A hA => ?_
      have a0 := hA 0 _ _ rfl
      clear hA
      repeat' first | refine rnY ?_ | with_reducible refine And.intro (fun hc => ?_) (fun hc => ?_) | fail
      exact hQ.out _ _ (fv) (by exact exY)
  · have h1' : ¬ x ≥ 0 := h1
    rw [decide_eq_false (show ¬ (0 ≤ x ∧ x ≤ 23) by omega)]
    refine ZCalls.body Tryz.func85 rfl Tryz.ntmps85 (rs := [.tmp 2]) rfl (by simp) rfl fun H Q hQ A hA => ?_
    have a0 := hA 0 _ _ rfl
    clear hA
    repeat' first | refine rnY ?_ | with_reducible refine And.intro (fun hc => ?_) (fun hc => ?_) | fail
    exact hQ.out _ _ (fv) (by exact exY)
theorem l07Tets_z (n es : Nat) (cs : List Value) : ZCalls Tryz.prog 59 [.agg #[FZ es n cs]] (I n) := by
  refine ZCalls.body Tryz.func59 rfl Tryz.ntmps59 (rs := [.tmp 2]) rfl (by simp) rfl fun H Q hQ A hA => ?_
  have a0 := hA 0 _ _ rfl
  clear hA
  repeat' first | refine rnY ?_ | with_reducible refine And.intro (fun hc => ?_) (fun hc => ?_) | fail
  exact hQ.out _ _ (fv) (by exact exY)
/-- The numbers left and the images, as 'l06Images' keeps them. -/
def rsL (p : Int) (k : Nat) : List Int := (stp p k).2.1.take (4 - k)
def osL (p : Int) (k : Nat) : List Int := (stp p k).2.2.take k
theorem stp_q (p : Int) (h0 : 0 ≤ p) (h1 : p < 24) (k : Nat) (hk : k < 4) : 0 ≤ (stp p k).1 ∧ (stp p k).1 < 24 ∧ (stp p k).1 / bl k < 4 - k ∧ 0 ≤ (stp p k).1 / bl k ∧ 0 ≤ (stp p k).1 % bl k ∧ (stp p k).1 % bl k < 6 ∧ 0 < bl k ∧ bl k ≤ 6 := by
  have hX := stp_x p h0 h1
  have : k = 0 ∨ k = 1 ∨ k = 2 ∨ k = 3 := by omega
  rcases this with rfl | rfl | rfl | rfl
  · simp [bl, stp]; omega
  · simp only [bl, List.getD_cons_succ, List.getD_cons_zero]; omega
  · simp only [bl, List.getD_cons_succ, List.getD_cons_zero]; omega
  · have : (stp p 3).1 = 0 ∨ (stp p 3).1 > 0 := by have := hX.2.2; omega
    simp only [bl, List.getD_cons_succ, List.getD_cons_zero]; omega
theorem rsL_len (p : Int) (h0 : 0 ≤ p) (h1 : p < 24) (k : Nat) (hk : k ≤ 4) : (rsL p k).length = 4 - k ∧ (osL p k).length = k := by
  have := stp_len p k hk h0 h1
  simp only [rsL, osL, List.length_take]
  omega
theorem rsL_step (p : Int) (h0 : 0 ≤ p) (h1 : p < 24) (k : Nat) (hk : k < 4) :
    rsL p (k + 1) = (rsL p k).eraseIdx ((stp p k).1 / bl k).toNat ∧ osL p (k + 1) = osL p k ++ [(rsL p k).getD ((stp p k).1 / bl k).toNat 0] := by
  have hl := stp_len p k (by omega) h0 h1
  have hq := stp_q p h0 h1 k hk
  have hs : stp p (k + 1) = ((stp p k).1 % bl k, ((stp p k).2.1.take (4 - k)).eraseIdx ((stp p k).1 / bl k).toNat ++ [0] ++ (stp p k).2.1.drop (4 - k), (stp p k).2.2.set k ((stp p k).2.1.getD ((stp p k).1 / bl k).toNat 0)) := rfl
  unfold rsL osL
  rw [hs]
  generalize stp p k = s at *
  obtain ⟨X, L, O⟩ := s
  dsimp only at *
  have he : ((L.take (4 - k)).eraseIdx (X / bl k).toNat).length = 4 - (k + 1) := by
    rw [List.length_eraseIdx, List.length_take, if_pos (by omega)]; omega
  constructor
  · rw [List.append_assoc, List.take_append_of_le_length (by omega), List.take_of_length_le (by omega)]
  · rw [set_take' (by omega)]
    congr 2
    rw [List.getD_eq_getElem?_getD, List.getD_eq_getElem?_getD, List.getElem?_take, if_pos (by omega)]
theorem AWp.freezeI {P : Program} {m : Nat} {c : Code} {Q : Exit → Fr → Heap → Prop} {A : Fr} {H : Heap} {t g k n : Nat} {l : List Int} (l' : List Int) (n' : Nat) (hA : A t = .slice (some ⟨g, 0, none⟩) n k) (hg : H.get g = .cells (ints l) 1 false) (hl : l = l') (hn : n = n') (hn' : l'.length = n')
    (gg : AWp P m c Q (put A (some t) (FZ 1 n' (ints l'))) (H.set g .dead)) : AWp P m c Q A H := by
  subst hl hn
  refine AWp.freeze (es := 1) hA hg (by rw [ints_len]; omega) ?_
  rw [List.drop_zero, List.take_of_length_le (by rw [ints_len]; omega)]
  exact gg
/-- Whole numbers behind a list of one's own. -/
theorem appI {H : Heap} {g n m : Nat} {cs l : List Int} {K : Value → Heap → Prop} (hg : H.get g = .cells (ints cs) 1 false) (hn : n ≤ cs.length) (hm : l.length = m) (hb : n + m ≤ 1000000) (h0 : m ≠ 0) (h : K (.slice (some ⟨H.size, 0, none⟩) (n + m) 0) ((H.set g .dead).push (.cells (ints (cs.take n ++ l)) 1 false))) :
    appendK Tryz.prog 25 25 (.slice (some ⟨g, 0, none⟩) n 0) (FZ 1 m (ints l)) H K := by
  have hel : el Tryz.prog 25 = some (none, 1) := rfl
  have hu : Tryz.prog.underlying 25 = some (.slice 2) := rfl
  have hc : cz Tryz.prog 2 = some 1 := rfl
  have hbz : bz Tryz.prog 2 = some 8 := rfl
  have hz : zr Tryz.prog 2 = some (.int .i64 0) := rfl
  unfold appendK appsK
  simp only [hu, hc, hbz, hz, hel, hg]
  refine ⟨by omega, by omega, rfl, rfl, rfl, by rw [ints_len]; omega, ?_, trivial, trivial, by omega, fun q => absurd q h0, fun _ => ⟨by rw [ints_len]; omega, ?_⟩⟩
  · intro v hv
    obtain ⟨y, _, rfl⟩ := List.mem_map.1 hv
    rfl
  · rw [List.drop_zero, Nat.mul_one, take_ints, app_ints]; exact h
theorem appI0 {H : Heap} {g n : Nat} {cs : List Int} {K : Value → Heap → Prop} (hg : H.get g = .cells (ints cs) 1 false) (hb : n ≤ 1000000) (h : K (.slice (some ⟨g, 0, none⟩) n 0) H) :
    appendK Tryz.prog 25 25 (.slice (some ⟨g, 0, none⟩) n 0) (FZ 1 0 []) H K := by
  have hel : el Tryz.prog 25 = some (none, 1) := rfl
  have hu : Tryz.prog.underlying 25 = some (.slice 2) := rfl
  have hc : cz Tryz.prog 2 = some 1 := rfl
  have hbz : bz Tryz.prog 2 = some 8 := rfl
  have hz : zr Tryz.prog 2 = some (.int .i64 0) := rfl
  unfold appendK appsK
  simp only [hu, hc, hbz, hz, hel, hg]
  refine ⟨by omega, by omega, rfl, rfl, rfl, rfl, ?_, trivial, trivial, by omega, fun _ => h, fun q => absurd rfl q⟩
  intro v hv
  cases hv
set_option maxHeartbeats 2000000 in
theorem l06Images_z (p : Int) (h0 : 0 ≤ p) (h1 : p < 24) : ZCalls Tryz.prog 119 [I p] (FZ 1 4 (ints (pmL p))) := by
  refine ZCalls.body Tryz.func119 rfl Tryz.ntmps119 (rs := [.tmp 2]) rfl (by simp) rfl fun H Q hQ A hA => ?_
  have a0 := hA 0 _ _ rfl
  clear hA
  repeat' first | refine rnY ?_ | with_reducible refine And.intro (fun hc => ?_) (fun hc => ?_) | fail
  refine AWp.growE (t := 4) 1 (by decide) (by exact ivY) ?_
  refine AWp.cut (fun Ac hAc => ?_)
  have c0 := gtY (t := 0) hAc
  have c3 := gtY (t := 3) hAc
  have c4 := gtY (t := 4) hAc
  have c5 := gtY (t := 5) hAc
  have c6 := gtY (t := 6) hAc
  clear a0
  refine AWp.loop (fun A' H' => ∃ (k : Nat), Ag [7, 10, 11, 12, 13, 14, 15, 16, 17, 18, 19, 20, 21, 22, 23, 24, 25, 26, 27, 28, 29, 30, 31, 32, 33, 34, 35, 36, 37, 38, 39, 40, 41] A' (put (put (put (put (put Ac (some 0) (I (stp p k).1)) (some 3) (FZ 1 (4 - k) (ints (rsL p k)))) (some 4) (GZ (H.size + 1) 1 k (ints (osL p k)))) (some 5) (I (bl k))) (some 6) (I (3 - (k : Int)))) ∧ k ≤ 4 ∧ Ext ((H.push (.cells [] 1 false)).push (.tok k 1)) H') (fun A' _ => 4 - (3 - (intV (A' 6))).toNat) ?_ ?_
  · have e0 : (stp p 0).1 = p := rfl
    have e1 : rsL p 0 = [0, 1, 2, 3] := rfl
    have e2 : osL p 0 = [] := rfl
    have e3 : bl 0 = 6 := rfl
    exact ⟨0, agY, by omega, by exact exY⟩
  · rintro A1 H1 ⟨k, hA, hk, hx⟩
    have d0 := gdY (t := 0) hA
    have d3 := gdY (t := 3) hA
    have d4 := gdY (t := 4) hA
    have d5 := gdY (t := 5) hA
    have d6 := gdY (t := 6) hA
    by_cases hlt : k < 4
    · have hq := stp_q p h0 h1 k hlt
      have hl := rsL_len p h0 h1 k hk
      obtain ⟨hs1, hs2⟩ := rsL_step p h0 h1 k hlt
      have hl2 := (rsL_len p h0 h1 (k + 1) (by omega)).1
      have hst : (stp p (k + 1)).1 = (stp p k).1 % bl k := rfl
      have hb1 : 0 < bl (k + 1) ∧ bl (k + 1) ≤ 6 := by
        have : k = 0 ∨ k = 1 ∨ k = 2 ∨ k = 3 := by omega
        rcases this with rfl | rfl | rfl | rfl <;> simp [bl]
      have hbl : k < 3 → bl k / (3 - (k : Int)) = bl (k + 1) := by
        intro h3
        have : k = 0 ∨ k = 1 ∨ k = 2 := by omega
        rcases this with rfl | rfl | rfl <;> rfl
      have hbl3 : k = 3 → bl (k + 1) = bl k := by rintro rfl; rfl
      generalize stp p k = s at *
      obtain ⟨X, L, O⟩ := s
      dsimp only at hq hst hs1 hs2 d0
      generalize bl k = bk at *
      obtain ⟨x1, x2, x3, x4, x5, x6, x7, x8⟩ := hq
      obtain ⟨l1, l2⟩ := hl
      obtain ⟨q, hqq⟩ : ∃ q : Nat, X / bk = (q : Int) := ⟨(X / bk).toNat, by omega⟩
      have hqn : (X / bk).toNat = q := by omega
      rw [hqn] at hs1 hs2
      generalize rsL p k = rs at *
      generalize osL p k = os at *
      have hq1 : ((q : Int) + 1).toNat = q + 1 := by omega
      have her : rs.eraseIdx q = rs.take q ++ (rs.drop (q + 1)).take (4 - k - (q + 1)) := by
        rw [List.eraseIdx_eq_take_drop_succ, List.take_of_length_le (l := rs.drop (q + 1)) (by rw [List.length_drop]; omega)]
      have hxg := hx.get; have hxs := hx.size; (try simp only [nx] at hxs)
      repeat' first | refine rnY ?_ | with_reducible refine And.intro (fun hc => ?_) (fun hc => ?_) | fail
      by_cases hk3 : k = 3
      · subst hk3
        obtain rfl : q = 0 := by omega
        have hbl3 := hbl3 rfl
        clear hbl
        refine AWp.zreg [(1, none), (2, none), (3, none), (5, none), (6, none), (7, none), (8, none), (0, some []), (4, some []), (9, some []), (10, none)] mixed (by kernel_rfl) ?_
        repeat' first | refine rzY ?_ | fail
        refine athen_n ?_
        refine AWp.freezeI (t := 3) (rsL p (3 + 1)) (4 - (3 + 1)) (by exact ivY) (get_push_eq (by exact ivY)) (by apply Eq.symm; apply List.eq_nil_of_length_eq_zero; exact hl2) (by omega) hl2 ?_
        repeat' first | refine rnY ?_ | with_reducible refine And.intro (fun hc => ?_) (fun hc => ?_) | fail
        exact ⟨⟨3 + 1, agY, by omega, by exact exY⟩, by exact ivY⟩
      · have hbl := hbl (by omega)
        clear hbl3
        have hkk : 4 - (k + 1) = 3 - k := by omega
        by_cases hq0 : q = 0
        · subst hq0
          have hk4 : 4 - k - (0 + 1) = 3 - k := by omega
          have hr0 : 3 - k ≠ 0 := by omega
          refine AWp.zreg [(1, none), (2, none), (3, none), (5, none), (6, none), (7, none), (8, none), (0, some []), (4, some []), (9, some []), (10, none)] mixed (by kernel_rfl) ?_
          repeat' first | refine rzY ?_ | fail
          refine athen_n ?_
          refine AWp.freezeI (t := 3) (rsL p (k + 1)) (4 - (k + 1)) (by exact ivY) (get_push_eq (by exact ivY)) (by rw [hs1, her, List.take_zero, List.nil_append, hk4]) (by omega) hl2 ?_
          repeat' first | refine rnY ?_ | with_reducible refine And.intro (fun hc => ?_) (fun hc => ?_) | fail
          exact ⟨⟨k + 1, agY, by omega, by exact exY⟩, by exact ivY⟩
        · by_cases hr0 : 4 - k - (q + 1) = 0
          · refine AWp.zreg [(1, none), (2, none), (3, none), (5, none), (6, none), (7, none), (8, none), (0, some []), (4, some []), (9, some []), (10, none)] mixed (by kernel_rfl) ?_
            repeat' first | refine rzY ?_ | (refine appI0 (get_push_eq (by exact sdY)) (by omega) ?_; refine hgY ?_) | fail
            refine athen_n ?_
            refine AWp.freezeI (t := 3) (rsL p (k + 1)) (4 - (k + 1)) (by exact ivY) (get_push_eq (by exact ivY)) (by rw [hs1, her, hr0, List.take_zero, List.append_nil]) (by omega) hl2 ?_
            repeat' first | refine rnY ?_ | with_reducible refine And.intro (fun hc => ?_) (fun hc => ?_) | fail
            exact ⟨⟨k + 1, agY, by omega, by exact exY⟩, by exact ivY⟩
          · refine AWp.zreg [(1, none), (2, none), (3, none), (5, none), (6, none), (7, none), (8, none), (0, some []), (4, some []), (9, some []), (10, none)] mixed (by kernel_rfl) ?_
            repeat' first | refine rzY ?_ | (refine appI (get_push_eq (by exact sdY)) (by exact sdY) (by exact sdY) (by omega) hr0 ?_; refine hgY ?_) | fail
            refine athen_n ?_
            refine AWp.freezeI (t := 3) (rsL p (k + 1)) (4 - (k + 1)) (by exact ivY) (get_push_eq (by exact ivY)) (by rw [hs1, her, List.take_take, Nat.min_self]) (by omega) hl2 ?_
            repeat' first | refine rnY ?_ | with_reducible refine And.intro (fun hc => ?_) (fun hc => ?_) | fail
            exact ⟨⟨k + 1, agY, by omega, by exact exY⟩, by exact ivY⟩
    · obtain rfl : k = 4 := by omega
      have ho : osL p 4 = pmL p := by
        unfold osL pmL
        rw [List.take_of_length_le (by have := stp_len p 4 (by omega) h0 h1; omega)]
      rw [ho] at d4
      repeat' first | refine rnY ?_ | with_reducible refine And.intro (fun hc => ?_) (fun hc => ?_) | fail
      exact hQ.out _ _ (fv) (by exact exY)
end Go.Proofs.YtmoknllbpjpkmaaGreat.Zed
namespace Go.Proofs.YtmoknllbpjpkmaaGreat.Zed
open Go TP
set_option linter.unusedVariables false
set_option linter.unusedSimpArgs false
set_option maxRecDepth 20000
namespace tfW13
theorem tf : (Tryz.prog.underlying 25 = some (.slice 2)) ∧ (el Tryz.prog 25 = some (none, 1)) ∧ (tk Tryz.prog 2 = some none) ∧ (cz Tryz.prog 2 = some 1) ∧ (bz Tryz.prog 2 = some 8) ∧ (zr Tryz.prog 2 = some (.int .i64 0)) := by
  refine ⟨?_, ?_, ?_, ?_, ?_, ?_⟩ <;> kernel_rfl
end tfW13
open tfW13

theorem l06At_z (p f : Int) (h0 : 0 ≤ p) (h1 : p < 24) (hf0 : 0 ≤ f) (hf1 : f < 4) : ZCalls Tryz.prog 86 [I p, I f] (I (pm p f)) := by
  obtain ⟨n, rfl⟩ : ∃ n : Nat, f = n := ⟨f.toNat, by omega⟩
  have hl := (pmL_bd p h0 h1).1
  have hpm : pm p (n : Int) = (pmL p).getD n 0 := by unfold pm; rw [Int.toNat_natCast]
  rw [hpm]
  refine ZCalls.body Tryz.func86 rfl Tryz.ntmps86 (rs := [.tmp 4]) rfl (by simp) rfl fun H Q hQ A hA => ?_
  have a0 := hA 0 _ _ rfl
  have a1 := hA 1 _ _ rfl
  clear hA
  repeat' first | refine rnY ?_ | (first | refine ZCalls.to (l06Images_z p h0 h1) ?_ | refine ZCalls.tf (l06Images_z p h0 h1) ?_) | with_reducible refine And.intro (fun hc => ?_) (fun hc => ?_) | fail
  exact hQ.out _ _ (fv) (by exact exY)
set_option maxHeartbeats 2000000 in
theorem l06Index_z {l : List Int} (hl : l.length = 4) (hb : ∀ x ∈ l, 0 ≤ x ∧ x ≤ 3) : ZCalls Tryz.prog 120 [FZ 1 4 (ints l)] (I (ixs l 3)) := by
  have hib : ∀ j, j ≤ 4 → -100 ≤ ixs l j ∧ ixs l j ≤ 100 := by
    intro j hj
    obtain ⟨e0, e1, e2, e3, rfl⟩ := four hl
    exact ixs_bd e0 e1 e2 e3 (hb _ (by simp)) (hb _ (by simp)) (hb _ (by simp)) (hb _ (by simp)) j hj
  have hbd : ∀ j, 0 ≤ l.getD j 0 ∧ l.getD j 0 ≤ 3 := getD_bd4 hl hb
  refine ZCalls.body Tryz.func120 rfl Tryz.ntmps120 (rs := [.tmp 2]) rfl (by simp) rfl fun H Q hQ A hA => ?_
  have a0 := hA 0 _ _ rfl
  clear hA
  repeat' first | refine rnY ?_ | with_reducible refine And.intro (fun hc => ?_) (fun hc => ?_) | fail
  refine AWp.cut (fun Ac hAc => ?_)
  have c0 := gtY (t := 0) hAc
  have c3 := gtY (t := 3) hAc
  have c4 := gtY (t := 4) hAc
  have c5 := gtY (t := 5) hAc
  clear a0
  refine AWp.loop (fun A' H' => ∃ (j : Nat), Ag [6, 7, 8, 9, 10, 11, 12, 13, 14, 15, 16, 17, 18, 19, 20, 21, 22, 23, 24, 25, 26, 27, 28, 29, 30, 31, 32, 33, 34, 35, 36, 37, 38, 39, 40] A' (put (put (put Ac (some 3) (I (ixs l j))) (some 4) (I (bl j))) (some 5) (I j)) ∧ j ≤ 3 ∧ H' = H) (fun A' _ => 3 - (intV (A' 5)).toNat) ?_ ?_
  · have e0 : ixs l 0 = 0 := rfl
    have e1 : bl 0 = 6 := rfl
    exact ⟨0, agY, by omega, rfl⟩
  · rintro A1 H1 ⟨j, hA, hj, rfl⟩
    have d0 := gdY (t := 0) hA
    have d3 := gdY (t := 3) hA
    have d4 := gdY (t := 4) hA
    have d5 := gdY (t := 5) hA
    by_cases hlt : j < 3
    · have hbl : 0 < bl j ∧ bl j ≤ 6 ∧ bl j / (3 - (j : Int)) = bl (j + 1) ∧ 0 < bl (j + 1) ∧ bl (j + 1) ≤ 6 := by
        have : j = 0 ∨ j = 1 ∨ j = 2 := by omega
        rcases this with rfl | rfl | rfl <;> exact ⟨by decide, by decide, by decide, by decide, by decide⟩
      obtain ⟨y1, y2, y3, y4, y5⟩ := hbl
      have hbj := hbd j
      have hix : ixs l (j + 1) = ixs l j + (l.getD j 0 - cnt l (l.getD j 0) j) * bl j := rfl
      have hi1 := hib j (by omega)
      have hi2 := hib (j + 1) (by omega)
      clear hib
      repeat' first | refine rnY ?_ | with_reducible refine And.intro (fun hc => ?_) (fun hc => ?_) | fail
      refine AWp.cut (fun Ae hAe => ?_)
      have e0 := gtY (t := 0) hAe
      have e3 := gtY (t := 3) hAe
      have e4 := gtY (t := 4) hAe
      have e5 := gtY (t := 5) hAe
      have e6 := gtY (t := 6) hAe
      have e7 := gtY (t := 7) hAe
      refine AWp.loop (fun A' H' => ∃ (i : Nat), Ag [16, 17, 18, 19, 20, 21, 22, 23, 24, 25, 26, 27, 28, 29, 30, 31] A' (put (put Ae (some 6) (I (l.getD j 0 - cnt l (l.getD j 0) i))) (some 7) (I i)) ∧ i ≤ j ∧ H' = H1) (fun A' _ => j - (intV (A' 7)).toNat) ?_ ?_
      · have e0 : cnt l (l.getD j 0) 0 = 0 := rfl
        exact ⟨0, agY, by omega, rfl⟩
      · rintro A2 H2 ⟨i, hB, hi, rfl⟩
        have f0 := gdY (t := 0) hB
        have f3 := gdY (t := 3) hB
        have f4 := gdY (t := 4) hB
        have f5 := gdY (t := 5) hB
        have f6 := gdY (t := 6) hB
        have f7 := gdY (t := 7) hB
        have hcc := cnt_succ l (l.getD j 0) i (by omega)
        have hcb := cnt_bd l (l.getD j 0) i
        have hbi := hbd i
        clear hbd
        by_cases hij : i < j
        · by_cases hless : l.getD i 0 < l.getD j 0
          · rw [if_pos hless] at hcc
            repeat' first | refine rnY ?_ | with_reducible refine And.intro (fun hc => ?_) (fun hc => ?_) | fail
            refine AWp.zreg [(0, none), (1, none), (2, none), (3, none), (4, none), (5, none), (6, none), (7, none), (8, none)] mixed (by kernel_rfl) ?_
            repeat' first | refine rzY ?_ | fail
            repeat' first | refine rnY ?_ | with_reducible refine And.intro (fun hc => ?_) (fun hc => ?_) | fail
            exact ⟨⟨i + 1, agY, by omega, rfl⟩, by exact ivY⟩
          · rw [if_neg hless] at hcc
            repeat' first | refine rnY ?_ | with_reducible refine And.intro (fun hc => ?_) (fun hc => ?_) | fail
            refine AWp.zreg [(0, none), (1, none), (2, none), (3, none), (4, none), (5, none), (6, none), (7, none), (8, none)] mixed (by kernel_rfl) ?_
            repeat' first | refine rzY ?_ | fail
            repeat' first | refine rnY ?_ | with_reducible refine And.intro (fun hc => ?_) (fun hc => ?_) | fail
            exact ⟨⟨i + 1, agY, by omega, rfl⟩, by exact ivY⟩
        · obtain rfl : i = j := by omega
          have hcm : (l.getD i 0 - cnt l (l.getD i 0) i) * bl i = bl i * (l.getD i 0 - cnt l (l.getD i 0) i) := Int.mul_comm _ _
          rw [hcm] at hix
          generalize hw : bl i * (l.getD i 0 - cnt l (l.getD i 0) i) = w at hix
          repeat' first | refine rnY ?_ | with_reducible refine And.intro (fun hc => ?_) (fun hc => ?_) | fail
          exact ⟨⟨i + 1, agY, by omega, rfl⟩, by exact ivY⟩
    · obtain rfl : j = 3 := by omega
      repeat' first | refine rnY ?_ | with_reducible refine And.intro (fun hc => ?_) (fun hc => ?_) | fail
      exact hQ.out _ _ (fv) (by exact exY)
theorem back_fin : ∀ n : Fin 24, ixs (ivs (pmL (n.val : Int)) 4) 3 = invL (n.val : Int) := by decide +kernel
theorem back_eq (p : Int) (h0 : 0 ≤ p) (h1 : p < 24) : ixs (ivs (pmL p) 4) 3 = invL p := by
  have := back_fin ⟨p.toNat, by omega⟩
  simpa [Int.toNat_of_nonneg h0] using this
set_option maxHeartbeats 2000000 in
theorem l06Back_z (p : Int) (h0 : 0 ≤ p) (h1 : p < 24) : ZCalls Tryz.prog 87 [I p] (I (invL p)) := by
  obtain ⟨hl, hbd⟩ := pmL_bd p h0 h1
  have hil := ivs_len (pmL p)
  have hib := ivs_bd (pmL p)
  refine ZCalls.body Tryz.func87 rfl Tryz.ntmps87 (rs := [.tmp 2]) rfl (by simp) rfl fun H Q hQ A hA => ?_
  have a0 := hA 0 _ _ rfl
  clear hA
  repeat' first | refine roY ?_ | (first | refine ZCalls.to (l06Images_z p h0 h1) ?_ | refine ZCalls.tf (l06Images_z p h0 h1) ?_) | with_reducible refine And.intro (fun hc => ?_) (fun hc => ?_) | fail
  refine AWp.cut (fun Ac hAc => ?_)
  have c3 := gtY (t := 3) hAc
  have c4 := gtY (t := 4) hAc
  have c5 := gtY (t := 5) hAc
  clear a0
  refine AWp.loop (fun A' H' => ∃ (j : Nat), Ag [9, 10, 11, 12, 13, 14, 15, 16, 17, 18, 19] A' (put Ac (some 5) (I j)) ∧ j ≤ 4 ∧ H' = H.push (.cells (ints (ivs (pmL p) j)) 1 false)) (fun A' _ => 4 - (intV (A' 5)).toNat) ?_ ?_
  · have e0 : ivs (pmL p) 0 = [0, 0, 0, 0] := rfl
    exact ⟨0, agY, by omega, by exact ivY⟩
  · rintro A1 H1 ⟨j, hA, hj, rfl⟩
    have d3 := gdY (t := 3) hA
    have d4 := gdY (t := 4) hA
    have d5 := gdY (t := 5) hA
    have hlj := hil j
    by_cases hlt : j < 4
    · have hw := getD_bd4 hl hbd j
      obtain ⟨q, hq⟩ : ∃ q : Nat, (pmL p).getD j 0 = (q : Int) := ⟨((pmL p).getD j 0).toNat, by omega⟩
      have hstep : ivs (pmL p) (j + 1) = (ivs (pmL p) j).set ((pmL p).getD j 0).toNat j := rfl
      rw [hq, Int.toNat_natCast] at hstep
      rw [hq] at hw
      generalize ivs (pmL p) j = W at *
      clear hil hib
      repeat' first | refine roY ?_ | with_reducible refine And.intro (fun hc => ?_) (fun hc => ?_) | fail
      exact ⟨⟨j + 1, agY, by omega, by rw [hstep]⟩, by exact ivY⟩
    · obtain rfl : j = 4 := by omega
      have hi4 := hib 4 (by omega)
      have hbe := back_eq p h0 h1
      have hz := l06Index_z hlj hi4
      rw [hbe] at hz
      clear hil hib
      refine AWp.freezeI (t := 4) (ivs (pmL p) 4) 4 (by exact ivY) (get_push_eq rfl) rfl rfl hlj ?_
      repeat' first | refine roY ?_ | (first | refine ZCalls.to (hz) ?_ | refine ZCalls.tf (hz) ?_) | with_reducible refine And.intro (fun hc => ?_) (fun hc => ?_) | fail
      exact hQ.out _ _ (fv) (by exact exY)
end Go.Proofs.YtmoknllbpjpkmaaGreat.Zed
