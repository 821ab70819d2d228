/- A part of the walk: what functions of the program do, over an abstract heap. -/
import Derived.Test.YtmoknllbpjpkmaaX12
import Derived.Test.YtmoknllbpjpkmaaW8
namespace Go.Proofs.Ytmoknllbpjpkmaa.Zed
open Go TP
set_option linter.unusedVariables false
set_option linter.unusedSimpArgs false
set_option maxRecDepth 20000
namespace tfX13
theorem tf : (Try.prog.underlying 25 = some (.slice 2)) ∧ (el Try.prog 25 = some (none, 1)) ∧ (tk Try.prog 2 = some none) ∧ (tk Try.prog 121 = some (some 3)) ∧ (cz Try.prog 2 = some 1) ∧ (bz Try.prog 2 = some 8) ∧ (zr Try.prog 2 = some (.int .i64 0)) ∧ (fo Try.prog 121 0 = some (0, none)) := by
  refine ⟨?_, ?_, ?_, ?_, ?_, ?_, ?_, ?_⟩ <;> kernel_rfl
end tfX13
open tfX13

def rowN (L : List Int) (C r : Nat) : List Int := (L.drop (r * C)).take C
theorem rowN_len {L : List Int} {R C r : Nat} (hL : L.length = R * C) (hr : r < R) : (rowN L C r).length = C := by
  unfold rowN
  have := Nat.mul_le_mul_right C (show r + 1 ≤ R by omega)
  rw [Nat.succ_mul] at this
  rw [List.length_take, List.length_drop]; omega
set_option maxHeartbeats 2000000 in
theorem solves_z {R C : Nat} {L w : List Int} {A B' : Int} (hL : L.length = R * C) (hR : R ≤ 1000) (hC : C ≤ 1000) (hw : C ≤ w.length) (hw2 : w.length ≤ 100000) (hA : 0 ≤ A ∧ A ≤ 10000) (hB : 0 ≤ B' ∧ B' ≤ 100000000)
    (hb : ∀ r, r < R → ∀ j, -A ≤ (rowN L C r).getD j 0 ∧ (rowN L C r).getD j 0 ≤ A) (hbw : ∀ j, -B' ≤ w.getD j 0 ∧ w.getD j 0 ≤ B') :
    ZCalls Try.prog 119 [mxV R C L, zI w] (B (decide (∀ r, r < R → dotL (rowN L C r) w C = 0))) := by
  have hrow := fun i hi => mrow_z (R := R) (C := C) (L := L) i hi hL (Nat.le_trans (Nat.mul_le_mul hR hC) (by omega)) (by omega) (by omega)
  have hlen := fun i (hi : i < R) => rowN_len hL hi
  have hdd := fun i hi => dotL_bd (hb i hi) hbw
  have hmm := fun i hi j => mul_bd (hb i hi j) (hbw j)
  change ∀ i, i < R → ZCalls _ _ _ (FZ 1 C (ints (rowN L C i))) at hrow
  have hAB : A * B' ≤ 1000000000000 := by
    have := Int.mul_le_mul hA.2 hB.2 hB.1 (by omega)
    omega
  have hAB0 : 0 ≤ A * B' := Int.mul_nonneg hA.1 hB.1
  generalize A * B' = M at *
  have hkM : ∀ k : Nat, k ≤ C → (k : Int) * M ≤ 1000000000000000 := fun k hk => by
    have := Int.mul_le_mul (show (k : Int) ≤ 1000 by omega) hAB hAB0 (by omega)
    omega
  clear hb hbw
  refine ZCalls.body Try.func119 rfl Try.ntmps119 (rs := [.tmp 4]) rfl (by simp) rfl fun H Q hQ A hA => ?_
  have a0 := hA 0 _ _ rfl
  have a1 := hA 1 _ _ rfl
  clear hA
  repeat' first | refine rnY ?_ | with_reducible refine And.intro (fun hc => ?_) (fun hc => ?_) | fail
  refine AWp.cut (fun Ac hAc => ?_)
  have c1 := gtY (t := 1) hAc
  have c2 := gtY (t := 2) hAc
  have c10 := gtY (t := 10) hAc
  have c11 := gtY (t := 11) hAc
  clear a0 a1
  refine AWp.loop (fun A' H' => ∃ (i : Nat), Ag [5, 6, 7, 8, 12, 13, 14, 15, 16, 17, 18, 19, 20, 21, 22, 23, 24, 25, 26, 27, 28, 29, 30, 31, 32, 33, 34] A' (put Ac (some 11) (I i)) ∧ i ≤ R ∧ (∀ r, r < i → dotL (rowN L C r) w C = 0) ∧ Ext H H') (fun A' _ => R - (intV (A' 11)).toNat) ?_ ?_
  · exact ⟨0, agY, by omega, fun r hr => by omega, by exact exY⟩
  · rintro A1 H1 ⟨i, hA1, hi, hz, hx⟩
    have d1 := gdY (t := 1) hA1
    have d2 := gdY (t := 2) hA1
    have d10 := gdY (t := 10) hA1
    have d11 := gdY (t := 11) hA1
    by_cases hlt : i < R
    · have hri := hrow i hlt
      simp only [Zed.mxV, Zed.zI, hL] at hri
      have hln := hlen i hlt
      have hd := hdd i hlt
      have hm := hmm i hlt
      have hdec : dotL (rowN L C i) w C ≠ 0 → decide (∀ r, r < R → dotL (rowN L C r) w C = 0) = false := fun h => decide_eq_false fun q => h (q i hlt)
      have hnx : dotL (rowN L C i) w C = 0 → ∀ r, r < i + 1 → dotL (rowN L C r) w C = 0 := fun h r hr => by
        by_cases e : r = i
        · rw [e]; exact h
        · exact hz r (by omega)
      clear hrow hlen hdd hmm
      generalize rowN L C i = row at *
      repeat' first | refine rnY ?_ | (first | refine ZCalls.to (hri) ?_ | refine ZCalls.tf (hri) ?_) | with_reducible refine And.intro (fun hc => ?_) (fun hc => ?_) | fail
      refine AWp.cut (fun Ae hAe => ?_)
      have e1 := gtY (t := 1) hAe
      have e2 := gtY (t := 2) hAe
      have e10 := gtY (t := 10) hAe
      have e11 := gtY (t := 11) hAe
      have e16 := gtY (t := 16) hAe
      have e17 := gtY (t := 17) hAe
      have e6 := gtY (t := 6) hAe
      have e18 := gtY (t := 18) hAe
      clear hri
      refine AWp.loop (fun A' H' => ∃ (k : Nat), Ag [7, 8, 19, 20, 21, 22, 23, 24, 25, 26, 27, 28, 29, 30, 31] A' (put (put Ae (some 6) (I (dotL row w k))) (some 18) (I k)) ∧ k ≤ C ∧ Ext H1 H') (fun A' _ => C - (intV (A' 18)).toNat) ?_ ?_
      · exact ⟨0, by rw [show dotL row w 0 = 0 from rfl]; exact agY, by omega, by exact exY⟩
      · rintro A2 H2 ⟨k, hA2, hk, hx2⟩
        have f1 := gdY (t := 1) hA2
        have f2 := gdY (t := 2) hA2
        have f6 := gdY (t := 6) hA2
        have f10 := gdY (t := 10) hA2
        have f11 := gdY (t := 11) hA2
        have f16 := gdY (t := 16) hA2
        have f17 := gdY (t := 17) hA2
        have f18 := gdY (t := 18) hA2
        by_cases hkC : k < C
        · have hst : dotL row w (k + 1) = dotL row w k + row.getD k 0 * w.getD k 0 := rfl
          have hdk := hd k
          have hmk := hm k
          have hkk := hkM k (by omega)
          generalize (k : Int) * M = kM at *
          generalize dotL row w k = s at *
          generalize hx : row.getD k 0 = x at *
          generalize hy : w.getD k 0 = y at *
          obtain ⟨p, hp⟩ : ∃ p, x * y = p := ⟨_, rfl⟩
          rw [hp] at hmk hst
          clear hd hm hkM hdec hnx hz
          repeat' first | refine rnY ?_ | with_reducible refine And.intro (fun hc => ?_) (fun hc => ?_) | fail
          exact ⟨⟨k + 1, agY, by omega, by exact exY⟩, by exact ivY⟩
        · obtain rfl : k = C := by omega
          by_cases h0 : dotL row w k = 0
          · have hnx := hnx h0
            clear hd hm hkM hdec
            repeat' first | refine rnY ?_ | with_reducible refine And.intro (fun hc => ?_) (fun hc => ?_) | fail
            exact ⟨⟨i + 1, agY, by omega, hnx, by exact exY⟩, by exact ivY⟩
          · rw [hdec h0] at hQ
            clear hd hm hkM hdec hnx
            generalize dotL row w k = s at *
            repeat' first | refine rnY ?_ | with_reducible refine And.intro (fun hc => ?_) (fun hc => ?_) | fail
            exact hQ.out _ _ (fv) (by exact exY)
    · obtain rfl : i = R := by omega
      rw [decide_eq_true hz] at hQ
      clear hrow hlen hdd hmm hkM
      repeat' first | refine rnY ?_ | with_reducible refine And.intro (fun hc => ?_) (fun hc => ?_) | fail
      exact hQ.out _ _ (fv) (by exact exY)
end Go.Proofs.Ytmoknllbpjpkmaa.Zed
