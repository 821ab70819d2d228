/- A part of the walk: what functions of the program do, over an abstract heap. -/
import Derived.Test.YtmoknllbpjpkmaaW12
namespace Go.Proofs.Ytmoknllbpjpkmaa.Zed
open Go TP
set_option linter.unusedVariables false
set_option linter.unusedSimpArgs false
set_option maxRecDepth 20000
namespace tfW13
theorem tf : (Try.prog.underlying 25 = some (.slice 2)) ∧ (el Try.prog 25 = some (none, 1)) ∧ (tk Try.prog 2 = some none) ∧ (cz Try.prog 2 = some 1) ∧ (bz Try.prog 2 = some 8) ∧ (zr Try.prog 2 = some (.int .i64 0)) := by
  refine ⟨?_, ?_, ?_, ?_, ?_, ?_⟩ <;> kernel_rfl
end tfW13
open tfW13

theorem l06At_z (p f : Int) (h0 : 0 ≤ p) (h1 : p < 24) (hf0 : 0 ≤ f) (hf1 : f < 4) : ZCalls Try.prog 152 [I p, I f] (I (pm p f)) := by
  obtain ⟨n, rfl⟩ : ∃ n : Nat, f = n := ⟨f.toNat, by omega⟩
  have hl := (pmL_bd p h0 h1).1
  have hpm : pm p (n : Int) = (pmL p).getD n 0 := by unfold pm; rw [Int.toNat_natCast]
  rw [hpm]
  refine ZCalls.body Try.func152 rfl Try.ntmps152 (rs := [.tmp 4]) rfl (by simp) rfl fun H Q hQ A hA => ?_
  have a0 := hA 0 _ _ rfl
  have a1 := hA 1 _ _ rfl
  clear hA
  repeat' first | refine rnY ?_ | (first | refine ZCalls.to (l06Images_z p h0 h1) ?_ | refine ZCalls.tf (l06Images_z p h0 h1) ?_) | with_reducible refine And.intro (fun hc => ?_) (fun hc => ?_) | fail
  exact hQ.out _ _ (fv) (by exact exY)
set_option maxHeartbeats 2000000 in
theorem l06Index_z {l : List Int} (hl : l.length = 4) (hb : ∀ x ∈ l, 0 ≤ x ∧ x ≤ 3) : ZCalls Try.prog 184 [FZ 1 4 (ints l)] (I (ixs l 3)) := by
  have hib : ∀ j, j ≤ 4 → -100 ≤ ixs l j ∧ ixs l j ≤ 100 := by
    intro j hj
    obtain ⟨e0, e1, e2, e3, rfl⟩ := four hl
    exact ixs_bd e0 e1 e2 e3 (hb _ (by simp)) (hb _ (by simp)) (hb _ (by simp)) (hb _ (by simp)) j hj
  have hbd : ∀ j, 0 ≤ l.getD j 0 ∧ l.getD j 0 ≤ 3 := getD_bd4 hl hb
  refine ZCalls.body Try.func184 rfl Try.ntmps184 (rs := [.tmp 2]) rfl (by simp) rfl fun H Q hQ A hA => ?_
  have a0 := hA 0 _ _ rfl
  clear hA
  repeat' first | refine rnY ?_ | with_reducible refine And.intro (fun hc => ?_) (fun hc => ?_) | fail
  refine AWp.cut (fun Ac hAc => ?_)
  have c0 := gtY (t := 0) hAc
  have c3 := gtY (t := 3) hAc
  have c4 := gtY (t := 4) hAc
  have c5 := gtY (t := 5) hAc
  clear a0
  refine AWp.loop (fun A' H' => ∃ (j : Nat), Ag [6, 7, 8, 9, 10, 11, 12, 13, 14, 15, 16, 17, 18, 19, 20, 21, 22, 23, 24, 25, 26, 27, 28, 29, 30, 31, 32, 33, 34, 35, 36, 37, 38, 39, 40] A' (put (put (put Ac (some 3) (I (ixs l j))) (some 4) (I (bl j))) (some 5) (I j)) ∧ j ≤ 3 ∧ H' = H) (fun A' _ => 3 - (intV (A' 5)).toNat) ?_ ?_
  · have e0 : ixs l 0 = 0 := rfl
    have e1 : bl 0 = 6 := rfl
    exact ⟨0, agY, by omega, rfl⟩
  · rintro A1 H1 ⟨j, hA, hj, rfl⟩
    have d0 := gdY (t := 0) hA
    have d3 := gdY (t := 3) hA
    have d4 := gdY (t := 4) hA
    have d5 := gdY (t := 5) hA
    by_cases hlt : j < 3
    · have hbl : 0 < bl j ∧ bl j ≤ 6 ∧ bl j / (3 - (j : Int)) = bl (j + 1) ∧ 0 < bl (j + 1) ∧ bl (j + 1) ≤ 6 := by
        have : j = 0 ∨ j = 1 ∨ j = 2 := by omega
        rcases this with rfl | rfl | rfl <;> exact ⟨by decide, by decide, by decide, by decide, by decide⟩
      obtain ⟨y1, y2, y3, y4, y5⟩ := hbl
      have hbj := hbd j
      have hix : ixs l (j + 1) = ixs l j + (l.getD j 0 - cnt l (l.getD j 0) j) * bl j := rfl
      have hi1 := hib j (by omega)
      have hi2 := hib (j + 1) (by omega)
      clear hib
      repeat' first | refine rnY ?_ | with_reducible refine And.intro (fun hc => ?_) (fun hc => ?_) | fail
      refine AWp.cut (fun Ae hAe => ?_)
      have e0 := gtY (t := 0) hAe
      have e3 := gtY (t := 3) hAe
      have e4 := gtY (t := 4) hAe
      have e5 := gtY (t := 5) hAe
      have e6 := gtY (t := 6) hAe
      have e7 := gtY (t := 7) hAe
      refine AWp.loop (fun A' H' => ∃ (i : Nat), Ag [16, 17, 18, 19, 20, 21, 22, 23, 24, 25, 26, 27, 28, 29, 30, 31] A' (put (put Ae (some 6) (I (l.getD j 0 - cnt l (l.getD j 0) i))) (some 7) (I i)) ∧ i ≤ j ∧ H' = H1) (fun A' _ => j - (intV (A' 7)).toNat) ?_ ?_
      · have e0 : cnt l (l.getD j 0) 0 = 0 := rfl
        exact ⟨0, agY, by omega, rfl⟩
      · rintro A2 H2 ⟨i, hB, hi, rfl⟩
        have f0 := gdY (t := 0) hB
        have f3 := gdY (t := 3) hB
        have f4 := gdY (t := 4) hB
        have f5 := gdY (t := 5) hB
        have f6 := gdY (t := 6) hB
        have f7 := gdY (t := 7) hB
        have hcc := cnt_succ l (l.getD j 0) i (by omega)
        have hcb := cnt_bd l (l.getD j 0) i
        have hbi := hbd i
        clear hbd
        by_cases hij : i < j
        · by_cases hless : l.getD i 0 < l.getD j 0
          · rw [if_pos hless] at hcc
            repeat' first | refine rnY ?_ | with_reducible refine And.intro (fun hc => ?_) (fun hc => ?_) | fail
            refine AWp.zreg [(0, none), (1, none), (2, none), (3, none), (4, none), (5, none), (6, none), (7, none), (8, none)] mixed (by kernel_rfl) ?_
            repeat' first | refine rzY ?_ | fail
            repeat' first | refine rnY ?_ | with_reducible refine And.intro (fun hc => ?_) (fun hc => ?_) | fail
            exact ⟨⟨i + 1, agY, by omega, rfl⟩, by exact ivY⟩
          · rw [if_neg hless] at hcc
            repeat' first | refine rnY ?_ | with_reducible refine And.intro (fun hc => ?_) (fun hc => ?_) | fail
            refine AWp.zreg [(0, none), (1, none), (2, none), (3, none), (4, none), (5, none), (6, none), (7, none), (8, none)] mixed (by kernel_rfl) ?_
            repeat' first | refine rzY ?_ | fail
            repeat' first | refine rnY ?_ | with_reducible refine And.intro (fun hc => ?_) (fun hc => ?_) | fail
            exact ⟨⟨i + 1, agY, by omega, rfl⟩, by exact ivY⟩
        · obtain rfl : i = j := by omega
          have hcm : (l.getD i 0 - cnt l (l.getD i 0) i) * bl i = bl i * (l.getD i 0 - cnt l (l.getD i 0) i) := Int.mul_comm _ _
          rw [hcm] at hix
          generalize hw : bl i * (l.getD i 0 - cnt l (l.getD i 0) i) = w at hix
          repeat' first | refine rnY ?_ | with_reducible refine And.intro (fun hc => ?_) (fun hc => ?_) | fail
          exact ⟨⟨i + 1, agY, by omega, rfl⟩, by exact ivY⟩
    · obtain rfl : j = 3 := by omega
      repeat' first | refine rnY ?_ | with_reducible refine And.intro (fun hc => ?_) (fun hc => ?_) | fail
      exact hQ.out _ _ (fv) (by exact exY)
theorem back_fin : ∀ n : Fin 24, ixs (ivs (pmL (n.val : Int)) 4) 3 = invL (n.val : Int) := by decide +kernel
theorem back_eq (p : Int) (h0 : 0 ≤ p) (h1 : p < 24) : ixs (ivs (pmL p) 4) 3 = invL p := by
  have := back_fin ⟨p.toNat, by omega⟩
  simpa [Int.toNat_of_nonneg h0] using this
set_option maxHeartbeats 2000000 in
theorem l06Back_z (p : Int) (h0 : 0 ≤ p) (h1 : p < 24) : ZCalls Try.prog 153 [I p] (I (invL p)) := by
  obtain ⟨hl, hbd⟩ := pmL_bd p h0 h1
  have hil := ivs_len (pmL p)
  have hib := ivs_bd (pmL p)
  refine ZCalls.body Try.func153 rfl Try.ntmps153 (rs := [.tmp 2]) rfl (by simp) rfl fun H Q hQ A hA => ?_
  have a0 := hA 0 _ _ rfl
  clear hA
  repeat' first | refine roY ?_ | (first | refine ZCalls.to (l06Images_z p h0 h1) ?_ | refine ZCalls.tf (l06Images_z p h0 h1) ?_) | with_reducible refine And.intro (fun hc => ?_) (fun hc => ?_) | fail
  refine AWp.cut (fun Ac hAc => ?_)
  have c3 := gtY (t := 3) hAc
  have c4 := gtY (t := 4) hAc
  have c5 := gtY (t := 5) hAc
  clear a0
  refine AWp.loop (fun A' H' => ∃ (j : Nat), Ag [9, 10, 11, 12, 13, 14, 15, 16, 17, 18, 19] A' (put Ac (some 5) (I j)) ∧ j ≤ 4 ∧ H' = H.push (.cells (ints (ivs (pmL p) j)) 1 false)) (fun A' _ => 4 - (intV (A' 5)).toNat) ?_ ?_
  · have e0 : ivs (pmL p) 0 = [0, 0, 0, 0] := rfl
    exact ⟨0, agY, by omega, by exact ivY⟩
  · rintro A1 H1 ⟨j, hA, hj, rfl⟩
    have d3 := gdY (t := 3) hA
    have d4 := gdY (t := 4) hA
    have d5 := gdY (t := 5) hA
    have hlj := hil j
    by_cases hlt : j < 4
    · have hw := getD_bd4 hl hbd j
      obtain ⟨q, hq⟩ : ∃ q : Nat, (pmL p).getD j 0 = (q : Int) := ⟨((pmL p).getD j 0).toNat, by omega⟩
      have hstep : ivs (pmL p) (j + 1) = (ivs (pmL p) j).set ((pmL p).getD j 0).toNat j := rfl
      rw [hq, Int.toNat_natCast] at hstep
      rw [hq] at hw
      generalize ivs (pmL p) j = W at *
      clear hil hib
      repeat' first | refine roY ?_ | with_reducible refine And.intro (fun hc => ?_) (fun hc => ?_) | fail
      exact ⟨⟨j + 1, agY, by omega, by rw [hstep]⟩, by exact ivY⟩
    · obtain rfl : j = 4 := by omega
      have hi4 := hib 4 (by omega)
      have hbe := back_eq p h0 h1
      have hz := l06Index_z hlj hi4
      rw [hbe] at hz
      clear hil hib
      refine AWp.freezeI (t := 4) (ivs (pmL p) 4) 4 (by exact ivY) (get_push_eq rfl) rfl rfl hlj ?_
      repeat' first | refine roY ?_ | (first | refine ZCalls.to (hz) ?_ | refine ZCalls.tf (hz) ?_) | with_reducible refine And.intro (fun hc => ?_) (fun hc => ?_) | fail
      exact hQ.out _ _ (fv) (by exact exY)
end Go.Proofs.Ytmoknllbpjpkmaa.Zed
