/- A part of the walk: what functions of the program do, over an abstract heap. -/
import Derived.Test.YtmoknllbpjpkmaaX29
import Derived.Test.YtmoknllbpjpkmaaX15
namespace Go.Proofs.Ytmoknllbpjpkmaa.Zed
open Go TP
set_option linter.unusedVariables false
set_option linter.unusedSimpArgs false
set_option maxRecDepth 20000
namespace tfX30
theorem tf : (Try.prog.underlying 25 = some (.slice 2)) ∧ (el Try.prog 25 = some (none, 1)) ∧ (Try.prog.underlying 51 = some (.slice 25)) ∧ (el Try.prog 51 = some (none, 1)) ∧ (tk Try.prog 2 = some none) ∧ (tk Try.prog 25 = some none) ∧ (tk Try.prog 31 = some (some 1)) ∧ (cz Try.prog 2 = some 1) ∧ (bz Try.prog 2 = some 8) ∧ (cz Try.prog 25 = some 1) ∧ (bz Try.prog 25 = some 24) ∧ (zr Try.prog 2 = some (.int .i64 0)) ∧ (zr Try.prog 25 = some (.slice none 0 0)) := by
  refine ⟨?_, ?_, ?_, ?_, ?_, ?_, ?_, ?_, ?_, ?_, ?_, ?_, ?_⟩ <;> kernel_rfl
end tfX30
open tfX30

set_option maxHeartbeats 4000000 in
theorem specIsNormal_z {T : List (List (Int × Int))} (hl : T.length ≤ 1048576) (v : List Int) (hv : v.length ≤ 1048576) : ZCalls Try.prog 64 [zT T, zI v] (B (decide (codeN T = 0 ∧ NrI T v))) := by
  have hc := l17Code_z hl
  by_cases h : codeN T = 0
  · have hT := codeN_ok h
    have h6 := codeN_six h
    have hrows := l17Rows_z hT.fine
    rw [rows_same hT] at hrows
    have hS1 := mmR_rows T
    have hS2 : ∀ r ∈ mmR T, ∀ j, -4 ≤ r.getD j 0 ∧ r.getD j 0 ≤ 4 := mTs_bd T.length T T.length
    have hS3 := mmR_len T
    rw [h] at hc
    by_cases h2 : v.length = 7 * T.length
    · have h2b : ((v.length : Int) == 7 * (T.length : Int)) = true := by rw [beq_iff_eq]; omega
      have hfal : ∀ j, j < v.length → ¬ (0 ≤ v.getD j 0 ∧ v.getD j 0 ≤ 1000) → decide (codeN T = 0 ∧ NrI T v) = false := fun j hj q => decide_eq_false fun z => q (z.2.2.1 j hj)
      have hfal2 : ∀ i, i < (mmR T).length → ¬ dotL ((mmR T).getD i []) v v.length = 0 → decide (codeN T = 0 ∧ NrI T v) = false := fun i hi q => decide_eq_false fun z => q (by rw [h2]; exact z.2.2.2 i hi)
      have htru : (∀ j, j < v.length → 0 ≤ v.getD j 0 ∧ v.getD j 0 ≤ 1000) → (∀ i, i < (mmR T).length → dotL ((mmR T).getD i []) v v.length = 0) → decide (codeN T = 0 ∧ NrI T v) = true := fun q1 q2 => decide_eq_true ⟨h, h2, q1, by rw [← h2]; exact q2⟩
      rw [← h2] at hS1 hrows
      generalize decide (codeN T = 0 ∧ NrI T v) = out at *
      generalize mmR T = S at *
      have hSl : S.length ≤ 1000 := by omega
      have hvl : v.length ≤ 42 := by omega
      clear hS3 h h2 hT
      refine ZCalls.body Try.func64 rfl Try.ntmps64 (rs := [.tmp 4]) rfl (by simp) rfl fun H Q hQ A hA => ?_
      have a0 := hA 0 _ _ rfl
      have a1 := hA 1 _ _ rfl
      clear hA
      repeat' first | refine rnY ?_ | (first | refine ZCalls.to (hc) ?_ | refine ZCalls.tf (hc) ?_) | (first | refine ZCalls.to (l07Tets_z _ _ _) ?_ | refine ZCalls.tf (l07Tets_z _ _ _) ?_) | with_reducible refine And.intro (fun hc => ?_) (fun hc => ?_) | fail
      refine AWp.cut (fun Ac hAc => ?_)
      have c1 := gtY (t := 1) hAc
      have c2 := gtY (t := 2) hAc
      have c5 := gtY (t := 5) hAc
      clear a0 a1 hc h2b
      refine AWp.loop (fun A' H' => ∃ (k : Nat), Ag [19, 20, 21, 22, 23, 24, 25, 26, 27, 28, 29, 30] A' (put Ac (some 5) (I k)) ∧ k ≤ v.length ∧ (∀ j, j < k → 0 ≤ v.getD j 0 ∧ v.getD j 0 ≤ 1000) ∧ Ext H H') (fun A' _ => v.length - (intV (A' 5)).toNat) ?_ ?_
      · exact ⟨0, agY, by omega, fun j hj => by omega, by exact exY⟩
      · rintro A1 H1 ⟨k, hA1, hk, hno, hx⟩
        have d1 := gdY (t := 1) hA1
        have d2 := gdY (t := 2) hA1
        have d5 := gdY (t := 5) hA1
        by_cases hlt : k < v.length
        · have hin := l01In_z (v.getD k 0) 0 1000
          clear hrows hfal2 htru hS1 hS2
          by_cases hp : 0 ≤ v.getD k 0 ∧ v.getD k 0 ≤ 1000
          · rw [decide_eq_true hp] at hin
            repeat' first | refine rnY ?_ | (first | refine ZCalls.to (hin) ?_ | refine ZCalls.tf (hin) ?_) | with_reducible refine And.intro (fun hc => ?_) (fun hc => ?_) | fail
            exact ⟨⟨k + 1, agY, by omega, fun j hj => by
              by_cases e : j = k
              · rw [e]; exact hp
              · exact hno j (by omega), by exact exY⟩, by exact ivY⟩
          · rw [decide_eq_false hp] at hin
            rw [hfal k hlt hp] at hQ
            repeat' first | refine rnY ?_ | (first | refine ZCalls.to (hin) ?_ | refine ZCalls.tf (hin) ?_) | with_reducible refine And.intro (fun hc => ?_) (fun hc => ?_) | fail
            exact hQ.out _ _ (fv) (by exact exY)
        · obtain rfl : k = v.length := by omega
          have htru := htru hno
          repeat' first | refine rnY ?_ | (first | refine ZCalls.to (hrows) ?_ | refine ZCalls.tf (hrows) ?_) | with_reducible refine And.intro (fun hc => ?_) (fun hc => ?_) | fail
          refine AWp.cut (fun Ae hAe => ?_)
          have e1 := gtY (t := 1) hAe
          have e6 := gtY (t := 6) hAe
          have e7 := gtY (t := 7) hAe
          clear hrows hfal
          refine AWp.loop (fun A' H' => ∃ (i : Nat), Ag [33, 34, 35, 36, 37, 38, 39, 40, 41, 42, 43, 44, 45] A' (put Ae (some 7) (I i)) ∧ i ≤ S.length ∧ (∀ r, r < i → dotL (S.getD r []) v v.length = 0) ∧ Ext H1 H') (fun A' _ => S.length - (intV (A' 7)).toNat) ?_ ?_
          · exact ⟨0, agY, by omega, fun j hj => by omega, by exact exY⟩
          · rintro A2 H2 ⟨i, hA2, hi, hyes, hx2⟩
            have f1 := gdY (t := 1) hA2
            have f6 := gdY (t := 6) hA2
            have f7 := gdY (t := 7) hA2
            by_cases hlt2 : i < S.length
            · have hrl := hS1 (S.getD i []) (by simp [hlt2])
              have hbd := hS2 (S.getD i []) (by simp [hlt2])
              have hat := rowsZ_at (C := v.length) hlt2
              have hfal2 := hfal2 i hlt2
              generalize hrow : S.getD i [] = row at *
              have hdot := l17Dot_z (a := row) (b := v) (A := 4) (B' := 1000) (n := v.length) hrl (Nat.le_refl _) (by omega) (by omega) (by omega) (by omega) hbd
                (fun j => by
                  by_cases hj : j < v.length
                  · have := hno j hj; omega
                  · rw [List.getD_eq_getElem?_getD, List.getElem?_eq_none (by omega)]; simp)
              generalize hs : dotL row v v.length = s at *
              by_cases hsq : s = 0
              · have hsb : (s == 0) = true := by rw [beq_iff_eq]; exact hsq
                have hnx : ∀ r, r < i + 1 → dotL (S.getD r []) v v.length = 0 := fun r hr => by
                  by_cases e : r = i
                  · rw [e, hrow, hs]; exact hsq
                  · exact hyes r (by omega)
                clear htru hfal2 hno hbd hS1 hS2 hyes
                clear hsq
                repeat' first | refine rnY ?_ | (first | refine ZCalls.to (hdot) ?_ | refine ZCalls.tf (hdot) ?_) | with_reducible refine And.intro (fun hc => ?_) (fun hc => ?_) | fail
                exact ⟨⟨i + 1, agY, by omega, hnx, by exact exY⟩, by exact ivY⟩
              · have hsb : (s == 0) = false := by rw [beq_eq_false_iff_ne]; exact hsq
                rw [hfal2 hsq] at hQ
                clear htru hfal2 hno hbd hS1 hS2 hyes
                clear hsq
                repeat' first | refine rnY ?_ | (first | refine ZCalls.to (hdot) ?_ | refine ZCalls.tf (hdot) ?_) | with_reducible refine And.intro (fun hc => ?_) (fun hc => ?_) | fail
                exact hQ.out _ _ (fv) (by exact exY)
            · obtain rfl : i = S.length := by omega
              rw [htru hyes] at hQ
              clear hfal2 hS1 hS2
              repeat' first | refine rnY ?_ | with_reducible refine And.intro (fun hc => ?_) (fun hc => ?_) | fail
              exact hQ.out _ _ (fv) (by exact exY)
    · have h2b : ((v.length : Int) == 7 * (T.length : Int)) = false := by rw [beq_eq_false_iff_ne]; omega
      rw [decide_eq_false (show ¬ (codeN T = 0 ∧ NrI T v) from fun q => h2 q.2.1)]
      clear h2 hrows hS1 hS2 hS3
      refine ZCalls.body Try.func64 rfl Try.ntmps64 (rs := [.tmp 4]) rfl (by simp) rfl fun H Q hQ A hA => ?_
      have a0 := hA 0 _ _ rfl
      have a1 := hA 1 _ _ rfl
      clear hA
      repeat' first | refine rnY ?_ | (first | refine ZCalls.to (hc) ?_ | refine ZCalls.tf (hc) ?_) | (first | refine ZCalls.to (l07Tets_z _ _ _) ?_ | refine ZCalls.tf (l07Tets_z _ _ _) ?_) | with_reducible refine And.intro (fun hc => ?_) (fun hc => ?_) | fail
      exact hQ.out _ _ (fv) (by exact exY)
  · have hcb : (codeN T == 0) = false := by rw [beq_eq_false_iff_ne]; exact h
    rw [decide_eq_false (show ¬ (codeN T = 0 ∧ NrI T v) from fun q => h q.1)]
    generalize codeN T = c at *
    clear h
    refine ZCalls.body Try.func64 rfl Try.ntmps64 (rs := [.tmp 4]) rfl (by simp) rfl fun H Q hQ A hA => ?_
    have a0 := hA 0 _ _ rfl
    have a1 := hA 1 _ _ rfl
    clear hA
    repeat' first | refine rnY ?_ | (first | refine ZCalls.to (hc) ?_ | refine ZCalls.tf (hc) ?_) | with_reducible refine And.intro (fun hc => ?_) (fun hc => ?_) | fail
    exact hQ.out _ _ (fv) (by exact exY)
end Go.Proofs.Ytmoknllbpjpkmaa.Zed
