/- A part of the walk: what functions of the program do, over an abstract heap. -/
import Derived.Test.YtmoknllbpjpkmaaX14
import Derived.Test.YtmoknllbpjpkmaaW14
namespace Go.Proofs.Ytmoknllbpjpkmaa.Zed
open Go TP
set_option linter.unusedVariables false
set_option linter.unusedSimpArgs false
set_option maxRecDepth 20000
namespace tfX15
theorem tf : (Try.prog.underlying 25 = some (.slice 2)) ∧ (el Try.prog 25 = some (none, 1)) ∧ (Try.prog.underlying 51 = some (.slice 25)) ∧ (el Try.prog 51 = some (none, 1)) ∧ (tk Try.prog 2 = some none) ∧ (tk Try.prog 25 = some none) ∧ (tk Try.prog 31 = some (some 1)) ∧ (tk Try.prog 47 = some (some 2)) ∧ (cz Try.prog 2 = some 1) ∧ (bz Try.prog 2 = some 8) ∧ (cz Try.prog 25 = some 1) ∧ (bz Try.prog 25 = some 24) ∧ (zr Try.prog 2 = some (.int .i64 0)) ∧ (zr Try.prog 25 = some (.slice none 0 0)) ∧ (fo Try.prog 47 0 = some (0, none)) ∧ (fo Try.prog 47 1 = some (1, none)) := by
  refine ⟨?_, ?_, ?_, ?_, ?_, ?_, ?_, ?_, ?_, ?_, ?_, ?_, ?_, ?_, ?_, ?_⟩ <;> kernel_rfl
end tfX15
open tfX15

theorem l01In_z (x lo hi : Int) : ZCalls Try.prog 71 [I x, I lo, I hi] (B (decide (lo ≤ x ∧ x ≤ hi))) := by
  by_cases h1 : lo ≤ x
  · have h1' : x ≥ lo := h1
    by_cases h2 : x ≤ hi
    · rw [decide_eq_true (show lo ≤ x ∧ x ≤ hi from ⟨h1, h2⟩)]
      refine ZCalls.body Try.func71 rfl Try.ntmps71 (rs := [.tmp 6]) rfl (by simp) rfl fun H Q hQ A hA => ?_
      have a0 := hA 0 _ _ rfl
      have a1 := hA 1 _ _ rfl
      have a2 := hA 2 _ _ rfl
      clear hA
      repeat' first | refine rnY ?_ | with_reducible refine And.intro (fun hc => ?_) (fun hc => ?_) | fail
      exact hQ.out _ _ (fv) (by exact exY)
    · rw [decide_eq_false (show ¬ (lo ≤ x ∧ x ≤ hi) from fun h => h2 h.2)]
      refine ZCalls.body Try.func71 rfl Try.ntmps71 (rs := [.tmp 6]) rfl (by simp) rfl fun H Q hQ A hA => ?_
      have a0 := hA 0 _ _ rfl
      have a1 := hA 1 _ _ rfl
      have a2 := hA 2 _ _ rfl
      clear hA
      repeat' first | refine rnY ?_ | with_reducible refine And.intro (fun hc => ?_) (fun hc => ?_) | fail
      exact hQ.out _ _ (fv) (by exact exY)
  · have h1' : ¬ x ≥ lo := h1
    rw [decide_eq_false (show ¬ (lo ≤ x ∧ x ≤ hi) from fun h => h1 h.1)]
    refine ZCalls.body Try.func71 rfl Try.ntmps71 (rs := [.tmp 6]) rfl (by simp) rfl fun H Q hQ A hA => ?_
    have a0 := hA 0 _ _ rfl
    have a1 := hA 1 _ _ rfl
    have a2 := hA 2 _ _ rfl
    clear hA
    repeat' first | refine rnY ?_ | with_reducible refine And.intro (fun hc => ?_) (fun hc => ?_) | fail
    exact hQ.out _ _ (fv) (by exact exY)
/-- The answer of IsAngles. -/
def angB (T : List (List (Int × Int))) (v : List Int) (d : Int) : Bool := decide (codeN T = 0 ∧ AngI T v d)
theorem implIsAngles_z {T : List (List (Int × Int))} (hl : T.length ≤ 1048576) (v : List Int) (d : Int) (hv : v.length ≤ 1048576) : ZCalls Try.prog 30 [zT T, agV v d] (B (angB T v d)) := by
  have hc := normalCode_z hl
  by_cases h : codeN T = 0
  · have ha := isAngles_z h v d hv
    rw [h] at hc
    have e : angB T v d = decide (AngI T v d) := by unfold angB; congr 1; simp [h]
    rw [e]
    generalize decide (AngI T v d) = b at *
    refine ZCalls.body Try.func30 rfl Try.ntmps30 (rs := [.tmp 4]) rfl (by simp) rfl fun H Q hQ A hA => ?_
    have a0 := hA 0 _ _ rfl
    have a1 := hA 1 _ _ rfl
    clear hA
    repeat' first | refine rnY ?_ | (first | refine ZCalls.to (hc) ?_ | refine ZCalls.tf (hc) ?_) | (first | refine ZCalls.to (ha) ?_ | refine ZCalls.tf (ha) ?_) | with_reducible refine And.intro (fun hc => ?_) (fun hc => ?_) | fail
    exact hQ.out _ _ (fv) (by exact exY)
  · have e : angB T v d = false := by unfold angB; exact decide_eq_false fun q => h q.1
    rw [e]
    have hcb : (codeN T == 0) = false := by rw [beq_eq_false_iff_ne]; exact h
    generalize codeN T = c at *
    refine ZCalls.body Try.func30 rfl Try.ntmps30 (rs := [.tmp 4]) rfl (by simp) rfl fun H Q hQ A hA => ?_
    have a0 := hA 0 _ _ rfl
    have a1 := hA 1 _ _ rfl
    clear hA
    repeat' first | refine rnY ?_ | (first | refine ZCalls.to (hc) ?_ | refine ZCalls.tf (hc) ?_) | with_reducible refine And.intro (fun hc => ?_) (fun hc => ?_) | fail
    exact hQ.out _ _ (fv) (by exact exY)
theorem rowsZ_at {C : Nat} {L : List (List Int)} {i : Nat} (hi : i < L.length) : (rowsZ C L)[i]? = some (FZ 1 C (ints (L.getD i []))) := by
  simp [rowsZ, hi]
instance (T : List (List (Int × Int))) (v : List Int) (d : Int) : Decidable (AngS T v d) := by unfold AngS; infer_instance
set_option maxHeartbeats 4000000 in
theorem specIsAngles_z {T : List (List (Int × Int))} (hl : T.length ≤ 1048576) (v : List Int) (d : Int) (hv : v.length ≤ 1048576) : ZCalls Try.prog 28 [zT T, agV v d] (B (angB T v d)) := by
  have hc := l17Code_z hl
  have hr := l01In_z d 1 1000000
  have e : angB T v d = decide (codeN T = 0 ∧ AngS T v d) := by unfold angB; congr 1; rw [ang_same]
  rw [e]
  clear e
  by_cases h : codeN T = 0
  · have hT := codeN_ok h
    have h6 := codeN_six h
    have hrows := l22Rows_z hT
    have hS1 := spR_rows' T
    have hS2 := spR_bd hT.1
    have hS3 := spR_len2 hT
    rw [h] at hc
    by_cases h1 : 1 ≤ d ∧ d ≤ 1000000
    · rw [decide_eq_true h1] at hr
      by_cases h2 : v.length = 3 * T.length
      · have h2b : ((v.length : Int) == 3 * (T.length : Int)) = true := by rw [beq_iff_eq]; omega
        have hfal : ∀ j, j < v.length → ¬ (0 ≤ v.getD j 0 ∧ v.getD j 0 ≤ d) → decide (codeN T = 0 ∧ AngS T v d) = false := fun j hj q => decide_eq_false fun z => q (z.2.2.2.2.1 j hj)
        have hfal2 : ∀ i, i < (spR T).length → ¬ dotL (((spR T).getD i []).take v.length) v v.length = ((spR T).getD i []).getD v.length 0 * d → decide (codeN T = 0 ∧ AngS T v d) = false := fun i hi q => decide_eq_false fun z => q (by rw [h2]; exact z.2.2.2.2.2 i hi)
        have htru : (∀ j, j < v.length → 0 ≤ v.getD j 0 ∧ v.getD j 0 ≤ d) → (∀ i, i < (spR T).length → dotL (((spR T).getD i []).take v.length) v v.length = ((spR T).getD i []).getD v.length 0 * d) → decide (codeN T = 0 ∧ AngS T v d) = true := fun q1 q2 => decide_eq_true ⟨h, h1.1, h1.2, h2, q1, by rw [← h2]; exact q2⟩
        rw [← h2] at hS1 hrows
        generalize decide (codeN T = 0 ∧ AngS T v d) = out at *
        generalize spR T = S at *
        have hSl : S.length ≤ 1000 := by omega
        have hvl : v.length ≤ 18 := by omega
        clear hS3 h h2 hT
        refine ZCalls.body Try.func28 rfl Try.ntmps28 (rs := [.tmp 4]) rfl (by simp) rfl fun H Q hQ A hA => ?_
        have a0 := hA 0 _ _ rfl
        have a1 := hA 1 _ _ rfl
        clear hA
        repeat' first | refine rnY ?_ | with_reducible refine And.intro (fun hc => ?_) (fun hc => ?_) | fail
        refine AWp.zreg [(0, none), (1, none), (2, none), (3, none), (4, none), (5, none), (6, none), (7, none), (8, none), (9, none), (10, none), (11, none), (12, none), (13, none), (14, none), (15, none), (16, none), (17, none)] mixed (by kernel_rfl) ?_
        repeat' first | refine rzY ?_ | (first | refine ZCalls.to (hc) ?_ | refine ZCalls.tf (hc) ?_) | (first | refine ZCalls.to (hr) ?_ | refine ZCalls.tf (hr) ?_) | (first | refine ZCalls.to (l07Tets_z _ _ _) ?_ | refine ZCalls.tf (l07Tets_z _ _ _) ?_) | fail
        repeat' first | refine rnY ?_ | with_reducible refine And.intro (fun hc => ?_) (fun hc => ?_) | fail
        refine AWp.cut (fun Ac hAc => ?_)
        have c2 := gtY (t := 2) hAc
        have c3 := gtY (t := 3) hAc
        have c5 := gtY (t := 5) hAc
        clear a0 a1 hc hr h2b
        refine AWp.loop (fun A' H' => ∃ (k : Nat), Ag [26, 27, 28, 29, 30, 31, 32, 33, 34, 35, 36, 37, 38, 39, 40, 41] A' (put Ac (some 5) (I k)) ∧ k ≤ v.length ∧ (∀ j, j < k → 0 ≤ v.getD j 0 ∧ v.getD j 0 ≤ d) ∧ Ext H H') (fun A' _ => v.length - (intV (A' 5)).toNat) ?_ ?_
        · exact ⟨0, agY, by omega, fun j hj => by omega, by exact exY⟩
        · rintro A1 H1 ⟨k, hA1, hk, hno, hx⟩
          have d2 := gdY (t := 2) hA1
          have d3 := gdY (t := 3) hA1
          have d5 := gdY (t := 5) hA1
          by_cases hlt : k < v.length
          · have hin := l01In_z (v.getD k 0) 0 d
            clear hrows hfal2 htru hS1 hS2
            by_cases hp : 0 ≤ v.getD k 0 ∧ v.getD k 0 ≤ d
            · rw [decide_eq_true hp] at hin
              repeat' first | refine rnY ?_ | with_reducible refine And.intro (fun hc => ?_) (fun hc => ?_) | fail
              refine AWp.zreg [(0, none), (1, none), (2, none), (3, none), (4, none), (5, none), (6, none), (7, none), (8, none)] mixed (by kernel_rfl) ?_
              repeat' first | refine rzY ?_ | (first | refine ZCalls.to (hin) ?_ | refine ZCalls.tf (hin) ?_) | fail
              repeat' first | refine rnY ?_ | with_reducible refine And.intro (fun hc => ?_) (fun hc => ?_) | fail
              exact ⟨⟨k + 1, agY, by omega, fun j hj => by
                by_cases e : j = k
                · rw [e]; exact hp
                · exact hno j (by omega), by exact exY⟩, by exact ivY⟩
            · rw [decide_eq_false hp] at hin
              rw [hfal k hlt hp] at hQ
              repeat' first | refine rnY ?_ | with_reducible refine And.intro (fun hc => ?_) (fun hc => ?_) | fail
              refine AWp.zreg [(0, none), (1, none), (2, none), (3, none), (4, none), (5, none), (6, none), (7, none), (8, none)] mixed (by kernel_rfl) ?_
              repeat' first | refine rzY ?_ | (first | refine ZCalls.to (hin) ?_ | refine ZCalls.tf (hin) ?_) | fail
              repeat' first | refine rnY ?_ | with_reducible refine And.intro (fun hc => ?_) (fun hc => ?_) | fail
              exact hQ.out _ _ (fv) (by exact exY)
          · obtain rfl : k = v.length := by omega
            have htru := htru hno
            repeat' first | refine rnY ?_ | (first | refine ZCalls.to (hrows) ?_ | refine ZCalls.tf (hrows) ?_) | with_reducible refine And.intro (fun hc => ?_) (fun hc => ?_) | fail
            refine AWp.cut (fun Ae hAe => ?_)
            have e3 := gtY (t := 3) hAe
            have e6 := gtY (t := 6) hAe
            have e7 := gtY (t := 7) hAe
            clear hrows hfal
            refine AWp.loop (fun A' H' => ∃ (i : Nat), Ag [44, 45, 46, 47, 48, 49, 50, 51, 52, 53, 54, 55, 56, 57, 58, 59, 60, 61, 62, 63, 64, 65, 66, 67, 68, 69, 70, 71, 72, 73] A' (put Ae (some 7) (I i)) ∧ i ≤ S.length ∧ (∀ r, r < i → dotL ((S.getD r []).take v.length) v v.length = (S.getD r []).getD v.length 0 * d) ∧ Ext H1 H') (fun A' _ => S.length - (intV (A' 7)).toNat) ?_ ?_
            · exact ⟨0, agY, by omega, fun j hj => by omega, by exact exY⟩
            · rintro A2 H2 ⟨i, hA2, hi, hyes, hx2⟩
              have f3 := gdY (t := 3) hA2
              have f6 := gdY (t := 6) hA2
              have f7 := gdY (t := 7) hA2
              by_cases hlt2 : i < S.length
              · have hrl := hS1 (S.getD i []) (by simp [hlt2])
                have hbd := hS2 (S.getD i []) (by simp [hlt2])
                have hat := rowsZ_at (C := v.length + 1) hlt2
                have hfal2 := hfal2 i hlt2
                generalize hrow : S.getD i [] = row at *
                have hdot := l17Dot_z (a := row.take v.length) (b := v) (A := 48) (B' := 1000000) (n := v.length) (by rw [List.length_take]; omega) (Nat.le_refl _) (by omega) (by omega) (by omega) (by omega)
                  (fun j => by
                    by_cases hj : j < v.length
                    · rw [List.getD_eq_getElem?_getD, List.getElem?_take_of_lt hj, ← List.getD_eq_getElem?_getD]
                      have := hbd j; omega
                    · rw [List.getD_eq_getElem?_getD, List.getElem?_eq_none (by rw [List.length_take]; omega)]; simp)
                  (fun j => by
                    by_cases hj : j < v.length
                    · have := hno j hj; omega
                    · rw [List.getD_eq_getElem?_getD, List.getElem?_eq_none (by omega)]; simp)
                have hb1 := hbd v.length
                have hm := mul_bd (x := row.getD v.length 0) (y := d) (A := 48) (B := 1000000) (by omega) (by omega)
                generalize hy : row.getD v.length 0 = y at *
                generalize hs : dotL (row.take v.length) v v.length = s at *
                obtain ⟨q, hq⟩ : ∃ q, y * d = q := ⟨_, rfl⟩
                rw [hq] at hm hfal2
                by_cases hsq : s = q
                · have hsb : (s == q) = true := by rw [beq_iff_eq]; exact hsq
                  have hnx : ∀ r, r < i + 1 → dotL ((S.getD r []).take v.length) v v.length = (S.getD r []).getD v.length 0 * d := fun r hr => by
                    by_cases e : r = i
                    · rw [e, hrow, hs, hy, hq]; exact hsq
                    · exact hyes r (by omega)
                  clear htru hfal2 hno hbd hS1 hS2 hyes
                  clear hsq
                  repeat' first | refine rnY ?_ | with_reducible refine And.intro (fun hc => ?_) (fun hc => ?_) | fail
                  refine AWp.zreg [(0, none), (1, none), (2, none), (3, none), (4, none), (5, none), (6, none), (7, none), (8, none), (9, none), (10, none), (11, none), (12, none), (13, none), (14, none), (15, none), (16, none), (17, none), (18, none), (19, none), (20, none), (21, none), (22, none), (23, none)] mixed (by kernel_rfl) ?_
                  repeat' first | refine rzY ?_ | (first | refine ZCalls.to (hdot) ?_ | refine ZCalls.tf (hdot) ?_) | fail
                  repeat' first | refine rnY ?_ | with_reducible refine And.intro (fun hc => ?_) (fun hc => ?_) | fail
                  exact ⟨⟨i + 1, agY, by omega, hnx, by exact exY⟩, by exact ivY⟩
                · have hsb : (s == q) = false := by rw [beq_eq_false_iff_ne]; exact hsq
                  rw [hfal2 hsq] at hQ
                  clear htru hfal2 hno hbd hS1 hS2 hyes
                  clear hsq
                  repeat' first | refine rnY ?_ | with_reducible refine And.intro (fun hc => ?_) (fun hc => ?_) | fail
                  refine AWp.zreg [(0, none), (1, none), (2, none), (3, none), (4, none), (5, none), (6, none), (7, none), (8, none), (9, none), (10, none), (11, none), (12, none), (13, none), (14, none), (15, none), (16, none), (17, none), (18, none), (19, none), (20, none), (21, none), (22, none), (23, none)] mixed (by kernel_rfl) ?_
                  repeat' first | refine rzY ?_ | (first | refine ZCalls.to (hdot) ?_ | refine ZCalls.tf (hdot) ?_) | fail
                  repeat' first | refine rnY ?_ | with_reducible refine And.intro (fun hc => ?_) (fun hc => ?_) | fail
                  exact hQ.out _ _ (fv) (by exact exY)
              · obtain rfl : i = S.length := by omega
                rw [htru hyes] at hQ
                clear hfal2 hS1 hS2
                repeat' first | refine rnY ?_ | with_reducible refine And.intro (fun hc => ?_) (fun hc => ?_) | fail
                exact hQ.out _ _ (fv) (by exact exY)
      · have h2b : ((v.length : Int) == 3 * (T.length : Int)) = false := by rw [beq_eq_false_iff_ne]; omega
        rw [decide_eq_false (show ¬ (codeN T = 0 ∧ AngS T v d) from fun q => h2 q.2.2.2.1)]
        clear h2 hrows hS1 hS2 hS3
        refine ZCalls.body Try.func28 rfl Try.ntmps28 (rs := [.tmp 4]) rfl (by simp) rfl fun H Q hQ A hA => ?_
        have a0 := hA 0 _ _ rfl
        have a1 := hA 1 _ _ rfl
        clear hA
        repeat' first | refine rnY ?_ | with_reducible refine And.intro (fun hc => ?_) (fun hc => ?_) | fail
        refine AWp.zreg [(0, none), (1, none), (2, none), (3, none), (4, none), (5, none), (6, none), (7, none), (8, none), (9, none), (10, none), (11, none), (12, none), (13, none), (14, none), (15, none), (16, none), (17, none)] mixed (by kernel_rfl) ?_
        repeat' first | refine rzY ?_ | (first | refine ZCalls.to (hc) ?_ | refine ZCalls.tf (hc) ?_) | (first | refine ZCalls.to (hr) ?_ | refine ZCalls.tf (hr) ?_) | (first | refine ZCalls.to (l07Tets_z _ _ _) ?_ | refine ZCalls.tf (l07Tets_z _ _ _) ?_) | fail
        repeat' first | refine rnY ?_ | with_reducible refine And.intro (fun hc => ?_) (fun hc => ?_) | fail
        exact hQ.out _ _ (fv) (by exact exY)
    · rw [decide_eq_false h1] at hr
      rw [decide_eq_false (show ¬ (codeN T = 0 ∧ AngS T v d) from fun q => h1 ⟨q.2.1, q.2.2.1⟩)]
      clear h1 hrows hS1 hS2 hS3
      refine ZCalls.body Try.func28 rfl Try.ntmps28 (rs := [.tmp 4]) rfl (by simp) rfl fun H Q hQ A hA => ?_
      have a0 := hA 0 _ _ rfl
      have a1 := hA 1 _ _ rfl
      clear hA
      repeat' first | refine rnY ?_ | with_reducible refine And.intro (fun hc => ?_) (fun hc => ?_) | fail
      refine AWp.zreg [(0, none), (1, none), (2, none), (3, none), (4, none), (5, none), (6, none), (7, none), (8, none), (9, none), (10, none), (11, none), (12, none), (13, none), (14, none), (15, none), (16, none), (17, none)] mixed (by kernel_rfl) ?_
      repeat' first | refine rzY ?_ | (first | refine ZCalls.to (hc) ?_ | refine ZCalls.tf (hc) ?_) | (first | refine ZCalls.to (hr) ?_ | refine ZCalls.tf (hr) ?_) | fail
      repeat' first | refine rnY ?_ | with_reducible refine And.intro (fun hc => ?_) (fun hc => ?_) | fail
      exact hQ.out _ _ (fv) (by exact exY)
  · have hcb : (codeN T == 0) = false := by rw [beq_eq_false_iff_ne]; exact h
    rw [decide_eq_false (show ¬ (codeN T = 0 ∧ AngS T v d) from fun q => h q.1)]
    generalize codeN T = c at *
    clear h
    refine ZCalls.body Try.func28 rfl Try.ntmps28 (rs := [.tmp 4]) rfl (by simp) rfl fun H Q hQ A hA => ?_
    have a0 := hA 0 _ _ rfl
    have a1 := hA 1 _ _ rfl
    clear hA
    repeat' first | refine rnY ?_ | with_reducible refine And.intro (fun hc => ?_) (fun hc => ?_) | fail
    refine AWp.zreg [(0, none), (1, none), (2, none), (3, none), (4, none), (5, none), (6, none), (7, none), (8, none), (9, none), (10, none), (11, none), (12, none), (13, none), (14, none), (15, none), (16, none), (17, none)] mixed (by kernel_rfl) ?_
    repeat' first | refine rzY ?_ | (first | refine ZCalls.to (hc) ?_ | refine ZCalls.tf (hc) ?_) | fail
    repeat' first | refine rnY ?_ | with_reducible refine And.intro (fun hc => ?_) (fun hc => ?_) | fail
    exact hQ.out _ _ (fv) (by exact exY)
end Go.Proofs.Ytmoknllbpjpkmaa.Zed
