/- A part of the walk: what functions of the program do, over an abstract heap. -/
import Derived.Test.YtmoknllbpjpkmaaW13
namespace Go.Proofs.Ytmoknllbpjpkmaa.Zed
open Go TP
set_option linter.unusedVariables false
set_option linter.unusedSimpArgs false
set_option maxRecDepth 20000
namespace tfW14
theorem tf : (Try.prog.underlying 29 = some (.slice 102)) ∧ (el Try.prog 29 = some (none, 1)) ∧ (Try.prog.underlying 102 = some (.slice 107)) ∧ (el Try.prog 102 = some (none, 2)) ∧ (tk Try.prog 2 = some none) ∧ (tk Try.prog 29 = some none) ∧ (tk Try.prog 31 = some (some 1)) ∧ (tk Try.prog 102 = some none) ∧ (tk Try.prog 107 = some (some 2)) ∧ (cz Try.prog 102 = some 1) ∧ (bz Try.prog 102 = some 24) ∧ (cz Try.prog 107 = some 2) ∧ (bz Try.prog 107 = some 16) ∧ (zr Try.prog 102 = some (.slice none 0 0)) ∧ (zr Try.prog 107 = some (.agg #[.int .i64 0, .int .i64 0])) ∧ (fo Try.prog 31 0 = some (0, none)) ∧ (fo Try.prog 107 0 = some (0, none)) ∧ (fo Try.prog 107 1 = some (1, none)) ∧ (el Try.prog 107 = none) ∧ (placesOf Try.prog 107 = some #[(0, 1), (1, 1)]) ∧ (i2 Try.prog 107 = true) := by
  refine ⟨?_, ?_, ?_, ?_, ?_, ?_, ?_, ?_, ?_, ?_, ?_, ?_, ?_, ?_, ?_, ?_, ?_, ?_, ?_, ?_, ?_⟩ <;> kernel_rfl
end tfW14
open tfW14

theorem gd_iff {T : List (List (Int × Int))} {a f tn g : Nat} {q y1 y2 : Int} (hx : fc T a f = ((tn : Int), q)) (h2 : tn < T.length) (h3 : 0 ≤ q ∧ q ≤ 23) (hg : pm q f = (g : Int)) (hy : fc T tn g = (y1, y2)) :
    gd T a f ↔ ((y1 == (a : Int) && y2 == invL q) && (!((tn : Int) == (a : Int)) || !((g : Int) == (f : Int)))) = true := by
  have h2' : 0 ≤ (tn : Int) ∧ (tn : Int) ≤ (T.length : Int) - 1 := by omega
  rw [gd_def, hx]
  simp only [show ¬ (tn : Int) = -1 by omega, if_false, hg, Int.toNat_natCast, hy, h2', h3, and_self, true_and]
  simp [Prod.ext_iff, and_assoc]
theorem gd_neg {T : List (List (Int × Int))} {a f : Nat} {q : Int} (hx : fc T a f = (-1, q)) : gd T a f ↔ q = 0 := by
  rw [gd_def, hx]; simp
theorem gd_no {T : List (List (Int × Int))} {a f : Nat} {t q : Int} (hx : fc T a f = (t, q)) (h1 : ¬ t = -1) (h : ¬ (0 ≤ t ∧ t ≤ (T.length : Int) - 1) ∨ ¬ (0 ≤ q ∧ q ≤ 23)) : ¬ gd T a f := by
  rw [gd_def, hx]; simp only [h1, if_false]
  rintro ⟨g1, g2, _⟩
  rcases h with h | h
  · exact h g1
  · exact h g2
theorem fc_get (T : List (List (Int × Int))) (a f : Nat) : (T.getD a []).getD f (0, 0) = fc T a f := rfl
set_option maxHeartbeats 4000000 in
theorem specIsTri_z {T : List (List (Int × Int))} (hl : T.length ≤ 1048576) : ZCalls Try.prog 114 [zT T] (B (decide (IsTri T))) := by
  refine ZCalls.body Try.func114 rfl Try.ntmps114 (rs := [.tmp 2]) rfl (by simp) rfl fun H Q hQ A hA => ?_
  have a0 := hA 0 _ _ rfl
  clear hA
  by_cases h8 : T.length ≤ 8
  · repeat' first | refine rnY ?_ | (first | refine ZCalls.to (l07Tets_z _ _ _) ?_ | refine ZCalls.tf (l07Tets_z _ _ _) ?_) | with_reducible refine And.intro (fun hc => ?_) (fun hc => ?_) | fail
    refine AWp.cut (fun Ac hAc => ?_)
    have c1 := gtY (t := 1) hAc
    have c3 := gtY (t := 3) hAc
    clear a0
    refine AWp.loop (fun A' H' => ∃ (j : Nat), Ag [12, 13, 14, 15, 16, 17, 18, 19, 20, 21, 22, 23, 24, 25] A' (put Ac (some 3) (I j)) ∧ j ≤ T.length ∧ (∀ i, i < j → (T.getD i []).length = 4) ∧ H' = H) (fun A' _ => T.length - (intV (A' 3)).toNat) ?_ ?_
    · exact ⟨0, agY, by omega, fun i hi => by omega, rfl⟩
    · rintro A1 H1 ⟨j, hA, hj, h4, rfl⟩
      have d1 := gdY (t := 1) hA
      have d3 := gdY (t := 3) hA
      by_cases hlt : j < T.length
      · by_cases h4j : (T.getD j []).length = 4
        · have h4b : (((T.getD j []).length : Int) == 4) = true := by rw [h4j]; rfl
          repeat' first | refine rnY ?_ | with_reducible refine And.intro (fun hc => ?_) (fun hc => ?_) | fail
          exact ⟨⟨j + 1, agY, by omega, fun i hi => by
            rcases Nat.lt_succ_iff_lt_or_eq.1 hi with h | rfl
            · exact h4 i h
            · exact h4j, rfl⟩, by exact ivY⟩
        · have h4b : (((T.getD j []).length : Int) == 4) = false := by rw [beq_eq_false_iff_ne]; omega
          have hno : ¬ IsTri T := fun h => h4j (h.2.1 j hlt)
          rw [decide_eq_false hno] at hQ
          repeat' first | refine rnY ?_ | with_reducible refine And.intro (fun hc => ?_) (fun hc => ?_) | fail
          exact hQ.out _ _ (fv) (by exact exY)
      · obtain rfl : j = T.length := by omega
        repeat' first | refine rnY ?_ | with_reducible refine And.intro (fun hc => ?_) (fun hc => ?_) | fail
        refine AWp.cut (fun Ae hAe => ?_)
        have e1 := gtY (t := 1) hAe
        have e4 := gtY (t := 4) hAe
        refine AWp.loop (fun A' H' => ∃ (a : Nat), Ag [5, 6, 7, 8, 26, 27, 28, 29, 30, 31, 32, 33, 34, 35, 36, 37, 38, 39, 40, 41, 42, 43, 44, 45, 46, 47, 48, 49, 50, 51, 52, 53, 54, 55, 56, 57, 58, 59, 60, 61, 62, 63, 64, 65, 66, 67, 68, 69, 70, 71, 72, 73, 74, 75, 76, 77, 78, 79, 80, 81, 82, 83, 84, 85, 86, 87, 88, 89, 90, 91, 92, 93, 94, 95] A' (put Ae (some 4) (I a)) ∧ a ≤ T.length ∧ (∀ i, i < a → ∀ f, f < 4 → gd T i f) ∧ Ext H1 H') (fun A' _ => T.length - (intV (A' 4)).toNat) ?_ ?_
        · exact ⟨0, agY, by omega, fun i hi => by omega, by exact exY⟩
        · rintro A2 H2 ⟨a, hB, ha, hgds, hx⟩
          have f1 := gdY (t := 1) hB
          have f4 := gdY (t := 4) hB
          by_cases halt : a < T.length
          · have h4a := h4 a halt
            repeat' first | refine rnY ?_ | (first | refine ZCalls.to (l07Tets_z _ _ _) ?_ | refine ZCalls.tf (l07Tets_z _ _ _) ?_) | with_reducible refine And.intro (fun hc => ?_) (fun hc => ?_) | fail
            refine AWp.cut (fun Aq hAq => ?_)
            have q1 := gtY (t := 1) hAq
            have q4 := gtY (t := 4) hAq
            have q5 := gtY (t := 5) hAq
            refine AWp.loop (fun A' H' => ∃ (f : Nat), Ag [6, 7, 8, 32, 33, 34, 35, 36, 37, 38, 39, 40, 41, 42, 43, 44, 45, 46, 47, 48, 49, 50, 51, 52, 53, 54, 55, 56, 57, 58, 59, 60, 61, 62, 63, 64, 65, 66, 67, 68, 69, 70, 71, 72, 73, 74, 75, 76, 77, 78, 79, 80, 81, 82, 83, 84, 85, 86, 87, 88, 89, 90, 91, 92, 93, 94, 95] A' (put Aq (some 5) (I f)) ∧ f ≤ 4 ∧ (∀ g, g < f → gd T a g) ∧ Ext H1 H') (fun A' _ => 4 - (intV (A' 5)).toNat) ?_ ?_
            · exact ⟨0, agY, by omega, fun i hi => by omega, hx⟩
            · clear hx
              rintro A3 H3 ⟨f, hD, hf, hgf, hx⟩
              have s1 := gdY (t := 1) hD
              have s4 := gdY (t := 4) hD
              have s5 := gdY (t := 5) hD
              by_cases hff : f < 4
              · obtain ⟨⟨t, q⟩, hfc⟩ : ∃ x, fc T a f = x := ⟨_, rfl⟩
                have hfg : (T.getD a []).getD f (0, 0) = (t, q) := hfc
                have hyes : gd T a f → ∀ g, g < f + 1 → gd T a g := fun h g hg => by
                  rcases Nat.lt_succ_iff_lt_or_eq.1 hg with h' | rfl
                  · exact hgf g h'
                  · exact h
                have hnot : ¬ gd T a f → decide (IsTri T) = false := fun h => decide_eq_false fun h' => h (h'.2.2 a halt f hff)
                have hin := l07In_z t 0 ((T.length : Int) - 1)
                by_cases h1 : t = -1
                · subst h1
                  by_cases hq0 : q = 0
                  · subst hq0
                    have hyes := hyes ((gd_neg hfc).2 rfl)
                    clear hnot hfc
                    repeat' first | refine rnY ?_ | with_reducible refine And.intro (fun hc => ?_) (fun hc => ?_) | fail
                    exact ⟨⟨f + 1, agY, by omega, hyes, by exact exY⟩, by exact ivY⟩
                  · have hq0b : (q == 0) = false := by rw [beq_eq_false_iff_ne]; exact hq0
                    rw [decide_eq_false (by omega)] at hin
                    have hno := hnot (fun h => hq0 ((gd_neg hfc).1 h))
                    rw [hno] at hQ
                    clear hnot hyes hfc hno
                    repeat' first | refine rnY ?_ | with_reducible refine And.intro (fun hc => ?_) (fun hc => ?_) | fail
                    refine AWp.zreg [(0, none), (1, none), (2, none), (3, none), (4, none), (5, none), (6, none), (7, none), (8, none), (9, none), (10, none), (11, none), (12, none)] mixed (by kernel_rfl) ?_
                    repeat' first | refine rzY ?_ | (first | refine ZCalls.to (l07Tets_z _ _ _) ?_ | refine ZCalls.tf (l07Tets_z _ _ _) ?_) | (first | refine ZCalls.to (hin) ?_ | refine ZCalls.tf (hin) ?_) | (first | refine ZCalls.to (l06Valid_z _) ?_ | refine ZCalls.tf (l06Valid_z _) ?_) | fail
                    repeat' first | refine rnY ?_ | with_reducible refine And.intro (fun hc => ?_) (fun hc => ?_) | fail
                    exact hQ.out _ _ (fv) (by exact exY)
                · have h1b : (t == -1) = false := by rw [beq_eq_false_iff_ne]; exact h1
                  by_cases h2 : 0 ≤ t ∧ t ≤ (T.length : Int) - 1
                  · rw [decide_eq_true h2] at hin
                    by_cases h3 : 0 ≤ q ∧ q ≤ 23
                    · have hz2 : decide (0 ≤ q ∧ q ≤ 23) = true := by simpa using h3
                      obtain ⟨tn, rfl⟩ : ∃ tn : Nat, t = tn := ⟨t.toNat, by omega⟩
                      have hqb := pm_bd q f h3.1 (by omega) (by omega) (by omega)
                      have hpq := l06At_z q f h3.1 (by omega) (by omega) (by omega)
                      have hbk := l06Back_z q h3.1 (by omega)
                      obtain ⟨g, hg'⟩ : ∃ g : Nat, pm q f = (g : Int) := ⟨(pm q f).toNat, by omega⟩
                      have htn : tn < T.length := by omega
                      have hg4 : g < 4 := by omega
                      have h4t := h4 tn htn
                      obtain ⟨⟨y1, y2⟩, hfy⟩ : ∃ x, fc T tn g = x := ⟨_, rfl⟩
                      have hfz : (T.getD tn []).getD g (0, 0) = (y1, y2) := hfy
                      have hfin := gd_iff hfc htn h3 hg' hfy
                      rw [hg'] at hpq
                      generalize invL q = iq at hfin hbk
                      clear hfc hfy hqb
                      repeat' first | refine rnY ?_ | with_reducible refine And.intro (fun hc => ?_) (fun hc => ?_) | fail
                      refine AWp.zreg [(0, none), (1, none), (2, none), (3, none), (4, none), (5, none), (6, none), (7, none), (8, none), (9, none), (10, none), (11, none), (12, none)] mixed (by kernel_rfl) ?_
                      repeat' first | refine rzY ?_ | (first | refine ZCalls.to (l07Tets_z _ _ _) ?_ | refine ZCalls.tf (l07Tets_z _ _ _) ?_) | (first | refine ZCalls.to (hin) ?_ | refine ZCalls.tf (hin) ?_) | (first | refine ZCalls.to (l06Valid_z _) ?_ | refine ZCalls.tf (l06Valid_z _) ?_) | fail
                      repeat' first | refine rnY ?_ | (first | refine ZCalls.to (hpq) ?_ | refine ZCalls.tf (hpq) ?_) | (first | refine ZCalls.to (hbk) ?_ | refine ZCalls.tf (hbk) ?_) | with_reducible refine And.intro (fun hc => ?_) (fun hc => ?_) | fail
                      rcases hc12 : (y1 == (a : Int) && y2 == iq) with _ | _
                      · have hno := hnot (by rw [hfin, hc12]; simp)
                        rw [hno] at hQ
                        clear hnot hfin hyes hno
                        refine AWp.zreg [(0, none), (1, none), (2, none), (3, none), (4, none), (5, none), (6, none), (7, none), (8, none), (9, none), (10, none), (11, none), (12, none), (13, none), (14, none), (15, none), (16, none), (17, none), (18, none), (19, none), (20, none), (21, none)] mixed (by kernel_rfl) ?_
                        repeat' first | refine rzY ?_ | fail
                        repeat' first | refine rnY ?_ | with_reducible refine And.intro (fun hc => ?_) (fun hc => ?_) | fail
                        exact hQ.out _ _ (fv) (by exact exY)
                      · rcases hc3b : ((tn : Int) == (a : Int)) with _ | _
                        · have hyes := hyes (by rw [hfin, hc12, hc3b]; simp)
                          clear hnot hfin
                          refine AWp.zreg [(0, none), (1, none), (2, none), (3, none), (4, none), (5, none), (6, none), (7, none), (8, none), (9, none), (10, none), (11, none), (12, none), (13, none), (14, none), (15, none), (16, none), (17, none), (18, none), (19, none), (20, none), (21, none)] mixed (by kernel_rfl) ?_
                          repeat' first | refine rzY ?_ | fail
                          repeat' first | refine rnY ?_ | with_reducible refine And.intro (fun hc => ?_) (fun hc => ?_) | fail
                          exact ⟨⟨f + 1, agY, by omega, hyes, by exact exY⟩, by exact ivY⟩
                        · rcases hc4b : ((g : Int) == (f : Int)) with _ | _
                          · have hyes := hyes (by rw [hfin, hc12, hc3b, hc4b]; simp)
                            clear hnot hfin
                            refine AWp.zreg [(0, none), (1, none), (2, none), (3, none), (4, none), (5, none), (6, none), (7, none), (8, none), (9, none), (10, none), (11, none), (12, none), (13, none), (14, none), (15, none), (16, none), (17, none), (18, none), (19, none), (20, none), (21, none)] mixed (by kernel_rfl) ?_
                            repeat' first | refine rzY ?_ | fail
                            repeat' first | refine rnY ?_ | with_reducible refine And.intro (fun hc => ?_) (fun hc => ?_) | fail
                            exact ⟨⟨f + 1, agY, by omega, hyes, by exact exY⟩, by exact ivY⟩
                          · have hno := hnot (by rw [hfin, hc12, hc3b, hc4b]; simp)
                            rw [hno] at hQ
                            clear hnot hfin hyes hno
                            refine AWp.zreg [(0, none), (1, none), (2, none), (3, none), (4, none), (5, none), (6, none), (7, none), (8, none), (9, none), (10, none), (11, none), (12, none), (13, none), (14, none), (15, none), (16, none), (17, none), (18, none), (19, none), (20, none), (21, none)] mixed (by kernel_rfl) ?_
                            repeat' first | refine rzY ?_ | fail
                            repeat' first | refine rnY ?_ | with_reducible refine And.intro (fun hc => ?_) (fun hc => ?_) | fail
                            exact hQ.out _ _ (fv) (by exact exY)
                    · have hz2 : decide (0 ≤ q ∧ q ≤ 23) = false := by simpa using h3
                      have hno := hnot (gd_no hfc h1 (.inr h3))
                      rw [hno] at hQ
                      clear hnot hyes hfc hno
                      repeat' first | refine rnY ?_ | with_reducible refine And.intro (fun hc => ?_) (fun hc => ?_) | fail
                      refine AWp.zreg [(0, none), (1, none), (2, none), (3, none), (4, none), (5, none), (6, none), (7, none), (8, none), (9, none), (10, none), (11, none), (12, none)] mixed (by kernel_rfl) ?_
                      repeat' first | refine rzY ?_ | (first | refine ZCalls.to (l07Tets_z _ _ _) ?_ | refine ZCalls.tf (l07Tets_z _ _ _) ?_) | (first | refine ZCalls.to (hin) ?_ | refine ZCalls.tf (hin) ?_) | (first | refine ZCalls.to (l06Valid_z _) ?_ | refine ZCalls.tf (l06Valid_z _) ?_) | fail
                      repeat' first | refine rnY ?_ | with_reducible refine And.intro (fun hc => ?_) (fun hc => ?_) | fail
                      exact hQ.out _ _ (fv) (by exact exY)
                  · rw [decide_eq_false h2] at hin
                    have hno := hnot (gd_no hfc h1 (.inl h2))
                    rw [hno] at hQ
                    clear hnot hyes hfc hno
                    repeat' first | refine rnY ?_ | with_reducible refine And.intro (fun hc => ?_) (fun hc => ?_) | fail
                    refine AWp.zreg [(0, none), (1, none), (2, none), (3, none), (4, none), (5, none), (6, none), (7, none), (8, none), (9, none), (10, none), (11, none), (12, none)] mixed (by kernel_rfl) ?_
                    repeat' first | refine rzY ?_ | (first | refine ZCalls.to (l07Tets_z _ _ _) ?_ | refine ZCalls.tf (l07Tets_z _ _ _) ?_) | (first | refine ZCalls.to (hin) ?_ | refine ZCalls.tf (hin) ?_) | (first | refine ZCalls.to (l06Valid_z _) ?_ | refine ZCalls.tf (l06Valid_z _) ?_) | fail
                    repeat' first | refine rnY ?_ | with_reducible refine And.intro (fun hc => ?_) (fun hc => ?_) | fail
                    exact hQ.out _ _ (fv) (by exact exY)
              · obtain rfl : f = 4 := by omega
                repeat' first | refine rnY ?_ | with_reducible refine And.intro (fun hc => ?_) (fun hc => ?_) | fail
                exact ⟨⟨a + 1, agY, by omega, fun i hi => by
                  rcases Nat.lt_succ_iff_lt_or_eq.1 hi with h | rfl
                  · exact hgds i h
                  · exact hgf, hx⟩, by exact ivY⟩
          · obtain rfl : a = T.length := by omega
            have hyes : IsTri T := ⟨h8, h4, hgds⟩
            rw [decide_eq_true hyes] at hQ
            repeat' first | refine rnY ?_ | (first | refine ZCalls.to (l07Tets_z _ _ _) ?_ | refine ZCalls.tf (l07Tets_z _ _ _) ?_) | with_reducible refine And.intro (fun hc => ?_) (fun hc => ?_) | fail
            exact hQ.out _ _ (fv) (by exact exY)
  · have hno : ¬ IsTri T := fun h => h8 h.1
    rw [decide_eq_false hno] at hQ
    repeat' first | refine rnY ?_ | (first | refine ZCalls.to (l07Tets_z _ _ _) ?_ | refine ZCalls.tf (l07Tets_z _ _ _) ?_) | with_reducible refine And.intro (fun hc => ?_) (fun hc => ?_) | fail
    exact hQ.out _ _ (fv) (by exact exY)
theorem l17Code_z {T : List (List (Int × Int))} (hl : T.length ≤ 1048576) : ZCalls Try.prog 63 [zT T] (I (codeN T)) := by
  have ht := specIsTri_z hl
  unfold codeN
  by_cases h : IsTri T
  · rw [if_pos h]
    rw [decide_eq_true h] at ht
    by_cases h6 : T.length ≤ 6
    · rw [if_pos h6]
      refine ZCalls.body Try.func63 rfl Try.ntmps63 (rs := [.tmp 2]) rfl (by simp) rfl fun H Q hQ A hA => ?_
      have a0 := hA 0 _ _ rfl
      clear hA
      repeat' first | refine rnY ?_ | (first | refine ZCalls.to (ht) ?_ | refine ZCalls.tf (ht) ?_) | (first | refine ZCalls.to (l07Tets_z _ _ _) ?_ | refine ZCalls.tf (l07Tets_z _ _ _) ?_) | with_reducible refine And.intro (fun hc => ?_) (fun hc => ?_) | fail
      exact hQ.out _ _ (fv) (by exact exY)
    · rw [if_neg h6]
      refine ZCalls.body Try.func63 rfl Try.ntmps63 (rs := [.tmp 2]) rfl (by simp) rfl fun H Q hQ A hA => ?_
      have a0 := hA 0 _ _ rfl
      clear hA
      repeat' first | refine rnY ?_ | (first | refine ZCalls.to (ht) ?_ | refine ZCalls.tf (ht) ?_) | (first | refine ZCalls.to (l07Tets_z _ _ _) ?_ | refine ZCalls.tf (l07Tets_z _ _ _) ?_) | with_reducible refine And.intro (fun hc => ?_) (fun hc => ?_) | fail
      exact hQ.out _ _ (fv) (by exact exY)
  · rw [if_neg h]
    rw [decide_eq_false h] at ht
    refine ZCalls.body Try.func63 rfl Try.ntmps63 (rs := [.tmp 2]) rfl (by simp) rfl fun H Q hQ A hA => ?_
    have a0 := hA 0 _ _ rfl
    clear hA
    repeat' first | refine rnY ?_ | (first | refine ZCalls.to (ht) ?_ | refine ZCalls.tf (ht) ?_) | with_reducible refine And.intro (fun hc => ?_) (fun hc => ?_) | fail
    exact hQ.out _ _ (fv) (by exact exY)
end Go.Proofs.Ytmoknllbpjpkmaa.Zed
