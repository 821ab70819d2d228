/- A part of the walk: what functions of the program do, over an abstract heap. -/
import Derived.Test.YtmoknllbpjpkmaaGreatGA
import Derived.Test.YtmoknllbpjpkmaaGreatZedF
namespace Go.Proofs.YtmoknllbpjpkmaaGreat.Zed
open Go TP
set_option linter.unusedVariables false
set_option linter.unusedSimpArgs false
set_option maxRecDepth 20000
namespace tfW14
theorem tf : (Tryz.prog.underlying 29 = some (.slice 61)) ∧ (el Tryz.prog 29 = some (none, 1)) ∧ (Tryz.prog.underlying 61 = some (.slice 80)) ∧ (el Tryz.prog 61 = some (none, 2)) ∧ (tk Tryz.prog 2 = some none) ∧ (tk Tryz.prog 29 = some none) ∧ (tk Tryz.prog 31 = some (some 1)) ∧ (tk Tryz.prog 61 = some none) ∧ (tk Tryz.prog 80 = some (some 2)) ∧ (cz Tryz.prog 61 = some 1) ∧ (bz Tryz.prog 61 = some 24) ∧ (cz Tryz.prog 80 = some 2) ∧ (bz Tryz.prog 80 = some 16) ∧ (zr Tryz.prog 61 = some (.slice none 0 0)) ∧ (zr Tryz.prog 80 = some (.agg #[.int .i64 0, .int .i64 0])) ∧ (fo Tryz.prog 31 0 = some (0, none)) ∧ (fo Tryz.prog 80 0 = some (0, none)) ∧ (fo Tryz.prog 80 1 = some (1, none)) ∧ (el Tryz.prog 80 = none) ∧ (placesOf Tryz.prog 80 = some #[(0, 1), (1, 1)]) ∧ (i2 Tryz.prog 80 = true) := by
  refine ⟨?_, ?_, ?_, ?_, ?_, ?_, ?_, ?_, ?_, ?_, ?_, ?_, ?_, ?_, ?_, ?_, ?_, ?_, ?_, ?_, ?_⟩ <;> kernel_rfl
end tfW14
open tfW14

theorem gd_iff {T : List (List (Int × Int))} {a f tn g : Nat} {q y1 y2 : Int} (hx : fc T a f = ((tn : Int), q)) (h2 : tn < T.length) (h3 : 0 ≤ q ∧ q ≤ 23) (hg : pm q f = (g : Int)) (hy : fc T tn g = (y1, y2)) :
    gd T a f ↔ ((y1 == (a : Int) && y2 == invL q) && (!((tn : Int) == (a : Int)) || !((g : Int) == (f : Int)))) = true := by
  have h2' : 0 ≤ (tn : Int) ∧ (tn : Int) ≤ (T.length : Int) - 1 := by omega
  rw [gd_def, hx]
  simp only [show ¬ (tn : Int) = -1 by omega, if_false, hg, Int.toNat_natCast, hy, h2', h3, and_self, true_and]
  simp [Prod.ext_iff, and_assoc]
theorem gd_neg {T : List (List (Int × Int))} {a f : Nat} {q : Int} (hx : fc T a f = (-1, q)) : gd T a f ↔ q = 0 := by
  rw [gd_def, hx]; simp
theorem gd_no {T : List (List (Int × Int))} {a f : Nat} {t q : Int} (hx : fc T a f = (t, q)) (h1 : ¬ t = -1) (h : ¬ (0 ≤ t ∧ t ≤ (T.length : Int) - 1) ∨ ¬ (0 ≤ q ∧ q ≤ 23)) : ¬ gd T a f := by
  rw [gd_def, hx]; simp only [h1, if_false]
  rintro ⟨g1, g2, _⟩
  rcases h with h | h
  · exact h g1
  · exact h g2
set_option maxHeartbeats 4000000 in
theorem specIsTri_z {T : List (List (Int × Int))} (hl : T.length ≤ 1048576) : ZCalls Tryz.prog 58 [zT T] (B (decide (IsTri T))) := by
  refine ZCalls.body Tryz.func58 rfl Tryz.ntmps58 (rs := [.tmp 2]) rfl (by simp) rfl fun H Q hQ A hA => ?_
  have a0 := hA 0 _ _ rfl
  clear hA
  by_cases h8 : T.length ≤ 8
  · repeat' first | refine rnY ?_ | (first | refine ZCalls.to (l07Tets_z _ _ _) ?_ | refine ZCalls.tf (l07Tets_z _ _ _) ?_) | with_reducible refine And.intro (fun hc => ?_) (fun hc => ?_) | fail
    refine AWp.cut (fun Ac hAc => ?_)
    have c1 := gtY (t := 1) hAc
    have c3 := gtY (t := 3) hAc
    clear a0
    refine AWp.loop (fun A' H' => ∃ (j : Nat), Ag [12, 13, 14, 15, 16, 17, 18, 19, 20, 21, 22, 23, 24, 25] A' (put Ac (some 3) (I j)) ∧ j ≤ T.length ∧ (∀ i, i < j → (T.getD i []).length = 4) ∧ H' = H) (fun A' _ => T.length - (intV (A' 3)).toNat) ?_ ?_
    · exact ⟨0, agY, by omega, fun i hi => by omega, rfl⟩
    · rintro A1 H1 ⟨j, hA, hj, h4, rfl⟩
      have d1 := gdY (t := 1) hA
      have d3 := gdY (t := 3) hA
      by_cases hlt : j < T.length
      · by_cases h4j : (T.getD j []).length = 4
        · have h4b : (((T.getD j []).length : Int) == 4) = true := by rw [h4j]; rfl
          repeat' first | refine rnY ?_ | with_reducible refine And.intro (fun hc => ?_) (fun hc => ?_) | fail
          exact ⟨⟨j + 1, agY, by omega, fun i hi => by
            rcases Nat.lt_succ_iff_lt_or_eq.1 hi with h | rfl
            · exact h4 i h
            · exact h4j, rfl⟩, by exact ivY⟩
        · have h4b : (((T.getD j []).length : Int) == 4) = false := by rw [beq_eq_false_iff_ne]; omega
          have hno : ¬ IsTri T := fun h => h4j (h.2.1 j hlt)
          rw [decide_eq_false hno] at hQ
          repeat' first | refine rnY ?_ | with_reducible refine And.intro (fun hc => ?_) (fun hc => ?_) | fail
          exact hQ.out _ _ (fv) (by exact exY)
      · obtain rfl : j = T.length := by omega
        repeat' first | refine rnY ?_ | with_reducible refine And.intro (fun hc => ?_) (fun hc => ?_) | fail
        refine AWp.cut (fun Ae hAe => ?_)
        have e1 := gtY (t := 1) hAe
        have e4 := gtY (t := 4) hAe
        refine AWp.loop (fun A' H' => ∃ (a : Nat), Ag [5, 6, 7, 8, 26, 27, 28, 29, 30, 31, 32, 33, 34, 35, 36, 37, 38, 39, 40, 41, 42, 43, 44, 45, 46, 47, 48, 49, 50, 51, 52, 53, 54, 55, 56, 57, 58, 59, 60, 61, 62, 63, 64, 65, 66, 67, 68, 69, 70, 71, 72, 73, 74, 75, 76, 77, 78, 79, 80, 81, 82, 83, 84, 85, 86, 87, 88, 89, 90, 91, 92, 93, 94, 95] A' (put Ae (some 4) (I a)) ∧ a ≤ T.length ∧ (∀ i, i < a → ∀ f, f < 4 → gd T i f) ∧ Ext H1 H') (fun A' _ => T.length - (intV (A' 4)).toNat) ?_ ?_
        · exact ⟨0, agY, by omega, fun i hi => by omega, by exact exY⟩
        · rintro A2 H2 ⟨a, hB, ha, hgds, hx⟩
          have f1 := gdY (t := 1) hB
          have f4 := gdY (t := 4) hB
          by_cases halt : a < T.length
          · have h4a := h4 a halt
            repeat' first | refine rnY ?_ | (first | refine ZCalls.to (l07Tets_z _ _ _) ?_ | refine ZCalls.tf (l07Tets_z _ _ _) ?_) | with_reducible refine And.intro (fun hc => ?_) (fun hc => ?_) | fail
            refine AWp.cut (fun Aq hAq => ?_)
            have q1 := gtY (t := 1) hAq
            have q4 := gtY (t := 4) hAq
            have q5 := gtY (t := 5) hAq
            refine AWp.loop (fun A' H' => ∃ (f : Nat), Ag [6, 7, 8, 32, 33, 34, 35, 36, 37, 38, 39, 40, 41, 42, 43, 44, 45, 46, 47, 48, 49, 50, 51, 52, 53, 54, 55, 56, 57, 58, 59, 60, 61, 62, 63, 64, 65, 66, 67, 68, 69, 70, 71, 72, 73, 74, 75, 76, 77, 78, 79, 80, 81, 82, 83, 84, 85, 86, 87, 88, 89, 90, 91, 92, 93, 94, 95] A' (put Aq (some 5) (I f)) ∧ f ≤ 4 ∧ (∀ g, g < f → gd T a g) ∧ Ext H1 H') (fun A' _ => 4 - (intV (A' 5)).toNat) ?_ ?_
            · exact ⟨0, agY, by omega, fun i hi => by omega, hx⟩
            · clear hx
              rintro A3 H3 ⟨f, hD, hf, hgf, hx⟩
              have s1 := gdY (t := 1) hD
              have s4 := gdY (t := 4) hD
              have s5 := gdY (t := 5) hD
              by_cases hff : f < 4
              · obtain ⟨⟨t, q⟩, hfc⟩ : ∃ x, fc T a f = x := ⟨_, rfl⟩
                have hfg : (T.getD a []).getD f (0, 0) = (t, q) := hfc
                have hyes : gd T a f → ∀ g, g < f + 1 → gd T a g := fun h g hg => by
                  rcases Nat.lt_succ_iff_lt_or_eq.1 hg with h' | rfl
                  · exact hgf g h'
                  · exact h
                have hnot : ¬ gd T a f → decide (IsTri T) = false := fun h => decide_eq_false fun h' => h (h'.2.2 a halt f hff)
                have hin := l07In_z t 0 ((T.length : Int) - 1)
                by_cases h1 : t = -1
                · subst h1
                  by_cases hq0 : q = 0
                  · subst hq0
                    have hyes := hyes ((gd_neg hfc).2 rfl)
                    clear hnot hfc
                    repeat' first | refine rnY ?_ | with_reducible refine And.intro (fun hc => ?_) (fun hc => ?_) | fail
                    exact ⟨⟨f + 1, agY, by omega, hyes, by exact exY⟩, by exact ivY⟩
                  · have hq0b : (q == 0) = false := by rw [beq_eq_false_iff_ne]; exact hq0
                    rw [decide_eq_false (by omega)] at hin
                    have hno := hnot (fun h => hq0 ((gd_neg hfc).1 h))
                    rw [hno] at hQ
                    clear hnot hyes hfc hno
                    repeat' first | refine rnY ?_ | with_reducible refine And.intro (fun hc => ?_) (fun hc => ?_) | fail
                    refine AWp.zreg [(0, none), (1, none), (2, none), (3, none), (4, none), (5, none), (6, none), (7, none), (8, none), (9, none), (10, none), (11, none), (12, none)] mixed (by kernel_rfl) ?_
                    repeat' first | refine rzY ?_ | (first | refine ZCalls.to (l07Tets_z _ _ _) ?_ | refine ZCalls.tf (l07Tets_z _ _ _) ?_) | (first | refine ZCalls.to (hin) ?_ | refine ZCalls.tf (hin) ?_) | (first | refine ZCalls.to (l06Valid_z _) ?_ | refine ZCalls.tf (l06Valid_z _) ?_) | fail
                    repeat' first | refine rnY ?_ | with_reducible refine And.intro (fun hc => ?_) (fun hc => ?_) | fail
                    exact hQ.out _ _ (fv) (by exact exY)
                · have h1b : (t == -1) = false := by rw [beq_eq_false_iff_ne]; exact h1
                  by_cases h2 : 0 ≤ t ∧ t ≤ (T.length : Int) - 1
                  · rw [decide_eq_true h2] at hin
                    by_cases h3 : 0 ≤ q ∧ q ≤ 23
                    · have hz2 : decide (0 ≤ q ∧ q ≤ 23) = true := by simpa using h3
                      obtain ⟨tn, rfl⟩ : ∃ tn : Nat, t = tn := ⟨t.toNat, by omega⟩
                      have hqb := pm_bd q f h3.1 (by omega) (by omega) (by omega)
                      have hpq := l06At_z q f h3.1 (by omega) (by omega) (by omega)
                      have hbk := l06Back_z q h3.1 (by omega)
                      obtain ⟨g, hg'⟩ : ∃ g : Nat, pm q f = (g : Int) := ⟨(pm q f).toNat, by omega⟩
                      have htn : tn < T.length := by omega
                      have hg4 : g < 4 := by omega
                      have h4t := h4 tn htn
                      obtain ⟨⟨y1, y2⟩, hfy⟩ : ∃ x, fc T tn g = x := ⟨_, rfl⟩
                      have hfz : (T.getD tn []).getD g (0, 0) = (y1, y2) := hfy
                      have hfin := gd_iff hfc htn h3 hg' hfy
                      rw [hg'] at hpq
                      generalize invL q = iq at hfin hbk
                      clear hfc hfy hqb
                      repeat' first | refine rnY ?_ | with_reducible refine And.intro (fun hc => ?_) (fun hc => ?_) | fail
                      refine AWp.zreg [(0, none), (1, none), (2, none), (3, none), (4, none), (5, none), (6, none), (7, none), (8, none), (9, none), (10, none), (11, none), (12, none)] mixed (by kernel_rfl) ?_
                      repeat' first | refine rzY ?_ | (first | refine ZCalls.to (l07Tets_z _ _ _) ?_ | refine ZCalls.tf (l07Tets_z _ _ _) ?_) | (first | refine ZCalls.to (hin) ?_ | refine ZCalls.tf (hin) ?_) | (first | refine ZCalls.to (l06Valid_z _) ?_ | refine ZCalls.tf (l06Valid_z _) ?_) | fail
                      repeat' first | refine rnY ?_ | (first | refine ZCalls.to (hpq) ?_ | refine ZCalls.tf (hpq) ?_) | (first | refine ZCalls.to (hbk) ?_ | refine ZCalls.tf (hbk) ?_) | with_reducible refine And.intro (fun hc => ?_) (fun hc => ?_) | fail
                      rcases hc12 : (y1 == (a : Int) && y2 == iq) with _ | _
                      · have hno := hnot (by rw [hfin, hc12]; simp)
                        rw [hno] at hQ
                        clear hnot hfin hyes hno
                        refine AWp.zreg [(0, none), (1, none), (2, none), (3, none), (4, none), (5, none), (6, none), (7, none), (8, none), (9, none), (10, none), (11, none), (12, none), (13, none), (14, none), (15, none), (16, none), (17, none), (18, none), (19, none), (20, none), (21, none)] mixed (by kernel_rfl) ?_
                        repeat' first | refine rzY ?_ | fail
                        repeat' first | refine rnY ?_ | with_reducible refine And.intro (fun hc => ?_) (fun hc => ?_) | fail
                        exact hQ.out _ _ (fv) (by exact exY)
                      · rcases hc3b : ((tn : Int) == (a : Int)) with _ | _
                        · have hyes := hyes (by rw [hfin, hc12, hc3b]; simp)
                          clear hnot hfin
                          refine AWp.zreg [(0, none), (1, none), (2, none), (3, none), (4, none), (5, none), (6, none), (7, none), (8, none), (9, none), (10, none), (11, none), (12, none), (13, none), (14, none), (15, none), (16, none), (17, none), (18, none), (19, none), (20, none), (21, none)] mixed (by kernel_rfl) ?_
                          repeat' first | refine rzY ?_ | fail
                          repeat' first | refine rnY ?_ | with_reducible refine And.intro (fun hc => ?_) (fun hc => ?_) | fail
                          exact ⟨⟨f + 1, agY, by omega, hyes, by exact exY⟩, by exact ivY⟩
                        · rcases hc4b : ((g : Int) == (f : Int)) with _ | _
                          · have hyes := hyes (by rw [hfin, hc12, hc3b, hc4b]; simp)
                            clear hnot hfin
                            refine AWp.zreg [(0, none), (1, none), (2, none), (3, none), (4, none), (5, none), (6, none), (7, none), (8, none), (9, none), (10, none), (11, none), (12, none), (13, none), (14, none), (15, none), (16, none), (17, none), (18, none), (19, none), (20, none), (21, none)] mixed (by kernel_rfl) ?_
                            repeat' first | refine rzY ?_ | fail
                            repeat' first | refine rnY ?_ | with_reducible refine And.intro (fun hc => ?_) (fun hc => ?_) | fail
                            exact ⟨⟨f + 1, agY, by omega, hyes, by exact exY⟩, by exact ivY⟩
                          · have hno := hnot (by rw [hfin, hc12, hc3b, hc4b]; simp)
                            rw [hno] at hQ
                            clear hnot hfin hyes hno
                            refine AWp.zreg [(0, none), (1, none), (2, none), (3, none), (4, none), (5, none), (6, none), (7, none), (8, none), (9, none), (10, none), (11, none), (12, none), (13, none), (14, none), (15, none), (16, none), (17, none), (18, none), (19, none), (20, none), (21, none)] mixed (by kernel_rfl) ?_
                            repeat' first | refine rzY ?_ | fail
                            repeat' first | refine rnY ?_ | with_reducible refine And.intro (fun hc => ?_) (fun hc => ?_) | fail
                            exact hQ.out _ _ (fv) (by exact exY)
                    · have hz2 : decide (0 ≤ q ∧ q ≤ 23) = false := by simpa using h3
                      have hno := hnot (gd_no hfc h1 (.inr h3))
                      rw [hno] at hQ
                      clear hnot hyes hfc hno
                      repeat' first | refine rnY ?_ | with_reducible refine And.intro (fun hc => ?_) (fun hc => ?_) | fail
                      refine AWp.zreg [(0, none), (1, none), (2, none), (3, none), (4, none), (5, none), (6, none), (7, none), (8, none), (9, none), (10, none), (11, none), (12, none)] mixed (by kernel_rfl) ?_
                      repeat' first | refine rzY ?_ | (first | refine ZCalls.to (l07Tets_z _ _ _) ?_ | refine ZCalls.tf (l07Tets_z _ _ _) ?_) | (first | refine ZCalls.to (hin) ?_ | refine ZCalls.tf (hin) ?_) | (first | refine ZCalls.to (l06Valid_z _) ?_ | refine ZCalls.tf (l06Valid_z _) ?_) | fail
                      repeat' first | refine rnY ?_ | with_reducible refine And.intro (fun hc => ?_) (fun hc => ?_) | fail
                      exact hQ.out _ _ (fv) (by exact exY)
                  · rw [decide_eq_false h2] at hin
                    have hno := hnot (gd_no hfc h1 (.inl h2))
                    rw [hno] at hQ
                    clear hnot hyes hfc hno
                    repeat' first | refine rnY ?_ | with_reducible refine And.intro (fun hc => ?_) (fun hc => ?_) | fail
                    refine AWp.zreg [(0, none), (1, none), (2, none), (3, none), (4, none), (5, none), (6, none), (7, none), (8, none), (9, none), (10, none), (11, none), (12, none)] mixed (by kernel_rfl) ?_
                    repeat' first | refine rzY ?_ | (first | refine ZCalls.to (l07Tets_z _ _ _) ?_ | refine ZCalls.tf (l07Tets_z _ _ _) ?_) | (first | refine ZCalls.to (hin) ?_ | refine ZCalls.tf (hin) ?_) | (first | refine ZCalls.to (l06Valid_z _) ?_ | refine ZCalls.tf (l06Valid_z _) ?_) | fail
                    repeat' first | refine rnY ?_ | with_reducible refine And.intro (fun hc => ?_) (fun hc => ?_) | fail
                    exact hQ.out _ _ (fv) (by exact exY)
              · obtain rfl : f = 4 := by omega
                repeat' first | refine rnY ?_ | with_reducible refine And.intro (fun hc => ?_) (fun hc => ?_) | fail
                exact ⟨⟨a + 1, agY, by omega, fun i hi => by
                  rcases Nat.lt_succ_iff_lt_or_eq.1 hi with h | rfl
                  · exact hgds i h
                  · exact hgf, hx⟩, by exact ivY⟩
          · obtain rfl : a = T.length := by omega
            have hyes : IsTri T := ⟨h8, h4, hgds⟩
            rw [decide_eq_true hyes] at hQ
            repeat' first | refine rnY ?_ | (first | refine ZCalls.to (l07Tets_z _ _ _) ?_ | refine ZCalls.tf (l07Tets_z _ _ _) ?_) | with_reducible refine And.intro (fun hc => ?_) (fun hc => ?_) | fail
            exact hQ.out _ _ (fv) (by exact exY)
  · have hno : ¬ IsTri T := fun h => h8 h.1
    rw [decide_eq_false hno] at hQ
    repeat' first | refine rnY ?_ | (first | refine ZCalls.to (l07Tets_z _ _ _) ?_ | refine ZCalls.tf (l07Tets_z _ _ _) ?_) | with_reducible refine And.intro (fun hc => ?_) (fun hc => ?_) | fail
    exact hQ.out _ _ (fv) (by exact exY)
theorem l17Code_z {T : List (List (Int × Int))} (hl : T.length ≤ 1048576) : ZCalls Tryz.prog 36 [zT T] (I (codeN T)) := by
  have ht := specIsTri_z hl
  unfold codeN
  by_cases h : IsTri T
  · rw [if_pos h]
    rw [decide_eq_true h] at ht
    by_cases h6 : T.length ≤ 6
    · rw [if_pos h6]
      refine ZCalls.body Tryz.func36 rfl Tryz.ntmps36 (rs := [.tmp 2]) rfl (by simp) rfl fun H Q hQ A hA => ?_
      have a0 := hA 0 _ _ rfl
      clear hA
      repeat' first | refine rnY ?_ | (first | refine ZCalls.to (ht) ?_ | refine ZCalls.tf (ht) ?_) | (first | refine ZCalls.to (l07Tets_z _ _ _) ?_ | refine ZCalls.tf (l07Tets_z _ _ _) ?_) | with_reducible refine And.intro (fun hc => ?_) (fun hc => ?_) | fail
      exact hQ.out _ _ (fv) (by exact exY)
    · rw [if_neg h6]
      refine ZCalls.body Tryz.func36 rfl Tryz.ntmps36 (rs := [.tmp 2]) rfl (by simp) rfl fun H Q hQ A hA => ?_
      have a0 := hA 0 _ _ rfl
      clear hA
      repeat' first | refine rnY ?_ | (first | refine ZCalls.to (ht) ?_ | refine ZCalls.tf (ht) ?_) | (first | refine ZCalls.to (l07Tets_z _ _ _) ?_ | refine ZCalls.tf (l07Tets_z _ _ _) ?_) | with_reducible refine And.intro (fun hc => ?_) (fun hc => ?_) | fail
      exact hQ.out _ _ (fv) (by exact exY)
  · rw [if_neg h]
    rw [decide_eq_false h] at ht
    refine ZCalls.body Tryz.func36 rfl Tryz.ntmps36 (rs := [.tmp 2]) rfl (by simp) rfl fun H Q hQ A hA => ?_
    have a0 := hA 0 _ _ rfl
    clear hA
    repeat' first | refine rnY ?_ | (first | refine ZCalls.to (ht) ?_ | refine ZCalls.tf (ht) ?_) | with_reducible refine And.intro (fun hc => ?_) (fun hc => ?_) | fail
    exact hQ.out _ _ (fv) (by exact exY)
end Go.Proofs.YtmoknllbpjpkmaaGreat.Zed
namespace Go.Proofs.YtmoknllbpjpkmaaGreat.Zed
open Go TP
set_option linter.unusedVariables false
set_option linter.unusedSimpArgs false
set_option maxRecDepth 20000
end Go.Proofs.YtmoknllbpjpkmaaGreat.Zed
namespace Go.Proofs.YtmoknllbpjpkmaaGreat.Zed
open Go TP
set_option linter.unusedVariables false
set_option linter.unusedSimpArgs false
set_option maxRecDepth 20000
namespace tfW16
theorem tf : True := trivial
end tfW16
open tfW16

/-- Rows of w numbers each. -/
abbrev rowsZ (w : Nat) (R : List (List Int)) : List Value := R.map fun r => FZ 1 w (ints r)
theorem rowsZ_len (w : Nat) (R : List (List Int)) : (rowsZ w R).length = R.length := List.length_map _
end Go.Proofs.YtmoknllbpjpkmaaGreat.Zed
namespace Go.Proofs.YtmoknllbpjpkmaaGreat.Zed
open Go TP
set_option linter.unusedVariables false
set_option linter.unusedSimpArgs false
set_option maxRecDepth 20000
namespace tfW17
theorem tf : True := trivial
end tfW17
open tfW17

/-- The three rows of marks. -/
def CM (Hb : Heap) (gv ge gf : Nat) (H : Heap) (mv me mf : List Int) : Prop := Hb.size ≤ gv ∧ gv < ge ∧ ge < gf ∧ gf < H.size ∧ H.get gv = .cells (ints mv) 1 false ∧ H.get ge = .cells (ints me) 1 false ∧ H.get gf = .cells (ints mf) 1 false ∧ Ext Hb H
theorem CM.ext {Hb H H' : Heap} {gv ge gf : Nat} {mv me mf : List Int} (h : CM Hb gv ge gf H mv me mf) (k : Ext H H') : CM Hb gv ge gf H' mv me mf := by
  obtain ⟨h1, h2, h3, h4, h5, h6, h7, h8⟩ := h
  exact ⟨h1, h2, h3, Nat.lt_of_lt_of_le h4 k.size, by rw [k.get _ (by omega), h5], by rw [k.get _ (by omega), h6], by rw [k.get _ h4, h7], h8.trans k⟩
end Go.Proofs.YtmoknllbpjpkmaaGreat.Zed
namespace Go.Proofs.YtmoknllbpjpkmaaGreat.Zed
open Go TP
set_option linter.unusedVariables false
set_option linter.unusedSimpArgs false
set_option maxRecDepth 20000
end Go.Proofs.YtmoknllbpjpkmaaGreat.Zed
namespace Go.Proofs.YtmoknllbpjpkmaaGreat.Zed
open Go TP
set_option linter.unusedVariables false
set_option linter.unusedSimpArgs false
set_option maxRecDepth 20000
end Go.Proofs.YtmoknllbpjpkmaaGreat.Zed
namespace Go.Proofs.YtmoknllbpjpkmaaGreat.Zed
open Go TP
set_option linter.unusedVariables false
set_option linter.unusedSimpArgs false
set_option maxRecDepth 20000
end Go.Proofs.YtmoknllbpjpkmaaGreat.Zed
namespace Go.Proofs.YtmoknllbpjpkmaaGreat.Zed
open Go TP
set_option linter.unusedVariables false
set_option linter.unusedSimpArgs false
set_option maxRecDepth 20000
end Go.Proofs.YtmoknllbpjpkmaaGreat.Zed
namespace Go.Proofs.YtmoknllbpjpkmaaGreat.Zed
open Go TP
set_option linter.unusedVariables false
set_option linter.unusedSimpArgs false
set_option maxRecDepth 20000
namespace tfX2
theorem tf : True := trivial
end tfX2
open tfX2

theorem getD_set (l : List Int) (a b : Nat) (x : Int) (h : a < l.length) : (l.set a x).getD b 0 = if a = b then x else l.getD b 0 := by
  rw [List.getD_eq_getElem?_getD, List.getElem?_set]
  split
  · rfl
  · rw [← List.getD_eq_getElem?_getD]
end Go.Proofs.YtmoknllbpjpkmaaGreat.Zed
namespace Go.Proofs.YtmoknllbpjpkmaaGreat.Zed
open Go TP
set_option linter.unusedVariables false
set_option linter.unusedSimpArgs false
set_option maxRecDepth 20000
namespace tfW22
theorem tf : (Tryz.prog.underlying 57 = some (.slice 87)) ∧ (el Tryz.prog 57 = some (none, 2)) ∧ (Tryz.prog.underlying 61 = some (.slice 80)) ∧ (el Tryz.prog 61 = some (none, 2)) ∧ (tk Tryz.prog 2 = some none) ∧ (tk Tryz.prog 80 = some (some 2)) ∧ (tk Tryz.prog 87 = some (some 2)) ∧ (cz Tryz.prog 80 = some 2) ∧ (bz Tryz.prog 80 = some 16) ∧ (cz Tryz.prog 87 = some 2) ∧ (bz Tryz.prog 87 = some 16) ∧ (zr Tryz.prog 80 = some (.agg #[.int .i64 0, .int .i64 0])) ∧ (zr Tryz.prog 87 = some (.agg #[.int .i64 0, .int .i64 0])) ∧ (fo Tryz.prog 80 0 = some (0, none)) ∧ (fo Tryz.prog 80 1 = some (1, none)) ∧ (fo Tryz.prog 87 0 = some (0, none)) ∧ (fo Tryz.prog 87 1 = some (1, none)) := by
  refine ⟨?_, ?_, ?_, ?_, ?_, ?_, ?_, ?_, ?_, ?_, ?_, ?_, ?_, ?_, ?_, ?_, ?_⟩ <;> kernel_rfl
end tfW22
open tfW22

/-- What is left of a room of r when n more things are taken: -1, nothing. -/
def sz1 (r : Int) (n : Nat) : Int := if r - n < 0 then -1 else r - n
theorem szFaceS_z (n es : Nat) (cs : List Value) (r : Int) (hr0 : 0 ≤ r) (hr : r ≤ 1048576) (hn : n ≤ 9223372036854775807) : ZCalls Tryz.prog 35 [FZ es n cs, I r] (I (sz1 r n)) := by
  unfold sz1
  by_cases h : r - n < 0
  · rw [if_pos h]
    refine ZCalls.body Tryz.func35 rfl Tryz.ntmps35 (rs := [.tmp 4]) rfl (by simp) rfl fun H Q hQ A hA => ?_
    have a0 := hA 0 _ _ rfl
    have a1 := hA 1 _ _ rfl
    clear hA
    repeat' first | refine rnY ?_ | with_reducible refine And.intro (fun hc => ?_) (fun hc => ?_) | fail
    exact hQ.out _ _ (fv) (by exact exY)
  · rw [if_neg h]
    refine ZCalls.body Tryz.func35 rfl Tryz.ntmps35 (rs := [.tmp 4]) rfl (by simp) rfl fun H Q hQ A hA => ?_
    have a0 := hA 0 _ _ rfl
    have a1 := hA 1 _ _ rfl
    clear hA
    repeat' first | refine rnY ?_ | with_reducible refine And.intro (fun hc => ?_) (fun hc => ?_) | fail
    exact hQ.out _ _ (fv) (by exact exY)
theorem toFace_z (t p : Int) : ZCalls Tryz.prog 65 [.agg #[I t, I p]] (.agg #[I t, I p]) := by
  refine ZCalls.body Tryz.func65 rfl Tryz.ntmps65 (rs := [.cell 2 80]) rfl (by simp) rfl fun H Q hQ A hA => ?_
  have a0 := hA 0 _ _ rfl
  clear hA
  repeat' first | refine rnY ?_ | with_reducible refine And.intro (fun hc => ?_) (fun hc => ?_) | fail
  exact hQ.out _ _ (.cl (Cl.agg (l := [_, _]) (Cl.cons (Cl.int _ _) (Cl.cons (Cl.int _ _) Cl.nil)))) (by exact exY)
theorem eqFace_z (t p t' p' : Int) : ZCalls Tryz.prog 72 [.agg #[I t, I p], .agg #[I t', I p']] (B (t == t' && p == p')) := by
  cases h1 : (t == t')
  · refine ZCalls.body Tryz.func72 rfl Tryz.ntmps72 (rs := [.tmp 4]) rfl (by simp) rfl fun H Q hQ A hA => ?_
    have a0 := hA 0 _ _ rfl
    have a1 := hA 1 _ _ rfl
    clear hA
    repeat' first | refine rnY ?_ | with_reducible refine And.intro (fun hc => ?_) (fun hc => ?_) | fail
    exact hQ.out _ _ (fv) (by exact exY)
  · cases h2 : (p == p')
    · refine ZCalls.body Tryz.func72 rfl Tryz.ntmps72 (rs := [.tmp 4]) rfl (by simp) rfl fun H Q hQ A hA => ?_
      have a0 := hA 0 _ _ rfl
      have a1 := hA 1 _ _ rfl
      clear hA
      repeat' first | refine rnY ?_ | with_reducible refine And.intro (fun hc => ?_) (fun hc => ?_) | fail
      exact hQ.out _ _ (fv) (by exact exY)
    · refine ZCalls.body Tryz.func72 rfl Tryz.ntmps72 (rs := [.tmp 4]) rfl (by simp) rfl fun H Q hQ A hA => ?_
      have a0 := hA 0 _ _ rfl
      have a1 := hA 1 _ _ rfl
      clear hA
      repeat' first | refine rnY ?_ | with_reducible refine And.intro (fun hc => ?_) (fun hc => ?_) | fail
      exact hQ.out _ _ (fv) (by exact exY)
theorem FinV.pairs {lo : Nat} {H : Heap} {g c n : Nat} {l : List (Int × Int)} (hg : lo ≤ g) (hn : l.length = n) (hget : H.get g = .cells (p2 l) 2 false) : FinV lo H (.slice (some ⟨g, 0, none⟩) n c) (FZ 2 n (p2 l)) :=
  .own hg hget (by have := p2_len l; omega) (by have := p2_len l; omega) (fun i x r hx hr => by
    rw [Nat.zero_add] at hx
    cases hx.symm.trans hr
    exact .cl (Cl.p2 l _ (List.mem_of_getElem? hx)))
theorem p2_set (L : List (Int × Int)) (j : Nat) (t q : Int) (h : j < L.length) : (p2 L).take (j * 2) ++ [I t, I q] ++ (p2 L).drop (j * 2 + 2) = p2 (L.set j (t, q)) := by
  induction L generalizing j with
  | nil => simp at h
  | cons x L ih =>
    have e : ∀ (y : Int × Int) (M : List (Int × Int)), p2 (y :: M) = I y.1 :: I y.2 :: p2 M := fun y M => by simp [p2]
    cases j with
    | zero => rw [e, List.set_cons_zero, e]; simp
    | succ j =>
      rw [e, List.set_cons_succ, e, ← ih j (by simpa using h), show (j + 1) * 2 = j * 2 + 1 + 1 by omega]
      simp
theorem zz_p2 : ∀ n : Nat, zz (.int .i64 0) (.int .i64 0) (n * 2) = p2 (List.replicate n (0, 0)) := by
  intro n
  apply List.ext_getElem?
  intro i
  have hl := p2_len (List.replicate n ((0 : Int), (0 : Int)))
  rw [List.length_replicate] at hl
  by_cases hi : i < n * 2
  · rw [zz_get _ _ _ _ hi]
    have h2 : i / 2 < n := by omega
    rcases Nat.mod_two_eq_zero_or_one i with h | h
    · have := p2_get0 (l := List.replicate n ((0 : Int), (0 : Int))) (i := i / 2) (by rw [List.length_replicate]; exact h2)
      rw [show i / 2 * 2 = i by omega] at this
      rw [this]; simp [h2]
    · have := p2_get1 (l := List.replicate n ((0 : Int), (0 : Int))) (i := i / 2) (by rw [List.length_replicate]; exact h2)
      rw [show i / 2 * 2 + 1 = i by omega] at this
      rw [this]; simp [h2]
  · rw [List.getElem?_eq_none (by rw [zz_len]; omega), List.getElem?_eq_none (by omega)]
set_option maxHeartbeats 1000000 in
theorem toFaceS_o {row : List (Int × Int)} (hS : row.length ≤ 1048576) : OCalls Tryz.prog 41 [zP row] (zP row) := by
  refine OCalls.body Tryz.func41 rfl Tryz.ntmps41 (rs := [.tmp 2]) rfl (by simp) rfl fun H Q hQ A hA => ?_
  have a0 := hA 0 _ _ rfl
  clear hA
  repeat' first | refine rnY ?_ | with_reducible refine And.intro (fun hc => ?_) (fun hc => ?_) | fail
  refine AWp.cut (fun Ac hAc => ?_)
  have c0 := gtY (t := 0) hAc
  have c3 := gtY (t := 3) hAc
  have c4 := gtY (t := 4) hAc
  clear a0
  rw [zz_p2]
  refine AWp.loop (fun A' H' => ∃ (j : Nat) (L : List (Int × Int)), Ag [8, 9, 10, 11, 12, 13, 14, 15, 16, 17, 18, 19, 20, 21] A' (put Ac (some 4) (I j)) ∧ j ≤ row.length ∧ L.length = row.length ∧ L.take j = row.take j ∧ H' = H.push (.cells (p2 L) 2 false)) (fun A' _ => row.length - (intV (A' 4)).toNat) ?_ ?_
  · exact ⟨0, List.replicate row.length (0, 0), agY, by omega, List.length_replicate .., rfl, rfl⟩
  · rintro A1 H1 ⟨j, L, hA, hj, hLl, hLt, rfl⟩
    have d0 := gdY (t := 0) hA
    have d3 := gdY (t := 3) hA
    have d4 := gdY (t := 4) hA
    by_cases hlt : j < row.length
    · obtain ⟨⟨t, q⟩, hx⟩ : ∃ x, row.getD j (0, 0) = x := ⟨_, rfl⟩
      have hset := p2_set L j t q (by omega)
      have hpl := p2_len L
      have hnew : (L.set j (t, q)).take (j + 1) = row.take (j + 1) := by
        rw [List.take_succ_eq_append_getElem (l := L.set j (t, q)) (by rw [List.length_set]; omega), List.getElem_set_self, List.take_set, List.set_eq_of_length_le (by rw [List.length_take]; omega), hLt, List.take_succ_eq_append_getElem hlt]
        congr 2
        rw [← hx]; simp [hlt]
      repeat' first | refine rnY ?_ | (first | refine ZCalls.to (toFace_z t q) ?_ | refine ZCalls.tf (toFace_z t q) ?_) | with_reducible refine And.intro (fun hc => ?_) (fun hc => ?_) | fail
      exact ⟨⟨j + 1, L.set j (t, q), agY, by omega, by rw [List.length_set]; exact hLl, hnew, by first | rfl | (rw [← hset]; first | rfl | simp)⟩, by exact ivY⟩
    · obtain rfl : j = row.length := by omega
      rw [List.take_of_length_le (by omega), List.take_length] at hLt
      subst hLt
      repeat' first | refine rnY ?_ | with_reducible refine And.intro (fun hc => ?_) (fun hc => ?_) | fail
      exact hQ.out _ _ ((OwnB.pairs (lo := H.size) (Nat.le_refl _) (Nat.lt_succ_self _) rfl (get_push_eq rfl)).out) (by exact exY)
end Go.Proofs.YtmoknllbpjpkmaaGreat.Zed
namespace Go.Proofs.YtmoknllbpjpkmaaGreat.Zed
open Go TP
set_option linter.unusedVariables false
set_option linter.unusedSimpArgs false
set_option maxRecDepth 20000
namespace tfW23
theorem tf : (Tryz.prog.underlying 22 = some (.slice 57)) ∧ (el Tryz.prog 22 = some (none, 1)) ∧ (Tryz.prog.underlying 29 = some (.slice 61)) ∧ (el Tryz.prog 29 = some (none, 1)) ∧ (Tryz.prog.underlying 57 = some (.slice 87)) ∧ (el Tryz.prog 57 = some (none, 2)) ∧ (Tryz.prog.underlying 61 = some (.slice 80)) ∧ (el Tryz.prog 61 = some (none, 2)) ∧ (tk Tryz.prog 22 = some none) ∧ (tk Tryz.prog 29 = some none) ∧ (tk Tryz.prog 31 = some (some 1)) ∧ (tk Tryz.prog 57 = some none) ∧ (tk Tryz.prog 61 = some none) ∧ (tk Tryz.prog 80 = some (some 2)) ∧ (tk Tryz.prog 87 = some (some 2)) ∧ (cz Tryz.prog 57 = some 1) ∧ (bz Tryz.prog 57 = some 24) ∧ (cz Tryz.prog 61 = some 1) ∧ (bz Tryz.prog 61 = some 24) ∧ (cz Tryz.prog 80 = some 2) ∧ (bz Tryz.prog 80 = some 16) ∧ (cz Tryz.prog 87 = some 2) ∧ (bz Tryz.prog 87 = some 16) ∧ (zr Tryz.prog 31 = some (.agg #[.slice none 0 0])) ∧ (zr Tryz.prog 57 = some (.slice none 0 0)) ∧ (zr Tryz.prog 61 = some (.slice none 0 0)) ∧ (zr Tryz.prog 80 = some (.agg #[.int .i64 0, .int .i64 0])) ∧ (zr Tryz.prog 87 = some (.agg #[.int .i64 0, .int .i64 0])) ∧ (fo Tryz.prog 24 0 = some (0, none)) ∧ (fo Tryz.prog 31 0 = some (0, none)) := by
  refine ⟨?_, ?_, ?_, ?_, ?_, ?_, ?_, ?_, ?_, ?_, ?_, ?_, ?_, ?_, ?_, ?_, ?_, ?_, ?_, ?_, ?_, ?_, ?_, ?_, ?_, ?_, ?_, ?_, ?_, ?_⟩ <;> kernel_rfl
end tfW23
open tfW23

def Short (T : List (List (Int × Int))) (n : Nat) : Prop := T.length ≤ n ∧ ∀ j, j < T.length → (T.getD j []).length ≤ n
theorem FinV.rows {lo : Nat} {H : Heap} {g c n : Nat} {l : List (List (Int × Int))} (hg : lo ≤ g) (hn : l.length = n) (hget : H.get g = .cells (l.map fun r => zP r) 1 false) : FinV lo H (.slice (some ⟨g, 0, none⟩) n c) (FZ 1 n (l.map fun r => zP r)) :=
  .own hg hget (by rw [List.length_map]; omega) (by rw [List.length_map]; omega) (fun i x r hx hr => by
    rw [Nat.zero_add] at hx
    cases hx.symm.trans hr
    obtain ⟨y, _, rfl⟩ := List.mem_map.1 (List.mem_of_getElem? hx)
    exact .cl (Cl.zP y))
theorem set_fill {vs : List Value} {n j : Nat} {z u : Value} (hl : vs.length = j) (hj : j < n) : (vs ++ List.replicate (n - j) z).set j u = (vs ++ [u]) ++ List.replicate (n - (j + 1)) z := by
  rw [List.set_append, if_neg (by omega), hl, Nat.sub_self, show n - j = (n - (j + 1)) + 1 by omega, List.replicate_succ, List.set_cons_zero]
  simp
theorem take_map {α : Type} (f : α → Value) (d : α) {l : List α} {j : Nat} (h : j < l.length) : (l.take j).map f ++ [f (l.getD j d)] = (l.take (j + 1)).map f := by
  rw [List.take_succ_eq_append_getElem h, List.map_append]
  simp [h]
set_option maxHeartbeats 1000000 in
theorem toFaceSS_o {T : List (List (Int × Int))} (hS : Short T 1048576) : OCalls Tryz.prog 22 [zL zP T] (zL zP T) := by
  obtain ⟨hS1, hS2⟩ := hS
  refine OCalls.body Tryz.func22 rfl Tryz.ntmps22 (rs := [.tmp 2]) rfl (by simp) rfl fun H Q hQ A hA => ?_
  have a0 := hA 0 _ _ rfl
  clear hA
  have zf0 := @zero1
  repeat' first | refine rnY ?_ | with_reducible refine And.intro (fun hc => ?_) (fun hc => ?_) | fail
  refine AWp.cut (fun Ac hAc => ?_)
  have c0 := gtY (t := 0) hAc
  have c3 := gtY (t := 3) hAc
  have c4 := gtY (t := 4) hAc
  clear a0
  refine AWp.loop (fun A' H' => ∃ (j : Nat) (vs : List Value), Ag [8, 9, 10, 11, 12, 13, 14, 15, 16, 17, 18, 19, 20, 21] A' (put Ac (some 4) (I j)) ∧ j ≤ T.length ∧ vs.length = j ∧ H'.get H.size = .cells (vs ++ List.replicate (T.length - j) (.slice none 0 0)) 1 false ∧ OwnB (H.size + 1) H'.size H' vs ((T.take j).map fun r => zP r) ∧ H.size < H'.size ∧ Ext H H') (fun A' _ => T.length - (intV (A' 4)).toNat) ?_ ?_
  · exact ⟨0, [], agY, by omega, rfl, get_push_eq rfl, .nil, by exact ivY, by exact exY⟩
  · rintro A1 H1 ⟨j, vs, hA, hj, hvl, hg, hO, hs, hx⟩
    have d0 := gdY (t := 0) hA
    have d3 := gdY (t := 3) hA
    have d4 := gdY (t := 4) hA
    by_cases hlt : j < T.length
    · have hrow := fun H => (toFaceS_o (hS2 j hlt)).lend (H := H) (.cl (Cl.zP _) .nil)
      have hfill := fun u => set_fill (z := .slice none 0 0) (u := u) hvl hlt
      have hcl : (vs ++ List.replicate (T.length - j) (Value.slice none 0 0)).length = T.length := by rw [List.length_append, List.length_replicate]; omega
      have htm := take_map (fun r => zP r) [] hlt
      clear hS2
      generalize hcs : vs ++ List.replicate (T.length - j) (Value.slice none 0 0) = cs at *
      repeat' first | refine rnY ?_ | (refine (hrow _).mono ?_; rintro u H2 ⟨hU, hx2⟩; have hu1 := hU.one; have hx2g := hx2.get; have hx2s := hx2.size; (try simp only [nx] at hx2s)) | with_reducible refine And.intro (fun hc => ?_) (fun hc => ?_) | fail
      refine ⟨⟨j + 1, vs ++ [u], agY, by omega, by simp [hvl], by rw [get_set_eq], ?_, by exact ivY, by exact exY⟩, by exact ivY⟩
      rw [← htm]
      exact ((hO.ext (Nat.le_refl _) hx2).append hU (by omega) (by omega)).keep fun b hb _ => get_set_ne (by omega)
    · obtain rfl : j = T.length := by omega
      rw [Nat.sub_self, List.replicate_zero, List.append_nil] at hg
      rw [List.take_length] at hO
      repeat' first | refine rnY ?_ | with_reducible refine And.intro (fun hc => ?_) (fun hc => ?_) | fail
      exact hQ.out _ _ ((OwnB.rows (lo := H.size) (hi := H1.size) (Nat.le_refl _) hs hg hO (by omega) (fun x hx => by obtain ⟨r, _, rfl⟩ := List.mem_map.1 hx; rfl)).out) (by exact exY)
theorem toTriangulation_o {T : List (List (Int × Int))} (hS : Short T 1048576) : OCalls Tryz.prog 7 [zT T] (zT T) := by
  have hto := fun H => (toFaceSS_o hS).lend (H := H) (.cl (Cl.zL Cl.zP _) .nil)
  refine OCalls.body Tryz.func7 rfl Tryz.ntmps7 (rs := [.cell 2 31]) rfl (by simp) rfl fun H Q hQ A hA => ?_
  have a0 := hA 0 _ _ rfl
  clear hA
  repeat' first | refine rnY ?_ | (refine (hto _).mono ?_; rintro u H2 ⟨hU, hx2⟩; have hu1 := hU.one; have hx2g := hx2.get; have hx2s := hx2.size; (try simp only [nx] at hx2s)) | with_reducible refine And.intro (fun hc => ?_) (fun hc => ?_) | fail
  exact hQ.out _ _ ((OwnB.ag (l := [u]) (l' := [zL zP T]) ((hU.keep fun b hb _ => (get_set_ne (by simp only [nx] at hb; omega)).trans (get_set_ne (by simp only [nx] at hb; omega))).wide (lo' := H.size) (by simp only [nx]; omega) (Nat.le_refl _))).out) (by exact exY)
theorem toTriangulation_z {T : List (List (Int × Int))} (hS : Short T 1048576) : ZCalls Tryz.prog 7 [zT T] (zT T) := (toTriangulation_o hS).toZ (Cl.cons (Cl.zT _) Cl.nil)
set_option maxHeartbeats 1000000 in
theorem eqFaceS_z {row : List (Int × Int)} (hS : row.length ≤ 1048576) : ZCalls Tryz.prog 48 [zP row, zP row] (B true) := by
  refine ZCalls.body Tryz.func48 rfl Tryz.ntmps48 (rs := [.tmp 4]) rfl (by simp) rfl fun H Q hQ A hA => ?_
  have a0 := hA 0 _ _ rfl
  have a1 := hA 1 _ _ rfl
  clear hA
  repeat' first | refine rnY ?_ | with_reducible refine And.intro (fun hc => ?_) (fun hc => ?_) | fail
  refine AWp.cut (fun Ac hAc => ?_)
  have c0 := gtY (t := 0) hAc
  have c1 := gtY (t := 1) hAc
  have c5 := gtY (t := 5) hAc
  clear a0 a1
  refine AWp.loop (fun A' H' => ∃ (j : Nat), Ag [11, 12, 13, 14, 15, 16, 17, 18, 19, 20, 21, 22, 23, 24, 25, 26] A' (put Ac (some 5) (I j)) ∧ j ≤ row.length ∧ H' = H) (fun A' _ => row.length - (intV (A' 5)).toNat) ?_ ?_
  · exact ⟨0, agY, by omega, rfl⟩
  · rintro A1 H1 ⟨j, hA, hj, rfl⟩
    have d0 := gdY (t := 0) hA
    have d1 := gdY (t := 1) hA
    have d5 := gdY (t := 5) hA
    by_cases hlt : j < row.length
    · have he := eqFace_z (row.getD j (0, 0)).1 (row.getD j (0, 0)).2 (row.getD j (0, 0)).1 (row.getD j (0, 0)).2
      rw [beq_self_eq_true, beq_self_eq_true] at he
      repeat' first | refine rnY ?_ | with_reducible refine And.intro (fun hc => ?_) (fun hc => ?_) | fail
      refine AWp.zreg [(0, none), (1, none), (2, none), (3, none), (4, none), (5, none), (6, none), (7, none), (8, none), (9, none)] mixed (by kernel_rfl) ?_
      repeat' first | refine rzY ?_ | (first | refine ZCalls.to (he) ?_ | refine ZCalls.tf (he) ?_) | fail
      repeat' first | refine rnY ?_ | with_reducible refine And.intro (fun hc => ?_) (fun hc => ?_) | fail
      exact ⟨⟨j + 1, agY, by omega, rfl⟩, by exact ivY⟩
    · obtain rfl : j = row.length := by omega
      repeat' first | refine rnY ?_ | with_reducible refine And.intro (fun hc => ?_) (fun hc => ?_) | fail
      exact hQ.out _ _ (fv) (by exact exY)
set_option maxHeartbeats 1000000 in
theorem eqFaceSS_z {T : List (List (Int × Int))} (hS : Short T 1048576) : ZCalls Tryz.prog 25 [zL zP T, zL zP T] (B true) := by
  obtain ⟨hS1, hS2⟩ := hS
  refine ZCalls.body Tryz.func25 rfl Tryz.ntmps25 (rs := [.tmp 4]) rfl (by simp) rfl fun H Q hQ A hA => ?_
  have a0 := hA 0 _ _ rfl
  have a1 := hA 1 _ _ rfl
  clear hA
  repeat' first | refine rnY ?_ | with_reducible refine And.intro (fun hc => ?_) (fun hc => ?_) | fail
  refine AWp.cut (fun Ac hAc => ?_)
  have c0 := gtY (t := 0) hAc
  have c1 := gtY (t := 1) hAc
  have c5 := gtY (t := 5) hAc
  clear a0 a1
  refine AWp.loop (fun A' H' => ∃ (j : Nat), Ag [11, 12, 13, 14, 15, 16, 17, 18, 19, 20, 21, 22, 23, 24, 25, 26] A' (put Ac (some 5) (I j)) ∧ j ≤ T.length ∧ H' = H) (fun A' _ => T.length - (intV (A' 5)).toNat) ?_ ?_
  · exact ⟨0, agY, by omega, rfl⟩
  · rintro A1 H1 ⟨j, hA, hj, rfl⟩
    have d0 := gdY (t := 0) hA
    have d1 := gdY (t := 1) hA
    have d5 := gdY (t := 5) hA
    by_cases hlt : j < T.length
    · have he := eqFaceS_z (hS2 j hlt)
      repeat' first | refine rnY ?_ | with_reducible refine And.intro (fun hc => ?_) (fun hc => ?_) | fail
      refine AWp.zreg [(0, none), (1, none), (2, none), (3, none), (4, none), (5, none), (6, none), (7, none), (8, none), (9, none)] mixed (by kernel_rfl) ?_
      repeat' first | refine rzY ?_ | (first | refine ZCalls.to (he) ?_ | refine ZCalls.tf (he) ?_) | fail
      repeat' first | refine rnY ?_ | with_reducible refine And.intro (fun hc => ?_) (fun hc => ?_) | fail
      exact ⟨⟨j + 1, agY, by omega, rfl⟩, by exact ivY⟩
    · obtain rfl : j = T.length := by omega
      repeat' first | refine rnY ?_ | with_reducible refine And.intro (fun hc => ?_) (fun hc => ?_) | fail
      exact hQ.out _ _ (fv) (by exact exY)
theorem eqTriangulation_z {T : List (List (Int × Int))} (hS : Short T 1048576) : ZCalls Tryz.prog 10 [zT T, zT T] (B true) := by
  refine ZCalls.body Tryz.func10 rfl Tryz.ntmps10 (rs := [.tmp 4]) rfl (by simp) rfl fun H Q hQ A hA => ?_
  have a0 := hA 0 _ _ rfl
  have a1 := hA 1 _ _ rfl
  clear hA
  repeat' first | refine rnY ?_ | (first | refine ZCalls.to (eqFaceSS_z hS) ?_ | refine ZCalls.tf (eqFaceSS_z hS) ?_) | with_reducible refine And.intro (fun hc => ?_) (fun hc => ?_) | fail
  exact hQ.out _ _ (fv) (by exact exY)
end Go.Proofs.YtmoknllbpjpkmaaGreat.Zed
namespace Go.Proofs.YtmoknllbpjpkmaaGreat.Zed
open Go TP
set_option linter.unusedVariables false
set_option linter.unusedSimpArgs false
set_option maxRecDepth 20000
namespace tfX1
theorem tf : (Tryz.prog.underlying 25 = some (.slice 2)) ∧ (el Tryz.prog 25 = some (none, 1)) ∧ (Tryz.prog.underlying 29 = some (.slice 61)) ∧ (el Tryz.prog 29 = some (none, 1)) ∧ (Tryz.prog.underlying 61 = some (.slice 80)) ∧ (el Tryz.prog 61 = some (none, 2)) ∧ (tk Tryz.prog 2 = some none) ∧ (tk Tryz.prog 29 = some none) ∧ (tk Tryz.prog 61 = some none) ∧ (tk Tryz.prog 80 = some (some 2)) ∧ (cz Tryz.prog 2 = some 1) ∧ (bz Tryz.prog 2 = some 8) ∧ (cz Tryz.prog 61 = some 1) ∧ (bz Tryz.prog 61 = some 24) ∧ (cz Tryz.prog 80 = some 2) ∧ (bz Tryz.prog 80 = some 16) ∧ (zr Tryz.prog 2 = some (.int .i64 0)) ∧ (zr Tryz.prog 61 = some (.slice none 0 0)) ∧ (zr Tryz.prog 80 = some (.agg #[.int .i64 0, .int .i64 0])) ∧ (fo Tryz.prog 31 0 = some (0, none)) ∧ (fo Tryz.prog 80 0 = some (0, none)) ∧ (fo Tryz.prog 80 1 = some (1, none)) := by
  refine ⟨?_, ?_, ?_, ?_, ?_, ?_, ?_, ?_, ?_, ?_, ?_, ?_, ?_, ?_, ?_, ?_, ?_, ?_, ?_, ?_, ?_, ?_⟩ <;> kernel_rfl
end tfX1
open tfX1

set_option maxHeartbeats 1000000 in
theorem eqInt64S_z (l : List Int) (hl : l.length ≤ 4000000000) : ZCalls Tryz.prog 11 [zI l, zI l] (B true) := by
  refine ZCalls.body Tryz.func11 rfl Tryz.ntmps11 (rs := [.tmp 4]) rfl (by simp) rfl fun H Q hQ A hA => ?_
  have a0 := hA 0 _ _ rfl
  have a1 := hA 1 _ _ rfl
  clear hA
  repeat' first | refine rnY ?_ | with_reducible refine And.intro (fun hc => ?_) (fun hc => ?_) | fail
  refine AWp.cut (fun Ac hAc => ?_)
  have c0 := gtY (t := 0) hAc
  have c1 := gtY (t := 1) hAc
  have c5 := gtY (t := 5) hAc
  clear a0 a1
  refine AWp.loop (fun A' H' => ∃ (j : Nat), Ag [11, 12, 13, 14, 15, 16, 17, 18, 19, 20, 21, 22, 23, 24, 25] A' (put Ac (some 5) (I j)) ∧ j ≤ l.length ∧ H' = H) (fun A' _ => l.length - (intV (A' 5)).toNat) ?_ ?_
  · exact ⟨0, agY, by omega, rfl⟩
  · rintro A1 H1 ⟨j, hA, hj, rfl⟩
    have d0 := gdY (t := 0) hA
    have d1 := gdY (t := 1) hA
    have d5 := gdY (t := 5) hA
    by_cases hlt : j < l.length
    · repeat' first | refine rnY ?_ | with_reducible refine And.intro (fun hc => ?_) (fun hc => ?_) | fail
      refine AWp.zreg [(0, none), (1, none), (2, none), (3, none), (4, none), (5, none), (6, none), (7, none), (8, none)] mixed (by kernel_rfl) ?_
      repeat' first | refine rzY ?_ | fail
      repeat' first | refine rnY ?_ | with_reducible refine And.intro (fun hc => ?_) (fun hc => ?_) | fail
      exact ⟨⟨j + 1, agY, by omega, rfl⟩, by exact ivY⟩
    · obtain rfl : j = l.length := by omega
      repeat' first | refine rnY ?_ | with_reducible refine And.intro (fun hc => ?_) (fun hc => ?_) | fail
      exact hQ.out _ _ (fv) (by exact exY)
set_option maxHeartbeats 1000000 in
theorem heldInt64S_z (n : Nat) (k : Int) (hn : n ≤ 4000000000) (h0 : 0 ≤ k) (hk : k ≤ 4611686018427387904) : ZCalls Tryz.prog 34 [zI (mkI k n), I k] (I (k + n)) := by
  have hl := mkI_len k n
  have hg := mkI_get k n
  generalize mkI k n = l at *
  subst hl
  refine ZCalls.body Tryz.func34 rfl Tryz.ntmps34 (rs := [.tmp 4]) rfl (by simp) rfl fun H Q hQ A hA => ?_
  have a0 := hA 0 _ _ rfl
  have a1 := hA 1 _ _ rfl
  clear hA
  repeat' first | refine rnY ?_ | with_reducible refine And.intro (fun hc => ?_) (fun hc => ?_) | fail
  refine AWp.cut (fun Ac hAc => ?_)
  have c0 := gtY (t := 0) hAc
  have c1 := gtY (t := 1) hAc
  have c5 := gtY (t := 5) hAc
  clear a0 a1
  refine AWp.loop (fun A' H' => ∃ (j : Nat), Ag [6, 7, 8, 9, 10, 11, 12, 13, 14, 15, 16, 17, 18, 19] A' (put (put Ac (some 1) (I (k + j))) (some 5) (I j)) ∧ j ≤ l.length ∧ H' = H) (fun A' _ => l.length - (intV (A' 5)).toNat) ?_ ?_
  · exact ⟨0, agY, by omega, rfl⟩
  · rintro A1 H1 ⟨j, hA, hj, rfl⟩
    have d0 := gdY (t := 0) hA
    have d1 := gdY (t := 1) hA
    have d5 := gdY (t := 5) hA
    by_cases hlt : j < l.length
    · have hgj := hg j hlt
      clear hg
      have hkj : (k + (j : Int) == k + (j : Int)) = true := by rw [beq_self_eq_true]
      repeat' first | refine rnY ?_ | with_reducible refine And.intro (fun hc => ?_) (fun hc => ?_) | fail
      exact ⟨⟨j + 1, agY, by omega, rfl⟩, by exact ivY⟩
    · obtain rfl : j = l.length := by omega
      repeat' first | refine rnY ?_ | with_reducible refine And.intro (fun hc => ?_) (fun hc => ?_) | fail
      exact hQ.out _ _ (fv) (by exact exY)
theorem mark_step {ds : List Value} {o j : Nat} {k : Int} (h : o + j < ds.length) : (ds.take o ++ ints (mkI k j) ++ ds.drop (o + j)).set (o + j) (I (k + j)) = ds.take o ++ ints (mkI k (j + 1)) ++ ds.drop (o + (j + 1)) := by
  have hl : (ds.take o ++ ints (mkI k j)).length = o + j := by rw [List.length_append, List.length_take, ints_len, mkI_len]; omega
  rw [List.set_append, if_neg (by omega), hl, Nat.sub_self, List.drop_eq_getElem_cons h, List.set_cons_zero, mkI, ← cons_ints]
  simp [Nat.add_assoc]
set_option maxHeartbeats 1000000 in
theorem markRow_c {H : Heap} {g o n c : Nat} {ds : List Value} {k : Int} (hg : H.get g = .cells ds 1 false) (hl : o + n ≤ ds.length) (hn : n ≤ 4000000000) (h0 : 0 ≤ k) (hk : k ≤ 4611686018427387904) :
    ACalls Tryz.prog 16 [.slice (some ⟨g, o, none⟩) n c, I k] H fun u H' => u = I (k + n) ∧ H' = H.set g (.cells (ds.take o ++ ints (mkI k n) ++ ds.drop (o + n)) 1 false) := by
  refine ACalls.body Tryz.func16 rfl Tryz.ntmps16 (rs := [.tmp 4]) rfl (by simp) rfl fun Q hQ A hA => ?_
  have a0 := hA 0 _ _ rfl
  have a1 := hA 1 _ _ rfl
  clear hA
  repeat' first | refine rnY ?_ | with_reducible refine And.intro (fun hc => ?_) (fun hc => ?_) | fail
  refine AWp.cut (fun Ac hAc => ?_)
  have c0 := gtY (t := 0) hAc
  have c1 := gtY (t := 1) hAc
  have c5 := gtY (t := 5) hAc
  clear a0 a1
  refine AWp.loop (fun A' H' => ∃ (j : Nat), Ag [6, 7, 8, 9, 10, 11, 12, 13, 14, 15, 16, 17] A' (put (put Ac (some 1) (I (k + j))) (some 5) (I j)) ∧ j ≤ n ∧ H' = H.set g (.cells (ds.take o ++ ints (mkI k j) ++ ds.drop (o + j)) 1 false)) (fun A' _ => n - (intV (A' 5)).toNat) ?_ ?_
  · exact ⟨0, agY, by omega, by rw [set_self]; simp [mkI, ints, hg]⟩
  · rintro A1 H1 ⟨j, hA, hj, rfl⟩
    have d0 := gdY (t := 0) hA
    have d1 := gdY (t := 1) hA
    have d5 := gdY (t := 5) hA
    by_cases hlt : j < n
    · have hst := mark_step (ds := ds) (o := o) (j := j) (k := k) (by omega)
      have hlen : (ds.take o ++ ints (mkI k j) ++ ds.drop (o + j)).length = ds.length := by
        simp only [List.length_append, List.length_take, ints_len, mkI_len, List.length_drop]; omega
      generalize ds.take o ++ ints (mkI k j) ++ ds.drop (o + j) = es at *
      have zf0 := @set_set
      repeat' first | refine rnY ?_ | with_reducible refine And.intro (fun hc => ?_) (fun hc => ?_) | fail
      exact ⟨⟨j + 1, agY, by omega, by rw [← hst]⟩, by exact ivY⟩
    · obtain rfl : j = n := by omega
      repeat' first | refine rnY ?_ | with_reducible refine And.intro (fun hc => ?_) (fun hc => ?_) | fail
      exact hQ.out _ _ ⟨rfl, rfl⟩
theorem markNil_z (v : Value) (hv : v = .slice none 0 0 ∨ v = FZ 1 0 []) (k : Int) (H : Heap) : ACalls Tryz.prog 16 [v, I k] H fun u H' => u = I k ∧ H' = H := by
  rcases hv with rfl | rfl
  all_goals
    refine ACalls.body Tryz.func16 rfl Tryz.ntmps16 (rs := [.tmp 4]) rfl (by simp) rfl fun Q hQ A hA => ?_
    have a0 := hA 0 _ _ rfl
    have a1 := hA 1 _ _ rfl
    clear hA
    repeat' first | refine rnY ?_ | with_reducible refine And.intro (fun hc => ?_) (fun hc => ?_) | fail
    refine AWp.cut (fun Ac hAc => ?_)
    have c0 := gtY (t := 0) hAc
    have c1 := gtY (t := 1) hAc
    have c5 := gtY (t := 5) hAc
    clear a0 a1
    refine AWp.loop (fun A' H' => ∃ _ : Unit, Ag [6, 7, 8, 9, 10, 11, 12, 13, 14, 15, 16, 17] A' (put (put Ac (some 1) (I k)) (some 5) (I 0)) ∧ H' = H) (fun A' _ => 0) ?_ ?_
    · exact ⟨(), agY, rfl⟩
    · rintro A1 H1 ⟨_, hA, rfl⟩
      have d0 := gdY (t := 0) hA
      have d1 := gdY (t := 1) hA
      have d5 := gdY (t := 5) hA
      repeat' first | refine rnY ?_ | with_reducible refine And.intro (fun hc => ?_) (fun hc => ?_) | fail
      exact hQ.out _ _ ⟨rfl, rfl⟩
theorem markInt64S_m {H : Heap} {lo : Nat} {v : Value} {l : List Int} {k : Int} {ks : List (Nat × Blk)} (hO : OwnL false lo H [v] [zI l] ks) (hn : l.length ≤ 4000000000) (h0 : 0 ≤ k) (hk : k ≤ 4611686018427387904) :
    ACalls Tryz.prog 16 [v, I k] H fun u H' => u = I (k + l.length) ∧ Chg ks H H' ∧ H'.size = H.size ∧ ∃ ks', OwnL false lo H' [v] [zI (mkI k l.length)] ks' ∧ SameK ks ks' := by
  generalize hl : [v] = vs at hO
  generalize hl' : [zI l] = rs at hO
  cases hO with
  | nil => cases hl
  | flat h t => injection hl' with e _; rw [← e] at h; simp [Zed.flat, FZ] at h
  | nilr es t =>
    injection hl with e1 e2; injection hl' with e3 e4
    subst e1 e2 e4
    simp [FZ] at e3
    obtain ⟨rfl, e3, _⟩ := e3
    cases t
    rw [e3]
    refine (markNil_z _ (.inl rfl) k H).mono ?_
    rintro u H' ⟨rfl, rfl⟩
    exact ⟨by simp, Chg.refl _ _, rfl, _, .nilr 1 .nil, rfl⟩
  | fz0 es t =>
    injection hl with e1 e2; injection hl' with e3 e4
    subst e1 e2 e4
    simp [FZ] at e3
    obtain ⟨rfl, e3, _⟩ := e3
    cases t
    rw [e3]
    refine (markNil_z _ (.inr rfl) k H).mono ?_
    rintro u H' ⟨rfl, rfl⟩
    exact ⟨by simp, Chg.refl _ _, rfl, _, .fz0 1 .nil, rfl⟩
  | @own g o n c es cs rs l2 l2' k1 k2 hg hget hl2 hr hnf h1 h2 hd hd2 =>
    injection hl with e1 e2; injection hl' with e3 e4
    subst e1 e2 e4
    simp [FZ] at e3
    obtain ⟨rfl, rfl, rfl⟩ := e3
    cases h2
    refine (markRow_c (o := o) (n := l.length) (c := c) hget (by omega) hn h0 hk).mono ?_
    rintro u H' ⟨rfl, rfl⟩
    have hml := mkI_len k l.length
    have hk1 : k1 = [] := by
      clear hd hd2
      have hfl : ∀ {q : List Int} {vv : List Value} {kk : List (Nat × Blk)}, OwnL false lo H vv (ints q) kk → kk = [] := by
        intro q
        induction q with
        | nil => intro vv kk h; exact h.nil_inv.2
        | cons x q ih => intro vv kk h; obtain ⟨_, _, h⟩ := h.flat_inv rfl; exact ih h
      exact hfl h1
    subst hk1
    refine ⟨rfl, ⟨Nat.le_refl _, fun b _ hb => get_set_ne fun e => hb _ (List.mem_cons_self ..) e.symm⟩, rfl, ?_⟩
    have := OwnL.own (q := false) (lo := lo) (H := H.set g (.cells (cs.take o ++ ints (mkI k l.length) ++ cs.drop (o + l.length)) 1 false)) (g := g) (o := o) (n := l.length) (c := c) (es := 1) (rs := ints (mkI k l.length)) (k1 := []) (k2 := []) (l := []) (l' := []) hg get_set_eq (by
        simp only [List.length_append, List.length_take, ints_len, mkI_len, List.length_drop]; omega) (by rw [ints_len, mkI_len]; omega) (by
        intro x hx
        rcases List.mem_append.1 hx with hx | hx
        · rcases List.mem_append.1 hx with hx | hx
          · exact hnf x (List.mem_of_mem_take hx)
          · exact .flat (flat_ints _ x hx)
        · exact hnf x (List.mem_of_mem_drop hx)) (by
        have e : ((cs.take o ++ ints (mkI k l.length) ++ cs.drop (o + l.length)).drop o).take (l.length * 1) = ints (mkI k l.length) := by
          rw [List.append_assoc, List.drop_append_of_le_length (by rw [List.length_take]; omega), List.drop_of_length_le (by rw [List.length_take]; omega), List.nil_append, List.take_append_of_le_length (by rw [ints_len, mkI_len]; omega), List.take_of_length_le (by rw [ints_len, mkI_len]; omega)]
        rw [e]
        exact OwnL.flats (flat_ints _)) .nil (fun k hk => by cases hk) (fun k hk => by cases hk)
    unfold Zed.zI
    rw [hml]
    exact ⟨_, this, rfl⟩
  | gz hq => cases hq
  | gz0 hq => cases hq
  | agg => injection hl' with e _; simp [FZ] at e
  | tuple => injection hl' with e _; simp [FZ] at e
/-! Marks of a triangulation: what is written does not matter. -/
set_option maxHeartbeats 1000000 in
theorem markFaces_c {H : Heap} {g o n c : Nat} {ds : List Value} {k : Int} (hg : H.get g = .cells ds 2 false) (hl : o + n * 2 ≤ ds.length) (hn : n ≤ 1048576) (h0 : 0 ≤ k) (hk : k ≤ 4611686018427387904) :
    ACalls Tryz.prog 57 [.slice (some ⟨g, o, none⟩) n c, I k] H fun u H' => u = I (k + 2 * n) ∧ ∃ ds', ds'.length = ds.length ∧ H' = H.set g (.cells ds' 2 false) := by
  refine ACalls.body Tryz.func57 rfl Tryz.ntmps57 (rs := [.tmp 4]) rfl (by simp) rfl fun Q hQ A hA => ?_
  have a0 := hA 0 _ _ rfl
  have a1 := hA 1 _ _ rfl
  clear hA
  repeat' first | refine rnY ?_ | with_reducible refine And.intro (fun hc => ?_) (fun hc => ?_) | fail
  refine AWp.cut (fun Ac hAc => ?_)
  have c0 := gtY (t := 0) hAc
  have c1 := gtY (t := 1) hAc
  have c5 := gtY (t := 5) hAc
  clear a0 a1
  refine AWp.loop (fun A' H' => ∃ (j : Nat) (es : List Value), Ag [6, 7, 8, 9, 10, 11, 12, 13, 14, 15, 16, 17, 18, 19, 20, 21, 22, 23, 24, 25] A' (put (put Ac (some 1) (I (k + 2 * j))) (some 5) (I j)) ∧ j ≤ n ∧ es.length = ds.length ∧ H' = H.set g (.cells es 2 false)) (fun A' _ => n - (intV (A' 5)).toNat) ?_ ?_
  · exact ⟨0, ds, agY, by omega, rfl, by rw [set_self hg]⟩
  · rintro A1 H1 ⟨j, es, hA, hj, hes, rfl⟩
    have d0 := gdY (t := 0) hA
    have d1 := gdY (t := 1) hA
    have d5 := gdY (t := 5) hA
    by_cases hlt : j < n
    · have zf0 := @set_set
      repeat' first | refine rnY ?_ | with_reducible refine And.intro (fun hc => ?_) (fun hc => ?_) | fail
      exact ⟨⟨j + 1, _, agY, by omega, by simp [hes], rfl⟩, by exact ivY⟩
    · obtain rfl : j = n := by omega
      repeat' first | refine rnY ?_ | with_reducible refine And.intro (fun hc => ?_) (fun hc => ?_) | fail
      exact hQ.out _ _ ⟨rfl, es, hes, rfl⟩
theorem markFaceNil_c (v : Value) (hv : v = .slice none 0 0 ∨ v = FZ 2 0 []) (k : Int) (H : Heap) : ACalls Tryz.prog 57 [v, I k] H fun u H' => u = I k ∧ H' = H := by
  rcases hv with rfl | rfl
  all_goals
    refine ACalls.body Tryz.func57 rfl Tryz.ntmps57 (rs := [.tmp 4]) rfl (by simp) rfl fun Q hQ A hA => ?_
    have a0 := hA 0 _ _ rfl
    have a1 := hA 1 _ _ rfl
    clear hA
    repeat' first | refine rnY ?_ | with_reducible refine And.intro (fun hc => ?_) (fun hc => ?_) | fail
    refine AWp.cut (fun Ac hAc => ?_)
    have c0 := gtY (t := 0) hAc
    have c1 := gtY (t := 1) hAc
    have c5 := gtY (t := 5) hAc
    clear a0 a1
    refine AWp.loop (fun A' H' => ∃ _ : Unit, Ag [6, 7, 8, 9, 10, 11, 12, 13, 14, 15, 16, 17, 18, 19, 20, 21, 22, 23, 24, 25] A' (put (put Ac (some 1) (I k)) (some 5) (I 0)) ∧ H' = H) (fun A' _ => 0) ?_ ?_
    · exact ⟨(), agY, rfl⟩
    · rintro A1 H1 ⟨_, hA, rfl⟩
      have d0 := gdY (t := 0) hA
      have d1 := gdY (t := 1) hA
      have d5 := gdY (t := 5) hA
      repeat' first | refine rnY ?_ | with_reducible refine And.intro (fun hc => ?_) (fun hc => ?_) | fail
      exact hQ.out _ _ ⟨rfl, rfl⟩
/-- A row of pairs that may be written. -/
def RowW (S : Nat → Prop) (H : Heap) (v : Value) (n : Nat) : Prop := (n = 0 ∧ (v = .slice none 0 0 ∨ v = FZ 2 0 [])) ∨ ∃ g o c ds, v = .slice (some ⟨g, o, none⟩) n c ∧ S g ∧ H.get g = .cells ds 2 false ∧ o + n * 2 ≤ ds.length
theorem RowW.set {S : Nat → Prop} {H : Heap} {v : Value} {n b : Nat} {ds ds' : List Value} (h : RowW S H v n) (hb : H.get b = .cells ds 2 false) (hl : ds'.length = ds.length) : RowW S (H.set b (.cells ds' 2 false)) v n := by
  rcases h with h | ⟨g, o, c, es, h1, h2, h4, h5⟩
  · exact .inl h
  · by_cases e : g = b
    · subst e
      rw [hb] at h4
      injection h4 with h4
      subst h4
      exact .inr ⟨g, o, c, ds', h1, h2, get_set_eq, by omega⟩
    · exact .inr ⟨g, o, c, es, h1, h2, (get_set_ne e).trans h4, h5⟩
theorem markFaceS_m {S : Nat → Prop} {H : Heap} {n : Nat} {v : Value} {k : Int} (hv : RowW S H v n) (hn : n ≤ 1048576) (h0 : 0 ≤ k) (hk : k ≤ 4611686018427387904) :
    ACalls Tryz.prog 57 [v, I k] H fun u H' => u = I (k + 2 * n) ∧ (∀ b, ¬ S b → H'.get b = H.get b) ∧ H'.size = H.size ∧ ∀ w m, RowW S H w m → RowW S H' w m := by
  rcases hv with ⟨rfl, hv⟩ | ⟨g, o, c, ds, rfl, h2, h4, h5⟩
  · refine (markFaceNil_c v hv k H).mono ?_
    rintro u H' ⟨rfl, rfl⟩
    exact ⟨by simp, fun _ _ => rfl, rfl, fun _ _ h => h⟩
  · refine (markFaces_c h4 h5 hn h0 hk).mono ?_
    rintro u H' ⟨rfl, ds', hl, rfl⟩
    exact ⟨rfl, fun b hb => get_set_ne fun e => hb (e ▸ h2), rfl, fun w m h => h.set h4 hl⟩
def markN (T : List (List (Int × Int))) : Nat → Nat
  | 0 => 0
  | j + 1 => markN T j + 2 * (T.getD j []).length
theorem markN_le (T : List (List (Int × Int))) (hS : Short T 1048576) : ∀ j, j ≤ T.length → markN T j ≤ j * 2097152
  | 0, _ => Nat.zero_le _
  | j + 1, h => by
    have := markN_le T hS j (by omega)
    have := hS.2 j (by omega)
    simp only [markN]; omega
theorem rows_w {lo : Nat} {H : Heap} {S : Nat → Prop} : ∀ {T : List (List (Int × Int))} {vs : List Value} {ks : List (Nat × Blk)}, OwnL false lo H vs (T.map fun r => zP r) ks → (∀ k ∈ ks, S k.1) → ∀ j, j < T.length → ∃ v, vs[j]? = some v ∧ RowW S H v (T.getD j []).length
  | [], vs, ks, h, _, j, hj => by simp at hj
  | x :: T, vs, ks, h, hS, j, hj => by
    obtain ⟨v, vs', k1, k2, rfl, h1, h2, _, rfl⟩ := OwnL.cons_inv (rs := T.map fun r => zP r) h
    cases j with
    | zero =>
      refine ⟨v, rfl, ?_⟩
      rcases h1.shape with ⟨q1, q2, q3⟩ | ⟨g, o, c, ds, k3, q1, q2, q3, q4, q5, q6, q7, rfl⟩
      · exact .inl ⟨q1, q3⟩
      · exact .inr ⟨g, o, c, ds, q1, hS _ (List.mem_append_left _ (List.mem_cons_self ..)), q2, q3⟩
    | succ j => simpa using rows_w h2 (fun k hk => hS k (List.mem_append_right _ hk)) j (by simpa using hj)
set_option maxHeartbeats 1000000 in
theorem markFaceSS_m {H : Heap} {lo hi : Nat} {v : Value} {T : List (List (Int × Int))} {k : Int} (hO : OwnB lo hi H [v] [zL zP T]) (hS : Short T 1048576) (h0 : 0 ≤ k) (hk : k ≤ 1099511627776) :
    ACalls Tryz.prog 33 [v, I k] H fun u H' => u = I (k + markN T T.length) ∧ ExtR lo hi H H' ∧ H'.size = H.size := by
  have hml := fun j => markN_le T hS j
  obtain ⟨hS1, hS2⟩ := hS
  obtain ⟨ks0, hL, hb⟩ := hO.in
  rcases hL.shape with ⟨q1, q2, q3⟩ | ⟨g, o, c, ds, k1, rfl, q4, q5, q6, q7, q8, q9, rfl⟩
  · obtain rfl : T = [] := List.length_eq_zero_iff.1 q1
    have e0 : markN [] 0 = 0 := rfl
    rcases q3 with rfl | rfl
    all_goals
      refine ACalls.body Tryz.func33 rfl Tryz.ntmps33 (rs := [.tmp 4]) rfl (by simp) rfl fun Q hQ A hA => ?_
      have a0 := hA 0 _ _ rfl
      have a1 := hA 1 _ _ rfl
      clear hA
      repeat' first | refine rnY ?_ | with_reducible refine And.intro (fun hc => ?_) (fun hc => ?_) | fail
      refine AWp.cut (fun Ac hAc => ?_)
      have c0 := gtY (t := 0) hAc
      have c1 := gtY (t := 1) hAc
      have c5 := gtY (t := 5) hAc
      clear a0 a1
      refine AWp.loop (fun A' H' => ∃ _ : Unit, Ag [6, 7, 8, 9, 10, 11, 12, 13, 14, 15, 16, 17] A' (put (put Ac (some 1) (I k)) (some 5) (I 0)) ∧ H' = H) (fun A' _ => 0) ?_ ?_
      · exact ⟨(), agY, rfl⟩
      · rintro A1 H1 ⟨_, hA, rfl⟩
        have d0 := gdY (t := 0) hA
        have d1 := gdY (t := 1) hA
        have d5 := gdY (t := 5) hA
        repeat' first | refine rnY ?_ | with_reducible refine And.intro (fun hc => ?_) (fun hc => ?_) | fail
        exact hQ.out _ _ ⟨by simp [markN], ExtR.refl _, rfl⟩
  · obtain ⟨S, hSd⟩ : ∃ S : Nat → Prop, (∀ b, S b ↔ ∃ x ∈ k1, x.1 = b) := ⟨_, fun _ => Iff.rfl⟩
    have hSg : ¬ S g := fun h => by obtain ⟨x, hx, e⟩ := (hSd g).1 h; exact q9 x hx e
    have hSr : ∀ b, S b → lo ≤ b ∧ b < hi := fun b h => by obtain ⟨x, hx, rfl⟩ := (hSd b).1 h; exact hb x (List.mem_cons_of_mem _ hx)
    have hrow : ∀ j, j < T.length → ∃ v, ds[o + j]? = some v ∧ RowW S H v (T.getD j []).length := fun j hj => by
      obtain ⟨v, v1, v2⟩ := rows_w (S := S) q8 (fun k hk => (hSd _).2 ⟨k, hk, rfl⟩) j hj
      rw [List.getElem?_take_of_lt (by omega), List.getElem?_drop] at v1
      exact ⟨v, v1, v2⟩
    have q6' : (T.map fun r => zP r).length = T.length := List.length_map _
    clear q8 q9 hSd hb hL q7
    refine ACalls.body Tryz.func33 rfl Tryz.ntmps33 (rs := [.tmp 4]) rfl (by simp) rfl fun Q hQ A hA => ?_
    have a0 := hA 0 _ _ rfl
    have a1 := hA 1 _ _ rfl
    clear hA
    repeat' first | refine rnY ?_ | with_reducible refine And.intro (fun hc => ?_) (fun hc => ?_) | fail
    refine AWp.cut (fun Ac hAc => ?_)
    have c0 := gtY (t := 0) hAc
    have c1 := gtY (t := 1) hAc
    have c5 := gtY (t := 5) hAc
    clear a0 a1
    refine AWp.loop (fun A' H' => ∃ (j : Nat), Ag [6, 7, 8, 9, 10, 11, 12, 13, 14, 15, 16, 17] A' (put (put Ac (some 1) (I (k + markN T j))) (some 5) (I j)) ∧ j ≤ T.length ∧ H'.get g = .cells ds 1 false ∧ (∀ b, ¬ S b → H'.get b = H.get b) ∧ H'.size = H.size ∧ ∀ w m, RowW S H w m → RowW S H' w m) (fun A' _ => T.length - (intV (A' 5)).toNat) ?_ ?_
    · have e0 : markN T 0 = 0 := rfl
      exact ⟨0, agY, by omega, q4, fun _ _ => rfl, rfl, fun _ _ h => h⟩
    · rintro A1 H1 ⟨j, hA, hj, hg, hd, hsz, hR⟩
      have d0 := gdY (t := 0) hA
      have d1 := gdY (t := 1) hA
      have d5 := gdY (t := 5) hA
      by_cases hlt : j < T.length
      · obtain ⟨v, v1, v2⟩ := hrow j hlt
        have hS2j := hS2 j hlt
        have hmj := hml j hj
        have hst : markN T (j + 1) = markN T j + 2 * (T.getD j []).length := rfl
        have hmk := fun k h0 hk => markFaceS_m (k := k) (hR _ _ v2) hS2j h0 hk
        generalize (T.getD j []).length = n at *
        generalize markN T j = mj at *
        clear hml hS2 hrow
        repeat' first | refine rnY ?_ | (refine (hmk _ (by omega) (by omega)).mono ?_; rintro u H2 ⟨rfl, hd2, hsz2, hR2⟩) | with_reducible refine And.intro (fun hc => ?_) (fun hc => ?_) | fail
        exact ⟨⟨j + 1, agY, by omega, (hd2 g hSg).trans hg, fun b hb => (hd2 b hb).trans (hd b hb), hsz2.trans hsz, fun w m h => hR2 w m (hR w m h)⟩, by exact ivY⟩
      · obtain rfl : j = T.length := by omega
        repeat' first | refine rnY ?_ | with_reducible refine And.intro (fun hc => ?_) (fun hc => ?_) | fail
        exact hQ.out _ _ ⟨rfl, ⟨by omega, fun b _ hb => hd b fun h => by have := hSr b h; omega⟩, hsz⟩
theorem markTriangulation_m {H : Heap} {lo hi : Nat} {v : Value} {T : List (List (Int × Int))} {k : Int} (hO : OwnB lo hi H [v] [zT T]) (hs : hi ≤ H.size) (hS : Short T 1048576) (h0 : 0 ≤ k) (hk : k ≤ 1099511627776) :
    ACalls Tryz.prog 15 [v, I k] H fun u H' => u = I (k + markN T T.length) ∧ ExtR lo hi H H' := by
  obtain ⟨l, rfl, hO1⟩ := OwnB.agg_inv (l' := [zL zP T]) hO
  obtain ⟨v', l', rfl, hO2, hO3⟩ := hO1.cons_inv
  obtain rfl := hO3.nil_inv
  have hone := hO2.one
  have hfr := hO2.frz
  have hm := markFaceSS_m (k := k) hO2 hS h0 hk
  refine ACalls.body Tryz.func15 rfl Tryz.ntmps15 (rs := [.tmp 4]) rfl (by simp) rfl fun Q hQ A hA => ?_
  have a0 := hA 0 _ _ rfl
  have a1 := hA 1 _ _ rfl
  clear hA
  repeat' first | refine rnY ?_ | (refine hm.mono ?_; rintro u H1 ⟨rfl, hx, hsz⟩) | with_reducible refine And.intro (fun hc => ?_) (fun hc => ?_) | fail
  exact hQ.out _ _ ⟨rfl, hx⟩
end Go.Proofs.YtmoknllbpjpkmaaGreat.Zed
namespace Go.Proofs.YtmoknllbpjpkmaaGreat.Zed
open Go TP
set_option linter.unusedVariables false
set_option linter.unusedSimpArgs false
set_option maxRecDepth 20000
/-! The matrix of the program is that of the specification: the plain law. -/
theorem getD_zero (n j : Nat) : (List.replicate n (0 : Int)).getD j 0 = 0 := by
  rw [List.getD_eq_getElem?_getD, List.getElem?_replicate]; split <;> rfl
/-! The program's matrix, entry by entry. -/
section
variable {n R : Nat} {M : List Int}
end
theorem ext_getD {l m : List Int} (h : l.length = m.length) (hh : ∀ i, i < l.length → l.getD i 0 = m.getD i 0) : l = m := by
  apply List.ext_getElem h
  intro i h1 h2
  have := hh i h1
  simpa [h1, h2] using this
theorem flat_len {C : Nat} : ∀ {L : List (List Int)}, (∀ r ∈ L, r.length = C) → L.flatten.length = L.length * C
  | [], _ => by simp
  | r :: L, h => by
    rw [List.flatten_cons, List.length_append, flat_len (fun x hx => h x (List.mem_cons_of_mem _ hx)), h r (List.mem_cons_self ..), List.length_cons, Nat.add_mul]; omega
end Go.Proofs.YtmoknllbpjpkmaaGreat.Zed
namespace Go.Proofs.YtmoknllbpjpkmaaGreat.Zed
open Go TP
set_option linter.unusedVariables false
set_option linter.unusedSimpArgs false
set_option maxRecDepth 20000
namespace tfX4
theorem tf : True := trivial
end tfX4
open tfX4

abbrev mxV (R C : Int) (L : List Int) : Value := .agg #[I R, I C, zI L]
theorem Cl.mx (R C : Int) (L : List Int) : Cl (mxV R C L) := Cl.agg (l := [_, _, _]) (Cl.cons (Cl.int _ _) (Cl.cons (Cl.int _ _) (Cl.cons (Cl.zI _) Cl.nil)))
theorem mx_mk {lo hi : Nat} {H : Heap} {v : Value} {R C : Int} {L : List Int} (h : OwnB lo hi H [v] [zI L]) : OwnB lo hi H [.agg #[I R, I C, v]] [mxV R C L] := OwnB.ag (l := [I R, I C, v]) (l' := [I R, I C, zI L]) (.fcons rfl (.fcons rfl h))
theorem appN {H : Heap} {m : Nat} {l : List Int} {K : Value → Heap → Prop} (hm : l.length = m) (hb : m ≤ 1000000) (h0 : m ≠ 0) (h : K (.slice (some ⟨H.size, 0, none⟩) m 0) (H.push (.cells (ints l) 1 false))) :
    appendK Tryz.prog 25 25 (.slice none 0 0) (FZ 1 m (ints l)) H K := by
  have hel : el Tryz.prog 25 = some (none, 1) := rfl
  have hu : Tryz.prog.underlying 25 = some (.slice 2) := rfl
  have hc : cz Tryz.prog 2 = some 1 := rfl
  have hbz : bz Tryz.prog 2 = some 8 := rfl
  have hz : zr Tryz.prog 2 = some (.int .i64 0) := rfl
  unfold appendK appsK
  simp only [hu, hc, hbz, hz, hel]
  refine ⟨by omega, by omega, rfl, rfl, rfl, by rw [ints_len]; omega, ?_, by omega, fun q => absurd q h0, fun _ => h⟩
  intro v hv
  obtain ⟨y, _, rfl⟩ := List.mem_map.1 hv
  rfl
theorem codeN_six {T : List (List (Int × Int))} (h : codeN T = 0) : T.length ≤ 6 := by
  unfold codeN at h
  split at h
  · split at h
    · assumption
    · simp at h
  · simp at h
end Go.Proofs.YtmoknllbpjpkmaaGreat.Zed
namespace Go.Proofs.YtmoknllbpjpkmaaGreat.Zed
open Go TP
set_option linter.unusedVariables false
set_option linter.unusedSimpArgs false
set_option maxRecDepth 20000
namespace tfX23
theorem tf : True := trivial
end tfX23
open tfX23

/-- The quadrilateral that does not meet an edge. -/
def btN (a b : Int) : Int := if a = 0 then b - 1 else if b = 0 then a - 1 else 5 - a - b
theorem quad_at : ∀ a b : Fin 4, a ≠ b → (if edgeN a b < 3 then edgeN a b else 5 - edgeN a b) = btN a b ∧ 0 ≤ edgeN a b ∧ edgeN a b ≤ 5 ∧ 0 ≤ btN a b ∧ btN a b ≤ 2 ∧ btN b a = btN a b := by decide +kernel
theorem quad_is (a b : Int) (ha0 : 0 ≤ a) (ha1 : a < 4) (hb0 : 0 ≤ b) (hb1 : b < 4) (hab : a ≠ b) : (if edgeN a b < 3 then edgeN a b else 5 - edgeN a b) = btN a b ∧ 0 ≤ edgeN a b ∧ edgeN a b ≤ 5 ∧ 0 ≤ btN a b ∧ btN a b ≤ 2 ∧ btN b a = btN a b := by
  obtain ⟨x, rfl⟩ : ∃ x : Nat, a = x := ⟨a.toNat, by omega⟩
  obtain ⟨y, rfl⟩ : ∃ y : Nat, b = y := ⟨b.toNat, by omega⟩
  have := quad_at ⟨x, by omega⟩ ⟨y, by omega⟩ (by simp; omega)
  exact this
theorem quad_z (a b : Int) (ha0 : 0 ≤ a) (ha1 : a < 4) (hb0 : 0 ≤ b) (hb1 : b < 4) (hab : a ≠ b) : ZCalls Tryz.prog 71 [I a, I b] (I (btN a b)) := by
  obtain ⟨e1, e2, e3, _⟩ := quad_is a b ha0 ha1 hb0 hb1 hab
  have he := edge_z a b ha0 ha1 hb0 hb1 hab
  rw [← e1]
  generalize edgeN a b = e at *
  by_cases h : e < 3
  · rw [if_pos h]
    refine ZCalls.body Tryz.func71 rfl Tryz.ntmps71 (rs := [.tmp 4]) rfl (by simp) rfl fun H Q hQ A hA => ?_
    have a0 := hA 0 _ _ rfl
    have a1 := hA 1 _ _ rfl
    clear hA
    repeat' first | refine rnY ?_ | (first | refine ZCalls.to (he) ?_ | refine ZCalls.tf (he) ?_) | with_reducible refine And.intro (fun hc => ?_) (fun hc => ?_) | fail
    exact hQ.out _ _ (fv) (by exact exY)
  · rw [if_neg h]
    have ho := opposite_z e e2 e3
    refine ZCalls.body Tryz.func71 rfl Tryz.ntmps71 (rs := [.tmp 4]) rfl (by simp) rfl fun H Q hQ A hA => ?_
    have a0 := hA 0 _ _ rfl
    have a1 := hA 1 _ _ rfl
    clear hA
    repeat' first | refine rnY ?_ | (first | refine ZCalls.to (he) ?_ | refine ZCalls.tf (he) ?_) | (first | refine ZCalls.to (ho) ?_ | refine ZCalls.tf (ho) ?_) | with_reducible refine And.intro (fun hc => ?_) (fun hc => ?_) | fail
    exact hQ.out _ _ (fv) (by exact exY)
def bump (L : List Int) (i d : Int) : List Int := L.set i.toNat (L.getD i.toNat 0 + d)
theorem bump_len (L : List Int) (i d : Int) : (bump L i d).length = L.length := by simp [bump]
def mRow (n a f : Nat) (t p c : Int) : List Int := bump (bump (bump (bump (List.replicate (7 * n) 0) (7 * a + c) 1) (7 * a + 4 + btN c f) 1) (7 * t + pm p c) (-1)) (7 * t + 4 + btN (pm p c) (pm p f)) (-1)
theorem mRow_len (n a f : Nat) (t p c : Int) : (mRow n a f t p c).length = 7 * n := by simp [mRow, bump_len]
def mF (n a f : Nat) (t p : Int) : List (List Int) := if 4 * (a : Int) + f > 4 * t + pm p f then [] else (othersL [(f : Int)]).map (mRow n a f t p)
def MSt (H0 H : Heap) (bm n : Nat) (A : List (List Int)) (z : Nat) : Prop := Ext H0 H ∧ H0.size ≤ bm ∧ bm < H.size ∧ bm ≠ z ∧
  ((A = [] ∧ H.get bm = .cells [I 0, I (7 * n), .slice none 0 0] 1 false) ∨ ∃ g, A ≠ [] ∧ bm < g ∧ g ≠ z ∧ g < H.size ∧ H.get bm = .cells [I A.length, I (7 * n), .slice (some ⟨g, 0, none⟩) A.flatten.length 0] 1 false ∧ H.get g = .cells (ints A.flatten) 1 false)
end Go.Proofs.YtmoknllbpjpkmaaGreat.Zed
namespace Go.Proofs.YtmoknllbpjpkmaaGreat.Zed
open Go TP
set_option linter.unusedVariables false
set_option linter.unusedSimpArgs false
set_option maxRecDepth 20000
namespace tfX24
theorem tf : (Tryz.prog.underlying 25 = some (.slice 2)) ∧ (el Tryz.prog 25 = some (none, 1)) ∧ (Tryz.prog.underlying 109 = some (.array 4 2)) ∧ (el Tryz.prog 109 = some (some 4, 1)) ∧ (tk Tryz.prog 2 = some none) ∧ (tk Tryz.prog 25 = some none) ∧ (cz Tryz.prog 2 = some 1) ∧ (bz Tryz.prog 2 = some 8) ∧ (zr Tryz.prog 2 = some (.int .i64 0)) ∧ (fo Tryz.prog 80 0 = some (0, none)) ∧ (fo Tryz.prog 100 0 = some (0, none)) ∧ (fo Tryz.prog 100 1 = some (1, none)) ∧ (fo Tryz.prog 100 2 = some (2, none)) := by
  refine ⟨?_, ?_, ?_, ?_, ?_, ?_, ?_, ?_, ?_, ?_, ?_, ?_, ?_⟩ <;> kernel_rfl
end tfX24
open tfX24

theorem MSt.ext {H0 H H' : Heap} {bm n z : Nat} {A : List (List Int)} (h : MSt H0 H bm n A z) (k : Ext H H') : MSt H0 H' bm n A z := by
  obtain ⟨h1, h2, h3, h4, h5⟩ := h
  refine ⟨h1.trans k, h2, Nat.lt_of_lt_of_le h3 k.size, h4, ?_⟩
  rcases h5 with ⟨r1, r2⟩ | ⟨g, r1, r2, r3, r4, r5, r6⟩
  · exact .inl ⟨r1, by rw [k.get _ h3]; exact r2⟩
  · exact .inr ⟨g, r1, r2, r3, Nat.lt_of_lt_of_le r4 k.size, by rw [k.get _ h3]; exact r5, by rw [k.get _ r4]; exact r6⟩
theorem others_ne (f k : Nat) (hf : f < 4) (hk : k < 3) : (othersL [(f : Int)]).getD k 0 ≠ f := by
  have := (others1_bd f hf).1
  intro e
  have hm : (othersL [(f : Int)]).getD k 0 ∈ othersL [(f : Int)] := by simp [show k < (othersL [(f : Int)]).length by omega]
  rw [e] at hm
  unfold othersL at hm
  simp at hm
theorem bump_bd {L : List Int} {B : Int} (hB : 0 ≤ B) (h : ∀ j, -B ≤ L.getD j 0 ∧ L.getD j 0 ≤ B) (i d : Int) (hi : i.toNat < L.length) (hd : -1 ≤ d ∧ d ≤ 1) : ∀ j, -(B + 1) ≤ (bump L i d).getD j 0 ∧ (bump L i d).getD j 0 ≤ B + 1 := by
  intro j
  unfold bump
  rw [getD_set _ _ _ _ hi]
  have h1 := h j
  have h2 := h i.toNat
  split <;> omega
set_option maxHeartbeats 4000000 in
theorem mmVisit_c {H0 H : Heap} {bm n : Nat} {AA : List (List Int)} (hn : n ≤ 8) (hM : MSt H0 H bm n AA H.size) (hA : AA.flatten.length ≤ 100000) (hA2 : AA.length ≤ 100000) (x : Blk) (a f : Nat) (t p : Int) (ha : a < n) (ht0 : 0 ≤ t) (ht : t < n) (hf : f < 4) (hp0 : 0 ≤ p) (hp : p < 24) :
    ACalls Tryz.prog 115 [I a, I f, .agg #[I t, I p], .agg (ints (pmL p)).toArray, .pointer (some ⟨bm, 0, none⟩)] (H.push x) fun u H' => u = undef ∧ MSt H0 H' bm n (AA ++ mF n a f t p) H.size ∧ H'.get H.size = x := by
  have hpl := (pmL_bd p hp0 hp).1
  have hq := pm_bd p f hp0 hp (by omega) (by omega)
  have hqq : (pmL p).getD f 0 = pm p f := by unfold pm; rw [Int.toNat_natCast]
  have hMx : ∀ H2, Ext (H.push x) H2 → MSt H0 H2 bm n AA H.size ∧ H2.get H.size = x := fun H2 k => ⟨hM.ext (((Ext.refl H).push x).trans k), by rw [k.get _ (by rw [Heap.size_push]; omega)]; exact get_push_eq rfl⟩
  by_cases hgt : 4 * (a : Int) + f > 4 * t + pm p f
  · have e : mF n a f t p = [] := by unfold mF; rw [if_pos hgt]
    rw [e, List.append_nil]
    generalize pm p f = g at *
    clear hM e
    refine ACalls.body Tryz.func115 rfl Tryz.ntmps115 (rs := []) rfl (by simp) rfl fun Q hQ A hA => ?_
    have a0 := hA 0 _ _ rfl
    have a1 := hA 1 _ _ rfl
    have a2 := hA 2 _ _ rfl
    have a3 := hA 3 _ _ rfl
    have a4 := hA 4 _ _ rfl
    clear hA
    repeat' first | refine rnY ?_ | with_reducible refine And.intro (fun hc => ?_) (fun hc => ?_) | fail
    refine AWp.zreg [(0, none), (1, none), (2, none), (3, none), (4, none), (5, none), (6, none), (7, none), (8, none), (9, none), (10, none), (11, none)] mixed (by kernel_rfl) ?_
    repeat' first | refine rzY ?_ | fail
    repeat' first | refine rnY ?_ | with_reducible refine And.intro (fun hc => ?_) (fun hc => ?_) | fail
    have hfin := hMx _ (show Ext (H.push x) _ by exact exY)
    exact hQ.out _ _ ⟨rfl, hfin.1, hfin.2⟩
  · have e : mF n a f t p = (othersL [(f : Int)]).map (mRow n a f t p) := by unfold mF; rw [if_neg hgt]
    rw [e]
    have hone := others_ne f
    obtain ⟨o1, o2⟩ := others1_bd f hf
    have ho := others_z [(f : Int)] (by simp) ⟨f, hf, by
      have : f = 0 ∨ f = 1 ∨ f = 2 ∨ f = 3 := by omega
      rcases this with rfl | rfl | rfl | rfl <;> simp [cntL]⟩
    unfold Zed.zI at ho
    rw [o1] at ho
    generalize othersL [(f : Int)] = ol at *
    clear e
    refine ACalls.body Tryz.func115 rfl Tryz.ntmps115 (rs := []) rfl (by simp) rfl fun Q hQ A hA => ?_
    have a0 := hA 0 _ _ rfl
    have a1 := hA 1 _ _ rfl
    have a2 := hA 2 _ _ rfl
    have a3 := hA 3 _ _ rfl
    have a4 := hA 4 _ _ rfl
    clear hA
    repeat' first | refine rnY ?_ | with_reducible refine And.intro (fun hc => ?_) (fun hc => ?_) | fail
    refine AWp.zreg [(0, none), (1, none), (2, none), (3, none), (4, none), (5, none), (6, none), (7, none), (8, none), (9, none), (10, none), (11, none)] mixed (by kernel_rfl) ?_
    repeat' first | refine rzY ?_ | fail
    repeat' first | refine rnY ?_ | (first | refine ZCalls.to (ho) ?_ | refine ZCalls.tf (ho) ?_) | with_reducible refine And.intro (fun hc => ?_) (fun hc => ?_) | fail
    refine AWp.cut (fun Ac hAc => ?_)
    have c0 := gtY (t := 0) hAc
    have c1 := gtY (t := 1) hAc
    have c4 := gtY (t := 4) hAc
    have c7 := gtY (t := 7) hAc
    have c8 := gtY (t := 8) hAc
    have c26 := gtY (t := 26) hAc
    have c27 := gtY (t := 27) hAc
    have c28 := gtY (t := 28) hAc
    clear a0 a1 a2 a3 a4
    refine AWp.loop (fun A' H' => ∃ (k : Nat), Ag [10, 11, 29, 30, 31, 32, 33, 34, 35, 36, 37, 38, 39, 40, 41, 42, 43, 44, 45, 46, 47, 48, 49, 50, 51, 52, 53, 54, 55, 56, 57, 58, 59, 60, 61, 62, 63, 64, 65, 66, 67, 68, 69, 70, 71, 72, 73, 74, 75, 76, 77, 78, 79, 80, 81, 82, 83, 84, 85, 86, 87, 88, 89, 90, 91, 92, 93, 94] A' (put Ac (some 28) (I k)) ∧ k ≤ 3 ∧ MSt H0 H' bm n (AA ++ (ol.take k).map (mRow n a f t p)) H.size ∧ H'.get H.size = x ∧ H.size < H'.size) (fun A' _ => 3 - (intV (A' 28)).toNat) ?_ ?_
    · have e0 : AA ++ (ol.take 0).map (mRow n a f t p) = AA := by simp
      have hfin := hMx _ (show Ext (H.push x) _ by exact exY)
      exact ⟨0, agY, by omega, by rw [e0]; exact hfin.1, hfin.2, by simp only [nx]; omega⟩
    · clear hM hMx
      rintro A1 H1 ⟨k, hA1, hk, hM, hxz, hz⟩
      have d0 := gdY (t := 0) hA1
      have d1 := gdY (t := 1) hA1
      have d4 := gdY (t := 4) hA1
      have d7 := gdY (t := 7) hA1
      have d8 := gdY (t := 8) hA1
      have d26 := gdY (t := 26) hA1
      have d27 := gdY (t := 27) hA1
      have d28 := gdY (t := 28) hA1
      by_cases hlt : k < 3
      · obtain ⟨c, hc, hc4⟩ := o2 k hlt
        have hcf := hone k hf hlt
        rw [hc] at hcf
        have hrow : AA ++ (ol.take (k + 1)).map (mRow n a f t p) = (AA ++ (ol.take k).map (mRow n a f t p)) ++ [mRow n a f t p c] := by
          rw [List.take_succ_eq_append_getElem (by omega), List.map_append, List.append_assoc]
          have : ol[k] = (c : Int) := by rw [← hc]; simp [show k < ol.length by omega]
          simp [this]
        have hfl : (AA ++ (ol.take k).map (mRow n a f t p)).flatten.length ≤ 200000 := by
          have h0 : ((ol.take k).map (mRow n a f t p)).flatten.length = ((ol.take k).map (mRow n a f t p)).length * (7 * n) := flat_len (C := 7 * n) (fun r hr => by obtain ⟨y, _, rfl⟩ := List.mem_map.1 hr; exact mRow_len ..)
          rw [List.flatten_append, List.length_append, h0]
          have h1 : ((ol.take k).map (mRow n a f t p)).length ≤ 3 := by rw [List.length_map, List.length_take]; omega
          have h2 : ((ol.take k).map (mRow n a f t p)).length * (7 * n) ≤ 3 * 56 := Nat.mul_le_mul h1 (by omega)
          omega
        have hll : (AA ++ (ol.take k).map (mRow n a f t p)).length ≤ 200000 := by
          rw [List.length_append, List.length_map, List.length_take]; omega
        have hq2 := pm_bd p c hp0 hp (by omega) (by omega)
        have hqc : (pmL p).getD c 0 = pm p c := by unfold pm; rw [Int.toNat_natCast]
        have hne : pm p c ≠ pm p f := by rw [← hqc, ← hqq]; exact pm_inj p c f hp0 hp hc4 hf (by omega)
        obtain ⟨_, _, _, b1, b2, _⟩ := quad_is c f (by omega) (by omega) (by omega) (by omega) hcf
        obtain ⟨_, _, _, b3, b4, _⟩ := quad_is (pm p c) (pm p f) (by omega) (by omega) (by omega) (by omega) hne
        have hz1 := quad_z c f (by omega) (by omega) (by omega) (by omega) hcf
        have hz2 := quad_z (pm p c) (pm p f) (by omega) (by omega) (by omega) (by omega) hne
        generalize AA ++ (ol.take k).map (mRow n a f t p) = L at *
        have hm4 : mRow n a f t p c = bump (bump (bump (bump (List.replicate (7 * n) 0) (7 * a + c) 1) (7 * a + 4 + btN c f) 1) (7 * t + pm p c) (-1)) (7 * t + 4 + btN (pm p c) (pm p f)) (-1) := rfl
        have hml := mRow_len n a f t p c
        generalize mRow n a f t p c = row at *
        generalize hq1 : pm p f = g at *
        generalize hq3 : pm p c = g2 at *
        generalize btN c f = u1 at *
        generalize btN g2 g = u2 at *
        have h7 : (7 * (n : Int)).toNat = 7 * n := by omega
        obtain ⟨hx, hb0, hb1, hb2, hg⟩ := hM
        have d0 : ∀ j, -0 ≤ (List.replicate (7 * n) (0 : Int)).getD j 0 ∧ (List.replicate (7 * n) (0 : Int)).getD j 0 ≤ 0 := fun j => by rw [getD_zero]; omega
        have l0 : (List.replicate (7 * n) (0 : Int)).length = 7 * n := by simp
        generalize hR0 : List.replicate (7 * n) (0 : Int) = R0 at *
        have d1 := bump_bd (by omega) d0 (7 * a + c) 1 (by omega) (by omega)
        have e1 : R0.set (7 * (a : Int) + c).toNat (R0.getD (7 * (a : Int) + c).toNat 0 + 1) = bump R0 (7 * a + c) 1 := rfl
        have v1 := d0 (7 * (a : Int) + c).toNat
        have l1 := bump_len R0 (7 * a + c) 1
        generalize bump R0 (7 * a + c) 1 = R1 at *
        generalize hy1 : R0.getD (7 * (a : Int) + c).toNat 0 = y1 at *
        have d2 := bump_bd (by omega) d1 (7 * a + 4 + u1) 1 (by omega) (by omega)
        have e2 : R1.set (7 * (a : Int) + 4 + u1).toNat (R1.getD (7 * (a : Int) + 4 + u1).toNat 0 + 1) = bump R1 (7 * a + 4 + u1) 1 := rfl
        have v2 := d1 (7 * (a : Int) + 4 + u1).toNat
        have l2 := bump_len R1 (7 * a + 4 + u1) 1
        generalize bump R1 (7 * a + 4 + u1) 1 = R2 at *
        generalize hy2 : R1.getD (7 * (a : Int) + 4 + u1).toNat 0 = y2 at *
        have d3 := bump_bd (by omega) d2 (7 * t + g2) (-1) (by omega) (by omega)
        have e3 : R2.set (7 * t + g2).toNat (R2.getD (7 * t + g2).toNat 0 - 1) = bump R2 (7 * t + g2) (-1) := rfl
        have v3 := d2 (7 * t + g2).toNat
        have l3 := bump_len R2 (7 * t + g2) (-1)
        generalize bump R2 (7 * t + g2) (-1) = R3 at *
        generalize hy3 : R2.getD (7 * t + g2).toNat 0 = y3 at *
        have e4 : R3.set (7 * t + 4 + u2).toNat (R3.getD (7 * t + 4 + u2).toNat 0 - 1) = row := hm4.symm
        have v4 := d3 (7 * t + 4 + u2).toNat
        clear d0 d1 d2 d3 hm4
        generalize hy4 : R3.getD (7 * t + 4 + u2).toNat 0 = y4 at *
        rcases hg with ⟨hL0, hg⟩ | ⟨gg, hi0, hg1, hg2, hg3, hg4, hg5⟩
        · subst hL0
          rw [List.nil_append] at hrow
          have zf0 := @rep_ints
          have zf1 := @zero1
          repeat' first | refine rnY ?_ | (first | refine ZCalls.to (hz1) ?_ | refine ZCalls.tf (hz1) ?_) | with_reducible refine And.intro (fun hc => ?_) (fun hc => ?_) | fail
          refine AWp.zreg [(0, none), (1, none), (2, none), (3, none), (4, none), (5, none), (6, none), (7, none), (8, none), (9, none), (10, none), (11, none), (12, some [2, 6, 9])] mixed (by kernel_rfl) ?_
          repeat' first | refine rzY ?_ | fail
          repeat' first | refine rnY ?_ | with_reducible refine And.intro (fun hc => ?_) (fun hc => ?_) | fail
          refine AWp.zreg [(0, none), (1, none), (2, none), (3, none), (4, none), (5, none), (6, none), (7, none), (8, none), (9, none), (10, none), (11, none), (12, none), (13, none), (14, none), (15, none), (16, none), (17, some [2, 7, 10, 14])] mixed (by kernel_rfl) ?_
          repeat' first | refine rzY ?_ | (first | refine ZCalls.to (hz2) ?_ | refine ZCalls.tf (hz2) ?_) | fail
          refine athen_n ?_
          refine AWp.freezeI (t := 11) (g := H1.size) row (7 * n) (by exact ivY) (get_push_eq rfl) rfl rfl hml ?_
          clear e1 e2 e3 e4 v1 v2 v3 v4 hy1 hy2 hy3 hy4 hR0 l0 l1 l2 l3
          have w1 : (([row].length : Nat) : Int) = 1 := rfl
          have w2 : [row].flatten = row := by simp
          repeat' first | refine rnY ?_ | (refine appN hml (by omega) (by omega) ?_) | with_reducible refine And.intro (fun hc => ?_) (fun hc => ?_) | fail
          exact ⟨⟨k + 1, agY, by omega, by rw [hrow]; exact ⟨by exact exY, hb0, by simp only [nx]; omega, hb2, .inr ⟨H1.size + 1, by simp, by omega, by omega, by simp only [nx]; omega, by rw [w1, w2, hml]; exact ivY, by rw [w2]; exact ivY⟩⟩, by exact ivY, by simp only [nx]; omega⟩, by exact ivY⟩
        · have zf0 := @rep_ints
          have zf1 := @zero1
          repeat' first | refine rnY ?_ | (first | refine ZCalls.to (hz1) ?_ | refine ZCalls.tf (hz1) ?_) | with_reducible refine And.intro (fun hc => ?_) (fun hc => ?_) | fail
          refine AWp.zreg [(0, none), (1, none), (2, none), (3, none), (4, none), (5, none), (6, none), (7, none), (8, none), (9, none), (10, none), (11, none), (12, some [2, 6, 9])] mixed (by kernel_rfl) ?_
          repeat' first | refine rzY ?_ | fail
          repeat' first | refine rnY ?_ | with_reducible refine And.intro (fun hc => ?_) (fun hc => ?_) | fail
          refine AWp.zreg [(0, none), (1, none), (2, none), (3, none), (4, none), (5, none), (6, none), (7, none), (8, none), (9, none), (10, none), (11, none), (12, none), (13, none), (14, none), (15, none), (16, none), (17, some [2, 7, 10, 14])] mixed (by kernel_rfl) ?_
          repeat' first | refine rzY ?_ | (first | refine ZCalls.to (hz2) ?_ | refine ZCalls.tf (hz2) ?_) | fail
          refine athen_n ?_
          refine AWp.freezeI (t := 11) (g := H1.size) row (7 * n) (by exact ivY) (get_push_eq rfl) rfl rfl hml ?_
          clear e1 e2 e3 e4 v1 v2 v3 v4 hy1 hy2 hy3 hy4 hR0 l0 l1 l2 l3
          have w1 : (((L ++ [row]).length : Nat) : Int) = (L.length : Int) + 1 := by simp
          have w2 : (L ++ [row]).flatten = L.flatten ++ row := by simp
          repeat' first | refine rnY ?_ | (refine appI (cs := L.flatten) (by rw [get_push_lt hg3]; exact hg5) (by omega) hml (by omega) (by omega) ?_) | with_reducible refine And.intro (fun hc => ?_) (fun hc => ?_) | fail
          exact ⟨⟨k + 1, agY, by omega, by rw [hrow]; exact ⟨by exact exY, hb0, by simp only [nx]; omega, hb2, .inr ⟨H1.size + 1, by simp, by omega, by omega, by simp only [nx]; omega, by rw [w1, w2, List.length_append, hml]; exact ivY, by rw [w2]; exact ivY⟩⟩, by exact ivY, by simp only [nx]; omega⟩, by exact ivY⟩
      · obtain rfl : k = 3 := by omega
        rw [List.take_of_length_le (by omega)] at hM
        clear hone o2 ho
        repeat' first | refine rnY ?_ | with_reducible refine And.intro (fun hc => ?_) (fun hc => ?_) | fail
        exact hQ.out _ _ ⟨rfl, hM, hxz⟩
end Go.Proofs.YtmoknllbpjpkmaaGreat.Zed
namespace Go.Proofs.YtmoknllbpjpkmaaGreat.Zed
open Go TP
set_option linter.unusedVariables false
set_option linter.unusedSimpArgs false
set_option maxRecDepth 20000
namespace tfX25
theorem tf : (Tryz.prog.underlying 25 = some (.slice 2)) ∧ (el Tryz.prog 25 = some (none, 1)) ∧ (Tryz.prog.underlying 29 = some (.slice 61)) ∧ (el Tryz.prog 29 = some (none, 1)) ∧ (Tryz.prog.underlying 109 = some (.array 4 2)) ∧ (el Tryz.prog 109 = some (some 4, 1)) ∧ (tk Tryz.prog 2 = some none) ∧ (tk Tryz.prog 25 = some none) ∧ (tk Tryz.prog 29 = some none) ∧ (tk Tryz.prog 31 = some (some 1)) ∧ (tk Tryz.prog 61 = some none) ∧ (tk Tryz.prog 100 = some (some 3)) ∧ (cz Tryz.prog 2 = some 1) ∧ (bz Tryz.prog 2 = some 8) ∧ (cz Tryz.prog 61 = some 1) ∧ (bz Tryz.prog 61 = some 24) ∧ (zr Tryz.prog 2 = some (.int .i64 0)) ∧ (zr Tryz.prog 61 = some (.slice none 0 0)) ∧ (zr Tryz.prog 100 = some (.agg #[.int .i64 0, .int .i64 0, .slice none 0 0])) ∧ (fo Tryz.prog 31 0 = some (0, none)) ∧ (fo Tryz.prog 80 0 = some (0, none)) ∧ (fo Tryz.prog 100 0 = some (0, none)) ∧ (fo Tryz.prog 100 1 = some (1, none)) ∧ (fo Tryz.prog 100 2 = some (2, none)) ∧ (el Tryz.prog 100 = none) ∧ (placesOf Tryz.prog 100 = some #[(0, 1), (1, 1), (2, 1)]) := by
  refine ⟨?_, ?_, ?_, ?_, ?_, ?_, ?_, ?_, ?_, ?_, ?_, ?_, ?_, ?_, ?_, ?_, ?_, ?_, ?_, ?_, ?_, ?_, ?_, ?_, ?_, ?_⟩ <;> kernel_rfl
end tfX25
open tfX25

def mFs (n a : Nat) (row : List (Int × Int)) : Nat → List (List Int)
  | 0 => []
  | f + 1 => mFs n a row f ++ (if (row.getD f (0, 0)).1 < 0 then [] else mF n a f (row.getD f (0, 0)).1 (row.getD f (0, 0)).2)
def mTs (n : Nat) (T : List (List (Int × Int))) : Nat → List (List Int)
  | 0 => []
  | a + 1 => mTs n T a ++ mFs n a (T.getD a []) 4
theorem mF_ok (n a f : Nat) (hf : f < 4) (t p : Int) : (mF n a f t p).length ≤ 3 ∧ ∀ r ∈ mF n a f t p, r.length = 7 * n := by
  unfold mF
  split
  · exact ⟨by simp, fun r hr => by cases hr⟩
  · refine ⟨by rw [List.length_map, (others1_bd f hf).1]; exact Nat.le_refl _, fun r hr => ?_⟩
    obtain ⟨y, _, rfl⟩ := List.mem_map.1 hr
    exact mRow_len ..
theorem mFs_ok (n a : Nat) (row : List (Int × Int)) : ∀ f, f ≤ 4 → (mFs n a row f).length ≤ 3 * f ∧ ∀ r ∈ mFs n a row f, r.length = 7 * n
  | 0, _ => ⟨by simp [mFs], fun r hr => by cases hr⟩
  | f + 1, h => by
    obtain ⟨i1, i2⟩ := mFs_ok n a row f (by omega)
    have hm := mF_ok n a f (by omega) (row.getD f (0, 0)).1 (row.getD f (0, 0)).2
    unfold mFs
    split
    · rw [List.append_nil]; exact ⟨by omega, i2⟩
    · refine ⟨by rw [List.length_append]; omega, fun r hr => ?_⟩
      rcases List.mem_append.1 hr with hr | hr
      · exact i2 r hr
      · exact hm.2 r hr
theorem mTs_ok (n : Nat) (T : List (List (Int × Int))) : ∀ a, (mTs n T a).length ≤ 12 * a ∧ ∀ r ∈ mTs n T a, r.length = 7 * n
  | 0 => ⟨by simp [mTs], fun r hr => by cases hr⟩
  | a + 1 => by
    obtain ⟨i1, i2⟩ := mTs_ok n T a
    obtain ⟨j1, j2⟩ := mFs_ok n a (T.getD a []) 4 (Nat.le_refl _)
    unfold mTs
    refine ⟨by rw [List.length_append]; omega, fun r hr => ?_⟩
    rcases List.mem_append.1 hr with hr | hr
    · exact i2 r hr
    · exact j2 r hr
theorem MSt.z {H0 H : Heap} {bm n z : Nat} {A : List (List Int)} (h : MSt H0 H bm n A z) : MSt H0 H bm n A H.size := by
  obtain ⟨h1, h2, h3, h4, h5⟩ := h
  refine ⟨h1, h2, h3, by omega, ?_⟩
  rcases h5 with h5 | ⟨g, r1, r2, r3, r4, r5⟩
  · exact .inl h5
  · exact .inr ⟨g, r1, r2, by omega, r4, r5⟩
/-- The rows of the conditions on normal vectors. -/
def mmR (T : List (List (Int × Int))) : List (List Int) := mTs T.length T T.length
theorem mmR_rows (T : List (List (Int × Int))) : ∀ r ∈ mmR T, r.length = 7 * T.length := (mTs_ok _ _ _).2
theorem mmR_len (T : List (List (Int × Int))) : (mmR T).length ≤ 12 * T.length := (mTs_ok _ _ _).1
set_option maxHeartbeats 4000000 in
theorem matchingMatrix_z {T : List (List (Int × Int))} (hF : Fine T) : ZCalls Tryz.prog 81 [zT T] (mxV (mmR T).length (7 * T.length) (mmR T).flatten) := by
  have h8 := hF.1
  have hgl := fun (H0 H : Heap) (bm : Nat) => glued_g hF 115 (.pointer (some ⟨bm, 0, none⟩)) (fun a f H' => MSt H0 H' bm T.length (mTs T.length T a ++ mFs T.length a (T.getD a []) f) H'.size)
    (fun a f H H' h k => (MSt.ext h k).z)
    (fun a f H _ hf h0 h => by
      have e : mFs T.length a (T.getD a []) (f + 1) = mFs T.length a (T.getD a []) f := by
        show mFs T.length a (T.getD a []) f ++ _ = _
        rw [if_pos h0, List.append_nil]
      rw [e]; exact h)
    (fun a H _ h => by
      have e : mTs T.length T (a + 1) ++ mFs T.length (a + 1) (T.getD (a + 1) []) 0 = mTs T.length T a ++ mFs T.length a (T.getD a []) 4 := by
        show mTs T.length T a ++ mFs T.length a (T.getD a []) 4 ++ [] = _
        rw [List.append_nil]
      rw [e]; exact h)
    (fun H a f t p he ha hf ht0 ht hp0 hp h x => by
      have e : mTs T.length T a ++ mFs T.length a (T.getD a []) (f + 1) = mTs T.length T a ++ mFs T.length a (T.getD a []) f ++ mF T.length a f t p := by
        show mTs T.length T a ++ (mFs T.length a (T.getD a []) f ++ _) = _
        rw [he, if_neg (by simp only; omega), List.append_assoc]
      have k1 := mTs_ok T.length T a
      have k2 := mFs_ok T.length a (T.getD a []) f (by omega)
      have k3 : (mTs T.length T a ++ mFs T.length a (T.getD a []) f).length ≤ 108 := by rw [List.length_append]; omega
      have k4 : (mTs T.length T a ++ mFs T.length a (T.getD a []) f).flatten.length ≤ 108 * 56 := by
        rw [flat_len (C := 7 * T.length) (fun r hr => by
          rcases List.mem_append.1 hr with hr | hr
          · exact k1.2 r hr
          · exact k2.2 r hr)]
        exact Nat.mul_le_mul k3 (by omega)
      refine (mmVisit_c h8 h (by omega) (by omega) x a f t p ha ht0 ht hf hp0 hp).mono ?_
      rintro u H' ⟨rfl, q1, q2⟩
      refine ⟨rfl, ?_, q2⟩
      rw [e]
      exact q1.z) (H := H)
  have hfl := flat_len (mmR_rows T)
  have e0 : mTs T.length T T.length ++ mFs T.length T.length (T.getD T.length []) 0 = mmR T := by show _ ++ [] = _; rw [List.append_nil]; rfl
  have e1 : mTs T.length T 0 ++ mFs T.length 0 (T.getD 0 []) 0 = [] := rfl
  simp only [e0, e1] at hgl
  generalize mmR T = M at *
  refine ZCalls.body Tryz.func81 rfl Tryz.ntmps81 (rs := [.cell 2 100]) rfl (by simp) rfl fun H Q hQ A hA => ?_
  have a0 := hA 0 _ _ rfl
  clear hA
  repeat' first | refine rnY ?_ | (first | refine ZCalls.to (size_z _ _ _) ?_ | refine ZCalls.tf (size_z _ _ _) ?_) | with_reducible refine And.intro (fun hc => ?_) (fun hc => ?_) | fail
  refine (hgl (H.push (.cells [I 0, I 0, .slice none 0 0] 1 false)) _ (H.size + 1) ⟨(Ext.refl _).push _, by simp only [nx]; omega, by simp only [nx]; omega, by simp only [nx]; omega, .inl ⟨rfl, get_push_eq (by simp only [nx])⟩⟩).mono ?_
  rintro u H1 ⟨rfl, hx, hb0, hb1, hb2, hg⟩
  clear hgl e0 e1
  have hxg := hx.get; have hxs := hx.size; (try simp only [nx] at hxs)
  rcases hg with ⟨hM0, hg⟩ | ⟨g, hi0, hg1, hg2, hg3, hg4, hg5⟩
  · subst hM0
    repeat' first | refine rnY ?_ | with_reducible refine And.intro (fun hc => ?_) (fun hc => ?_) | fail
    exact hQ.out _ _ ((mx_mk (OwnB.nilr 1) : OwnB H.size H.size _ [_] [mxV 0 (7 * T.length) []]).fin) (by exact exY)
  · repeat' first | refine rnY ?_ | with_reducible refine And.intro (fun hc => ?_) (fun hc => ?_) | fail
    have hO : OwnB H.size H1.size (H1.set H.size (.cells [I M.length, I (7 * T.length), .slice (some ⟨g, 0, none⟩) (M.length * (7 * T.length)) 0] 1 false)) [.agg #[I M.length, I (7 * T.length), .slice (some ⟨g, 0, none⟩) (M.length * (7 * T.length)) 0]] [mxV M.length (7 * T.length) M.flatten] :=
      mx_mk (by unfold Zed.zI; rw [hfl]; exact OwnB.ints (by omega) hg3 hfl ((get_set_ne (by omega)).trans hg5))
    exact hQ.out _ _ (hO.fin) (by exact exY)
end Go.Proofs.YtmoknllbpjpkmaaGreat.Zed
namespace Go.Proofs.YtmoknllbpjpkmaaGreat.Zed
open Go TP
set_option linter.unusedVariables false
set_option linter.unusedSimpArgs false
set_option maxRecDepth 20000
/-! Rows and vectors: the plain law of angle structures. -/
def dotL (a b : List Int) : Nat → Int
  | 0 => 0
  | k + 1 => dotL a b k + a.getD k 0 * b.getD k 0
theorem mul_bd {x y A B : Int} (hx : -A ≤ x ∧ x ≤ A) (hy : -B ≤ y ∧ y ≤ B) : -(A * B) ≤ x * y ∧ x * y ≤ A * B := by
  have hA : 0 ≤ A := by omega
  have hB : 0 ≤ B := by omega
  have h1 : x.natAbs * y.natAbs ≤ A.natAbs * B.natAbs := Nat.mul_le_mul (by omega) (by omega)
  have h2 : (x * y).natAbs = x.natAbs * y.natAbs := Int.natAbs_mul x y
  have h3 : (A * B).natAbs = A.natAbs * B.natAbs := Int.natAbs_mul A B
  have h4 : 0 ≤ A * B := Int.mul_nonneg hA hB
  omega
theorem dotL_bd {a b : List Int} {A B : Int} (ha : ∀ j, -A ≤ a.getD j 0 ∧ a.getD j 0 ≤ A) (hb : ∀ j, -B ≤ b.getD j 0 ∧ b.getD j 0 ≤ B) : ∀ k : Nat, -(k * (A * B)) ≤ dotL a b k ∧ dotL a b k ≤ k * (A * B)
  | 0 => by simp [dotL]
  | k + 1 => by
    have ih := dotL_bd ha hb k
    have := mul_bd (ha k) (hb k)
    rw [dotL]
    have e : ((k + 1 : Nat) : Int) * (A * B) = k * (A * B) + A * B := by push_cast; rw [Int.add_mul, Int.one_mul]
    omega
theorem flat_row {C : Nat} : ∀ {L : List (List Int)}, (∀ r ∈ L, r.length = C) → ∀ i, i < L.length → (L.flatten.drop (i * C)).take C = L.getD i []
  | [], _, i, hi => by simp at hi
  | x :: L, h, i, hi => by
    have hx := h x (List.mem_cons_self ..)
    cases i with
    | zero => rw [Nat.zero_mul, List.drop_zero, List.flatten_cons, List.take_append_of_le_length (by omega), List.take_of_length_le (by omega)]; rfl
    | succ i =>
      rw [List.flatten_cons, List.drop_append, show (i + 1) * C - x.length = i * C by rw [Nat.add_mul, hx]; omega, List.drop_of_length_le (by rw [Nat.add_mul, hx]; omega), List.nil_append, flat_row (fun r hr => h r (List.mem_cons_of_mem _ hr)) i (by simpa using hi)]
      rfl
end Go.Proofs.YtmoknllbpjpkmaaGreat.Zed
namespace Go.Proofs.YtmoknllbpjpkmaaGreat.Zed
open Go TP
set_option linter.unusedVariables false
set_option linter.unusedSimpArgs false
set_option maxRecDepth 20000
namespace tfW24
theorem tf : (Tryz.prog.underlying 22 = some (.slice 57)) ∧ (el Tryz.prog 22 = some (none, 1)) ∧ (Tryz.prog.underlying 57 = some (.slice 87)) ∧ (el Tryz.prog 57 = some (none, 2)) ∧ (tk Tryz.prog 22 = some none) ∧ (tk Tryz.prog 57 = some none) ∧ (tk Tryz.prog 87 = some (some 2)) ∧ (cz Tryz.prog 57 = some 1) ∧ (bz Tryz.prog 57 = some 24) ∧ (cz Tryz.prog 87 = some 2) ∧ (bz Tryz.prog 87 = some 16) ∧ (zr Tryz.prog 57 = some (.slice none 0 0)) ∧ (zr Tryz.prog 87 = some (.agg #[.int .i64 0, .int .i64 0])) ∧ (fo Tryz.prog 24 0 = some (0, none)) := by
  refine ⟨?_, ?_, ?_, ?_, ?_, ?_, ?_, ?_, ?_, ?_, ?_, ?_, ?_, ?_⟩ <;> kernel_rfl
end tfW24
open tfW24

/-- The room left, once it is used up: -1 for good. -/
def szS (T : List (List (Int × Int))) (r : Int) : Nat → Int
  | 0 => r
  | j + 1 => if szS T r j < 0 then -1 else sz1 (szS T r j) (T.getD j []).length
theorem szS_neg (T : List (List (Int × Int))) (r : Int) (j : Nat) (h : szS T r j < 0) : ∀ k, j < k → szS T r k = -1 := by
  intro k
  induction k with
  | zero => intro h; omega
  | succ k ih =>
    intro hk
    unfold szS
    by_cases e : j = k
    · subst e; rw [if_pos h]
    · rw [if_pos (by rw [ih (by omega)]; omega)]
theorem szS_le (T : List (List (Int × Int))) (r : Int) (h0 : 0 ≤ r) : ∀ k, szS T r k ≤ r ∧ -1 ≤ szS T r k
  | 0 => ⟨Int.le_refl _, by show -1 ≤ r; omega⟩
  | k + 1 => by
    have := szS_le T r h0 k
    unfold szS
    split
    · omega
    · unfold sz1; split <;> omega
theorem szS_short (T : List (List (Int × Int))) (r : Int) (h0 : 0 ≤ r) (hr : r ≤ 1048576) : ∀ k, 0 ≤ szS T r k → ∀ j, j < k → (T.getD j []).length ≤ 1048576
  | 0, _, j, h => by omega
  | k + 1, h, j, hj => by
    have hle := szS_le T r h0 k
    unfold szS at h
    split at h
    · omega
    · rename_i hn
      rcases Nat.lt_succ_iff_lt_or_eq.1 hj with h1 | rfl
      · exact szS_short T r h0 hr k (by omega) j h1
      · unfold sz1 at h
        split at h <;> omega
set_option maxHeartbeats 1000000 in
theorem szFaceSS_z {T : List (List (Int × Int))} (hS : Short T 9223372036854775807) : ∃ s : Int, (0 ≤ s → Short T 1048576) ∧ -1 ≤ s ∧ s ≤ 1048576 ∧ ZCalls Tryz.prog 19 [zL zP T, I 1048576] (I s) := by
  obtain ⟨hS1, hS2⟩ := hS
  by_cases h0 : (1048576 : Int) - T.length < 0
  · refine ⟨-1, fun h => by omega, by omega, by omega, ?_⟩
    refine ZCalls.body Tryz.func19 rfl Tryz.ntmps19 (rs := [.tmp 4]) rfl (by simp) rfl fun H Q hQ A hA => ?_
    have a0 := hA 0 _ _ rfl
    have a1 := hA 1 _ _ rfl
    clear hA
    repeat' first | refine rnY ?_ | with_reducible refine And.intro (fun hc => ?_) (fun hc => ?_) | fail
    exact hQ.out _ _ (fv) (by exact exY)
  · have hr0 : (0 : Int) ≤ 1048576 - T.length := by omega
    obtain ⟨r, hr⟩ : ∃ r : Int, 1048576 - (T.length : Int) = r := ⟨_, rfl⟩
    have hle := szS_le T r (by omega)
    refine ⟨szS T r T.length, fun h => ⟨by omega, fun j hj => szS_short T r (by omega) (by omega) _ h j hj⟩, (hle _).2, by have := (hle T.length).1; omega, ?_⟩
    refine ZCalls.body Tryz.func19 rfl Tryz.ntmps19 (rs := [.tmp 4]) rfl (by simp) rfl fun H Q hQ A hA => ?_
    have a0 := hA 0 _ _ rfl
    have a1 := hA 1 _ _ rfl
    clear hA
    rw [hr] at h0 hr0
    repeat' first | refine rnY ?_ | with_reducible refine And.intro (fun hc => ?_) (fun hc => ?_) | fail
    refine AWp.cut (fun Ac hAc => ?_)
    have c0 := gtY (t := 0) hAc
    have c1 := gtY (t := 1) hAc
    have c5 := gtY (t := 5) hAc
    clear a0 a1
    refine AWp.loop (fun A' H' => ∃ (j : Nat), Ag [12, 13, 14, 15, 16, 17, 18, 19, 20, 21, 22, 23, 24, 25] A' (put (put Ac (some 1) (I (szS T r j))) (some 5) (I j)) ∧ j ≤ T.length ∧ 0 ≤ szS T r j ∧ H' = H) (fun A' _ => T.length - (intV (A' 5)).toNat) ?_ ?_
    · have e0 : szS T r 0 = r := rfl
      exact ⟨0, agY, by omega, by rw [e0]; omega, rfl⟩
    · rintro A1 H1 ⟨j, hA, hj, hj0, rfl⟩
      have d0 := gdY (t := 0) hA
      have d1 := gdY (t := 1) hA
      have d5 := gdY (t := 5) hA
      by_cases hlt : j < T.length
      · have hst : szS T r (j + 1) = sz1 (szS T r j) (T.getD j []).length := by
          show (if szS T r j < 0 then -1 else _) = _
          rw [if_neg (by omega)]
        have hlj := hle j
        have hl1 := hle (j + 1)
        have hz := szFaceS_z (T.getD j []).length 2 (p2 (T.getD j [])) (szS T r j) hj0 (by omega) (hS2 j hlt)
        rw [← hst] at hz
        by_cases hn : szS T r (j + 1) < 0
        · have he : szS T r T.length = -1 := by
            by_cases hj1 : j + 1 = T.length
            · rw [← hj1]; omega
            · exact szS_neg T r (j + 1) hn _ (by omega)
          rw [he] at hQ
          clear hst he hle
          generalize szS T r (j + 1) = s' at *
          repeat' first | refine rnY ?_ | (first | refine ZCalls.to (hz) ?_ | refine ZCalls.tf (hz) ?_) | with_reducible refine And.intro (fun hc => ?_) (fun hc => ?_) | fail
          exact hQ.out _ _ (fv) (by exact exY)
        · clear hst
          repeat' first | refine rnY ?_ | (first | refine ZCalls.to (hz) ?_ | refine ZCalls.tf (hz) ?_) | with_reducible refine And.intro (fun hc => ?_) (fun hc => ?_) | fail
          exact ⟨⟨j + 1, agY, by omega, by omega, rfl⟩, by exact ivY⟩
      · obtain rfl : j = T.length := by omega
        repeat' first | refine rnY ?_ | with_reducible refine And.intro (fun hc => ?_) (fun hc => ?_) | fail
        exact hQ.out _ _ (fv) (by exact exY)
theorem szTriangulation_z {T : List (List (Int × Int))} (hS : Short T 9223372036854775807) : ∃ s : Int, (0 ≤ s → Short T 1048576) ∧ -1 ≤ s ∧ s ≤ 1048576 ∧ ZCalls Tryz.prog 5 [zT T, I 1048576] (I s) := by
  obtain ⟨s, h1, h2, h3, h4⟩ := szFaceSS_z hS
  refine ⟨s, h1, h2, h3, ?_⟩
  by_cases hs : s < 0
  · obtain rfl : s = -1 := by omega
    refine ZCalls.body Tryz.func5 rfl Tryz.ntmps5 (rs := [.tmp 4]) rfl (by simp) rfl fun H Q hQ A hA => ?_
    have a0 := hA 0 _ _ rfl
    have a1 := hA 1 _ _ rfl
    clear hA
    repeat' first | refine rnY ?_ | (first | refine ZCalls.to (h4) ?_ | refine ZCalls.tf (h4) ?_) | with_reducible refine And.intro (fun hc => ?_) (fun hc => ?_) | fail
    exact hQ.out _ _ (fv) (by exact exY)
  · refine ZCalls.body Tryz.func5 rfl Tryz.ntmps5 (rs := [.tmp 4]) rfl (by simp) rfl fun H Q hQ A hA => ?_
    have a0 := hA 0 _ _ rfl
    have a1 := hA 1 _ _ rfl
    clear hA
    repeat' first | refine rnY ?_ | (first | refine ZCalls.to (h4) ?_ | refine ZCalls.tf (h4) ?_) | with_reducible refine And.intro (fun hc => ?_) (fun hc => ?_) | fail
    exact hQ.out _ _ (fv) (by exact exY)
end Go.Proofs.YtmoknllbpjpkmaaGreat.Zed
namespace Go.Proofs.YtmoknllbpjpkmaaGreat.Zed
open Go TP
set_option linter.unusedVariables false
set_option linter.unusedSimpArgs false
set_option maxRecDepth 20000
namespace tfX11
theorem tf : (Tryz.prog.underlying 25 = some (.slice 2)) ∧ (el Tryz.prog 25 = some (none, 1)) ∧ (tk Tryz.prog 2 = some none) ∧ (cz Tryz.prog 2 = some 1) ∧ (bz Tryz.prog 2 = some 8) ∧ (zr Tryz.prog 2 = some (.int .i64 0)) := by
  refine ⟨?_, ?_, ?_, ?_, ?_, ?_⟩ <;> kernel_rfl
end tfX11
open tfX11

/-- Angles: the values and the denominator. -/
abbrev agV (l : List Int) (d : Int) : Value := .agg #[zI l, I d]
theorem Cl.agV (l : List Int) (d : Int) : Cl (Zed.agV l d) := Cl.agg (l := [_, _]) (Cl.cons (Cl.zI _) (Cl.cons (Cl.int _ _) Cl.nil))
set_option maxHeartbeats 1000000 in
theorem toInt64S_o {l : List Int} (hS : l.length ≤ 1048576) : OCalls Tryz.prog 8 [zI l] (zI l) := by
  refine OCalls.body Tryz.func8 rfl Tryz.ntmps8 (rs := [.tmp 2]) rfl (by simp) rfl fun H Q hQ A hA => ?_
  have a0 := hA 0 _ _ rfl
  clear hA
  have zf0 := @rep_ints
  have zf1 := @zero1
  repeat' first | refine rnY ?_ | with_reducible refine And.intro (fun hc => ?_) (fun hc => ?_) | fail
  refine AWp.cut (fun Ac hAc => ?_)
  have c0 := gtY (t := 0) hAc
  have c3 := gtY (t := 3) hAc
  have c4 := gtY (t := 4) hAc
  clear a0
  refine AWp.loop (fun A' H' => ∃ (j : Nat) (L : List Int), Ag [8, 9, 10, 11, 12, 13, 14, 15, 16, 17, 18, 19, 20] A' (put Ac (some 4) (I j)) ∧ j ≤ l.length ∧ L.length = l.length ∧ L.take j = l.take j ∧ H' = H.push (.cells (ints L) 1 false)) (fun A' _ => l.length - (intV (A' 4)).toNat) ?_ ?_
  · exact ⟨0, List.replicate l.length 0, agY, by omega, List.length_replicate .., rfl, rfl⟩
  · rintro A1 H1 ⟨j, L, hA, hj, hLl, hLt, rfl⟩
    have d0 := gdY (t := 0) hA
    have d3 := gdY (t := 3) hA
    have d4 := gdY (t := 4) hA
    by_cases hlt : j < l.length
    · obtain ⟨x, hx⟩ : ∃ x, l.getD j 0 = x := ⟨_, rfl⟩
      have hnew : (L.set j x).take (j + 1) = l.take (j + 1) := by
        rw [List.take_succ_eq_append_getElem (l := L.set j x) (by rw [List.length_set]; omega), List.getElem_set_self, List.take_set, List.set_eq_of_length_le (by rw [List.length_take]; omega), hLt, List.take_succ_eq_append_getElem hlt]
        congr 2
        rw [← hx]; simp [hlt]
      repeat' first | refine rnY ?_ | with_reducible refine And.intro (fun hc => ?_) (fun hc => ?_) | fail
      exact ⟨⟨j + 1, L.set j x, agY, by omega, by rw [List.length_set]; exact hLl, hnew, by first | rfl | simp⟩, by exact ivY⟩
    · obtain rfl : j = l.length := by omega
      rw [List.take_of_length_le (by omega), List.take_length] at hLt
      subst hLt
      repeat' first | refine rnY ?_ | with_reducible refine And.intro (fun hc => ?_) (fun hc => ?_) | fail
      exact hQ.out _ _ ((OwnB.ints (lo := H.size) (Nat.le_refl _) (Nat.lt_succ_self _) rfl (get_push_eq rfl)).out) (by exact exY)
theorem toInt64S_z {l : List Int} (hS : l.length ≤ 1048576) : ZCalls Tryz.prog 8 [zI l] (zI l) := (toInt64S_o hS).toZ (Cl.cons (Cl.zI _) Cl.nil)
end Go.Proofs.YtmoknllbpjpkmaaGreat.Zed
