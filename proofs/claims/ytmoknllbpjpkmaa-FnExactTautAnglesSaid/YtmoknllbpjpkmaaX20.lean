/- A part of the walk: what functions of the program do, over an abstract heap. -/
import Derived.Test.YtmoknllbpjpkmaaX19
namespace Go.Proofs.Ytmoknllbpjpkmaa.Zed
open Go TP
set_option linter.unusedVariables false
set_option linter.unusedSimpArgs false
set_option maxRecDepth 20000
namespace tfX20
theorem tf : (Try.prog.underlying 25 = some (.slice 2)) ∧ (el Try.prog 25 = some (none, 1)) ∧ (Try.prog.underlying 29 = some (.slice 102)) ∧ (el Try.prog 29 = some (none, 1)) ∧ (tk Try.prog 2 = some none) ∧ (tk Try.prog 29 = some none) ∧ (tk Try.prog 31 = some (some 1)) ∧ (tk Try.prog 47 = some (some 2)) ∧ (tk Try.prog 102 = some none) ∧ (cz Try.prog 2 = some 1) ∧ (bz Try.prog 2 = some 8) ∧ (cz Try.prog 102 = some 1) ∧ (bz Try.prog 102 = some 24) ∧ (zr Try.prog 2 = some (.int .i64 0)) ∧ (zr Try.prog 47 = some (.agg #[.slice none 0 0, .int .i64 0])) ∧ (zr Try.prog 102 = some (.slice none 0 0)) ∧ (fo Try.prog 31 0 = some (0, none)) ∧ (el Try.prog 47 = none) ∧ (placesOf Try.prog 47 = some #[(0, 1), (1, 1)]) := by
  refine ⟨?_, ?_, ?_, ?_, ?_, ?_, ?_, ?_, ?_, ?_, ?_, ?_, ?_, ?_, ?_, ?_, ?_, ?_, ?_⟩ <;> kernel_rfl
end tfX20
open tfX20

theorem Cl.atV (l : List Int) (d k : Int) : Cl (Zed.atV l d k) := Cl.tuple (l := [_, _]) (Cl.cons (Cl.agV _ _) (Cl.cons (Cl.int _ _) Cl.nil))
set_option maxHeartbeats 4000000 in
theorem specTautAngles_z {T : List (List (Int × Int))} (hl : T.length ≤ 1048576) (c : List Int) (hv : c.length ≤ 1048576) : ZCalls Try.prog 43 [zT T, zI c] (tgV T c) := by
  have hc := l17Code_z hl
  unfold tgV
  by_cases h : codeN T = 0
  · rw [if_pos h]
    rw [h] at hc
    have h6 := codeN_six h
    have hfal : ∀ j, j < c.length → ¬ (0 ≤ c.getD j 0 ∧ c.getD j 0 ≤ 2) → (if tOK T c then atV (tvL c (3 * c.length)) 1 0 else atV [] 0 5) = atV [] 0 5 := fun j hj q => if_neg fun z => q (z.2.1 j hj)
    have hlen : c.length ≠ T.length → (if tOK T c then atV (tvL c (3 * c.length)) 1 0 else atV [] 0 5) = atV [] 0 5 := fun q => if_neg fun z => q z.1
    have htru : c.length = T.length → (∀ j, j < c.length → 0 ≤ c.getD j 0 ∧ c.getD j 0 ≤ 2) → (if tOK T c then atV (tvL c (3 * c.length)) 1 0 else atV [] 0 5) = if angB T (tvL c (3 * c.length)) 1 = true then atV (tvL c (3 * c.length)) 1 0 else atV [] 0 5 := fun q1 q2 => by
      have : tOK T c ↔ angB T (tvL c (3 * c.length)) 1 = true := ⟨fun z => decide_eq_true ⟨h, z.2.2⟩, fun z => ⟨q1, q2, (of_decide_eq_true z).2⟩⟩
      simp only [this]
    have hia := fun (q : c.length = T.length) => specIsAngles_z hl (tvL c (3 * c.length)) 1 (by rw [tvL_len]; omega)
    have htt := fun (q : c.length = T.length) => l22Taut_z (c := c) (by omega)
    generalize (if tOK T c then atV (tvL c (3 * c.length)) 1 0 else atV [] 0 5) = out at *
    refine ZCalls.body Try.func43 rfl Try.ntmps43 (rs := [.cell 4 47, .tmp 5]) rfl (by simp) rfl fun H Q hQ A hA => ?_
    have a0 := hA 0 _ _ rfl
    have a1 := hA 1 _ _ rfl
    clear hA
    repeat' first | refine rnY ?_ | (first | refine ZCalls.to (hc) ?_ | refine ZCalls.tf (hc) ?_) | with_reducible refine And.intro (fun hc => ?_) (fun hc => ?_) | fail
    refine AWp.cut (fun Ac hAc => ?_)
    have c1 := gtY (t := 1) hAc
    have c2 := gtY (t := 2) hAc
    have c4 := gtY (t := 4) hAc
    have c7 := gtY (t := 7) hAc
    clear a0 a1 hc
    refine AWp.loop (fun A' H' => ∃ (k : Nat), Ag [14, 15, 16, 17, 18, 19, 20, 21, 22, 23, 24, 25, 26] A' (put Ac (some 7) (I k)) ∧ k ≤ c.length ∧ (∀ j, j < k → 0 ≤ c.getD j 0 ∧ c.getD j 0 ≤ 2) ∧ H' = H.push (.cells [.slice none 0 0, I 0] 1 false)) (fun A' _ => c.length - (intV (A' 7)).toNat) ?_ ?_
    · exact ⟨0, agY, by omega, fun j hj => by omega, by first | rfl | simp⟩
    · rintro A1 H1 ⟨k, hA1, hk, hno, rfl⟩
      have d1 := gdY (t := 1) hA1
      have d2 := gdY (t := 2) hA1
      have d4 := gdY (t := 4) hA1
      have d7 := gdY (t := 7) hA1
      by_cases hlt : k < c.length
      · have hin := l01In_z (c.getD k 0) 0 2
        have hfk := hfal k hlt
        clear hia htt hfal hlen htru
        by_cases hp : 0 ≤ c.getD k 0 ∧ c.getD k 0 ≤ 2
        · rw [decide_eq_true hp] at hin
          have hnx : ∀ j, j < k + 1 → 0 ≤ c.getD j 0 ∧ c.getD j 0 ≤ 2 := fun j hj => by
            by_cases e : j = k
            · rw [e]; exact hp
            · exact hno j (by omega)
          clear hp hno hfk
          repeat' first | refine rnY ?_ | (first | refine ZCalls.to (hin) ?_ | refine ZCalls.tf (hin) ?_) | with_reducible refine And.intro (fun hc => ?_) (fun hc => ?_) | fail
          exact ⟨⟨k + 1, agY, by omega, hnx, by first | rfl | simp⟩, by exact ivY⟩
        · rw [decide_eq_false hp] at hin
          rw [hfk hp] at hQ
          clear hp hno hfk
          repeat' first | refine rnY ?_ | (first | refine ZCalls.to (hin) ?_ | refine ZCalls.tf (hin) ?_) | with_reducible refine And.intro (fun hc => ?_) (fun hc => ?_) | fail
          exact hQ.out _ _ ((OwnB.tup (l := [_, I 5]) (l' := [agV [] 0, I 5]) (.cflats (ag_mk (OwnB.nilr 1)) (fun x hx => by simp at hx; subst hx; rfl)) : OwnB H.size H.size _ _ _).fin) (by exact exY)
      · obtain rfl : k = c.length := by omega
        clear hfal
        by_cases h1 : c.length = T.length
        · have h1b : ((c.length : Int) == (T.length : Int)) = true := by rw [beq_iff_eq]; omega
          rw [htru h1 hno] at hQ
          have hia := hia h1
          have htt := htt h1
          clear htru hlen hno h1
          generalize tvL c (3 * c.length) = L at *
          cases hb : angB T L 1
          · rw [hb] at hQ hia
            simp only [Bool.false_eq_true, if_false] at hQ
            repeat' first | refine rnY ?_ | with_reducible refine And.intro (fun hc => ?_) (fun hc => ?_) | fail
            refine AWp.zreg [(0, none), (1, none), (2, none), (3, none), (4, none), (5, none), (6, none), (7, none), (8, none), (9, none), (10, none), (11, none), (12, none)] mixed (by kernel_rfl) ?_
            repeat' first | refine rzY ?_ | (first | refine ZCalls.to (htt) ?_ | refine ZCalls.tf (htt) ?_) | (first | refine ZCalls.to (hia) ?_ | refine ZCalls.tf (hia) ?_) | fail
            repeat' first | refine rnY ?_ | with_reducible refine And.intro (fun hc => ?_) (fun hc => ?_) | fail
            exact hQ.out _ _ ((OwnB.tup (l := [_, I 5]) (l' := [agV [] 0, I 5]) (.cflats (ag_mk (OwnB.nilr 1)) (fun x hx => by simp at hx; subst hx; rfl)) : OwnB H.size H.size _ _ _).fin) (by exact exY)
          · rw [hb] at hQ hia
            simp only [if_true] at hQ
            repeat' first | refine rnY ?_ | with_reducible refine And.intro (fun hc => ?_) (fun hc => ?_) | fail
            refine AWp.zreg [(0, none), (1, none), (2, none), (3, none), (4, none), (5, none), (6, none), (7, none), (8, none), (9, none), (10, none), (11, none), (12, none)] mixed (by kernel_rfl) ?_
            repeat' first | refine rzY ?_ | (first | refine ZCalls.to (htt) ?_ | refine ZCalls.tf (htt) ?_) | (first | refine ZCalls.to (hia) ?_ | refine ZCalls.tf (hia) ?_) | fail
            repeat' first | refine rnY ?_ | (first | refine ZCalls.to (htt) ?_ | refine ZCalls.tf (htt) ?_) | with_reducible refine And.intro (fun hc => ?_) (fun hc => ?_) | fail
            exact hQ.out _ _ (.cl (Cl.atV _ _ _)) (by exact exY)
        · have h1b : ((c.length : Int) == (T.length : Int)) = false := by rw [beq_eq_false_iff_ne]; omega
          rw [hlen h1] at hQ
          clear htru hlen hno h1 hia htt
          repeat' first | refine rnY ?_ | with_reducible refine And.intro (fun hc => ?_) (fun hc => ?_) | fail
          refine AWp.zreg [(0, none), (1, none), (2, none), (3, none), (4, none), (5, none), (6, none), (7, none), (8, none), (9, none), (10, none), (11, none), (12, none)] mixed (by kernel_rfl) ?_
          repeat' first | refine rzY ?_ | fail
          repeat' first | refine rnY ?_ | with_reducible refine And.intro (fun hc => ?_) (fun hc => ?_) | fail
          exact hQ.out _ _ ((OwnB.tup (l := [_, I 5]) (l' := [agV [] 0, I 5]) (.cflats (ag_mk (OwnB.nilr 1)) (fun x hx => by simp at hx; subst hx; rfl)) : OwnB H.size H.size _ _ _).fin) (by exact exY)
  · rw [if_neg h]
    have hcb : (codeN T == 0) = false := by rw [beq_eq_false_iff_ne]; exact h
    generalize codeN T = k at *
    refine ZCalls.body Try.func43 rfl Try.ntmps43 (rs := [.cell 4 47, .tmp 5]) rfl (by simp) rfl fun H Q hQ A hA => ?_
    have a0 := hA 0 _ _ rfl
    have a1 := hA 1 _ _ rfl
    clear hA
    repeat' first | refine rnY ?_ | (first | refine ZCalls.to (hc) ?_ | refine ZCalls.tf (hc) ?_) | with_reducible refine And.intro (fun hc => ?_) (fun hc => ?_) | fail
    exact hQ.out _ _ ((OwnB.tup (l := [_, I k]) (l' := [agV [] 0, I k]) (.cflats (ag_mk (OwnB.nilr 1)) (fun x hx => by simp at hx; subst hx; rfl)) : OwnB H.size H.size _ _ _).fin) (by exact exY)
end Go.Proofs.Ytmoknllbpjpkmaa.Zed
