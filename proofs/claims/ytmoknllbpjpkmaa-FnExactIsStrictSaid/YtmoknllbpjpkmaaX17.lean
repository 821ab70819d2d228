/- A part of the walk: what functions of the program do, over an abstract heap. -/
import Derived.Test.YtmoknllbpjpkmaaX16
namespace Go.Proofs.Ytmoknllbpjpkmaa.Zed
open Go TP
set_option linter.unusedVariables false
set_option linter.unusedSimpArgs false
set_option maxRecDepth 20000
namespace tfX17
theorem tf : (Try.prog.underlying 4 = some .bool) ∧ (Try.prog.underlying 25 = some (.slice 2)) ∧ (el Try.prog 25 = some (none, 1)) ∧ (tk Try.prog 2 = some none) ∧ (tk Try.prog 24 = some (some 1)) ∧ (tk Try.prog 25 = some none) ∧ (tk Try.prog 31 = some (some 1)) ∧ (tk Try.prog 44 = some (some 2)) ∧ (tk Try.prog 47 = some (some 2)) ∧ (cz Try.prog 2 = some 1) ∧ (bz Try.prog 2 = some 8) ∧ (zr Try.prog 2 = some (.int .i64 0)) ∧ (zr Try.prog 31 = some (.agg #[.slice none 0 0])) ∧ (zr Try.prog 47 = some (.agg #[.slice none 0 0, .int .i64 0])) ∧ (fo Try.prog 47 0 = some (0, none)) := by
  refine ⟨?_, ?_, ?_, ?_, ?_, ?_, ?_, ?_, ?_, ?_, ?_, ?_, ?_, ?_, ?_⟩ <;> kernel_rfl
end tfX17
open tfX17

/-- The answer of IsStrict. -/
def strB (T : List (List (Int × Int))) (v : List Int) (d : Int) : Bool := angB T v d && !decide ((0 : Int) ∈ v)
theorem implIsStrict_z {T : List (List (Int × Int))} (hl : T.length ≤ 1048576) (v : List Int) (d : Int) (hv : v.length ≤ 1048576) : ZCalls Try.prog 33 [zT T, agV v d] (B (strB T v d)) := by
  have ha := implIsAngles_z hl v d hv
  have hc := contains_z hv 0
  unfold strB
  generalize decide ((0 : Int) ∈ v) = c at *
  cases hb : angB T v d
  · rw [hb] at ha
    simp only [Bool.false_and]
    refine ZCalls.body Try.func33 rfl Try.ntmps33 (rs := [.tmp 4]) rfl (by simp) rfl fun H Q hQ A hA => ?_
    have a0 := hA 0 _ _ rfl
    have a1 := hA 1 _ _ rfl
    clear hA
    repeat' first | refine rnY ?_ | (first | refine ZCalls.to (ha) ?_ | refine ZCalls.tf (ha) ?_) | with_reducible refine And.intro (fun hc => ?_) (fun hc => ?_) | fail
    exact hQ.out _ _ (fv) (by exact exY)
  · rw [hb] at ha
    simp only [Bool.true_and]
    refine ZCalls.body Try.func33 rfl Try.ntmps33 (rs := [.tmp 4]) rfl (by simp) rfl fun H Q hQ A hA => ?_
    have a0 := hA 0 _ _ rfl
    have a1 := hA 1 _ _ rfl
    clear hA
    repeat' first | refine rnY ?_ | (first | refine ZCalls.to (ha) ?_ | refine ZCalls.tf (ha) ?_) | (first | refine ZCalls.to (hc) ?_ | refine ZCalls.tf (hc) ?_) | with_reducible refine And.intro (fun hc => ?_) (fun hc => ?_) | fail
    exact hQ.out _ _ (fv) (by exact exY)
set_option maxHeartbeats 2000000 in
theorem specIsStrict_z {T : List (List (Int × Int))} (hl : T.length ≤ 1048576) (v : List Int) (d : Int) (hv : v.length ≤ 1048576) : ZCalls Try.prog 32 [zT T, agV v d] (B (strB T v d)) := by
  have ha := specIsAngles_z hl v d hv
  have htru : (∀ j, j < v.length → (v.getD j 0 == 0) = false) → strB T v d = angB T v d := fun h => by
    unfold strB
    rw [decide_eq_false (show ¬ (0 : Int) ∈ v from fun hm => by
      obtain ⟨i, hi, e⟩ := List.getElem_of_mem hm
      have := h i hi
      simp [hi, e] at this)]
    simp
  have hfal : ∀ j, j < v.length → (v.getD j 0 == 0) = true → strB T v d = false := fun j hj h => by
    unfold strB
    rw [decide_eq_true (show (0 : Int) ∈ v by
      rw [beq_iff_eq] at h
      rw [← h]; simp [hj])]
    simp
  generalize strB T v d = out at *
  generalize angB T v d = b at *
  refine ZCalls.body Try.func32 rfl Try.ntmps32 (rs := [.tmp 4]) rfl (by simp) rfl fun H Q hQ A hA => ?_
  have a0 := hA 0 _ _ rfl
  have a1 := hA 1 _ _ rfl
  clear hA
  repeat' first | refine rnY ?_ | with_reducible refine And.intro (fun hc => ?_) (fun hc => ?_) | fail
  refine AWp.cut (fun Ac hAc => ?_)
  have c2 := gtY (t := 2) hAc
  have c3 := gtY (t := 3) hAc
  have c5 := gtY (t := 5) hAc
  clear a0 a1
  refine AWp.loop (fun A' H' => ∃ (k : Nat), Ag [6, 7, 8, 9, 10, 11, 12, 13, 14, 15, 16, 17, 18] A' (put Ac (some 5) (I k)) ∧ k ≤ v.length ∧ (∀ j, j < k → (v.getD j 0 == 0) = false) ∧ Ext H H') (fun A' _ => v.length - (intV (A' 5)).toNat) ?_ ?_
  · exact ⟨0, agY, by omega, fun j hj => by omega, by exact exY⟩
  · rintro A1 H1 ⟨k, hA1, hk, hno, hx⟩
    have d2 := gdY (t := 2) hA1
    have d3 := gdY (t := 3) hA1
    have d5 := gdY (t := 5) hA1
    by_cases hlt : k < v.length
    · cases hp : (v.getD k 0 == 0)
      · clear ha htru hfal
        repeat' first | refine rnY ?_ | with_reducible refine And.intro (fun hc => ?_) (fun hc => ?_) | fail
        exact ⟨⟨k + 1, agY, by omega, all_succ hno hp, by exact exY⟩, by exact ivY⟩
      · rw [hfal k hlt hp] at hQ
        clear ha htru hfal
        repeat' first | refine rnY ?_ | with_reducible refine And.intro (fun hc => ?_) (fun hc => ?_) | fail
        exact hQ.out _ _ (fv) (by exact exY)
    · obtain rfl : k = v.length := by omega
      rw [htru hno] at hQ
      clear htru hfal
      repeat' first | refine rnY ?_ | (first | refine ZCalls.to (ha) ?_ | refine ZCalls.tf (ha) ?_) | with_reducible refine And.intro (fun hc => ?_) (fun hc => ?_) | fail
      exact hQ.out _ _ (fv) (by exact exY)
set_option maxHeartbeats 2000000 in
theorem lawIsStrict_z {T : List (List (Int × Int))} (hS : Short T 9223372036854775807) (v : List Int) (d : Int) (hv : v.length ≤ 9223372036854775807) : ZCalls Try.prog 7 [zT T, agV v d] (B true) := by
  obtain ⟨s, h1, h2, h3, h4⟩ := szTriangulation_z hS
  by_cases hs : s < 0
  · refine ZCalls.body Try.func7 rfl Try.ntmps7 (rs := [.tmp 4]) rfl (by simp) rfl fun H Q hQ A hA => ?_
    have a0 := hA 0 _ _ rfl
    have a1 := hA 1 _ _ rfl
    clear hA
    repeat' first | refine rnY ?_ | (first | refine ZCalls.to (h4) ?_ | refine ZCalls.tf (h4) ?_) | with_reducible refine And.intro (fun hc => ?_) (fun hc => ?_) | fail
    exact hQ.out _ _ (fv) (by exact exY)
  · have hS' := h1 (by omega)
    have hsz := szAngles_z v d s (by omega) h3 hv
    by_cases hs2 : sz1 s v.length < 0
    · have e : sz1 s v.length = -1 := by unfold sz1 at *; split at hs2 <;> omega
      rw [e] at hsz
      refine ZCalls.body Try.func7 rfl Try.ntmps7 (rs := [.tmp 4]) rfl (by simp) rfl fun H Q hQ A hA => ?_
      have a0 := hA 0 _ _ rfl
      have a1 := hA 1 _ _ rfl
      clear hA
      repeat' first | refine rnY ?_ | (first | refine ZCalls.to (h4) ?_ | refine ZCalls.tf (h4) ?_) | (first | refine ZCalls.to (hsz) ?_ | refine ZCalls.tf (hsz) ?_) | with_reducible refine And.intro (fun hc => ?_) (fun hc => ?_) | fail
      exact hQ.out _ _ (fv) (by exact exY)
    · have hv' : v.length ≤ 1048576 := by unfold sz1 at hs2; split at hs2 <;> omega
      have hsp := specIsStrict_z (T := T) hS'.1 v d hv'
      have him := implIsStrict_z (T := T) hS'.1 v d hv'
      have hta := toAngles_z (l := v) (d := d) hv'
      have hea := eqAngles_z v d hv'
      have hto := toTriangulation_z hS'
      have heT := eqTriangulation_z hS'
      generalize strB T v d = b at *
      generalize sz1 s v.length = s2 at *
      have hbb : (b == b) = true := beq_self_eq_true b
      clear h1 hv
      refine ZCalls.body Try.func7 rfl Try.ntmps7 (rs := [.tmp 4]) rfl (by simp) rfl fun H Q hQ A hA => ?_
      have a0 := hA 0 _ _ rfl
      have a1 := hA 1 _ _ rfl
      clear hA
      repeat' first | refine rnY ?_ | (first | refine ZCalls.to (h4) ?_ | refine ZCalls.tf (h4) ?_) | (first | refine ZCalls.to (hsz) ?_ | refine ZCalls.tf (hsz) ?_) | with_reducible refine And.intro (fun hc => ?_) (fun hc => ?_) | fail
      refine AWp.zreg [(0, none), (1, none), (2, none), (3, none), (4, none), (5, none)] mixed (by kernel_rfl) ?_
      repeat' first | refine rzY ?_ | (first | refine ZCalls.to (hto) ?_ | refine ZCalls.tf (hto) ?_) | (first | refine ZCalls.to (hta) ?_ | refine ZCalls.tf (hta) ?_) | (first | refine ZCalls.to (hsp) ?_ | refine ZCalls.tf (hsp) ?_) | fail
      repeat' first | refine rnY ?_ | (first | refine ZCalls.to (hto) ?_ | refine ZCalls.tf (hto) ?_) | (first | refine ZCalls.to (hta) ?_ | refine ZCalls.tf (hta) ?_) | (first | refine ZCalls.to (him) ?_ | refine ZCalls.tf (him) ?_) | with_reducible refine And.intro (fun hc => ?_) (fun hc => ?_) | fail
      refine AWp.zreg [(0, none), (1, none), (2, none), (3, none), (4, none)] mixed (by kernel_rfl) ?_
      repeat' first | refine rzY ?_ | (first | refine ZCalls.to (hto) ?_ | refine ZCalls.tf (hto) ?_) | (first | refine ZCalls.to (heT) ?_ | refine ZCalls.tf (heT) ?_) | fail
      repeat' first | refine rnY ?_ | with_reducible refine And.intro (fun hc => ?_) (fun hc => ?_) | fail
      refine AWp.zreg [(0, none), (1, none), (2, none), (3, none), (4, none)] mixed (by kernel_rfl) ?_
      repeat' first | refine rzY ?_ | (first | refine ZCalls.to (hta) ?_ | refine ZCalls.tf (hta) ?_) | (first | refine ZCalls.to (hea) ?_ | refine ZCalls.tf (hea) ?_) | fail
      repeat' first | refine rnY ?_ | with_reducible refine And.intro (fun hc => ?_) (fun hc => ?_) | fail
      exact hQ.out _ _ (fv) (by exact exY)
end Go.Proofs.Ytmoknllbpjpkmaa.Zed
