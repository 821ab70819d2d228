/- A part of the walk: what functions of the program do, over an abstract heap. -/
import Derived.Test.YtmoknllbpjpkmaaX25
import Derived.Test.YtmoknllbpjpkmaaX13
namespace Go.Proofs.Ytmoknllbpjpkmaa.Zed
open Go TP
set_option linter.unusedVariables false
set_option linter.unusedSimpArgs false
set_option maxRecDepth 20000
namespace tfX26
theorem tf : (Try.prog.underlying 25 = some (.slice 2)) ∧ (el Try.prog 25 = some (none, 1)) ∧ (Try.prog.underlying 29 = some (.slice 102)) ∧ (el Try.prog 29 = some (none, 1)) ∧ (tk Try.prog 2 = some none) ∧ (tk Try.prog 29 = some none) ∧ (tk Try.prog 31 = some (some 1)) ∧ (tk Try.prog 102 = some none) ∧ (cz Try.prog 2 = some 1) ∧ (bz Try.prog 2 = some 8) ∧ (cz Try.prog 102 = some 1) ∧ (bz Try.prog 102 = some 24) ∧ (zr Try.prog 2 = some (.int .i64 0)) ∧ (zr Try.prog 102 = some (.slice none 0 0)) ∧ (fo Try.prog 31 0 = some (0, none)) := by
  refine ⟨?_, ?_, ?_, ?_, ?_, ?_, ?_, ?_, ?_, ?_, ?_, ?_, ?_, ?_, ?_⟩ <;> kernel_rfl
end tfX26
open tfX26

theorem bump_bd' {L : List Int} {B : Int} (hB : 0 ≤ B) (h : ∀ j, -B ≤ L.getD j 0 ∧ L.getD j 0 ≤ B) (i d : Int) (hd : -1 ≤ d ∧ d ≤ 1) : ∀ j, -(B + 1) ≤ (bump L i d).getD j 0 ∧ (bump L i d).getD j 0 ≤ B + 1 := by
  by_cases hi : i.toNat < L.length
  · exact bump_bd hB h i d hi hd
  · intro j
    unfold bump
    rw [List.set_eq_of_length_le (by omega)]
    have := h j; omega
theorem mRow_bd (n a f : Nat) (t p c : Int) : ∀ j, -4 ≤ (mRow n a f t p c).getD j 0 ∧ (mRow n a f t p c).getD j 0 ≤ 4 := by
  unfold mRow
  have h0 : ∀ j, -0 ≤ (List.replicate (7 * n) (0 : Int)).getD j 0 ∧ (List.replicate (7 * n) (0 : Int)).getD j 0 ≤ 0 := fun j => by rw [getD_zero]; omega
  exact bump_bd' (by omega) (bump_bd' (by omega) (bump_bd' (by omega) (bump_bd' (by omega) h0 _ _ (by omega)) _ _ (by omega)) _ _ (by omega)) _ _ (by omega)
theorem mF_bd {n a f : Nat} {t p : Int} : ∀ r ∈ mF n a f t p, ∀ j, -4 ≤ r.getD j 0 ∧ r.getD j 0 ≤ 4 := by
  unfold mF
  split
  · intro r hr; cases hr
  · intro r hr
    obtain ⟨y, _, rfl⟩ := List.mem_map.1 hr
    exact mRow_bd n a f t p y
theorem mFs_bd (n a : Nat) (row : List (Int × Int)) : ∀ f, ∀ r ∈ mFs n a row f, ∀ j, -4 ≤ r.getD j 0 ∧ r.getD j 0 ≤ 4
  | 0 => fun r hr => by cases hr
  | f + 1 => fun r hr => by
    unfold mFs at hr
    rcases List.mem_append.1 hr with hr | hr
    · exact mFs_bd n a row f r hr
    · split at hr
      · cases hr
      · exact mF_bd r hr
theorem mTs_bd (n : Nat) (T : List (List (Int × Int))) : ∀ a, ∀ r ∈ mTs n T a, ∀ j, -4 ≤ r.getD j 0 ∧ r.getD j 0 ≤ 4
  | 0 => fun r hr => by cases hr
  | a + 1 => fun r hr => by
    unfold mTs at hr
    rcases List.mem_append.1 hr with hr | hr
    · exact mTs_bd n T a r hr
    · exact mFs_bd n a _ 4 r hr
theorem isNormFn_z (x : Int) : ZCalls Try.prog 118 [I x] (B (!decide (0 ≤ x ∧ x ≤ 1000))) := by
  have hr := inRange_z x 0 1000
  refine ZCalls.body Try.func118 rfl Try.ntmps118 (rs := [.tmp 2]) rfl (by simp) rfl fun H Q hQ A hA => ?_
  have a0 := hA 0 _ _ rfl
  clear hA
  repeat' first | refine rnY ?_ | (first | refine ZCalls.to (hr) ?_ | refine ZCalls.tf (hr) ?_) | with_reducible refine And.intro (fun hc => ?_) (fun hc => ?_) | fail
  exact hQ.out _ _ (fv) (by exact exY)
/-- A normal vector. -/
def NrI (T : List (List (Int × Int))) (v : List Int) : Prop := v.length = 7 * T.length ∧ (∀ j, j < v.length → 0 ≤ v.getD j 0 ∧ v.getD j 0 ≤ 1000) ∧ ∀ i, i < (mmR T).length → dotL ((mmR T).getD i []) v (7 * T.length) = 0
instance (T : List (List (Int × Int))) (v : List Int) : Decidable (NrI T v) := by unfold NrI; infer_instance
set_option maxHeartbeats 4000000 in
theorem isNormal_z {T : List (List (Int × Int))} (hF : Fine T) (v : List Int) (hv : v.length ≤ 1048576) : ZCalls Try.prog 67 [zT T, zI v] (B (decide (NrI T v))) := by
  have h8 := hF.1
  by_cases h2 : v.length = 7 * T.length
  · have h2b : ((v.length : Int) == 7 * (T.length : Int)) = true := by rw [beq_iff_eq]; omega
    have hcn := containsN_z (F := 118) (xs := #[]) hv (fun x _ => isNormFn_z x)
    by_cases h3 : (∀ j, j < v.length → 0 ≤ v.getD j 0 ∧ v.getD j 0 ≤ 1000)
    · have hany : (v.any fun x => !decide (0 ≤ x ∧ x ≤ 1000)) = false := by
        rw [List.any_eq_false]
        intro x hx
        obtain ⟨i, hi, rfl⟩ := List.getElem_of_mem hx
        have := h3 i hi
        simp [hi] at this
        simp [this]
      rw [hany] at hcn
      have hmm := matchingMatrix_z hF
      have hrows : ∀ r, r < (mmR T).length → rowN (mmR T).flatten (7 * T.length) r = (mmR T).getD r [] := fun r hr => flat_row (mmR_rows T) r hr
      have hml := mmR_len T
      have hsol := solves_z (R := (mmR T).length) (C := 7 * T.length) (L := (mmR T).flatten) (w := v) (A := 4) (B' := 1000) (flat_len (mmR_rows T)) (by omega) (by omega) (by omega) (by omega) (by omega) (by omega)
        (fun r hr j => by
          rw [hrows r hr]
          have hin : (mmR T).getD r [] ∈ mmR T := by simp [hr]
          exact mTs_bd T.length T T.length _ hin j)
        (fun j => by
          by_cases hj : j < v.length
          · have := h3 j hj; omega
          · rw [List.getD_eq_getElem?_getD, List.getElem?_eq_none (by omega)]; simp)
      have hdec : decide (∀ r, r < (mmR T).length → dotL (rowN (mmR T).flatten (7 * T.length) r) v (7 * T.length) = 0) = decide (NrI T v) := by
        congr 1
        refine propext ⟨fun h => ⟨h2, h3, fun i hi => by have := h i hi; rw [hrows i hi] at this; exact this⟩, fun h r hr => by rw [hrows r hr]; exact h.2.2 r hr⟩
      rw [hdec] at hsol
      generalize decide (NrI T v) = out at *
      have e7 : (((7 * T.length : Nat)) : Int) = 7 * (T.length : Int) := by omega
      rw [e7] at hsol
      generalize (mmR T).flatten = L at *
      generalize (mmR T).length = R at *
      clear hdec hrows hany h3 h2 e7
      refine ZCalls.body Try.func67 rfl Try.ntmps67 (rs := [.tmp 4]) rfl (by simp) rfl fun H Q hQ A hA => ?_
      have a0 := hA 0 _ _ rfl
      have a1 := hA 1 _ _ rfl
      clear hA
      repeat' first | refine rnY ?_ | (first | refine ZCalls.to (hcn) ?_ | refine ZCalls.tf (hcn) ?_) | (first | refine ZCalls.to (hmm) ?_ | refine ZCalls.tf (hmm) ?_) | (first | refine ZCalls.to (hsol) ?_ | refine ZCalls.tf (hsol) ?_) | with_reducible refine And.intro (fun hc => ?_) (fun hc => ?_) | fail
      exact hQ.out _ _ (fv) (by exact exY)
    · have hany : (v.any fun x => !decide (0 ≤ x ∧ x ≤ 1000)) = true := by
        cases hb : v.any fun x => !decide (0 ≤ x ∧ x ≤ 1000) with
        | true => rfl
        | false =>
          refine absurd (fun j hj => ?_) h3
          rw [List.any_eq_false] at hb
          have := hb (v.getD j 0) (by simp [hj])
          simpa using this
      rw [hany] at hcn
      rw [decide_eq_false (show ¬ NrI T v from fun h => h3 h.2.1)]
      clear h3 h2 hany
      refine ZCalls.body Try.func67 rfl Try.ntmps67 (rs := [.tmp 4]) rfl (by simp) rfl fun H Q hQ A hA => ?_
      have a0 := hA 0 _ _ rfl
      have a1 := hA 1 _ _ rfl
      clear hA
      repeat' first | refine rnY ?_ | (first | refine ZCalls.to (hcn) ?_ | refine ZCalls.tf (hcn) ?_) | with_reducible refine And.intro (fun hc => ?_) (fun hc => ?_) | fail
      exact hQ.out _ _ (fv) (by exact exY)
  · have h2b : ((v.length : Int) == 7 * (T.length : Int)) = false := by rw [beq_eq_false_iff_ne]; omega
    rw [decide_eq_false (show ¬ NrI T v from fun h => h2 h.1)]
    clear h2
    refine ZCalls.body Try.func67 rfl Try.ntmps67 (rs := [.tmp 4]) rfl (by simp) rfl fun H Q hQ A hA => ?_
    have a0 := hA 0 _ _ rfl
    have a1 := hA 1 _ _ rfl
    clear hA
    repeat' first | refine rnY ?_ | with_reducible refine And.intro (fun hc => ?_) (fun hc => ?_) | fail
    exact hQ.out _ _ (fv) (by exact exY)
end Go.Proofs.Ytmoknllbpjpkmaa.Zed
