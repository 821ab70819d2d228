/- A part of the walk: what functions of the program do, over an abstract heap. -/
import Derived.Test.YtibkopejnhihkaaW10
namespace Go.Proofs.Ytibkopejnhihkaa.Zed
open Go TP
set_option linter.unusedVariables false
set_option linter.unusedSimpArgs false
set_option maxRecDepth 20000
namespace tfW11
theorem tf : (Try.prog.underlying 27 = some (.slice 89)) ∧ (el Try.prog 27 = some (none, 1)) ∧ (tk Try.prog 2 = some none) ∧ (tk Try.prog 27 = some none) ∧ (tk Try.prog 29 = some (some 1)) ∧ (tk Try.prog 60 = some (some 3)) ∧ (tk Try.prog 89 = some none) ∧ (cz Try.prog 89 = some 1) ∧ (bz Try.prog 89 = some 24) ∧ (zr Try.prog 60 = some (.agg #[.int .i64 0, .int .i64 0, .slice none 0 0])) ∧ (zr Try.prog 89 = some (.slice none 0 0)) ∧ (fo Try.prog 29 0 = some (0, none)) ∧ (fo Try.prog 60 0 = some (0, none)) := by
  refine ⟨?_, ?_, ?_, ?_, ?_, ?_, ?_, ?_, ?_, ?_, ?_, ?_, ?_⟩ <;> kernel_rfl
end tfW11
open tfW11

theorem classN_bd {l : List Int} (hb : ∀ x ∈ l, 0 ≤ x ∧ x ≤ 100000) : 0 ≤ classN l ∧ classN l ≤ 100001 := by
  unfold classN
  split
  · omega
  · have := TP.maxTo_bd l 100000 hb (by omega) l.length (Nat.le_refl _); omega
theorem codeN_ok {T : List (List (Int × Int))} (h : codeN T = 0) : IsTri T := by
  unfold codeN at h
  split at h
  · assumption
  · simp at h
def defI (T : List (List (Int × Int))) : Int := if codeN T = 0 then (amR T : Int) - 2 * T.length else 0
set_option maxHeartbeats 1000000 in
theorem implAngleDefect_z {T : List (List (Int × Int))} (hl : T.length ≤ 1048576) : ZCalls Try.prog 38 [zT T] (.tuple #[I (defI T), I (codeN T)]) := by
  have hc := normalCode_z hl
  unfold defI
  by_cases h : codeN T = 0
  · rw [if_pos h, h]
    rw [h] at hc
    have hF := (codeN_ok h).fine
    have h8 := hF.1
    have hN := classN_bd (edgeL_bd T h8)
    have hR : amR T ≤ 200000 := by
      have := rwN_le (bdB T) (nE T)
      have h2 : nE T = (classN (edgeL T)).toNat := rfl
      unfold amR; omega
    refine ZCalls.body Try.func38 rfl Try.ntmps38 (rs := [.tmp 2, .tmp 3]) rfl (by simp) rfl fun H Q hQ A hA => ?_
    have a0 := hA 0 _ _ rfl
    clear hA
    repeat' first | refine rnY ?_ | (first | refine ZCalls.to (hc) ?_ | refine ZCalls.tf (hc) ?_) | (first | refine ZCalls.to (angleMatrix_z hF) ?_ | refine ZCalls.tf (angleMatrix_z hF) ?_) | with_reducible refine And.intro (fun hc => ?_) (fun hc => ?_) | fail
    refine AWp.zreg [(0, none), (1, none), (2, none), (3, none), (4, none), (5, none), (6, none), (7, none), (8, none)] mixed (by kernel_rfl) ?_
    repeat' first | refine rzY ?_ | (first | refine ZCalls.to (size_z _ _ _) ?_ | refine ZCalls.tf (size_z _ _ _) ?_) | fail
    repeat' first | refine rnY ?_ | with_reducible refine And.intro (fun hc => ?_) (fun hc => ?_) | fail
    exact hQ.out _ _ (.cl (Cl.tuple (l := [_, _]) (Cl.cons (Cl.int _ _) (Cl.cons (Cl.int _ _) Cl.nil)))) (by exact exY)
  · rw [if_neg h]
    have hcb : (codeN T == 0) = false := by rw [beq_eq_false_iff_ne]; exact h
    generalize codeN T = c at *
    refine ZCalls.body Try.func38 rfl Try.ntmps38 (rs := [.tmp 2, .tmp 3]) rfl (by simp) rfl fun H Q hQ A hA => ?_
    have a0 := hA 0 _ _ rfl
    clear hA
    repeat' first | refine rnY ?_ | (first | refine ZCalls.to (hc) ?_ | refine ZCalls.tf (hc) ?_) | with_reducible refine And.intro (fun hc => ?_) (fun hc => ?_) | fail
    exact hQ.out _ _ (.cl (Cl.tuple (l := [_, _]) (Cl.cons (Cl.int _ _) (Cl.cons (Cl.int _ _) Cl.nil)))) (by exact exY)
end Go.Proofs.Ytibkopejnhihkaa.Zed
