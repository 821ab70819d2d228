/- A part of the walk: what functions of the program do, over an abstract heap. -/
import Derived.Test.YtmoknllbpjpkmaaZedG
import Derived.Test.YtmoknllbpjpkmaaTPx
import Derived.Test.YtmoknllbpjpkmaaProg
namespace Go.Proofs.Ytmoknllbpjpkmaa.Zed
open Go TP
set_option linter.unusedVariables false
set_option linter.unusedSimpArgs false
set_option maxRecDepth 20000
theorem mixed : Try.prog.follows .mixedOrders = true := by kernel_rfl
namespace tfW1
theorem tf : (tk Try.prog 2 = some none) ∧ (fo Try.prog 107 0 = some (0, none)) := by
  refine ⟨?_, ?_⟩ <;> kernel_rfl
end tfW1
open tfW1

theorem inRange_z (x lo hi : Int) : ZCalls Try.prog 86 [I x, I lo, I hi] (B (decide (lo ≤ x ∧ x ≤ hi))) := by
  refine ZCalls.body Try.func86 rfl Try.ntmps86 (rs := [.tmp 6]) rfl (by simp) rfl fun H Q hQ A hA => ?_
  have a0 := hA 0 _ _ rfl
  have a1 := hA 1 _ _ rfl
  have a2 := hA 2 _ _ rfl
  clear hA
  by_cases h1 : lo ≤ x
  · by_cases h2 : x ≤ hi
    · repeat' first | refine rnY ?_ | with_reducible refine And.intro (fun hc => ?_) (fun hc => ?_) | fail
      exact hQ.out _ _ (.eq (Cl.bool _) (by simp [h1, h2])) (by exact exY)
    · repeat' first | refine rnY ?_ | with_reducible refine And.intro (fun hc => ?_) (fun hc => ?_) | fail
      exact hQ.out _ _ (.eq (Cl.bool _) (by simp [h1, h2])) (by exact exY)
  · repeat' first | refine rnY ?_ | with_reducible refine And.intro (fun hc => ?_) (fun hc => ?_) | fail
    exact hQ.out _ _ (.eq (Cl.bool _) (by simp [h1])) (by exact exY)
theorem isPerm_z (p : Int) : ZCalls Try.prog 187 [I p] (B (decide (0 ≤ p ∧ p ≤ 23))) := by
  refine ZCalls.body Try.func187 rfl Try.ntmps187 (rs := [.tmp 2]) rfl (by simp) rfl fun H Q hQ A hA => ?_
  have a0 := hA 0 _ _ rfl
  clear hA
  repeat' first | refine rnY ?_ | (first | refine ZCalls.to (inRange_z _ _ _) ?_ | refine ZCalls.tf (inRange_z _ _ _) ?_) | with_reducible refine And.intro (fun hc => ?_) (fun hc => ?_) | fail
  exact hQ.out _ _ (fv) (by exact exY)
theorem isBoundary_z (x y : Int) : ZCalls Try.prog 146 [.agg #[I x, I y]] (B (decide (x < 0))) := by
  refine ZCalls.body Try.func146 rfl Try.ntmps146 (rs := [.tmp 2]) rfl (by simp) rfl fun H Q hQ A hA => ?_
  have a0 := hA 0 _ _ rfl
  clear hA
  repeat' first | refine rnY ?_ | with_reducible refine And.intro (fun hc => ?_) (fun hc => ?_) | fail
  exact hQ.out _ _ (fv) (by exact exY)
end Go.Proofs.Ytmoknllbpjpkmaa.Zed
