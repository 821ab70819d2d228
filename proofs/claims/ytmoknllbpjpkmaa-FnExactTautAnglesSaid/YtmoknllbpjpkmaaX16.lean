/- A part of the walk: what functions of the program do, over an abstract heap. -/
import Derived.Test.YtmoknllbpjpkmaaX15
import Derived.Test.YtmoknllbpjpkmaaX11
namespace Go.Proofs.Ytmoknllbpjpkmaa.Zed
open Go TP
set_option linter.unusedVariables false
set_option linter.unusedSimpArgs false
set_option maxRecDepth 20000
namespace tfX16
theorem tf : (Try.prog.underlying 4 = some .bool) ∧ (tk Try.prog 24 = some (some 1)) ∧ (tk Try.prog 31 = some (some 1)) ∧ (tk Try.prog 44 = some (some 2)) ∧ (tk Try.prog 47 = some (some 2)) ∧ (zr Try.prog 31 = some (.agg #[.slice none 0 0])) ∧ (zr Try.prog 47 = some (.agg #[.slice none 0 0, .int .i64 0])) := by
  refine ⟨?_, ?_, ?_, ?_, ?_, ?_, ?_⟩ <;> kernel_rfl
end tfX16
open tfX16

set_option maxHeartbeats 2000000 in
theorem lawIsAngles_z {T : List (List (Int × Int))} (hS : Short T 9223372036854775807) (v : List Int) (d : Int) (hv : v.length ≤ 9223372036854775807) : ZCalls Try.prog 6 [zT T, agV v d] (B true) := by
  obtain ⟨s, h1, h2, h3, h4⟩ := szTriangulation_z hS
  by_cases hs : s < 0
  · refine ZCalls.body Try.func6 rfl Try.ntmps6 (rs := [.tmp 4]) rfl (by simp) rfl fun H Q hQ A hA => ?_
    have a0 := hA 0 _ _ rfl
    have a1 := hA 1 _ _ rfl
    clear hA
    repeat' first | refine rnY ?_ | (first | refine ZCalls.to (h4) ?_ | refine ZCalls.tf (h4) ?_) | with_reducible refine And.intro (fun hc => ?_) (fun hc => ?_) | fail
    exact hQ.out _ _ (fv) (by exact exY)
  · have hS' := h1 (by omega)
    have hsz := szAngles_z v d s (by omega) h3 hv
    by_cases hs2 : sz1 s v.length < 0
    · have e : sz1 s v.length = -1 := by unfold sz1 at *; split at hs2 <;> omega
      rw [e] at hsz
      refine ZCalls.body Try.func6 rfl Try.ntmps6 (rs := [.tmp 4]) rfl (by simp) rfl fun H Q hQ A hA => ?_
      have a0 := hA 0 _ _ rfl
      have a1 := hA 1 _ _ rfl
      clear hA
      repeat' first | refine rnY ?_ | (first | refine ZCalls.to (h4) ?_ | refine ZCalls.tf (h4) ?_) | (first | refine ZCalls.to (hsz) ?_ | refine ZCalls.tf (hsz) ?_) | with_reducible refine And.intro (fun hc => ?_) (fun hc => ?_) | fail
      exact hQ.out _ _ (fv) (by exact exY)
    · have hv' : v.length ≤ 1048576 := by unfold sz1 at hs2; split at hs2 <;> omega
      have hsp := specIsAngles_z (T := T) hS'.1 v d hv'
      have him := implIsAngles_z (T := T) hS'.1 v d hv'
      have hta := toAngles_z (l := v) (d := d) hv'
      have hea := eqAngles_z v d hv'
      have hto := toTriangulation_z hS'
      have heT := eqTriangulation_z hS'
      generalize angB T v d = b at *
      generalize sz1 s v.length = s2 at *
      have hbb : (b == b) = true := beq_self_eq_true b
      clear h1 hv
      refine ZCalls.body Try.func6 rfl Try.ntmps6 (rs := [.tmp 4]) rfl (by simp) rfl fun H Q hQ A hA => ?_
      have a0 := hA 0 _ _ rfl
      have a1 := hA 1 _ _ rfl
      clear hA
      repeat' first | refine rnY ?_ | (first | refine ZCalls.to (h4) ?_ | refine ZCalls.tf (h4) ?_) | (first | refine ZCalls.to (hsz) ?_ | refine ZCalls.tf (hsz) ?_) | with_reducible refine And.intro (fun hc => ?_) (fun hc => ?_) | fail
      refine AWp.zreg [(0, none), (1, none), (2, none), (3, none), (4, none), (5, none)] mixed (by kernel_rfl) ?_
      repeat' first | refine rzY ?_ | (first | refine ZCalls.to (hto) ?_ | refine ZCalls.tf (hto) ?_) | (first | refine ZCalls.to (hta) ?_ | refine ZCalls.tf (hta) ?_) | (first | refine ZCalls.to (hsp) ?_ | refine ZCalls.tf (hsp) ?_) | fail
      repeat' first | refine rnY ?_ | (first | refine ZCalls.to (hto) ?_ | refine ZCalls.tf (hto) ?_) | (first | refine ZCalls.to (hta) ?_ | refine ZCalls.tf (hta) ?_) | (first | refine ZCalls.to (him) ?_ | refine ZCalls.tf (him) ?_) | with_reducible refine And.intro (fun hc => ?_) (fun hc => ?_) | fail
      refine AWp.zreg [(0, none), (1, none), (2, none), (3, none), (4, none)] mixed (by kernel_rfl) ?_
      repeat' first | refine rzY ?_ | (first | refine ZCalls.to (hto) ?_ | refine ZCalls.tf (hto) ?_) | (first | refine ZCalls.to (heT) ?_ | refine ZCalls.tf (heT) ?_) | fail
      repeat' first | refine rnY ?_ | with_reducible refine And.intro (fun hc => ?_) (fun hc => ?_) | fail
      refine AWp.zreg [(0, none), (1, none), (2, none), (3, none), (4, none)] mixed (by kernel_rfl) ?_
      repeat' first | refine rzY ?_ | (first | refine ZCalls.to (hta) ?_ | refine ZCalls.tf (hta) ?_) | (first | refine ZCalls.to (hea) ?_ | refine ZCalls.tf (hea) ?_) | fail
      repeat' first | refine rnY ?_ | with_reducible refine And.intro (fun hc => ?_) (fun hc => ?_) | fail
      exact hQ.out _ _ (fv) (by exact exY)
end Go.Proofs.Ytmoknllbpjpkmaa.Zed
