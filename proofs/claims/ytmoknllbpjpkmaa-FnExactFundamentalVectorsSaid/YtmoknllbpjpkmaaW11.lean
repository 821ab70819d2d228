/- A part of the walk: what functions of the program do, over an abstract heap. -/
import Derived.Test.YtmoknllbpjpkmaaW10
namespace Go.Proofs.Ytmoknllbpjpkmaa.Zed
open Go TP
set_option linter.unusedVariables false
set_option linter.unusedSimpArgs false
set_option maxRecDepth 20000
namespace tfW11
theorem tf : True := trivial
end tfW11
open tfW11

theorem classN_bd {l : List Int} (hb : ∀ x ∈ l, 0 ≤ x ∧ x ≤ 100000) : 0 ≤ classN l ∧ classN l ≤ 100001 := by
  unfold classN
  split
  · omega
  · have := TP.maxTo_bd l 100000 hb (by omega) l.length (Nat.le_refl _); omega
theorem codeN_ok {T : List (List (Int × Int))} (h : codeN T = 0) : IsTri T := by
  unfold codeN at h
  split at h
  · assumption
  · simp at h
def defI (T : List (List (Int × Int))) : Int := if codeN T = 0 then (amR T : Int) - 2 * T.length else 0
end Go.Proofs.Ytmoknllbpjpkmaa.Zed
