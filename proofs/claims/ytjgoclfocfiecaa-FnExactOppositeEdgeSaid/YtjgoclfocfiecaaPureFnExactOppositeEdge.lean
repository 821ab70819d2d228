/- The program's OppositeEdge returns what the reference's returns, for all arguments. Conditions: none. -/
import Derived.Test.YtjgoclfocfiecaaPFnExactOppositeEdgex1
namespace Go.Proofs.Ytjgoclfocfiecaa.Pure
open Go.RowKit Go.Proofs.Ytjgoclfocfiecaa.PFnExactOppositeEdge Go.Proofs.YtjgoclfocfiecaaW.PrintWords Go.Proofs.YtjgoclfocfiecaaW.PrintLast

theorem FnExactOppositeEdge : laws_FnExactOppositeEdge.Pure := by
  intro a _
  unfold laws_FnExactOppositeEdge.f spec_OppositeEdge.f impl_OppositeEdge.f spec_l01In.f impl_inRange.f impl_opposite.f
  by_cases h0 : 0 ≤ a
  · have h0' : a ≥ 0 := h0
    by_cases h5 : a ≤ 5
    · simp [h0, h5]
    · simp [h0, h5]
  · have h0' : ¬ a ≥ 0 := h0
    simp [h0]

end Go.Proofs.Ytjgoclfocfiecaa.Pure
