/- The program's EdgeEnds returns what the reference's returns, for all arguments. Conditions: none. -/
import Derived.Test.YtjgoclfocfiecaaPFnExactEdgeEndsx1
import Derived.OpenShut
namespace Go.Proofs.Ytjgoclfocfiecaa.Pure
open Go.RowKit Go.Proofs.Ytjgoclfocfiecaa.PFnExactEdgeEnds Go.Proofs.YtjgoclfocfiecaaW.PrintWords Go.Proofs.YtjgoclfocfiecaaW.PrintLast

theorem ends_big (a : Int) (h : 6 ≤ a) (hw : a ≤ 9223372036854775807) : impl_ends.f 5 a = some (-1, -1) := by
  have e0 : wrap64 (3 - 0) = 3 := by unfold wrap64; omega
  have e1 : wrap64 (3 - 1) = 2 := by unfold wrap64; omega
  have e2 : wrap64 (3 - 2) = 1 := by unfold wrap64; omega
  have e3 : wrap64 (3 - 3) = 0 := by unfold wrap64; omega
  have f0 : wrap64 (0 + 1) = 1 := by unfold wrap64; omega
  have f1 : wrap64 (1 + 1) = 2 := by unfold wrap64; omega
  have f2 : wrap64 (2 + 1) = 3 := by unfold wrap64; omega
  have f3 : wrap64 (3 + 1) = 4 := by unfold wrap64; omega
  have g0 : wrap64 (a - 3) = a - 3 := by unfold wrap64; omega
  have g1 : wrap64 (a - 3 - 2) = a - 3 - 2 := by unfold wrap64; omega
  have g2 : wrap64 (a - 3 - 2 - 1) = a - 3 - 2 - 1 := by unfold wrap64; omega
  have g3 : wrap64 (a - 3 - 2 - 1 - 0) = a - 3 - 2 - 1 - 0 := by unfold wrap64; omega
  unfold impl_ends.f
  rw [impl_ends.l0, if_pos (by decide), e0, if_neg (by omega), f0, g0]
  rw [impl_ends.l0, if_pos (by decide), e1, if_neg (by omega), f1, g1]
  rw [impl_ends.l0, if_pos (by decide), e2, if_neg (by omega), f2, g2]
  rw [impl_ends.l0, if_pos (by decide), e3, if_neg (by omega), f3, g3]
  rw [impl_ends.l0, if_neg (by decide)]

theorem FnExactEdgeEnds : laws_FnExactEdgeEnds.Pure := by
  intro a hw
  refine ⟨5, ?_⟩
  have hb : a ≤ 9223372036854775807 := (bounds_i64 hw).2
  by_cases h0 : 0 ≤ a
  · by_cases h5 : a ≤ 5
    · obtain ⟨n, rfl⟩ := Int.eq_ofNat_of_zero_le h0
      have hn : n ≤ 5 := by omega
      clear hw hb h0 h5
      have : n = 0 ∨ n = 1 ∨ n = 2 ∨ n = 3 ∨ n = 4 ∨ n = 5 := by omega
      rcases this with rfl | rfl | rfl | rfl | rfl | rfl <;> decide +kernel
    · unfold laws_FnExactEdgeEnds.f spec_EdgeEnds.f impl_EdgeEnds.f spec_l07In.f
      rw [ends_big a (by omega) hb]
      simp [h0, h5, show ¬ a < 0 by omega]
  · unfold laws_FnExactEdgeEnds.f spec_EdgeEnds.f impl_EdgeEnds.f spec_l07In.f
    simp [h0, show a < 0 by omega]

end Go.Proofs.Ytjgoclfocfiecaa.Pure
