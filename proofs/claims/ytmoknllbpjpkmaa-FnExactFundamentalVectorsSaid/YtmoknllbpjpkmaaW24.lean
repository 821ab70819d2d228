/- A part of the walk: what functions of the program do, over an abstract heap. -/
import Derived.Test.YtmoknllbpjpkmaaW23
namespace Go.Proofs.Ytmoknllbpjpkmaa.Zed
open Go TP
set_option linter.unusedVariables false
set_option linter.unusedSimpArgs false
set_option maxRecDepth 20000
namespace tfW24
theorem tf : (Try.prog.underlying 22 = some (.slice 101)) ∧ (el Try.prog 22 = some (none, 1)) ∧ (Try.prog.underlying 101 = some (.slice 139)) ∧ (el Try.prog 101 = some (none, 2)) ∧ (tk Try.prog 22 = some none) ∧ (tk Try.prog 101 = some none) ∧ (tk Try.prog 139 = some (some 2)) ∧ (cz Try.prog 101 = some 1) ∧ (bz Try.prog 101 = some 24) ∧ (cz Try.prog 139 = some 2) ∧ (bz Try.prog 139 = some 16) ∧ (zr Try.prog 101 = some (.slice none 0 0)) ∧ (zr Try.prog 139 = some (.agg #[.int .i64 0, .int .i64 0])) ∧ (fo Try.prog 24 0 = some (0, none)) := by
  refine ⟨?_, ?_, ?_, ?_, ?_, ?_, ?_, ?_, ?_, ?_, ?_, ?_, ?_, ?_⟩ <;> kernel_rfl
end tfW24
open tfW24

/-- The room left, once it is used up: -1 for good. -/
def szS (T : List (List (Int × Int))) (r : Int) : Nat → Int
  | 0 => r
  | j + 1 => if szS T r j < 0 then -1 else sz1 (szS T r j) (T.getD j []).length
theorem szS_neg (T : List (List (Int × Int))) (r : Int) (j : Nat) (h : szS T r j < 0) : ∀ k, j < k → szS T r k = -1 := by
  intro k
  induction k with
  | zero => intro h; omega
  | succ k ih =>
    intro hk
    unfold szS
    by_cases e : j = k
    · subst e; rw [if_pos h]
    · rw [if_pos (by rw [ih (by omega)]; omega)]
theorem szS_le (T : List (List (Int × Int))) (r : Int) (h0 : 0 ≤ r) : ∀ k, szS T r k ≤ r ∧ -1 ≤ szS T r k
  | 0 => ⟨Int.le_refl _, by show -1 ≤ r; omega⟩
  | k + 1 => by
    have := szS_le T r h0 k
    unfold szS
    split
    · omega
    · unfold sz1; split <;> omega
theorem szS_short (T : List (List (Int × Int))) (r : Int) (h0 : 0 ≤ r) (hr : r ≤ 1048576) : ∀ k, 0 ≤ szS T r k → ∀ j, j < k → (T.getD j []).length ≤ 1048576
  | 0, _, j, h => by omega
  | k + 1, h, j, hj => by
    have hle := szS_le T r h0 k
    unfold szS at h
    split at h
    · omega
    · rename_i hn
      rcases Nat.lt_succ_iff_lt_or_eq.1 hj with h1 | rfl
      · exact szS_short T r h0 hr k (by omega) j h1
      · unfold sz1 at h
        split at h <;> omega
set_option maxHeartbeats 1000000 in
theorem szFaceSS_z {T : List (List (Int × Int))} (hS : Short T 9223372036854775807) : ∃ s : Int, (0 ≤ s → Short T 1048576) ∧ -1 ≤ s ∧ s ≤ 1048576 ∧ ZCalls Try.prog 49 [zL zP T, I 1048576] (I s) := by
  obtain ⟨hS1, hS2⟩ := hS
  by_cases h0 : (1048576 : Int) - T.length < 0
  · refine ⟨-1, fun h => by omega, by omega, by omega, ?_⟩
    refine ZCalls.body Try.func49 rfl Try.ntmps49 (rs := [.tmp 4]) rfl (by simp) rfl fun H Q hQ A hA => ?_
    have a0 := hA 0 _ _ rfl
    have a1 := hA 1 _ _ rfl
    clear hA
    repeat' first | refine rnY ?_ | with_reducible refine And.intro (fun hc => ?_) (fun hc => ?_) | fail
    exact hQ.out _ _ (fv) (by exact exY)
  · have hr0 : (0 : Int) ≤ 1048576 - T.length := by omega
    obtain ⟨r, hr⟩ : ∃ r : Int, 1048576 - (T.length : Int) = r := ⟨_, rfl⟩
    have hle := szS_le T r (by omega)
    refine ⟨szS T r T.length, fun h => ⟨by omega, fun j hj => szS_short T r (by omega) (by omega) _ h j hj⟩, (hle _).2, by have := (hle T.length).1; omega, ?_⟩
    refine ZCalls.body Try.func49 rfl Try.ntmps49 (rs := [.tmp 4]) rfl (by simp) rfl fun H Q hQ A hA => ?_
    have a0 := hA 0 _ _ rfl
    have a1 := hA 1 _ _ rfl
    clear hA
    rw [hr] at h0 hr0
    repeat' first | refine rnY ?_ | with_reducible refine And.intro (fun hc => ?_) (fun hc => ?_) | fail
    refine AWp.cut (fun Ac hAc => ?_)
    have c0 := gtY (t := 0) hAc
    have c1 := gtY (t := 1) hAc
    have c5 := gtY (t := 5) hAc
    clear a0 a1
    refine AWp.loop (fun A' H' => ∃ (j : Nat), Ag [12, 13, 14, 15, 16, 17, 18, 19, 20, 21, 22, 23, 24, 25] A' (put (put Ac (some 1) (I (szS T r j))) (some 5) (I j)) ∧ j ≤ T.length ∧ 0 ≤ szS T r j ∧ H' = H) (fun A' _ => T.length - (intV (A' 5)).toNat) ?_ ?_
    · have e0 : szS T r 0 = r := rfl
      exact ⟨0, agY, by omega, by rw [e0]; omega, rfl⟩
    · rintro A1 H1 ⟨j, hA, hj, hj0, rfl⟩
      have d0 := gdY (t := 0) hA
      have d1 := gdY (t := 1) hA
      have d5 := gdY (t := 5) hA
      by_cases hlt : j < T.length
      · have hst : szS T r (j + 1) = sz1 (szS T r j) (T.getD j []).length := by
          show (if szS T r j < 0 then -1 else _) = _
          rw [if_neg (by omega)]
        have hlj := hle j
        have hl1 := hle (j + 1)
        have hz := szFaceS_z (T.getD j []).length 2 (p2 (T.getD j [])) (szS T r j) hj0 (by omega) (hS2 j hlt)
        rw [← hst] at hz
        by_cases hn : szS T r (j + 1) < 0
        · have he : szS T r T.length = -1 := by
            by_cases hj1 : j + 1 = T.length
            · rw [← hj1]; omega
            · exact szS_neg T r (j + 1) hn _ (by omega)
          rw [he] at hQ
          clear hst he hle
          generalize szS T r (j + 1) = s' at *
          repeat' first | refine rnY ?_ | (first | refine ZCalls.to (hz) ?_ | refine ZCalls.tf (hz) ?_) | with_reducible refine And.intro (fun hc => ?_) (fun hc => ?_) | fail
          exact hQ.out _ _ (fv) (by exact exY)
        · clear hst
          repeat' first | refine rnY ?_ | (first | refine ZCalls.to (hz) ?_ | refine ZCalls.tf (hz) ?_) | with_reducible refine And.intro (fun hc => ?_) (fun hc => ?_) | fail
          exact ⟨⟨j + 1, agY, by omega, by omega, rfl⟩, by exact ivY⟩
      · obtain rfl : j = T.length := by omega
        repeat' first | refine rnY ?_ | with_reducible refine And.intro (fun hc => ?_) (fun hc => ?_) | fail
        exact hQ.out _ _ (fv) (by exact exY)
theorem szTriangulation_z {T : List (List (Int × Int))} (hS : Short T 9223372036854775807) : ∃ s : Int, (0 ≤ s → Short T 1048576) ∧ -1 ≤ s ∧ s ≤ 1048576 ∧ ZCalls Try.prog 13 [zT T, I 1048576] (I s) := by
  obtain ⟨s, h1, h2, h3, h4⟩ := szFaceSS_z hS
  refine ⟨s, h1, h2, h3, ?_⟩
  by_cases hs : s < 0
  · obtain rfl : s = -1 := by omega
    refine ZCalls.body Try.func13 rfl Try.ntmps13 (rs := [.tmp 4]) rfl (by simp) rfl fun H Q hQ A hA => ?_
    have a0 := hA 0 _ _ rfl
    have a1 := hA 1 _ _ rfl
    clear hA
    repeat' first | refine rnY ?_ | (first | refine ZCalls.to (h4) ?_ | refine ZCalls.tf (h4) ?_) | with_reducible refine And.intro (fun hc => ?_) (fun hc => ?_) | fail
    exact hQ.out _ _ (fv) (by exact exY)
  · refine ZCalls.body Try.func13 rfl Try.ntmps13 (rs := [.tmp 4]) rfl (by simp) rfl fun H Q hQ A hA => ?_
    have a0 := hA 0 _ _ rfl
    have a1 := hA 1 _ _ rfl
    clear hA
    repeat' first | refine rnY ?_ | (first | refine ZCalls.to (h4) ?_ | refine ZCalls.tf (h4) ?_) | with_reducible refine And.intro (fun hc => ?_) (fun hc => ?_) | fail
    exact hQ.out _ _ (fv) (by exact exY)
end Go.Proofs.Ytmoknllbpjpkmaa.Zed
