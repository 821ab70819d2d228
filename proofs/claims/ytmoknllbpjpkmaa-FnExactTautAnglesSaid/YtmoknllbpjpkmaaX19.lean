/- A part of the walk: what functions of the program do, over an abstract heap. -/
import Derived.Test.YtmoknllbpjpkmaaX18
namespace Go.Proofs.Ytmoknllbpjpkmaa.Zed
open Go TP
set_option linter.unusedVariables false
set_option linter.unusedSimpArgs false
set_option maxRecDepth 20000
namespace tfX19
theorem tf : (Try.prog.underlying 25 = some (.slice 2)) ∧ (el Try.prog 25 = some (none, 1)) ∧ (tk Try.prog 2 = some none) ∧ (tk Try.prog 25 = some none) ∧ (tk Try.prog 47 = some (some 2)) ∧ (cz Try.prog 2 = some 1) ∧ (bz Try.prog 2 = some 8) ∧ (zr Try.prog 2 = some (.int .i64 0)) ∧ (zr Try.prog 47 = some (.agg #[.slice none 0 0, .int .i64 0])) ∧ (fo Try.prog 47 0 = some (0, none)) ∧ (el Try.prog 47 = none) ∧ (placesOf Try.prog 47 = some #[(0, 1), (1, 1)]) := by
  refine ⟨?_, ?_, ?_, ?_, ?_, ?_, ?_, ?_, ?_, ?_, ?_, ?_⟩ <;> kernel_rfl
end tfX19
open tfX19

def TInv (H0 H : Heap) (c : List Int) (m : Nat) : Prop := Ext H0 H ∧ H0.size + 1 < H.size ∧ H.get H0.size = .cells [.slice none 0 0, I 0] 1 false ∧
  ((m = 0 ∧ H.get (H0.size + 1) = .cells [.slice none 0 0, I 1] 1 false) ∨ ∃ g, 0 < m ∧ H0.size + 1 < g ∧ g < H.size ∧ H.get (H0.size + 1) = .cells [.slice (some ⟨g, 0, none⟩) m 0, I 1] 1 false ∧ H.get g = .cells (ints (tvL c m)) 1 false)
set_option maxHeartbeats 4000000 in
theorem l22Taut_z {c : List Int} (hl : c.length ≤ 1000) : ZCalls Try.prog 93 [zI c] (agV (tvL c (3 * c.length)) 1) := by
  refine ZCalls.body Try.func93 rfl Try.ntmps93 (rs := [.cell 2 47]) rfl (by simp) rfl fun H Q hQ A hA => ?_
  have a0 := hA 0 _ _ rfl
  clear hA
  repeat' first | refine rnY ?_ | with_reducible refine And.intro (fun hc => ?_) (fun hc => ?_) | fail
  refine AWp.cut (fun Ac hAc => ?_)
  have c0 := gtY (t := 0) hAc
  have c2 := gtY (t := 2) hAc
  have c3 := gtY (t := 3) hAc
  have c4 := gtY (t := 4) hAc
  clear a0
  refine AWp.loop (fun A' H' => ∃ (i : Nat), Ag [5, 7, 8, 9, 10, 11, 12, 13, 14, 15, 16, 17, 18, 19, 20, 21, 22, 23, 24, 25, 26, 27, 28, 29, 30, 31, 32] A' (put Ac (some 4) (I i)) ∧ i ≤ c.length ∧ TInv H H' c (3 * i)) (fun A' _ => c.length - (intV (A' 4)).toNat) ?_ ?_
  · exact ⟨0, agY, by omega, by exact exY, by exact ivY, by exact ivY, .inl ⟨rfl, by exact ivY⟩⟩
  · rintro A1 H1 ⟨i, hA, hi, hI⟩
    have d0 := gdY (t := 0) hA
    have d2 := gdY (t := 2) hA
    have d3 := gdY (t := 3) hA
    have d4 := gdY (t := 4) hA
    by_cases hlt : i < c.length
    · obtain ⟨hx, hs, hg0, hg⟩ := hI
      repeat' first | refine rnY ?_ | with_reducible refine And.intro (fun hc => ?_) (fun hc => ?_) | fail
      refine AWp.cut (fun Ae hAe => ?_)
      have e0 := gtY (t := 0) hAe
      have e2 := gtY (t := 2) hAe
      have e3 := gtY (t := 3) hAe
      have e4 := gtY (t := 4) hAe
      have e5 := gtY (t := 5) hAe
      refine AWp.loop (fun A' H' => ∃ (k : Nat), Ag [13, 14, 15, 16, 17, 18, 19, 20, 21, 22, 23, 24, 25, 26, 27, 28, 29, 30, 31, 32] A' (put Ae (some 5) (I k)) ∧ k ≤ 3 ∧ TInv H H' c (3 * i + k)) (fun A' _ => 3 - (intV (A' 5)).toNat) ?_ ?_
      · exact ⟨0, agY, by omega, hx, hs, hg0, hg⟩
      · clear hx hs hg0 hg
        rintro A2 H2 ⟨k, hA2, hk, hI2⟩
        have f0 := gdY (t := 0) hA2
        have f2 := gdY (t := 2) hA2
        have f3 := gdY (t := 3) hA2
        have f4 := gdY (t := 4) hA2
        have f5 := gdY (t := 5) hA2
        by_cases hk3 : k < 3
        · obtain ⟨hx, hs, hg0, hg⟩ := hI2
          have hst := tvL_succ c (3 * i + k)
          rw [tvN_at hk3] at hst
          have hln := tvL_len c (3 * i + k)
          generalize hxx : c.getD i 0 = x at *
          cases hp : (x == (k : Int))
          · rw [beq_eq_false_iff_ne] at hp
            rw [if_neg hp] at hst
            rw [← beq_eq_false_iff_ne] at hp
            rcases hg with ⟨h0, hg⟩ | ⟨g, hi0, hg1, hg2, hg, hg3⟩
            · have e0 : tvL c (3 * i + k) = [] := List.length_eq_zero_iff.1 (by omega)
              rw [e0, List.nil_append] at hst
              have h1 : 3 * i + (k + 1) = 1 := by omega
              repeat' first | refine rnY ?_ | (refine appN (l := [0]) rfl (by omega) (by omega) ?_) | with_reducible refine And.intro (fun hc => ?_) (fun hc => ?_) | fail
              exact ⟨⟨k + 1, agY, by omega, by exact exY, by exact ivY, by exact ivY, .inr ⟨H2.size, by omega, by omega, by exact ivY, by rw [h1]; exact ivY, by rw [show tvL c (3 * i + (k + 1)) = [0] from hst]; exact ivY⟩⟩, by exact ivY⟩
            · have h1 : 3 * i + (k + 1) = 3 * i + k + 1 := by omega
              repeat' first | refine rnY ?_ | (refine appI hg3 (by omega) (l := [0]) rfl (by omega) (by omega) ?_) | with_reducible refine And.intro (fun hc => ?_) (fun hc => ?_) | fail
              exact ⟨⟨k + 1, agY, by omega, by exact exY, by exact ivY, by exact ivY, .inr ⟨H2.size, by omega, by omega, by exact ivY, by rw [h1]; exact ivY, by rw [h1, hst]; exact ivY⟩⟩, by exact ivY⟩
          · rw [beq_iff_eq] at hp
            rw [if_pos hp] at hst
            rw [← beq_iff_eq] at hp
            rcases hg with ⟨h0, hg⟩ | ⟨g, hi0, hg1, hg2, hg, hg3⟩
            · have e0 : tvL c (3 * i + k) = [] := List.length_eq_zero_iff.1 (by omega)
              rw [e0, List.nil_append] at hst
              have h1 : 3 * i + (k + 1) = 1 := by omega
              repeat' first | refine rnY ?_ | (refine appN (l := [1]) rfl (by omega) (by omega) ?_) | with_reducible refine And.intro (fun hc => ?_) (fun hc => ?_) | fail
              exact ⟨⟨k + 1, agY, by omega, by exact exY, by exact ivY, by exact ivY, .inr ⟨H2.size, by omega, by omega, by exact ivY, by rw [h1]; exact ivY, by rw [show tvL c (3 * i + (k + 1)) = [1] from hst]; exact ivY⟩⟩, by exact ivY⟩
            · have h1 : 3 * i + (k + 1) = 3 * i + k + 1 := by omega
              repeat' first | refine rnY ?_ | (refine appI hg3 (by omega) (l := [1]) rfl (by omega) (by omega) ?_) | with_reducible refine And.intro (fun hc => ?_) (fun hc => ?_) | fail
              exact ⟨⟨k + 1, agY, by omega, by exact exY, by exact ivY, by exact ivY, .inr ⟨H2.size, by omega, by omega, by exact ivY, by rw [h1]; exact ivY, by rw [h1, hst]; exact ivY⟩⟩, by exact ivY⟩
        · obtain rfl : k = 3 := by omega
          repeat' first | refine rnY ?_ | with_reducible refine And.intro (fun hc => ?_) (fun hc => ?_) | fail
          exact ⟨⟨i + 1, agY, by omega, hI2⟩, by exact ivY⟩
    · obtain rfl : i = c.length := by omega
      obtain ⟨hx, hs, hg0, hg⟩ := hI
      rcases hg with ⟨h0, hg⟩ | ⟨g, hi0, hg1, hg2, hg, hg3⟩
      · have e0 : tvL c (3 * c.length) = [] := by rw [h0]; rfl
        rw [e0] at hQ
        repeat' first | refine rnY ?_ | with_reducible refine And.intro (fun hc => ?_) (fun hc => ?_) | fail
        exact hQ.out _ _ ((ag_mk (OwnB.nilr 1) : OwnB H.size H.size _ [_] [agV [] 1]).fin) (by exact exY)
      · repeat' first | refine rnY ?_ | with_reducible refine And.intro (fun hc => ?_) (fun hc => ?_) | fail
        exact hQ.out _ _ ((ag_mk (by unfold Zed.zI; rw [tvL_len]; exact OwnB.ints (by omega) hg2 (tvL_len ..) (by rw [get_set_ne (by omega)]; exact hg3)) : OwnB H.size H1.size _ [_] [agV (tvL c (3 * c.length)) 1]).fin) (by exact exY)
end Go.Proofs.Ytmoknllbpjpkmaa.Zed
