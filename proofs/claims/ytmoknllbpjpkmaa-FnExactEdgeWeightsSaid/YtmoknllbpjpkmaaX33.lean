/- A part of the walk: what functions of the program do, over an abstract heap. -/
import Derived.Test.YtmoknllbpjpkmaaX32
namespace Go.Proofs.Ytmoknllbpjpkmaa.Zed
open Go TP
set_option linter.unusedVariables false
set_option linter.unusedSimpArgs false
set_option maxRecDepth 20000
namespace tfX33
theorem tf : (Try.prog.underlying 25 = some (.slice 2)) ∧ (el Try.prog 25 = some (none, 1)) ∧ (tk Try.prog 2 = some none) ∧ (tk Try.prog 31 = some (some 1)) ∧ (cz Try.prog 2 = some 1) ∧ (bz Try.prog 2 = some 8) ∧ (zr Try.prog 2 = some (.int .i64 0)) := by
  refine ⟨?_, ?_, ?_, ?_, ?_, ?_, ?_⟩ <;> kernel_rfl
end tfX33
open tfX33

theorem others_sum {v : List Int} {a : Nat} {b : Int} (h0 : 0 ≤ b) (h2 : b ≤ 2) : wQ v a b 3 = v.getD (7 * a + 4 + ((b + 1) % 3).toNat) 0 + v.getD (7 * a + 4 + ((b + 2) % 3).toNat) 0 := by
  have : b = 0 ∨ b = 1 ∨ b = 2 := by omega
  rcases this with rfl | rfl | rfl <;> simp [wQ] <;> omega
set_option maxHeartbeats 4000000 in
theorem edgeWeights_o {T : List (List (Int × Int))} (hT : IsTri T) {v : List Int} (hb : ∀ j, 0 ≤ v.getD j 0 ∧ v.getD j 0 ≤ 1000) (hv : v.length = 7 * T.length) : OCalls Try.prog 68 [zT T, zI v] (zI (wL v (edgeL T) (nE T) (6 * T.length))) := by
  have hle := edgeL_len T
  have h8 := hT.1
  have hec := edgeClasses_z hT.fine
  have hE := edgeL_bd T h8
  have m2 : classN (edgeL T) = nE T := by have := classN_bd (edgeL_bd T h8); unfold nE; omega
  have hN := nE_le hT.fine
  have hcc := classCount_z (l := edgeL T) (by omega) hE
  rw [m2] at hcc
  have hEN : ∀ i, i < 6 * T.length → 0 ≤ (edgeL T).getD i 0 ∧ (edgeL T).getD i 0 < nE T := fun i hi => by
    have h1 := lt_classN (edgeL T) i (by omega)
    have h2 := edgeL_bd T hT.1 ((edgeL T).getD i 0) (by simp [show i < (edgeL T).length by omega])
    omega
  generalize nE T = N at *
  generalize edgeL T = E at *
  refine OCalls.body Try.func68 rfl Try.ntmps68 (rs := [.tmp 4]) rfl (by simp) rfl fun H Q hQ A hA => ?_
  have a0 := hA 0 _ _ rfl
  have a1 := hA 1 _ _ rfl
  clear hA
  have zf0 := @rep_ints
  have zf1 := @zero1
  repeat' first | refine rnY ?_ | (first | refine ZCalls.to (hec) ?_ | refine ZCalls.tf (hec) ?_) | (first | refine ZCalls.to (hcc) ?_ | refine ZCalls.tf (hcc) ?_) | with_reducible refine And.intro (fun hc => ?_) (fun hc => ?_) | fail
  refine AWp.cut (fun Ac hAc => ?_)
  have c1 := gtY (t := 1) hAc
  have c6 := gtY (t := 6) hAc
  have c18 := gtY (t := 18) hAc
  have c19 := gtY (t := 19) hAc
  have c20 := gtY (t := 20) hAc
  clear a0 a1 hec hcc
  refine AWp.loop (fun A' H' => ∃ (i : Nat), Ag [7, 8, 9, 10, 11, 12, 21, 22, 23, 24, 25, 26, 27, 28, 29, 30, 31, 32, 33, 34, 35, 36, 37, 38, 39, 40, 41, 42, 43, 44, 45, 46, 47, 48, 49, 50, 51, 52, 53, 54, 55, 56, 57, 58, 59, 60, 61, 62, 63, 64, 65, 66, 67, 68, 69, 70, 71] A' (put Ac (some 20) (I i)) ∧ i ≤ 6 * T.length ∧ H' = H.push (.cells (ints (wL v E N i)) 1 false)) (fun A' _ => 6 * T.length - (intV (A' 20)).toNat) ?_ ?_
  · exact ⟨0, agY, by omega, rfl⟩
  · rintro A1 H1 ⟨i, hA, hi, rfl⟩
    have d1 := gdY (t := 1) hA
    have d6 := gdY (t := 6) hA
    have d18 := gdY (t := 18) hA
    have d19 := gdY (t := 19) hA
    have d20 := gdY (t := 20) hA
    by_cases hlt : i < 6 * T.length
    · have hen := ends_z (i % 6) (by omega)
      have hr6 : Int.tmod (i : Int) 6 = ((i % 6 : Nat) : Int) := by rw [Int.tmod_eq_emod_of_nonneg (by omega)]; omega
      have hd6 : Int.tdiv (i : Int) 6 = ((i / 6 : Nat) : Int) := by rw [Int.tdiv_eq_ediv_of_nonneg (by omega)]; omega
      have hwl := wL_len v E N i
      obtain ⟨x, y, ex, ey, hx4, hy4, hxy⟩ := ends_bd (i % 6) (by omega)
      have hst : wL v E N (i + 1) = (wL v E N i).set (E.getD i 0).toNat (wN v (i / 6) (i % 6)) := rfl
      unfold wN at hst
      rw [ex, ey] at hen hst
      have hz := quad_z x y (by omega) (by omega) (by omega) (by omega) (by omega)
      obtain ⟨_, _, _, b1, b2, _⟩ := quad_is x y (by omega) (by omega) (by omega) (by omega) (by omega)
      rw [others_sum b1 b2] at hst
      generalize btN x y = b at *
      have hA1 : (7 * ((i : Int) / 6)).toNat = 7 * (i / 6) := by omega
      have hA2 : (7 * ((i : Int) / 6) + 7).toNat = 7 * (i / 6) + 7 := by omega
      have hA3 : 7 * (i / 6) + 7 - 7 * (i / 6) = 7 := by omega
      obtain ⟨r, hr0⟩ : ∃ r, (v.drop (7 * (i / 6))).take 7 = r := ⟨_, rfl⟩
      have hr1 : r.length = 7 := by rw [← hr0]; simp; omega
      have hrg : ∀ q, q < 7 → r.getD q 0 = v.getD (7 * (i / 6) + q) 0 := fun q hq => by rw [← hr0]; simp [List.getD_eq_getElem?_getD, List.getElem?_take, List.getElem?_drop, hq]
      obtain ⟨m1, hm1, hm1b, hm1c⟩ : ∃ m1 : Nat, (b + 1) % 3 = m1 ∧ m1 < 3 ∧ ((b + 1) % 3).toNat = m1 := ⟨((b + 1) % 3).toNat, by omega, by omega, rfl⟩
      obtain ⟨m2, hm2, hm2b, hm2c⟩ : ∃ m2 : Nat, (b + 2) % 3 = m2 ∧ m2 < 3 ∧ ((b + 2) % 3).toNat = m2 := ⟨((b + 2) % 3).toNat, by omega, by omega, rfl⟩
      rw [hm1c, hm2c] at hst
      simp only [Int.toNat_natCast] at hst
      have hX := hrg x (by omega)
      have hY := hrg y (by omega)
      have hZ := hrg (4 + m1) (by omega)
      have hW := hrg (4 + m2) (by omega)
      have bX := hb (7 * (i / 6) + x)
      have bY := hb (7 * (i / 6) + y)
      have bZ := hb (7 * (i / 6) + (4 + m1))
      have bW := hb (7 * (i / 6) + (4 + m2))
      rw [show 7 * (i / 6) + 4 + m1 = 7 * (i / 6) + (4 + m1) by omega, show 7 * (i / 6) + 4 + m2 = 7 * (i / 6) + (4 + m2) by omega, ← Int.add_assoc] at hst
      generalize v.getD (7 * (i / 6) + x) 0 = X at hX bX hst
      generalize v.getD (7 * (i / 6) + y) 0 = Y at hY bY hst
      generalize v.getD (7 * (i / 6) + (4 + m1)) 0 = Z at hZ bZ hst
      generalize v.getD (7 * (i / 6) + (4 + m2)) 0 = W at hW bW hst
      have hT1 : (4 + (m1 : Int)).toNat = 4 + m1 := by omega
      have hT2 : (4 + (m2 : Int)).toNat = 4 + m2 := by omega
      have hEi := hEN i hlt
      clear hrg hb hm1c hm2c hEN
      repeat' first | refine rnY ?_ | (first | refine ZCalls.to (hen) ?_ | refine ZCalls.tf (hen) ?_) | (first | refine ZCalls.to (hz) ?_ | refine ZCalls.tf (hz) ?_) | with_reducible refine And.intro (fun hc => ?_) (fun hc => ?_) | fail
      refine AWp.zreg [(0, none), (1, none), (2, none), (3, none), (4, none), (5, none), (6, none), (7, none), (8, none), (9, none), (10, none), (11, none), (12, none), (13, none), (14, none), (15, none), (16, none), (17, none), (18, none), (19, none), (20, none), (21, none), (22, none), (23, none), (24, none), (25, none), (26, none), (27, none), (28, some [5, 9, 17, 25])] mixed (by kernel_rfl) ?_
      repeat' first | refine rzY ?_ | fail
      repeat' first | refine rnY ?_ | with_reducible refine And.intro (fun hc => ?_) (fun hc => ?_) | fail
      exact ⟨⟨i + 1, agY, by omega, by rw [hst]⟩, by exact ivY⟩
    · obtain rfl : i = 6 * T.length := by omega
      have hwl := wL_len v E N (6 * T.length)
      repeat' first | refine rnY ?_ | with_reducible refine And.intro (fun hc => ?_) (fun hc => ?_) | fail
      exact hQ.out _ _ ((by unfold Zed.zI; rw [hwl]; exact OwnB.ints (lo := H.size) (hi := H.size + 1) (by omega) (by omega) hwl (get_push_eq (by simp only [nx])) : OwnB H.size (H.size + 1) _ [_] [zI (wL v E N (6 * T.length))]).out) (by exact exY)
end Go.Proofs.Ytmoknllbpjpkmaa.Zed
