/- A part of the walk: what functions of the program do, over an abstract heap. -/
import Derived.Test.YtmoknllbpjpkmaaX31
namespace Go.Proofs.Ytmoknllbpjpkmaa.Zed
open Go TP
set_option linter.unusedVariables false
set_option linter.unusedSimpArgs false
set_option maxRecDepth 20000
namespace tfX32
theorem tf : (Try.prog.underlying 25 = some (.slice 2)) ∧ (el Try.prog 25 = some (none, 1)) ∧ (Try.prog.underlying 51 = some (.slice 25)) ∧ (el Try.prog 51 = some (none, 1)) ∧ (tk Try.prog 2 = some none) ∧ (tk Try.prog 25 = some none) ∧ (tk Try.prog 31 = some (some 1)) ∧ (tk Try.prog 51 = some none) ∧ (tk Try.prog 115 = some (some 3)) ∧ (cz Try.prog 2 = some 1) ∧ (bz Try.prog 2 = some 8) ∧ (cz Try.prog 25 = some 1) ∧ (bz Try.prog 25 = some 24) ∧ (zr Try.prog 2 = some (.int .i64 0)) ∧ (zr Try.prog 25 = some (.slice none 0 0)) ∧ (zr Try.prog 115 = some (.agg #[.slice none 0 0, .slice none 0 0, .slice none 0 0])) ∧ (fo Try.prog 115 1 = some (1, none)) := by
  refine ⟨?_, ?_, ?_, ?_, ?_, ?_, ?_, ?_, ?_, ?_, ?_, ?_, ?_, ?_, ?_, ?_, ?_⟩ <;> kernel_rfl
end tfX32
open tfX32

/-- The weights of the edge classes, after i edges. -/
def wL (v E : List Int) (N : Nat) : Nat → List Int
  | 0 => List.replicate N 0
  | i + 1 => (wL v E N i).set (E.getD i 0).toNat (wN v (i / 6) (i % 6))
theorem wL_len (v E : List Int) (N : Nat) : ∀ i, (wL v E N i).length = N
  | 0 => by simp [wL]
  | i + 1 => by unfold wL; rw [List.length_set]; exact wL_len v E N i
set_option maxHeartbeats 4000000 in
theorem l17Weights_z {T : List (List (Int × Int))} (hT : IsTri T) {v : List Int} (hb : ∀ j, 0 ≤ v.getD j 0 ∧ v.getD j 0 ≤ 1000) (hv : v.length = 7 * T.length) : ZCalls Try.prog 65 [zT T, zI v] (zI (wL v (edgeL T) (nE T) (6 * T.length))) := by
  have hc := specCount_z hT.fine
  have hle := edgeL_len T
  have hEN : ∀ i, i < 6 * T.length → 0 ≤ (edgeL T).getD i 0 ∧ (edgeL T).getD i 0 < nE T := fun i hi => by
    have h1 := lt_classN (edgeL T) i (by omega)
    have h2 := edgeL_bd T hT.1 ((edgeL T).getD i 0) (by simp [show i < (edgeL T).length by omega])
    unfold nE; omega
  have h8 := hT.1
  have hN := nE_le hT.fine
  have hat : ∀ a, a < T.length → ∃ r : List Int, (rowsZ 6 (chunkR 6 T.length (edgeL T)))[a]? = some (FZ 1 6 (ints r)) ∧ r.length = 6 ∧ ∀ f, f < 6 → r.getD f 0 = (edgeL T).getD (a * 6 + f) 0 := fun a ha => rows_at (w := 6) (by omega) ha
  have hlr := rowsZ_len 6 (chunkR 6 T.length (edgeL T))
  rw [chunkR_len] at hlr
  have hE := edgeL_bd T h8
  have m2 : classN (edgeL T) = nE T := by have := classN_bd (edgeL_bd T h8); unfold nE; omega
  unfold cntV countsL at hc
  rw [m2] at hc
  generalize rowsZ 6 (chunkR 6 T.length (edgeL T)) = ZE at *
  generalize rowsZ 4 (chunkR 4 T.length (vertL T)) = ZV at *
  generalize rowsZ 4 (chunkR 4 T.length (faceL T)) = ZF at *
  generalize nE T = N at *
  generalize edgeL T = E at *
  refine ZCalls.body Try.func65 rfl Try.ntmps65 (rs := [.tmp 4]) rfl (by simp) rfl fun H Q hQ A hA => ?_
  have a0 := hA 0 _ _ rfl
  have a1 := hA 1 _ _ rfl
  clear hA
  have zf0 := @rep_ints
  have zf1 := @zero1
  repeat' first | refine rnY ?_ | (first | refine ZCalls.to (hc) ?_ | refine ZCalls.tf (hc) ?_) | with_reducible refine And.intro (fun hc => ?_) (fun hc => ?_) | fail
  refine AWp.cut (fun Ac hAc => ?_)
  have c1 := gtY (t := 1) hAc
  have c2 := gtY (t := 2) hAc
  have c5 := gtY (t := 5) hAc
  have c7 := gtY (t := 7) hAc
  have c8 := gtY (t := 8) hAc
  clear a0 a1 hc
  refine AWp.loop (fun A' H' => ∃ (a : Nat), Ag [9, 19, 20, 21, 22, 23, 24, 25, 26, 27, 28, 29, 30, 31, 32, 33, 34, 35, 36, 37, 38, 39, 40, 41, 42] A' (put Ac (some 8) (I a)) ∧ a ≤ T.length ∧ H' = (H.push (.cells [FZ 1 T.length ZV, FZ 1 T.length ZE, FZ 1 T.length ZF] 1 false)).push (.cells (ints (wL v E N (6 * a))) 1 false)) (fun A' _ => T.length - (intV (A' 8)).toNat) ?_ ?_
  · exact ⟨0, agY, by omega, rfl⟩
  · rintro A1 H1 ⟨a, hA, ha, rfl⟩
    have d1 := gdY (t := 1) hA
    have d2 := gdY (t := 2) hA
    have d5 := gdY (t := 5) hA
    have d7 := gdY (t := 7) hA
    have d8 := gdY (t := 8) hA
    by_cases hlt : a < T.length
    · obtain ⟨r, hr1, hr2, hr3⟩ := hat a hlt
      clear hat
      repeat' first | refine rnY ?_ | (first | refine ZCalls.to (l07Tets_z _ _ _) ?_ | refine ZCalls.tf (l07Tets_z _ _ _) ?_) | with_reducible refine And.intro (fun hc => ?_) (fun hc => ?_) | fail
      refine AWp.cut (fun Ae hAe => ?_)
      have e1 := gtY (t := 1) hAe
      have e2 := gtY (t := 2) hAe
      have e5 := gtY (t := 5) hAe
      have e7 := gtY (t := 7) hAe
      have e8 := gtY (t := 8) hAe
      have e9 := gtY (t := 9) hAe
      refine AWp.loop (fun A' H' => ∃ (k : Nat), Ag [25, 26, 27, 28, 29, 30, 31, 32, 33, 34, 35, 36, 37, 38, 39, 40, 41, 42] A' (put Ae (some 9) (I k)) ∧ k ≤ 6 ∧ H' = (H.push (.cells [FZ 1 T.length ZV, FZ 1 T.length ZE, FZ 1 T.length ZF] 1 false)).push (.cells (ints (wL v E N (6 * a + k))) 1 false)) (fun A' _ => 6 - (intV (A' 9)).toNat) ?_ ?_
      · exact ⟨0, agY, by omega, rfl⟩
      · rintro A2 H2 ⟨k, hB, hk, rfl⟩
        have f1 := gdY (t := 1) hB
        have f2 := gdY (t := 2) hB
        have f5 := gdY (t := 5) hB
        have f7 := gdY (t := 7) hB
        have f8 := gdY (t := 8) hB
        have f9 := gdY (t := 9) hB
        by_cases hk6 : k < 6
        · have hw := l17Weight_z hb (a := a) (e := k) (by omega) (by omega) hk6
          have hrk := hr3 k hk6
          have hEk := hEN (6 * a + k) (by omega)
          rw [show a * 6 + k = 6 * a + k by omega] at hrk
          have hst : wL v E N (6 * a + (k + 1)) = (wL v E N (6 * a + k)).set (E.getD (6 * a + k) 0).toNat (wN v a k) := by
            show (wL v E N (6 * a + k)).set (E.getD (6 * a + k) 0).toNat (wN v ((6 * a + k) / 6) ((6 * a + k) % 6)) = _
            rw [show (6 * a + k) / 6 = a by omega, show (6 * a + k) % 6 = k by omega]
          have hwl := wL_len v E N (6 * a + k)
          generalize wL v E N (6 * a + k) = W at *
          generalize E.getD (6 * a + k) 0 = c at *
          generalize wN v a k = w at *
          clear hr3 hEN
          repeat' first | refine rnY ?_ | with_reducible refine And.intro (fun hc => ?_) (fun hc => ?_) | fail
          refine AWp.zreg [(0, none), (1, none), (2, none), (3, none), (4, none), (5, none), (6, none), (7, none), (8, none), (9, none), (10, none), (11, none), (12, none), (13, none), (14, some [2, 5, 8])] mixed (by kernel_rfl) ?_
          repeat' first | refine rzY ?_ | (first | refine ZCalls.to (hw) ?_ | refine ZCalls.tf (hw) ?_) | fail
          repeat' first | refine rnY ?_ | with_reducible refine And.intro (fun hc => ?_) (fun hc => ?_) | fail
          exact ⟨⟨k + 1, agY, by omega, by rw [hst]⟩, by exact ivY⟩
        · obtain rfl : k = 6 := by omega
          repeat' first | refine rnY ?_ | with_reducible refine And.intro (fun hc => ?_) (fun hc => ?_) | fail
          exact ⟨⟨a + 1, agY, by omega, rfl⟩, by exact ivY⟩
    · obtain rfl : a = T.length := by omega
      have hwl := wL_len v E N (6 * T.length)
      repeat' first | refine rnY ?_ | (first | refine ZCalls.to (l07Tets_z _ _ _) ?_ | refine ZCalls.tf (l07Tets_z _ _ _) ?_) | with_reducible refine And.intro (fun hc => ?_) (fun hc => ?_) | fail
      exact hQ.out _ _ ((by unfold Zed.zI; rw [hwl]; exact (OwnB.ints (lo := H.size) (hi := H.size + 1 + 1) (by omega) (by omega) hwl (get_push_eq (by simp only [nx]))) : OwnB H.size (H.size + 1 + 1) _ [_] [zI (wL v E N (6 * T.length))]).fin) (by exact exY)
end Go.Proofs.Ytmoknllbpjpkmaa.Zed
