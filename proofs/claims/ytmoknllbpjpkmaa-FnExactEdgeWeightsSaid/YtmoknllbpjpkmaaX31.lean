/- A part of the walk: what functions of the program do, over an abstract heap. -/
import Derived.Test.YtmoknllbpjpkmaaX30
namespace Go.Proofs.Ytmoknllbpjpkmaa.Zed
open Go TP
set_option linter.unusedVariables false
set_option linter.unusedSimpArgs false
set_option maxRecDepth 20000
namespace tfX31
theorem tf : (Try.prog.underlying 25 = some (.slice 2)) ∧ (el Try.prog 25 = some (none, 1)) ∧ (tk Try.prog 2 = some none) ∧ (cz Try.prog 2 = some 1) ∧ (bz Try.prog 2 = some 8) ∧ (zr Try.prog 2 = some (.int .i64 0)) := by
  refine ⟨?_, ?_, ?_, ?_, ?_, ?_⟩ <;> kernel_rfl
end tfX31
open tfX31

/-- The quadrilaterals of tetrahedron a below q, without type b. -/
def wQ (v : List Int) (a : Nat) (b : Int) : Nat → Int
  | 0 => 0
  | q + 1 => if (q : Int) = b then wQ v a b q else wQ v a b q + v.getD (7 * a + 4 + q) 0
/-- The weight of an edge. -/
def wN (v : List Int) (a e : Nat) : Int := v.getD (7 * a + (endA e).toNat) 0 + v.getD (7 * a + (endB e).toNat) 0 + wQ v a (btN (endA e) (endB e)) 3
theorem wQ_bd {v : List Int} (hb : ∀ j, 0 ≤ v.getD j 0 ∧ v.getD j 0 ≤ 1000) (a : Nat) (b : Int) : ∀ q : Nat, 0 ≤ wQ v a b q ∧ wQ v a b q ≤ 1000 * q
  | 0 => by simp [wQ]
  | q + 1 => by
    have ih := wQ_bd hb a b q
    have := hb (7 * a + 4 + q)
    unfold wQ
    split
    · push_cast; omega
    · push_cast; omega
set_option maxHeartbeats 2000000 in
theorem l17Weight_z {v : List Int} (hb : ∀ j, 0 ≤ v.getD j 0 ∧ v.getD j 0 ≤ 1000) {a e : Nat} (ha : 7 * a + 7 ≤ v.length) (hv : v.length ≤ 1000) (he : e < 6) : ZCalls Try.prog 116 [zI v, I a, I e] (I (wN v a e)) := by
  have hends := l08Ends_z e he
  obtain ⟨x, y, ex, ey, hx4, hy4, hxy⟩ := ends_bd e he
  unfold wN
  rw [ex, ey] at hends ⊢
  have hbt := l17Between_z x y (by omega) (by omega) (by omega) (by omega)
  have hq := wQ_bd hb a (btN x y)
  have hst : ∀ q : Nat, wQ v a (btN x y) (q + 1) = if (q : Int) = btN x y then wQ v a (btN x y) q else wQ v a (btN x y) q + v.getD (7 * a + 4 + q) 0 := fun q => rfl
  have h00 : wQ v a (btN x y) 0 = 0 := rfl
  generalize btN x y = b at *
  have k1 := hb (7 * a + x)
  have k2 := hb (7 * a + y)
  have t1 : (7 * (a : Int) + (x : Int)).toNat = 7 * a + x := by omega
  have t2 : (7 * (a : Int) + (y : Int)).toNat = 7 * a + y := by omega
  simp only [Int.toNat_natCast]
  generalize hX : v.getD (7 * a + x) 0 = X at *
  generalize hY : v.getD (7 * a + y) 0 = Y at *
  refine ZCalls.body Try.func116 rfl Try.ntmps116 (rs := [.tmp 6]) rfl (by simp) rfl fun H Q hQ A hA => ?_
  have a0 := hA 0 _ _ rfl
  have a1 := hA 1 _ _ rfl
  have a2 := hA 2 _ _ rfl
  clear hA
  repeat' first | refine rnY ?_ | (first | refine ZCalls.to (hends) ?_ | refine ZCalls.tf (hends) ?_) | with_reducible refine And.intro (fun hc => ?_) (fun hc => ?_) | fail
  refine AWp.zreg [(0, none), (1, none), (2, none), (3, none), (4, none), (5, none), (6, none), (7, none), (8, none), (9, none), (10, none), (11, none), (12, none), (13, none), (14, none), (15, none)] mixed (by kernel_rfl) ?_
  repeat' first | refine rzY ?_ | fail
  repeat' first | refine rnY ?_ | with_reducible refine And.intro (fun hc => ?_) (fun hc => ?_) | fail
  refine AWp.cut (fun Ac hAc => ?_)
  have c0 := gtY (t := 0) hAc
  have c1 := gtY (t := 1) hAc
  have c7 := gtY (t := 7) hAc
  have c8 := gtY (t := 8) hAc
  have c9 := gtY (t := 9) hAc
  have c10 := gtY (t := 10) hAc
  clear a0 a1 a2 hends
  refine AWp.loop (fun A' H' => ∃ (q : Nat), Ag [31, 32, 33, 34, 35, 36, 37, 38, 39, 40, 41, 42, 43, 44, 45, 46, 47, 48, 49] A' (put (put Ac (some 9) (I (X + Y + wQ v a b q))) (some 10) (I q)) ∧ q ≤ 3 ∧ Ext H H') (fun A' _ => 3 - (intV (A' 10)).toNat) ?_ ?_
  · exact ⟨0, by rw [h00, Int.add_zero]; exact agY, by omega, by exact exY⟩
  · rintro A1 H1 ⟨q, hA, hq3, hx⟩
    have d0 := gdY (t := 0) hA
    have d1 := gdY (t := 1) hA
    have d7 := gdY (t := 7) hA
    have d8 := gdY (t := 8) hA
    have d9 := gdY (t := 9) hA
    have d10 := gdY (t := 10) hA
    by_cases hlt : q < 3
    · have hqq := hq q
      have hstq := hst q
      have k3 := hb (7 * a + 4 + q)
      have t3 : (7 * (a : Int) + 4 + (q : Int)).toNat = 7 * a + 4 + q := by omega
      clear hq hst hb
      generalize wQ v a b q = s at *
      by_cases hc : (q : Int) = b
      · rw [if_pos hc] at hstq
        have hcb : ((q : Int) == b) = true := by rw [beq_iff_eq]; exact hc
        clear hc
        repeat' first | refine rnY ?_ | (first | refine ZCalls.to (hbt) ?_ | refine ZCalls.tf (hbt) ?_) | with_reducible refine And.intro (fun hc => ?_) (fun hc => ?_) | fail
        exact ⟨⟨q + 1, by rw [hstq]; exact agY, by omega, by exact exY⟩, by exact ivY⟩
      · rw [if_neg hc] at hstq
        have hcb : ((q : Int) == b) = false := by rw [beq_eq_false_iff_ne]; exact hc
        clear hc
        generalize hZ : v.getD (7 * a + 4 + q) 0 = Z at *
        repeat' first | refine rnY ?_ | (first | refine ZCalls.to (hbt) ?_ | refine ZCalls.tf (hbt) ?_) | with_reducible refine And.intro (fun hc => ?_) (fun hc => ?_) | fail
        exact ⟨⟨q + 1, by rw [hstq, ← Int.add_assoc]; exact agY, by omega, by exact exY⟩, by exact ivY⟩
    · obtain rfl : q = 3 := by omega
      repeat' first | refine rnY ?_ | with_reducible refine And.intro (fun hc => ?_) (fun hc => ?_) | fail
      exact hQ.out _ _ (fv) (by exact exY)
end Go.Proofs.Ytmoknllbpjpkmaa.Zed
