/- A part of the walk: what functions of the program do, over an abstract heap. -/
import Derived.Test.YtmoknllbpjpkmaaGreatGB
import Derived.Test.YtmoknllbpjpkmaaGreatGA
namespace Go.Proofs.YtmoknllbpjpkmaaGreat.Zed
open Go TP
set_option linter.unusedVariables false
set_option linter.unusedSimpArgs false
set_option maxRecDepth 20000
namespace tfX12
theorem tf : (Tryz.prog.underlying 25 = some (.slice 2)) ∧ (el Tryz.prog 25 = some (none, 1)) ∧ (tk Tryz.prog 2 = some none) ∧ (tk Tryz.prog 25 = some none) ∧ (cz Tryz.prog 2 = some 1) ∧ (bz Tryz.prog 2 = some 8) ∧ (zr Tryz.prog 2 = some (.int .i64 0)) ∧ (fo Tryz.prog 100 1 = some (1, none)) ∧ (fo Tryz.prog 100 2 = some (2, none)) := by
  refine ⟨?_, ?_, ?_, ?_, ?_, ?_, ?_, ?_, ?_⟩ <;> kernel_rfl
end tfX12
open tfX12

section
variable {F : FuncId} {xs : Array Value} {pr : Int → Bool} {l : List Int}
set_option maxHeartbeats 1000000 in
theorem indexN_z (hl : l.length ≤ 1048576) (hF : ∀ x, x ∈ l → ZCalls Tryz.prog F (I x :: xs.toList) (B (pr x))) :
    ZCalls Tryz.prog 114 [zI l, .func (.func F) #[] xs] (I (fidx pr l)) := by
  refine ZCalls.body Tryz.func114 rfl Tryz.ntmps114 (rs := [.tmp 4]) rfl (by simp) rfl fun H Q hQ A hA => ?_
  have a0 := hA 0 _ _ rfl
  have a1 := hA 1 _ _ rfl
  clear hA
  repeat' first | refine rnY ?_ | with_reducible refine And.intro (fun hc => ?_) (fun hc => ?_) | fail
  refine AWp.cut (fun Ac hAc => ?_)
  have c0 := gtY (t := 0) hAc
  have c1 := gtY (t := 1) hAc
  have c7 := gtY (t := 7) hAc
  have c8 := gtY (t := 8) hAc
  clear a0 a1
  refine AWp.loop (fun A' H' => ∃ (k : Nat), Ag [5, 9, 10, 11, 12, 13, 14, 15, 16, 17, 18] A' (put Ac (some 8) (I k)) ∧ k ≤ l.length ∧ (∀ i, i < k → pr (l.getD i 0) = false) ∧ Ext H H') (fun A' _ => l.length - (intV (A' 8)).toNat) ?_ ?_
  · exact ⟨0, agY, by omega, fun i hi => by omega, by exact exY⟩
  · rintro A1 H1 ⟨k, hA, hk, hno, hx⟩
    have d0 := gdY (t := 0) hA
    have d1 := gdY (t := 1) hA
    have d7 := gdY (t := 7) hA
    have d8 := gdY (t := 8) hA
    by_cases hlt : k < l.length
    · have hFk := hF (l.getD k 0) (by simp [hlt])
      clear hF
      cases hp : pr (l.getD k 0)
      · rw [hp] at hFk
        repeat' first | refine rnY ?_ | (first | refine ZCalls.to (hFk) ?_ | refine ZCalls.tf (hFk) ?_) | with_reducible refine And.intro (fun hc => ?_) (fun hc => ?_) | fail
        exact ⟨⟨k + 1, agY, by omega, all_succ hno hp, by exact exY⟩, by exact ivY⟩
      · rw [hp] at hFk
        repeat' first | refine rnY ?_ | (first | refine ZCalls.to (hFk) ?_ | refine ZCalls.tf (hFk) ?_) | with_reducible refine And.intro (fun hc => ?_) (fun hc => ?_) | fail
        exact hQ.out _ _ (.eq (Cl.int _ _) (by rw [fidx_at 0 hno hlt hp])) (by exact exY)
    · obtain rfl : k = l.length := by omega
      repeat' first | refine rnY ?_ | with_reducible refine And.intro (fun hc => ?_) (fun hc => ?_) | fail
      exact hQ.out _ _ (.eq (Cl.int _ _) (by rw [fidx_no 0 hno])) (by exact exY)
theorem containsN_z (hl : l.length ≤ 1048576) (hF : ∀ x, x ∈ l → ZCalls Tryz.prog F (I x :: xs.toList) (B (pr x))) :
    ZCalls Tryz.prog 78 [zI l, .func (.func F) #[] xs] (B (l.any pr)) := by
  refine ZCalls.body Tryz.func78 rfl Tryz.ntmps78 (rs := [.tmp 4]) rfl (by simp) rfl fun H Q hQ A hA => ?_
  have a0 := hA 0 _ _ rfl
  have a1 := hA 1 _ _ rfl
  clear hA
  repeat' first | refine rnY ?_ | (first | refine ZCalls.to (indexN_z hl hF) ?_ | refine ZCalls.tf (indexN_z hl hF) ?_) | with_reducible refine And.intro (fun hc => ?_) (fun hc => ?_) | fail
  exact hQ.out _ _ (.eq (Cl.bool _) (by rw [fidx_ge])) (by exact exY)
end
theorem mrow_z {R C : Nat} {L : List Int} (i : Nat) (hi : i < R) (hL : L.length = R * C) (hb : R * C ≤ 100000000) (hR : R ≤ 1000000) (hC : C ≤ 1000000) : ZCalls Tryz.prog 117 [mxV R C L, I i] (FZ 1 C (ints ((L.drop (i * C)).take C))) := by
  have h1 : i * C + C ≤ R * C := by
    have := Nat.mul_le_mul_right C (show i + 1 ≤ R by omega)
    rw [Nat.succ_mul] at this; exact this
  have e1 : (i : Int) * (C : Int) = ((i * C : Nat) : Int) := by push_cast; rfl
  have e2 : ((i : Int) + 1) * (C : Int) = ((i * C + C : Nat) : Int) := by rw [Int.add_mul, Int.one_mul]; push_cast; rfl
  generalize i * C = q at *
  have e3 : q + C - q = C := by omega
  refine ZCalls.body Tryz.func117 rfl Tryz.ntmps117 (rs := [.tmp 4]) rfl (by simp) rfl fun H Q hQ A hA => ?_
  have a0 := hA 0 _ _ rfl
  have a1 := hA 1 _ _ rfl
  clear hA
  repeat' first | refine rnY ?_ | with_reducible refine And.intro (fun hc => ?_) (fun hc => ?_) | fail
  exact hQ.out _ _ (.eq (Cl.fz (Cl.ints _)) (by simp [e3])) (by exact exY)
set_option maxHeartbeats 2000000 in
theorem l17Dot_z {a b : List Int} {A B' : Int} {n : Nat} (hal : a.length = n) (hbl : n ≤ b.length) (hn : n ≤ 1000) (hb1 : b.length ≤ 100000) (hA : 0 ≤ A ∧ A ≤ 10000) (hB : 0 ≤ B' ∧ B' ≤ 100000000) (ha : ∀ j, -A ≤ a.getD j 0 ∧ a.getD j 0 ≤ A) (hb : ∀ j, -B' ≤ b.getD j 0 ∧ b.getD j 0 ≤ B') :
    ZCalls Tryz.prog 89 [FZ 1 n (ints a), zI b] (I (dotL a b n)) := by
  have hd := dotL_bd ha hb
  have hm := fun j => mul_bd (ha j) (hb j)
  have hAB : A * B' ≤ 1000000000000 := by
    have := Int.mul_le_mul hA.2 hB.2 hB.1 (by omega)
    omega
  have hAB0 : 0 ≤ A * B' := Int.mul_nonneg hA.1 hB.1
  generalize A * B' = M at *
  have hkM : ∀ k : Nat, k ≤ n → (k : Int) * M ≤ 1000000000000000 := fun k hk => by
    have := Int.mul_le_mul (show (k : Int) ≤ 1000 by omega) hAB hAB0 (by omega)
    omega
  subst hal
  refine ZCalls.body Tryz.func89 rfl Tryz.ntmps89 (rs := [.tmp 4]) rfl (by simp) rfl fun H Q hQ A hA => ?_
  have a0 := hA 0 _ _ rfl
  have a1 := hA 1 _ _ rfl
  clear hA
  repeat' first | refine rnY ?_ | with_reducible refine And.intro (fun hc => ?_) (fun hc => ?_) | fail
  refine AWp.cut (fun Ac hAc => ?_)
  have c0 := gtY (t := 0) hAc
  have c1 := gtY (t := 1) hAc
  have c5 := gtY (t := 5) hAc
  have c6 := gtY (t := 6) hAc
  clear a0 a1
  refine AWp.loop (fun A' H' => ∃ (k : Nat), Ag [7, 8, 9, 10, 11, 12, 13, 14, 15, 16, 17, 18, 19, 20, 21, 22, 23] A' (put (put Ac (some 5) (I (dotL a b k))) (some 6) (I k)) ∧ k ≤ a.length ∧ H' = H) (fun A' _ => a.length - (intV (A' 6)).toNat) ?_ ?_
  · exact ⟨0, by rw [show dotL a b 0 = 0 from rfl]; exact agY, by omega, rfl⟩
  · rintro A1 H1 ⟨k, hA1, hk, rfl⟩
    have d0 := gdY (t := 0) hA1
    have d1 := gdY (t := 1) hA1
    have d5 := gdY (t := 5) hA1
    have d6 := gdY (t := 6) hA1
    by_cases hlt : k < a.length
    · have hst : dotL a b (k + 1) = dotL a b k + a.getD k 0 * b.getD k 0 := rfl
      have hdk := hd k
      have hmk := hm k
      have hkk := hkM k (by omega)
      generalize (k : Int) * M = kM at *
      generalize dotL a b k = s at *
      generalize hx : a.getD k 0 = x at *
      generalize hy : b.getD k 0 = y at *
      obtain ⟨p, hp⟩ : ∃ p, x * y = p := ⟨_, rfl⟩
      rw [hp] at hmk hst
      clear hd hm hkM
      repeat' first | refine rnY ?_ | with_reducible refine And.intro (fun hc => ?_) (fun hc => ?_) | fail
      refine AWp.zreg [(0, none), (1, none), (2, none), (3, none), (4, none), (5, none), (6, none), (7, none), (8, none), (9, none), (10, none), (11, none)] mixed (by kernel_rfl) ?_
      repeat' first | refine rzY ?_ | fail
      repeat' first | refine rnY ?_ | with_reducible refine And.intro (fun hc => ?_) (fun hc => ?_) | fail
      exact ⟨⟨k + 1, agY, by omega, rfl⟩, by exact ivY⟩
    · obtain rfl : k = a.length := by omega
      repeat' first | refine rnY ?_ | with_reducible refine And.intro (fun hc => ?_) (fun hc => ?_) | fail
      exact hQ.out _ _ (fv) (by exact exY)
end Go.Proofs.YtmoknllbpjpkmaaGreat.Zed
namespace Go.Proofs.YtmoknllbpjpkmaaGreat.Zed
open Go TP
set_option linter.unusedVariables false
set_option linter.unusedSimpArgs false
set_option maxRecDepth 20000
namespace tfX13
theorem tf : (Tryz.prog.underlying 25 = some (.slice 2)) ∧ (el Tryz.prog 25 = some (none, 1)) ∧ (tk Tryz.prog 2 = some none) ∧ (tk Tryz.prog 100 = some (some 3)) ∧ (cz Tryz.prog 2 = some 1) ∧ (bz Tryz.prog 2 = some 8) ∧ (zr Tryz.prog 2 = some (.int .i64 0)) ∧ (fo Tryz.prog 100 0 = some (0, none)) := by
  refine ⟨?_, ?_, ?_, ?_, ?_, ?_, ?_, ?_⟩ <;> kernel_rfl
end tfX13
open tfX13

def rowN (L : List Int) (C r : Nat) : List Int := (L.drop (r * C)).take C
theorem rowN_len {L : List Int} {R C r : Nat} (hL : L.length = R * C) (hr : r < R) : (rowN L C r).length = C := by
  unfold rowN
  have := Nat.mul_le_mul_right C (show r + 1 ≤ R by omega)
  rw [Nat.succ_mul] at this
  rw [List.length_take, List.length_drop]; omega
set_option maxHeartbeats 2000000 in
theorem solves_z {R C : Nat} {L w : List Int} {A B' : Int} (hL : L.length = R * C) (hR : R ≤ 1000) (hC : C ≤ 1000) (hw : C ≤ w.length) (hw2 : w.length ≤ 100000) (hA : 0 ≤ A ∧ A ≤ 10000) (hB : 0 ≤ B' ∧ B' ≤ 100000000)
    (hb : ∀ r, r < R → ∀ j, -A ≤ (rowN L C r).getD j 0 ∧ (rowN L C r).getD j 0 ≤ A) (hbw : ∀ j, -B' ≤ w.getD j 0 ∧ w.getD j 0 ≤ B') :
    ZCalls Tryz.prog 82 [mxV R C L, zI w] (B (decide (∀ r, r < R → dotL (rowN L C r) w C = 0))) := by
  have hrow := fun i hi => mrow_z (R := R) (C := C) (L := L) i hi hL (Nat.le_trans (Nat.mul_le_mul hR hC) (by omega)) (by omega) (by omega)
  have hlen := fun i (hi : i < R) => rowN_len hL hi
  have hdd := fun i hi => dotL_bd (hb i hi) hbw
  have hmm := fun i hi j => mul_bd (hb i hi j) (hbw j)
  change ∀ i, i < R → ZCalls _ _ _ (FZ 1 C (ints (rowN L C i))) at hrow
  have hAB : A * B' ≤ 1000000000000 := by
    have := Int.mul_le_mul hA.2 hB.2 hB.1 (by omega)
    omega
  have hAB0 : 0 ≤ A * B' := Int.mul_nonneg hA.1 hB.1
  generalize A * B' = M at *
  have hkM : ∀ k : Nat, k ≤ C → (k : Int) * M ≤ 1000000000000000 := fun k hk => by
    have := Int.mul_le_mul (show (k : Int) ≤ 1000 by omega) hAB hAB0 (by omega)
    omega
  clear hb hbw
  refine ZCalls.body Tryz.func82 rfl Tryz.ntmps82 (rs := [.tmp 4]) rfl (by simp) rfl fun H Q hQ A hA => ?_
  have a0 := hA 0 _ _ rfl
  have a1 := hA 1 _ _ rfl
  clear hA
  repeat' first | refine rnY ?_ | with_reducible refine And.intro (fun hc => ?_) (fun hc => ?_) | fail
  refine AWp.cut (fun Ac hAc => ?_)
  have c1 := gtY (t := 1) hAc
  have c2 := gtY (t := 2) hAc
  have c10 := gtY (t := 10) hAc
  have c11 := gtY (t := 11) hAc
  clear a0 a1
  refine AWp.loop (fun A' H' => ∃ (i : Nat), Ag [5, 6, 7, 8, 12, 13, 14, 15, 16, 17, 18, 19, 20, 21, 22, 23, 24, 25, 26, 27, 28, 29, 30, 31, 32, 33, 34] A' (put Ac (some 11) (I i)) ∧ i ≤ R ∧ (∀ r, r < i → dotL (rowN L C r) w C = 0) ∧ Ext H H') (fun A' _ => R - (intV (A' 11)).toNat) ?_ ?_
  · exact ⟨0, agY, by omega, fun r hr => by omega, by exact exY⟩
  · rintro A1 H1 ⟨i, hA1, hi, hz, hx⟩
    have d1 := gdY (t := 1) hA1
    have d2 := gdY (t := 2) hA1
    have d10 := gdY (t := 10) hA1
    have d11 := gdY (t := 11) hA1
    by_cases hlt : i < R
    · have hri := hrow i hlt
      simp only [Zed.mxV, Zed.zI, hL] at hri
      have hln := hlen i hlt
      have hd := hdd i hlt
      have hm := hmm i hlt
      have hdec : dotL (rowN L C i) w C ≠ 0 → decide (∀ r, r < R → dotL (rowN L C r) w C = 0) = false := fun h => decide_eq_false fun q => h (q i hlt)
      have hnx : dotL (rowN L C i) w C = 0 → ∀ r, r < i + 1 → dotL (rowN L C r) w C = 0 := fun h r hr => by
        by_cases e : r = i
        · rw [e]; exact h
        · exact hz r (by omega)
      clear hrow hlen hdd hmm
      generalize rowN L C i = row at *
      repeat' first | refine rnY ?_ | (first | refine ZCalls.to (hri) ?_ | refine ZCalls.tf (hri) ?_) | with_reducible refine And.intro (fun hc => ?_) (fun hc => ?_) | fail
      refine AWp.cut (fun Ae hAe => ?_)
      have e1 := gtY (t := 1) hAe
      have e2 := gtY (t := 2) hAe
      have e10 := gtY (t := 10) hAe
      have e11 := gtY (t := 11) hAe
      have e16 := gtY (t := 16) hAe
      have e17 := gtY (t := 17) hAe
      have e6 := gtY (t := 6) hAe
      have e18 := gtY (t := 18) hAe
      clear hri
      refine AWp.loop (fun A' H' => ∃ (k : Nat), Ag [7, 8, 19, 20, 21, 22, 23, 24, 25, 26, 27, 28, 29, 30, 31] A' (put (put Ae (some 6) (I (dotL row w k))) (some 18) (I k)) ∧ k ≤ C ∧ Ext H1 H') (fun A' _ => C - (intV (A' 18)).toNat) ?_ ?_
      · exact ⟨0, by rw [show dotL row w 0 = 0 from rfl]; exact agY, by omega, by exact exY⟩
      · rintro A2 H2 ⟨k, hA2, hk, hx2⟩
        have f1 := gdY (t := 1) hA2
        have f2 := gdY (t := 2) hA2
        have f6 := gdY (t := 6) hA2
        have f10 := gdY (t := 10) hA2
        have f11 := gdY (t := 11) hA2
        have f16 := gdY (t := 16) hA2
        have f17 := gdY (t := 17) hA2
        have f18 := gdY (t := 18) hA2
        by_cases hkC : k < C
        · have hst : dotL row w (k + 1) = dotL row w k + row.getD k 0 * w.getD k 0 := rfl
          have hdk := hd k
          have hmk := hm k
          have hkk := hkM k (by omega)
          generalize (k : Int) * M = kM at *
          generalize dotL row w k = s at *
          generalize hx : row.getD k 0 = x at *
          generalize hy : w.getD k 0 = y at *
          obtain ⟨p, hp⟩ : ∃ p, x * y = p := ⟨_, rfl⟩
          rw [hp] at hmk hst
          clear hd hm hkM hdec hnx hz
          repeat' first | refine rnY ?_ | with_reducible refine And.intro (fun hc => ?_) (fun hc => ?_) | fail
          exact ⟨⟨k + 1, agY, by omega, by exact exY⟩, by exact ivY⟩
        · obtain rfl : k = C := by omega
          by_cases h0 : dotL row w k = 0
          · have hnx := hnx h0
            clear hd hm hkM hdec
            repeat' first | refine rnY ?_ | with_reducible refine And.intro (fun hc => ?_) (fun hc => ?_) | fail
            exact ⟨⟨i + 1, agY, by omega, hnx, by exact exY⟩, by exact ivY⟩
          · rw [hdec h0] at hQ
            clear hd hm hkM hdec hnx
            generalize dotL row w k = s at *
            repeat' first | refine rnY ?_ | with_reducible refine And.intro (fun hc => ?_) (fun hc => ?_) | fail
            exact hQ.out _ _ (fv) (by exact exY)
    · obtain rfl : i = R := by omega
      rw [decide_eq_true hz] at hQ
      clear hrow hlen hdd hmm hkM
      repeat' first | refine rnY ?_ | with_reducible refine And.intro (fun hc => ?_) (fun hc => ?_) | fail
      exact hQ.out _ _ (fv) (by exact exY)
end Go.Proofs.YtmoknllbpjpkmaaGreat.Zed
namespace Go.Proofs.YtmoknllbpjpkmaaGreat.Zed
open Go TP
set_option linter.unusedVariables false
set_option linter.unusedSimpArgs false
set_option maxRecDepth 20000
namespace tfX26
theorem tf : (Tryz.prog.underlying 25 = some (.slice 2)) ∧ (el Tryz.prog 25 = some (none, 1)) ∧ (Tryz.prog.underlying 29 = some (.slice 61)) ∧ (el Tryz.prog 29 = some (none, 1)) ∧ (tk Tryz.prog 2 = some none) ∧ (tk Tryz.prog 29 = some none) ∧ (tk Tryz.prog 31 = some (some 1)) ∧ (tk Tryz.prog 61 = some none) ∧ (cz Tryz.prog 2 = some 1) ∧ (bz Tryz.prog 2 = some 8) ∧ (cz Tryz.prog 61 = some 1) ∧ (bz Tryz.prog 61 = some 24) ∧ (zr Tryz.prog 2 = some (.int .i64 0)) ∧ (zr Tryz.prog 61 = some (.slice none 0 0)) ∧ (fo Tryz.prog 31 0 = some (0, none)) := by
  refine ⟨?_, ?_, ?_, ?_, ?_, ?_, ?_, ?_, ?_, ?_, ?_, ?_, ?_, ?_, ?_⟩ <;> kernel_rfl
end tfX26
open tfX26

theorem bump_bd' {L : List Int} {B : Int} (hB : 0 ≤ B) (h : ∀ j, -B ≤ L.getD j 0 ∧ L.getD j 0 ≤ B) (i d : Int) (hd : -1 ≤ d ∧ d ≤ 1) : ∀ j, -(B + 1) ≤ (bump L i d).getD j 0 ∧ (bump L i d).getD j 0 ≤ B + 1 := by
  by_cases hi : i.toNat < L.length
  · exact bump_bd hB h i d hi hd
  · intro j
    unfold bump
    rw [List.set_eq_of_length_le (by omega)]
    have := h j; omega
theorem mRow_bd (n a f : Nat) (t p c : Int) : ∀ j, -4 ≤ (mRow n a f t p c).getD j 0 ∧ (mRow n a f t p c).getD j 0 ≤ 4 := by
  unfold mRow
  have h0 : ∀ j, -0 ≤ (List.replicate (7 * n) (0 : Int)).getD j 0 ∧ (List.replicate (7 * n) (0 : Int)).getD j 0 ≤ 0 := fun j => by rw [getD_zero]; omega
  exact bump_bd' (by omega) (bump_bd' (by omega) (bump_bd' (by omega) (bump_bd' (by omega) h0 _ _ (by omega)) _ _ (by omega)) _ _ (by omega)) _ _ (by omega)
theorem mF_bd {n a f : Nat} {t p : Int} : ∀ r ∈ mF n a f t p, ∀ j, -4 ≤ r.getD j 0 ∧ r.getD j 0 ≤ 4 := by
  unfold mF
  split
  · intro r hr; cases hr
  · intro r hr
    obtain ⟨y, _, rfl⟩ := List.mem_map.1 hr
    exact mRow_bd n a f t p y
theorem mFs_bd (n a : Nat) (row : List (Int × Int)) : ∀ f, ∀ r ∈ mFs n a row f, ∀ j, -4 ≤ r.getD j 0 ∧ r.getD j 0 ≤ 4
  | 0 => fun r hr => by cases hr
  | f + 1 => fun r hr => by
    unfold mFs at hr
    rcases List.mem_append.1 hr with hr | hr
    · exact mFs_bd n a row f r hr
    · split at hr
      · cases hr
      · exact mF_bd r hr
theorem mTs_bd (n : Nat) (T : List (List (Int × Int))) : ∀ a, ∀ r ∈ mTs n T a, ∀ j, -4 ≤ r.getD j 0 ∧ r.getD j 0 ≤ 4
  | 0 => fun r hr => by cases hr
  | a + 1 => fun r hr => by
    unfold mTs at hr
    rcases List.mem_append.1 hr with hr | hr
    · exact mTs_bd n T a r hr
    · exact mFs_bd n a _ 4 r hr
theorem isNormFn_z (x : Int) : ZCalls Tryz.prog 127 [I x] (B (!decide (0 ≤ x ∧ x ≤ 1000))) := by
  have hr := inRange_z x 0 1000
  refine ZCalls.body Tryz.func127 rfl Tryz.ntmps127 (rs := [.tmp 2]) rfl (by simp) rfl fun H Q hQ A hA => ?_
  have a0 := hA 0 _ _ rfl
  clear hA
  repeat' first | refine rnY ?_ | (first | refine ZCalls.to (hr) ?_ | refine ZCalls.tf (hr) ?_) | with_reducible refine And.intro (fun hc => ?_) (fun hc => ?_) | fail
  exact hQ.out _ _ (fv) (by exact exY)
/-- A normal vector. -/
def NrI (T : List (List (Int × Int))) (v : List Int) : Prop := v.length = 7 * T.length ∧ (∀ j, j < v.length → 0 ≤ v.getD j 0 ∧ v.getD j 0 ≤ 1000) ∧ ∀ i, i < (mmR T).length → dotL ((mmR T).getD i []) v (7 * T.length) = 0
instance (T : List (List (Int × Int))) (v : List Int) : Decidable (NrI T v) := by unfold NrI; infer_instance
set_option maxHeartbeats 4000000 in
theorem isNormal_z {T : List (List (Int × Int))} (hF : Fine T) (v : List Int) (hv : v.length ≤ 1048576) : ZCalls Tryz.prog 112 [zT T, zI v] (B (decide (NrI T v))) := by
  have h8 := hF.1
  by_cases h2 : v.length = 7 * T.length
  · have h2b : ((v.length : Int) == 7 * (T.length : Int)) = true := by rw [beq_iff_eq]; omega
    have hcn := containsN_z (F := 127) (xs := #[]) hv (fun x _ => isNormFn_z x)
    by_cases h3 : (∀ j, j < v.length → 0 ≤ v.getD j 0 ∧ v.getD j 0 ≤ 1000)
    · have hany : (v.any fun x => !decide (0 ≤ x ∧ x ≤ 1000)) = false := by
        rw [List.any_eq_false]
        intro x hx
        obtain ⟨i, hi, rfl⟩ := List.getElem_of_mem hx
        have := h3 i hi
        simp [hi] at this
        simp [this]
      rw [hany] at hcn
      have hmm := matchingMatrix_z hF
      have hrows : ∀ r, r < (mmR T).length → rowN (mmR T).flatten (7 * T.length) r = (mmR T).getD r [] := fun r hr => flat_row (mmR_rows T) r hr
      have hml := mmR_len T
      have hsol := solves_z (R := (mmR T).length) (C := 7 * T.length) (L := (mmR T).flatten) (w := v) (A := 4) (B' := 1000) (flat_len (mmR_rows T)) (by omega) (by omega) (by omega) (by omega) (by omega) (by omega)
        (fun r hr j => by
          rw [hrows r hr]
          have hin : (mmR T).getD r [] ∈ mmR T := by simp [hr]
          exact mTs_bd T.length T T.length _ hin j)
        (fun j => by
          by_cases hj : j < v.length
          · have := h3 j hj; omega
          · rw [List.getD_eq_getElem?_getD, List.getElem?_eq_none (by omega)]; simp)
      have hdec : decide (∀ r, r < (mmR T).length → dotL (rowN (mmR T).flatten (7 * T.length) r) v (7 * T.length) = 0) = decide (NrI T v) := by
        congr 1
        refine propext ⟨fun h => ⟨h2, h3, fun i hi => by have := h i hi; rw [hrows i hi] at this; exact this⟩, fun h r hr => by rw [hrows r hr]; exact h.2.2 r hr⟩
      rw [hdec] at hsol
      generalize decide (NrI T v) = out at *
      have e7 : (((7 * T.length : Nat)) : Int) = 7 * (T.length : Int) := by omega
      rw [e7] at hsol
      generalize (mmR T).flatten = L at *
      generalize (mmR T).length = R at *
      clear hdec hrows hany h3 h2 e7
      refine ZCalls.body Tryz.func112 rfl Tryz.ntmps112 (rs := [.tmp 4]) rfl (by simp) rfl fun H Q hQ A hA => ?_
      have a0 := hA 0 _ _ rfl
      have a1 := hA 1 _ _ rfl
      clear hA
      repeat' first | refine rnY ?_ | (first | refine ZCalls.to (hcn) ?_ | refine ZCalls.tf (hcn) ?_) | (first | refine ZCalls.to (hmm) ?_ | refine ZCalls.tf (hmm) ?_) | (first | refine ZCalls.to (hsol) ?_ | refine ZCalls.tf (hsol) ?_) | with_reducible refine And.intro (fun hc => ?_) (fun hc => ?_) | fail
      exact hQ.out _ _ (fv) (by exact exY)
    · have hany : (v.any fun x => !decide (0 ≤ x ∧ x ≤ 1000)) = true := by
        cases hb : v.any fun x => !decide (0 ≤ x ∧ x ≤ 1000) with
        | true => rfl
        | false =>
          refine absurd (fun j hj => ?_) h3
          rw [List.any_eq_false] at hb
          have := hb (v.getD j 0) (by simp [hj])
          simpa using this
      rw [hany] at hcn
      rw [decide_eq_false (show ¬ NrI T v from fun h => h3 h.2.1)]
      clear h3 h2 hany
      refine ZCalls.body Tryz.func112 rfl Tryz.ntmps112 (rs := [.tmp 4]) rfl (by simp) rfl fun H Q hQ A hA => ?_
      have a0 := hA 0 _ _ rfl
      have a1 := hA 1 _ _ rfl
      clear hA
      repeat' first | refine rnY ?_ | (first | refine ZCalls.to (hcn) ?_ | refine ZCalls.tf (hcn) ?_) | with_reducible refine And.intro (fun hc => ?_) (fun hc => ?_) | fail
      exact hQ.out _ _ (fv) (by exact exY)
  · have h2b : ((v.length : Int) == 7 * (T.length : Int)) = false := by rw [beq_eq_false_iff_ne]; omega
    rw [decide_eq_false (show ¬ NrI T v from fun h => h2 h.1)]
    clear h2
    refine ZCalls.body Tryz.func112 rfl Tryz.ntmps112 (rs := [.tmp 4]) rfl (by simp) rfl fun H Q hQ A hA => ?_
    have a0 := hA 0 _ _ rfl
    have a1 := hA 1 _ _ rfl
    clear hA
    repeat' first | refine rnY ?_ | with_reducible refine And.intro (fun hc => ?_) (fun hc => ?_) | fail
    exact hQ.out _ _ (fv) (by exact exY)
end Go.Proofs.YtmoknllbpjpkmaaGreat.Zed
namespace Go.Proofs.YtmoknllbpjpkmaaGreat.Zed
open Go TP
set_option linter.unusedVariables false
set_option linter.unusedSimpArgs false
set_option maxRecDepth 20000
namespace tfY4
theorem tf : (Tryz.prog.underlying 25 = some (.slice 2)) ∧ (el Tryz.prog 25 = some (none, 1)) ∧ (tk Tryz.prog 2 = some none) ∧ (tk Tryz.prog 4 = some none) ∧ (cz Tryz.prog 2 = some 1) ∧ (bz Tryz.prog 2 = some 8) ∧ (zr Tryz.prog 2 = some (.int .i64 0)) ∧ (zr Tryz.prog 4 = some (.bool false)) := by
  refine ⟨?_, ?_, ?_, ?_, ?_, ?_, ?_, ?_⟩ <;> kernel_rfl
end tfY4
open tfY4

/-- The places of the elements below k that are not 0. -/
def supT (l : List Int) : Nat → List Int
  | 0 => []
  | k + 1 => if l.getD k 0 ≠ 0 then supT l k ++ [(k : Int)] else supT l k
theorem supT_len (l : List Int) : ∀ k, (supT l k).length ≤ k
  | 0 => by simp [supT]
  | k + 1 => by
    have := supT_len l k
    unfold supT
    split
    · rw [List.length_append]; simp; omega
    · omega
set_option maxHeartbeats 2000000 in
theorem support_z {l : List Int} {n : Nat} (hn : l.length = n) (hl : n ≤ 200000) : ZCalls Tryz.prog 129 [FZ 1 n (ints l)] (zI (supT l n)) := by
  refine ZCalls.body Tryz.func129 rfl Tryz.ntmps129 (rs := [.tmp 2]) rfl (by simp) rfl fun H Q hQ A hA => ?_
  have a0 := hA 0 _ _ rfl
  clear hA
  repeat' first | refine rnY ?_ | with_reducible refine And.intro (fun hc => ?_) (fun hc => ?_) | fail
  refine AWp.grow (t := 3) 1 (by decide) (by exact ivY) ?_
  refine AWp.cut (fun Ac hAc => ?_)
  have c6 := gtY (t := 6) hAc
  have c7 := gtY (t := 7) hAc
  have c3 := gtY (t := 3) hAc
  have c8 := gtY (t := 8) hAc
  clear a0
  refine AWp.loop (fun A' H' => ∃ (k : Nat), Ag [4, 5, 9, 10, 11, 12, 13, 14, 15, 16, 17, 18, 19] A' (put (put Ac (some 3) (GZ H.size 1 (supT l k).length (ints (supT l k)))) (some 8) (I k)) ∧ k ≤ n ∧ Ext (H.push (.tok (supT l k).length 1)) H') (fun A' _ => n - (intV (A' 8)).toNat) ?_ ?_
  · have e0 : supT l 0 = [] := rfl
    exact ⟨0, agY, by omega, by exact exY⟩
  · rintro A1 H1 ⟨k, hA, hk, hx⟩
    have d3 := gdY (t := 3) hA
    have d6 := gdY (t := 6) hA
    have d7 := gdY (t := 7) hA
    have d8 := gdY (t := 8) hA
    have hxg := hx.get; have hxs := hx.size; (try simp only [nx] at hxs)
    by_cases hlt : k < n
    · have hs1 : supT l (k + 1) = if l.getD k 0 ≠ 0 then supT l k ++ [(k : Int)] else supT l k := rfl
      have hll := supT_len l k
      generalize supT l k = L at *
      by_cases hb : l.getD k 0 = 0
      · have hbb : (l.getD k 0 == 0) = true := by rw [beq_iff_eq]; exact hb
        rw [if_neg (fun h => h hb)] at hs1
        clear hb
        repeat' first | refine rnY ?_ | with_reducible refine And.intro (fun hc => ?_) (fun hc => ?_) | fail
        exact ⟨⟨k + 1, agY, by omega, by rw [hs1]; (exact exY)⟩, by exact ivY⟩
      · have hbb : (l.getD k 0 == 0) = false := by rw [beq_eq_false_iff_ne]; exact hb
        rw [if_pos hb] at hs1
        clear hb
        repeat' first | refine rnY ?_ | with_reducible refine And.intro (fun hc => ?_) (fun hc => ?_) | fail
        exact ⟨⟨k + 1, agY, by omega, by rw [hs1]; (exact exY)⟩, by exact ivY⟩
    · obtain rfl : k = n := by omega
      repeat' first | refine rnY ?_ | with_reducible refine And.intro (fun hc => ?_) (fun hc => ?_) | fail
      exact hQ.out _ _ (fv) (by exact exY)
/-- At most one of the three quadrilaterals of part j. -/
def qOk (v : List Int) (j : Nat) : Bool := decide ((supT ((partL 7 v j).drop 4) 3).length ≤ 1)
/-- At most one type of quadrilaterals in each part. -/
def one7 (v : List Int) (cnt : Nat) : Bool := (List.range cnt).all fun j => qOk v j
set_option maxHeartbeats 4000000 in
theorem hasOneType_z {v : List Int} {cnt : Nat} (hL : v.length = 7 * cnt) (hl : v.length ≤ 1000000) : ZCalls Tryz.prog 113 [zI v] (B (one7 v cnt)) := by
  have hch := chunk_z v 7 (by decide) (by decide)
  have hit := chunk_iter (v := v) (n := 7) (cnt := cnt) (by decide) (by decide) hL hl
  have hgd : ∀ j, j < cnt → (partsZ 7 cnt v)[j]? = some (FZ 1 7 (ints (partL 7 v j))) := fun j hj => by simp [partsZ, hj]
  have hpl : ∀ j, j < cnt → (partL 7 v j).length = 7 := fun j hj => by simp [partL]; omega
  refine ZCalls.bodyQ Tryz.func113 rfl Tryz.ntmps113 (rs := [.cell 2 4]) rfl (by simp) rfl fun H Q hQ A hA => ?_
  have a0 := hA 0 _ _ rfl
  clear hA
  refine AWq.seq' (AWq.of' ?_)
  repeat' first | refine rnY ?_ | with_reducible refine And.intro (fun hc => ?_) (fun hc => ?_) | fail
  refine qthen_n ?_
  refine AWq.seq' (AWq.seq' (AWq.of' ?_))
  repeat' first | refine rnY ?_ | (first | refine ZCalls.to (hch) ?_ | refine ZCalls.tf (hch) ?_) | with_reducible refine And.intro (fun hc => ?_) (fun hc => ?_) | fail
  refine qthen_n ?_
  refine (AWq.block (AWq.range (els := partsZ 7 cnt v) (fun j H' => (∀ i, i < j → qOk v i = true) ∧ Ext (H.push (.cells [B false] 1 false)) H') (fun H' => one7 v cnt = false ∧ Ext (H.push (.cells [B false] 1 false)) H' ∧ H'.get H.size = .cells [B false] 1 false) (by decide) rfl (by exact ivY) hit ⟨fun i hi => by omega, by exact exY⟩ ?_ ?_ ?_))
  · rintro l j x H' hx ⟨hok, hE⟩
    have hj : j < cnt := by
      have := (List.getElem?_eq_some_iff.1 hx).1
      simpa [partsZ] using this
    rw [hgd j hj] at hx
    cases hx
    have hp := hpl j hj
    have hq : qOk v j = decide ((supT ((partL 7 v j).drop 4) 3).length ≤ 1) := rfl
    obtain ⟨r, hr⟩ : ∃ r, ((partL 7 v j).drop 4).take 3 = r := ⟨_, rfl⟩
    have hr2 : (partL 7 v j).drop 4 = r := by rw [← hr, List.take_of_length_le (by simp; omega)]
    have hr3 : r.length = 3 := by rw [← hr2]; simp; omega
    rw [hr2] at hq
    have hs := support_z (l := r) (n := 3) hr3 (by decide)
    have hsl := supT_len r 3
    have hno : qOk v j = false → one7 v cnt = false := fun h => by
      unfold one7
      rw [List.all_eq_false]
      exact ⟨j, List.mem_range.2 hj, by rw [h]; decide⟩
    clear hch hit hgd hpl hr2
    generalize supT r 3 = S at *
    refine AWr.region rfl ?_
    repeat' first | refine rnY ?_ | with_reducible refine And.intro (fun hc => ?_) (fun hc => ?_) | fail
    refine ⟨rfl, AWr.block (AWr.seq' (AWr.region rfl ?_))⟩
    by_cases hS : S.length ≤ 1
    · rw [decide_eq_true hS] at hq
      have hb : decide ((S.length : Int) > 1) = false := by simp; omega
      repeat' first | refine rnY ?_ | (first | refine ZCalls.to (hs) ?_ | refine ZCalls.tf (hs) ?_) | with_reducible refine And.intro (fun hc => ?_) (fun hc => ?_) | fail
      refine AWr.condF rfl (by exact ivY) (AWr.skip ?_)
      repeat' first | refine rnY ?_ | with_reducible refine And.intro (fun hc => ?_) (fun hc => ?_) | fail
      refine .inl ⟨rfl, fun i hi => ?_, by exact exY⟩
      rcases Nat.lt_or_ge i j with h | h
      · exact hok i h
      · obtain rfl : i = j := by omega
        exact hq
    · rw [decide_eq_false hS] at hq
      have hb : decide ((S.length : Int) > 1) = true := by simp; omega
      repeat' first | refine rnY ?_ | (first | refine ZCalls.to (hs) ?_ | refine ZCalls.tf (hs) ?_) | with_reducible refine And.intro (fun hc => ?_) (fun hc => ?_) | fail
      refine AWr.condT rfl (by exact ivY) (AWr.seq' (AWr.region rfl ?_))
      have hEg := hE.get; have hEs := hE.size; (try simp only [nx] at hEs)
      repeat' first | refine rnY ?_ | with_reducible refine And.intro (fun hc => ?_) (fun hc => ?_) | fail
      refine AWr.ret ?_
      repeat' first | refine rnY ?_ | with_reducible refine And.intro (fun hc => ?_) (fun hc => ?_) | fail
      exact .inr ⟨rfl, hno hq, by exact exY, by exact ivY⟩
  · rintro D H' ⟨hok, hE⟩
    have hall : one7 v cnt = true := by
      unfold one7
      rw [List.all_eq_true]
      intro i hi
      exact hok i (by simpa [partsZ] using List.mem_range.1 hi)
    refine qblock_n (qthen_n ?_)
    refine AWq.seq' (AWq.of (AWr.region rfl ?_))
    have hEg := hE.get; have hEs := hE.size; (try simp only [nx] at hEs)
    repeat' first | refine rnY ?_ | with_reducible refine And.intro (fun hc => ?_) (fun hc => ?_) | fail
    refine qthen_n ?_
    refine AWq.of (AWr.ret ?_)
    repeat' first | refine rnY ?_ | with_reducible refine And.intro (fun hc => ?_) (fun hc => ?_) | fail
    exact hQ.out _ _ (.eq (Cl.bool _) (by rw [hall])) (by exact exY)
  · rintro D H' ⟨hno, hE, hg⟩
    refine qblock_r (qthen_r ?_)
    have hEg := hE.get; have hEs := hE.size; (try simp only [nx] at hEs)
    repeat' first | refine rnY ?_ | with_reducible refine And.intro (fun hc => ?_) (fun hc => ?_) | fail
    exact hQ.out _ _ (.eq (Cl.bool _) (by rw [hno])) (by exact exY)
end Go.Proofs.YtmoknllbpjpkmaaGreat.Zed
namespace Go.Proofs.YtmoknllbpjpkmaaGreat.Zed
open Go TP
set_option linter.unusedVariables false
set_option linter.unusedSimpArgs false
set_option maxRecDepth 20000
namespace tfX27
theorem tf : (Tryz.prog.underlying 25 = some (.slice 2)) ∧ (el Tryz.prog 25 = some (none, 1)) ∧ (Tryz.prog.underlying 29 = some (.slice 61)) ∧ (el Tryz.prog 29 = some (none, 1)) ∧ (Tryz.prog.underlying 37 = some (.slice 25)) ∧ (el Tryz.prog 37 = some (none, 1)) ∧ (Tryz.prog.underlying 61 = some (.slice 80)) ∧ (el Tryz.prog 61 = some (none, 2)) ∧ (tk Tryz.prog 2 = some none) ∧ (tk Tryz.prog 25 = some none) ∧ (tk Tryz.prog 29 = some none) ∧ (tk Tryz.prog 31 = some (some 1)) ∧ (tk Tryz.prog 61 = some none) ∧ (tk Tryz.prog 80 = some (some 2)) ∧ (cz Tryz.prog 2 = some 1) ∧ (bz Tryz.prog 2 = some 8) ∧ (cz Tryz.prog 25 = some 1) ∧ (bz Tryz.prog 25 = some 24) ∧ (cz Tryz.prog 61 = some 1) ∧ (bz Tryz.prog 61 = some 24) ∧ (cz Tryz.prog 80 = some 2) ∧ (bz Tryz.prog 80 = some 16) ∧ (zr Tryz.prog 2 = some (.int .i64 0)) ∧ (zr Tryz.prog 25 = some (.slice none 0 0)) ∧ (zr Tryz.prog 61 = some (.slice none 0 0)) ∧ (zr Tryz.prog 80 = some (.agg #[.int .i64 0, .int .i64 0])) ∧ (fo Tryz.prog 31 0 = some (0, none)) ∧ (fo Tryz.prog 80 0 = some (0, none)) ∧ (fo Tryz.prog 80 1 = some (1, none)) := by
  refine ⟨?_, ?_, ?_, ?_, ?_, ?_, ?_, ?_, ?_, ?_, ?_, ?_, ?_, ?_, ?_, ?_, ?_, ?_, ?_, ?_, ?_, ?_, ?_, ?_, ?_, ?_, ?_, ?_, ?_⟩ <;> kernel_rfl
end tfX27
open tfX27

theorem l17Between_z (a b : Int) (ha0 : 0 ≤ a) (ha1 : a < 4) (hb0 : 0 ≤ b) (hb1 : b < 4) : ZCalls Tryz.prog 62 [I a, I b] (I (btN a b)) := by
  unfold btN
  by_cases h1 : a = 0
  · rw [if_pos h1]
    have hb : (a == 0) = true := by rw [beq_iff_eq]; exact h1
    clear h1
    refine ZCalls.body Tryz.func62 rfl Tryz.ntmps62 (rs := [.tmp 4]) rfl (by simp) rfl fun H Q hQ A hA => ?_
    have a0 := hA 0 _ _ rfl
    have a1 := hA 1 _ _ rfl
    clear hA
    repeat' first | refine rnY ?_ | with_reducible refine And.intro (fun hc => ?_) (fun hc => ?_) | fail
    exact hQ.out _ _ (fv) (by exact exY)
  · rw [if_neg h1]
    have hb : (a == 0) = false := by rw [beq_eq_false_iff_ne]; exact h1
    clear h1
    by_cases h2 : b = 0
    · rw [if_pos h2]
      have hb2 : (b == 0) = true := by rw [beq_iff_eq]; exact h2
      clear h2
      refine ZCalls.body Tryz.func62 rfl Tryz.ntmps62 (rs := [.tmp 4]) rfl (by simp) rfl fun H Q hQ A hA => ?_
      have a0 := hA 0 _ _ rfl
      have a1 := hA 1 _ _ rfl
      clear hA
      repeat' first | refine rnY ?_ | with_reducible refine And.intro (fun hc => ?_) (fun hc => ?_) | fail
      exact hQ.out _ _ (fv) (by exact exY)
    · rw [if_neg h2]
      have hb2 : (b == 0) = false := by rw [beq_eq_false_iff_ne]; exact h2
      clear h2
      refine ZCalls.body Tryz.func62 rfl Tryz.ntmps62 (rs := [.tmp 4]) rfl (by simp) rfl fun H Q hQ A hA => ?_
      have a0 := hA 0 _ _ rfl
      have a1 := hA 1 _ _ rfl
      clear hA
      repeat' first | refine rnY ?_ | with_reducible refine And.intro (fun hc => ?_) (fun hc => ?_) | fail
      exact hQ.out _ _ (fv) (by exact exY)
theorem l17Corner_z {T : List (List (Int × Int))} (h8 : T.length ≤ 8) (h4 : ∀ a, a < T.length → (T.getD a []).length = 4) {a f c : Nat} (ha : a < T.length) (hf : f < 4) (hc : c < 4) (hp : 0 ≤ ((T.getD a []).getD f (0, 0)).2 ∧ ((T.getD a []).getD f (0, 0)).2 < 24) :
    ZCalls Tryz.prog 110 [zT T, I a, I f, I c] (.tuple #[I ((T.getD a []).getD f (0, 0)).1, I (pm ((T.getD a []).getD f (0, 0)).2 f), I (pm ((T.getD a []).getD f (0, 0)).2 c)]) := by
  have h4a := h4 a ha
  have hg := l06At_z ((T.getD a []).getD f (0, 0)).2 f hp.1 hp.2 (by omega) (by omega)
  have hd := l06At_z ((T.getD a []).getD f (0, 0)).2 c hp.1 hp.2 (by omega) (by omega)
  refine ZCalls.body Tryz.func110 rfl Tryz.ntmps110 (rs := [.tmp 8, .tmp 9, .tmp 10]) rfl (by simp) rfl fun H Q hQ A hA => ?_
  have a0 := hA 0 _ _ rfl
  have a1 := hA 1 _ _ rfl
  have a2 := hA 2 _ _ rfl
  have a3 := hA 3 _ _ rfl
  clear hA
  repeat' first | refine rnY ?_ | with_reducible refine And.intro (fun hc => ?_) (fun hc => ?_) | fail
  refine AWp.zreg [(0, none), (1, none), (2, none), (3, none), (4, none), (5, none), (6, none), (7, none), (8, none), (9, none), (10, none), (11, none), (12, none)] mixed (by kernel_rfl) ?_
  repeat' first | refine rzY ?_ | (first | refine ZCalls.to (hg) ?_ | refine ZCalls.tf (hg) ?_) | (first | refine ZCalls.to (hd) ?_ | refine ZCalls.tf (hd) ?_) | fail
  repeat' first | refine rnY ?_ | with_reducible refine And.intro (fun hc => ?_) (fun hc => ?_) | fail
  exact hQ.out _ _ (.cl (Cl.tuple (l := [_, _, _]) (Cl.cons (Cl.int _ _) (Cl.cons (Cl.int _ _) (Cl.cons (Cl.int _ _) Cl.nil))))) (by exact exY)
def prC (a f : Nat) (x : Int × Int) : Prop := x.1 > a ∨ (x.1 = a ∧ pm x.2 f > f)
instance (a f : Nat) (x : Int × Int) : Decidable (prC a f x) := by unfold prC; infer_instance
def prF (acc : List (List Int)) (a : Nat) (row : List (Int × Int)) : Nat → List (List Int)
  | 0 => acc
  | f + 1 => if prC a f (row.getD f (0, 0)) then prF acc a row f ++ [[(a : Int), (f : Int)]] else prF acc a row f
/-- The glued faces that come first in their pairs. -/
def prT (T : List (List (Int × Int))) : Nat → List (List Int)
  | 0 => []
  | a + 1 => prF (prT T a) a (T.getD a []) 4
theorem prF_len (acc : List (List Int)) (a : Nat) (row : List (Int × Int)) : ∀ f, (prF acc a row f).length ≤ acc.length + f
  | 0 => Nat.le_refl _
  | f + 1 => by
    have := prF_len acc a row f
    unfold prF
    split
    · rw [List.length_append]; simp only [List.length_cons, List.length_nil]; omega
    · omega
theorem prT_len (T : List (List (Int × Int))) : ∀ a, (prT T a).length ≤ 4 * a
  | 0 => Nat.le_refl _
  | a + 1 => by
    have h1 := prT_len T a
    have h2 := prF_len (prT T a) a (T.getD a []) 4
    show (prF (prT T a) a (T.getD a []) 4).length ≤ _
    omega
set_option maxHeartbeats 4000000 in
theorem l17Pairs_z {T : List (List (Int × Int))} (hF : Fine T) : ZCalls Tryz.prog 109 [zT T] (zII (prT T T.length)) := by
  have h8 := hF.1
  have h4 : ∀ a, a < T.length → (T.getD a []).length = 4 := fun a ha => (hF.2 a ha).1
  refine ZCalls.body Tryz.func109 rfl Tryz.ntmps109 (rs := [.tmp 2]) rfl (by simp) rfl fun H Q hQ A hA => ?_
  have a0 := hA 0 _ _ rfl
  clear hA
  repeat' first | refine rnY ?_ | with_reducible refine And.intro (fun hc => ?_) (fun hc => ?_) | fail
  refine AWp.growE (t := 3) 1 (by decide) (by exact ivY) ?_
  refine AWp.cut (fun Ac hAc => ?_)
  have c1 := gtY (t := 1) hAc
  have c3 := gtY (t := 3) hAc
  have c4 := gtY (t := 4) hAc
  clear a0
  refine AWp.loop (fun A' H' => ∃ (a : Nat), Ag [5, 6, 8, 9, 10, 11, 12, 13, 14, 15, 16, 17, 18, 19, 20, 21, 22, 23, 24, 25, 26, 27, 28, 29, 30, 31, 32, 33, 34, 35, 36, 37, 38, 39, 40, 41, 42, 43, 44, 45, 46, 47, 48, 49] A' (put (put Ac (some 3) (GZ (H.size + 1) 1 (prT T a).length ((prT T a).map fun r => zI r))) (some 4) (I a)) ∧ a ≤ T.length ∧ Ext ((H.push (.cells [] 1 false)).push (.tok (prT T a).length 1)) H') (fun A' _ => T.length - (intV (A' 4)).toNat) ?_ ?_
  · have e0 : prT T 0 = [] := rfl
    exact ⟨0, agY, by omega, by exact exY⟩
  · rintro A1 H1 ⟨a, hA, ha, hx⟩
    have d1 := gdY (t := 1) hA
    have d3 := gdY (t := 3) hA
    have d4 := gdY (t := 4) hA
    have hxg := hx.get; have hxs := hx.size; (try simp only [nx] at hxs)
    by_cases hlt : a < T.length
    · have hs1 : prT T (a + 1) = prF (prT T a) a (T.getD a []) 4 := rfl
      have hbl := prT_len T a
      have h4a := h4 a hlt
      have hfi := (hF.2 a hlt).2
      generalize prT T a = acc at hx hs1 hbl d3 hxg hA
      repeat' first | refine rnY ?_ | (first | refine ZCalls.to (l07Tets_z _ _ _) ?_ | refine ZCalls.tf (l07Tets_z _ _ _) ?_) | with_reducible refine And.intro (fun hc => ?_) (fun hc => ?_) | fail
      refine AWp.cut (fun Ae hAe => ?_)
      have e1 := gtY (t := 1) hAe
      have e4 := gtY (t := 4) hAe
      have e3 := gtY (t := 3) hAe
      have e5 := gtY (t := 5) hAe
      refine AWp.loop (fun A' H' => ∃ (f : Nat), Ag [6, 14, 15, 16, 17, 18, 19, 20, 21, 22, 23, 24, 25, 26, 27, 28, 29, 30, 31, 32, 33, 34, 35, 36, 37, 38, 39, 40, 41, 42, 43, 44, 45, 46, 47, 48, 49] A' (put (put Ae (some 3) (GZ (H.size + 1) 1 (prF acc a (T.getD a []) f).length ((prF acc a (T.getD a []) f).map fun r => zI r))) (some 5) (I f)) ∧ f ≤ 4 ∧ Ext ((H.push (.cells [] 1 false)).push (.tok (prF acc a (T.getD a []) f).length 1)) H') (fun A' _ => 4 - (intV (A' 5)).toNat) ?_ ?_
      · have e0 : prF acc a (T.getD a []) 0 = acc := rfl
        exact ⟨0, agY, by omega, by rw [e0]; exact hx⟩
      · clear hx hxg hxs
        rintro A2 H2 ⟨f, hB, hf, hx⟩
        have f1 := gdY (t := 1) hB
        have f3 := gdY (t := 3) hB
        have f4 := gdY (t := 4) hB
        have f5 := gdY (t := 5) hB
        have hxg := hx.get; have hxs := hx.size; (try simp only [nx] at hxs)
        by_cases hff : f < 4
        · have hfl := prF_len acc a (T.getD a []) f
          have hs2 : prF acc a (T.getD a []) (f + 1) = if prC a f ((T.getD a []).getD f (0, 0)) then prF acc a (T.getD a []) f ++ [[(a : Int), (f : Int)]] else prF acc a (T.getD a []) f := rfl
          have hfine := hfi f hff
          generalize prF acc a (T.getD a []) f = R at hx f3 hxg hs2 hfl hB
          by_cases c1 : ((T.getD a []).getD f (0, 0)).1 > (a : Int)
          · rw [if_pos (show prC a f _ from .inl c1)] at hs2
            clear hfine hfi
            repeat' first | refine rnY ?_ | with_reducible refine And.intro (fun hc => ?_) (fun hc => ?_) | fail
            exact ⟨⟨f + 1, agY, by omega, by exact exY⟩, by exact ivY⟩
          · by_cases c2 : ((T.getD a []).getD f (0, 0)).1 = (a : Int)
            · obtain ⟨_, q2, q3⟩ := hfine (by omega)
              have hat := l06At_z ((T.getD a []).getD f (0, 0)).2 f q2 q3 (by omega) (by omega)
              have c2b : (((T.getD a []).getD f (0, 0)).1 == (a : Int)) = true := by rw [beq_iff_eq]; exact c2
              by_cases c3 : pm ((T.getD a []).getD f (0, 0)).2 f > (f : Int)
              · rw [if_pos (show prC a f _ from .inr ⟨c2, c3⟩)] at hs2
                clear hfi hfine c2
                repeat' first | refine rnY ?_ | (first | refine ZCalls.to (hat) ?_ | refine ZCalls.tf (hat) ?_) | with_reducible refine And.intro (fun hc => ?_) (fun hc => ?_) | fail
                exact ⟨⟨f + 1, agY, by omega, by exact exY⟩, by exact ivY⟩
              · rw [if_neg (show ¬ prC a f _ from fun h => h.elim c1 fun h => c3 h.2)] at hs2
                clear hfi hfine c2
                repeat' first | refine rnY ?_ | (first | refine ZCalls.to (hat) ?_ | refine ZCalls.tf (hat) ?_) | with_reducible refine And.intro (fun hc => ?_) (fun hc => ?_) | fail
                exact ⟨⟨f + 1, agY, by omega, by exact exY⟩, by exact ivY⟩
            · have c2b : (((T.getD a []).getD f (0, 0)).1 == (a : Int)) = false := by rw [beq_eq_false_iff_ne]; exact c2
              rw [if_neg (show ¬ prC a f _ from fun h => h.elim c1 fun h => c2 h.1)] at hs2
              clear hfi hfine c2
              repeat' first | refine rnY ?_ | with_reducible refine And.intro (fun hc => ?_) (fun hc => ?_) | fail
              exact ⟨⟨f + 1, agY, by omega, by exact exY⟩, by exact ivY⟩
        · obtain rfl : f = 4 := by omega
          repeat' first | refine rnY ?_ | with_reducible refine And.intro (fun hc => ?_) (fun hc => ?_) | fail
          exact ⟨⟨a + 1, agY, by omega, by rw [hs1]; (exact exY)⟩, by exact ivY⟩
    · obtain rfl : a = T.length := by omega
      repeat' first | refine rnY ?_ | (first | refine ZCalls.to (l07Tets_z _ _ _) ?_ | refine ZCalls.tf (l07Tets_z _ _ _) ?_) | with_reducible refine And.intro (fun hc => ?_) (fun hc => ?_) | fail
      exact hQ.out _ _ (fv) (by exact exY)
end Go.Proofs.YtmoknllbpjpkmaaGreat.Zed
namespace Go.Proofs.YtmoknllbpjpkmaaGreat.Zed
open Go TP
set_option linter.unusedVariables false
set_option linter.unusedSimpArgs false
set_option maxRecDepth 20000
namespace tfX28
theorem tf : (Tryz.prog.underlying 25 = some (.slice 2)) ∧ (el Tryz.prog 25 = some (none, 1)) ∧ (Tryz.prog.underlying 37 = some (.slice 25)) ∧ (el Tryz.prog 37 = some (none, 1)) ∧ (tk Tryz.prog 2 = some none) ∧ (tk Tryz.prog 25 = some none) ∧ (tk Tryz.prog 31 = some (some 1)) ∧ (cz Tryz.prog 2 = some 1) ∧ (bz Tryz.prog 2 = some 8) ∧ (cz Tryz.prog 25 = some 1) ∧ (bz Tryz.prog 25 = some 24) ∧ (zr Tryz.prog 2 = some (.int .i64 0)) ∧ (zr Tryz.prog 25 = some (.slice none 0 0)) := by
  refine ⟨?_, ?_, ?_, ?_, ?_, ?_, ?_, ?_, ?_, ?_, ?_, ?_, ?_⟩ <;> kernel_rfl
end tfX28
open tfX28
theorem rb2_X28 {a b : Prop} (hb : b) (h : Later b → a := by
  intro hb
  first
  | ((first | (with_reducible first | refine AOps.nil ?_ | refine athen_n ?_ | refine athen_r ?_ | refine athen_e ?_ | refine ablock_n ?_ | refine ablock_r ?_ | refine ablock_s ?_ | refine AWp.seq' ?_ | refine AWp.block ?_ | refine AWp.skip ?_ | refine AWp.exit ?_ | refine AWp.ret ?_ | (refine ablock_e ?_ ?_; focus rfl)) | ((with_reducible refine AWp.regionB 2 ?_ ?_); focus (exact rfl))); repeat (first | (with_reducible first | refine AOps.nil ?_ | refine athen_n ?_ | refine athen_r ?_ | refine athen_e ?_ | refine ablock_n ?_ | refine ablock_r ?_ | refine ablock_s ?_ | refine AWp.seq' ?_ | refine AWp.block ?_ | refine AWp.skip ?_ | refine AWp.exit ?_ | refine AWp.ret ?_ | (refine ablock_e ?_ ?_; focus rfl)) | ((with_reducible refine AWp.regionB 2 ?_ ?_); focus (exact rfl))))
  | (refine AOps.guardu rfl rfl rfl ?_ ?_; focus (simp (disch := (first | omega | (simp only [nx]; first | done | omega))) only [Value.bool.injEq, Bool.and_true, Bool.true_and, Bool.and_false, Bool.false_and, beq_self_eq_true, bne, Bool.not_true, Bool.not_false, sx, nx, dx, ↓reduceIte, reduceCtorEq, Nat.reduceEqDiff, ne_eq, not_false_eq_true, *]; done))
  | ((first | ((with_reducible refine AOps.lit ?_ ?_ ?_ fun K hK => ?_); exact rfl; exact rfl; exact rfl) | ((with_reducible refine AOps.boxz ?_ ?_ fun K hK => ?_); exact rfl; exact rfl) | ((with_reducible refine AOps.cons2 ?_ ?_ fun K hK => ?_); exact rfl; exact rfl) | ((with_reducible refine AWp.cond ?_ fun X Y hX hY => ?_); exact rfl) | refine AOps.guard rfl rfl rfl fun X Y hX hY => ?_ | refine aret_r ?_ | refine aret_n ?_); simp (disch := (first | omega | (simp only [nx]; first | done | omega))) only [acond_bool, aresK, retv, xxq, zxq, tf, litK, copyK, clearK, makeSliceK, buildSliceK, buildK, lookupK, mapPutK, mapOf, convK, allocK, indexK, partK, xxa, xxb, xxc, bne, Int.reduceEq, Int.reduceBEq, Int.reduceNe, Int.reduceBNe, Int.reduceLE, Int.reduceGT, Int.reduceGE, Int.reduceNeg, ↓reduceIte, reduceCtorEq, Nat.reduceEqDiff, Nat.reduceAdd, Nat.reduceMul, Nat.reduceSub, Nat.reduceLT, Int.reduceAdd, Int.reduceSub, Int.reduceMul, Int.reduceLT, Int.reduceToNat, ne_eq, *]; (repeat first | ((with_reducible refine And.intro (fun hc => ?_) (fun hc => absurd hc (by omega))); clear hc) | ((with_reducible refine And.intro (fun hc => absurd hc (by omega)) (fun hc => ?_)); clear hc) | ((with_reducible refine And.intro ?_ ?_); focus ((first | omega | assumption | exact cok _ rfl | exact one_ints _ | exact one_map fun _ => rfl | ((repeat refine one_cons (by first | rfl | assumption) ?_); exact one_nil) | rfl | decide | (intro u hu; cases hu)); done)) | (with_reducible refine (fun hc => ?_ : _ → _); clear hc)); (first | refine hK.out _ _ ?_ | refine ACalls.hk hK ?_ | (refine appendK.hk hK ?_; try (refine appendK.ofZ ?_; simp (disch := (first | omega | (simp only [nx]; first | done | omega))) only [xxq, zxq, tf, litK, copyK, clearK, makeSliceK, buildSliceK, buildK, lookupK, mapPutK, mapOf, convK, allocK, indexK, partK, xxa, xxb, xxc, bne, Int.reduceEq, Int.reduceBEq, Int.reduceNe, Int.reduceBNe, Int.reduceLE, Int.reduceGT, Int.reduceGE, Int.reduceNeg, ↓reduceIte, reduceCtorEq, Nat.reduceEqDiff, Nat.reduceAdd, Nat.reduceMul, Nat.reduceSub, Nat.reduceLT, Int.reduceAdd, Int.reduceSub, Int.reduceMul, Int.reduceLT, Int.reduceToNat, ne_eq, *]; (repeat first | ((with_reducible refine And.intro (fun hc => ?_) (fun hc => absurd hc (by omega))); clear hc) | ((with_reducible refine And.intro (fun hc => absurd hc (by omega)) (fun hc => ?_)); clear hc) | ((with_reducible refine And.intro ?_ ?_); focus ((first | omega | assumption | exact cok _ rfl | exact one_ints _ | exact one_map fun _ => rfl | ((repeat refine one_cons (by first | rfl | assumption) ?_); exact one_nil) | rfl | decide | (intro u hu; cases hu)); done)) | (with_reducible refine (fun hc => ?_ : _ → _); clear hc)))) | refine (fun (q : _ ∧ _) => And.intro (hK.out _ _ q.1) (hK.out _ _ q.2)) ?_ | refine hX.out ?_ | refine hY.out ?_ | refine (fun (q : (_ → _) ∧ (_ → _)) => And.intro (fun hc => hX.out (q.1 hc)) (fun hc => hY.out (q.2 hc))) ?_ | refine (fun (q : (_ → _) ∧ (_ → _)) => And.intro (fun hc => hY.out (q.1 hc)) (fun hc => hX.out (q.2 hc))) ?_ | skip))
  exact hb.out) : a := h ⟨hb⟩
theorem rb18_X28 {a b : Prop} (hb : b) (h : Later b → a := by
  intro hb
  first
  | ((first | (with_reducible first | refine AOps.nil ?_ | refine athen_n ?_ | refine athen_r ?_ | refine athen_e ?_ | refine ablock_n ?_ | refine ablock_r ?_ | refine ablock_s ?_ | refine AWp.seq' ?_ | refine AWp.block ?_ | refine AWp.skip ?_ | refine AWp.exit ?_ | refine AWp.ret ?_ | (refine ablock_e ?_ ?_; focus rfl)) | ((with_reducible refine AWp.regionB 18 ?_ ?_); focus (exact rfl))); repeat (first | (with_reducible first | refine AOps.nil ?_ | refine athen_n ?_ | refine athen_r ?_ | refine athen_e ?_ | refine ablock_n ?_ | refine ablock_r ?_ | refine ablock_s ?_ | refine AWp.seq' ?_ | refine AWp.block ?_ | refine AWp.skip ?_ | refine AWp.exit ?_ | refine AWp.ret ?_ | (refine ablock_e ?_ ?_; focus rfl)) | ((with_reducible refine AWp.regionB 18 ?_ ?_); focus (exact rfl))))
  | (refine AOps.guardu rfl rfl rfl ?_ ?_; focus (simp (disch := (first | omega | (simp only [nx]; first | done | omega))) only [Value.bool.injEq, Bool.and_true, Bool.true_and, Bool.and_false, Bool.false_and, beq_self_eq_true, bne, Bool.not_true, Bool.not_false, sx, nx, dx, ↓reduceIte, reduceCtorEq, Nat.reduceEqDiff, ne_eq, not_false_eq_true, *]; done))
  | ((first | ((with_reducible refine AOps.lit ?_ ?_ ?_ fun K hK => ?_); exact rfl; exact rfl; exact rfl) | ((with_reducible refine AOps.boxz ?_ ?_ fun K hK => ?_); exact rfl; exact rfl) | ((with_reducible refine AOps.cons2 ?_ ?_ fun K hK => ?_); exact rfl; exact rfl) | ((with_reducible refine AWp.cond ?_ fun X Y hX hY => ?_); exact rfl) | refine AOps.guard rfl rfl rfl fun X Y hX hY => ?_ | refine aret_r ?_ | refine aret_n ?_); simp (disch := (first | omega | (simp only [nx]; first | done | omega))) only [acond_bool, aresK, retv, xxq, zxq, tf, litK, copyK, clearK, makeSliceK, buildSliceK, buildK, lookupK, mapPutK, mapOf, convK, allocK, indexK, partK, xxa, xxb, xxc, bne, Int.reduceEq, Int.reduceBEq, Int.reduceNe, Int.reduceBNe, Int.reduceLE, Int.reduceGT, Int.reduceGE, Int.reduceNeg, ↓reduceIte, reduceCtorEq, Nat.reduceEqDiff, Nat.reduceAdd, Nat.reduceMul, Nat.reduceSub, Nat.reduceLT, Int.reduceAdd, Int.reduceSub, Int.reduceMul, Int.reduceLT, Int.reduceToNat, ne_eq, *]; (repeat first | ((with_reducible refine And.intro (fun hc => ?_) (fun hc => absurd hc (by omega))); clear hc) | ((with_reducible refine And.intro (fun hc => absurd hc (by omega)) (fun hc => ?_)); clear hc) | ((with_reducible refine And.intro ?_ ?_); focus ((first | omega | assumption | exact cok _ rfl | exact one_ints _ | exact one_map fun _ => rfl | ((repeat refine one_cons (by first | rfl | assumption) ?_); exact one_nil) | rfl | decide | (intro u hu; cases hu)); done)) | (with_reducible refine (fun hc => ?_ : _ → _); clear hc)); (first | refine hK.out _ _ ?_ | refine ACalls.hk hK ?_ | (refine appendK.hk hK ?_; try (refine appendK.ofZ ?_; simp (disch := (first | omega | (simp only [nx]; first | done | omega))) only [xxq, zxq, tf, litK, copyK, clearK, makeSliceK, buildSliceK, buildK, lookupK, mapPutK, mapOf, convK, allocK, indexK, partK, xxa, xxb, xxc, bne, Int.reduceEq, Int.reduceBEq, Int.reduceNe, Int.reduceBNe, Int.reduceLE, Int.reduceGT, Int.reduceGE, Int.reduceNeg, ↓reduceIte, reduceCtorEq, Nat.reduceEqDiff, Nat.reduceAdd, Nat.reduceMul, Nat.reduceSub, Nat.reduceLT, Int.reduceAdd, Int.reduceSub, Int.reduceMul, Int.reduceLT, Int.reduceToNat, ne_eq, *]; (repeat first | ((with_reducible refine And.intro (fun hc => ?_) (fun hc => absurd hc (by omega))); clear hc) | ((with_reducible refine And.intro (fun hc => absurd hc (by omega)) (fun hc => ?_)); clear hc) | ((with_reducible refine And.intro ?_ ?_); focus ((first | omega | assumption | exact cok _ rfl | exact one_ints _ | exact one_map fun _ => rfl | ((repeat refine one_cons (by first | rfl | assumption) ?_); exact one_nil) | rfl | decide | (intro u hu; cases hu)); done)) | (with_reducible refine (fun hc => ?_ : _ → _); clear hc)))) | refine (fun (q : _ ∧ _) => And.intro (hK.out _ _ q.1) (hK.out _ _ q.2)) ?_ | refine hX.out ?_ | refine hY.out ?_ | refine (fun (q : (_ → _) ∧ (_ → _)) => And.intro (fun hc => hX.out (q.1 hc)) (fun hc => hY.out (q.2 hc))) ?_ | refine (fun (q : (_ → _) ∧ (_ → _)) => And.intro (fun hc => hY.out (q.1 hc)) (fun hc => hX.out (q.2 hc))) ?_ | skip))
  exact hb.out) : a := h ⟨hb⟩
/-- The rows of a glued face, for the vertices below k. -/
def srC (n a f : Nat) (x : Int × Int) : Nat → List (List Int)
  | 0 => []
  | c + 1 => if c = f then srC n a f x c else srC n a f x c ++ [mRow n a f x.1 x.2 c]
/-- A pair is a glued face. -/
def PrOK (T : List (List (Int × Int))) (r : List Int) (a f : Nat) : Prop := r = [(a : Int), (f : Int)] ∧ a < T.length ∧ f < 4 ∧ prC a f ((T.getD a []).getD f (0, 0))
theorem prF_ok {T : List (List (Int × Int))} {a : Nat} (ha : a < T.length) {acc : List (List Int)} (h : ∀ r ∈ acc, ∃ a f, PrOK T r a f) : ∀ f, f ≤ 4 → ∀ r ∈ prF acc a (T.getD a []) f, ∃ a f, PrOK T r a f
  | 0, _ => h
  | f + 1, hf => fun r hr => by
    unfold prF at hr
    split at hr
    · rename_i hc
      rcases List.mem_append.1 hr with hr | hr
      · exact prF_ok ha h f (by omega) r hr
      · exact ⟨a, f, by simpa using hr, ha, by omega, hc⟩
    · exact prF_ok ha h f (by omega) r hr
theorem prT_ok (T : List (List (Int × Int))) : ∀ a, a ≤ T.length → ∀ r ∈ prT T a, ∃ a f, PrOK T r a f
  | 0, _ => fun r hr => by cases hr
  | a + 1, h => prF_ok (by omega) (prT_ok T a (by omega)) 4 (Nat.le_refl _)
def srP (T : List (List (Int × Int))) (P : List (List Int)) : Nat → List (List Int)
  | 0 => []
  | i + 1 => srP T P i ++ srC T.length ((P.getD i []).getD 0 0).toNat ((P.getD i []).getD 1 0).toNat ((T.getD ((P.getD i []).getD 0 0).toNat []).getD ((P.getD i []).getD 1 0).toNat (0, 0)) 4
theorem srC_len (n a f : Nat) (x : Int × Int) : ∀ c, (srC n a f x c).length ≤ c
  | 0 => Nat.le_refl _
  | c + 1 => by
    have := srC_len n a f x c
    unfold srC
    split
    · omega
    · rw [List.length_append]; simp only [List.length_cons, List.length_nil]; omega
theorem srP_len (T : List (List (Int × Int))) (P : List (List Int)) : ∀ i, (srP T P i).length ≤ 4 * i
  | 0 => Nat.le_refl _
  | i + 1 => by
    have := srP_len T P i
    unfold srP
    rw [List.length_append]
    have := srC_len T.length ((P.getD i []).getD 0 0).toNat ((P.getD i []).getD 1 0).toNat ((T.getD ((P.getD i []).getD 0 0).toNat []).getD ((P.getD i []).getD 1 0).toNat (0, 0)) 4
    omega
set_option maxHeartbeats 8000000 in
theorem l17Rows_z {T : List (List (Int × Int))} (hF : Fine T) : ZCalls Tryz.prog 73 [zT T] (FZ 1 (srP T (prT T T.length) (prT T T.length).length).length (rowsZ (7 * T.length) (srP T (prT T T.length) (prT T T.length).length))) := by
  have h8 := hF.1
  have h4 : ∀ a, a < T.length → (T.getD a []).length = 4 := fun a ha => (hF.2 a ha).1
  have hpr := l17Pairs_z hF
  have hpl := prT_len T T.length
  have hok := prT_ok T T.length (Nat.le_refl _)
  generalize prT T T.length = P at *
  obtain ⟨ZP, hZP⟩ : ∃ ZP, (P.map fun r => zI r) = ZP := ⟨_, rfl⟩
  change ZCalls _ _ _ (FZ 1 P.length (P.map fun r => zI r)) at hpr
  rw [hZP] at hpr
  have hzl : ZP.length = P.length := by rw [← hZP, List.length_map]
  refine ZCalls.body Tryz.func73 rfl Tryz.ntmps73 (rs := [.tmp 2]) rfl (by simp) rfl fun H Q hQ A hA => ?_
  have a0 := hA 0 _ _ rfl
  clear hA
  repeat' first | refine rb2_X28 ?_ | with_reducible refine And.intro (fun hc => ?_) (fun hc => ?_) | fail
  refine AWp.growE (t := 3) 1 (by decide) (by exact ivY) ?_
  repeat' first | refine rnY ?_ | (first | refine ZCalls.to (hpr) ?_ | refine ZCalls.tf (hpr) ?_) | with_reducible refine And.intro (fun hc => ?_) (fun hc => ?_) | fail
  refine AWp.cut (fun Ac hAc => ?_)
  have c1 := gtY (t := 1) hAc
  have c4 := gtY (t := 4) hAc
  have c3 := gtY (t := 3) hAc
  have c5 := gtY (t := 5) hAc
  clear a0 hpr
  refine AWp.loop (fun A' H' => ∃ (i : Nat), Ag [6, 7, 8, 9, 10, 11, 12, 16, 17, 18, 19, 20, 21, 22, 23, 24, 25, 26, 27, 28, 29, 30, 31, 32, 33, 34, 35, 36, 37, 38, 39, 40, 41, 42, 43, 44, 45, 46, 47, 48, 49, 50, 51, 52, 53, 54, 55, 56, 57, 58, 59, 60, 61, 62, 63, 64, 65, 66, 67, 68, 69, 70, 71, 72, 73, 74, 75, 76, 77, 78, 79, 80, 81, 82, 83, 84, 85, 86, 87, 88, 89, 90, 91, 92, 93, 94, 95, 96, 97, 98, 99] A' (put (put Ac (some 3) (GZ (H.size + 1) 1 (srP T P i).length (rowsZ (7 * T.length) (srP T P i)))) (some 5) (I i)) ∧ i ≤ P.length ∧ Ext H H' ∧ H'.get (H.size + 1) = .tok (srP T P i).length 1 ∧ H.size + 1 < H'.size) (fun A' _ => P.length - (intV (A' 5)).toNat) ?_ ?_
  · have e0 : srP T P 0 = [] := rfl
    exact ⟨0, agY, by omega, by exact exY, by exact ivY, by exact ivY⟩
  · rintro A1 H1 ⟨i, hA, hi, hx, hg, hs⟩
    have d1 := gdY (t := 1) hA
    have d3 := gdY (t := 3) hA
    have d4 := gdY (t := 4) hA
    have d5 := gdY (t := 5) hA
    by_cases hlt : i < P.length
    · have hst : srP T P (i + 1) = srP T P i ++ srC T.length ((P.getD i []).getD 0 0).toNat ((P.getD i []).getD 1 0).toNat ((T.getD ((P.getD i []).getD 0 0).toNat []).getD ((P.getD i []).getD 1 0).toNat (0, 0)) 4 := rfl
      have hsl := srP_len T P i
      obtain ⟨a, f, hr, ha, hf, hc⟩ := hok (P.getD i []) (by simp [hlt])
      have hfine := (hF.2 a ha).2 f hf
      have hP : ZP[i]? = some (FZ 1 2 (ints [(a : Int), (f : Int)])) := by
        have e : P[i] = [(a : Int), (f : Int)] := by rw [← hr]; simp [hlt]
        rw [← hZP]
        simp [hlt, e, Zed.zI]
      rw [hr] at hst
      have e1 : ([(a : Int), (f : Int)].getD 0 0).toNat = a := rfl
      have e2 : ([(a : Int), (f : Int)].getD 1 0).toNat = f := rfl
      rw [e1, e2] at hst
      have hge : 0 ≤ ((T.getD a []).getD f (0, 0)).1 := by
        rcases hc with hc | hc
        · omega
        · omega
      obtain ⟨q1, q2, q3⟩ := hfine hge
      clear hok e1 e2 hr
      have hco := fun (c : Nat) hc => l17Corner_z h8 h4 (c := c) ha hf hc ⟨q2, q3⟩
      generalize srP T P i = acc at *
      generalize (T.getD a []).getD f (0, 0) = x at *
      obtain ⟨t, p⟩ := x
      simp only at hco q1 q2 q3 hge
      repeat' first | refine rnY ?_ | with_reducible refine And.intro (fun hc => ?_) (fun hc => ?_) | fail
      refine AWp.cut (fun Ae hAe => ?_)
      have e1 := gtY (t := 1) hAe
      have e4 := gtY (t := 4) hAe
      have e5 := gtY (t := 5) hAe
      have e6 := gtY (t := 6) hAe
      have e7 := gtY (t := 7) hAe
      have e3 := gtY (t := 3) hAe
      have e8 := gtY (t := 8) hAe
      refine AWp.loop (fun A' H' => ∃ (k : Nat), Ag [9, 10, 11, 12, 34, 35, 36, 37, 38, 39, 40, 41, 42, 43, 44, 45, 46, 47, 48, 49, 50, 51, 52, 53, 54, 55, 56, 57, 58, 59, 60, 61, 62, 63, 64, 65, 66, 67, 68, 69, 70, 71, 72, 73, 74, 75, 76, 77, 78, 79, 80, 81, 82, 83, 84, 85, 86, 87, 88, 89, 90, 91, 92, 93, 94, 95, 96, 97, 98, 99] A' (put (put Ae (some 3) (GZ (H.size + 1) 1 (acc ++ srC T.length a f (t, p) k).length (rowsZ (7 * T.length) (acc ++ srC T.length a f (t, p) k)))) (some 8) (I k)) ∧ k ≤ 4 ∧ Ext H H' ∧ H'.get (H.size + 1) = .tok (acc ++ srC T.length a f (t, p) k).length 1 ∧ H.size + 1 < H'.size) (fun A' _ => 4 - (intV (A' 8)).toNat) ?_ ?_
      · have e0 : acc ++ srC T.length a f (t, p) 0 = acc := List.append_nil _
        exact ⟨0, by rw [e0]; exact agY, by omega, by exact exY, by rw [e0]; exact ivY, by exact ivY⟩
      · clear hx hg hs
        rintro A2 H2 ⟨k, hB, hk, hx, hg, hs⟩
        have f1 := gdY (t := 1) hB
        have f3 := gdY (t := 3) hB
        have f4 := gdY (t := 4) hB
        have f5 := gdY (t := 5) hB
        have f6 := gdY (t := 6) hB
        have f7 := gdY (t := 7) hB
        have f8 := gdY (t := 8) hB
        by_cases hk4 : k < 4
        · have hsc := srC_len T.length a f (t, p) k
          by_cases hkf : k = f
          · have hs2 : srC T.length a f (t, p) (k + 1) = srC T.length a f (t, p) k := by show (if k = f then _ else _) = _; rw [if_pos hkf]
            have hkb : ((k : Int) == (f : Int)) = true := by rw [beq_iff_eq]; omega
            clear hkf hco
            repeat' first | refine rnY ?_ | with_reducible refine And.intro (fun hc => ?_) (fun hc => ?_) | fail
            exact ⟨⟨k + 1, by rw [hs2]; exact agY, by omega, by exact exY, by rw [hs2]; exact ivY, by exact ivY⟩, by exact ivY⟩
          · have hs2 : acc ++ srC T.length a f (t, p) (k + 1) = (acc ++ srC T.length a f (t, p) k) ++ [mRow T.length a f t p k] := by
              show acc ++ (if k = f then _ else _) = _
              rw [if_neg hkf, List.append_assoc]
            have hkb : ((k : Int) == (f : Int)) = false := by rw [beq_eq_false_iff_ne]; omega
            have hcok := hco k hk4
            have hqf := pm_bd p f q2 q3 (by omega) (by omega)
            have hqk := pm_bd p k q2 q3 (by omega) (by omega)
            have hqqf : (pmL p).getD f 0 = pm p f := by unfold pm; rw [Int.toNat_natCast]
            have hqqk : (pmL p).getD k 0 = pm p k := by unfold pm; rw [Int.toNat_natCast]
            have hne : pm p k ≠ pm p f := by rw [← hqqk, ← hqqf]; exact pm_inj p k f q2 q3 hk4 hf hkf
            obtain ⟨_, _, _, b1, b2, b5⟩ := quad_is k f (by omega) (by omega) (by omega) (by omega) (by omega)
            obtain ⟨_, _, _, b3, b4, b6⟩ := quad_is (pm p k) (pm p f) (by omega) (by omega) (by omega) (by omega) hne
            have hz1 := l17Between_z f k (by omega) (by omega) (by omega) (by omega)
            have hz2 := l17Between_z (pm p f) (pm p k) (by omega) (by omega) (by omega) (by omega)
            rw [b5] at hz1
            rw [b6] at hz2
            have hSl : (acc ++ srC T.length a f (t, p) k).length = acc.length + (srC T.length a f (t, p) k).length := List.length_append ..
            have hSl2 : (acc ++ srC T.length a f (t, p) k).length ≤ 200 := by omega
            have hrz : rowsZ (7 * T.length) ((acc ++ srC T.length a f (t, p) k) ++ [mRow T.length a f t p k]) = rowsZ (7 * T.length) (acc ++ srC T.length a f (t, p) k) ++ [FZ 1 (7 * T.length) (ints (mRow T.length a f t p k))] := List.map_append
            have hrl2 : (rowsZ (7 * T.length) (acc ++ srC T.length a f (t, p) k)).length = (acc ++ srC T.length a f (t, p) k).length := by simp
            have hrz2 : List.map (fun r => FZ 1 (7 * T.length) (ints r)) (srC T.length a f (t, p) (k + 1)) = List.map (fun r => FZ 1 (7 * T.length) (ints r)) (srC T.length a f (t, p) k) ++ [FZ 1 (7 * T.length) (ints (mRow T.length a f t p k))] := by
              have e : srC T.length a f (t, p) (k + 1) = srC T.length a f (t, p) k ++ [mRow T.length a f t p k] := by show (if k = f then _ else _) = _; rw [if_neg hkf]
              rw [e, List.map_append]; rfl
            have hm4 : mRow T.length a f t p k = bump (bump (bump (bump (List.replicate (7 * T.length) 0) (7 * a + k) 1) (7 * a + 4 + btN k f) 1) (7 * t + pm p k) (-1)) (7 * t + 4 + btN (pm p k) (pm p f)) (-1) := rfl
            have hml := mRow_len T.length a f t p k
            have hsn : (acc ++ srC T.length a f (t, p) (k + 1)).length = (acc ++ srC T.length a f (t, p) k).length + 1 := by rw [hs2, List.length_append]; rfl
            have hsn2 : acc.length + (srC T.length a f (t, p) (k + 1)).length = acc.length + (srC T.length a f (t, p) k).length + 1 := by rw [← List.length_append, ← List.length_append]; exact hsn
            rw [← hs2] at hrz
            clear hco hkf hs2
            generalize acc ++ srC T.length a f (t, p) k = S at *
            generalize rowsZ (7 * T.length) S = RZ at *
            generalize mRow T.length a f t p k = row at *
            generalize hq1 : pm p f = g at *
            generalize hq3 : pm p k = g2 at *
            generalize btN k f = u1 at *
            generalize btN g2 g = u2 at *
            have h7 : (7 * (T.length : Int)).toNat = 7 * T.length := by omega
            have d0 : ∀ j, -0 ≤ (List.replicate (7 * T.length) (0 : Int)).getD j 0 ∧ (List.replicate (7 * T.length) (0 : Int)).getD j 0 ≤ 0 := fun j => by rw [getD_zero]; omega
            have l0 : (List.replicate (7 * T.length) (0 : Int)).length = 7 * T.length := by simp
            generalize hR0 : List.replicate (7 * T.length) (0 : Int) = R0 at *
            have d1 := bump_bd (by omega) d0 (7 * a + k) 1 (by omega) (by omega)
            have e1 : R0.set (7 * (a : Int) + k).toNat (R0.getD (7 * (a : Int) + k).toNat 0 + 1) = bump R0 (7 * a + k) 1 := rfl
            have v1 := d0 (7 * (a : Int) + k).toNat
            have l1 := bump_len R0 (7 * a + k) 1
            generalize bump R0 (7 * a + k) 1 = R1 at *
            generalize hy1 : R0.getD (7 * (a : Int) + k).toNat 0 = y1 at *
            have d2 := bump_bd (by omega) d1 (7 * a + 4 + u1) 1 (by omega) (by omega)
            have e2 : R1.set (7 * (a : Int) + 4 + u1).toNat (R1.getD (7 * (a : Int) + 4 + u1).toNat 0 + 1) = bump R1 (7 * a + 4 + u1) 1 := rfl
            have v2 := d1 (7 * (a : Int) + 4 + u1).toNat
            have l2 := bump_len R1 (7 * a + 4 + u1) 1
            generalize bump R1 (7 * a + 4 + u1) 1 = R2 at *
            generalize hy2 : R1.getD (7 * (a : Int) + 4 + u1).toNat 0 = y2 at *
            have d3 := bump_bd (by omega) d2 (7 * t + g2) (-1) (by omega) (by omega)
            have e3 : R2.set (7 * t + g2).toNat (R2.getD (7 * t + g2).toNat 0 - 1) = bump R2 (7 * t + g2) (-1) := rfl
            have v3 := d2 (7 * t + g2).toNat
            have l3 := bump_len R2 (7 * t + g2) (-1)
            generalize bump R2 (7 * t + g2) (-1) = R3 at *
            generalize hy3 : R2.getD (7 * t + g2).toNat 0 = y3 at *
            have e4 : R3.set (7 * t + 4 + u2).toNat (R3.getD (7 * t + 4 + u2).toNat 0 - 1) = row := hm4.symm
            have v4 := d3 (7 * t + 4 + u2).toNat
            clear d0 d1 d2 d3 hm4
            generalize hy4 : R3.getD (7 * t + 4 + u2).toNat 0 = y4 at *
            have zf0 := @rep_ints
            have zf1 := @zero1
            repeat' first | refine rb18_X28 ?_ | (first | refine ZCalls.to (l07Tets_z _ _ _) ?_ | refine ZCalls.tf (l07Tets_z _ _ _) ?_) | (first | refine ZCalls.to (hcok) ?_ | refine ZCalls.tf (hcok) ?_) | (first | refine ZCalls.to (hz1) ?_ | refine ZCalls.tf (hz1) ?_) | (first | refine ZCalls.to (hz2) ?_ | refine ZCalls.tf (hz2) ?_) | with_reducible refine And.intro (fun hc => ?_) (fun hc => ?_) | fail
            refine AWp.freezeI (t := 9) (g := H2.size) row (7 * T.length) (by exact ivY) (get_push_eq rfl) rfl rfl hml ?_
            clear e1 e2 e3 e4 v1 v2 v3 v4 hy1 hy2 hy3 hy4 hR0 l0 l1 l2 l3
            repeat' first | refine rnY ?_ | with_reducible refine And.intro (fun hc => ?_) (fun hc => ?_) | fail
            exact ⟨⟨k + 1, by rw [hsn2, hrz2, ← List.append_assoc]; exact agY, by omega, by exact exY, by rw [hsn2]; exact ivY, by exact ivY⟩, by exact ivY⟩
        · obtain rfl : k = 4 := by omega
          clear hco
          repeat' first | refine rnY ?_ | with_reducible refine And.intro (fun hc => ?_) (fun hc => ?_) | fail
          exact ⟨⟨i + 1, agY, by omega, by exact exY, by rw [hst]; exact ivY, by exact ivY⟩, by exact ivY⟩
    · obtain rfl : i = P.length := by omega
      repeat' first | refine rnY ?_ | with_reducible refine And.intro (fun hc => ?_) (fun hc => ?_) | fail
      exact hQ.out _ _ (.gz (Cl.map fun r => Cl.fz (Cl.ints r))) (by exact exY)
end Go.Proofs.YtmoknllbpjpkmaaGreat.Zed
namespace Go.Proofs.YtmoknllbpjpkmaaGreat.Zed
open Go TP
set_option linter.unusedVariables false
set_option linter.unusedSimpArgs false
set_option maxRecDepth 20000
/-- The rows of a pair. -/
def prR (T : List (List (Int × Int))) (r : List Int) : List (List Int) := srC T.length (r.getD 0 0).toNat (r.getD 1 0).toNat ((T.getD (r.getD 0 0).toNat []).getD (r.getD 1 0).toNat (0, 0)) 4
theorem srP_is (T : List (List (Int × Int))) (P : List (List Int)) : ∀ i, i ≤ P.length → srP T P i = (P.take i).flatMap (prR T)
  | 0, _ => by simp [srP]
  | i + 1, h => by
    have ih := srP_is T P i (by omega)
    have e : P.getD i [] = P[i] := by simp [show i < P.length by omega]
    rw [List.take_succ_eq_append_getElem (by omega), List.flatMap_append, ← ih, List.flatMap_singleton]
    show srP T P i ++ prR T (P.getD i []) = _
    rw [e]
theorem srC_is {n a f : Nat} (hf : f < 4) (t p : Int) : srC n a f (t, p) 4 = (othersL [(f : Int)]).map (mRow n a f t p) := by
  have : f = 0 ∨ f = 1 ∨ f = 2 ∨ f = 3 := by omega
  rcases this with rfl | rfl | rfl | rfl <;> rfl
theorem prF_fm {T : List (List (Int × Int))} {a : Nat} (hg : ∀ f, f < 4 → 0 ≤ ((T.getD a []).getD f (0, 0)).1 → 0 ≤ pm ((T.getD a []).getD f (0, 0)).2 f ∧ pm ((T.getD a []).getD f (0, 0)).2 f ≤ 3 ∧ ¬ (((T.getD a []).getD f (0, 0)).1 = a ∧ pm ((T.getD a []).getD f (0, 0)).2 f = f)) (acc : List (List Int)) :
    ∀ f, f ≤ 4 → (prF acc a (T.getD a []) f).flatMap (prR T) = acc.flatMap (prR T) ++ mFs T.length a (T.getD a []) f
  | 0, _ => by simp [prF, mFs]
  | f + 1, h => by
    have ih := prF_fm hg acc f (by omega)
    have hgf := hg f (by omega)
    unfold prF mFs
    have hR : prR T [(a : Int), (f : Int)] = srC T.length a f ((T.getD a []).getD f (0, 0)) 4 := rfl
    have hS := srC_is (n := T.length) (a := a) (show f < 4 by omega) ((T.getD a []).getD f (0, 0)).1 ((T.getD a []).getD f (0, 0)).2
    generalize (T.getD a []).getD f (0, 0) = x at *
    obtain ⟨t, p⟩ := x
    simp only at hgf hS ⊢
    have hd : prC a f (t, p) ↔ (t > (a : Int) ∨ (t = (a : Int) ∧ pm p f > f)) := Iff.rfl
    unfold mF
    by_cases h0 : t < 0
    · rw [if_neg (fun q => by have := hd.1 q; omega), if_pos h0, List.append_nil, ih]
    · rw [if_neg h0]
      obtain ⟨g1, g2, g3⟩ := hgf (by omega)
      by_cases hc : prC a f (t, p)
      · have hc' := hd.1 hc
        rw [if_pos hc, if_neg (by omega), List.flatMap_append, ih, List.append_assoc, List.flatMap_singleton, hR, hS]
      · have hc' : ¬ (t > (a : Int) ∨ (t = (a : Int) ∧ pm p f > f)) := fun q => hc (hd.2 q)
        rw [if_neg hc, if_pos (by omega), List.append_nil, ih]
/-- The two sides have the same rows. -/
theorem rows_same {T : List (List (Int × Int))} (hT : IsTri T) : srP T (prT T T.length) (prT T T.length).length = mmR T := by
  rw [srP_is T _ _ (Nat.le_refl _), List.take_length]
  have key : ∀ a, a ≤ T.length → (prT T a).flatMap (prR T) = mTs T.length T a := by
    intro a
    induction a with
    | zero => intro _; simp [prT, mTs]
    | succ a ih =>
      intro h
      show (prF (prT T a) a (T.getD a []) 4).flatMap (prR T) = mTs T.length T a ++ mFs T.length a (T.getD a []) 4
      rw [← ih (by omega)]
      refine prF_fm (fun f hf h0 => ?_) _ 4 (Nat.le_refl _)
      have hg := hT.2.2 a (by omega) f hf
      rw [gd_def] at hg
      change 0 ≤ (fc T a f).1 at h0
      show 0 ≤ pm (fc T a f).2 f ∧ pm (fc T a f).2 f ≤ 3 ∧ ¬ ((fc T a f).1 = a ∧ pm (fc T a f).2 f = f)
      rw [if_neg (by omega)] at hg
      obtain ⟨_, ⟨p1, p2⟩, _, p3⟩ := hg
      have := pm_bd (fc T a f).2 f p1 (by omega) (by omega) (by omega)
      refine ⟨by omega, by omega, fun q => ?_⟩
      rcases p3 with p3 | p3
      · exact p3 q.1
      · exact p3 q.2
  exact key _ (Nat.le_refl _)
end Go.Proofs.YtmoknllbpjpkmaaGreat.Zed
namespace Go.Proofs.YtmoknllbpjpkmaaGreat.Zed
open Go TP
set_option linter.unusedVariables false
set_option linter.unusedSimpArgs false
set_option maxRecDepth 20000
end Go.Proofs.YtmoknllbpjpkmaaGreat.Zed
namespace Go.Proofs.YtmoknllbpjpkmaaGreat.Zed
open Go TP
set_option linter.unusedVariables false
set_option linter.unusedSimpArgs false
set_option maxRecDepth 20000
namespace tfX15
theorem tf : True := trivial
end tfX15
open tfX15

theorem l01In_z (x lo hi : Int) : ZCalls Tryz.prog 88 [I x, I lo, I hi] (B (decide (lo ≤ x ∧ x ≤ hi))) := by
  by_cases h1 : lo ≤ x
  · have h1' : x ≥ lo := h1
    by_cases h2 : x ≤ hi
    · rw [decide_eq_true (show lo ≤ x ∧ x ≤ hi from ⟨h1, h2⟩)]
      refine ZCalls.body Tryz.func88 rfl Tryz.ntmps88 (rs := [.tmp 6]) rfl (by simp) rfl fun H Q hQ A hA => ?_
      have a0 := hA 0 _ _ rfl
      have a1 := hA 1 _ _ rfl
      have a2 := hA 2 _ _ rfl
      clear hA
      repeat' first | refine rnY ?_ | with_reducible refine And.intro (fun hc => ?_) (fun hc => ?_) | fail
      exact hQ.out _ _ (fv) (by exact exY)
    · rw [decide_eq_false (show ¬ (lo ≤ x ∧ x ≤ hi) from fun h => h2 h.2)]
      refine ZCalls.body Tryz.func88 rfl Tryz.ntmps88 (rs := [.tmp 6]) rfl (by simp) rfl fun H Q hQ A hA => ?_
      have a0 := hA 0 _ _ rfl
      have a1 := hA 1 _ _ rfl
      have a2 := hA 2 _ _ rfl
      clear hA
      repeat' first | refine rnY ?_ | with_reducible refine And.intro (fun hc => ?_) (fun hc => ?_) | fail
      exact hQ.out _ _ (fv) (by exact exY)
  · have h1' : ¬ x ≥ lo := h1
    rw [decide_eq_false (show ¬ (lo ≤ x ∧ x ≤ hi) from fun h => h1 h.1)]
    refine ZCalls.body Tryz.func88 rfl Tryz.ntmps88 (rs := [.tmp 6]) rfl (by simp) rfl fun H Q hQ A hA => ?_
    have a0 := hA 0 _ _ rfl
    have a1 := hA 1 _ _ rfl
    have a2 := hA 2 _ _ rfl
    clear hA
    repeat' first | refine rnY ?_ | with_reducible refine And.intro (fun hc => ?_) (fun hc => ?_) | fail
    exact hQ.out _ _ (fv) (by exact exY)
theorem rowsZ_at {C : Nat} {L : List (List Int)} {i : Nat} (hi : i < L.length) : (rowsZ C L)[i]? = some (FZ 1 C (ints (L.getD i []))) := by
  simp [rowsZ, hi]
end Go.Proofs.YtmoknllbpjpkmaaGreat.Zed
namespace Go.Proofs.YtmoknllbpjpkmaaGreat.Zed
open Go TP
set_option linter.unusedVariables false
set_option linter.unusedSimpArgs false
set_option maxRecDepth 20000
namespace tfX30
theorem tf : (Tryz.prog.underlying 25 = some (.slice 2)) ∧ (el Tryz.prog 25 = some (none, 1)) ∧ (Tryz.prog.underlying 37 = some (.slice 25)) ∧ (el Tryz.prog 37 = some (none, 1)) ∧ (tk Tryz.prog 2 = some none) ∧ (tk Tryz.prog 25 = some none) ∧ (tk Tryz.prog 31 = some (some 1)) ∧ (cz Tryz.prog 2 = some 1) ∧ (bz Tryz.prog 2 = some 8) ∧ (cz Tryz.prog 25 = some 1) ∧ (bz Tryz.prog 25 = some 24) ∧ (zr Tryz.prog 2 = some (.int .i64 0)) ∧ (zr Tryz.prog 25 = some (.slice none 0 0)) := by
  refine ⟨?_, ?_, ?_, ?_, ?_, ?_, ?_, ?_, ?_, ?_, ?_, ?_, ?_⟩ <;> kernel_rfl
end tfX30
open tfX30

set_option maxHeartbeats 4000000 in
theorem specIsNormal_z {T : List (List (Int × Int))} (hl : T.length ≤ 1048576) (v : List Int) (hv : v.length ≤ 1048576) : ZCalls Tryz.prog 60 [zT T, zI v] (B (decide (codeN T = 0 ∧ NrI T v))) := by
  have hc := l17Code_z hl
  by_cases h : codeN T = 0
  · have hT := codeN_ok h
    have h6 := codeN_six h
    have hrows := l17Rows_z hT.fine
    rw [rows_same hT] at hrows
    have hS1 := mmR_rows T
    have hS2 : ∀ r ∈ mmR T, ∀ j, -4 ≤ r.getD j 0 ∧ r.getD j 0 ≤ 4 := mTs_bd T.length T T.length
    have hS3 := mmR_len T
    rw [h] at hc
    by_cases h2 : v.length = 7 * T.length
    · have h2b : ((v.length : Int) == 7 * (T.length : Int)) = true := by rw [beq_iff_eq]; omega
      have hfal : ∀ j, j < v.length → ¬ (0 ≤ v.getD j 0 ∧ v.getD j 0 ≤ 1000) → decide (codeN T = 0 ∧ NrI T v) = false := fun j hj q => decide_eq_false fun z => q (z.2.2.1 j hj)
      have hfal2 : ∀ i, i < (mmR T).length → ¬ dotL ((mmR T).getD i []) v v.length = 0 → decide (codeN T = 0 ∧ NrI T v) = false := fun i hi q => decide_eq_false fun z => q (by rw [h2]; exact z.2.2.2 i hi)
      have htru : (∀ j, j < v.length → 0 ≤ v.getD j 0 ∧ v.getD j 0 ≤ 1000) → (∀ i, i < (mmR T).length → dotL ((mmR T).getD i []) v v.length = 0) → decide (codeN T = 0 ∧ NrI T v) = true := fun q1 q2 => decide_eq_true ⟨h, h2, q1, by rw [← h2]; exact q2⟩
      rw [← h2] at hS1 hrows
      generalize decide (codeN T = 0 ∧ NrI T v) = out at *
      generalize mmR T = S at *
      have hSl : S.length ≤ 1000 := by omega
      have hvl : v.length ≤ 42 := by omega
      clear hS3 h h2 hT
      refine ZCalls.body Tryz.func60 rfl Tryz.ntmps60 (rs := [.tmp 4]) rfl (by simp) rfl fun H Q hQ A hA => ?_
      have a0 := hA 0 _ _ rfl
      have a1 := hA 1 _ _ rfl
      clear hA
      repeat' first | refine rnY ?_ | (first | refine ZCalls.to (hc) ?_ | refine ZCalls.tf (hc) ?_) | (first | refine ZCalls.to (l07Tets_z _ _ _) ?_ | refine ZCalls.tf (l07Tets_z _ _ _) ?_) | with_reducible refine And.intro (fun hc => ?_) (fun hc => ?_) | fail
      refine AWp.cut (fun Ac hAc => ?_)
      have c1 := gtY (t := 1) hAc
      have c2 := gtY (t := 2) hAc
      have c5 := gtY (t := 5) hAc
      clear a0 a1 hc h2b
      refine AWp.loop (fun A' H' => ∃ (k : Nat), Ag [19, 20, 21, 22, 23, 24, 25, 26, 27, 28, 29, 30] A' (put Ac (some 5) (I k)) ∧ k ≤ v.length ∧ (∀ j, j < k → 0 ≤ v.getD j 0 ∧ v.getD j 0 ≤ 1000) ∧ Ext H H') (fun A' _ => v.length - (intV (A' 5)).toNat) ?_ ?_
      · exact ⟨0, agY, by omega, fun j hj => by omega, by exact exY⟩
      · rintro A1 H1 ⟨k, hA1, hk, hno, hx⟩
        have d1 := gdY (t := 1) hA1
        have d2 := gdY (t := 2) hA1
        have d5 := gdY (t := 5) hA1
        by_cases hlt : k < v.length
        · have hin := l01In_z (v.getD k 0) 0 1000
          clear hrows hfal2 htru hS1 hS2
          by_cases hp : 0 ≤ v.getD k 0 ∧ v.getD k 0 ≤ 1000
          · rw [decide_eq_true hp] at hin
            repeat' first | refine rnY ?_ | (first | refine ZCalls.to (hin) ?_ | refine ZCalls.tf (hin) ?_) | with_reducible refine And.intro (fun hc => ?_) (fun hc => ?_) | fail
            exact ⟨⟨k + 1, agY, by omega, fun j hj => by
              by_cases e : j = k
              · rw [e]; exact hp
              · exact hno j (by omega), by exact exY⟩, by exact ivY⟩
          · rw [decide_eq_false hp] at hin
            rw [hfal k hlt hp] at hQ
            repeat' first | refine rnY ?_ | (first | refine ZCalls.to (hin) ?_ | refine ZCalls.tf (hin) ?_) | with_reducible refine And.intro (fun hc => ?_) (fun hc => ?_) | fail
            exact hQ.out _ _ (fv) (by exact exY)
        · obtain rfl : k = v.length := by omega
          have htru := htru hno
          repeat' first | refine rnY ?_ | (first | refine ZCalls.to (hrows) ?_ | refine ZCalls.tf (hrows) ?_) | with_reducible refine And.intro (fun hc => ?_) (fun hc => ?_) | fail
          refine AWp.cut (fun Ae hAe => ?_)
          have e1 := gtY (t := 1) hAe
          have e6 := gtY (t := 6) hAe
          have e7 := gtY (t := 7) hAe
          clear hrows hfal
          refine AWp.loop (fun A' H' => ∃ (i : Nat), Ag [33, 34, 35, 36, 37, 38, 39, 40, 41, 42, 43, 44, 45] A' (put Ae (some 7) (I i)) ∧ i ≤ S.length ∧ (∀ r, r < i → dotL (S.getD r []) v v.length = 0) ∧ Ext H1 H') (fun A' _ => S.length - (intV (A' 7)).toNat) ?_ ?_
          · exact ⟨0, agY, by omega, fun j hj => by omega, by exact exY⟩
          · rintro A2 H2 ⟨i, hA2, hi, hyes, hx2⟩
            have f1 := gdY (t := 1) hA2
            have f6 := gdY (t := 6) hA2
            have f7 := gdY (t := 7) hA2
            by_cases hlt2 : i < S.length
            · have hrl := hS1 (S.getD i []) (by simp [hlt2])
              have hbd := hS2 (S.getD i []) (by simp [hlt2])
              have hat := rowsZ_at (C := v.length) hlt2
              have hfal2 := hfal2 i hlt2
              generalize hrow : S.getD i [] = row at *
              have hdot := l17Dot_z (a := row) (b := v) (A := 4) (B' := 1000) (n := v.length) hrl (Nat.le_refl _) (by omega) (by omega) (by omega) (by omega) hbd
                (fun j => by
                  by_cases hj : j < v.length
                  · have := hno j hj; omega
                  · rw [List.getD_eq_getElem?_getD, List.getElem?_eq_none (by omega)]; simp)
              generalize hs : dotL row v v.length = s at *
              by_cases hsq : s = 0
              · have hsb : (s == 0) = true := by rw [beq_iff_eq]; exact hsq
                have hnx : ∀ r, r < i + 1 → dotL (S.getD r []) v v.length = 0 := fun r hr => by
                  by_cases e : r = i
                  · rw [e, hrow, hs]; exact hsq
                  · exact hyes r (by omega)
                clear htru hfal2 hno hbd hS1 hS2 hyes
                clear hsq
                repeat' first | refine rnY ?_ | (first | refine ZCalls.to (hdot) ?_ | refine ZCalls.tf (hdot) ?_) | with_reducible refine And.intro (fun hc => ?_) (fun hc => ?_) | fail
                exact ⟨⟨i + 1, agY, by omega, hnx, by exact exY⟩, by exact ivY⟩
              · have hsb : (s == 0) = false := by rw [beq_eq_false_iff_ne]; exact hsq
                rw [hfal2 hsq] at hQ
                clear htru hfal2 hno hbd hS1 hS2 hyes
                clear hsq
                repeat' first | refine rnY ?_ | (first | refine ZCalls.to (hdot) ?_ | refine ZCalls.tf (hdot) ?_) | with_reducible refine And.intro (fun hc => ?_) (fun hc => ?_) | fail
                exact hQ.out _ _ (fv) (by exact exY)
            · obtain rfl : i = S.length := by omega
              rw [htru hyes] at hQ
              clear hfal2 hS1 hS2
              repeat' first | refine rnY ?_ | with_reducible refine And.intro (fun hc => ?_) (fun hc => ?_) | fail
              exact hQ.out _ _ (fv) (by exact exY)
    · have h2b : ((v.length : Int) == 7 * (T.length : Int)) = false := by rw [beq_eq_false_iff_ne]; omega
      rw [decide_eq_false (show ¬ (codeN T = 0 ∧ NrI T v) from fun q => h2 q.2.1)]
      clear h2 hrows hS1 hS2 hS3
      refine ZCalls.body Tryz.func60 rfl Tryz.ntmps60 (rs := [.tmp 4]) rfl (by simp) rfl fun H Q hQ A hA => ?_
      have a0 := hA 0 _ _ rfl
      have a1 := hA 1 _ _ rfl
      clear hA
      repeat' first | refine rnY ?_ | (first | refine ZCalls.to (hc) ?_ | refine ZCalls.tf (hc) ?_) | (first | refine ZCalls.to (l07Tets_z _ _ _) ?_ | refine ZCalls.tf (l07Tets_z _ _ _) ?_) | with_reducible refine And.intro (fun hc => ?_) (fun hc => ?_) | fail
      exact hQ.out _ _ (fv) (by exact exY)
  · have hcb : (codeN T == 0) = false := by rw [beq_eq_false_iff_ne]; exact h
    rw [decide_eq_false (show ¬ (codeN T = 0 ∧ NrI T v) from fun q => h q.1)]
    generalize codeN T = c at *
    clear h
    refine ZCalls.body Tryz.func60 rfl Tryz.ntmps60 (rs := [.tmp 4]) rfl (by simp) rfl fun H Q hQ A hA => ?_
    have a0 := hA 0 _ _ rfl
    have a1 := hA 1 _ _ rfl
    clear hA
    repeat' first | refine rnY ?_ | (first | refine ZCalls.to (hc) ?_ | refine ZCalls.tf (hc) ?_) | with_reducible refine And.intro (fun hc => ?_) (fun hc => ?_) | fail
    exact hQ.out _ _ (fv) (by exact exY)
end Go.Proofs.YtmoknllbpjpkmaaGreat.Zed
namespace Go.Proofs.YtmoknllbpjpkmaaGreat.Zed
open Go TP
set_option linter.unusedVariables false
set_option linter.unusedSimpArgs false
set_option maxRecDepth 20000
namespace tfY5
theorem tf : (Tryz.prog.underlying 25 = some (.slice 2)) ∧ (el Tryz.prog 25 = some (none, 1)) ∧ (tk Tryz.prog 2 = some none) ∧ (tk Tryz.prog 31 = some (some 1)) ∧ (cz Tryz.prog 2 = some 1) ∧ (bz Tryz.prog 2 = some 8) ∧ (zr Tryz.prog 2 = some (.int .i64 0)) := by
  refine ⟨?_, ?_, ?_, ?_, ?_, ?_, ?_⟩ <;> kernel_rfl
end tfY5
open tfY5

set_option maxHeartbeats 4000000 in
theorem l17One_z {v : List Int} {cnt : Nat} (hL : v.length = 7 * cnt) (hl : v.length ≤ 1000000) (h0 : ∀ j, 0 ≤ v.getD j 0) : ZCalls Tryz.prog 61 [zI v] (B (one7 v cnt)) := by
  have hgt : ∀ j k, k < 3 → v.getD (7 * j + 4 + k) 0 = ((partL 7 v j).drop 4).getD k 0 := fun j k hk => by
    simp [partL, List.getD_eq_getElem?_getD, List.getElem?_take, List.getElem?_drop, show 4 + k < 7 by omega, Nat.add_assoc]
  have hno : ∀ j, j < cnt → qOk v j = false → one7 v cnt = false := fun j hj h => by
    unfold one7
    rw [List.all_eq_false]
    exact ⟨j, List.mem_range.2 hj, by rw [h]; decide⟩
  have hyes : (∀ j, j < cnt → qOk v j = true) → one7 v cnt = true := fun h => by
    unfold one7
    rw [List.all_eq_true]
    exact fun i hi => h i (List.mem_range.1 hi)
  generalize one7 v cnt = out at *
  refine ZCalls.body Tryz.func61 rfl Tryz.ntmps61 (rs := [.tmp 2]) rfl (by simp) rfl fun H Q hQ A hA => ?_
  have a0 := hA 0 _ _ rfl
  clear hA
  repeat' first | refine rnY ?_ | with_reducible refine And.intro (fun hc => ?_) (fun hc => ?_) | fail
  refine AWp.cut (fun Ac hAc => ?_)
  have c0 := gtY (t := 0) hAc
  have c3 := gtY (t := 3) hAc
  clear a0
  refine AWp.loop (fun A' H' => ∃ (j : Nat), Ag [4, 5, 6, 7, 8, 9, 10, 11, 12, 13, 14, 15, 16, 17, 18, 19, 20, 21, 22, 23, 24, 25, 26, 27] A' (put Ac (some 3) (I (7 * j))) ∧ j ≤ cnt ∧ (∀ i, i < j → qOk v i = true) ∧ Ext H H') (fun A' _ => cnt * 7 - (intV (A' 3)).toNat) ?_ ?_
  · exact ⟨0, agY, by omega, fun i hi => by omega, by exact exY⟩
  · rintro A1 H1 ⟨j, hA1, hj, hok, hx⟩
    have d0 := gdY (t := 0) hA1
    have d3 := gdY (t := 3) hA1
    by_cases hlt : j < cnt
    · have hgj := hgt j
      have hq : qOk v j = decide ((supT ((partL 7 v j).drop 4) 3).length ≤ 1) := rfl
      have hnj := hno j hlt
      clear hgt hno hyes
      generalize (partL 7 v j).drop 4 = r at *
      have e0 : supT r 0 = [] := rfl
      repeat' first | refine rnY ?_ | with_reducible refine And.intro (fun hc => ?_) (fun hc => ?_) | fail
      refine AWp.cut (fun Ae hAe => ?_)
      have e0 := gtY (t := 0) hAe
      have e3 := gtY (t := 3) hAe
      have e4 := gtY (t := 4) hAe
      have e5 := gtY (t := 5) hAe
      refine AWp.loop (fun A' H' => ∃ (k : Nat), Ag [13, 14, 15, 16, 17, 18, 19, 20, 21, 22, 23, 24, 25] A' (put (put Ae (some 4) (I (supT r k).length)) (some 5) (I (4 + k))) ∧ k ≤ 3 ∧ Ext H H') (fun A' _ => 7 - (intV (A' 5)).toNat) ?_ ?_
      · exact ⟨0, agY, by omega, by exact exY⟩
      · rintro A2 H2 ⟨k, hB, hk, hx2⟩
        have f0 := gdY (t := 0) hB
        have f3 := gdY (t := 3) hB
        have f4 := gdY (t := 4) hB
        have f5 := gdY (t := 5) hB
        by_cases hk3 : k < 3
        · have hg := hgj k hk3
          have h00 := h0 (7 * j + 4 + k)
          have hs1 : supT r (k + 1) = if r.getD k 0 ≠ 0 then supT r k ++ [(k : Int)] else supT r k := rfl
          have hsl := supT_len r k
          have hi : (7 * (j : Int) + (4 + (k : Int))).toNat = 7 * j + 4 + k := by omega
          rw [← hg] at hs1
          generalize supT r k = S at *
          clear hgj h0 hq hnj hok
          by_cases hb : v.getD (7 * j + 4 + k) 0 = 0
          · rw [if_neg (fun h => h hb)] at hs1
            have hbb : decide (v.getD (7 * j + 4 + k) 0 > 0) = false := by rw [decide_eq_false]; omega
            repeat' first | refine rnY ?_ | with_reducible refine And.intro (fun hc => ?_) (fun hc => ?_) | fail
            exact ⟨⟨k + 1, by rw [hs1]; exact agY, by omega, by exact exY⟩, by exact ivY⟩
          · rw [if_pos hb] at hs1
            have hbb : decide (v.getD (7 * j + 4 + k) 0 > 0) = true := by rw [decide_eq_true]; omega
            have hln : ((supT r (k + 1)).length : Int) = S.length + 1 := by rw [hs1]; simp
            clear hs1
            repeat' first | refine rnY ?_ | with_reducible refine And.intro (fun hc => ?_) (fun hc => ?_) | fail
            exact ⟨⟨k + 1, by rw [hln]; exact agY, by omega, by exact exY⟩, by exact ivY⟩
        · obtain rfl : k = 3 := by omega
          have hsl := supT_len r 3
          generalize supT r 3 = S at *
          clear hgj
          by_cases hS : S.length ≤ 1
          · rw [decide_eq_true hS] at hq
            have hb : decide ((S.length : Int) > 1) = false := by simp; omega
            repeat' first | refine rnY ?_ | with_reducible refine And.intro (fun hc => ?_) (fun hc => ?_) | fail
            exact ⟨⟨j + 1, agY, by omega, fun i hi => by
              rcases Nat.lt_or_ge i j with h | h
              · exact hok i h
              · obtain rfl : i = j := by omega
                exact hq, by exact exY⟩, by exact ivY⟩
          · rw [decide_eq_false hS] at hq
            have hb : decide ((S.length : Int) > 1) = true := by simp; omega
            have hout := hnj hq
            repeat' first | refine rnY ?_ | with_reducible refine And.intro (fun hc => ?_) (fun hc => ?_) | fail
            exact hQ.out _ _ (.eq (Cl.bool _) (by rw [hout])) (by exact exY)
    · obtain rfl : j = cnt := by omega
      have hout := hyes hok
      clear hgt hno hyes hok
      repeat' first | refine rnY ?_ | with_reducible refine And.intro (fun hc => ?_) (fun hc => ?_) | fail
      exact hQ.out _ _ (.eq (Cl.bool _) (by rw [hout])) (by exact exY)
theorem nrI_bd {T : List (List (Int × Int))} {v : List Int} (h : NrI T v) : ∀ j, 0 ≤ v.getD j 0 ∧ v.getD j 0 ≤ 1000 := fun j => by
  by_cases hj : j < v.length
  · exact h.2.1 j hj
  · rw [List.getD_eq_getElem?_getD, List.getElem?_eq_none (by omega)]; decide
/-- An admissible vector. -/
def AdI (T : List (List (Int × Int))) (v : List Int) : Prop := NrI T v ∧ one7 v T.length = true
instance (T : List (List (Int × Int))) (v : List Int) : Decidable (AdI T v) := by unfold AdI; infer_instance
theorem isAdmissible_z {T : List (List (Int × Int))} (hF : Fine T) (v : List Int) (hv : v.length ≤ 1048576) : ZCalls Tryz.prog 77 [zT T, zI v] (B (decide (AdI T v))) := by
  have hn := isNormal_z hF v hv
  have h8 := hF.1
  by_cases h : NrI T v
  · have ho := hasOneType_z (v := v) (cnt := T.length) h.1 (by have := h.1; omega)
    rw [decide_eq_true h] at hn
    have e : decide (AdI T v) = one7 v T.length := by unfold AdI; simp [h]
    rw [e]
    clear e h h8
    generalize one7 v T.length = b at *
    refine ZCalls.body Tryz.func77 rfl Tryz.ntmps77 (rs := [.tmp 4]) rfl (by simp) rfl fun H Q hQ A hA => ?_
    have a0 := hA 0 _ _ rfl
    have a1 := hA 1 _ _ rfl
    clear hA
    repeat' first | refine rnY ?_ | (first | refine ZCalls.to (hn) ?_ | refine ZCalls.tf (hn) ?_) | (first | refine ZCalls.to (ho) ?_ | refine ZCalls.tf (ho) ?_) | with_reducible refine And.intro (fun hc => ?_) (fun hc => ?_) | fail
    exact hQ.out _ _ (fv) (by exact exY)
  · rw [decide_eq_false h] at hn
    rw [decide_eq_false (fun q : AdI T v => h q.1)]
    clear h
    refine ZCalls.body Tryz.func77 rfl Tryz.ntmps77 (rs := [.tmp 4]) rfl (by simp) rfl fun H Q hQ A hA => ?_
    have a0 := hA 0 _ _ rfl
    have a1 := hA 1 _ _ rfl
    clear hA
    repeat' first | refine rnY ?_ | (first | refine ZCalls.to (hn) ?_ | refine ZCalls.tf (hn) ?_) | with_reducible refine And.intro (fun hc => ?_) (fun hc => ?_) | fail
    exact hQ.out _ _ (fv) (by exact exY)
theorem specIsAdmissible_z {T : List (List (Int × Int))} (hl : T.length ≤ 1048576) (v : List Int) (hv : v.length ≤ 1048576) : ZCalls Tryz.prog 37 [zT T, zI v] (B (decide (codeN T = 0 ∧ AdI T v))) := by
  have hn := specIsNormal_z hl v hv
  by_cases h : codeN T = 0 ∧ NrI T v
  · have h6 := codeN_six h.1
    have ho := l17One_z (v := v) (cnt := T.length) h.2.1 (by have := h.2.1; omega) (fun j => (nrI_bd h.2 j).1)
    rw [decide_eq_true h] at hn
    have e : decide (codeN T = 0 ∧ AdI T v) = one7 v T.length := by unfold AdI; simp [h]
    rw [e]
    clear e h h6
    generalize one7 v T.length = b at *
    refine ZCalls.body Tryz.func37 rfl Tryz.ntmps37 (rs := [.tmp 4]) rfl (by simp) rfl fun H Q hQ A hA => ?_
    have a0 := hA 0 _ _ rfl
    have a1 := hA 1 _ _ rfl
    clear hA
    repeat' first | refine rnY ?_ | (first | refine ZCalls.to (hn) ?_ | refine ZCalls.tf (hn) ?_) | (first | refine ZCalls.to (ho) ?_ | refine ZCalls.tf (ho) ?_) | with_reducible refine And.intro (fun hc => ?_) (fun hc => ?_) | fail
    exact hQ.out _ _ (fv) (by exact exY)
  · rw [decide_eq_false h] at hn
    rw [decide_eq_false (fun q : codeN T = 0 ∧ AdI T v => h ⟨q.1, q.2.1⟩)]
    clear h
    refine ZCalls.body Tryz.func37 rfl Tryz.ntmps37 (rs := [.tmp 4]) rfl (by simp) rfl fun H Q hQ A hA => ?_
    have a0 := hA 0 _ _ rfl
    have a1 := hA 1 _ _ rfl
    clear hA
    repeat' first | refine rnY ?_ | (first | refine ZCalls.to (hn) ?_ | refine ZCalls.tf (hn) ?_) | with_reducible refine And.intro (fun hc => ?_) (fun hc => ?_) | fail
    exact hQ.out _ _ (fv) (by exact exY)
end Go.Proofs.YtmoknllbpjpkmaaGreat.Zed
namespace Go.Proofs.YtmoknllbpjpkmaaGreat.Zed
open Go TP
set_option linter.unusedVariables false
set_option linter.unusedSimpArgs false
set_option maxRecDepth 20000
namespace tfY6
theorem tf : (Tryz.prog.underlying 25 = some (.slice 2)) ∧ (el Tryz.prog 25 = some (none, 1)) ∧ (tk Tryz.prog 2 = some none) ∧ (tk Tryz.prog 31 = some (some 1)) ∧ (cz Tryz.prog 2 = some 1) ∧ (bz Tryz.prog 2 = some 8) ∧ (zr Tryz.prog 2 = some (.int .i64 0)) := by
  refine ⟨?_, ?_, ?_, ?_, ?_, ?_, ?_⟩ <;> kernel_rfl
end tfY6
open tfY6

/-- The code of a vector that is to be admissible. -/
def aC (T : List (List (Int × Int))) (v : List Int) : Int := if codeN T = 0 then (if AdI T v then 0 else 5) else codeN T
theorem aC_ok {T : List (List (Int × Int))} {v : List Int} (h : aC T v = 0) : codeN T = 0 ∧ AdI T v := by
  unfold aC at h
  split at h
  · rename_i h0
    split at h
    · rename_i h1; exact ⟨h0, h1⟩
    · cases h
  · rename_i h0; exact absurd h h0
theorem admissibleCode_z {T : List (List (Int × Int))} (hl : T.length ≤ 1048576) (v : List Int) (hv : v.length ≤ 1048576) : ZCalls Tryz.prog 51 [zT T, zI v] (I (aC T v)) := by
  have hc := normalCode_z hl
  unfold aC
  by_cases h : codeN T = 0
  · rw [if_pos h]
    have ha := isAdmissible_z (codeN_ok h).fine v hv
    rw [h] at hc
    by_cases h1 : AdI T v
    · rw [if_pos h1]
      rw [decide_eq_true h1] at ha
      clear h1 h
      refine ZCalls.body Tryz.func51 rfl Tryz.ntmps51 (rs := [.tmp 4]) rfl (by simp) rfl fun H Q hQ A hA => ?_
      have a0 := hA 0 _ _ rfl
      have a1 := hA 1 _ _ rfl
      clear hA
      repeat' first | refine rnY ?_ | (first | refine ZCalls.to (hc) ?_ | refine ZCalls.tf (hc) ?_) | (first | refine ZCalls.to (ha) ?_ | refine ZCalls.tf (ha) ?_) | with_reducible refine And.intro (fun hc => ?_) (fun hc => ?_) | fail
      exact hQ.out _ _ (fv) (by exact exY)
    · rw [if_neg h1]
      rw [decide_eq_false h1] at ha
      clear h1 h
      refine ZCalls.body Tryz.func51 rfl Tryz.ntmps51 (rs := [.tmp 4]) rfl (by simp) rfl fun H Q hQ A hA => ?_
      have a0 := hA 0 _ _ rfl
      have a1 := hA 1 _ _ rfl
      clear hA
      repeat' first | refine rnY ?_ | (first | refine ZCalls.to (hc) ?_ | refine ZCalls.tf (hc) ?_) | (first | refine ZCalls.to (ha) ?_ | refine ZCalls.tf (ha) ?_) | with_reducible refine And.intro (fun hc => ?_) (fun hc => ?_) | fail
      exact hQ.out _ _ (fv) (by exact exY)
  · rw [if_neg h]
    have hcb : (codeN T == 0) = false := by rw [beq_eq_false_iff_ne]; exact h
    generalize codeN T = k at *
    clear h
    refine ZCalls.body Tryz.func51 rfl Tryz.ntmps51 (rs := [.tmp 4]) rfl (by simp) rfl fun H Q hQ A hA => ?_
    have a0 := hA 0 _ _ rfl
    have a1 := hA 1 _ _ rfl
    clear hA
    repeat' first | refine rnY ?_ | (first | refine ZCalls.to (hc) ?_ | refine ZCalls.tf (hc) ?_) | with_reducible refine And.intro (fun hc => ?_) (fun hc => ?_) | fail
    exact hQ.out _ _ (fv) (by exact exY)
/-- The number of candidates below k, cut at 20001. -/
def candS (v : List Int) : Nat → Int
  | 0 => 1
  | k + 1 => min (candS v k * (v.getD k 0 + 1)) 20001
theorem candS_bd {v : List Int} (h : ∀ j, 0 ≤ v.getD j 0) : ∀ k, 1 ≤ candS v k ∧ candS v k ≤ 20001
  | 0 => by simp [candS]
  | k + 1 => by
    have ih := candS_bd h k
    have hk := h k
    have := Int.mul_le_mul_of_nonneg_left (show (1 : Int) ≤ v.getD k 0 + 1 by omega) (show 0 ≤ candS v k by omega)
    rw [Int.mul_one] at this
    unfold candS; omega
theorem candS_top {v : List Int} (h : ∀ j, 0 ≤ v.getD j 0) {k : Nat} (hk : candS v k = 20001) : ∀ d, candS v (k + d) = 20001
  | 0 => hk
  | d + 1 => by
    have ih := candS_top h hk d
    have h1 := h (k + d)
    show min (candS v (k + d) * (v.getD (k + d) 0 + 1)) 20001 = 20001
    rw [ih]; omega
theorem candFn_z (x : Int) : ZCalls Tryz.prog 79 [I x] (B (!decide (0 ≤ x ∧ x ≤ 1000))) := by
  have hr := inRange_z x 0 1000
  refine ZCalls.body Tryz.func79 rfl Tryz.ntmps79 (rs := [.tmp 2]) rfl (by simp) rfl fun H Q hQ A hA => ?_
  have a0 := hA 0 _ _ rfl
  clear hA
  repeat' first | refine rnY ?_ | (first | refine ZCalls.to (hr) ?_ | refine ZCalls.tf (hr) ?_) | with_reducible refine And.intro (fun hc => ?_) (fun hc => ?_) | fail
  exact hQ.out _ _ (fv) (by exact exY)
theorem any_no {v : List Int} (h : ∀ j, 0 ≤ v.getD j 0 ∧ v.getD j 0 ≤ 1000) : (v.any fun x => !decide (0 ≤ x ∧ x ≤ 1000)) = false := by
  rw [List.any_eq_false]
  intro x hx
  obtain ⟨i, hi, rfl⟩ := List.getElem_of_mem hx
  have := h i
  simp [hi] at this
  simp [this]
set_option maxHeartbeats 4000000 in
theorem candidateCount_z {v : List Int} (hl : v.length ≤ 1048576) (h : ∀ j, 0 ≤ v.getD j 0 ∧ v.getD j 0 ≤ 1000) : ZCalls Tryz.prog 52 [zI v] (I (candS v v.length)) := by
  have hcn := containsN_z (F := 79) (xs := #[]) hl (fun x _ => candFn_z x)
  rw [any_no h] at hcn
  have hbd := candS_bd fun j => (h j).1
  have htop := fun k => candS_top (fun j => (h j).1) (k := k)
  have hst : ∀ k, candS v (k + 1) = min (candS v k * (v.getD k 0 + 1)) 20001 := fun k => rfl
  have h0 : candS v 0 = 1 := rfl
  refine ZCalls.body Tryz.func52 rfl Tryz.ntmps52 (rs := [.tmp 2]) rfl (by simp) rfl fun H Q hQ A hA => ?_
  have a0 := hA 0 _ _ rfl
  clear hA
  repeat' first | refine rnY ?_ | (first | refine ZCalls.to (hcn) ?_ | refine ZCalls.tf (hcn) ?_) | with_reducible refine And.intro (fun hc => ?_) (fun hc => ?_) | fail
  refine AWp.cut (fun Ac hAc => ?_)
  have c8 := gtY (t := 8) hAc
  have c9 := gtY (t := 9) hAc
  have c3 := gtY (t := 3) hAc
  have c10 := gtY (t := 10) hAc
  clear a0 hcn
  refine AWp.loop (fun A' H' => ∃ (k : Nat), Ag [5, 11, 12, 13, 14, 15, 16, 17, 18, 19, 20] A' (put (put Ac (some 3) (I (candS v k))) (some 10) (I k)) ∧ k ≤ v.length ∧ candS v k ≤ 20000 ∧ Ext H H') (fun A' _ => v.length - (intV (A' 10)).toNat) ?_ ?_
  · exact ⟨0, by rw [h0]; exact agY, by omega, by rw [h0]; decide, by exact exY⟩
  · rintro A1 H1 ⟨k, hA1, hk, hc, hx⟩
    have d3 := gdY (t := 3) hA1
    have d8 := gdY (t := 8) hA1
    have d9 := gdY (t := 9) hA1
    have d10 := gdY (t := 10) hA1
    by_cases hlt : k < v.length
    · have hst := hst k
      have hb1 := (hbd k).1
      have hvk := h k
      have hup : candS v k * (v.getD k 0 + 1) ≤ 20000 * 1001 := Int.mul_le_mul (by omega) (by omega) (by omega) (by omega)
      have hlo : 0 ≤ candS v k * (v.getD k 0 + 1) := Int.mul_nonneg (by omega) (by omega)
      have htop := htop (k + 1)
      clear hbd h h0
      generalize candS v k = x at *
      generalize hp : x * (v.getD k 0 + 1) = p at *
      by_cases hgt : p > 20000
      · have hbb : decide (p > 20000) = true := decide_eq_true hgt
        have hout := htop (by omega) (v.length - (k + 1))
        rw [show k + 1 + (v.length - (k + 1)) = v.length by omega] at hout
        clear htop hst
        repeat' first | refine rnY ?_ | with_reducible refine And.intro (fun hc => ?_) (fun hc => ?_) | fail
        exact hQ.out _ _ (.eq (Cl.int _ _) (by rw [hout])) (by exact exY)
      · have hbb : decide (p > 20000) = false := decide_eq_false hgt
        have hst2 : candS v (k + 1) = p := by omega
        clear hst htop
        repeat' first | refine rnY ?_ | with_reducible refine And.intro (fun hc => ?_) (fun hc => ?_) | fail
        exact ⟨⟨k + 1, by rw [hst2]; exact agY, by omega, by omega, by exact exY⟩, by exact ivY⟩
    · obtain rfl : k = v.length := by omega
      clear hst htop
      repeat' first | refine rnY ?_ | with_reducible refine And.intro (fun hc => ?_) (fun hc => ?_) | fail
      exact hQ.out _ _ (fv) (by exact exY)
set_option maxHeartbeats 4000000 in
theorem l20Candidates_z {v : List Int} (hl : v.length ≤ 1048576) (h : ∀ j, 0 ≤ v.getD j 0 ∧ v.getD j 0 ≤ 1000) : ZCalls Tryz.prog 49 [zI v] (I (candS v v.length)) := by
  have hbd := candS_bd fun j => (h j).1
  have hst : ∀ k, candS v (k + 1) = min (candS v k * (v.getD k 0 + 1)) 20001 := fun k => rfl
  have h0 : candS v 0 = 1 := rfl
  refine ZCalls.body Tryz.func49 rfl Tryz.ntmps49 (rs := [.tmp 2]) rfl (by simp) rfl fun H Q hQ A hA => ?_
  have a0 := hA 0 _ _ rfl
  clear hA
  repeat' first | refine rnY ?_ | with_reducible refine And.intro (fun hc => ?_) (fun hc => ?_) | fail
  refine AWp.cut (fun Ac hAc => ?_)
  have c0 := gtY (t := 0) hAc
  have c3 := gtY (t := 3) hAc
  have c4 := gtY (t := 4) hAc
  clear a0
  refine AWp.loop (fun A' H' => ∃ (k : Nat), Ag [5, 6, 7, 8, 9, 10, 11, 12, 13, 14, 15, 16, 17, 18] A' (put (put Ac (some 3) (I (candS v k))) (some 4) (I k)) ∧ k ≤ v.length ∧ Ext H H') (fun A' _ => v.length - (intV (A' 4)).toNat) ?_ ?_
  · exact ⟨0, by rw [h0]; exact agY, by omega, by exact exY⟩
  · rintro A1 H1 ⟨k, hA1, hk, hx⟩
    have d0 := gdY (t := 0) hA1
    have d3 := gdY (t := 3) hA1
    have d4 := gdY (t := 4) hA1
    by_cases hlt : k < v.length
    · have hst := hst k
      have hb1 := hbd k
      have hvk := h k
      have hup : candS v k * (v.getD k 0 + 1) ≤ 20001 * 1001 := Int.mul_le_mul (by omega) (by omega) (by omega) (by omega)
      have hlo : 0 ≤ candS v k * (v.getD k 0 + 1) := Int.mul_nonneg (by omega) (by omega)
      clear hbd h h0
      generalize candS v k = x at *
      generalize hp : x * (v.getD k 0 + 1) = p at *
      repeat' first | refine rnY ?_ | with_reducible refine And.intro (fun hc => ?_) (fun hc => ?_) | fail
      exact ⟨⟨k + 1, by rw [hst]; exact agY, by omega, by exact exY⟩, by exact ivY⟩
    · obtain rfl : k = v.length := by omega
      clear hst
      repeat' first | refine rnY ?_ | with_reducible refine And.intro (fun hc => ?_) (fun hc => ?_) | fail
      exact hQ.out _ _ (fv) (by exact exY)
/-- The code of a vector that is split. -/
def scT (T : List (List (Int × Int))) (v : List Int) : Int := if aC T v = 0 then (if candS v v.length > 20000 then 3 else 0) else aC T v
theorem splitCode_z {T : List (List (Int × Int))} (hl : T.length ≤ 1048576) (v : List Int) (hv : v.length ≤ 1048576) : ZCalls Tryz.prog 30 [zT T, zI v] (I (scT T v)) := by
  have hc := admissibleCode_z hl v hv
  unfold scT
  by_cases h : aC T v = 0
  · have ha := candidateCount_z hv (nrI_bd (aC_ok h).2.1)
    rw [if_pos h]
    rw [h] at hc
    generalize candS v v.length = x at *
    by_cases h1 : x > 20000
    · rw [if_pos h1]
      have hb : decide (x > 20000) = true := decide_eq_true h1
      clear h
      refine ZCalls.body Tryz.func30 rfl Tryz.ntmps30 (rs := [.tmp 4]) rfl (by simp) rfl fun H Q hQ A hA => ?_
      have a0 := hA 0 _ _ rfl
      have a1 := hA 1 _ _ rfl
      clear hA
      repeat' first | refine rnY ?_ | (first | refine ZCalls.to (hc) ?_ | refine ZCalls.tf (hc) ?_) | (first | refine ZCalls.to (ha) ?_ | refine ZCalls.tf (ha) ?_) | with_reducible refine And.intro (fun hc => ?_) (fun hc => ?_) | fail
      exact hQ.out _ _ (fv) (by exact exY)
    · rw [if_neg h1]
      have hb : decide (x > 20000) = false := decide_eq_false h1
      clear h
      refine ZCalls.body Tryz.func30 rfl Tryz.ntmps30 (rs := [.tmp 4]) rfl (by simp) rfl fun H Q hQ A hA => ?_
      have a0 := hA 0 _ _ rfl
      have a1 := hA 1 _ _ rfl
      clear hA
      repeat' first | refine rnY ?_ | (first | refine ZCalls.to (hc) ?_ | refine ZCalls.tf (hc) ?_) | (first | refine ZCalls.to (ha) ?_ | refine ZCalls.tf (ha) ?_) | with_reducible refine And.intro (fun hc => ?_) (fun hc => ?_) | fail
      exact hQ.out _ _ (fv) (by exact exY)
  · rw [if_neg h]
    have hcb : (aC T v == 0) = false := by rw [beq_eq_false_iff_ne]; exact h
    generalize aC T v = k at *
    clear h
    refine ZCalls.body Tryz.func30 rfl Tryz.ntmps30 (rs := [.tmp 4]) rfl (by simp) rfl fun H Q hQ A hA => ?_
    have a0 := hA 0 _ _ rfl
    have a1 := hA 1 _ _ rfl
    clear hA
    repeat' first | refine rnY ?_ | (first | refine ZCalls.to (hc) ?_ | refine ZCalls.tf (hc) ?_) | with_reducible refine And.intro (fun hc => ?_) (fun hc => ?_) | fail
    exact hQ.out _ _ (fv) (by exact exY)
theorem l20Code_z {T : List (List (Int × Int))} (hl : T.length ≤ 1048576) (v : List Int) (hv : v.length ≤ 1048576) : ZCalls Tryz.prog 26 [zT T, zI v] (I (scT T v)) := by
  have hc := l17Code_z hl
  have hs := specIsAdmissible_z hl v hv
  unfold scT aC
  by_cases h : codeN T = 0
  · by_cases h1 : AdI T v
    · have ha := l20Candidates_z hv (nrI_bd h1.1)
      rw [decide_eq_true ⟨h, h1⟩] at hs
      rw [h] at hc
      rw [if_pos h, if_pos h1, if_pos rfl]
      generalize candS v v.length = x at *
      clear h h1
      by_cases h1 : x > 20000
      · rw [if_pos h1]
        have hb : decide (x > 20000) = true := decide_eq_true h1
        refine ZCalls.body Tryz.func26 rfl Tryz.ntmps26 (rs := [.tmp 4]) rfl (by simp) rfl fun H Q hQ A hA => ?_
        have a0 := hA 0 _ _ rfl
        have a1 := hA 1 _ _ rfl
        clear hA
        repeat' first | refine rnY ?_ | (first | refine ZCalls.to (hc) ?_ | refine ZCalls.tf (hc) ?_) | (first | refine ZCalls.to (hs) ?_ | refine ZCalls.tf (hs) ?_) | (first | refine ZCalls.to (ha) ?_ | refine ZCalls.tf (ha) ?_) | with_reducible refine And.intro (fun hc => ?_) (fun hc => ?_) | fail
        exact hQ.out _ _ (fv) (by exact exY)
      · rw [if_neg h1]
        have hb : decide (x > 20000) = false := decide_eq_false h1
        refine ZCalls.body Tryz.func26 rfl Tryz.ntmps26 (rs := [.tmp 4]) rfl (by simp) rfl fun H Q hQ A hA => ?_
        have a0 := hA 0 _ _ rfl
        have a1 := hA 1 _ _ rfl
        clear hA
        repeat' first | refine rnY ?_ | (first | refine ZCalls.to (hc) ?_ | refine ZCalls.tf (hc) ?_) | (first | refine ZCalls.to (hs) ?_ | refine ZCalls.tf (hs) ?_) | (first | refine ZCalls.to (ha) ?_ | refine ZCalls.tf (ha) ?_) | with_reducible refine And.intro (fun hc => ?_) (fun hc => ?_) | fail
        exact hQ.out _ _ (fv) (by exact exY)
    · rw [decide_eq_false (fun q : codeN T = 0 ∧ AdI T v => h1 q.2)] at hs
      rw [h] at hc
      rw [if_pos h, if_neg h1, if_neg (by decide)]
      clear h h1
      refine ZCalls.body Tryz.func26 rfl Tryz.ntmps26 (rs := [.tmp 4]) rfl (by simp) rfl fun H Q hQ A hA => ?_
      have a0 := hA 0 _ _ rfl
      have a1 := hA 1 _ _ rfl
      clear hA
      repeat' first | refine rnY ?_ | (first | refine ZCalls.to (hc) ?_ | refine ZCalls.tf (hc) ?_) | (first | refine ZCalls.to (hs) ?_ | refine ZCalls.tf (hs) ?_) | with_reducible refine And.intro (fun hc => ?_) (fun hc => ?_) | fail
      exact hQ.out _ _ (fv) (by exact exY)
  · rw [if_neg h, if_neg h]
    have hcb : (codeN T == 0) = false := by rw [beq_eq_false_iff_ne]; exact h
    clear hs
    generalize codeN T = k at *
    clear h
    refine ZCalls.body Tryz.func26 rfl Tryz.ntmps26 (rs := [.tmp 4]) rfl (by simp) rfl fun H Q hQ A hA => ?_
    have a0 := hA 0 _ _ rfl
    have a1 := hA 1 _ _ rfl
    clear hA
    repeat' first | refine rnY ?_ | (first | refine ZCalls.to (hc) ?_ | refine ZCalls.tf (hc) ?_) | with_reducible refine And.intro (fun hc => ?_) (fun hc => ?_) | fail
    exact hQ.out _ _ (fv) (by exact exY)
end Go.Proofs.YtmoknllbpjpkmaaGreat.Zed
