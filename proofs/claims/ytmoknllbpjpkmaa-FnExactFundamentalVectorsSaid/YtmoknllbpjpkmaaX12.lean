/- A part of the walk: what functions of the program do, over an abstract heap. -/
import Derived.Test.YtmoknllbpjpkmaaX11
import Derived.Test.YtmoknllbpjpkmaaX4
namespace Go.Proofs.Ytmoknllbpjpkmaa.Zed
open Go TP
set_option linter.unusedVariables false
set_option linter.unusedSimpArgs false
set_option maxRecDepth 20000
namespace tfX12
theorem tf : (Try.prog.underlying 25 = some (.slice 2)) ∧ (el Try.prog 25 = some (none, 1)) ∧ (tk Try.prog 2 = some none) ∧ (tk Try.prog 25 = some none) ∧ (cz Try.prog 2 = some 1) ∧ (bz Try.prog 2 = some 8) ∧ (zr Try.prog 2 = some (.int .i64 0)) ∧ (fo Try.prog 121 1 = some (1, none)) ∧ (fo Try.prog 121 2 = some (2, none)) := by
  refine ⟨?_, ?_, ?_, ?_, ?_, ?_, ?_, ?_, ?_⟩ <;> kernel_rfl
end tfX12
open tfX12

section
variable {F : FuncId} {xs : Array Value} {pr : Int → Bool} {l : List Int}
set_option maxHeartbeats 1000000 in
theorem indexN_z (hl : l.length ≤ 1048576) (hF : ∀ x, x ∈ l → ZCalls Try.prog F (I x :: xs.toList) (B (pr x))) :
    ZCalls Try.prog 138 [zI l, .func (.func F) #[] xs] (I (fidx pr l)) := by
  refine ZCalls.body Try.func138 rfl Try.ntmps138 (rs := [.tmp 4]) rfl (by simp) rfl fun H Q hQ A hA => ?_
  have a0 := hA 0 _ _ rfl
  have a1 := hA 1 _ _ rfl
  clear hA
  repeat' first | refine rnY ?_ | with_reducible refine And.intro (fun hc => ?_) (fun hc => ?_) | fail
  refine AWp.cut (fun Ac hAc => ?_)
  have c0 := gtY (t := 0) hAc
  have c1 := gtY (t := 1) hAc
  have c7 := gtY (t := 7) hAc
  have c8 := gtY (t := 8) hAc
  clear a0 a1
  refine AWp.loop (fun A' H' => ∃ (k : Nat), Ag [5, 9, 10, 11, 12, 13, 14, 15, 16, 17, 18] A' (put Ac (some 8) (I k)) ∧ k ≤ l.length ∧ (∀ i, i < k → pr (l.getD i 0) = false) ∧ Ext H H') (fun A' _ => l.length - (intV (A' 8)).toNat) ?_ ?_
  · exact ⟨0, agY, by omega, fun i hi => by omega, by exact exY⟩
  · rintro A1 H1 ⟨k, hA, hk, hno, hx⟩
    have d0 := gdY (t := 0) hA
    have d1 := gdY (t := 1) hA
    have d7 := gdY (t := 7) hA
    have d8 := gdY (t := 8) hA
    by_cases hlt : k < l.length
    · have hFk := hF (l.getD k 0) (by simp [hlt])
      clear hF
      cases hp : pr (l.getD k 0)
      · rw [hp] at hFk
        repeat' first | refine rnY ?_ | (first | refine ZCalls.to (hFk) ?_ | refine ZCalls.tf (hFk) ?_) | with_reducible refine And.intro (fun hc => ?_) (fun hc => ?_) | fail
        exact ⟨⟨k + 1, agY, by omega, all_succ hno hp, by exact exY⟩, by exact ivY⟩
      · rw [hp] at hFk
        repeat' first | refine rnY ?_ | (first | refine ZCalls.to (hFk) ?_ | refine ZCalls.tf (hFk) ?_) | with_reducible refine And.intro (fun hc => ?_) (fun hc => ?_) | fail
        exact hQ.out _ _ (.eq (Cl.int _ _) (by rw [fidx_at 0 hno hlt hp])) (by exact exY)
    · obtain rfl : k = l.length := by omega
      repeat' first | refine rnY ?_ | with_reducible refine And.intro (fun hc => ?_) (fun hc => ?_) | fail
      exact hQ.out _ _ (.eq (Cl.int _ _) (by rw [fidx_no 0 hno])) (by exact exY)
theorem containsN_z (hl : l.length ≤ 1048576) (hF : ∀ x, x ∈ l → ZCalls Try.prog F (I x :: xs.toList) (B (pr x))) :
    ZCalls Try.prog 94 [zI l, .func (.func F) #[] xs] (B (l.any pr)) := by
  refine ZCalls.body Try.func94 rfl Try.ntmps94 (rs := [.tmp 4]) rfl (by simp) rfl fun H Q hQ A hA => ?_
  have a0 := hA 0 _ _ rfl
  have a1 := hA 1 _ _ rfl
  clear hA
  repeat' first | refine rnY ?_ | (first | refine ZCalls.to (indexN_z hl hF) ?_ | refine ZCalls.tf (indexN_z hl hF) ?_) | with_reducible refine And.intro (fun hc => ?_) (fun hc => ?_) | fail
  exact hQ.out _ _ (.eq (Cl.bool _) (by rw [fidx_ge])) (by exact exY)
end
theorem mrow_z {R C : Nat} {L : List Int} (i : Nat) (hi : i < R) (hL : L.length = R * C) (hb : R * C ≤ 100000000) (hR : R ≤ 1000000) (hC : C ≤ 1000000) : ZCalls Try.prog 163 [mxV R C L, I i] (FZ 1 C (ints ((L.drop (i * C)).take C))) := by
  have h1 : i * C + C ≤ R * C := by
    have := Nat.mul_le_mul_right C (show i + 1 ≤ R by omega)
    rw [Nat.succ_mul] at this; exact this
  have e1 : (i : Int) * (C : Int) = ((i * C : Nat) : Int) := by push_cast; rfl
  have e2 : ((i : Int) + 1) * (C : Int) = ((i * C + C : Nat) : Int) := by rw [Int.add_mul, Int.one_mul]; push_cast; rfl
  generalize i * C = q at *
  have e3 : q + C - q = C := by omega
  refine ZCalls.body Try.func163 rfl Try.ntmps163 (rs := [.tmp 4]) rfl (by simp) rfl fun H Q hQ A hA => ?_
  have a0 := hA 0 _ _ rfl
  have a1 := hA 1 _ _ rfl
  clear hA
  repeat' first | refine rnY ?_ | with_reducible refine And.intro (fun hc => ?_) (fun hc => ?_) | fail
  exact hQ.out _ _ (.eq (Cl.fz (Cl.ints _)) (by simp [e3])) (by exact exY)
set_option maxHeartbeats 2000000 in
theorem l17Dot_z {a b : List Int} {A B' : Int} {n : Nat} (hal : a.length = n) (hbl : n ≤ b.length) (hn : n ≤ 1000) (hb1 : b.length ≤ 100000) (hA : 0 ≤ A ∧ A ≤ 10000) (hB : 0 ≤ B' ∧ B' ≤ 100000000) (ha : ∀ j, -A ≤ a.getD j 0 ∧ a.getD j 0 ≤ A) (hb : ∀ j, -B' ≤ b.getD j 0 ∧ b.getD j 0 ≤ B') :
    ZCalls Try.prog 74 [FZ 1 n (ints a), zI b] (I (dotL a b n)) := by
  have hd := dotL_bd ha hb
  have hm := fun j => mul_bd (ha j) (hb j)
  have hAB : A * B' ≤ 1000000000000 := by
    have := Int.mul_le_mul hA.2 hB.2 hB.1 (by omega)
    omega
  have hAB0 : 0 ≤ A * B' := Int.mul_nonneg hA.1 hB.1
  generalize A * B' = M at *
  have hkM : ∀ k : Nat, k ≤ n → (k : Int) * M ≤ 1000000000000000 := fun k hk => by
    have := Int.mul_le_mul (show (k : Int) ≤ 1000 by omega) hAB hAB0 (by omega)
    omega
  subst hal
  refine ZCalls.body Try.func74 rfl Try.ntmps74 (rs := [.tmp 4]) rfl (by simp) rfl fun H Q hQ A hA => ?_
  have a0 := hA 0 _ _ rfl
  have a1 := hA 1 _ _ rfl
  clear hA
  repeat' first | refine rnY ?_ | with_reducible refine And.intro (fun hc => ?_) (fun hc => ?_) | fail
  refine AWp.cut (fun Ac hAc => ?_)
  have c0 := gtY (t := 0) hAc
  have c1 := gtY (t := 1) hAc
  have c5 := gtY (t := 5) hAc
  have c6 := gtY (t := 6) hAc
  clear a0 a1
  refine AWp.loop (fun A' H' => ∃ (k : Nat), Ag [7, 8, 9, 10, 11, 12, 13, 14, 15, 16, 17, 18, 19, 20, 21, 22, 23] A' (put (put Ac (some 5) (I (dotL a b k))) (some 6) (I k)) ∧ k ≤ a.length ∧ H' = H) (fun A' _ => a.length - (intV (A' 6)).toNat) ?_ ?_
  · exact ⟨0, by rw [show dotL a b 0 = 0 from rfl]; exact agY, by omega, rfl⟩
  · rintro A1 H1 ⟨k, hA1, hk, rfl⟩
    have d0 := gdY (t := 0) hA1
    have d1 := gdY (t := 1) hA1
    have d5 := gdY (t := 5) hA1
    have d6 := gdY (t := 6) hA1
    by_cases hlt : k < a.length
    · have hst : dotL a b (k + 1) = dotL a b k + a.getD k 0 * b.getD k 0 := rfl
      have hdk := hd k
      have hmk := hm k
      have hkk := hkM k (by omega)
      generalize (k : Int) * M = kM at *
      generalize dotL a b k = s at *
      generalize hx : a.getD k 0 = x at *
      generalize hy : b.getD k 0 = y at *
      obtain ⟨p, hp⟩ : ∃ p, x * y = p := ⟨_, rfl⟩
      rw [hp] at hmk hst
      clear hd hm hkM
      repeat' first | refine rnY ?_ | with_reducible refine And.intro (fun hc => ?_) (fun hc => ?_) | fail
      refine AWp.zreg [(0, none), (1, none), (2, none), (3, none), (4, none), (5, none), (6, none), (7, none), (8, none), (9, none), (10, none), (11, none)] mixed (by kernel_rfl) ?_
      repeat' first | refine rzY ?_ | fail
      repeat' first | refine rnY ?_ | with_reducible refine And.intro (fun hc => ?_) (fun hc => ?_) | fail
      exact ⟨⟨k + 1, agY, by omega, rfl⟩, by exact ivY⟩
    · obtain rfl : k = a.length := by omega
      repeat' first | refine rnY ?_ | with_reducible refine And.intro (fun hc => ?_) (fun hc => ?_) | fail
      exact hQ.out _ _ (fv) (by exact exY)
end Go.Proofs.Ytmoknllbpjpkmaa.Zed
