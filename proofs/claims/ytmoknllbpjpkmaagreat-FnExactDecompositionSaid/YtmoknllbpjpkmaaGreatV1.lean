/- A part of the walk: what functions of the program do, over an abstract heap. -/
import Derived.Test.YtmoknllbpjpkmaaGreatGD
import Derived.Test.YtmoknllbpjpkmaaGreatGE
import Derived.Test.YtmoknllbpjpkmaaGreatGB
namespace Go.Proofs.YtmoknllbpjpkmaaGreat.Zed
open Go TP
set_option linter.unusedVariables false
set_option linter.unusedSimpArgs false
set_option maxRecDepth 20000
namespace tfV1
theorem tf : (Tryz.prog.underlying 25 = some (.slice 2)) ∧ (el Tryz.prog 25 = some (none, 1)) ∧ (Tryz.prog.underlying 37 = some (.slice 25)) ∧ (el Tryz.prog 37 = some (none, 1)) ∧ (tk Tryz.prog 2 = some none) ∧ (tk Tryz.prog 25 = some none) ∧ (tk Tryz.prog 31 = some (some 1)) ∧ (cz Tryz.prog 2 = some 1) ∧ (bz Tryz.prog 2 = some 8) ∧ (cz Tryz.prog 25 = some 1) ∧ (bz Tryz.prog 25 = some 24) ∧ (zr Tryz.prog 2 = some (.int .i64 0)) ∧ (zr Tryz.prog 25 = some (.slice none 0 0)) := by
  refine ⟨?_, ?_, ?_, ?_, ?_, ?_, ?_, ?_, ?_, ?_, ?_, ?_, ?_⟩ <;> kernel_rfl
end tfV1
open tfV1

set_option maxHeartbeats 2000000 in
theorem specSupportOf_z {l : List Int} (hl : l.length ≤ 200000) : ZCalls Tryz.prog 27 [zI l] (zI (supT l l.length)) := by
  refine ZCalls.body Tryz.func27 rfl Tryz.ntmps27 (rs := [.tmp 2]) rfl (by simp) rfl fun H Q hQ A hA => ?_
  have a0 := hA 0 _ _ rfl
  clear hA
  repeat' first | refine rnY ?_ | with_reducible refine And.intro (fun hc => ?_) (fun hc => ?_) | fail
  refine AWp.growE (t := 3) 1 (by decide) (by exact ivY) ?_
  refine AWp.cut (fun Ac hAc => ?_)
  have c0 := gtY (t := 0) hAc
  have c3 := gtY (t := 3) hAc
  have c4 := gtY (t := 4) hAc
  clear a0
  refine AWp.loop (fun A' H' => ∃ (k : Nat), Ag [6, 7, 8, 9, 10, 11, 12, 13, 14, 15, 16, 17, 18, 19, 20] A' (put (put Ac (some 3) (GZ (H.size + 1) 1 (supT l k).length (ints (supT l k)))) (some 4) (I k)) ∧ k ≤ l.length ∧ Ext H H' ∧ H'.get (H.size + 1) = .tok (supT l k).length 1 ∧ H.size + 1 < H'.size) (fun A' _ => l.length - (intV (A' 4)).toNat) ?_ ?_
  · have e0 : supT l 0 = [] := rfl
    refine ⟨0, agY, by omega, by exact exY, ?_, by simp only [nx]; omega⟩
    rw [e0]; exact ivY
  · rintro A1 H1 ⟨k, hA, hk, hx, htg, hts⟩
    have d0 := gdY (t := 0) hA
    have d3 := gdY (t := 3) hA
    have d4 := gdY (t := 4) hA
    by_cases hlt : k < l.length
    · have hs1 : supT l (k + 1) = if l.getD k 0 ≠ 0 then supT l k ++ [(k : Int)] else supT l k := rfl
      have hll := supT_len l k
      generalize supT l k = L at *
      by_cases hb : l.getD k 0 = 0
      · have hbb : (l.getD k 0 == 0) = true := by rw [beq_iff_eq]; exact hb
        rw [if_neg (fun h => h hb)] at hs1
        clear hb
        repeat' first | refine rnY ?_ | with_reducible refine And.intro (fun hc => ?_) (fun hc => ?_) | fail
        exact ⟨⟨k + 1, by rw [hs1]; exact agY, by omega, by exact exY, by rw [hs1]; exact ivY, by exact ivY⟩, by exact ivY⟩
      · have hbb : (l.getD k 0 == 0) = false := by rw [beq_eq_false_iff_ne]; exact hb
        rw [if_pos hb] at hs1
        clear hb
        repeat' first | refine rnY ?_ | with_reducible refine And.intro (fun hc => ?_) (fun hc => ?_) | fail
        exact ⟨⟨k + 1, by rw [hs1]; exact agY, by omega, by exact exY, by rw [hs1]; exact ivY, by exact ivY⟩, by exact ivY⟩
    · obtain rfl : k = l.length := by omega
      repeat' first | refine rnY ?_ | with_reducible refine And.intro (fun hc => ?_) (fun hc => ?_) | fail
      exact hQ.out _ _ (fv) (by exact exY)
set_option maxHeartbeats 2000000 in
theorem l20First_z {T : List (List (Int × Int))} (hT : IsTri T) (h6 : T.length ≤ 6) {v u : List Int} (ho : OkV T v) (hu : fpO T v = some u) : ZCalls Tryz.prog 28 [zT T, zI v] (zI u) := by
  have hp := l20Parts_z hT h6 ho.len ho.bd (by have := ho.few; omega)
  rcases PT_cases ho.bd ho.sv with ⟨q1, q2, q3⟩ | ⟨q1, w, t, q2, q3, q4, q5⟩
  · rw [q3] at hu; cases hu
  rw [q3] at hu
  have e := Option.some.inj hu
  subst e
  have hff := first_fund ho q2
  have hm := (PL_mem (nonneg_mem fun j => (ho.bd j).1)).1 (show w ∈ PT T v by rw [q2]; simp)
  have hwb := hm.1.bd fun j => (ho.bd j).2
  have hpu := l20Parts_z hT h6 (hm.1.1.trans ho.len) hwb (by
    have h1 := ho.few
    rw [allU_pd] at h1 ⊢
    refine Nat.le_trans (pd_mono hm.1.1 fun i => ⟨(hwb i).1, ?_⟩) (by omega)
    by_cases hi : i < v.length
    · exact (hm.1.2 i hi).2
    · rw [List.getD_eq_getElem?_getD, List.getElem?_eq_none (by rw [hm.1.1]; omega)]; exact (ho.bd i).1)
  have hg1 : ((PT T v).map fun r => zI r)[1]? = some (zI w) := by rw [q2]; rfl
  have hlen : (1 : Int) < ((PT T v).length : Nat) := by rw [q2]; simp; omega
  have hpl : (((PT T w).length : Nat) : Int) = 2 := by omega
  generalize PT T v = P at *
  generalize PT T w = PU at *
  clear hff q1 q2 q3 q4 q5 hm hwb ho hT
  refine ZCalls.body Tryz.func28 rfl Tryz.ntmps28 (rs := [.tmp 4]) rfl (by simp) rfl fun H Q hQ A hA => ?_
  have a0 := hA 0 _ _ rfl
  have a1 := hA 1 _ _ rfl
  clear hA
  repeat' first | refine rnY ?_ | (first | refine ZCalls.to (hp) ?_ | refine ZCalls.tf (hp) ?_) | with_reducible refine And.intro (fun hc => ?_) (fun hc => ?_) | fail
  refine AWp.cut (fun Ac hAc => ?_)
  have c1 := gtY (t := 1) hAc
  have c2 := gtY (t := 2) hAc
  have c5 := gtY (t := 5) hAc
  have c6 := gtY (t := 6) hAc
  clear a0 a1
  refine AWp.loop (fun A' H' => ∃ _ : Unit, Ag [10, 11, 12, 13, 14, 15, 16, 17, 18, 19, 20, 21, 22, 23, 24, 25, 26, 27] A' (put Ac (some 6) (I 1)) ∧ H' = H) (fun A' _ => 0) ?_ ?_
  · exact ⟨(), agY, rfl⟩
  · rintro A1 H1 ⟨_, hA, rfl⟩
    have d1 := gdY (t := 1) hA
    have d2 := gdY (t := 2) hA
    have d5 := gdY (t := 5) hA
    have d6 := gdY (t := 6) hA
    repeat' first | refine rnY ?_ | with_reducible refine And.intro (fun hc => ?_) (fun hc => ?_) | fail
    refine AWp.zreg [(0, none), (1, none), (2, none), (3, none), (4, none), (5, none), (6, none), (7, none)] mixed (by kernel_rfl) ?_
    repeat' first | refine rzY ?_ | (first | refine ZCalls.to (hpu) ?_ | refine ZCalls.tf (hpu) ?_) | fail
    repeat' first | refine rnY ?_ | with_reducible refine And.intro (fun hc => ?_) (fun hc => ?_) | fail
    exact hQ.out _ _ (fv) (by exact exY)
end Go.Proofs.YtmoknllbpjpkmaaGreat.Zed
