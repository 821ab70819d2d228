/- A part of the walk: what functions of the program do, over an abstract heap. -/
import Derived.Test.YtmoknllbpjpkmaaW19
namespace Go.Proofs.Ytmoknllbpjpkmaa.Zed
open Go TP
set_option linter.unusedVariables false
set_option linter.unusedSimpArgs false
set_option maxRecDepth 20000
namespace tfW20
theorem tf : (Try.prog.underlying 25 = some (.slice 2)) ∧ (el Try.prog 25 = some (none, 1)) ∧ (tk Try.prog 2 = some none) ∧ (tk Try.prog 31 = some (some 1)) ∧ (tk Try.prog 115 = some (some 3)) ∧ (cz Try.prog 2 = some 1) ∧ (bz Try.prog 2 = some 8) ∧ (zr Try.prog 2 = some (.int .i64 0)) ∧ (zr Try.prog 115 = some (.agg #[.slice none 0 0, .slice none 0 0, .slice none 0 0])) := by
  refine ⟨?_, ?_, ?_, ?_, ?_, ?_, ?_, ?_, ?_⟩ <;> kernel_rfl
end tfW20
open tfW20

def sE (T : List (List (Int × Int))) : List Int := listTo (mkB (nE T) (sbE T (bfT T T.length) (bfT T T.length).length)) (nE T)
def inL (L : List Int) : Nat → List Int
  | 0 => []
  | k + 1 => if (k : Int) ∈ L then inL L k else inL L k ++ [(k : Int)]
theorem inL_len (L : List Int) (k : Nat) : (inL L k).length ≤ k := by
  induction k with
  | zero => exact Nat.le_refl _
  | succ k ih => unfold inL; split <;> (try simp only [List.length_append, List.length_cons, List.length_nil]) <;> omega
set_option maxHeartbeats 2000000 in
theorem l21Edge_z {T : List (List (Int × Int))} (hT : IsTri T) (z : Int) : ZCalls Try.prog 174 [zT T, I z] (B (decide (z ∈ sE T))) := by
  have hb := specBoundary_z hT
  have hll := listTo_len (mkB (nE T) (sbE T (bfT T T.length) (bfT T T.length).length)) (nE T)
  have hN := classN_bd (edgeL_bd T hT.fine.1)
  have hN2 : nE T ≤ 100001 := by unfold nE; omega
  change (sE T).length ≤ nE T at hll
  change ZCalls _ _ _ (.tuple #[_, zI (sE T), _]) at hb
  generalize sE T = L at *
  refine ZCalls.body Try.func174 rfl Try.ntmps174 (rs := [.tmp 4]) rfl (by simp) rfl fun H Q hQ A hA => ?_
  have a0 := hA 0 _ _ rfl
  have a1 := hA 1 _ _ rfl
  clear hA
  repeat' first | refine rnY ?_ | (first | refine ZCalls.to (hb) ?_ | refine ZCalls.tf (hb) ?_) | with_reducible refine And.intro (fun hc => ?_) (fun hc => ?_) | fail
  refine AWp.cut (fun Ac hAc => ?_)
  have c1 := gtY (t := 1) hAc
  have c6 := gtY (t := 6) hAc
  have c8 := gtY (t := 8) hAc
  clear a0 a1 hb
  refine AWp.loop (fun A' H' => ∃ (k : Nat), Ag [15, 16, 17, 18, 19, 20, 21, 22, 23, 24, 25, 26] A' (put Ac (some 8) (I k)) ∧ k ≤ L.length ∧ (∀ i, i < k → (L.getD i 0 == z) = false) ∧ Ext H H') (fun A' _ => L.length - (intV (A' 8)).toNat) ?_ ?_
  · exact ⟨0, agY, by omega, fun i hi => by omega, by exact exY⟩
  · rintro A1 H1 ⟨k, hA, hk, hno, hx⟩
    have d1 := gdY (t := 1) hA
    have d6 := gdY (t := 6) hA
    have d8 := gdY (t := 8) hA
    by_cases hlt : k < L.length
    · cases hp : (L.getD k 0 == z)
      · repeat' first | refine rnY ?_ | with_reducible refine And.intro (fun hc => ?_) (fun hc => ?_) | fail
        exact ⟨⟨k + 1, agY, by omega, all_succ hno hp, by exact exY⟩, by exact ivY⟩
      · have hm : z ∈ L := by
          rw [beq_iff_eq] at hp
          rw [← hp]; simp [hlt]
        rw [decide_eq_true hm] at hQ
        repeat' first | refine rnY ?_ | with_reducible refine And.intro (fun hc => ?_) (fun hc => ?_) | fail
        exact hQ.out _ _ (fv) (by exact exY)
    · obtain rfl : k = L.length := by omega
      have hm : ¬ z ∈ L := fun h => by
        obtain ⟨i, hi, e⟩ := List.getElem_of_mem h
        have := hno i hi
        simp [hi, e] at this
      rw [decide_eq_false hm] at hQ
      repeat' first | refine rnY ?_ | with_reducible refine And.intro (fun hc => ?_) (fun hc => ?_) | fail
      exact hQ.out _ _ (fv) (by exact exY)
set_option maxHeartbeats 2000000 in
theorem l22Inner_z {T : List (List (Int × Int))} (hT : IsTri T) : ZCalls Try.prog 126 [zT T] (zI (inL (sE T) (nE T))) := by
  have hN := classN_bd (edgeL_bd T hT.fine.1)
  have m2 : classN (edgeL T) = nE T := by unfold nE; omega
  have hc := specCount_z hT.fine
  unfold cntV countsL at hc
  rw [m2] at hc
  have he := fun z => l21Edge_z hT z
  generalize nE T = N at *
  generalize sE T = L at *
  refine ZCalls.body Try.func126 rfl Try.ntmps126 (rs := [.tmp 2]) rfl (by simp) rfl fun H Q hQ A hA => ?_
  have a0 := hA 0 _ _ rfl
  clear hA
  repeat' first | refine rnY ?_ | (first | refine ZCalls.to (hc) ?_ | refine ZCalls.tf (hc) ?_) | with_reducible refine And.intro (fun hc => ?_) (fun hc => ?_) | fail
  refine AWp.growE (t := 3) 1 (by decide) (by exact ivY) ?_
  refine AWp.cut (fun Ac hAc => ?_)
  have c1 := gtY (t := 1) hAc
  have c5 := gtY (t := 5) hAc
  have c3 := gtY (t := 3) hAc
  have c6 := gtY (t := 6) hAc
  clear a0 hc
  refine AWp.loop (fun A' H' => ∃ (k : Nat), Ag [13, 14, 15, 16, 17, 18, 19, 20, 21, 22, 23, 24, 25, 26, 27] A' (put (put Ac (some 3) (GZ (H.size + 1 + 1) 1 (inL L k).length (ints (inL L k)))) (some 6) (I k)) ∧ k ≤ N ∧ Ext H H' ∧ H'.get (H.size + 1 + 1) = .tok (inL L k).length 1 ∧ H.size + 1 + 1 < H'.size) (fun A' _ => N - (intV (A' 6)).toNat) ?_ ?_
  · have e0 : inL L 0 = [] := rfl
    exact ⟨0, agY, by omega, by exact exY, by exact ivY, by exact ivY⟩
  · rintro A1 H1 ⟨k, hA, hk, hx, hg, hs⟩
    have d1 := gdY (t := 1) hA
    have d3 := gdY (t := 3) hA
    have d5 := gdY (t := 5) hA
    have d6 := gdY (t := 6) hA
    by_cases hlt : k < N
    · have hs1 : inL L (k + 1) = if (k : Int) ∈ L then inL L k else inL L k ++ [(k : Int)] := rfl
      have hll := inL_len L k
      have hek := he k
      generalize inL L k = R at *
      by_cases hm : (k : Int) ∈ L
      · rw [if_pos hm] at hs1
        rw [decide_eq_true hm] at hek
        repeat' first | refine rnY ?_ | (first | refine ZCalls.to (hek) ?_ | refine ZCalls.tf (hek) ?_) | with_reducible refine And.intro (fun hc => ?_) (fun hc => ?_) | fail
        exact ⟨⟨k + 1, agY, by omega, by exact exY, by rw [hs1]; exact ivY, by exact ivY⟩, by exact ivY⟩
      · rw [if_neg hm] at hs1
        rw [decide_eq_false hm] at hek
        repeat' first | refine rnY ?_ | (first | refine ZCalls.to (hek) ?_ | refine ZCalls.tf (hek) ?_) | with_reducible refine And.intro (fun hc => ?_) (fun hc => ?_) | fail
        exact ⟨⟨k + 1, agY, by omega, by exact exY, by rw [hs1]; exact ivY, by exact ivY⟩, by exact ivY⟩
    · obtain rfl : k = N := by omega
      repeat' first | refine rnY ?_ | with_reducible refine And.intro (fun hc => ?_) (fun hc => ?_) | fail
      exact hQ.out _ _ (fv) (by exact exY)
def defS (T : List (List (Int × Int))) : Int := if codeN T = 0 then ((inL (sE T) (nE T)).length : Int) - T.length else 0
end Go.Proofs.Ytmoknllbpjpkmaa.Zed
