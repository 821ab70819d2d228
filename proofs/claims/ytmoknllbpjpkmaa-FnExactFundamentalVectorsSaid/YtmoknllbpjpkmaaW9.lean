/- A part of the walk: what functions of the program do, over an abstract heap. -/
import Derived.Test.YtmoknllbpjpkmaaW8
namespace Go.Proofs.Ytmoknllbpjpkmaa.Zed
open Go TP
set_option linter.unusedVariables false
set_option linter.unusedSimpArgs false
set_option maxRecDepth 20000
namespace tfW9
theorem tf : (Try.prog.underlying 25 = some (.slice 2)) ∧ (el Try.prog 25 = some (none, 1)) ∧ (Try.prog.underlying 29 = some (.slice 102)) ∧ (el Try.prog 29 = some (none, 1)) ∧ (Try.prog.underlying 102 = some (.slice 107)) ∧ (el Try.prog 102 = some (none, 2)) ∧ (Try.prog.underlying 158 = some (.slice 4)) ∧ (el Try.prog 158 = some (none, 1)) ∧ (tk Try.prog 2 = some none) ∧ (tk Try.prog 4 = some none) ∧ (tk Try.prog 29 = some none) ∧ (tk Try.prog 31 = some (some 1)) ∧ (tk Try.prog 102 = some none) ∧ (tk Try.prog 107 = some (some 2)) ∧ (cz Try.prog 2 = some 1) ∧ (bz Try.prog 2 = some 8) ∧ (cz Try.prog 4 = some 1) ∧ (bz Try.prog 4 = some 1) ∧ (cz Try.prog 102 = some 1) ∧ (bz Try.prog 102 = some 24) ∧ (cz Try.prog 107 = some 2) ∧ (bz Try.prog 107 = some 16) ∧ (zr Try.prog 2 = some (.int .i64 0)) ∧ (zr Try.prog 4 = some (.bool false)) ∧ (zr Try.prog 102 = some (.slice none 0 0)) ∧ (zr Try.prog 107 = some (.agg #[.int .i64 0, .int .i64 0])) ∧ (fo Try.prog 31 0 = some (0, none)) := by
  refine ⟨?_, ?_, ?_, ?_, ?_, ?_, ?_, ?_, ?_, ?_, ?_, ?_, ?_, ?_, ?_, ?_, ?_, ?_, ?_, ?_, ?_, ?_, ?_, ?_, ?_, ?_, ?_⟩ <;> kernel_rfl
end tfW9
open tfW9

def bools (l : List Bool) : List Value := l.map Value.bool
theorem bools_len (l : List Bool) : (bools l).length = l.length := by simp [bools]
theorem bools_get {l : List Bool} {i : Nat} (h : i < l.length) : (bools l)[i]? = some (.bool (l.getD i false)) := by simp [bools, h]
theorem bools_set (l : List Bool) (i : Nat) (x : Bool) : (bools l).set i (.bool x) = bools (l.set i x) := by simp [bools]
theorem rep_bools (k : Nat) (x : Bool) : List.replicate k (Value.bool x) = bools (List.replicate k x) := by simp [bools]
theorem FinV.bools {lo : Nat} {H : Heap} {g c n : Nat} {l : List Bool} (hg : lo ≤ g) (hn : l.length = n) (hget : H.get g = .cells (Zed.bools l) 1 false) : FinV lo H (.slice (some ⟨g, 0, none⟩) n c) (FZ 1 n (Zed.bools l)) :=
  .own hg hget (by rw [bools_len]; omega) (by rw [bools_len]; omega) (fun i x r hx hr => by
    rw [Nat.zero_add] at hx
    cases hx.symm.trans hr
    unfold Zed.bools at hx
    rw [List.getElem?_map] at hx
    obtain ⟨y, _, rfl⟩ := Option.map_eq_some_iff.1 hx
    exact .cl (Cl.bool _))
/-- Flags: which numbers are in a list. -/
def mkB (N : Nat) (L : List Int) : List Bool := (List.range N).map fun (i : Nat) => decide ((i : Int) ∈ L)
theorem mkB_len (N : Nat) (L : List Int) : (mkB N L).length = N := by simp [mkB]
theorem mkB_nil (N : Nat) : List.replicate N false = mkB N [] := by
  apply List.ext_getElem
  · simp [mkB]
  · intro i h1 h2; simp [mkB]
theorem mkB_get (N : Nat) (L : List Int) (z : Nat) (h : z < N) : (mkB N L).getD z false = decide ((z : Int) ∈ L) := by simp [mkB, h]
theorem mkB_set (N : Nat) (L : List Int) (z : Nat) : (mkB N L).set z true = mkB N (L ++ [(z : Int)]) := by
  apply List.ext_getElem
  · simp [mkB]
  · intro i h1 h2
    simp only [mkB, List.length_set, List.length_map, List.length_range] at h1
    rw [List.getElem_set]
    by_cases e : z = i
    · subst e; simp [mkB]
    · rw [if_neg e]
      have : ¬ (i : Int) = (z : Int) := by omega
      simp [mkB, this]
theorem mkB_same (N : Nat) (L : List Int) (z : Nat) (b : Bool) (h : (mkB N L).getD z false = b) : (mkB N L).set z b = mkB N L := by
  apply List.ext_getElem
  · simp
  · intro i h1 h2
    rw [List.getElem_set]
    by_cases e : z = i
    · subst e
      rw [if_pos rfl, ← h]
      simp [h2]
    · rw [if_neg e]
theorem mkB_congr {N : Nat} {L M : List Int} (h : ∀ z : Nat, z < N → ((z : Int) ∈ L ↔ (z : Int) ∈ M)) : mkB N L = mkB N M := by
  unfold mkB
  apply List.map_congr_left
  intro i hi
  rw [List.mem_range] at hi
  rw [decide_eq_decide]
  exact h i hi
theorem others2_bd : ∀ e : Fin 6, (othersL [endA (e.val : Int), endB (e.val : Int)]).length = 2 ∧ (∀ k : Fin 2, (othersL [endA (e.val : Int), endB (e.val : Int)]).getD k.val 0 = ((othersL [endA (e.val : Int), endB (e.val : Int)]).getD k.val 0).toNat ∧ ((othersL [endA (e.val : Int), endB (e.val : Int)]).getD k.val 0).toNat < 4) ∧
    (∃ j : Fin 4, decide ((cntL 4).getD j.val 0 ∈ [endA (e.val : Int), endB (e.val : Int)]) = true) ∧ ∀ f : Fin 4, ((endA (e.val : Int) ≠ f.val ∧ endB (e.val : Int) ≠ f.val) ↔ ((othersL [endA (e.val : Int), endB (e.val : Int)]).getD 0 0 = f.val ∨ (othersL [endA (e.val : Int), endB (e.val : Int)]).getD 1 0 = f.val)) := by decide +kernel
/-- The classes of the edges on the boundary, as 'boundaryEdges' meets them. -/
def beI (T : List (List (Int × Int))) (acc : List Int) (i : Nat) : Nat → List Int
  | 0 => acc
  | k + 1 => if (fc T (i / 6) ((othersL [endA ((i % 6 : Nat) : Int), endB ((i % 6 : Nat) : Int)]).getD k 0).toNat).1 < 0 then beI T acc i k ++ [(edgeL T).getD i 0] else beI T acc i k
def beO (T : List (List (Int × Int))) : Nat → List Int
  | 0 => []
  | i + 1 => beI T (beO T i) i 2
theorem maxTo_ge (l : List Int) : ∀ k j, j < k → l.getD j 0 ≤ maxTo l k
  | 0, j, h => by omega
  | k + 1, j, h => by
    simp only [maxTo]
    rcases Nat.lt_succ_iff_lt_or_eq.1 h with h | rfl
    · have := maxTo_ge l k j h
      omega
    · omega
theorem lt_classN (l : List Int) (j : Nat) (h : j < l.length) : l.getD j 0 < classN l := by
  unfold classN
  rw [if_neg (by omega)]
  have := maxTo_ge l l.length j h
  omega
theorem edgeL_nat (T : List (List (Int × Int))) (h : T.length ≤ 8) (j : Nat) : ∃ z : Nat, (edgeL T).getD j 0 = z := by
  refine ⟨((edgeL T).getD j 0).toNat, ?_⟩
  by_cases hj : j < (edgeL T).length
  · have := edgeL_bd T h _ (List.getElem_mem hj); simp [hj]; omega
  · simp [List.getD_eq_getElem?_getD, List.getElem?_eq_none (Nat.le_of_not_lt hj)]
set_option maxHeartbeats 4000000 in
theorem boundaryEdges_z {T : List (List (Int × Int))} {N : Nat} (hF : Fine T) (hN : classN (edgeL T) = N) (hNb : N ≤ 100001) : ZCalls Try.prog 175 [zT T] (FZ 1 N (bools (mkB N (beO T (6 * T.length))))) := by
  have h8 := hF.1
  have h4 : ∀ a, a < T.length → (T.getD a []).length = 4 := fun a ha => (hF.2 a ha).1
  have hle := edgeL_len T
  have hbd := edgeL_bd T h8
  have hlt := lt_classN (edgeL T)
  have hcc := classCount_z (l := edgeL T) (by omega) hbd
  rw [hN] at hlt hcc
  have hn0 := mkB_nil N
  refine ZCalls.body Try.func175 rfl Try.ntmps175 (rs := [.tmp 2]) rfl (by simp) rfl fun H Q hQ A hA => ?_
  have a0 := hA 0 _ _ rfl
  clear hA
  have zf0 := @rep_bools
  have zf1 := @zero1
  repeat' first | refine rnY ?_ | (first | refine ZCalls.to (edgeClasses_z hF) ?_ | refine ZCalls.tf (edgeClasses_z hF) ?_) | (first | refine ZCalls.to (hcc) ?_ | refine ZCalls.tf (hcc) ?_) | with_reducible refine And.intro (fun hc => ?_) (fun hc => ?_) | fail
  refine AWp.cut (fun Ac hAc => ?_)
  have c1 := gtY (t := 1) hAc
  have c4 := gtY (t := 4) hAc
  have c16 := gtY (t := 16) hAc
  have c17 := gtY (t := 17) hAc
  have c18 := gtY (t := 18) hAc
  clear a0
  refine AWp.loop (fun A' H' => ∃ (i : Nat), Ag [5, 6, 7, 8, 10, 19, 20, 21, 22, 23, 24, 25, 26, 27, 28, 29, 30, 31, 32, 33, 34, 35, 36, 37, 38, 39, 40, 41, 42, 43, 44, 45, 46, 47, 48, 49, 50, 51, 52, 53, 54, 55, 56, 57, 58] A' (put Ac (some 18) (I i)) ∧ i ≤ 6 * T.length ∧ Ext H H' ∧ H'.get H.size = .cells (bools (mkB N (beO T i))) 1 false ∧ H.size < H'.size) (fun A' _ => 6 * T.length - (intV (A' 18)).toNat) ?_ ?_
  · have e0 : beO T 0 = [] := rfl
    exact ⟨0, agY, by omega, by exact exY, by exact ivY, by exact ivY⟩
  · rintro A1 H1 ⟨i, hA, hi, hx, hg, hs⟩
    have d1 := gdY (t := 1) hA
    have d4 := gdY (t := 4) hA
    have d16 := gdY (t := 16) hA
    have d17 := gdY (t := 17) hA
    have d18 := gdY (t := 18) hA
    by_cases hil : i < 6 * T.length
    · obtain ⟨z, hz⟩ := edgeL_nat T h8 i
      have hzl := hlt i (by omega)
      rw [hz] at hzl
      have hdiv : ((i : Int) / 6) = ((i / 6 : Nat) : Int) := by omega
      have hmod : ((i : Int) % 6) = ((i % 6 : Nat) : Int) := by omega
      have hs1 : beO T (i + 1) = beI T (beO T i) i 2 := rfl
      obtain ⟨u, w, hu, hw, hu4, hw4, huw⟩ := ends_bd (i % 6) (by omega)
      obtain ⟨o1, o2, o3, _⟩ := others2_bd ⟨i % 6, by omega⟩
      dsimp only at o1 o2 o3
      rw [hu, hw] at o1 o2 o3
      have hends := ends_z (i % 6) (by omega)
      rw [hu, hw] at hends
      obtain ⟨⟨j0, hj0⟩, hpj⟩ := o3
      have ho := others_z [(u : Int), (w : Int)] (by simp) ⟨j0, hj0, by simpa using hpj⟩
      unfold Zed.zI at ho
      rw [o1] at ho
      have hstk : ∀ k', beI T (beO T i) i (k' + 1) = if (fc T (i / 6) ((othersL [(u : Int), (w : Int)]).getD k' 0).toNat).1 < 0 then beI T (beO T i) i k' ++ [(z : Int)] else beI T (beO T i) i k' := fun k' => by
        rw [← hu, ← hw, ← hz]; rfl
      generalize beO T i = acc at hg hs1 hstk
      generalize hol : othersL [(u : Int), (w : Int)] = ol at ho o1 o2 hstk
      have hi6 : i / 6 < T.length := by omega
      have h4i := h4 _ hi6
      clear hol hpj hu hw
      repeat' first | refine rnY ?_ | (first | refine ZCalls.to (hends) ?_ | refine ZCalls.tf (hends) ?_) | (first | refine ZCalls.to (ho) ?_ | refine ZCalls.tf (ho) ?_) | with_reducible refine And.intro (fun hc => ?_) (fun hc => ?_) | fail
      refine AWp.cut (fun Ae hAe => ?_)
      have e1 := gtY (t := 1) hAe
      have e4 := gtY (t := 4) hAe
      have e5 := gtY (t := 5) hAe
      have e6 := gtY (t := 6) hAe
      have e16 := gtY (t := 16) hAe
      have e17 := gtY (t := 17) hAe
      have e18 := gtY (t := 18) hAe
      have e32 := gtY (t := 32) hAe
      have e33 := gtY (t := 33) hAe
      have e34 := gtY (t := 34) hAe
      refine AWp.loop (fun A' H' => ∃ (k : Nat), Ag [10, 35, 36, 37, 38, 39, 40, 41, 42, 43, 44, 45, 46, 47, 48, 49, 50, 51, 52, 53, 54, 55, 56, 57] A' (put Ae (some 34) (I k)) ∧ k ≤ 2 ∧ Ext H H' ∧ H'.get H.size = .cells (bools (mkB N (beI T acc i k))) 1 false ∧ H.size < H'.size) (fun A' _ => 2 - (intV (A' 34)).toNat) ?_ ?_
      · have e0 : beI T acc i 0 = acc := rfl
        exact ⟨0, agY, by omega, hx, hg, hs⟩
      · clear hx hg hs
        rintro A2 H2 ⟨k, hB, hk, hx, hg, hs⟩
        have f1 := gdY (t := 1) hB
        have f4 := gdY (t := 4) hB
        have f5 := gdY (t := 5) hB
        have f6 := gdY (t := 6) hB
        have f16 := gdY (t := 16) hB
        have f17 := gdY (t := 17) hB
        have f18 := gdY (t := 18) hB
        have f32 := gdY (t := 32) hB
        have f33 := gdY (t := 33) hB
        have f34 := gdY (t := 34) hB
        by_cases hk2 : k < 2
        · have hst := hstk k
          obtain ⟨o2a, o2b⟩ := o2 ⟨k, hk2⟩
          dsimp only at o2a o2b
          generalize hff : (ol.getD k 0).toNat = f at hst o2a o2b
          have hml := mkB_len N (beI T acc i k)
          have hmg := mkB_get N (beI T acc i k) z (by omega)
          generalize beI T acc i k = L at *
          have hbl := bools_len (mkB N L)
          have hbg := bools_get (l := mkB N L) (i := z) (by omega)
          have hff4 : f < 4 := o2b
          cases hold : (mkB N L).getD z false
          · rw [hold] at hbg
            by_cases hneg : (fc T (i / 6) f).1 < 0
            · rw [if_pos hneg] at hst
              have hfin : bools ((mkB N L).set z true) = bools (mkB N (beI T acc i (k + 1))) := by rw [hst, mkB_set]
              clear hst hstk
              change ((T.getD (i / 6) []).getD f (0, 0)).1 < 0 at hneg
              have zf0 := @bools_set
              repeat' first | refine rnY ?_ | (first | refine ZCalls.to (isBoundary_z _ _) ?_ | refine ZCalls.tf (isBoundary_z _ _) ?_) | with_reducible refine And.intro (fun hc => ?_) (fun hc => ?_) | fail
              exact ⟨⟨k + 1, agY, by omega, by exact exY, by exact ivY, by exact ivY⟩, by exact ivY⟩
            · rw [if_neg hneg] at hst
              have hfin : bools ((mkB N L).set z false) = bools (mkB N (beI T acc i (k + 1))) := by rw [hst, mkB_same _ _ _ _ hold]
              clear hst hstk
              change ¬ ((T.getD (i / 6) []).getD f (0, 0)).1 < 0 at hneg
              have zf0 := @bools_set
              repeat' first | refine rnY ?_ | (first | refine ZCalls.to (isBoundary_z _ _) ?_ | refine ZCalls.tf (isBoundary_z _ _) ?_) | with_reducible refine And.intro (fun hc => ?_) (fun hc => ?_) | fail
              exact ⟨⟨k + 1, agY, by omega, by exact exY, by exact ivY, by exact ivY⟩, by exact ivY⟩
          · rw [hold] at hbg
            by_cases hneg : (fc T (i / 6) f).1 < 0
            · rw [if_pos hneg] at hst
              have hfin : bools ((mkB N L).set z true) = bools (mkB N (beI T acc i (k + 1))) := by rw [hst, mkB_set]
              clear hst hstk
              change ((T.getD (i / 6) []).getD f (0, 0)).1 < 0 at hneg
              have zf0 := @bools_set
              repeat' first | refine rnY ?_ | with_reducible refine And.intro (fun hc => ?_) (fun hc => ?_) | fail
              exact ⟨⟨k + 1, agY, by omega, by exact exY, by exact ivY, by exact ivY⟩, by exact ivY⟩
            · rw [if_neg hneg] at hst
              have hfin : bools ((mkB N L).set z true) = bools (mkB N (beI T acc i (k + 1))) := by rw [hst, mkB_same _ _ _ _ hold]
              clear hst hstk
              change ¬ ((T.getD (i / 6) []).getD f (0, 0)).1 < 0 at hneg
              have zf0 := @bools_set
              repeat' first | refine rnY ?_ | with_reducible refine And.intro (fun hc => ?_) (fun hc => ?_) | fail
              exact ⟨⟨k + 1, agY, by omega, by exact exY, by exact ivY, by exact ivY⟩, by exact ivY⟩
        · obtain rfl : k = 2 := by omega
          rw [← hs1] at hg
          repeat' first | refine rnY ?_ | with_reducible refine And.intro (fun hc => ?_) (fun hc => ?_) | fail
          exact ⟨⟨i + 1, agY, by omega, hx, hg, hs⟩, by exact ivY⟩
    · obtain rfl : i = 6 * T.length := by omega
      repeat' first | refine rnY ?_ | with_reducible refine And.intro (fun hc => ?_) (fun hc => ?_) | fail
      exact hQ.out _ _ (FinV.bools (by omega) (mkB_len _ _) hg) (by exact exY)
end Go.Proofs.Ytmoknllbpjpkmaa.Zed
