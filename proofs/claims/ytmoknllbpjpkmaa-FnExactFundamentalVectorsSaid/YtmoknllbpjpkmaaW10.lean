/- A part of the walk: what functions of the program do, over an abstract heap. -/
import Derived.Test.YtmoknllbpjpkmaaW9
namespace Go.Proofs.Ytmoknllbpjpkmaa.Zed
open Go TP
set_option linter.unusedVariables false
set_option linter.unusedSimpArgs false
set_option maxRecDepth 20000
namespace tfW10
theorem tf : (Try.prog.underlying 25 = some (.slice 2)) ∧ (el Try.prog 25 = some (none, 1)) ∧ (Try.prog.underlying 29 = some (.slice 102)) ∧ (el Try.prog 29 = some (none, 1)) ∧ (Try.prog.underlying 158 = some (.slice 4)) ∧ (el Try.prog 158 = some (none, 1)) ∧ (tk Try.prog 2 = some none) ∧ (tk Try.prog 4 = some none) ∧ (tk Try.prog 25 = some none) ∧ (tk Try.prog 29 = some none) ∧ (tk Try.prog 31 = some (some 1)) ∧ (tk Try.prog 102 = some none) ∧ (tk Try.prog 121 = some (some 3)) ∧ (cz Try.prog 2 = some 1) ∧ (bz Try.prog 2 = some 8) ∧ (cz Try.prog 4 = some 1) ∧ (bz Try.prog 4 = some 1) ∧ (cz Try.prog 102 = some 1) ∧ (bz Try.prog 102 = some 24) ∧ (zr Try.prog 2 = some (.int .i64 0)) ∧ (zr Try.prog 4 = some (.bool false)) ∧ (zr Try.prog 102 = some (.slice none 0 0)) ∧ (zr Try.prog 121 = some (.agg #[.int .i64 0, .int .i64 0, .slice none 0 0])) ∧ (fo Try.prog 31 0 = some (0, none)) ∧ (fo Try.prog 121 0 = some (0, none)) ∧ (fo Try.prog 121 1 = some (1, none)) ∧ (fo Try.prog 121 2 = some (2, none)) ∧ (el Try.prog 121 = none) ∧ (placesOf Try.prog 121 = some #[(0, 1), (1, 1), (2, 1)]) := by
  refine ⟨?_, ?_, ?_, ?_, ?_, ?_, ?_, ?_, ?_, ?_, ?_, ?_, ?_, ?_, ?_, ?_, ?_, ?_, ?_, ?_, ?_, ?_, ?_, ?_, ?_, ?_, ?_, ?_, ?_⟩ <;> kernel_rfl
end tfW10
open tfW10

def codeN (T : List (List (Int × Int))) : Int := if IsTri T then (if T.length ≤ 6 then 0 else 3) else 1
set_option maxHeartbeats 1000000 in
theorem normalCode_z {T : List (List (Int × Int))} (hl : T.length ≤ 1048576) : ZCalls Try.prog 66 [zT T] (I (codeN T)) := by
  have ht := isTriangulation_z hl
  unfold codeN
  by_cases h : IsTri T
  · rw [if_pos h]
    rw [decide_eq_true h] at ht
    by_cases h6 : T.length ≤ 6
    · rw [if_pos h6]
      refine ZCalls.body Try.func66 rfl Try.ntmps66 (rs := [.tmp 2]) rfl (by simp) rfl fun H Q hQ A hA => ?_
      have a0 := hA 0 _ _ rfl
      clear hA
      repeat' first | refine rnY ?_ | (first | refine ZCalls.to (ht) ?_ | refine ZCalls.tf (ht) ?_) | with_reducible refine And.intro (fun hc => ?_) (fun hc => ?_) | fail
      exact hQ.out _ _ (fv) (by exact exY)
    · rw [if_neg h6]
      refine ZCalls.body Try.func66 rfl Try.ntmps66 (rs := [.tmp 2]) rfl (by simp) rfl fun H Q hQ A hA => ?_
      have a0 := hA 0 _ _ rfl
      clear hA
      repeat' first | refine rnY ?_ | (first | refine ZCalls.to (ht) ?_ | refine ZCalls.tf (ht) ?_) | with_reducible refine And.intro (fun hc => ?_) (fun hc => ?_) | fail
      exact hQ.out _ _ (fv) (by exact exY)
  · rw [if_neg h]
    rw [decide_eq_false h] at ht
    refine ZCalls.body Try.func66 rfl Try.ntmps66 (rs := [.tmp 2]) rfl (by simp) rfl fun H Q hQ A hA => ?_
    have a0 := hA 0 _ _ rfl
    clear hA
    repeat' first | refine rnY ?_ | (first | refine ZCalls.to (ht) ?_ | refine ZCalls.tf (ht) ?_) | with_reducible refine And.intro (fun hc => ?_) (fun hc => ?_) | fail
    exact hQ.out _ _ (fv) (by exact exY)
theorem opposite_z (e : Int) (h0 : 0 ≤ e) (h5 : e ≤ 5) : ZCalls Try.prog 173 [I e] (I (5 - e)) := by
  refine ZCalls.body Try.func173 rfl Try.ntmps173 (rs := [.tmp 2]) rfl (by simp) rfl fun H Q hQ A hA => ?_
  have a0 := hA 0 _ _ rfl
  clear hA
  repeat' first | refine rnY ?_ | with_reducible refine And.intro (fun hc => ?_) (fun hc => ?_) | fail
  exact hQ.out _ _ (fv) (by exact exY)
set_option maxHeartbeats 1000000 in
theorem at_z {g n k : Nat} (r c i j : Nat) (hn : n ≤ 10000000) (hc : c ≤ 1000) (hi : i ≤ 200000) (hj : j ≤ 1000) (hij : i * c + j < n) :
    ZCalls Try.prog 176 [.agg #[I r, I c, .slice (some ⟨g, 0, none⟩) n k], I i, I j] (.pointer (some ⟨g, i * c + j, none⟩)) := by
  have hm : i * c ≤ 200000000 := Nat.le_trans (Nat.mul_le_mul hi hc) (by decide)
  have hmi : (i : Int) * (c : Int) = ((i * c : Nat) : Int) := by push_cast; rfl
  generalize i * c = q at hm hmi hij
  intro H
  refine ACalls.body Try.func176 rfl Try.ntmps176 (rs := [.tmp 6]) rfl (by simp) rfl fun Q hQ A hA => ?_
  have a0 := hA 0 _ _ rfl
  have a1 := hA 1 _ _ rfl
  have a2 := hA 2 _ _ rfl
  clear hA
  have htn : ((q : Int) + (j : Int)).toNat = q + j := by omega
  repeat' first | refine rnY ?_ | with_reducible refine And.intro (fun hc => ?_) (fun hc => ?_) | fail
  exact hQ.out _ _ ⟨rfl, rfl⟩
/-- The rows' numbers: one for each edge that is not on the boundary. -/
def rwN (b : List Bool) : Nat → Nat
  | 0 => 0
  | j + 1 => if b.getD j false = true then rwN b j else rwN b j + 1
def rwL (n : Nat) (b : List Bool) (N : Nat) : Nat → List Int
  | 0 => List.replicate N 0
  | j + 1 => if b.getD j false = true then rwL n b N j else (rwL n b N j).set j ((n + rwN b j : Nat) : Int)
theorem rwN_le (b : List Bool) (j : Nat) : rwN b j ≤ j := by
  induction j with
  | zero => exact Nat.le_refl _
  | succ j ih => unfold rwN; split <;> omega
theorem rwN_mono (b : List Bool) {i j : Nat} (h : i ≤ j) : rwN b i ≤ rwN b j := by
  induction j with
  | zero => rw [Nat.le_zero.1 h]; exact Nat.le_refl _
  | succ j ih =>
    by_cases e : i = j + 1
    · subst e; exact Nat.le_refl _
    · have := ih (by omega)
      conv => rhs; unfold rwN
      split <;> omega
theorem rwL_len (n : Nat) (b : List Bool) (N j : Nat) : (rwL n b N j).length = N := by
  induction j with
  | zero => simp [rwL]
  | succ j ih => unfold rwL; split <;> simp [ih]
theorem rwL_get (n : Nat) (b : List Bool) (N : Nat) : ∀ j i, i < j → j ≤ N → b.getD i false = false → (rwL n b N j).getD i 0 = ((n + rwN b i : Nat) : Int) := by
  intro j
  induction j with
  | zero => intro i hi; omega
  | succ j ih =>
    intro i hi hN hb
    by_cases e : i = j
    · subst e
      unfold rwL
      rw [if_neg (by rw [hb]; simp)]
      have := rwL_len n b N i
      rw [List.getD_eq_getElem?_getD, List.getElem?_set_self (by omega)]; rfl
    · unfold rwL
      split
      · exact ih i (by omega) (by omega) hb
      · rw [List.getD_eq_getElem?_getD, List.getElem?_set_ne (by omega), ← List.getD_eq_getElem?_getD]
        exact ih i (by omega) (by omega) hb
/-- The matrix: rows for the tetrahedra, then for the inner edges. -/
def amI (c : Nat) (M : List Int) (a : Nat) : Nat → List Int
  | 0 => M
  | k + 1 => (amI c M a k).set (a * c + (3 * a + k)) 1
def amA (n c : Nat) (M : List Int) : Nat → List Int
  | 0 => M
  | a + 1 => (amI c (amA n c M a) a 3).set (a * c + 3 * n) 1
/-- One corner of an edge: row r, column j. -/
def amP (c n r j : Nat) (M : List Int) : List Int := (M.set (r * c + j) (M.getD (r * c + j) 0 + 1)).set (r * c + 3 * n) 2
def amE (c n : Nat) (b : List Bool) (E row : List Int) (M : List Int) : Nat → List Int
  | 0 => M
  | i + 1 => if b.getD (E.getD i 0).toNat false = true then amE c n b E row M i else amP c n (row.getD (E.getD i 0).toNat 0).toNat (3 * (i / 6) + min (i % 6) (5 - i % 6)) (amE c n b E row M i)
theorem amI_len (c : Nat) (M : List Int) (a k : Nat) : (amI c M a k).length = M.length := by
  induction k with
  | zero => rfl
  | succ k ih => unfold amI; simp [ih]
theorem amA_len (n c : Nat) (M : List Int) (a : Nat) : (amA n c M a).length = M.length := by
  induction a with
  | zero => rfl
  | succ a ih => unfold amA; simp [ih, amI_len]
theorem amE_len (c n : Nat) (b : List Bool) (E row M : List Int) (i : Nat) : (amE c n b E row M i).length = M.length := by
  induction i with
  | zero => rfl
  | succ i ih => unfold amE; split <;> simp [ih, amP]
theorem set_bd (L : List Int) (k j : Nat) (x B : Int) (h : ∀ j, -1 ≤ L.getD j 0 ∧ L.getD j 0 ≤ B) (h1 : -1 ≤ x) (h2 : x ≤ B) : -1 ≤ (L.set k x).getD j 0 ∧ (L.set k x).getD j 0 ≤ B := by
  have hj := h j
  rw [List.getD_eq_getElem?_getD] at hj ⊢
  rw [List.getElem?_set]
  split
  · split
    · exact ⟨h1, h2⟩
    · subst_vars; rw [List.getElem?_eq_none (by omega)] at hj; exact hj
  · exact hj
theorem amI_bd (c : Nat) (M : List Int) (a k : Nat) (h : ∀ j, -1 ≤ M.getD j 0 ∧ M.getD j 0 ≤ 1) : ∀ j, -1 ≤ (amI c M a k).getD j 0 ∧ (amI c M a k).getD j 0 ≤ 1 := by
  induction k with
  | zero => exact h
  | succ k ih => intro j; unfold amI; exact set_bd _ _ _ _ _ ih (by omega) (by omega)
theorem amA_bd (n c : Nat) (M : List Int) (a : Nat) (h : ∀ j, -1 ≤ M.getD j 0 ∧ M.getD j 0 ≤ 1) : ∀ j, -1 ≤ (amA n c M a).getD j 0 ∧ (amA n c M a).getD j 0 ≤ 1 := by
  induction a with
  | zero => exact h
  | succ a ih => intro j; unfold amA; exact set_bd _ _ _ _ _ (amI_bd _ _ _ _ ih) (by omega) (by omega)
theorem amE_bd (c n : Nat) (b : List Bool) (E row M : List Int) (hM : ∀ j, -1 ≤ M.getD j 0 ∧ M.getD j 0 ≤ 1) (i : Nat) : ∀ j, -1 ≤ (amE c n b E row M i).getD j 0 ∧ (amE c n b E row M i).getD j 0 ≤ 2 + i := by
  induction i with
  | zero => intro j; have := hM j; show -1 ≤ M.getD j 0 ∧ M.getD j 0 ≤ _; omega
  | succ i ih =>
    intro j
    unfold amE
    split
    · have := ih j; omega
    · refine set_bd _ _ _ _ _ (fun j => set_bd _ _ _ _ _ (fun j => ?_) ?_ ?_) (by omega) (by omega)
      · have := ih j; omega
      · have := ih ((row.getD (E.getD i 0).toNat 0).toNat * c + (3 * (i / 6) + min (i % 6) (5 - i % 6))); omega
      · have := ih ((row.getD (E.getD i 0).toNat 0).toNat * c + (3 * (i / 6) + min (i % 6) (5 - i % 6))); push_cast; omega
def nE (T : List (List (Int × Int))) : Nat := (classN (edgeL T)).toNat
def bdB (T : List (List (Int × Int))) : List Bool := mkB (nE T) (beO T (6 * T.length))
def amR (T : List (List (Int × Int))) : Nat := T.length + rwN (bdB T) (nE T)
def amC (T : List (List (Int × Int))) : Nat := 3 * T.length + 1
def amL (T : List (List (Int × Int))) : List Int := amE (amC T) T.length (bdB T) (edgeL T) (rwL T.length (bdB T) (nE T) (nE T)) (amA T.length (amC T) (List.replicate (amR T * amC T) 0) T.length) (6 * T.length)
set_option maxHeartbeats 4000000 in
theorem angleMatrix_o {T : List (List (Int × Int))} (hF : Fine T) : OCalls Try.prog 129 [zT T] (.agg #[I (amR T), I (amC T), zI (amL T)]) := by
  have h8 := hF.1
  have hle := edgeL_len T
  have hbd := edgeL_bd T h8
  have hcb : 0 ≤ classN (edgeL T) ∧ classN (edgeL T) ≤ 100001 := by
    unfold classN
    split
    · omega
    · have := TP.maxTo_bd (edgeL T) 100000 hbd (by omega) (edgeL T).length (Nat.le_refl _); omega
  have hN : classN (edgeL T) = nE T := by unfold nE; omega
  have hNb : nE T ≤ 100001 := by omega
  have hbe := boundaryEdges_z hF hN hNb
  have hbl : (bdB T).length = nE T := mkB_len _ _
  change ZCalls _ _ _ (FZ 1 (nE T) (bools (bdB T))) at hbe
  have hR : T.length + rwN (bdB T) (nE T) = amR T := rfl
  have hC : 3 * T.length + 1 = amC T := rfl
  have hL : amL T = amE (amC T) T.length (bdB T) (edgeL T) (rwL T.length (bdB T) (nE T) (nE T)) (amA T.length (amC T) (List.replicate (amR T * amC T) 0) T.length) (6 * T.length) := rfl
  generalize bdB T = b at *
  generalize nE T = N at *
  generalize amR T = R at *
  generalize amC T = C at *
  have hC2 : (3 * (T.length : Int) + 1) = ((C : Nat) : Int) := by omega
  have hrn := rwL_len T.length b N
  have hltc := lt_classN (edgeL T)
  rw [hN] at hltc
  refine OCalls.body Try.func129 rfl Try.ntmps129 (rs := [.cell 2 121]) rfl (by simp) rfl fun H Q hQ A hA => ?_
  have a0 := hA 0 _ _ rfl
  clear hA
  repeat' first | refine rnY ?_ | (first | refine ZCalls.to (size_z _ _ _) ?_ | refine ZCalls.tf (size_z _ _ _) ?_) | with_reducible refine And.intro (fun hc => ?_) (fun hc => ?_) | fail
  refine AWp.zreg [(0, none), (1, none), (2, none), (3, none), (4, none), (5, none)] mixed (by kernel_rfl) ?_
  repeat' first | refine rzY ?_ | (first | refine ZCalls.to (edgeClasses_z hF) ?_ | refine ZCalls.tf (edgeClasses_z hF) ?_) | (first | refine ZCalls.to (hbe) ?_ | refine ZCalls.tf (hbe) ?_) | fail
  have zf0 := @rep_ints
  have zf1 := @zero1
  repeat' first | refine rnY ?_ | with_reducible refine And.intro (fun hc => ?_) (fun hc => ?_) | fail
  refine AWp.cut (fun Ac hAc => ?_)
  have c2 := gtY (t := 2) hAc
  have c3 := gtY (t := 3) hAc
  have c4 := gtY (t := 4) hAc
  have c5 := gtY (t := 5) hAc
  have c6 := gtY (t := 6) hAc
  have c7 := gtY (t := 7) hAc
  have c30 := gtY (t := 30) hAc
  have c31 := gtY (t := 31) hAc
  have c32 := gtY (t := 32) hAc
  clear a0
  refine AWp.loop (fun A' H' => ∃ (j : Nat), Ag [8, 9, 33, 34, 35, 36, 37, 38, 39, 40, 41, 42, 43, 44, 45, 46, 47, 48] A' (put Ac (some 32) (I j)) ∧ j ≤ N ∧ H' = (((H.push (.cells [I 0, I 0, .slice none 0 0] 1 false)).push (.cells (ints (rwL T.length b N j)) 1 false)).push (.cells [I (T.length + rwN b j : Nat), I C, .slice none 0 0] 1 false))) (fun A' _ => N - (intV (A' 32)).toNat) ?_ ?_
  · exact ⟨0, agY, by omega, rfl⟩
  · rintro A1 H1 ⟨j, hA, hj, rfl⟩
    have d2 := gdY (t := 2) hA
    have d3 := gdY (t := 3) hA
    have d4 := gdY (t := 4) hA
    have d5 := gdY (t := 5) hA
    have d6 := gdY (t := 6) hA
    have d7 := gdY (t := 7) hA
    have d30 := gdY (t := 30) hA
    have d31 := gdY (t := 31) hA
    have d32 := gdY (t := 32) hA
    by_cases hlt : j < N
    · have hs1 : rwN b (j + 1) = if b.getD j false = true then rwN b j else rwN b j + 1 := rfl
      have hs2 : rwL T.length b N (j + 1) = if b.getD j false = true then rwL T.length b N j else (rwL T.length b N j).set j ((T.length + rwN b j : Nat) : Int) := rfl
      have hrl := hrn j
      have hle1 := rwN_le b j
      generalize rwN b j = r at *
      generalize rwL T.length b N j = row at *
      have hbg := bools_get (l := b) (i := j) (by omega)
      have hbl2 := bools_len b
      have hcc : ((T.length + r : Nat) : Int) + 1 = ((T.length + (r + 1) : Nat) : Int) := by omega
      cases hb : b.getD j false
      · rw [if_neg (by rw [hb]; simp)] at hs1 hs2
        rw [hb] at hbg
        repeat' first | refine rnY ?_ | with_reducible refine And.intro (fun hc => ?_) (fun hc => ?_) | fail
        exact ⟨⟨j + 1, agY, by omega, by rw [hs1, hs2]⟩, by exact ivY⟩
      · rw [if_pos hb] at hs1 hs2
        rw [hb] at hbg
        repeat' first | refine rnY ?_ | with_reducible refine And.intro (fun hc => ?_) (fun hc => ?_) | fail
        exact ⟨⟨j + 1, agY, by omega, by rw [hs1, hs2]⟩, by exact ivY⟩
    · obtain rfl : j = N := by omega
      have hrb := rwN_le b j
      have hRb : R ≤ 200000 := by omega
      clear hcb
      obtain ⟨M0, hM0⟩ : ∃ M0, R * C = M0 := ⟨_, rfl⟩
      have hM0b : M0 ≤ 5000000 := by rw [← hM0]; exact Nat.le_trans (Nat.mul_le_mul hRb (show C ≤ 25 by omega)) (by decide)
      have hRC : (R : Int) * (C : Int) = (M0 : Int) := by rw [← hM0]; push_cast; rfl
      rw [hM0] at hL
      have hrg := rwL_get T.length b j j
      have hrm : ∀ z, z < j → b.getD z false = false → T.length + rwN b z < R := fun z hz hb => by
        have h1 : rwN b (z + 1) = if b.getD z false = true then rwN b z else rwN b z + 1 := rfl
        rw [if_neg (by rw [hb]; simp)] at h1
        have := rwN_mono b (i := z + 1) (j := j) (by omega)
        omega
      have hrowl := hrn j
      clear hrn
      generalize hrow : rwL T.length b j j = row at *
      have zf0 := @rep_ints
      have zf1 := @zero1
      repeat' first | refine rnY ?_ | with_reducible refine And.intro (fun hc => ?_) (fun hc => ?_) | fail
      refine AWp.cut (fun Ae hAe => ?_)
      have e2 := gtY (t := 2) hAe
      have e3 := gtY (t := 3) hAe
      have e4 := gtY (t := 4) hAe
      have e5 := gtY (t := 5) hAe
      have e6 := gtY (t := 6) hAe
      have e7 := gtY (t := 7) hAe
      have e56 := gtY (t := 56) hAe
      have e57 := gtY (t := 57) hAe
      obtain ⟨HB, hHB⟩ : ∃ HB : Heap, ((H.push (.cells [I 0, I 0, .slice none 0 0] 1 false)).push (.cells (ints row) 1 false)).push (.cells [I R, I C, .slice (some ⟨H.size + 1 + 1 + 1, 0, none⟩) M0 (M0 + 1)] 1 false) = HB := ⟨_, rfl⟩
      have hB0 : HB.size = H.size + 1 + 1 + 1 := by rw [← hHB]; rfl
      have hB1 : HB.get (H.size + 1) = .cells (ints row) 1 false := by rw [← hHB, get_push_lt (by rw [Heap.size_push, Heap.size_push]; omega), get_push_eq (by rw [Heap.size_push])]
      have hB2 : HB.get (H.size + 1 + 1) = .cells [I R, I C, .slice (some ⟨H.size + 1 + 1 + 1, 0, none⟩) M0 (M0 + 1)] 1 false := by rw [← hHB, get_push_eq (by rw [Heap.size_push, Heap.size_push])]
      have hB3 : HB.get H.size = .cells [I 0, I 0, .slice none 0 0] 1 false := by rw [← hHB, get_push_lt (by rw [Heap.size_push, Heap.size_push]; omega), get_push_lt (by rw [Heap.size_push]; omega), get_push_eq rfl]
      have hBx : Ext H HB := by rw [← hHB]; exact (((Ext.refl _).push _).push _).push _
      rw [hHB]
      clear hHB
      obtain ⟨Z, hZ⟩ : ∃ Z, List.replicate M0 (0 : Int) = Z := ⟨_, rfl⟩
      have hZl : Z.length = M0 := by rw [← hZ, List.length_replicate]
      have hZb : ∀ j, -1 ≤ Z.getD j 0 ∧ Z.getD j 0 ≤ 0 := fun j => by
        rw [← hZ]; rw [List.getD_eq_getElem?_getD, List.getElem?_replicate]; split <;> simp
      rw [hZ] at hL ⊢
      clear hZ
      have hnR : T.length ≤ R := by omega
      have hidx : ∀ i j, i < R → j < C → i * C + j < M0 := fun i j hi hj => by
        rw [← hM0]
        calc i * C + j < i * C + C := by omega
          _ = (i + 1) * C := by rw [Nat.add_mul, Nat.one_mul]
          _ ≤ R * C := Nat.mul_le_mul_right _ hi
      clear hM0 hRC
      refine AWp.loop (fun A' H' => ∃ (a : Nat), Ag [10, 11, 58, 59, 60, 61, 62, 63, 64, 65, 66, 67, 68, 69, 70, 71, 72, 73, 74, 75, 76, 77, 78] A' (put Ae (some 57) (I a)) ∧ a ≤ T.length ∧ H' = HB.push (.cells (ints (amA T.length C Z a)) 1 false)) (fun A' _ => T.length - (intV (A' 57)).toNat) ?_ ?_
      · exact ⟨0, agY, by omega, rfl⟩
      · rintro A2 H2 ⟨a, hB, ha, rfl⟩
        have f2 := gdY (t := 2) hB
        have f3 := gdY (t := 3) hB
        have f4 := gdY (t := 4) hB
        have f5 := gdY (t := 5) hB
        have f6 := gdY (t := 6) hB
        have f7 := gdY (t := 7) hB
        have f56 := gdY (t := 56) hB
        have f57 := gdY (t := 57) hB
        by_cases hlt : a < T.length
        · have hs1 : amA T.length C Z (a + 1) = (amI C (amA T.length C Z a) a 3).set (a * C + 3 * T.length) 1 := rfl
          have hla := amA_len T.length C Z a
          generalize amA T.length C Z a = M at *
          repeat' first | refine rnY ?_ | with_reducible refine And.intro (fun hc => ?_) (fun hc => ?_) | fail
          refine AWp.cut (fun Aq hAq => ?_)
          have q2 := gtY (t := 2) hAq
          have q3 := gtY (t := 3) hAq
          have q4 := gtY (t := 4) hAq
          have q5 := gtY (t := 5) hAq
          have q6 := gtY (t := 6) hAq
          have q7 := gtY (t := 7) hAq
          have q10 := gtY (t := 10) hAq
          have q56 := gtY (t := 56) hAq
          have q57 := gtY (t := 57) hAq
          have q60 := gtY (t := 60) hAq
          refine AWp.loop (fun A' H' => ∃ (k : Nat), Ag [11, 61, 62, 63, 64, 65, 66, 67, 68, 69, 70, 71] A' (put Aq (some 60) (I k)) ∧ k ≤ 3 ∧ H' = HB.push (.cells (ints (amI C M a k)) 1 false)) (fun A' _ => 3 - (intV (A' 60)).toNat) ?_ ?_
          · exact ⟨0, agY, by omega, rfl⟩
          · rintro A3 H3 ⟨k, hD, hk, rfl⟩
            have h2 := gdY (t := 2) hD
            have h3 := gdY (t := 3) hD
            have h4 := gdY (t := 4) hD
            have h5 := gdY (t := 5) hD
            have h6 := gdY (t := 6) hD
            have h7 := gdY (t := 7) hD
            have h10 := gdY (t := 10) hD
            have h56 := gdY (t := 56) hD
            have h57 := gdY (t := 57) hD
            have h60 := gdY (t := 60) hD
            by_cases hlk : k < 3
            · have hs2 : amI C M a (k + 1) = (amI C M a k).set (a * C + (3 * a + k)) 1 := rfl
              have hli := amI_len C M a k
              generalize amI C M a k = M2 at *
              have hat := at_z (g := H.size + 1 + 1 + 1) (n := M0) (k := M0 + 1) R C a (3 * a + k) (by omega) (by omega) (by omega) (by omega) (hidx _ _ (by omega) (by omega))
              rw [show ((3 * a + k : Nat) : Int) = 3 * (a : Int) + (k : Int) by omega] at hat
              have hix := hidx a (3 * a + k) (by omega) (by omega)
              repeat' first | refine rnY ?_ | (first | refine ZCalls.to (hat) ?_ | refine ZCalls.tf (hat) ?_) | with_reducible refine And.intro (fun hc => ?_) (fun hc => ?_) | fail
              exact ⟨⟨k + 1, agY, by omega, by rw [hs2]⟩, by exact ivY⟩
            · obtain rfl : k = 3 := by omega
              have hat := at_z (g := H.size + 1 + 1 + 1) (n := M0) (k := M0 + 1) R C a (3 * T.length) (by omega) (by omega) (by omega) (by omega) (hidx _ _ (by omega) (by omega))
              rw [show ((3 * T.length : Nat) : Int) = 3 * (T.length : Int) by omega] at hat
              have hix := hidx a (3 * T.length) (by omega) (by omega)
              have hli := amI_len C M a 3
              repeat' first | refine rnY ?_ | (first | refine ZCalls.to (hat) ?_ | refine ZCalls.tf (hat) ?_) | with_reducible refine And.intro (fun hc => ?_) (fun hc => ?_) | fail
              exact ⟨⟨a + 1, agY, by omega, by rw [hs1]⟩, by exact ivY⟩
        · obtain rfl : a = T.length := by omega
          have hla := amA_len T.length C Z T.length
          generalize hM : amA T.length C Z T.length = M at *
          repeat' first | refine rnY ?_ | with_reducible refine And.intro (fun hc => ?_) (fun hc => ?_) | fail
          refine AWp.cut (fun As hAs => ?_)
          have s2 := gtY (t := 2) hAs
          have s3 := gtY (t := 3) hAs
          have s5 := gtY (t := 5) hAs
          have s6 := gtY (t := 6) hAs
          have s7 := gtY (t := 7) hAs
          have s79 := gtY (t := 79) hAs
          have s80 := gtY (t := 80) hAs
          have s81 := gtY (t := 81) hAs
          have hMb : ∀ j, -1 ≤ M.getD j 0 ∧ M.getD j 0 ≤ 1 := by rw [← hM]; exact amA_bd _ _ _ _ (fun j => by have := hZb j; omega)
          clear hM hZb
          have hbl2 := bools_len b
          refine AWp.loop (fun A' H' => ∃ (i : Nat), Ag [12, 13, 14, 82, 83, 84, 85, 86, 87, 88, 89, 90, 91, 92, 93, 94, 95, 96, 97, 98, 99, 100, 101, 102, 103, 104, 105, 106, 107, 108, 109, 110, 111, 112, 113, 114, 115, 116, 117, 118, 119, 120] A' (put As (some 81) (I i)) ∧ i ≤ 6 * T.length ∧ H' = HB.push (.cells (ints (amE C T.length b (edgeL T) row M i)) 1 false)) (fun A' _ => 6 * T.length - (intV (A' 81)).toNat) ?_ ?_
          · exact ⟨0, agY, by omega, rfl⟩
          · rintro A3 H3 ⟨i, hD, hi, rfl⟩
            have h2 := gdY (t := 2) hD
            have h3 := gdY (t := 3) hD
            have h5 := gdY (t := 5) hD
            have h6 := gdY (t := 6) hD
            have h7 := gdY (t := 7) hD
            have h79 := gdY (t := 79) hD
            have h80 := gdY (t := 80) hD
            have h81 := gdY (t := 81) hD
            by_cases hil : i < 6 * T.length
            · obtain ⟨z, hz⟩ := edgeL_nat T h8 i
              have hzl := hltc i (by omega)
              rw [hz] at hzl
              have hdiv : ((i : Int) / 6) = ((i / 6 : Nat) : Int) := by omega
              have hmod : ((i : Int) % 6) = ((i % 6 : Nat) : Int) := by omega
              have hs1 : amE C T.length b (edgeL T) row M (i + 1) = if b.getD z false = true then amE C T.length b (edgeL T) row M i else amP C T.length (row.getD z 0).toNat (3 * (i / 6) + min (i % 6) (5 - i % 6)) (amE C T.length b (edgeL T) row M i) := by
                rw [show z = ((edgeL T).getD i 0).toNat by rw [hz]; rfl]; rfl
              have hbg := bools_get (l := b) (i := z) (by omega)
              have hla2 := amE_len C T.length b (edgeL T) row M i
              have hbd2 := amE_bd C T.length b (edgeL T) row M hMb i
              generalize amE C T.length b (edgeL T) row M i = W at *
              clear hL hltc hMb
              cases hb : b.getD z false
              · rw [if_neg (by rw [hb]; simp)] at hs1
                have hrz := hrg z (by omega) (Nat.le_refl _) hb
                have hrl := hrm z (by omega) hb
                rw [hb] at hbg
                clear hrg hrm
                generalize T.length + rwN b z = r at hrz hrl
                rw [hrz, Int.toNat_natCast] at hs1
                have hi6 : i / 6 < T.length := by omega
                obtain ⟨u, hu⟩ : ∃ u, i % 6 = u := ⟨_, rfl⟩
                have hu6 : u < 6 := by omega
                rw [hu] at hs1 hmod
                have hopp := opposite_z u (by omega) (by omega)
                obtain ⟨m, hm⟩ : ∃ m, min u (5 - u) = m := ⟨_, rfl⟩
                rw [hm] at hs1
                have hmin : (if (5 - (u : Int)) < (u : Int) then 5 - (u : Int) else (u : Int)) = (m : Int) := by split <;> omega
                have hm3 : m < 3 := by omega
                have hat := at_z (g := H.size + 1 + 1 + 1) (n := M0) (k := M0 + 1) R C r (3 * (i / 6) + m) (by omega) (by omega) (by omega) (by omega) (hidx _ _ (by omega) (by omega))
                rw [show ((3 * (i / 6) + m : Nat) : Int) = 3 * ((i / 6 : Nat) : Int) + (m : Int) by omega] at hat
                have hix := hidx r (3 * (i / 6) + m) (by omega) (by omega)
                have hat2 := at_z (g := H.size + 1 + 1 + 1) (n := M0) (k := M0 + 1) R C r (3 * T.length) (by omega) (by omega) (by omega) (by omega) (hidx _ _ (by omega) (by omega))
                rw [show ((3 * T.length : Nat) : Int) = 3 * (T.length : Int) by omega] at hat2
                have hix2 := hidx r (3 * T.length) (by omega) (by omega)
                have hwb := hbd2 (r * C + (3 * (i / 6) + m))
                clear hidx hbd2 hu hm
                repeat' first | refine rnY ?_ | with_reducible refine And.intro (fun hc => ?_) (fun hc => ?_) | fail
                refine AWp.zreg [(0, none), (1, none), (2, none), (3, none), (4, none), (5, none), (6, none), (7, none), (8, none), (9, none), (10, none), (11, none), (12, none), (13, none), (14, none), (15, none), (16, none), (17, none), (18, some [0, 4, 15])] mixed (by kernel_rfl) ?_
                repeat' first | refine rzY ?_ | (first | refine ZCalls.to (hopp) ?_ | refine ZCalls.tf (hopp) ?_) | (first | refine ZCalls.to (hat) ?_ | refine ZCalls.tf (hat) ?_) | fail
                repeat' first | refine rnY ?_ | with_reducible refine And.intro (fun hc => ?_) (fun hc => ?_) | fail
                refine AWp.zreg [(0, none), (1, none), (2, none), (3, none), (4, none), (5, none), (6, none), (7, none), (8, none), (9, some [0, 4])] mixed (by kernel_rfl) ?_
                repeat' first | refine rzY ?_ | (first | refine ZCalls.to (hat2) ?_ | refine ZCalls.tf (hat2) ?_) | fail
                repeat' first | refine rnY ?_ | with_reducible refine And.intro (fun hc => ?_) (fun hc => ?_) | fail
                exact ⟨⟨i + 1, agY, by omega, by rw [hs1]; exact ivY⟩, by exact ivY⟩
              · rw [if_pos hb] at hs1
                rw [hb] at hbg
                clear hrg hrm
                repeat' first | refine rnY ?_ | with_reducible refine And.intro (fun hc => ?_) (fun hc => ?_) | fail
                exact ⟨⟨i + 1, agY, by omega, by rw [hs1]⟩, by exact ivY⟩
            · obtain rfl : i = 6 * T.length := by omega
              repeat' first | refine rnY ?_ | with_reducible refine And.intro (fun hc => ?_) (fun hc => ?_) | fail
              have hlw := amE_len C T.length b (edgeL T) row M (6 * T.length)
              refine hQ.out _ _ (OwnB.ag (l := [I R, I C, .slice (some ⟨H.size + 1 + 1 + 1, 0, none⟩) M0 (M0 + 1)]) (l' := [I R, I C, zI (amL T)]) (lo := H.size) (hi := H.size + 1 + 1 + 1 + 1) (.cons (mid := H.size) (.flat rfl) (.cons (mid := H.size) (.flat rfl) ?_ (by omega) (by omega)) (by omega) (by omega))).out ((hBx.set _ (Nat.le_refl _)).push _)
              rw [hL]
              rw [show M0 = (amE C T.length b (edgeL T) row M (6 * T.length)).length by omega]
              exact OwnB.ints (by omega) (by omega) rfl (get_push_eq (by rw [Heap.size_set]; omega))
theorem angleMatrix_z {T : List (List (Int × Int))} (hF : Fine T) : ZCalls Try.prog 129 [zT T] (.agg #[I (amR T), I (amC T), zI (amL T)]) := (angleMatrix_o hF).toZ (Cl.cons (Cl.zT _) Cl.nil)
end Go.Proofs.Ytmoknllbpjpkmaa.Zed
