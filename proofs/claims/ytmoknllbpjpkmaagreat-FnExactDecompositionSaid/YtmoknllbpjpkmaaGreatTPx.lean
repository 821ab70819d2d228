/- Plain mathematics of triangulations' classes: union-find against marks, numberings. No program in sight. -/
namespace Go.Proofs.YtmoknllbpjpkmaaGreat.TP
set_option linter.unusedVariables false
set_option linter.unusedSimpArgs false
def bl (k : Nat) : Int := [6, 2, 1, 1].getD k 1
/-- The state of 'perm' after k rounds: what is left of p; the numbers left (zeros behind); the images. -/
def stp (p : Int) : Nat → Int × List Int × List Int
  | 0 => (p, [0, 1, 2, 3], [0, 0, 0, 0])
  | k + 1 => let s := stp p k; let q := (s.1 / bl k).toNat; (s.1 % bl k, (s.2.1.take (4 - k)).eraseIdx q ++ [0] ++ s.2.1.drop (4 - k), s.2.2.set k (s.2.1.getD q 0))
def pmL (p : Int) : List Int := (stp p 4).2.2
theorem stp_x (p : Int) (h0 : 0 ≤ p) (h1 : p < 24) : (0 ≤ (stp p 1).1 ∧ (stp p 1).1 < 6) ∧ (0 ≤ (stp p 2).1 ∧ (stp p 2).1 < 2) ∧ (0 ≤ (stp p 3).1 ∧ (stp p 3).1 < 1) := by
  simp only [stp, bl]
  simp
  omega
theorem four {l : List Int} (h : l.length = 4) : ∃ a b c d, l = [a, b, c, d] := by
  match l, h with
  | [a, b, c, d], _ => exact ⟨a, b, c, d, rfl⟩
theorem stp_step_len {p : Int} {k : Nat} (h : (stp p k).2.1.length = 4 ∧ (stp p k).2.2.length = 4) (hk : k < 4) (hq : (stp p k).1 / bl k < 4 - k) (hq0 : 0 ≤ (stp p k).1 / bl k) : (stp p (k + 1)).2.1.length = 4 ∧ (stp p (k + 1)).2.2.length = 4 := by
  generalize hs : stp p k = s at *
  obtain ⟨X, L, O⟩ := s
  simp only [stp, hs]
  dsimp only at h hq hq0 ⊢
  refine ⟨?_, by rw [List.length_set]; exact h.2⟩
  rw [List.length_append, List.length_append, List.length_eraseIdx, List.length_take, List.length_drop, h.1, List.length_singleton, if_pos (by omega)]
  omega
theorem stp_len (p : Int) (k : Nat) (hk : k ≤ 4) (h0 : 0 ≤ p) (h1 : p < 24) : (stp p k).2.1.length = 4 ∧ (stp p k).2.2.length = 4 := by
  have hh := stp_x p h0 h1
  have l0 : (stp p 0).2.1.length = 4 ∧ (stp p 0).2.2.length = 4 := ⟨rfl, rfl⟩
  have b0 : bl 0 = 6 := rfl
  have b1 : bl 1 = 2 := rfl
  have b2 : bl 2 = 1 := rfl
  have b3 : bl 3 = 1 := rfl
  have x0 : (stp p 0).1 = p := rfl
  have l1 := stp_step_len (k := 0) l0 (by omega) (by rw [b0, x0]; omega) (by rw [b0, x0]; omega)
  have l2 := stp_step_len (k := 1) l1 (by omega) (by rw [b1]; omega) (by rw [b1]; omega)
  have l3 := stp_step_len (k := 2) l2 (by omega) (by rw [b2]; omega) (by rw [b2]; omega)
  have l4 := stp_step_len (k := 3) l3 (by omega) (by rw [b3]; omega) (by rw [b3]; omega)
  clear hh b0 b1 b2 b3 x0
  have hc : k = 0 ∨ k = 1 ∨ k = 2 ∨ k = 3 ∨ k = 4 := by omega
  rcases hc with rfl | rfl | rfl | rfl | rfl
  · exact l0
  · exact l1
  · exact l2
  · exact l3
  · exact l4
/-- How many of the first j elements are less than a. -/
def cnt (l : List Int) (a : Int) (j : Nat) : Int := ((l.take j).filter (fun x => decide (x < a))).length
def ixs (l : List Int) : Nat → Int
  | 0 => 0
  | k + 1 => ixs l k + (l.getD k 0 - cnt l (l.getD k 0) k) * bl k
theorem cnt_bd (l : List Int) (a : Int) (j : Nat) : 0 ≤ cnt l a j ∧ cnt l a j ≤ j := by
  unfold cnt
  have h1 := List.length_filter_le (fun x => decide (x < a)) (l.take j)
  have h2 := List.length_take_le j l
  omega
theorem cnt_succ (l : List Int) (a : Int) (j : Nat) (hj : j < l.length) : cnt l a (j + 1) = cnt l a j + if l.getD j 0 < a then 1 else 0 := by
  unfold cnt
  rw [List.take_succ_eq_append_getElem hj, List.filter_append, List.length_append]
  have e : l.getD j 0 = l[j] := by simp [hj]
  rw [e]
  by_cases h : l[j] < a <;> simp [h]
theorem getD_bd (a0 a1 a2 a3 : Int) (B0 : 0 ≤ a0 ∧ a0 ≤ 3) (B1 : 0 ≤ a1 ∧ a1 ≤ 3) (B2 : 0 ≤ a2 ∧ a2 ≤ 3) (B3 : 0 ≤ a3 ∧ a3 ≤ 3) (m : Nat) : 0 ≤ [a0, a1, a2, a3].getD m 0 ∧ [a0, a1, a2, a3].getD m 0 ≤ 3 := by
  match m with
  | 0 => exact B0
  | 1 => exact B1
  | 2 => exact B2
  | 3 => exact B3
  | m + 4 => simp
theorem ixs_bd (a0 a1 a2 a3 : Int) (B0 : 0 ≤ a0 ∧ a0 ≤ 3) (B1 : 0 ≤ a1 ∧ a1 ≤ 3) (B2 : 0 ≤ a2 ∧ a2 ≤ 3) (B3 : 0 ≤ a3 ∧ a3 ≤ 3) (k : Nat) (hk : k ≤ 4) : -100 ≤ ixs [a0, a1, a2, a3] k ∧ ixs [a0, a1, a2, a3] k ≤ 100 := by
  have c0 := cnt_bd [a0, a1, a2, a3] a0 0
  have c1 := cnt_bd [a0, a1, a2, a3] a1 1
  have c2 := cnt_bd [a0, a1, a2, a3] a2 2
  have c3 := cnt_bd [a0, a1, a2, a3] a3 3
  have e0 : ixs [a0, a1, a2, a3] 0 = 0 := rfl
  have e1 : ixs [a0, a1, a2, a3] 1 = ixs [a0, a1, a2, a3] 0 + (a0 - cnt [a0, a1, a2, a3] a0 0) * 6 := rfl
  have e2 : ixs [a0, a1, a2, a3] 2 = ixs [a0, a1, a2, a3] 1 + (a1 - cnt [a0, a1, a2, a3] a1 1) * 2 := rfl
  have e3 : ixs [a0, a1, a2, a3] 3 = ixs [a0, a1, a2, a3] 2 + (a2 - cnt [a0, a1, a2, a3] a2 2) * 1 := rfl
  have e4 : ixs [a0, a1, a2, a3] 4 = ixs [a0, a1, a2, a3] 3 + (a3 - cnt [a0, a1, a2, a3] a3 3) * 1 := rfl
  have hc : k = 0 ∨ k = 1 ∨ k = 2 ∨ k = 3 ∨ k = 4 := by omega
  rcases hc with rfl | rfl | rfl | rfl | rfl <;> omega
theorem pmL_fin : ∀ n : Fin 24, (pmL (n.val : Int)).length = 4 ∧ ∀ x ∈ pmL (n.val : Int), 0 ≤ x ∧ x ≤ 3 := by decide +kernel
theorem pmL_bd (p : Int) (h0 : 0 ≤ p) (h1 : p < 24) : (pmL p).length = 4 ∧ ∀ x ∈ pmL p, 0 ≤ x ∧ x ≤ 3 := by
  have := pmL_fin ⟨p.toNat, by omega⟩
  simpa [Int.toNat_of_nonneg h0] using this
/-- The row of 'invert' after k rounds. -/
def ivs (l : List Int) : Nat → List Int
  | 0 => [0, 0, 0, 0]
  | k + 1 => (ivs l k).set (l.getD k 0).toNat k
def invL (p : Int) : Int := ixs (ivs (pmL p) 4) 4
theorem ivs_len (l : List Int) (k : Nat) : (ivs l k).length = 4 := by
  induction k with
  | zero => rfl
  | succ k ih => simp [ivs, ih]
theorem ivs_bd (l : List Int) (k : Nat) (hk : k ≤ 4) : ∀ x ∈ ivs l k, 0 ≤ x ∧ x ≤ 3 := by
  induction k with
  | zero => intro x hx; simp [ivs] at hx; omega
  | succ k ih =>
    intro x hx
    rcases List.mem_or_eq_of_mem_set hx with h | h
    · exact ih (by omega) x h
    · omega
/-- The image of f under the permutation p. -/
def pm (p f : Int) : Int := (pmL p).getD f.toNat 0
/-- Every element hi turned into lo. -/
def turnL (hi lo : Int) (l : List Int) : List Int := l.map fun x => if x = hi then lo else x
/-- .. of the first j elements. -/
def turnTo (hi lo : Int) (l : List Int) (j : Nat) : List Int := turnL hi lo (l.take j) ++ l.drop j
theorem turnTo_len (hi lo : Int) (l : List Int) (j : Nat) : (turnTo hi lo l j).length = l.length := by
  simp [turnTo, turnL]; omega
theorem turnTo_get (hi lo : Int) (l : List Int) (j : Nat) (hj : j < l.length) : (turnTo hi lo l j).getD j 0 = l.getD j 0 := by
  simp only [turnTo, turnL, List.getD_eq_getElem?_getD]
  rw [List.getElem?_append_right (by simp; omega)]
  simp only [List.length_map, List.length_take, List.getElem?_drop]
  congr 2
  omega
theorem turnTo_yes (hi lo : Int) (l : List Int) (j : Nat) (hj : j < l.length) (h : l.getD j 0 = hi) : turnTo hi lo l (j + 1) = (turnTo hi lo l j).set j lo := by
  have e : l[j] = hi := by simpa [hj] using h
  unfold turnTo turnL
  rw [List.take_succ_eq_append_getElem hj, List.map_append, List.append_assoc, List.set_append_right _ _ (by simp; omega)]
  congr 1
  have hm : min j l.length = j := by omega
  simp only [List.length_map, List.length_take, hm, Nat.sub_self, List.map_cons, List.map_nil, e, if_true]
  rw [List.drop_eq_getElem_cons hj]
  rfl
theorem turnTo_no (hi lo : Int) (l : List Int) (j : Nat) (hj : j < l.length) (h : ¬ l.getD j 0 = hi) : turnTo hi lo l (j + 1) = turnTo hi lo l j := by
  have e : ¬ l[j] = hi := by simpa [hj] using h
  unfold turnTo turnL
  rw [List.take_succ_eq_append_getElem hj, List.map_append, List.append_assoc]
  congr 1
  simp only [List.map_cons, List.map_nil, e, if_false]
  rw [List.drop_eq_getElem_cons hj]
  rfl
theorem turnTo_all (hi lo : Int) (l : List Int) : turnTo hi lo l l.length = turnL hi lo l := by simp [turnTo]
def unionL (l : List Int) (i k : Nat) : List Int := turnL (l.getD k 0) (l.getD i 0) l
def joinL (l : List Int) (i k : Nat) : List Int := turnL (max (l.getD i 0) (l.getD k 0)) (min (l.getD i 0) (l.getD k 0)) l
def cntL (n : Nat) : List Int := (List.range n).map fun (i : Nat) => (i : Int)
theorem cntL_succ (n : Nat) : cntL (n + 1) = cntL n ++ [(n : Int)] := by simp [cntL, List.range_succ]
theorem cntL_len (n : Nat) : (cntL n).length = n := by simp [cntL]
/-- numbered: the numbers met so far, in their order; each element's own number. -/
def nstep (s : List Int × List Int) (x : Int) : List Int × List Int := if x ∈ s.1 then (s.1, s.2 ++ [(s.1.idxOf x : Int)]) else (s.1 ++ [x], s.2 ++ [(s.1.length : Int)])
def nst (l : List Int) : List Int × List Int := l.foldl nstep ([], [])
def numL (l : List Int) : List Int := (nst l).2
theorem nst_snoc (l : List Int) (x : Int) : nst (l ++ [x]) = nstep (nst l) x := by simp [nst, List.foldl_append]
theorem nst_len2 (l : List Int) : (nst l).2.length = l.length := by
  have key : ∀ (l : List Int) (s : List Int × List Int), (l.foldl nstep s).2.length = s.2.length + l.length := by
    intro l
    induction l with
    | nil => intro s; rfl
    | cons x l ih =>
      intro s
      rw [List.foldl_cons, ih]
      unfold nstep
      split <;> simp <;> omega
  have := key l ([], [])
  simpa [nst] using this
theorem nst_len1 (l : List Int) : (nst l).1.length ≤ l.length := by
  have key : ∀ (l : List Int) (s : List Int × List Int), (l.foldl nstep s).1.length ≤ s.1.length + l.length := by
    intro l
    induction l with
    | nil => intro s; exact Nat.le_refl _
    | cons x l ih =>
      intro s
      rw [List.foldl_cons]
      refine Nat.le_trans (ih _) ?_
      unfold nstep
      split <;> simp <;> omega
  have := key l ([], [])
  simpa [nst] using this
def endA (e : Int) : Int := [0, 0, 0, 1, 1, 2].getD e.toNat 0
def endB (e : Int) : Int := [1, 2, 3, 2, 3, 3].getD e.toNat 0
/-- The edge between two different vertices. -/
def edgeN (a b : Int) : Int := if a < b then [0, 0, 1, 2, 0, 0, 3, 4, 0, 0, 0, 5].getD (4 * a + b).toNat 0 else [0, 0, 1, 2, 0, 0, 3, 4, 0, 0, 0, 5].getD (4 * b + a).toNat 0
/-- What a step for each glued face makes of s: the first f faces of a row; the first a tetrahedra. -/
def glF (step : List Int → Nat → Nat → Int × Int → List Int) (s : List Int) (a : Nat) (row : List (Int × Int)) : Nat → List Int
  | 0 => s
  | f + 1 => if (row.getD f (0, 0)).1 < 0 then glF step s a row f else step (glF step s a row f) a f (row.getD f (0, 0))
def glT (step : List Int → Nat → Nat → Int × Int → List Int) (s : List Int) (T : List (List (Int × Int))) : Nat → List Int
  | 0 => s
  | a + 1 => glF step (glT step s T a) a (T.getD a []) 4
/-- The faces of a triangulation, as far as the walk asks. -/
def Fine (T : List (List (Int × Int))) : Prop := T.length ≤ 8 ∧ ∀ a, a < T.length → (T.getD a []).length = 4 ∧ ∀ f, f < 4 → 0 ≤ ((T.getD a []).getD f (0, 0)).1 → ((T.getD a []).getD f (0, 0)).1 < T.length ∧ 0 ≤ ((T.getD a []).getD f (0, 0)).2 ∧ ((T.getD a []).getD f (0, 0)).2 < 24
theorem unionL_len (l : List Int) (i k : Nat) : (unionL l i k).length = l.length := by simp [unionL, turnL]
theorem turnL_bd (hi lo b : Int) (l : List Int) (h : ∀ x ∈ l, 0 ≤ x ∧ x ≤ b) (hlo : 0 ≤ lo ∧ lo ≤ b) : ∀ x ∈ turnL hi lo l, 0 ≤ x ∧ x ≤ b := by
  intro x hx
  obtain ⟨y, hy, rfl⟩ := List.mem_map.1 hx
  split
  · exact hlo
  · exact h y hy
def faceStep (s : List Int) (a f : Nat) (x : Int × Int) : List Int := unionL s (4 * a + f) (4 * x.1 + pm x.2 f).toNat
theorem pm_bd (p f : Int) (h0 : 0 ≤ p) (h1 : p < 24) (hf0 : 0 ≤ f) (hf1 : f < 4) : 0 ≤ pm p f ∧ pm p f < 4 := by
  have h := pmL_bd p h0 h1
  unfold pm
  have hl : f.toNat < (pmL p).length := by omega
  have hm := h.2 _ (List.getElem_mem hl)
  rw [List.getD_eq_getElem?_getD, List.getElem?_eq_getElem hl]
  simp only [Option.getD_some]
  omega
/-- The classes of the faces. -/
def faceL (T : List (List (Int × Int))) : List Int := numL (glT faceStep (cntL (4 * T.length)) T T.length)
theorem glF_keep {Q : List Int → Prop} {step : List Int → Nat → Nat → Int × Int → List Int} (hs : ∀ s a f x, Q s → Q (step s a f x)) (s : List Int) (a : Nat) (row : List (Int × Int)) (f : Nat) (h : Q s) : Q (glF step s a row f) := by
  induction f with
  | zero => exact h
  | succ f ih => unfold glF; split; exact ih; exact hs _ _ _ _ ih
theorem glT_keep {Q : List Int → Prop} {step : List Int → Nat → Nat → Int × Int → List Int} (hs : ∀ s a f x, Q s → Q (step s a f x)) (s : List Int) (T : List (List (Int × Int))) (n : Nat) (h : Q s) : Q (glT step s T n) := by
  induction n with
  | zero => exact h
  | succ n ih => exact glF_keep hs _ _ _ _ ih
theorem cntL_bd (n : Nat) (hn : n ≤ 100) : ∀ x ∈ cntL n, 0 ≤ x ∧ x ≤ 100000 := by
  intro x hx
  obtain ⟨i, hi, rfl⟩ := List.mem_map.1 hx
  have := List.mem_range.1 hi
  omega
def InB (s : List Int) : Prop := ∀ x ∈ s, 0 ≤ x ∧ x ≤ 100000
theorem getD_inB {s : List Int} (h : InB s) (i : Nat) : 0 ≤ s.getD i 0 ∧ s.getD i 0 ≤ 100000 := by
  by_cases hi : i < s.length
  · rw [List.getD_eq_getElem?_getD, List.getElem?_eq_getElem hi]; exact h _ (List.getElem_mem hi)
  · rw [List.getD_eq_getElem?_getD, List.getElem?_eq_none (by omega)]; simp
theorem union_inB {s : List Int} (h : InB s) (i k : Nat) : InB (unionL s i k) := turnL_bd _ _ _ _ h (getD_inB h i)
theorem pm_inj (p : Int) (u v : Nat) (h0 : 0 ≤ p) (h1 : p < 24) (hu : u < 4) (hv : v < 4) (hne : u ≠ v) : (pmL p).getD u 0 ≠ (pmL p).getD v 0 := by
  have key : ∀ p : Fin 24, ∀ u : Fin 4, ∀ v : Fin 4, u ≠ v → (pmL (p.1 : Int)).getD u.1 0 ≠ (pmL (p.1 : Int)).getD v.1 0 := by decide +kernel
  have := key ⟨p.toNat, by omega⟩ ⟨u, hu⟩ ⟨v, hv⟩ (by intro h; exact hne (congrArg Fin.val h))
  rwa [show ((p.toNat : Nat) : Int) = p by omega] at this
theorem ends_bd (k : Nat) (hk : k < 6) : ∃ u v : Nat, endA k = u ∧ endB k = v ∧ u < 4 ∧ v < 4 ∧ u ≠ v := by
  have key : ∀ k : Fin 6, ∃ u : Fin 4, ∃ v : Fin 4, endA (k.1 : Int) = (u.1 : Int) ∧ endB (k.1 : Int) = (v.1 : Int) ∧ u.1 ≠ v.1 := by decide +kernel
  obtain ⟨u, v, h1, h2, h3⟩ := key ⟨k, hk⟩
  exact ⟨u.1, v.1, h1, h2, u.2, v.2, h3⟩
theorem edgeN_bd (u v : Nat) (hu : u < 4) (hv : v < 4) (hne : u ≠ v) : ∃ e : Nat, edgeN u v = e ∧ e < 6 := by
  have key : ∀ u v : Fin 4, u.1 ≠ v.1 → ∃ e : Fin 6, edgeN (u.1 : Int) (v.1 : Int) = (e.1 : Int) := by decide +kernel
  obtain ⟨e, h⟩ := key ⟨u, hu⟩ ⟨v, hv⟩ hne
  exact ⟨e.1, h, e.2⟩
/-- The first k edges of face f. -/
def edgeTo (s : List Int) (a f : Nat) (x : Int × Int) : Nat → List Int
  | 0 => s
  | k + 1 => if endA k ≠ f ∧ endB k ≠ f then unionL (edgeTo s a f x k) (6 * a + k) (6 * x.1 + edgeN (pm x.2 (endA k)) (pm x.2 (endB k))).toNat else edgeTo s a f x k
/-- The classes of the edges. -/
def edgeL (T : List (List (Int × Int))) : List Int := numL (glT (fun s a f x => edgeTo s a f x 6) (cntL (6 * T.length)) T T.length)
def edgeStep (s : List Int) (a f : Nat) (x : Int × Int) : List Int := edgeTo s a f x 6
theorem edgeStep_inB {s : List Int} (h : InB s) (a f : Nat) (x : Int × Int) : InB (edgeStep s a f x) := by
  unfold edgeStep
  generalize (6 : Nat) = k
  induction k with
  | zero => exact h
  | succ k ih =>
    unfold edgeTo
    split
    · exact union_inB ih _ _
    · exact ih
theorem any_eq (x : Int) (l : List Int) : (l.any fun y => x == y) = decide (x ∈ l) := by
  induction l with
  | nil => simp
  | cons y l ih =>
    rw [List.any_cons, ih]
    by_cases h : x = y <;> simp [h]
def othersL (l : List Int) : List Int := (cntL 4).filter fun x => !decide (x ∈ l)
/-- The first k vertices of face f. -/
def vertTo (s : List Int) (a f : Nat) (x : Int × Int) : Nat → List Int
  | 0 => s
  | k + 1 => unionL (vertTo s a f x k) (4 * a + ((othersL [(f : Int)]).getD k 0).toNat) (4 * x.1 + pm x.2 ((othersL [(f : Int)]).getD k 0)).toNat
def vertStep (s : List Int) (a f : Nat) (x : Int × Int) : List Int := vertTo s a f x 3
/-- The classes of the vertices. -/
def vertL (T : List (List (Int × Int))) : List Int := numL (glT vertStep (cntL (4 * T.length)) T T.length)
theorem vertStep_inB {s : List Int} (h : InB s) (a f : Nat) (x : Int × Int) : InB (vertStep s a f x) := by
  unfold vertStep
  generalize (3 : Nat) = k
  induction k with
  | zero => exact h
  | succ k ih =>
    unfold vertTo
    exact union_inB ih _ _
theorem others1_bd (f : Nat) (hf : f < 4) : (othersL [(f : Int)]).length = 3 ∧ ∀ k, k < 3 → ∃ v : Nat, (othersL [(f : Int)]).getD k 0 = v ∧ v < 4 := by
  have key : ∀ f : Fin 4, (othersL [(f.1 : Int)]).length = 3 ∧ ∀ k : Fin 3, ∃ v : Fin 4, (othersL [(f.1 : Int)]).getD k.1 0 = (v.1 : Int) := by decide +kernel
  refine ⟨(key ⟨f, hf⟩).1, fun k hk => ?_⟩
  obtain ⟨v, h⟩ := (key ⟨f, hf⟩).2 ⟨k, hk⟩
  exact ⟨v.1, h, v.2⟩
def maxTo (l : List Int) : Nat → Int
  | 0 => l.getD 0 0
  | k + 1 => max (maxTo l k) (l.getD k 0)
/-- How many classes. -/
def classN (l : List Int) : Int := if l.length = 0 then 0 else maxTo l l.length + 1
theorem maxTo_bd (l : List Int) (b : Int) (hb : ∀ x ∈ l, 0 ≤ x ∧ x ≤ b) (h0 : 0 < l.length) (k : Nat) (hk : k ≤ l.length) : 0 ≤ maxTo l k ∧ maxTo l k ≤ b := by
  induction k with
  | zero =>
    unfold maxTo
    rw [List.getD_eq_getElem?_getD, List.getElem?_eq_getElem h0]
    exact hb _ (List.getElem_mem h0)
  | succ k ih =>
    have h := ih (by omega)
    have h2 : 0 ≤ l.getD k 0 ∧ l.getD k 0 ≤ b := by
      rw [List.getD_eq_getElem?_getD, List.getElem?_eq_getElem (show k < l.length by omega)]
      exact hb _ (List.getElem_mem _)
    unfold maxTo
    omega
theorem nst_bd (l : List Int) : ∀ x ∈ numL l, 0 ≤ x ∧ x ≤ l.length := by
  have key : ∀ (l : List Int) (s : List Int × List Int) (b : Nat), s.1.length ≤ b → (∀ x ∈ s.2, 0 ≤ x ∧ x ≤ (b : Int)) → (l.foldl nstep s).1.length ≤ b + l.length ∧ ∀ x ∈ (l.foldl nstep s).2, 0 ≤ x ∧ x ≤ ((b + l.length : Nat) : Int) := by
    intro l
    induction l with
    | nil => intro s b h1 h2; exact ⟨by simpa using h1, by simpa using h2⟩
    | cons y l ih =>
      intro s b h1 h2
      have h := ih (nstep s y) (b + 1) (by unfold nstep; split <;> simp <;> omega) (by
        intro x hx
        unfold nstep at hx
        split at hx
        · rename_i hm
          rcases List.mem_append.1 hx with h | h
          · have := h2 x h; omega
          · have := List.idxOf_lt_length_of_mem hm
            have hx : x = (s.1.idxOf y : Int) := by simpa using h
            omega
        · rcases List.mem_append.1 hx with h | h
          · have := h2 x h; omega
          · have hx : x = (s.1.length : Int) := by simpa using h
            omega)
      rw [List.foldl_cons, List.length_cons, show b + (l.length + 1) = b + 1 + l.length by omega]
      exact h
  have h := (key l ([], []) 0 (by simp) (by simp)).2
  simpa [numL, nst] using h
def countsL (T : List (List (Int × Int))) : List Int := [classN (vertL T), classN (edgeL T), classN (faceL T), T.length]
theorem numL_len (l : List Int) : (numL l).length = l.length := nst_len2 l
theorem glT_len {step : List Int → Nat → Nat → Int × Int → List Int} (hs : ∀ s a f x, (step s a f x).length = s.length) (s : List Int) (T : List (List (Int × Int))) (n : Nat) : (glT step s T n).length = s.length :=
  glT_keep (Q := fun l => l.length = s.length) (fun s' a f x h => (hs s' a f x).trans h) s T n rfl
theorem faceL_len (T : List (List (Int × Int))) : (faceL T).length = 4 * T.length := by
  unfold faceL; rw [numL_len, glT_len (step := faceStep) (fun s a f x => unionL_len _ _ _), cntL_len]
theorem edgeTo_len (s : List Int) (a f : Nat) (x : Int × Int) (k : Nat) : (edgeTo s a f x k).length = s.length := by
  induction k with
  | zero => rfl
  | succ k ih => unfold edgeTo; split; rw [unionL_len]; exact ih; exact ih
theorem edgeL_len (T : List (List (Int × Int))) : (edgeL T).length = 6 * T.length := by
  unfold edgeL; rw [numL_len, glT_len (fun s a f x => edgeTo_len _ _ _ _ _), cntL_len]
theorem vertTo_len (s : List Int) (a f : Nat) (x : Int × Int) (k : Nat) : (vertTo s a f x k).length = s.length := by
  induction k with
  | zero => rfl
  | succ k ih => unfold vertTo; rw [unionL_len]; exact ih
theorem vertL_len (T : List (List (Int × Int))) : (vertL T).length = 4 * T.length := by
  unfold vertL; rw [numL_len, glT_len (step := vertStep) (fun s a f x => vertTo_len _ _ _ _ _), cntL_len]
theorem numL_fine {l : List Int} (h : l.length ≤ 100000) : ∀ x ∈ numL l, 0 ≤ x ∧ x ≤ 100000 := fun x hx => ⟨(nst_bd l x hx).1, by have := (nst_bd l x hx).2; omega⟩
theorem faceL_bd (T : List (List (Int × Int))) (h : T.length ≤ 8) : ∀ x ∈ faceL T, 0 ≤ x ∧ x ≤ 100000 := numL_fine (by rw [glT_len (step := faceStep) (fun s a f x => unionL_len _ _ _), cntL_len]; omega)
theorem edgeL_bd (T : List (List (Int × Int))) (h : T.length ≤ 8) : ∀ x ∈ edgeL T, 0 ≤ x ∧ x ≤ 100000 := numL_fine (by rw [glT_len (fun s a f x => edgeTo_len _ _ _ _ _), cntL_len]; omega)
theorem vertL_bd (T : List (List (Int × Int))) (h : T.length ≤ 8) : ∀ x ∈ vertL T, 0 ≤ x ∧ x ≤ 100000 := numL_fine (by rw [glT_len (step := vertStep) (fun s a f x => vertTo_len _ _ _ _ _), cntL_len]; omega)
theorem all_take_succ {α : Type} (p : α → Bool) (l : List α) (d : α) (k : Nat) (hk : k < l.length) : (l.take (k + 1)).all p = ((l.take k).all p && p (l.getD k d)) := by
  rw [List.take_add_one, List.getD_eq_getElem?_getD, List.getElem?_eq_getElem hk, List.all_append]
  simp
/-- Do all faces pass g? -/
def allT (g : Int → Int → Bool) (n : Nat) : Bool := (List.range n).all fun a => (List.range 4).all fun f => g a f
theorem range_all_succ (p : Nat → Bool) (k : Nat) : (List.range (k + 1)).all p = ((List.range k).all p && p k) := by
  rw [List.range_succ, List.all_append]; simp
theorem allT_no {g : Int → Int → Bool} {n a f : Nat} (ha : a < n) (hf : f < 4) (h : g a f = false) : allT g n = false := by
  cases hh : allT g n with
  | false => rfl
  | true =>
    exfalso
    unfold allT at hh
    rw [List.all_eq_true] at hh
    have := hh a (List.mem_range.2 ha)
    rw [List.all_eq_true] at this
    have := this f (List.mem_range.2 hf)
    rw [h] at this
    exact Bool.noConfusion this
theorem allT_yes {g : Int → Int → Bool} {n : Nat} (h : ∀ a, a < n → ((List.range 4).all fun f => g (a : Int) (f : Int)) = true) : allT g n = true := by
  unfold allT
  rw [List.all_eq_true]
  intro a ha
  exact h a (List.mem_range.1 ha)
def triL (T : List (List (Int × Int))) (g : Int → Int → Bool) : Bool := decide (T.length ≤ 8) && ((T.all fun x => decide (x.length = 4)) && allT g T.length)
/-- Equal at the same pairs of places. -/
def Same (s m : List Int) : Prop := s.length = m.length ∧ ∀ i j, i < s.length → j < s.length → (s.getD i 0 = s.getD j 0 ↔ m.getD i 0 = m.getD j 0)
theorem turnL_get (hi lo : Int) (l : List Int) (i : Nat) (h : i < l.length) : (turnL hi lo l).getD i 0 = if l.getD i 0 = hi then lo else l.getD i 0 := by
  simp only [turnL, List.getD_eq_getElem?_getD, List.getElem?_map, List.getElem?_eq_getElem h, Option.map_some, Option.getD_some]
theorem turnL_len (hi lo : Int) (l : List Int) : (turnL hi lo l).length = l.length := by simp [turnL]
theorem joinL_len (l : List Int) (i k : Nat) : (joinL l i k).length = l.length := by simp [joinL, turnL]
theorem turn_eq (s : List Int) (x y : Int) (a b : Nat) (ha : a < s.length) (hb : b < s.length) :
    ((turnL x y s).getD a 0 = (turnL x y s).getD b 0 ↔ (s.getD a 0 = s.getD b 0 ∨ ((s.getD a 0 = x ∨ s.getD a 0 = y) ∧ (s.getD b 0 = x ∨ s.getD b 0 = y)))) := by
  rw [turnL_get _ _ _ _ ha, turnL_get _ _ _ _ hb]
  generalize s.getD a 0 = u
  generalize s.getD b 0 = v
  split <;> split <;> constructor <;> intro h <;> omega
theorem same_union {s m : List Int} (h : Same s m) (i k : Nat) (hi : i < s.length) (hk : k < s.length) : Same (unionL s i k) (joinL m i k) := by
  refine ⟨by rw [unionL_len, joinL_len]; exact h.1, fun a b ha hb => ?_⟩
  rw [unionL_len] at ha hb
  have hm := h.1
  unfold unionL joinL
  rw [turn_eq _ _ _ _ _ ha hb, turn_eq _ _ _ _ _ (by omega) (by omega)]
  have h1 := h.2 a b ha hb
  have h2 := h.2 a i ha hi
  have h3 := h.2 a k ha hk
  have h4 := h.2 b i hb hi
  have h5 := h.2 b k hb hk
  generalize s.getD a 0 = sa at *
  generalize s.getD b 0 = sb at *
  generalize s.getD i 0 = si at *
  generalize s.getD k 0 = sk at *
  generalize m.getD a 0 = ma at *
  generalize m.getD b 0 = mb at *
  generalize m.getD i 0 = mi at *
  generalize m.getD k 0 = mk at *
  have hmm : (max mi mk = mi ∧ min mi mk = mk) ∨ (max mi mk = mk ∧ min mi mk = mi) := by omega
  rcases hmm with ⟨e1, e2⟩ | ⟨e1, e2⟩ <;> rw [e1, e2, h1, h2, h3, h4, h5] <;> constructor <;> rintro (h | ⟨h | h, h' | h'⟩) <;> first | simp [h, h'] | simp [h]
theorem same_refl (s : List Int) : Same s s := ⟨rfl, fun _ _ _ _ => Iff.rfl⟩
/-- A mark is the first place of its class. -/
def Canon (m : List Int) : Prop := ∀ i, i < m.length → 0 ≤ m.getD i 0 ∧ m.getD i 0 ≤ i ∧ m.getD (m.getD i 0).toNat 0 = m.getD i 0
theorem canon_cnt (n : Nat) : Canon (cntL n) := by
  intro i hi
  rw [cntL_len] at hi
  have e : ∀ j : Nat, j < n → (cntL n).getD j 0 = j := by
    intro j hj
    simp [cntL, List.getD_eq_getElem?_getD, hj]
  rw [e i hi]
  refine ⟨by omega, by omega, ?_⟩
  rw [Int.toNat_natCast]
  exact e i hi
theorem canon_join {m : List Int} (h : Canon m) (i k : Nat) (hi : i < m.length) (hk : k < m.length) : Canon (joinL m i k) := by
  intro a ha
  rw [joinL_len] at ha
  obtain ⟨a0, a1, a2⟩ := h a ha
  obtain ⟨i0, i1, i2⟩ := h i hi
  obtain ⟨k0, k1, k2⟩ := h k hk
  unfold joinL
  generalize hmi : m.getD i 0 = mi at *
  generalize hmk : m.getD k 0 = mk at *
  have e1 := turnL_get (max mi mk) (min mi mk) m a ha
  rw [e1]
  have hlo : (turnL (max mi mk) (min mi mk) m).getD (min mi mk).toNat 0 = min mi mk := by
    have hl : (min mi mk).toNat < m.length := by omega
    rw [turnL_get _ _ _ _ hl]
    rcases Int.le_total mi mk with h | h
    · rw [show min mi mk = mi by omega, i2]
      split <;> omega
    · rw [show min mi mk = mk by omega, k2]
      split <;> omega
  split
  · rename_i hh
    exact ⟨by omega, by omega, hlo⟩
  · rename_i hh
    refine ⟨a0, a1, ?_⟩
    have hl : (m.getD a 0).toNat < m.length := by omega
    rw [turnL_get _ _ _ _ hl, a2, if_neg hh]
theorem idx_in {l l' : List Int} {x : Int} (h : x ∈ l) : (l ++ l').idxOf x = l.idxOf x := by rw [List.idxOf_append, if_pos h]
theorem idx_out {l l' : List Int} {x : Int} (h : ¬ x ∈ l) : (l ++ l').idxOf x = l'.idxOf x + l.length := by rw [List.idxOf_append, if_neg h]
theorem nst_take_succ (l : List Int) (k : Nat) (hk : k < l.length) : nst (l.take (k + 1)) = nstep (nst (l.take k)) (l.getD k 0) := by
  rw [List.take_add_one, List.getElem?_eq_getElem hk, List.getD_eq_getElem?_getD, List.getElem?_eq_getElem hk]
  exact nst_snoc _ _
theorem mem_nst (l : List Int) (k : Nat) (hk : k ≤ l.length) (x : Int) : x ∈ (nst (l.take k)).1 ↔ ∃ i, i < k ∧ l.getD i 0 = x := by
  induction k with
  | zero => simp [nst]
  | succ k ih =>
    rw [nst_take_succ l k (by omega)]
    have h := ih (by omega)
    have e : x ∈ (nstep (nst (l.take k)) (l.getD k 0)).1 ↔ x ∈ (nst (l.take k)).1 ∨ x = l.getD k 0 := by
      unfold nstep
      split
      · rename_i hm
        exact ⟨fun h => .inl h, fun h => h.elim id (fun h => h ▸ hm)⟩
      · simp
    rw [e, h]
    constructor
    · rintro (⟨i, h1, h2⟩ | h)
      · exact ⟨i, by omega, h2⟩
      · exact ⟨k, by omega, h.symm⟩
    · rintro ⟨i, h1, h2⟩
      by_cases hi : i = k
      · subst hi; exact .inr h2.symm
      · exact .inl ⟨i, by omega, h2⟩
theorem same_nst {s m : List Int} (h : Same s m) (k : Nat) (hk : k ≤ s.length) :
    (nst (s.take k)).2 = (nst (m.take k)).2 ∧ (nst (s.take k)).1.length = (nst (m.take k)).1.length ∧ ∀ i, i < k → (nst (s.take k)).1.idxOf (s.getD i 0) = (nst (m.take k)).1.idxOf (m.getD i 0) := by
  induction k with
  | zero => exact ⟨rfl, rfl, fun i hi => absurd hi (by omega)⟩
  | succ k ih =>
    obtain ⟨h1, h2, h3⟩ := ih (by omega)
    have hm := h.1
    rw [nst_take_succ s k (by omega), nst_take_succ m k (by omega)]
    have hmem : s.getD k 0 ∈ (nst (s.take k)).1 ↔ m.getD k 0 ∈ (nst (m.take k)).1 := by
      rw [mem_nst s k (by omega), mem_nst m k (by omega)]
      constructor
      · rintro ⟨i, hi, e⟩; exact ⟨i, hi, (h.2 i k (by omega) (by omega)).1 e⟩
      · rintro ⟨i, hi, e⟩; exact ⟨i, hi, (h.2 i k (by omega) (by omega)).2 e⟩
    have hin : ∀ i, i < k → s.getD i 0 ∈ (nst (s.take k)).1 ∧ m.getD i 0 ∈ (nst (m.take k)).1 := fun i hi => ⟨(mem_nst s k (by omega) _).2 ⟨i, hi, rfl⟩, (mem_nst m k (by omega) _).2 ⟨i, hi, rfl⟩⟩
    by_cases hx : s.getD k 0 ∈ (nst (s.take k)).1
    · have hy := hmem.1 hx
      obtain ⟨j, hj, ej⟩ := (mem_nst s k (by omega) _).1 hx
      have ejm := (h.2 j k (by omega) (by omega)).1 ej
      have ek : (nst (s.take k)).1.idxOf (s.getD k 0) = (nst (m.take k)).1.idxOf (m.getD k 0) := by rw [← ej, ← ejm]; exact h3 j hj
      unfold nstep
      rw [if_pos hx, if_pos hy]
      refine ⟨by rw [h1, ek], h2, fun i hi => ?_⟩
      by_cases hik : i = k
      · subst hik; exact ek
      · exact h3 i (by omega)
    · have hy : ¬ m.getD k 0 ∈ (nst (m.take k)).1 := fun hy => hx (hmem.2 hy)
      unfold nstep
      rw [if_neg hx, if_neg hy]
      refine ⟨by rw [h1, h2], by simp [h2], fun i hi => ?_⟩
      dsimp only
      by_cases hik : i = k
      · subst hik
        rw [idx_out hx, idx_out hy]
        simp [h2]
      · rw [idx_in (hin i (by omega)).1, idx_in (hin i (by omega)).2]
        exact h3 i (by omega)
theorem same_num {s m : List Int} (h : Same s m) : numL s = numL m ∧ (nst s).1.length = (nst m).1.length := by
  have := same_nst h s.length (Nat.le_refl _)
  have e : m.take s.length = m := by rw [h.1, List.take_length]
  rw [e, List.take_length] at this
  exact ⟨this.1, this.2.1⟩
/-- The first places, in order. -/
def roots (m : List Int) (k : Nat) : List Int := ((List.range k).filter fun j => decide (m.getD j 0 = (j : Int))).map fun (j : Nat) => (j : Int)
theorem roots_succ (m : List Int) (k : Nat) : roots m (k + 1) = if m.getD k 0 = k then roots m k ++ [(k : Int)] else roots m k := by
  unfold roots
  rw [List.range_succ, List.filter_append]
  by_cases h : m.getD k 0 = k
  · rw [if_pos h, List.filter_cons, if_pos (by simpa using h)]; simp
  · rw [if_neg h, List.filter_cons, if_neg (by simpa using h)]; simp
theorem mem_roots (m : List Int) (k : Nat) (x : Nat) : (x : Int) ∈ roots m k ↔ x < k ∧ m.getD x 0 = x := by
  unfold roots
  rw [List.mem_map]
  constructor
  · rintro ⟨a, h1, h2⟩
    have : a = x := by omega
    subst this
    rw [List.mem_filter, List.mem_range] at h1
    exact ⟨h1.1, by simpa using h1.2⟩
  · rintro ⟨h1, h2⟩
    exact ⟨x, by rw [List.mem_filter, List.mem_range]; exact ⟨h1, by simpa using h2⟩, rfl⟩
/-- How many first places lie before. -/
def rank (m : List Int) (x : Nat) : Nat := (roots m x).length
theorem idx_roots (m : List Int) (k x : Nat) (hx : x < k) (hr : m.getD x 0 = x) : (roots m k).idxOf (x : Int) = rank m x := by
  induction k with
  | zero => omega
  | succ k ih =>
    rw [roots_succ]
    by_cases hk : x = k
    · subst hk
      have hn : ¬ (x : Int) ∈ roots m x := fun h => by have := (mem_roots m x x).1 h; omega
      rw [if_pos hr, idx_out hn]
      simp [rank]
    · have hin : (x : Int) ∈ roots m k := (mem_roots m k x).2 ⟨by omega, hr⟩
      split
      · rw [idx_in hin]; exact ih (by omega)
      · exact ih (by omega)
theorem canon_nst {m : List Int} (h : Canon m) (k : Nat) (hk : k ≤ m.length) : (nst (m.take k)).1 = roots m k ∧ (nst (m.take k)).2 = (List.range k).map fun i => ((rank m (m.getD i 0).toNat : Nat) : Int) := by
  induction k with
  | zero => exact ⟨rfl, rfl⟩
  | succ k ih =>
    obtain ⟨h1, h2⟩ := ih (by omega)
    obtain ⟨c0, c1, c2⟩ := h k (by omega)
    rw [nst_take_succ m k (by omega)]
    unfold nstep
    rw [h1, h2, List.range_succ, List.map_append]
    obtain ⟨x, hx⟩ : ∃ x : Nat, m.getD k 0 = x := ⟨(m.getD k 0).toNat, by omega⟩
    rw [hx, Int.toNat_natCast] at c2
    have hxk : x ≤ k := by omega
    rw [roots_succ]
    simp only [hx, List.map_cons, List.map_nil, Int.toNat_natCast]
    by_cases hk2 : x = k
    · subst hk2
      have hn : ¬ (x : Int) ∈ roots m x := fun h => by have := (mem_roots m x x).1 h; omega
      rw [if_neg hn, if_pos rfl]
      exact ⟨rfl, by rw [rank]⟩
    · have hin : (x : Int) ∈ roots m k := (mem_roots m k x).2 ⟨by omega, c2⟩
      rw [if_pos hin, if_neg (by omega)]
      exact ⟨rfl, by rw [idx_roots m k x (by omega) c2]⟩
theorem canon_num {m : List Int} (h : Canon m) : numL m = (List.range m.length).map (fun i => ((rank m (m.getD i 0).toNat : Nat) : Int)) ∧ (nst m).1.length = rank m m.length := by
  have := canon_nst h m.length (Nat.le_refl _)
  rw [List.take_length] at this
  exact ⟨this.2, by rw [this.1]; rfl⟩
theorem num_get (l : List Int) (k : Nat) (hk : k < l.length) : (numL l).getD k 0 = (nst (l.take (k + 1))).2.getD k 0 := by
  have key : ∀ j, k < j → j ≤ l.length → (nst (l.take j)).2.getD k 0 = (nst (l.take (k + 1))).2.getD k 0 := by
    intro j
    induction j with
    | zero => intro h; omega
    | succ j ih =>
      intro h1 h2
      by_cases hj : j = k
      · subst hj; rfl
      · rw [nst_take_succ l j (by omega), ← ih (by omega) (by omega)]
        have hl : k < (nst (l.take j)).2.length := by rw [nst_len2, List.length_take]; omega
        unfold nstep
        split <;> simp only [List.getD_eq_getElem?_getD, List.getElem?_append_left hl]
  have := key l.length hk (Nat.le_refl _)
  rw [List.take_length] at this
  exact this
theorem max_num (l : List Int) (k : Nat) (h0 : 0 < k) (hk : k ≤ l.length) : maxTo (numL l) k + 1 = (nst (l.take k)).1.length := by
  induction k with
  | zero => omega
  | succ k ih =>
    have hg := num_get l k (by omega)
    rw [nst_take_succ l k (by omega)] at hg
    rw [nst_take_succ l k (by omega)]
    have hl : (nst (l.take k)).2.length = k := by rw [nst_len2, List.length_take]; omega
    by_cases hk0 : k = 0
    · subst hk0
      have e0 : nst (l.take 0) = ([], []) := by simp [nst]
      rw [e0] at hg ⊢
      unfold nstep at hg ⊢
      rw [if_neg (by simp)] at hg ⊢
      have e1 : (numL l).getD 0 0 = 0 := by rw [hg]; rfl
      simp only [maxTo, e1]
      rfl
    · have hi := ih (by omega) (by omega)
      unfold maxTo
      unfold nstep at hg ⊢
      split
      · rename_i hm
        rw [if_pos hm] at hg
        have hlt := List.idxOf_lt_length_of_mem hm
        have e : (numL l).getD k 0 = ((nst (l.take k)).1.idxOf (l.getD k 0) : Int) := by
          rw [hg]
          simp only [List.getD_eq_getElem?_getD]
          rw [List.getElem?_append_right (by omega), hl]
          simp
        rw [e]
        dsimp only
        omega
      · rename_i hm
        rw [if_neg hm] at hg
        have e : (numL l).getD k 0 = ((nst (l.take k)).1.length : Int) := by
          rw [hg]
          simp only [List.getD_eq_getElem?_getD]
          rw [List.getElem?_append_right (by omega), hl]
          simp
        rw [e]
        simp only [List.length_append, List.length_cons, List.length_nil]
        omega
theorem classN_num (l : List Int) : classN (numL l) = (nst l).1.length := by
  unfold classN
  rw [numL_len]
  split
  · rename_i h
    have : l = [] := by simpa using h
    subst this
    rfl
  · have := max_num l l.length (by omega) (Nat.le_refl _)
    rw [List.take_length] at this
    exact this
/-- Same lists, one of them marks: the classes. -/
theorem classes_same {s m : List Int} (h : Same s m) (hc : Canon m) : numL s = (List.range m.length).map (fun i => ((rank m (m.getD i 0).toNat : Nat) : Int)) ∧ classN (numL s) = rank m m.length := by
  have h1 := same_num h
  have h2 := canon_num hc
  exact ⟨h1.1.trans h2.1, by rw [classN_num, h1.2, h2.2]⟩
theorem rel_glF {Q : List Int → List Int → Prop} {st1 st2 : List Int → Nat → Nat → Int × Int → List Int} (row : List (Int × Int)) (a : Nat)
    (hs : ∀ s m f, f < 4 → ¬ (row.getD f (0, 0)).1 < 0 → Q s m → Q (st1 s a f (row.getD f (0, 0))) (st2 m a f (row.getD f (0, 0)))) (s m : List Int) (f : Nat) (hf : f ≤ 4) (h : Q s m) : Q (glF st1 s a row f) (glF st2 m a row f) := by
  induction f with
  | zero => exact h
  | succ f ih =>
    unfold glF
    split
    · exact ih (by omega)
    · rename_i hx
      exact hs _ _ f (by omega) hx (ih (by omega))
theorem rel_glT {Q : List Int → List Int → Prop} {st1 st2 : List Int → Nat → Nat → Int × Int → List Int} (T : List (List (Int × Int)))
    (hs : ∀ s m a f x, a < T.length → f < 4 → (T.getD a []).getD f (0, 0) = x → 0 ≤ x.1 → Q s m → Q (st1 s a f x) (st2 m a f x)) (s m : List Int) (n : Nat) (hn : n ≤ T.length) (h : Q s m) : Q (glT st1 s T n) (glT st2 m T n) := by
  induction n with
  | zero => exact h
  | succ n ih => exact rel_glF _ _ (fun s m f hf hx hq => hs s m n f _ (by omega) hf rfl (by omega) hq) _ _ 4 (Nat.le_refl _) (ih (by omega))
/-- The marks beside the sets. -/
def Mk (N : Nat) (s m : List Int) : Prop := Same s m ∧ Canon m ∧ s.length = N
theorem mk_join {N : Nat} {s m : List Int} (h : Mk N s m) (i k : Nat) (hi : i < N) (hk : k < N) : Mk N (unionL s i k) (joinL m i k) :=
  ⟨same_union h.1 i k (by rw [h.2.2]; exact hi) (by rw [h.2.2]; exact hk), canon_join h.2.1 i k (by rw [← h.1.1, h.2.2]; exact hi) (by rw [← h.1.1, h.2.2]; exact hk), by rw [unionL_len]; exact h.2.2⟩
theorem mk_cnt (n : Nat) : Mk n (cntL n) (cntL n) := ⟨same_refl _, canon_cnt n, cntL_len n⟩
def jface (m : List Int) (a f : Nat) (x : Int × Int) : List Int := joinL m (4 * a + f) (4 * x.1 + pm x.2 f).toNat
def jvertTo (m : List Int) (a f : Nat) (x : Int × Int) : Nat → List Int
  | 0 => m
  | v + 1 => if v = f then jvertTo m a f x v else joinL (jvertTo m a f x v) (4 * a + v) (4 * x.1 + pm x.2 v).toNat
def jvert (m : List Int) (a f : Nat) (x : Int × Int) : List Int := jvertTo m a f x 4
def jedgeTo (m : List Int) (a f : Nat) (x : Int × Int) : Nat → List Int
  | 0 => m
  | k + 1 => if endA k ≠ f ∧ endB k ≠ f then joinL (jedgeTo m a f x k) (6 * a + k) (6 * x.1 + edgeN (pm x.2 (endA k)) (pm x.2 (endB k))).toNat else jedgeTo m a f x k
def jedge (m : List Int) (a f : Nat) (x : Int × Int) : List Int := jedgeTo m a f x 6
theorem edge_bd (p : Int) (k : Nat) (hk : k < 6) (h0 : 0 ≤ p) (h1 : p < 24) : 0 ≤ edgeN (pm p (endA k)) (pm p (endB k)) ∧ edgeN (pm p (endA k)) (pm p (endB k)) < 6 := by
  obtain ⟨u, v, hu, hv, hu4, hv4, huv⟩ := ends_bd k hk
  rw [hu, hv]
  have hq := pm_inj p u v h0 h1 hu4 hv4 huv
  have hqu := pm_bd p u h0 h1 (by omega) (by omega)
  have hqv := pm_bd p v h0 h1 (by omega) (by omega)
  have e1 : (pmL p).getD u 0 = pm p u := by unfold pm; rw [Int.toNat_natCast]
  have e2 : (pmL p).getD v 0 = pm p v := by unfold pm; rw [Int.toNat_natCast]
  rw [e1, e2] at hq
  obtain ⟨e, he, he6⟩ := edgeN_bd (pm p u).toNat (pm p v).toNat (by omega) (by omega) (by omega)
  rw [show (((pm p u).toNat : Nat) : Int) = pm p u by omega, show (((pm p v).toNat : Nat) : Int) = pm p v by omega] at he
  omega
theorem fine_at {T : List (List (Int × Int))} (hF : Fine T) {a f : Nat} {x : Int × Int} (ha : a < T.length) (hf : f < 4) (hx : (T.getD a []).getD f (0, 0) = x) (h0 : 0 ≤ x.1) : x.1 < T.length ∧ 0 ≤ x.2 ∧ x.2 < 24 := by
  have := (hF.2 a ha).2 f hf (by rw [hx]; exact h0)
  rwa [hx] at this
theorem mk_face {T : List (List (Int × Int))} (hF : Fine T) : Mk (4 * T.length) (glT faceStep (cntL (4 * T.length)) T T.length) (glT jface (cntL (4 * T.length)) T T.length) := by
  refine rel_glT T ?_ _ _ _ (Nat.le_refl _) (mk_cnt _)
  intro s m a f x ha hf hx h0 hq
  obtain ⟨h1, h2, h3⟩ := fine_at hF ha hf hx h0
  have := pm_bd x.2 f h2 h3 (by omega) (by omega)
  exact mk_join hq _ _ (by omega) (by omega)
theorem mk_edge {T : List (List (Int × Int))} (hF : Fine T) : Mk (6 * T.length) (glT edgeStep (cntL (6 * T.length)) T T.length) (glT jedge (cntL (6 * T.length)) T T.length) := by
  refine rel_glT T ?_ _ _ _ (Nat.le_refl _) (mk_cnt _)
  intro s m a f x ha hf hx h0 hq
  obtain ⟨h1, h2, h3⟩ := fine_at hF ha hf hx h0
  have key : ∀ k, k ≤ 6 → Mk (6 * T.length) (edgeTo s a f x k) (jedgeTo m a f x k) := by
    intro k
    induction k with
    | zero => intro _; exact hq
    | succ k ih =>
      intro hk
      have hb := edge_bd x.2 k (by omega) h2 h3
      unfold edgeTo jedgeTo
      split
      · exact mk_join (ih (by omega)) _ _ (by omega) (by omega)
      · exact ih (by omega)
  exact key 6 (Nat.le_refl _)
theorem mk_vert {T : List (List (Int × Int))} (hF : Fine T) : Mk (4 * T.length) (glT vertStep (cntL (4 * T.length)) T T.length) (glT jvert (cntL (4 * T.length)) T T.length) := by
  refine rel_glT T ?_ _ _ _ (Nat.le_refl _) (mk_cnt _)
  intro s m a f x ha hf hx h0 hq
  obtain ⟨h1, h2, h3⟩ := fine_at hF ha hf hx h0
  have hpm : ∀ v : Int, 0 ≤ v → v < 4 → 0 ≤ pm x.2 v ∧ pm x.2 v < 4 := fun v hv0 hv4 => pm_bd x.2 v h2 h3 hv0 hv4
  have h_0 := hpm 0 (by omega) (by omega)
  have h_1 := hpm 1 (by omega) (by omega)
  have h_2 := hpm 2 (by omega) (by omega)
  have h_3 := hpm 3 (by omega) (by omega)
  have st : ∀ (s m : List Int) (v : Nat), v < 4 → Mk (4 * T.length) s m → Mk (4 * T.length) (unionL s (4 * a + v) (4 * x.1 + pm x.2 (v : Int)).toNat) (joinL m (4 * a + v) (4 * x.1 + pm x.2 (v : Int)).toNat) := by
    intro s m v hv h
    have := hpm v (by omega) (by omega)
    exact mk_join h _ _ (by omega) (by omega)
  have o0 : othersL [((0 : Nat) : Int)] = [1, 2, 3] := by decide
  have o1 : othersL [((1 : Nat) : Int)] = [0, 2, 3] := by decide
  have o2 : othersL [((2 : Nat) : Int)] = [0, 1, 3] := by decide
  have o3 : othersL [((3 : Nat) : Int)] = [0, 1, 2] := by decide
  have hf4 : f = 0 ∨ f = 1 ∨ f = 2 ∨ f = 3 := by omega
  unfold vertStep jvert
  rcases hf4 with rfl | rfl | rfl | rfl
  · simp only [vertTo, jvertTo, o0]
    exact st _ _ 3 (by omega) (st _ _ 2 (by omega) (st _ _ 1 (by omega) hq))
  · simp only [vertTo, jvertTo, o1]
    exact st _ _ 3 (by omega) (st _ _ 2 (by omega) (st _ _ 0 (by omega) hq))
  · simp only [vertTo, jvertTo, o2]
    exact st _ _ 3 (by omega) (st _ _ 1 (by omega) (st _ _ 0 (by omega) hq))
  · simp only [vertTo, jvertTo, o3]
    exact st _ _ 2 (by omega) (st _ _ 1 (by omega) (st _ _ 0 (by omega) hq))
/-- The specification's marks. -/
def markF (T : List (List (Int × Int))) : List Int := glT jface (cntL (4 * T.length)) T T.length
def markE (T : List (List (Int × Int))) : List Int := glT jedge (cntL (6 * T.length)) T T.length
def markV (T : List (List (Int × Int))) : List Int := glT jvert (cntL (4 * T.length)) T T.length
/-- The numbers of marks. -/
def numbers (m : List Int) : List Int := (List.range m.length).map fun i => ((rank m (m.getD i 0).toNat : Nat) : Int)
theorem faceL_is {T : List (List (Int × Int))} (hF : Fine T) : faceL T = numbers (markF T) ∧ classN (faceL T) = rank (markF T) (markF T).length := classes_same (mk_face hF).1 (mk_face hF).2.1
theorem edgeL_is {T : List (List (Int × Int))} (hF : Fine T) : edgeL T = numbers (markE T) ∧ classN (edgeL T) = rank (markE T) (markE T).length := classes_same (mk_edge hF).1 (mk_edge hF).2.1
theorem vertL_is {T : List (List (Int × Int))} (hF : Fine T) : vertL T = numbers (markV T) ∧ classN (vertL T) = rank (markV T) (markV T).length := classes_same (mk_vert hF).1 (mk_vert hF).2.1
theorem marks_fine {T : List (List (Int × Int))} (hF : Fine T) : (Canon (markF T) ∧ (markF T).length = 4 * T.length) ∧ (Canon (markE T) ∧ (markE T).length = 6 * T.length) ∧ (Canon (markV T) ∧ (markV T).length = 4 * T.length) :=
  ⟨⟨(mk_face hF).2.1, (mk_face hF).1.1.symm.trans (mk_face hF).2.2⟩, ⟨(mk_edge hF).2.1, (mk_edge hF).1.1.symm.trans (mk_edge hF).2.2⟩, ⟨(mk_vert hF).2.1, (mk_vert hF).1.1.symm.trans (mk_vert hF).2.2⟩⟩
def Evt {α : Type} (F : Nat → Option α) (r : α) : Prop := ∃ K, ∀ k, K ≤ k → F k = some r
theorem Evt.const {α : Type} (r : α) : Evt (fun _ => some r) r := ⟨0, fun _ _ => rfl⟩
theorem Evt.of_eq {α : Type} {o : Option α} {r : α} (h : o = some r) : Evt (fun _ => o) r := ⟨0, fun _ _ => h⟩
theorem Evt.bind {α β : Type} {A : Nat → Option α} {B : Nat → α → Option β} {a : α} {r : β} (ha : Evt A a) (hb : Evt (fun k => B k a) r) : Evt (fun k => (A k).bind (B k)) r := by
  obtain ⟨K, hK⟩ := ha
  obtain ⟨K', hK'⟩ := hb
  exact ⟨max K K', fun k hk => by show (A k).bind (B k) = some r; rw [hK k (by omega)]; exact hK' k (by omega)⟩
theorem Evt.succ {α : Type} {F G : Nat → Option α} {r : α} (h : ∀ k, F (k + 1) = G k) (hg : Evt G r) : Evt F r := by
  obtain ⟨K, hK⟩ := hg
  exact ⟨K + 1, fun k hk => by obtain ⟨j, rfl⟩ : ∃ j, k = j + 1 := ⟨k - 1, by omega⟩; rw [h]; exact hK j (by omega)⟩
theorem Evt.congr {α : Type} {F G : Nat → Option α} {r : α} (h : ∀ k, F k = G k) (hg : Evt G r) : Evt F r := by
  have : F = G := funext h
  rw [this]; exact hg
theorem Evt.get {α : Type} {F : Nat → Option α} {r : α} (h : Evt F r) : ∃ k, F k = some r := by
  obtain ⟨K, hK⟩ := h
  exact ⟨K, hK K (Nat.le_refl _)⟩
theorem Evt.mono_at {α : Type} {F : Nat → Option α} {r : α} (K : Nat) (h : F K = some r) (hm : ∀ k x, F k = some x → F (k + 1) = some x) : Evt F r := by
  refine ⟨K, fun k hk => ?_⟩
  induction k with
  | zero => obtain rfl : K = 0 := by omega
            exact h
  | succ k ih =>
    by_cases hkk : K ≤ k
    · exact hm _ _ (ih hkk)
    · obtain rfl : K = k + 1 := by omega
      exact h

end Go.Proofs.YtmoknllbpjpkmaaGreat.TP
