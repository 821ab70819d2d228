/- A part of the walk: what functions of the program do, over an abstract heap. -/
import Derived.Test.YtmoknllbpjpkmaaX2
import Derived.Test.YtmoknllbpjpkmaaX1
namespace Go.Proofs.Ytmoknllbpjpkmaa.Zed
open Go TP
set_option linter.unusedVariables false
set_option linter.unusedSimpArgs false
set_option maxRecDepth 20000
/-! The matrix of the program is that of the specification: the plain law. -/
/-- How many of the first i edges are of class c and have column j. -/
def ctE (E : List Int) (c : Int) (j : Nat) : Nat → Nat
  | 0 => 0
  | i + 1 => if E.getD i 0 = c ∧ colI i = j then ctE E c j i + 1 else ctE E c j i
theorem getD_zero (n j : Nat) : (List.replicate n (0 : Int)).getD j 0 = 0 := by
  rw [List.getD_eq_getElem?_getD, List.getElem?_replicate]; split <;> rfl
theorem rowI_get (E : List Int) (c : Int) (n : Nat) (j : Nat) : ∀ i, i ≤ 6 * n → (rowI E c n i).getD j 0 = ctE E c j i
  | 0, _ => by rw [rowI, getD_zero]; rfl
  | i + 1, h => by
    have ih := rowI_get E c n j i (by omega)
    have hl := rowI_len E c n i
    have hcol : colI i < 3 * n + 1 := by unfold colI; omega
    unfold rowI ctE
    by_cases hc : E.getD i 0 = c
    · rw [if_pos hc, getD_set _ _ _ _ (by omega)]
      by_cases hj : colI i = j
      · subst hj
        rw [if_pos rfl, if_pos ⟨hc, rfl⟩, ih]; push_cast; rfl
      · rw [if_neg hj, if_neg (fun q => hj q.2), ih]
    · rw [if_neg hc, if_neg (fun q => hc q.1), ih]
theorem ctE_hi (E : List Int) (c : Int) (n : Nat) (j : Nat) (hj : 3 * n ≤ j) : ∀ i, i ≤ 6 * n → ctE E c j i = 0
  | 0, _ => rfl
  | i + 1, h => by
    unfold ctE
    have hcol : colI i < 3 * n := by unfold colI; omega
    rw [if_neg (fun q => by omega), ctE_hi E c n j hj i (by omega)]
theorem rE_get (E : List Int) (n : Nat) (c : Int) (j : Nat) : (rE E n c).getD j 0 = if 3 * n = j then 2 else ((ctE E c j (6 * n) : Nat) : Int) := by
  unfold rE
  rw [getD_set _ _ _ _ (by rw [rowI_len]; omega), rowI_get _ _ _ _ _ (Nat.le_refl _)]
theorem rowA_get (n a j : Nat) (ha : a < n) : ∀ k, k ≤ 3 → (rowA n a k).getD j 0 = if 3 * a ≤ j ∧ j < 3 * a + k then 1 else 0
  | 0, _ => by rw [rowA, getD_zero, if_neg (by omega)]
  | k + 1, h => by
    rw [rowA, getD_set _ _ _ _ (by rw [rowA_len]; omega), rowA_get n a j ha k (by omega)]
    by_cases e : 3 * a + k = j
    · rw [if_pos e, if_pos (by omega)]
    · rw [if_neg e]
      by_cases q : 3 * a ≤ j ∧ j < 3 * a + k
      · rw [if_pos q, if_pos (by omega)]
      · rw [if_neg q, if_neg (by omega)]
theorem rA_get (n a j : Nat) (ha : a < n) : (rA n a).getD j 0 = if 3 * n = j ∨ (3 * a ≤ j ∧ j < 3 * a + 3) then 1 else 0 := by
  unfold rA
  rw [getD_set _ _ _ _ (by rw [rowA_len]; omega), rowA_get n a j ha 3 (Nat.le_refl _)]
  by_cases e : 3 * n = j
  · rw [if_pos e, if_pos (.inl e)]
  · rw [if_neg e]
    by_cases q : 3 * a ≤ j ∧ j < 3 * a + 3
    · rw [if_pos q, if_pos (.inr q)]
    · rw [if_neg q, if_neg (by omega)]
/-! The program's matrix, entry by entry. -/
theorem idx_eq {C r j r' j' : Nat} (h : r * C + j = r' * C + j') (hj : j < C) (hj' : j' < C) : r = r' ∧ j = j' := by
  have h1 : (r * C + j) / C = (r' * C + j') / C := by rw [h]
  have h2 : (r * C + j) % C = (r' * C + j') % C := by rw [h]
  rw [Nat.mul_comm r, Nat.mul_comm r', Nat.mul_add_div (by omega), Nat.mul_add_div (by omega), Nat.div_eq_of_lt hj, Nat.div_eq_of_lt hj'] at h1
  rw [Nat.mul_comm r, Nat.mul_comm r', Nat.mul_add_mod, Nat.mul_add_mod, Nat.mod_eq_of_lt hj, Nat.mod_eq_of_lt hj'] at h2
  exact ⟨by omega, h2⟩
theorem idx_lt {R C r j : Nat} (hr : r < R) (hj : j < C) : r * C + j < R * C := by
  calc r * C + j < r * C + C := by omega
    _ = (r + 1) * C := by rw [Nat.add_mul, Nat.one_mul]
    _ ≤ R * C := Nat.mul_le_mul_right _ hr
section
variable {n R : Nat} {M : List Int}
theorem amI_get (hM : M.length = R * (3 * n + 1)) (hn : n ≤ R) {a r j : Nat} (ha : a < n) (hr : r < R) (hj : j < 3 * n + 1) : ∀ k, k ≤ 3 → (amI (3 * n + 1) M a k).getD (r * (3 * n + 1) + j) 0 = if r = a ∧ 3 * a ≤ j ∧ j < 3 * a + k then 1 else M.getD (r * (3 * n + 1) + j) 0
  | 0, _ => by rw [amI, if_neg (by omega)]
  | k + 1, h => by
    rw [amI, getD_set _ _ _ _ (by rw [amI_len, hM]; exact idx_lt (by omega) (by omega)), amI_get hM hn ha hr hj k (by omega)]
    by_cases e : a * (3 * n + 1) + (3 * a + k) = r * (3 * n + 1) + j
    · obtain ⟨e1, e2⟩ := idx_eq e (by omega) hj
      rw [if_pos e, if_pos ⟨e1.symm, by omega, by omega⟩]
    · rw [if_neg e]
      by_cases q : r = a ∧ 3 * a ≤ j ∧ j < 3 * a + k
      · rw [if_pos q, if_pos ⟨q.1, q.2.1, by omega⟩]
      · rw [if_neg q, if_neg]
        rintro ⟨q1, q2, q3⟩
        subst q1
        by_cases q4 : j < 3 * r + k
        · exact q ⟨rfl, q2, q4⟩
        · exact e (by rw [show j = 3 * r + k by omega])
theorem amA_get (hM : M.length = R * (3 * n + 1)) (hn : n ≤ R) {r j : Nat} (hr : r < R) (hj : j < 3 * n + 1) : ∀ a, a ≤ n → (amA n (3 * n + 1) M a).getD (r * (3 * n + 1) + j) 0 = if r < a ∧ (3 * n = j ∨ (3 * r ≤ j ∧ j < 3 * r + 3)) then 1 else M.getD (r * (3 * n + 1) + j) 0
  | 0, _ => by rw [amA, if_neg (by omega)]
  | a + 1, h => by
    have hl : (amA n (3 * n + 1) M a).length = R * (3 * n + 1) := by rw [amA_len, hM]
    rw [amA, getD_set _ _ _ _ (by rw [amI_len, hl]; exact idx_lt (by omega) (by omega)), amI_get hl hn (by omega) hr hj 3 (Nat.le_refl _), amA_get hM hn hr hj a (by omega)]
    by_cases e : a * (3 * n + 1) + 3 * n = r * (3 * n + 1) + j
    · obtain ⟨e1, e2⟩ := idx_eq e (by omega) hj
      rw [if_pos e, if_pos ⟨by omega, .inl e2⟩]
    · rw [if_neg e]
      have hne : r = a → 3 * n ≠ j := fun q p => e (by rw [q, p])
      by_cases q : r = a ∧ 3 * a ≤ j ∧ j < 3 * a + 3
      · rw [if_pos q, if_pos ⟨by omega, .inr (by omega)⟩]
      · rw [if_neg q]
        by_cases p : r < a ∧ (3 * n = j ∨ 3 * r ≤ j ∧ j < 3 * r + 3)
        · rw [if_pos p, if_pos ⟨by omega, p.2⟩]
        · rw [if_neg p, if_neg]
          rintro ⟨p1, p2⟩
          by_cases p3 : r = a
          · rcases p2 with p2 | p2
            · exact hne p3 p2
            · exact q ⟨p3, by omega, by omega⟩
          · exact p ⟨by omega, p2⟩
/-- The rows of the edge classes. -/
theorem amE_get {b : List Bool} {E row : List Int} {N : Nat} (hM : M.length = R * (3 * n + 1)) (hE : ∀ i, i < 6 * n → 0 ≤ E.getD i 0 ∧ E.getD i 0 < N) (hrow : ∀ c, c < N → b.getD c false = false → row.getD c 0 = ((n + rwN b c : Nat) : Int) ∧ n + rwN b c < R) {r j : Nat} (hr : r < R) (hj : j < 3 * n + 1) :
    ∀ i, i ≤ 6 * n → (amE (3 * n + 1) n b E row M i).getD (r * (3 * n + 1) + j) 0 = if 3 * n = j ∧ (∃ i', i' < i ∧ b.getD (E.getD i' 0).toNat false = false ∧ n + rwN b (E.getD i' 0).toNat = r) then 2 else M.getD (r * (3 * n + 1) + j) 0 + (((List.range i).filter fun i' => b.getD (E.getD i' 0).toNat false = false ∧ n + rwN b (E.getD i' 0).toNat = r ∧ colI i' = j).length : Nat)
  | 0, _ => by rw [amE, if_neg (by rintro ⟨_, _, h, _⟩; omega)]; simp
  | i + 1, h => by
    have ih := amE_get hM hE hrow hr hj i (by omega)
    have hl := (amE_len (3 * n + 1) n b E row M i).trans hM
    obtain ⟨hE0, hE1⟩ := hE i (by omega)
    have hcol : colI i < 3 * n := by unfold colI; omega
    have hcl : 3 * (i / 6) + min (i % 6) (5 - i % 6) = colI i := rfl
    have hfil : (((List.range (i + 1)).filter fun i' => b.getD (E.getD i' 0).toNat false = false ∧ n + rwN b (E.getD i' 0).toNat = r ∧ colI i' = j).length) = (((List.range i).filter fun i' => b.getD (E.getD i' 0).toNat false = false ∧ n + rwN b (E.getD i' 0).toNat = r ∧ colI i' = j).length) + if b.getD (E.getD i 0).toNat false = false ∧ n + rwN b (E.getD i 0).toNat = r ∧ colI i = j then 1 else 0 := by
      rw [List.range_succ, List.filter_append, List.length_append]
      congr 1
      rw [List.filter_cons]
      by_cases q : b.getD (E.getD i 0).toNat false = false ∧ n + rwN b (E.getD i 0).toNat = r ∧ colI i = j
      · rw [if_pos (by simpa using q), if_pos q]; rfl
      · rw [if_neg (by simpa using q), if_neg q]; rfl
    obtain ⟨F, hF⟩ : ∃ F, ((List.range i).filter fun i' => b.getD (E.getD i' 0).toNat false = false ∧ n + rwN b (E.getD i' 0).toNat = r ∧ colI i' = j).length = F := ⟨_, rfl⟩
    obtain ⟨F', hF'⟩ : ∃ F, ((List.range (i + 1)).filter fun i' => b.getD (E.getD i' 0).toNat false = false ∧ n + rwN b (E.getD i' 0).toNat = r ∧ colI i' = j).length = F := ⟨_, rfl⟩
    rw [hF] at ih hfil
    rw [hF'] at hfil
    rw [hF']
    clear hF hF'
    suffices hs : ((3 * n = j ∧ ∃ i', i' < i + 1 ∧ b.getD (E.getD i' 0).toNat false = false ∧ n + rwN b (E.getD i' 0).toNat = r) → (amE (3 * n + 1) n b E row M (i + 1)).getD (r * (3 * n + 1) + j) 0 = 2) ∧ ((¬ (3 * n = j ∧ ∃ i', i' < i + 1 ∧ b.getD (E.getD i' 0).toNat false = false ∧ n + rwN b (E.getD i' 0).toNat = r)) → (amE (3 * n + 1) n b E row M (i + 1)).getD (r * (3 * n + 1) + j) 0 = M.getD (r * (3 * n + 1) + j) 0 + F') by
      split
      · rename_i h; exact hs.1 h
      · rename_i h; exact hs.2 h
    have hi1 : (3 * n = j ∧ ∃ i', i' < i ∧ b.getD (E.getD i' 0).toNat false = false ∧ n + rwN b (E.getD i' 0).toNat = r) → (amE (3 * n + 1) n b E row M i).getD (r * (3 * n + 1) + j) 0 = 2 := fun q => by rw [ih, if_pos q]
    have hi2 : ¬ (3 * n = j ∧ ∃ i', i' < i ∧ b.getD (E.getD i' 0).toNat false = false ∧ n + rwN b (E.getD i' 0).toNat = r) → (amE (3 * n + 1) n b E row M i).getD (r * (3 * n + 1) + j) 0 = M.getD (r * (3 * n + 1) + j) 0 + F := fun q => by rw [ih, if_neg q]
    clear ih
    obtain ⟨c1, hc1⟩ : ∃ c1 : Prop, (3 * n = j ∧ ∃ i', i' < i ∧ b.getD (E.getD i' 0).toNat false = false ∧ n + rwN b (E.getD i' 0).toNat = r) = c1 := ⟨_, rfl⟩
    obtain ⟨c2, hc2⟩ : ∃ c2 : Prop, (3 * n = j ∧ ∃ i', i' < i + 1 ∧ b.getD (E.getD i' 0).toNat false = false ∧ n + rwN b (E.getD i' 0).toNat = r) = c2 := ⟨_, rfl⟩
    have h12 : c1 → c2 := by rw [← hc1, ← hc2]; rintro ⟨q1, i', a1, a2⟩; exact ⟨q1, i', by omega, a2⟩
    have h21 : c2 → c1 ∨ (3 * n = j ∧ b.getD (E.getD i 0).toNat false = false ∧ n + rwN b (E.getD i 0).toNat = r) := by
      rw [← hc1, ← hc2]
      rintro ⟨q1, i', a1, a2, a3⟩
      by_cases e : i' = i
      · subst e; exact .inr ⟨q1, a2, a3⟩
      · exact .inl ⟨q1, i', by omega, a2, a3⟩
    have h22 : 3 * n = j ∧ b.getD (E.getD i 0).toNat false = false ∧ n + rwN b (E.getD i 0).toNat = r → c2 := by
      rw [← hc2]; rintro ⟨q1, q2, q3⟩; exact ⟨q1, i, by omega, q2, q3⟩
    have hcj : c1 → 3 * n = j := by rw [← hc1]; exact fun q => q.1
    have hcj2 : c2 → 3 * n = j := by rw [← hc2]; exact fun q => q.1
    rw [hc1] at hi1 hi2
    rw [hc2]
    clear hc1 hc2
    rw [amE]
    by_cases hb : b.getD (E.getD i 0).toNat false = true
    · have e1 : ¬ (b.getD (E.getD i 0).toNat false = false) := by rw [hb]; simp
      have e2 : F' = F := by rw [hfil, if_neg (fun q => e1 q.1), Nat.add_zero]
      rw [if_pos hb, e2]
      exact ⟨fun p => hi1 ((h21 p).elim id fun p => absurd p.2.1 e1), fun p => hi2 fun q => p (h12 q)⟩
    · have hb' : b.getD (E.getD i 0).toNat false = false := by simpa using hb
      obtain ⟨w1, w2⟩ := hrow (E.getD i 0).toNat (by omega) hb'
      rw [if_neg hb, hcl]
      unfold amP
      rw [w1, Int.toNat_natCast, getD_set _ _ _ _ (by rw [List.length_set, hl]; exact idx_lt w2 (by omega)), getD_set _ _ _ _ (by rw [hl]; exact idx_lt w2 (by omega))]
      by_cases e : (n + rwN b (E.getD i 0).toNat) * (3 * n + 1) + 3 * n = r * (3 * n + 1) + j
      · obtain ⟨e1, e2⟩ := idx_eq e (by omega) hj
        rw [if_pos e]
        exact ⟨fun _ => rfl, fun p => absurd (h22 ⟨e2, hb', e1⟩) p⟩
      · rw [if_neg e]
        have hne : ¬ (3 * n = j ∧ b.getD (E.getD i 0).toNat false = false ∧ n + rwN b (E.getD i 0).toNat = r) := fun q => e (by rw [q.2.2, q.1])
        have hc12 : ¬ c1 → ¬ c2 := fun h p => (h21 p).elim h hne
        by_cases q : (n + rwN b (E.getD i 0).toNat) * (3 * n + 1) + colI i = r * (3 * n + 1) + j
        · obtain ⟨q1, q2⟩ := idx_eq q (by omega) hj
          have e3 : ¬ c1 := fun p => by have := hcj p; omega
          have e4 : F' = F + 1 := by rw [hfil, if_pos ⟨hb', q1, q2⟩]
          rw [if_pos q, q, hi2 e3, e4]
          exact ⟨fun p => absurd p (hc12 e3), fun _ => by push_cast; omega⟩
        · have e4 : F' = F := by rw [hfil, if_neg (fun p => q (by rw [p.2.1, p.2.2])), Nat.add_zero]
          rw [if_neg q, e4]
          exact ⟨fun p => hi1 ((h21 p).elim id fun p => absurd p hne), fun p => hi2 fun q => p (h12 q)⟩
end
theorem spR_rows' (T : List (List (Int × Int))) : ∀ r ∈ spR T, r.length = 3 * T.length + 1 := by
  intro r hr
  unfold spR at hr
  rcases List.mem_append.1 hr with hr | hr
  · obtain ⟨a, _, rfl⟩ := List.mem_map.1 hr
    unfold rA; rw [List.length_set, rowA_len]
  · obtain ⟨a, _, rfl⟩ := List.mem_map.1 hr
    unfold rE; rw [List.length_set, rowI_len]
theorem ext_getD {l m : List Int} (h : l.length = m.length) (hh : ∀ i, i < l.length → l.getD i 0 = m.getD i 0) : l = m := by
  apply List.ext_getElem h
  intro i h1 h2
  have := hh i h1
  simpa [h1, h2] using this
theorem flat_len {C : Nat} : ∀ {L : List (List Int)}, (∀ r ∈ L, r.length = C) → L.flatten.length = L.length * C
  | [], _ => by simp
  | r :: L, h => by
    rw [List.flatten_cons, List.length_append, flat_len (fun x hx => h x (List.mem_cons_of_mem _ hx)), h r (List.mem_cons_self ..), List.length_cons, Nat.add_mul]; omega
theorem flat_get {C : Nat} : ∀ {L : List (List Int)}, (∀ r ∈ L, r.length = C) → ∀ r j, r < L.length → j < C → L.flatten.getD (r * C + j) 0 = (L.getD r []).getD j 0
  | [], _, r, j, h, _ => by simp at h
  | x :: L, h, r, j, hr, hj => by
    have hx := h x (List.mem_cons_self ..)
    rw [List.flatten_cons, List.getD_eq_getElem?_getD]
    cases r with
    | zero =>
      rw [List.getElem?_append_left (by omega), Nat.zero_mul, Nat.zero_add, ← List.getD_eq_getElem?_getD]; rfl
    | succ r =>
      have hm : (r + 1) * C + j = x.length + (r * C + j) := by rw [Nat.add_mul, hx]; omega
      rw [hm, List.getElem?_append_right (by omega), Nat.add_sub_cancel_left, ← List.getD_eq_getElem?_getD, flat_get (fun y hy => h y (List.mem_cons_of_mem _ hy)) r j (by simpa using hr) hj]
      rfl
theorem inL_at {L : List Int} {b : List Bool} {N : Nat} (h : ∀ j, j < N → ((j : Int) ∈ L ↔ b.getD j false = true)) : ∀ k, k ≤ N → ∀ q, q < (inL L k).length → ∃ c : Nat, c < k ∧ b.getD c false = false ∧ rwN b c = q ∧ (inL L k).getD q 0 = c
  | 0, _, q, hq => by simp [inL] at hq
  | k + 1, hk, q, hq => by
    have ih := inL_at h k (by omega)
    have hlen := inL_rwN L b N h k (by omega)
    have hh := h k (by omega)
    unfold inL at hq ⊢
    by_cases e : (k : Int) ∈ L
    · rw [if_pos e] at hq ⊢
      obtain ⟨c, h1, h2⟩ := ih q hq
      exact ⟨c, by omega, h2⟩
    · rw [if_neg e] at hq ⊢
      by_cases hq2 : q < (inL L k).length
      · obtain ⟨c, h1, h2, h3, h4⟩ := ih q hq2
        refine ⟨c, by omega, h2, h3, ?_⟩
        rw [List.getD_eq_getElem?_getD, List.getElem?_append_left hq2, ← List.getD_eq_getElem?_getD]; exact h4
      · rw [List.length_append, List.length_singleton] at hq
        obtain rfl : q = (inL L k).length := by omega
        refine ⟨k, by omega, ?_, hlen.symm, ?_⟩
        · cases hb : b.getD k false
          · rfl
          · exact absurd (hh.2 hb) e
        · rw [List.getD_eq_getElem?_getD, List.getElem?_append_right (Nat.le_refl _)]; simp
theorem rwN_inj {b : List Bool} {c c' : Nat} (h : b.getD c false = false) (h' : b.getD c' false = false) (e : rwN b c = rwN b c') : c = c' := by
  have st : ∀ x, b.getD x false = false → rwN b (x + 1) = rwN b x + 1 := fun x hx => by
    rw [rwN, if_neg (by rw [hx]; simp)]
  rcases Nat.lt_trichotomy c c' with q | q | q
  · have := rwN_mono b (i := c + 1) (j := c') (by omega)
    have := st c h; omega
  · exact q
  · have := rwN_mono b (i := c' + 1) (j := c) (by omega)
    have := st c' h'; omega
theorem rank_onto (m : List Int) : ∀ k c, c < rank m k → ∃ x : Nat, x < k ∧ m.getD x 0 = x ∧ rank m x = c
  | 0, c, h => by simp [rank, roots] at h
  | k + 1, c, h => by
    rw [rank_succ] at h
    by_cases e : m.getD k 0 = k
    · rw [if_pos e] at h
      by_cases q : c < rank m k
      · obtain ⟨x, h1, h2⟩ := rank_onto m k c q
        exact ⟨x, by omega, h2⟩
      · exact ⟨k, by omega, e, by omega⟩
    · rw [if_neg e] at h
      obtain ⟨x, h1, h2⟩ := rank_onto m k c h
      exact ⟨x, by omega, h2⟩
theorem edge_onto {T : List (List (Int × Int))} (hF : Fine T) {c : Nat} (hc : c < nE T) : ∃ i, i < 6 * T.length ∧ (edgeL T).getD i 0 = c := by
  obtain ⟨e1, e2⟩ := edgeL_is hF
  obtain ⟨_, ⟨_, l2⟩, _⟩ := marks_fine hF
  have hc' : c < rank (markE T) (markE T).length := by unfold nE at hc; rw [e2] at hc; simpa using hc
  obtain ⟨x, h1, h2, h3⟩ := rank_onto _ _ _ hc'
  refine ⟨x, by omega, ?_⟩
  rw [e1, numbers_get _ _ h1, h2, Int.toNat_natCast, h3]
theorem ctE_fil (E : List Int) (c : Int) (j : Nat) : ∀ i, ctE E c j i = ((List.range i).filter fun i' => E.getD i' 0 = c ∧ colI i' = j).length
  | 0 => rfl
  | i + 1 => by
    rw [List.range_succ, List.filter_append, List.length_append, ← ctE_fil E c j i, ctE, List.filter_cons]
    by_cases q : E.getD i 0 = c ∧ colI i = j
    · rw [if_pos q, if_pos (by simpa using q)]; rfl
    · rw [if_neg q, if_neg (by simpa using q)]; rfl
theorem mat_same {T : List (List (Int × Int))} (hT : IsTri T) : amR T = (spR T).length ∧ amL T = (spR T).flatten := by
  have hF := hT.fine
  have h8 := hF.1
  have hb : ∀ j, j < nE T → ((j : Int) ∈ sE T ↔ (bdB T).getD j false = true) := fun j hj => by
    unfold sE bdB
    rw [listTo_mem, mkB_get _ _ _ hj, mkB_get _ _ _ hj, decide_eq_true_iff, decide_eq_true_iff, same_edges]
    exact ⟨fun q => q.2, fun q => ⟨hj, q⟩⟩
  have hlen := inL_rwN (sE T) (bdB T) (nE T) hb (nE T) (Nat.le_refl _)
  have hsl : (spR T).length = amR T := by unfold spR amR; rw [List.length_append, List.length_map, List.length_map, List.length_range, hlen]
  refine ⟨hsl.symm, ?_⟩
  have hrows : ∀ r ∈ spR T, r.length = 3 * T.length + 1 := by
    intro r hr
    unfold spR at hr
    rcases List.mem_append.1 hr with hr | hr
    · obtain ⟨a, _, rfl⟩ := List.mem_map.1 hr
      unfold rA; rw [List.length_set, rowA_len]
    · obtain ⟨a, _, rfl⟩ := List.mem_map.1 hr
      unfold rE; rw [List.length_set, rowI_len]
  have hfl := flat_len hrows
  have hle := edgeL_len T
  have hE : ∀ i, i < 6 * T.length → 0 ≤ (edgeL T).getD i 0 ∧ (edgeL T).getD i 0 < nE T := fun i hi => by
    have h1 := lt_classN (edgeL T) i (by omega)
    have h2 := edgeL_bd T h8 ((edgeL T).getD i 0) (by simp [show i < (edgeL T).length by omega])
    unfold nE; omega
  have hrow : ∀ c, c < nE T → (bdB T).getD c false = false → (rwL T.length (bdB T) (nE T) (nE T)).getD c 0 = ((T.length + rwN (bdB T) c : Nat) : Int) ∧ T.length + rwN (bdB T) c < amR T := fun c hc hbc => by
    refine ⟨rwL_get _ _ _ _ _ hc (Nat.le_refl _) hbc, ?_⟩
    have h1 : rwN (bdB T) (c + 1) = rwN (bdB T) c + 1 := by rw [rwN, if_neg (by rw [hbc]; simp)]
    have h2 := rwN_mono (bdB T) (i := c + 1) (j := nE T) (by omega)
    unfold amR; omega
  have hM : (amA T.length (3 * T.length + 1) (List.replicate (amR T * (3 * T.length + 1)) 0) T.length).length = amR T * (3 * T.length + 1) := by rw [amA_len, List.length_replicate]
  have hn : T.length ≤ amR T := by unfold amR; omega
  apply ext_getD
  · unfold amL amC; rw [amE_len, hM, hfl, hsl]
  · intro x hx
    have hxl : x < amR T * (3 * T.length + 1) := by unfold amL amC at hx; rw [amE_len, hM] at hx; exact hx
    obtain ⟨r, j, rfl, hr, hj⟩ : ∃ r j, x = r * (3 * T.length + 1) + j ∧ r < amR T ∧ j < 3 * T.length + 1 := by
      refine ⟨x / (3 * T.length + 1), x % (3 * T.length + 1), by rw [Nat.mul_comm]; exact (Nat.div_add_mod _ _).symm, Nat.div_lt_of_lt_mul (by rw [Nat.mul_comm]; exact hxl), Nat.mod_lt _ (by omega)⟩
    rw [flat_get hrows r j (by omega) hj]
    unfold amL amC
    rw [amE_get hM hE hrow hr hj _ (Nat.le_refl _), amA_get (by rw [List.length_replicate]) hn hr hj _ (Nat.le_refl _), getD_zero]
    by_cases hrn : r < T.length
    · have hnone : ∀ i', ¬ ((bdB T).getD ((edgeL T).getD i' 0).toNat false = false ∧ T.length + rwN (bdB T) ((edgeL T).getD i' 0).toNat = r) := fun i' q => by omega
      rw [if_neg (fun q => by obtain ⟨_, i', _, q⟩ := q; exact hnone i' q)]
      have hf0 : ((List.range (6 * T.length)).filter fun i' => (bdB T).getD ((edgeL T).getD i' 0).toNat false = false ∧ T.length + rwN (bdB T) ((edgeL T).getD i' 0).toNat = r ∧ colI i' = j) = [] := by
        rw [List.filter_eq_nil_iff]
        intro i' _ q
        have q := of_decide_eq_true q
        exact hnone i' ⟨q.1, q.2.1⟩
      rw [hf0]
      have hg : (spR T).getD r [] = rA T.length r := by
        unfold spR
        rw [List.getD_eq_getElem?_getD, List.getElem?_append_left (by simpa using hrn), List.getElem?_map, List.getElem?_range hrn]; rfl
      rw [hg, rA_get _ _ _ hrn]
      by_cases q : 3 * T.length = j ∨ 3 * r ≤ j ∧ j < 3 * r + 3
      · rw [if_pos ⟨hrn, q⟩, if_pos q]; rfl
      · rw [if_neg (fun p => q p.2), if_neg q]; rfl
    · obtain ⟨q, rfl⟩ : ∃ q, r = T.length + q := ⟨r - T.length, by omega⟩
      have hq : q < (inL (sE T) (nE T)).length := by rw [hlen]; unfold amR at hr; omega
      obtain ⟨c, c1, c2, c3, c4⟩ := inL_at hb (nE T) (Nat.le_refl _) q hq
      have hg : (spR T).getD (T.length + q) [] = rE (edgeL T) T.length c := by
        unfold spR
        rw [List.getD_eq_getElem?_getD, List.getElem?_append_right (by simp), List.length_map, List.length_range, Nat.add_sub_cancel_left, List.getElem?_map, List.getElem?_eq_getElem hq]
        have : (inL (sE T) (nE T))[q] = (c : Int) := by rw [← c4]; simp [hq]
        rw [this]; rfl
      rw [hg, rE_get, if_neg (fun p => absurd p.1 (by omega) : ¬ (T.length + q < T.length ∧ _))]
      have hiff : ∀ i', i' < 6 * T.length → (((bdB T).getD ((edgeL T).getD i' 0).toNat false = false ∧ T.length + rwN (bdB T) ((edgeL T).getD i' 0).toNat = T.length + q) ↔ (edgeL T).getD i' 0 = c) := fun i' hi' => by
        obtain ⟨e1, e2⟩ := hE i' hi'
        constructor
        · rintro ⟨h1, h2⟩
          have := rwN_inj h1 c2 (by omega)
          omega
        · intro h1
          rw [h1, Int.toNat_natCast]
          exact ⟨c2, by omega⟩
      by_cases hj3 : 3 * T.length = j
      · obtain ⟨i, hi, hic⟩ := edge_onto hF c1
        rw [if_pos ⟨hj3, i, hi, (hiff i hi).2 hic⟩, if_pos hj3]
      · rw [if_neg (fun p => hj3 p.1), if_neg hj3, ctE_fil, Int.zero_add]
        congr 2
        apply List.filter_congr
        intro i' hi'
        have hi' := List.mem_range.1 hi'
        apply decide_eq_decide.2
        constructor
        · rintro ⟨h1, h2, h3⟩; exact ⟨(hiff i' hi').1 ⟨h1, h2⟩, h3⟩
        · rintro ⟨h1, h3⟩; obtain ⟨a, b⟩ := (hiff i' hi').2 h1; exact ⟨a, b, h3⟩
end Go.Proofs.Ytmoknllbpjpkmaa.Zed
