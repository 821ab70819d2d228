/- The program's FirstDifference returns what the reference's returns, for all arguments. Conditions: none. -/
import Derived.Test.YtjgoclfocfiecaaPFnExactFirstDifferencex3
namespace Go.Proofs.Ytjgoclfocfiecaa.Pure
set_option linter.unusedVariables false
set_option linter.unusedSimpArgs false
open Go.RowKit Go.Proofs.Ytjgoclfocfiecaa.PFnExactFirstDifference Go.Proofs.YtjgoclfocfiecaaW.PrintWords Go.Proofs.YtjgoclfocfiecaaW.PrintLast

theorem w1 {i : Int} (h0 : 0 ≤ i) (h1 : i ≤ 9223372036854775806) : wrap64 (i + 1) = i + 1 := by unfold wrap64; omega

theorem to_loop (l : List Int) (hl : l.length ≤ 9223372036854775806) : ∀ (d k i : Nat) (x : List Int), x.length = l.length → (∀ j, j < i → x[j]? = l[j]?) → i + d = l.length → d < k → laws_toInt64S.l0 k l x i = some l := by
  intro d
  induction d with
  | zero =>
    intro k i x hx hj hd hk
    obtain ⟨k, rfl⟩ : ∃ m, k = m + 1 := ⟨k - 1, by omega⟩
    simp only [laws_toInt64S.l0]
    rw [if_neg (by omega)]
    congr 1
    apply List.ext_getElem?
    intro j
    by_cases h : j < i
    · exact hj j h
    · rw [List.getElem?_eq_none (by omega), List.getElem?_eq_none (by omega)]
  | succ d ih =>
    intro k i x hx hj hd hk
    obtain ⟨k, rfl⟩ : ∃ m, k = m + 1 := ⟨k - 1, by omega⟩
    simp only [laws_toInt64S.l0]
    rw [if_pos (by omega), if_pos (by omega), if_pos (by omega), w1 (by omega) (by omega)]
    have hi : i < l.length := by omega
    have e : ((i : Int) + 1) = ((i + 1 : Nat) : Int) := by omega
    rw [e]
    refine ih k (i + 1) _ (by simp [hx]) (fun j hj' => ?_) (by omega) (by omega)
    simp only [Int.toNat_natCast]
    by_cases h : j = i
    · subst h
      rw [List.getElem?_set_self (by omega)]
      simp [rd, hi]
    · rw [List.getElem?_set_ne (by omega)]
      exact hj j (by omega)

theorem to_ints (l : List Int) (hl : l.length ≤ 1048576) (k : Nat) (hk : l.length < k) : laws_toInt64S.f k l = some l := by
  unfold laws_toInt64S.f
  rw [if_pos (by omega), if_pos (by simp; omega)]
  exact to_loop l (by omega) l.length k 0 _ (by simp) (fun j hj => by omega) (by omega) hk

theorem eq_loop (l : List Int) (hl : l.length ≤ 9223372036854775806) : ∀ (d k i : Nat), i + d = l.length → d < k → laws_eqInt64S.l0 k l l i = some true := by
  intro d
  induction d with
  | zero =>
    intro k i hd hk
    obtain ⟨k, rfl⟩ : ∃ m, k = m + 1 := ⟨k - 1, by omega⟩
    simp only [laws_eqInt64S.l0]
    rw [if_neg (by omega)]
  | succ d ih =>
    intro k i hd hk
    obtain ⟨k, rfl⟩ : ∃ m, k = m + 1 := ⟨k - 1, by omega⟩
    simp only [laws_eqInt64S.l0]
    rw [if_pos (by omega), if_pos (by omega), if_pos (by omega), if_pos trivial, w1 (by omega) (by omega)]
    have e : ((i : Int) + 1) = ((i + 1 : Nat) : Int) := by omega
    rw [e]
    exact ih k (i + 1) (by omega) (by omega)

theorem eq_ints (l : List Int) (hl : l.length ≤ 1048576) (k : Nat) (hk : l.length < k) : laws_eqInt64S.f k l l = some true := by
  unfold laws_eqInt64S.f
  rw [if_pos rfl]
  exact eq_loop l (by omega) l.length k 0 (by omega) hk

theorem same_loop (a b : List Int) (h : (a.length : Int) = (b.length : Int)) : ∀ (k : Nat) (i : Int), slices_Equal_int64_int64.l0 k a b (a.length : Int) i = spec_l32Same.l0 k a b i := by
  intro k
  induction k with
  | zero => intro i; rfl
  | succ k ih => intro i; simp only [slices_Equal_int64_int64.l0, spec_l32Same.l0, ih]; split <;> rename_i h1 <;> simp [h1]

theorem same (k : Nat) (a b : List Int) : slices_Equal_int64_int64.f k a b = spec_l32Same.f k a b := by
  unfold slices_Equal_int64_int64.f spec_l32Same.f
  by_cases h : (a.length : Int) = (b.length : Int)
  · rw [if_pos h, if_pos h, same_loop a b h]
  · rw [if_neg h, if_neg h]

theorem group (k : Nat) (a : Int) (l : List Int) (b : Int) (m : List Int) : impl_sameGroup.f k a l b m = spec_l23SameGroup.f k a l b m := by
  unfold impl_sameGroup.f spec_l23SameGroup.f
  rw [same]

theorem differs (k : Nat) (a b : Bool) (c : Int) (l m : List Int) (a' b' : Bool) (c' : Int) (l' m' : List Int) (t : Int) : impl_differs.f k a b c l m a' b' c' l' m' t = spec_l23Differ.f k a b c l m a' b' c' l' m' t := by
  unfold impl_differs.f spec_l23Differ.f
  rw [same, group]

theorem first_loop (a b : Bool) (c : Int) (l m : List Int) (a' b' : Bool) (c' : Int) (l' m' : List Int) : ∀ (k : Nat) (i : Int), impl_FirstDifference.l0 k i a b c l m a' b' c' l' m' = spec_FirstDifference.l0 k i a b c l m a' b' c' l' m' := by
  intro k
  induction k with
  | zero => intro i; rfl
  | succ k ih => intro i; simp only [impl_FirstDifference.l0, spec_FirstDifference.l0, ih, differs]

theorem l32_loop (a b : List Int) (h : (a.length : Int) = (b.length : Int)) (hl : a.length ≤ 1048576) : ∀ (d k i : Nat), i + d = a.length → d < k → ∃ r, spec_l32Same.l0 k a b i = some r := by
  intro d
  induction d with
  | zero =>
    intro k i hd hk
    obtain ⟨k, rfl⟩ : ∃ m, k = m + 1 := ⟨k - 1, by omega⟩
    simp only [spec_l32Same.l0]
    rw [if_neg (by omega)]
    exact ⟨_, rfl⟩
  | succ d ih =>
    intro k i hd hk
    obtain ⟨k, rfl⟩ : ∃ m, k = m + 1 := ⟨k - 1, by omega⟩
    simp only [spec_l32Same.l0]
    rw [if_pos (by omega), if_pos (by omega), if_pos (by omega), w1 (by omega) (by omega)]
    have e : ((i : Int) + 1) = ((i + 1 : Nat) : Int) := by omega
    rw [e]
    split
    · exact ih k (i + 1) (by omega) (by omega)
    · exact ⟨_, rfl⟩

theorem l32_some (a b : List Int) (hl : a.length ≤ 1048576) (k : Nat) (hk : a.length < k) : ∃ r, spec_l32Same.f k a b = some r := by
  unfold spec_l32Same.f
  by_cases h : (a.length : Int) = (b.length : Int)
  · rw [if_pos h]; exact l32_loop a b h hl a.length k 0 (by omega) hk
  · rw [if_neg h]; exact ⟨_, rfl⟩

theorem differ_some (k : Nat) (a b : Bool) (c : Int) (l m : List Int) (a' b' : Bool) (c' : Int) (l' m' : List Int) (t : Int) (h1 : l.length ≤ 1048576) (h2 : m.length ≤ 1048576) (hk : l.length < k) (hk2 : m.length < k) :
    ∃ r, spec_l23Differ.f k a b c l m a' b' c' l' m' t = some r := by
  unfold spec_l23Differ.f spec_l23SameGroup.f
  obtain ⟨r1, e1⟩ := l32_some l l' h1 k hk
  obtain ⟨r2, e2⟩ := l32_some m m' h2 k hk2
  rw [e1, e2]
  simp only [Option.bind_some]
  split
  · exact ⟨_, rfl⟩
  · split
    · exact ⟨_, rfl⟩
    · split
      · split <;> exact ⟨_, rfl⟩
      · exact ⟨_, rfl⟩

theorem spec_loop (a b : Bool) (c : Int) (l m : List Int) (a' b' : Bool) (c' : Int) (l' m' : List Int) (h1 : l.length ≤ 1048576) (h2 : m.length ≤ 1048576) :
    ∀ (d k i : Nat), 1 ≤ i → i + d = 5 → d + 1 + l.length + m.length < k → ∃ r, spec_FirstDifference.l0 k i a b c l m a' b' c' l' m' = some r := by
  intro d
  induction d with
  | zero =>
    intro k i h hd hk
    obtain ⟨k, rfl⟩ : ∃ m, k = m + 1 := ⟨k - 1, by omega⟩
    simp only [spec_FirstDifference.l0]
    rw [if_neg (by omega)]
    exact ⟨_, rfl⟩
  | succ d ih =>
    intro k i h hd hk
    obtain ⟨k, rfl⟩ : ∃ m, k = m + 1 := ⟨k - 1, by omega⟩
    simp only [spec_FirstDifference.l0]
    rw [if_pos (by omega), w1 (by omega) (by omega)]
    obtain ⟨r, e⟩ := differ_some k a b c l m a' b' c' l' m' i h1 h2 (by omega) (by omega)
    rw [e]
    simp only [Option.bind_some]
    have e : ((i : Int) + 1) = ((i + 1 : Nat) : Int) := by omega
    rw [e]
    split
    · exact ⟨_, rfl⟩
    · exact ih k (i + 1) (by omega) (by omega) (by omega)

theorem sz_group (a : Int) (l : List Int) (x : Int) (hx : x ≤ 1048576) (h0 : 0 ≤ x) (hl : l.length ≤ 9223372036854775807) :
    laws_szAbelianGroup.f a l x = some (-1) ∨ ∃ y, laws_szAbelianGroup.f a l x = some y ∧ y + l.length = x ∧ 0 ≤ y := by
  unfold laws_szAbelianGroup.f laws_szInt64S.f
  have e : wrap64 (x - (l.length : Int)) = x - l.length := by unfold wrap64; omega
  rw [e]
  by_cases h : x - (l.length : Int) < 0
  · rw [if_pos h]; left; simp
  · rw [if_neg h]; right
    refine ⟨x - l.length, ?_, by omega, by omega⟩
    simp only [Option.bind_some]
    rw [if_neg h]

theorem sz_traits (a b : Bool) (c : Int) (l m : List Int) (x : Int) (hx : x ≤ 1048576) (h0 : 0 ≤ x) (hl : l.length ≤ 9223372036854775807) (hm : m.length ≤ 9223372036854775807) :
    laws_szTraits.f a b c l m x = some (-1) ∨ ∃ y, laws_szTraits.f a b c l m x = some y ∧ y + l.length + m.length = x ∧ 0 ≤ y := by
  unfold laws_szTraits.f
  rcases sz_group c l x hx h0 hl with e | ⟨y, e, hy, hy0⟩
  · rw [e]; left; simp
  · rw [e]
    simp only [Option.bind_some]
    rw [if_neg (by omega)]
    unfold laws_szInt64S.f
    have e : wrap64 (y - (m.length : Int)) = y - m.length := by unfold wrap64; omega
    rw [e]
    by_cases h : y - (m.length : Int) < 0
    · rw [if_pos h]; left; simp
    · rw [if_neg h]; right
      refine ⟨y - m.length, ?_, by omega, by omega⟩
      simp only [Option.bind_some]
      rw [if_neg h]

theorem to_traits (a b : Bool) (c : Int) (l m : List Int) (hl : l.length ≤ 1048576) (hm : m.length ≤ 1048576) (k : Nat) (h1 : l.length < k) (h2 : m.length < k) : laws_toTraits.f k a b c l m = some (a, b, c, l, m) := by
  unfold laws_toTraits.f laws_toAbelianGroup.f
  rw [to_ints l hl k h1, to_ints m hm k h2]
  rfl

theorem eq_traits (a b : Bool) (c : Int) (l m : List Int) (hl : l.length ≤ 1048576) (hm : m.length ≤ 1048576) (k : Nat) (h1 : l.length < k) (h2 : m.length < k) : laws_eqTraits.f k a b c l m a b c l m = some true := by
  unfold laws_eqTraits.f laws_eqAbelianGroup.f
  rw [eq_ints l hl k h1, eq_ints m hm k h2]
  simp

theorem FnExactFirstDifference : laws_FnExactFirstDifference.Pure := by
  intro x y gx gy
  obtain ⟨_, _, gx2, gx3, _⟩ := gx
  obtain ⟨_, _, gy2, gy3, _⟩ := gy
  obtain ⟨_, gx2, _⟩ := gx2
  obtain ⟨_, gy2, _⟩ := gy2
  unfold maxLen at gx2 gx3 gy2 gy3
  refine ⟨x.f2.f1.length + x.f3.length + y.f2.f1.length + y.f3.length + 7, ?_⟩
  generalize hk : x.f2.f1.length + x.f3.length + y.f2.f1.length + y.f3.length + 7 = k
  unfold laws_FnExactFirstDifference.f
  rcases sz_traits x.f0 x.f1 x.f2.f0 x.f2.f1 x.f3 1048576 (by omega) (by omega) gx2 gx3 with e | ⟨u, e, hu, hu0⟩
  · rw [e]; simp
  rw [e]
  simp only [Option.bind_some]
  rw [if_neg (by omega)]
  rcases sz_traits y.f0 y.f1 y.f2.f0 y.f2.f1 y.f3 u (by omega) (by omega) gy2 gy3 with e | ⟨v, e, hv, hv0⟩
  · rw [e]; simp
  rw [e]
  simp only [Option.bind_some]
  rw [if_neg (by omega)]
  rw [to_traits x.f0 x.f1 x.f2.f0 x.f2.f1 x.f3 (by omega) (by omega) k (by omega) (by omega), to_traits y.f0 y.f1 y.f2.f0 y.f2.f1 y.f3 (by omega) (by omega) k (by omega) (by omega)]
  simp only [Option.bind_some]
  unfold impl_FirstDifference.f spec_FirstDifference.f
  rw [first_loop]
  obtain ⟨r, e⟩ := spec_loop x.f0 x.f1 x.f2.f0 x.f2.f1 x.f3 y.f0 y.f1 y.f2.f0 y.f2.f1 y.f3 (by omega) (by omega) 4 k 1 (by omega) (by omega) (by omega)
  have e' : spec_FirstDifference.l0 k 1 x.f0 x.f1 x.f2.f0 x.f2.f1 x.f3 y.f0 y.f1 y.f2.f0 y.f2.f1 y.f3 = some r := e
  rw [e']
  simp only [Option.bind_some]
  rw [if_pos trivial, eq_traits _ _ _ _ _ (by omega) (by omega) k (by omega) (by omega)]
  simp only [Option.bind_some]
  rw [if_pos trivial, eq_traits _ _ _ _ _ (by omega) (by omega) k (by omega) (by omega)]
  simp

end Go.Proofs.Ytjgoclfocfiecaa.Pure
