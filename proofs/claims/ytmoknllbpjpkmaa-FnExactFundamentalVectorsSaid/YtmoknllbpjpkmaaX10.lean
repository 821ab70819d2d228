/- A part of the walk: what functions of the program do, over an abstract heap. -/
import Derived.Test.YtmoknllbpjpkmaaX3
namespace Go.Proofs.Ytmoknllbpjpkmaa.Zed
open Go TP
set_option linter.unusedVariables false
set_option linter.unusedSimpArgs false
set_option maxRecDepth 20000
/-! Rows and vectors: the plain law of angle structures. -/
def dotL (a b : List Int) : Nat → Int
  | 0 => 0
  | k + 1 => dotL a b k + a.getD k 0 * b.getD k 0
theorem mul_bd {x y A B : Int} (hx : -A ≤ x ∧ x ≤ A) (hy : -B ≤ y ∧ y ≤ B) : -(A * B) ≤ x * y ∧ x * y ≤ A * B := by
  have hA : 0 ≤ A := by omega
  have hB : 0 ≤ B := by omega
  have h1 : x.natAbs * y.natAbs ≤ A.natAbs * B.natAbs := Nat.mul_le_mul (by omega) (by omega)
  have h2 : (x * y).natAbs = x.natAbs * y.natAbs := Int.natAbs_mul x y
  have h3 : (A * B).natAbs = A.natAbs * B.natAbs := Int.natAbs_mul A B
  have h4 : 0 ≤ A * B := Int.mul_nonneg hA hB
  omega
theorem dotL_bd {a b : List Int} {A B : Int} (ha : ∀ j, -A ≤ a.getD j 0 ∧ a.getD j 0 ≤ A) (hb : ∀ j, -B ≤ b.getD j 0 ∧ b.getD j 0 ≤ B) : ∀ k : Nat, -(k * (A * B)) ≤ dotL a b k ∧ dotL a b k ≤ k * (A * B)
  | 0 => by simp [dotL]
  | k + 1 => by
    have ih := dotL_bd ha hb k
    have := mul_bd (ha k) (hb k)
    rw [dotL]
    have e : ((k + 1 : Nat) : Int) * (A * B) = k * (A * B) + A * B := by push_cast; rw [Int.add_mul, Int.one_mul]
    omega
theorem dotL_congr {a b a' b' : List Int} : ∀ k, (∀ j, j < k → a.getD j 0 = a'.getD j 0 ∧ b.getD j 0 = b'.getD j 0) → dotL a b k = dotL a' b' k
  | 0, _ => rfl
  | k + 1, h => by
    rw [dotL, dotL, dotL_congr k (fun j hj => h j (by omega)), (h k (by omega)).1, (h k (by omega)).2]
theorem spR_bd {T : List (List (Int × Int))} (h8 : T.length ≤ 8) : ∀ r ∈ spR T, ∀ j, 0 ≤ r.getD j 0 ∧ r.getD j 0 ≤ 48 := by
  have sb : ∀ (l : List Int) (a : Nat) (x : Int), (∀ j, 0 ≤ l.getD j 0 ∧ l.getD j 0 ≤ 48) → 0 ≤ x → x ≤ 48 → ∀ j, 0 ≤ (l.set a x).getD j 0 ∧ (l.set a x).getD j 0 ≤ 48 := by
    intro l a x h h0 h1 j
    by_cases ha : a < l.length
    · rw [getD_set _ _ _ _ ha]; split
      · exact ⟨h0, h1⟩
      · exact h j
    · rw [List.set_eq_of_length_le (by omega)]; exact h j
  intro r hr
  unfold spR at hr
  rcases List.mem_append.1 hr with hr | hr
  · obtain ⟨a, _, rfl⟩ := List.mem_map.1 hr
    unfold rA
    refine sb _ _ _ ?_ (by omega) (by omega)
    simp only [rowA]
    refine sb _ _ _ (sb _ _ _ (sb _ _ _ ?_ (by omega) (by omega)) (by omega) (by omega)) (by omega) (by omega)
    intro j; rw [getD_zero]; omega
  · obtain ⟨c, _, rfl⟩ := List.mem_map.1 hr
    unfold rE
    refine sb _ _ _ (fun j => ?_) (by omega) (by omega)
    have := rowI_bd (edgeL T) c T.length (6 * T.length) j
    omega
theorem flat_row {C : Nat} : ∀ {L : List (List Int)}, (∀ r ∈ L, r.length = C) → ∀ i, i < L.length → (L.flatten.drop (i * C)).take C = L.getD i []
  | [], _, i, hi => by simp at hi
  | x :: L, h, i, hi => by
    have hx := h x (List.mem_cons_self ..)
    cases i with
    | zero => rw [Nat.zero_mul, List.drop_zero, List.flatten_cons, List.take_append_of_le_length (by omega), List.take_of_length_le (by omega)]; rfl
    | succ i =>
      rw [List.flatten_cons, List.drop_append, show (i + 1) * C - x.length = i * C by rw [Nat.add_mul, hx]; omega, List.drop_of_length_le (by rw [Nat.add_mul, hx]; omega), List.nil_append, flat_row (fun r hr => h r (List.mem_cons_of_mem _ hr)) i (by simpa using hi)]
      rfl
/-- A valid angle structure, as the program tests it. -/
def AngI (T : List (List (Int × Int))) (v : List Int) (d : Int) : Prop := 1 ≤ d ∧ d ≤ 1000000 ∧ v.length = 3 * T.length ∧ (∀ j, j < v.length → 0 ≤ v.getD j 0 ∧ v.getD j 0 ≤ d) ∧ ∀ i, i < (spR T).length → dotL ((spR T).getD i []) (v ++ [-d]) (3 * T.length + 1) = 0
/-- .. as the specification does. -/
def AngS (T : List (List (Int × Int))) (v : List Int) (d : Int) : Prop := 1 ≤ d ∧ d ≤ 1000000 ∧ v.length = 3 * T.length ∧ (∀ j, j < v.length → 0 ≤ v.getD j 0 ∧ v.getD j 0 ≤ d) ∧ ∀ i, i < (spR T).length → dotL (((spR T).getD i []).take (3 * T.length)) v (3 * T.length) = ((spR T).getD i []).getD (3 * T.length) 0 * d
theorem ang_same (T : List (List (Int × Int))) (v : List Int) (d : Int) : AngI T v d ↔ AngS T v d := by
  unfold AngI AngS
  refine and_congr_right fun _ => and_congr_right fun _ => and_congr_right fun hl => and_congr_right fun _ => ?_
  refine forall_congr' fun i => forall_congr' fun hi => ?_
  have hr := spR_rows' T ((spR T).getD i []) (by simp [hi])
  generalize (spR T).getD i [] = r at *
  rw [dotL, show (v ++ [-d]).getD (3 * T.length) 0 = -d by rw [List.getD_eq_getElem?_getD, List.getElem?_append_right (by omega)]; simp [hl]]
  rw [dotL_congr (a := r) (a' := r.take (3 * T.length)) (b := v ++ [-d]) (b' := v) (3 * T.length) (fun j hj => ⟨by rw [List.getD_eq_getElem?_getD, List.getD_eq_getElem?_getD, List.getElem?_take_of_lt hj], by rw [List.getD_eq_getElem?_getD, List.getElem?_append_left (by omega), ← List.getD_eq_getElem?_getD]⟩)]
  rw [Int.mul_neg]
  omega
end Go.Proofs.Ytmoknllbpjpkmaa.Zed
