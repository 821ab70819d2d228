/- A part of the walk: what functions of the program do, over an abstract heap. -/
import Derived.Test.YtmoknllbpjpkmaaW20
namespace Go.Proofs.Ytmoknllbpjpkmaa.Zed
open Go TP
set_option linter.unusedVariables false
set_option linter.unusedSimpArgs false
set_option maxRecDepth 20000
theorem listTo_mem (l : List Bool) (j : Nat) : ∀ n, ((j : Int) ∈ listTo l n ↔ j < n ∧ l.getD j false = true)
  | 0 => by simp [listTo]
  | n + 1 => by
    have ih := listTo_mem l j n
    rw [listTo]
    split
    · rename_i h
      rw [List.mem_append, ih, List.mem_singleton]
      constructor
      · rintro (⟨h1, h2⟩ | h1)
        · exact ⟨by omega, h2⟩
        · obtain rfl : j = n := by omega
          exact ⟨by omega, h⟩
      · rintro ⟨h1, h2⟩
        rcases Nat.lt_succ_iff_lt_or_eq.1 h1 with h3 | rfl
        · exact .inl ⟨h3, h2⟩
        · exact .inr rfl
    · rename_i h
      rw [ih]
      constructor
      · rintro ⟨h1, h2⟩; exact ⟨by omega, h2⟩
      · rintro ⟨h1, h2⟩
        rcases Nat.lt_succ_iff_lt_or_eq.1 h1 with h3 | rfl
        · exact ⟨h3, h2⟩
        · exact absurd h2 h
theorem inL_rwN (L : List Int) (b : List Bool) (N : Nat) (h : ∀ j, j < N → ((j : Int) ∈ L ↔ b.getD j false = true)) : ∀ k, k ≤ N → (inL L k).length = rwN b k
  | 0, _ => rfl
  | k + 1, hk => by
    have ih := inL_rwN L b N h k (by omega)
    have hh := h k (by omega)
    unfold inL rwN
    by_cases e : b.getD k false = true
    · rw [if_pos e, if_pos (hh.2 e), ih]
    · rw [if_neg e, if_neg (fun q => e (hh.1 q)), List.length_append, ih]; rfl
theorem seI_mem (T : List (List (Int × Int))) (acc : List Int) (a f : Nat) (x : Int) : ∀ m, (x ∈ seI T acc a f m ↔ x ∈ acc ∨ ∃ e : Nat, e < m ∧ (endA e ≠ f ∧ endB e ≠ f) ∧ x = (edgeL T).getD (a * 6 + e) 0)
  | 0 => by simp [seI]
  | m + 1 => by
    have ih := seI_mem T acc a f x m
    rw [seI]
    split
    · rename_i h
      rw [List.mem_append, ih, List.mem_singleton]
      constructor
      · rintro ((h1 | ⟨e, h1, h2, h3⟩) | h1)
        · exact .inl h1
        · exact .inr ⟨e, by omega, h2, h3⟩
        · exact .inr ⟨m, by omega, h, h1⟩
      · rintro (h1 | ⟨e, h1, h2, h3⟩)
        · exact .inl (.inl h1)
        · rcases Nat.lt_succ_iff_lt_or_eq.1 h1 with h4 | rfl
          · exact .inl (.inr ⟨e, h4, h2, h3⟩)
          · exact .inr h3
    · rename_i h
      rw [ih]
      constructor
      · rintro (h1 | ⟨e, h1, h2, h3⟩)
        · exact .inl h1
        · exact .inr ⟨e, by omega, h2, h3⟩
      · rintro (h1 | ⟨e, h1, h2, h3⟩)
        · exact .inl h1
        · rcases Nat.lt_succ_iff_lt_or_eq.1 h1 with h4 | rfl
          · exact .inr ⟨e, h4, h2, h3⟩
          · exact absurd h2 h
theorem sbE_mem (T : List (List (Int × Int))) (P : List (List Int)) (x : Int) : ∀ m, (x ∈ sbE T P m ↔ ∃ j, j < m ∧ ∃ e : Nat, e < 6 ∧ (endA e ≠ ((P.getD j []).getD 1 0).toNat ∧ endB e ≠ ((P.getD j []).getD 1 0).toNat) ∧ x = (edgeL T).getD (((P.getD j []).getD 0 0).toNat * 6 + e) 0)
  | 0 => by simp [sbE]
  | m + 1 => by
    rw [sbE, seI_mem, sbE_mem T P x m]
    constructor
    · rintro (⟨j, h1, h2⟩ | h2)
      · exact ⟨j, by omega, h2⟩
      · exact ⟨m, by omega, h2⟩
    · rintro ⟨j, h1, h2⟩
      rcases Nat.lt_succ_iff_lt_or_eq.1 h1 with h3 | rfl
      · exact .inl ⟨j, h3, h2⟩
      · exact .inr h2
theorem sE_iff (T : List (List (Int × Int))) (x : Int) : x ∈ sbE T (bfT T T.length) (bfT T T.length).length ↔ ∃ a f e : Nat, a < T.length ∧ f < 4 ∧ (fc T a f).1 < 0 ∧ e < 6 ∧ (endA e ≠ f ∧ endB e ≠ f) ∧ x = (edgeL T).getD (a * 6 + e) 0 := by
  rw [sbE_mem]
  constructor
  · rintro ⟨j, hj, e, he, h1, h2⟩
    obtain ⟨a, f, hp, ha, hf, hn⟩ := bfT_at hj
    rw [hp] at h1 h2
    exact ⟨a, f, e, ha, hf, hn, he, h1, h2⟩
  · rintro ⟨a, f, e, ha, hf, hn, he, h1, h2⟩
    have hm := (bfT_mem (T := T) (x := [(a : Int), (f : Int)]) T.length).2 ⟨a, f, ha, hf, hn, rfl⟩
    obtain ⟨j, hj, hx⟩ := List.getElem_of_mem hm
    have hg : (bfT T T.length).getD j [] = [(a : Int), (f : Int)] := by simp [hj, hx]
    refine ⟨j, hj, e, he, ?_, ?_⟩
    · rw [hg]; exact h1
    · rw [hg]; exact h2
theorem beI_mem (T : List (List (Int × Int))) (acc : List Int) (i : Nat) (x : Int) : ∀ m, (x ∈ beI T acc i m ↔ x ∈ acc ∨ ∃ k, k < m ∧ (fc T (i / 6) ((othersL [endA ((i % 6 : Nat) : Int), endB ((i % 6 : Nat) : Int)]).getD k 0).toNat).1 < 0 ∧ x = (edgeL T).getD i 0)
  | 0 => by simp [beI]
  | m + 1 => by
    have ih := beI_mem T acc i x m
    rw [beI]
    split
    · rename_i h
      rw [List.mem_append, ih, List.mem_singleton]
      constructor
      · rintro ((h1 | ⟨e, h1, h2, h3⟩) | h1)
        · exact .inl h1
        · exact .inr ⟨e, by omega, h2, h3⟩
        · exact .inr ⟨m, by omega, h, h1⟩
      · rintro (h1 | ⟨e, h1, h2, h3⟩)
        · exact .inl (.inl h1)
        · exact .inr h3
    · rename_i h
      rw [ih]
      constructor
      · rintro (h1 | ⟨e, h1, h2, h3⟩)
        · exact .inl h1
        · exact .inr ⟨e, by omega, h2, h3⟩
      · rintro (h1 | ⟨e, h1, h2, h3⟩)
        · exact .inl h1
        · rcases Nat.lt_succ_iff_lt_or_eq.1 h1 with h4 | rfl
          · exact .inr ⟨e, h4, h2, h3⟩
          · exact absurd h2 h
theorem beO_mem (T : List (List (Int × Int))) (x : Int) : ∀ m, (x ∈ beO T m ↔ ∃ i, i < m ∧ ∃ k, k < 2 ∧ (fc T (i / 6) ((othersL [endA ((i % 6 : Nat) : Int), endB ((i % 6 : Nat) : Int)]).getD k 0).toNat).1 < 0 ∧ x = (edgeL T).getD i 0)
  | 0 => by simp [beO]
  | m + 1 => by
    rw [beO, beI_mem, beO_mem T x m]
    constructor
    · rintro (⟨j, h1, h2⟩ | h2)
      · exact ⟨j, by omega, h2⟩
      · exact ⟨m, by omega, h2⟩
    · rintro ⟨j, h1, h2⟩
      rcases Nat.lt_succ_iff_lt_or_eq.1 h1 with h3 | rfl
      · exact .inl ⟨j, h3, h2⟩
      · exact .inr h2
theorem same_edges (T : List (List (Int × Int))) (x : Int) : x ∈ sbE T (bfT T T.length) (bfT T T.length).length ↔ x ∈ beO T (6 * T.length) := by
  rw [sE_iff, beO_mem]
  constructor
  · rintro ⟨a, f, e, ha, hf, hn, he, h1, h2⟩
    refine ⟨a * 6 + e, by omega, ?_⟩
    rw [show (a * 6 + e) / 6 = a by omega, show (a * 6 + e) % 6 = e by omega]
    have := ((others2_bd ⟨e, he⟩).2.2.2 ⟨f, hf⟩).1 h1
    dsimp only at this
    rcases this with h | h
    · exact ⟨0, by omega, by rw [h]; exact hn, h2⟩
    · exact ⟨1, by omega, by rw [h]; exact hn, h2⟩
  · rintro ⟨i, hi, k, hk, hn, h2⟩
    obtain ⟨o1, o2, o3, o4⟩ := others2_bd ⟨i % 6, by omega⟩
    dsimp only at o1 o2 o3 o4
    obtain ⟨q1, q2⟩ := o2 ⟨k, hk⟩
    dsimp only at q1 q2
    refine ⟨i / 6, _, i % 6, by omega, q2, hn, by omega, (o4 ⟨_, q2⟩).2 ?_, by rw [show i / 6 * 6 + i % 6 = i by omega]; exact h2⟩
    dsimp only
    have : k = 0 ∨ k = 1 := by omega
    rcases this with rfl | rfl
    · exact .inl q1
    · exact .inr q1
theorem def_same {T : List (List (Int × Int))} : defS T = defI T := by
  unfold defS defI
  split
  · have h := inL_rwN (sE T) (bdB T) (nE T) (fun j hj => by
      unfold sE bdB
      rw [listTo_mem, mkB_get _ _ _ hj, mkB_get _ _ _ hj, decide_eq_true_iff, decide_eq_true_iff, same_edges]
      exact ⟨fun q => q.2, fun q => ⟨hj, q⟩⟩) (nE T) (Nat.le_refl _)
    rw [h]
    unfold amR
    push_cast
    omega
  · rfl
end Go.Proofs.Ytmoknllbpjpkmaa.Zed
