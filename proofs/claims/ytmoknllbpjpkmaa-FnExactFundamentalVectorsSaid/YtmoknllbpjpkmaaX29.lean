/- A part of the walk: what functions of the program do, over an abstract heap. -/
import Derived.Test.YtmoknllbpjpkmaaX28
namespace Go.Proofs.Ytmoknllbpjpkmaa.Zed
open Go TP
set_option linter.unusedVariables false
set_option linter.unusedSimpArgs false
set_option maxRecDepth 20000
/-- The rows of a pair. -/
def prR (T : List (List (Int × Int))) (r : List Int) : List (List Int) := srC T.length (r.getD 0 0).toNat (r.getD 1 0).toNat ((T.getD (r.getD 0 0).toNat []).getD (r.getD 1 0).toNat (0, 0)) 4
theorem srP_is (T : List (List (Int × Int))) (P : List (List Int)) : ∀ i, i ≤ P.length → srP T P i = (P.take i).flatMap (prR T)
  | 0, _ => by simp [srP]
  | i + 1, h => by
    have ih := srP_is T P i (by omega)
    have e : P.getD i [] = P[i] := by simp [show i < P.length by omega]
    rw [List.take_succ_eq_append_getElem (by omega), List.flatMap_append, ← ih, List.flatMap_singleton]
    show srP T P i ++ prR T (P.getD i []) = _
    rw [e]
theorem srC_is {n a f : Nat} (hf : f < 4) (t p : Int) : srC n a f (t, p) 4 = (othersL [(f : Int)]).map (mRow n a f t p) := by
  have : f = 0 ∨ f = 1 ∨ f = 2 ∨ f = 3 := by omega
  rcases this with rfl | rfl | rfl | rfl <;> rfl
theorem prF_fm {T : List (List (Int × Int))} {a : Nat} (hg : ∀ f, f < 4 → 0 ≤ ((T.getD a []).getD f (0, 0)).1 → 0 ≤ pm ((T.getD a []).getD f (0, 0)).2 f ∧ pm ((T.getD a []).getD f (0, 0)).2 f ≤ 3 ∧ ¬ (((T.getD a []).getD f (0, 0)).1 = a ∧ pm ((T.getD a []).getD f (0, 0)).2 f = f)) (acc : List (List Int)) :
    ∀ f, f ≤ 4 → (prF acc a (T.getD a []) f).flatMap (prR T) = acc.flatMap (prR T) ++ mFs T.length a (T.getD a []) f
  | 0, _ => by simp [prF, mFs]
  | f + 1, h => by
    have ih := prF_fm hg acc f (by omega)
    have hgf := hg f (by omega)
    unfold prF mFs
    have hR : prR T [(a : Int), (f : Int)] = srC T.length a f ((T.getD a []).getD f (0, 0)) 4 := rfl
    have hS := srC_is (n := T.length) (a := a) (show f < 4 by omega) ((T.getD a []).getD f (0, 0)).1 ((T.getD a []).getD f (0, 0)).2
    generalize (T.getD a []).getD f (0, 0) = x at *
    obtain ⟨t, p⟩ := x
    simp only at hgf hS ⊢
    have hd : prC a f (t, p) ↔ (t > (a : Int) ∨ (t = (a : Int) ∧ pm p f > f)) := Iff.rfl
    unfold mF
    by_cases h0 : t < 0
    · rw [if_neg (fun q => by have := hd.1 q; omega), if_pos h0, List.append_nil, ih]
    · rw [if_neg h0]
      obtain ⟨g1, g2, g3⟩ := hgf (by omega)
      by_cases hc : prC a f (t, p)
      · have hc' := hd.1 hc
        rw [if_pos hc, if_neg (by omega), List.flatMap_append, ih, List.append_assoc, List.flatMap_singleton, hR, hS]
      · have hc' : ¬ (t > (a : Int) ∨ (t = (a : Int) ∧ pm p f > f)) := fun q => hc (hd.2 q)
        rw [if_neg hc, if_pos (by omega), List.append_nil, ih]
/-- The two sides have the same rows. -/
theorem rows_same {T : List (List (Int × Int))} (hT : IsTri T) : srP T (prT T T.length) (prT T T.length).length = mmR T := by
  rw [srP_is T _ _ (Nat.le_refl _), List.take_length]
  have key : ∀ a, a ≤ T.length → (prT T a).flatMap (prR T) = mTs T.length T a := by
    intro a
    induction a with
    | zero => intro _; simp [prT, mTs]
    | succ a ih =>
      intro h
      show (prF (prT T a) a (T.getD a []) 4).flatMap (prR T) = mTs T.length T a ++ mFs T.length a (T.getD a []) 4
      rw [← ih (by omega)]
      refine prF_fm (fun f hf h0 => ?_) _ 4 (Nat.le_refl _)
      have hg := hT.2.2 a (by omega) f hf
      rw [gd_def] at hg
      change 0 ≤ (fc T a f).1 at h0
      show 0 ≤ pm (fc T a f).2 f ∧ pm (fc T a f).2 f ≤ 3 ∧ ¬ ((fc T a f).1 = a ∧ pm (fc T a f).2 f = f)
      rw [if_neg (by omega)] at hg
      obtain ⟨_, ⟨p1, p2⟩, _, p3⟩ := hg
      have := pm_bd (fc T a f).2 f p1 (by omega) (by omega) (by omega)
      refine ⟨by omega, by omega, fun q => ?_⟩
      rcases p3 with p3 | p3
      · exact p3 q.1
      · exact p3 q.2
  exact key _ (Nat.le_refl _)
end Go.Proofs.Ytmoknllbpjpkmaa.Zed
