/- A part of the walk: what functions of the program do, over an abstract heap. -/
import Derived.Test.YtmoknllbpjpkmaaX26
import Derived.Test.YtmoknllbpjpkmaaW13
import Derived.Test.YtmoknllbpjpkmaaW17
namespace Go.Proofs.Ytmoknllbpjpkmaa.Zed
open Go TP
set_option linter.unusedVariables false
set_option linter.unusedSimpArgs false
set_option maxRecDepth 20000
namespace tfX27
theorem tf : (Try.prog.underlying 25 = some (.slice 2)) ∧ (el Try.prog 25 = some (none, 1)) ∧ (Try.prog.underlying 29 = some (.slice 102)) ∧ (el Try.prog 29 = some (none, 1)) ∧ (Try.prog.underlying 51 = some (.slice 25)) ∧ (el Try.prog 51 = some (none, 1)) ∧ (Try.prog.underlying 102 = some (.slice 107)) ∧ (el Try.prog 102 = some (none, 2)) ∧ (tk Try.prog 2 = some none) ∧ (tk Try.prog 25 = some none) ∧ (tk Try.prog 29 = some none) ∧ (tk Try.prog 31 = some (some 1)) ∧ (tk Try.prog 102 = some none) ∧ (tk Try.prog 107 = some (some 2)) ∧ (cz Try.prog 2 = some 1) ∧ (bz Try.prog 2 = some 8) ∧ (cz Try.prog 25 = some 1) ∧ (bz Try.prog 25 = some 24) ∧ (cz Try.prog 102 = some 1) ∧ (bz Try.prog 102 = some 24) ∧ (cz Try.prog 107 = some 2) ∧ (bz Try.prog 107 = some 16) ∧ (zr Try.prog 2 = some (.int .i64 0)) ∧ (zr Try.prog 25 = some (.slice none 0 0)) ∧ (zr Try.prog 102 = some (.slice none 0 0)) ∧ (zr Try.prog 107 = some (.agg #[.int .i64 0, .int .i64 0])) ∧ (fo Try.prog 31 0 = some (0, none)) ∧ (fo Try.prog 107 0 = some (0, none)) ∧ (fo Try.prog 107 1 = some (1, none)) := by
  refine ⟨?_, ?_, ?_, ?_, ?_, ?_, ?_, ?_, ?_, ?_, ?_, ?_, ?_, ?_, ?_, ?_, ?_, ?_, ?_, ?_, ?_, ?_, ?_, ?_, ?_, ?_, ?_, ?_, ?_⟩ <;> kernel_rfl
end tfX27
open tfX27

theorem l17Between_z (a b : Int) (ha0 : 0 ≤ a) (ha1 : a < 4) (hb0 : 0 ≤ b) (hb1 : b < 4) : ZCalls Try.prog 109 [I a, I b] (I (btN a b)) := by
  unfold btN
  by_cases h1 : a = 0
  · rw [if_pos h1]
    have hb : (a == 0) = true := by rw [beq_iff_eq]; exact h1
    clear h1
    refine ZCalls.body Try.func109 rfl Try.ntmps109 (rs := [.tmp 4]) rfl (by simp) rfl fun H Q hQ A hA => ?_
    have a0 := hA 0 _ _ rfl
    have a1 := hA 1 _ _ rfl
    clear hA
    repeat' first | refine rnY ?_ | with_reducible refine And.intro (fun hc => ?_) (fun hc => ?_) | fail
    exact hQ.out _ _ (fv) (by exact exY)
  · rw [if_neg h1]
    have hb : (a == 0) = false := by rw [beq_eq_false_iff_ne]; exact h1
    clear h1
    by_cases h2 : b = 0
    · rw [if_pos h2]
      have hb2 : (b == 0) = true := by rw [beq_iff_eq]; exact h2
      clear h2
      refine ZCalls.body Try.func109 rfl Try.ntmps109 (rs := [.tmp 4]) rfl (by simp) rfl fun H Q hQ A hA => ?_
      have a0 := hA 0 _ _ rfl
      have a1 := hA 1 _ _ rfl
      clear hA
      repeat' first | refine rnY ?_ | with_reducible refine And.intro (fun hc => ?_) (fun hc => ?_) | fail
      exact hQ.out _ _ (fv) (by exact exY)
    · rw [if_neg h2]
      have hb2 : (b == 0) = false := by rw [beq_eq_false_iff_ne]; exact h2
      clear h2
      refine ZCalls.body Try.func109 rfl Try.ntmps109 (rs := [.tmp 4]) rfl (by simp) rfl fun H Q hQ A hA => ?_
      have a0 := hA 0 _ _ rfl
      have a1 := hA 1 _ _ rfl
      clear hA
      repeat' first | refine rnY ?_ | with_reducible refine And.intro (fun hc => ?_) (fun hc => ?_) | fail
      exact hQ.out _ _ (fv) (by exact exY)
theorem l17Corner_z {T : List (List (Int × Int))} (h8 : T.length ≤ 8) (h4 : ∀ a, a < T.length → (T.getD a []).length = 4) {a f c : Nat} (ha : a < T.length) (hf : f < 4) (hc : c < 4) (hp : 0 ≤ ((T.getD a []).getD f (0, 0)).2 ∧ ((T.getD a []).getD f (0, 0)).2 < 24) :
    ZCalls Try.prog 133 [zT T, I a, I f, I c] (.tuple #[I ((T.getD a []).getD f (0, 0)).1, I (pm ((T.getD a []).getD f (0, 0)).2 f), I (pm ((T.getD a []).getD f (0, 0)).2 c)]) := by
  have h4a := h4 a ha
  have hg := l06At_z ((T.getD a []).getD f (0, 0)).2 f hp.1 hp.2 (by omega) (by omega)
  have hd := l06At_z ((T.getD a []).getD f (0, 0)).2 c hp.1 hp.2 (by omega) (by omega)
  refine ZCalls.body Try.func133 rfl Try.ntmps133 (rs := [.tmp 8, .tmp 9, .tmp 10]) rfl (by simp) rfl fun H Q hQ A hA => ?_
  have a0 := hA 0 _ _ rfl
  have a1 := hA 1 _ _ rfl
  have a2 := hA 2 _ _ rfl
  have a3 := hA 3 _ _ rfl
  clear hA
  repeat' first | refine rnY ?_ | with_reducible refine And.intro (fun hc => ?_) (fun hc => ?_) | fail
  refine AWp.zreg [(0, none), (1, none), (2, none), (3, none), (4, none), (5, none), (6, none), (7, none), (8, none), (9, none), (10, none), (11, none), (12, none)] mixed (by kernel_rfl) ?_
  repeat' first | refine rzY ?_ | (first | refine ZCalls.to (hg) ?_ | refine ZCalls.tf (hg) ?_) | (first | refine ZCalls.to (hd) ?_ | refine ZCalls.tf (hd) ?_) | fail
  repeat' first | refine rnY ?_ | with_reducible refine And.intro (fun hc => ?_) (fun hc => ?_) | fail
  exact hQ.out _ _ (.cl (Cl.tuple (l := [_, _, _]) (Cl.cons (Cl.int _ _) (Cl.cons (Cl.int _ _) (Cl.cons (Cl.int _ _) Cl.nil))))) (by exact exY)
def prC (a f : Nat) (x : Int × Int) : Prop := x.1 > a ∨ (x.1 = a ∧ pm x.2 f > f)
instance (a f : Nat) (x : Int × Int) : Decidable (prC a f x) := by unfold prC; infer_instance
def prF (acc : List (List Int)) (a : Nat) (row : List (Int × Int)) : Nat → List (List Int)
  | 0 => acc
  | f + 1 => if prC a f (row.getD f (0, 0)) then prF acc a row f ++ [[(a : Int), (f : Int)]] else prF acc a row f
/-- The glued faces that come first in their pairs. -/
def prT (T : List (List (Int × Int))) : Nat → List (List Int)
  | 0 => []
  | a + 1 => prF (prT T a) a (T.getD a []) 4
theorem prF_len (acc : List (List Int)) (a : Nat) (row : List (Int × Int)) : ∀ f, (prF acc a row f).length ≤ acc.length + f
  | 0 => Nat.le_refl _
  | f + 1 => by
    have := prF_len acc a row f
    unfold prF
    split
    · rw [List.length_append]; simp only [List.length_cons, List.length_nil]; omega
    · omega
theorem prT_len (T : List (List (Int × Int))) : ∀ a, (prT T a).length ≤ 4 * a
  | 0 => Nat.le_refl _
  | a + 1 => by
    have h1 := prT_len T a
    have h2 := prF_len (prT T a) a (T.getD a []) 4
    show (prF (prT T a) a (T.getD a []) 4).length ≤ _
    omega
set_option maxHeartbeats 4000000 in
theorem l17Pairs_z {T : List (List (Int × Int))} (hF : Fine T) : ZCalls Try.prog 132 [zT T] (zII (prT T T.length)) := by
  have h8 := hF.1
  have h4 : ∀ a, a < T.length → (T.getD a []).length = 4 := fun a ha => (hF.2 a ha).1
  refine ZCalls.body Try.func132 rfl Try.ntmps132 (rs := [.tmp 2]) rfl (by simp) rfl fun H Q hQ A hA => ?_
  have a0 := hA 0 _ _ rfl
  clear hA
  repeat' first | refine rnY ?_ | with_reducible refine And.intro (fun hc => ?_) (fun hc => ?_) | fail
  refine AWp.growE (t := 3) 1 (by decide) (by exact ivY) ?_
  refine AWp.cut (fun Ac hAc => ?_)
  have c1 := gtY (t := 1) hAc
  have c3 := gtY (t := 3) hAc
  have c4 := gtY (t := 4) hAc
  clear a0
  refine AWp.loop (fun A' H' => ∃ (a : Nat), Ag [5, 6, 8, 9, 10, 11, 12, 13, 14, 15, 16, 17, 18, 19, 20, 21, 22, 23, 24, 25, 26, 27, 28, 29, 30, 31, 32, 33, 34, 35, 36, 37, 38, 39, 40, 41, 42, 43, 44, 45, 46, 47, 48, 49] A' (put (put Ac (some 3) (GZ (H.size + 1) 1 (prT T a).length ((prT T a).map fun r => zI r))) (some 4) (I a)) ∧ a ≤ T.length ∧ Ext ((H.push (.cells [] 1 false)).push (.tok (prT T a).length 1)) H') (fun A' _ => T.length - (intV (A' 4)).toNat) ?_ ?_
  · have e0 : prT T 0 = [] := rfl
    exact ⟨0, agY, by omega, by exact exY⟩
  · rintro A1 H1 ⟨a, hA, ha, hx⟩
    have d1 := gdY (t := 1) hA
    have d3 := gdY (t := 3) hA
    have d4 := gdY (t := 4) hA
    have hxg := hx.get; have hxs := hx.size; (try simp only [nx] at hxs)
    by_cases hlt : a < T.length
    · have hs1 : prT T (a + 1) = prF (prT T a) a (T.getD a []) 4 := rfl
      have hbl := prT_len T a
      have h4a := h4 a hlt
      have hfi := (hF.2 a hlt).2
      generalize prT T a = acc at hx hs1 hbl d3 hxg hA
      repeat' first | refine rnY ?_ | (first | refine ZCalls.to (l07Tets_z _ _ _) ?_ | refine ZCalls.tf (l07Tets_z _ _ _) ?_) | with_reducible refine And.intro (fun hc => ?_) (fun hc => ?_) | fail
      refine AWp.cut (fun Ae hAe => ?_)
      have e1 := gtY (t := 1) hAe
      have e4 := gtY (t := 4) hAe
      have e3 := gtY (t := 3) hAe
      have e5 := gtY (t := 5) hAe
      refine AWp.loop (fun A' H' => ∃ (f : Nat), Ag [6, 14, 15, 16, 17, 18, 19, 20, 21, 22, 23, 24, 25, 26, 27, 28, 29, 30, 31, 32, 33, 34, 35, 36, 37, 38, 39, 40, 41, 42, 43, 44, 45, 46, 47, 48, 49] A' (put (put Ae (some 3) (GZ (H.size + 1) 1 (prF acc a (T.getD a []) f).length ((prF acc a (T.getD a []) f).map fun r => zI r))) (some 5) (I f)) ∧ f ≤ 4 ∧ Ext ((H.push (.cells [] 1 false)).push (.tok (prF acc a (T.getD a []) f).length 1)) H') (fun A' _ => 4 - (intV (A' 5)).toNat) ?_ ?_
      · have e0 : prF acc a (T.getD a []) 0 = acc := rfl
        exact ⟨0, agY, by omega, by rw [e0]; exact hx⟩
      · clear hx hxg hxs
        rintro A2 H2 ⟨f, hB, hf, hx⟩
        have f1 := gdY (t := 1) hB
        have f3 := gdY (t := 3) hB
        have f4 := gdY (t := 4) hB
        have f5 := gdY (t := 5) hB
        have hxg := hx.get; have hxs := hx.size; (try simp only [nx] at hxs)
        by_cases hff : f < 4
        · have hfl := prF_len acc a (T.getD a []) f
          have hs2 : prF acc a (T.getD a []) (f + 1) = if prC a f ((T.getD a []).getD f (0, 0)) then prF acc a (T.getD a []) f ++ [[(a : Int), (f : Int)]] else prF acc a (T.getD a []) f := rfl
          have hfine := hfi f hff
          generalize prF acc a (T.getD a []) f = R at hx f3 hxg hs2 hfl hB
          by_cases c1 : ((T.getD a []).getD f (0, 0)).1 > (a : Int)
          · rw [if_pos (show prC a f _ from .inl c1)] at hs2
            clear hfine hfi
            repeat' first | refine rnY ?_ | with_reducible refine And.intro (fun hc => ?_) (fun hc => ?_) | fail
            exact ⟨⟨f + 1, agY, by omega, by exact exY⟩, by exact ivY⟩
          · by_cases c2 : ((T.getD a []).getD f (0, 0)).1 = (a : Int)
            · obtain ⟨_, q2, q3⟩ := hfine (by omega)
              have hat := l06At_z ((T.getD a []).getD f (0, 0)).2 f q2 q3 (by omega) (by omega)
              have c2b : (((T.getD a []).getD f (0, 0)).1 == (a : Int)) = true := by rw [beq_iff_eq]; exact c2
              by_cases c3 : pm ((T.getD a []).getD f (0, 0)).2 f > (f : Int)
              · rw [if_pos (show prC a f _ from .inr ⟨c2, c3⟩)] at hs2
                clear hfi hfine c2
                repeat' first | refine rnY ?_ | (first | refine ZCalls.to (hat) ?_ | refine ZCalls.tf (hat) ?_) | with_reducible refine And.intro (fun hc => ?_) (fun hc => ?_) | fail
                exact ⟨⟨f + 1, agY, by omega, by exact exY⟩, by exact ivY⟩
              · rw [if_neg (show ¬ prC a f _ from fun h => h.elim c1 fun h => c3 h.2)] at hs2
                clear hfi hfine c2
                repeat' first | refine rnY ?_ | (first | refine ZCalls.to (hat) ?_ | refine ZCalls.tf (hat) ?_) | with_reducible refine And.intro (fun hc => ?_) (fun hc => ?_) | fail
                exact ⟨⟨f + 1, agY, by omega, by exact exY⟩, by exact ivY⟩
            · have c2b : (((T.getD a []).getD f (0, 0)).1 == (a : Int)) = false := by rw [beq_eq_false_iff_ne]; exact c2
              rw [if_neg (show ¬ prC a f _ from fun h => h.elim c1 fun h => c2 h.1)] at hs2
              clear hfi hfine c2
              repeat' first | refine rnY ?_ | with_reducible refine And.intro (fun hc => ?_) (fun hc => ?_) | fail
              exact ⟨⟨f + 1, agY, by omega, by exact exY⟩, by exact ivY⟩
        · obtain rfl : f = 4 := by omega
          repeat' first | refine rnY ?_ | with_reducible refine And.intro (fun hc => ?_) (fun hc => ?_) | fail
          exact ⟨⟨a + 1, agY, by omega, by rw [hs1]; (exact exY)⟩, by exact ivY⟩
    · obtain rfl : a = T.length := by omega
      repeat' first | refine rnY ?_ | (first | refine ZCalls.to (l07Tets_z _ _ _) ?_ | refine ZCalls.tf (l07Tets_z _ _ _) ?_) | with_reducible refine And.intro (fun hc => ?_) (fun hc => ?_) | fail
      exact hQ.out _ _ (fv) (by exact exY)
end Go.Proofs.Ytmoknllbpjpkmaa.Zed
