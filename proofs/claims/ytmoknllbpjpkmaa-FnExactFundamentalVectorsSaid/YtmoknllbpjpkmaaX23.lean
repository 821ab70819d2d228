/- A part of the walk: what functions of the program do, over an abstract heap. -/
import Derived.Test.YtmoknllbpjpkmaaX22
import Derived.Test.YtmoknllbpjpkmaaX4
import Derived.Test.YtmoknllbpjpkmaaW12
import Derived.Test.YtmoknllbpjpkmaaW8
import Derived.Test.YtmoknllbpjpkmaaX1
namespace Go.Proofs.Ytmoknllbpjpkmaa.Zed
open Go TP
set_option linter.unusedVariables false
set_option linter.unusedSimpArgs false
set_option maxRecDepth 20000
namespace tfX23
theorem tf : True := trivial
end tfX23
open tfX23

/-- The quadrilateral that does not meet an edge. -/
def btN (a b : Int) : Int := if a = 0 then b - 1 else if b = 0 then a - 1 else 5 - a - b
theorem quad_at : ∀ a b : Fin 4, a ≠ b → (if edgeN a b < 3 then edgeN a b else 5 - edgeN a b) = btN a b ∧ 0 ≤ edgeN a b ∧ edgeN a b ≤ 5 ∧ 0 ≤ btN a b ∧ btN a b ≤ 2 ∧ btN b a = btN a b := by decide +kernel
theorem quad_is (a b : Int) (ha0 : 0 ≤ a) (ha1 : a < 4) (hb0 : 0 ≤ b) (hb1 : b < 4) (hab : a ≠ b) : (if edgeN a b < 3 then edgeN a b else 5 - edgeN a b) = btN a b ∧ 0 ≤ edgeN a b ∧ edgeN a b ≤ 5 ∧ 0 ≤ btN a b ∧ btN a b ≤ 2 ∧ btN b a = btN a b := by
  obtain ⟨x, rfl⟩ : ∃ x : Nat, a = x := ⟨a.toNat, by omega⟩
  obtain ⟨y, rfl⟩ : ∃ y : Nat, b = y := ⟨b.toNat, by omega⟩
  have := quad_at ⟨x, by omega⟩ ⟨y, by omega⟩ (by simp; omega)
  exact this
theorem quad_z (a b : Int) (ha0 : 0 ≤ a) (ha1 : a < 4) (hb0 : 0 ≤ b) (hb1 : b < 4) (hab : a ≠ b) : ZCalls Try.prog 124 [I a, I b] (I (btN a b)) := by
  obtain ⟨e1, e2, e3, _⟩ := quad_is a b ha0 ha1 hb0 hb1 hab
  have he := edge_z a b ha0 ha1 hb0 hb1 hab
  rw [← e1]
  generalize edgeN a b = e at *
  by_cases h : e < 3
  · rw [if_pos h]
    refine ZCalls.body Try.func124 rfl Try.ntmps124 (rs := [.tmp 4]) rfl (by simp) rfl fun H Q hQ A hA => ?_
    have a0 := hA 0 _ _ rfl
    have a1 := hA 1 _ _ rfl
    clear hA
    repeat' first | refine rnY ?_ | (first | refine ZCalls.to (he) ?_ | refine ZCalls.tf (he) ?_) | with_reducible refine And.intro (fun hc => ?_) (fun hc => ?_) | fail
    exact hQ.out _ _ (fv) (by exact exY)
  · rw [if_neg h]
    have ho := opposite_z e e2 e3
    refine ZCalls.body Try.func124 rfl Try.ntmps124 (rs := [.tmp 4]) rfl (by simp) rfl fun H Q hQ A hA => ?_
    have a0 := hA 0 _ _ rfl
    have a1 := hA 1 _ _ rfl
    clear hA
    repeat' first | refine rnY ?_ | (first | refine ZCalls.to (he) ?_ | refine ZCalls.tf (he) ?_) | (first | refine ZCalls.to (ho) ?_ | refine ZCalls.tf (ho) ?_) | with_reducible refine And.intro (fun hc => ?_) (fun hc => ?_) | fail
    exact hQ.out _ _ (fv) (by exact exY)
def bump (L : List Int) (i d : Int) : List Int := L.set i.toNat (L.getD i.toNat 0 + d)
theorem bump_len (L : List Int) (i d : Int) : (bump L i d).length = L.length := by simp [bump]
def mRow (n a f : Nat) (t p c : Int) : List Int := bump (bump (bump (bump (List.replicate (7 * n) 0) (7 * a + c) 1) (7 * a + 4 + btN c f) 1) (7 * t + pm p c) (-1)) (7 * t + 4 + btN (pm p c) (pm p f)) (-1)
theorem mRow_len (n a f : Nat) (t p c : Int) : (mRow n a f t p c).length = 7 * n := by simp [mRow, bump_len]
def mF (n a f : Nat) (t p : Int) : List (List Int) := if 4 * (a : Int) + f > 4 * t + pm p f then [] else (othersL [(f : Int)]).map (mRow n a f t p)
def MSt (H0 H : Heap) (bm n : Nat) (A : List (List Int)) (z : Nat) : Prop := Ext H0 H ∧ H0.size ≤ bm ∧ bm < H.size ∧ bm ≠ z ∧
  ((A = [] ∧ H.get bm = .cells [I 0, I (7 * n), .slice none 0 0] 1 false) ∨ ∃ g, A ≠ [] ∧ bm < g ∧ g ≠ z ∧ g < H.size ∧ H.get bm = .cells [I A.length, I (7 * n), .slice (some ⟨g, 0, none⟩) A.flatten.length 0] 1 false ∧ H.get g = .cells (ints A.flatten) 1 false)
end Go.Proofs.Ytmoknllbpjpkmaa.Zed
