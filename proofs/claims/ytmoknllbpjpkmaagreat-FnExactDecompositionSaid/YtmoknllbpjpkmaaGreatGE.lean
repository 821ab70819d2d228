/- A part of the walk: what functions of the program do, over an abstract heap. -/
import Derived.Test.YtmoknllbpjpkmaaGreatGD
namespace Go.Proofs.YtmoknllbpjpkmaaGreat.Zed
open Go TP
set_option linter.unusedVariables false
set_option linter.unusedSimpArgs false
set_option maxRecDepth 20000
namespace tfY15
theorem tf : (Tryz.prog.underlying 25 = some (.slice 2)) ∧ (el Tryz.prog 25 = some (none, 1)) ∧ (tk Tryz.prog 2 = some none) ∧ (cz Tryz.prog 2 = some 1) ∧ (bz Tryz.prog 2 = some 8) ∧ (zr Tryz.prog 2 = some (.int .i64 0)) := by
  refine ⟨?_, ?_, ?_, ?_, ?_, ?_⟩ <;> kernel_rfl
end tfY15
open tfY15

theorem markInt64S_b {H : Heap} {lo hi : Nat} {v : Value} {l : List Int} {k : Int} (hO : OwnB lo hi H [v] [zI l]) (hn : l.length ≤ 4000000000) (h0 : 0 ≤ k) (hk : k ≤ 4611686018427387904) :
    ACalls Tryz.prog 16 [v, I k] H fun u H' => u = I (k + l.length) ∧ ExtR lo hi H H' ∧ OwnB lo hi H' [v] [zI (mkI k l.length)] := by
  obtain ⟨ks, hL, hb⟩ := hO.in
  refine (markInt64S_m hL hn h0 hk).mono ?_
  rintro u H' ⟨rfl, q1, q2, ks', q3, q4⟩
  refine ⟨rfl, q1.toR hb, ks', q3, fun k hk => ?_⟩
  obtain ⟨k', r1, r2⟩ := q4.mem k hk
  rw [← r2]; exact (hb k' r1).2
theorem tri_shape {lo hi : Nat} {H : Heap} {u : Value} {T : List (List (Int × Int))} (h : OwnB lo hi H [u] [zT T]) : ∃ v, u = .agg #[v] ∧ v.oneCell' = true := by
  obtain ⟨l, rfl, h1⟩ := OwnB.agg_inv (l' := [zL zP T]) h
  obtain ⟨v, l4, rfl, h4, h5⟩ := h1.cons_inv
  obtain rfl := h5.nil_inv
  exact ⟨v, rfl, h4.one⟩
/-- A value told as r, its blocks in S. -/
def OwnS (S : Nat → Prop) (H : Heap) (v r : Value) : Prop := ∃ ks, OwnL false 0 H [v] [r] ks ∧ ∀ k ∈ ks, S k.1
theorem OwnS.keep {S : Nat → Prop} {H H' : Heap} {v r : Value} (h : OwnS S H v r) (hk : ∀ b, S b → H'.get b = H.get b) : OwnS S H' v r := by
  obtain ⟨ks, a, b⟩ := h
  exact ⟨ks, a.keep (.inl rfl) (Nat.le_refl _) fun k hk' => by rw [hk _ (b k hk')]; exact (a.get k hk').2, b⟩
structure Own2 (lo hi : Nat) (S1 S2 : Nat → Prop) (H : Heap) (v1 v2 : Value) (l1 l2 : List Int) : Prop where
  h1 : OwnS S1 H v1 (zI l1)
  h2 : OwnS S2 H v2 (zI l2)
  r : ∀ b, S1 b ∨ S2 b → lo ≤ b ∧ b < hi
  d12 : ∀ b, S1 b → ¬ S2 b
section
variable {lo hi lo' hi' : Nat} {S1 S2 : Nat → Prop} {H H' : Heap} {v1 v2 u : Value} {l1 l2 : List Int} {k : Int}
theorem Own2.keep (h : Own2 lo hi S1 S2 H v1 v2 l1 l2) (hk : ∀ b, lo ≤ b → b < hi → H'.get b = H.get b) : Own2 lo hi S1 S2 H' v1 v2 l1 l2 :=
  ⟨h.h1.keep fun b hb => hk b (h.r b (.inl hb)).1 (h.r b (.inl hb)).2, h.h2.keep fun b hb => hk b (h.r b (.inr hb)).1 (h.r b (.inr hb)).2, h.r, h.d12⟩
theorem Own2.ext (h : Own2 lo hi S1 S2 H v1 v2 l1 l2) (hs : hi ≤ H.size) (k : Ext H H') : Own2 lo hi S1 S2 H' v1 v2 l1 l2 := h.keep fun b _ hb => k.get b (by omega)
end
end Go.Proofs.YtmoknllbpjpkmaaGreat.Zed
namespace Go.Proofs.YtmoknllbpjpkmaaGreat.Zed
open Go TP
set_option linter.unusedVariables false
set_option linter.unusedSimpArgs false
set_option maxRecDepth 20000
namespace tfY19
theorem tf : True := trivial
end tfY19
open tfY19

theorem ii_shape {lo hi : Nat} {H : Heap} {u : Value} {c : Int} {L : List (List Int)} (h : OwnB lo hi H [u] [iiV L c]) : ∃ v, u = .tuple #[v, I c] ∧ OwnB lo hi H [v] [zII L] ∧ v.oneCell' = true := by
  obtain ⟨l, rfl, h1⟩ := OwnB.tup_inv (l' := [zII L, I c]) h
  obtain ⟨u, l2, rfl, h2, h3⟩ := h1.cons_inv
  obtain ⟨l3, rfl, h4⟩ := OwnB.flat_inv (r := I c) rfl h3
  obtain rfl := h4.nil_inv
  exact ⟨u, rfl, h2, h2.one⟩
end Go.Proofs.YtmoknllbpjpkmaaGreat.Zed
