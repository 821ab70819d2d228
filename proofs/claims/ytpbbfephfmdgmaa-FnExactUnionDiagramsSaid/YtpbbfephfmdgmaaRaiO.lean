/- A part of the walk: what functions of the program do, over an abstract heap. -/
import Derived.Test.YtpbbfephfmdgmaaRaiB
namespace Go.Proofs.Ytpbbfephfmdgmaa.Rai
open Go
set_option linter.unusedVariables false
set_option linter.unusedSimpArgs false
/-! ### Lists of one's own that grow -/
/-- The cells L, in the block g (or no block: the nil slice). -/
def OL (H : Heap) (v : Value) (g : Nat) (L : List Value) : Prop := (v = .slice none 0 0 ∧ L = []) ∨ ∃ c, v = .slice (some ⟨g, 0, none⟩) L.length c ∧ g < H.size ∧ H.get g = .cells L 1 false ∧ ((c = 0 ∧ L ≠ []) ∨ (c = 1 ∧ L = []))
theorem OL.nil {H : Heap} {g : Nat} : OL H (.slice none 0 0) g [] := .inl ⟨rfl, rfl⟩
theorem OL.keep {H H' : Heap} {v : Value} {g : Nat} {L : List Value} (h : OL H v g L) (hs : H.size ≤ H'.size) (hk : v = .slice none 0 0 ∨ (g < H.size → H'.get g = H.get g)) : OL H' v g L := by
  rcases h with ⟨rfl, rfl⟩ | ⟨c, rfl, h1, h2, h3⟩
  · exact .inl ⟨rfl, rfl⟩
  · rcases hk with hk | hk
    · cases hk
    · exact .inr ⟨c, rfl, Nat.lt_of_lt_of_le h1 hs, (hk h1).trans h2, h3⟩
theorem OL.ext {H H' : Heap} {v : Value} {g : Nat} {L : List Value} (h : OL H v g L) (hx : Ext H H') : OL H' v g L := h.keep hx.size (.inr fun h => hx.get g h)
theorem OL.one {H : Heap} {v : Value} {g : Nat} {L : List Value} (h : OL H v g L) : v.oneCell' = true := by rcases h with ⟨rfl, rfl⟩ | ⟨c, rfl, h1, h2, h3⟩ <;> rfl
theorem OL.at {H : Heap} {v : Value} {g : Nat} {L : List Value} (h : OL H v g L) (hl : 0 < L.length) : v = .slice (some ⟨g, 0, none⟩) L.length 0 ∧ g < H.size ∧ H.get g = .cells L 1 false := by
  rcases h with ⟨rfl, rfl⟩ | ⟨c, rfl, h1, h2, h3⟩
  · simp at hl
  · rcases h3 with ⟨rfl, _⟩ | ⟨rfl, rfl⟩
    · exact ⟨rfl, h1, h2⟩
    · simp at hl
theorem OL.lt {H : Heap} {v : Value} {g : Nat} {L : List Value} (h : OL H v g L) (hl : L ≠ []) : g < H.size := (h.at (List.length_pos_iff.2 hl)).2.1
theorem OL.nn {H : Heap} {v : Value} {g : Nat} {L : List Value} (h : OL H v g L) (hl : L ≠ []) : v ≠ .slice none 0 0 := by rw [(h.at (List.length_pos_iff.2 hl)).1]; intro e; cases e
theorem OL.shape {H : Heap} {v : Value} {g : Nat} {L : List Value} (h : OL H v g L) : ∃ p c, v = .slice p L.length c := by
  rcases h with ⟨rfl, rfl⟩ | ⟨c, rfl, _⟩ <;> exact ⟨_, _, rfl⟩
/-- One element of one cell is appended to a list of one's own. -/
theorem OL.append {P : Program} {st xt et z : Nat} {zv : Value} (ht : P.underlying st = some (.slice et) ∧ cz P et = some 1 ∧ bz P et = some z ∧ zr P et = some zv ∧ el P xt = some (none, 1)) (hz : 0 < z ∧ z ≤ 64 ∧ constOk zv = true ∧ zv.cells.size = 1)
    {H : Heap} {v : Value} {g gx k n : Nat} {L new : List Value} {K : Value → Heap → Prop} (hO : OL H v g L) (hx : H.get gx = .cells new 1 false) (hnl : new.length = n) (hn : n ≠ 0) (hg : L ≠ [] → gx ≠ g) (h1 : oneCells new) (hL : L.length + n ≤ 1000000000)
    (h : ∀ v' g' H', OL H' v' g' (L ++ new) → H.size ≤ g' → H.size ≤ H'.size → (∀ b, b < H.size → (L ≠ [] → b ≠ g) → H'.get b = H.get b) → K v' H') : appendK P st xt v (.slice (some ⟨gx, 0, none⟩) n k) H K := by
  obtain ⟨t1, t2, t3, t4, t5⟩ := ht
  obtain ⟨z1, z2, z3, z4⟩ := hz
  have hne : L ++ new ≠ [] := fun e => by have := congrArg List.length e; simp at this; exact hn (by rw [← hnl, this.2]; rfl)
  have hr : H.range gx 0 (n * 1) = some new := by
    simp only [Heap.range, hx]
    rw [if_pos (by omega)]
    simp [← hnl]
  have hb : ∀ m, m ≤ 1000000000 → m * z ≤ 140737488355328 := fun m hm => Nat.le_trans (Nat.mul_le_mul hm z2) (by decide)
  unfold appendK appsK
  simp only [t1, t2, t3, t4, t5]
  refine ⟨by omega, z1, z3, z4, by trivial, new, hr, h1, ?_⟩
  rcases hO with ⟨rfl, rfl⟩ | ⟨c, rfl, g1, g2, g3⟩
  · refine ⟨hb _ (by simp at hL; omega), fun e => absurd e hn, fun _ => ?_⟩
    refine h _ H.size _ (.inr ⟨0, ?_, ?_, get_push_eq rfl, .inl ⟨rfl, hne⟩⟩) (Nat.le_refl _) ?_ (fun b hb _ => get_push_lt hb)
    · simp [hnl]
    · rw [Heap.size_push]; omega
    · rw [Heap.size_push]; omega
  · rcases g3 with ⟨rfl, gl⟩ | ⟨rfl, rfl⟩
    · simp only [g2]
      refine ⟨trivial, trivial, hb _ hL, fun e => absurd e hn, fun _ => ⟨by simp, ?_⟩⟩
      refine h _ H.size _ (.inr ⟨0, ?_, ?_, ?_, .inl ⟨rfl, hne⟩⟩) (Nat.le_refl _) ?_ (fun b hb he => ?_)
      · simp [hnl]
      · rw [Heap.size_push, Heap.size_set]; omega
      · rw [get_push_eq (by rw [Heap.size_set])]; simp
      · rw [Heap.size_push, Heap.size_set]; omega
      · rw [get_push_lt (by rw [Heap.size_set]; omega), get_set_ne (he gl)]
    · simp only [g2]
      refine ⟨trivial, hb _ (by simpa using hL), fun e => by simp at e; omega, fun _ => ⟨by simp, ?_⟩⟩
      refine h _ H.size _ (.inr ⟨0, ?_, ?_, ?_, .inl ⟨rfl, hne⟩⟩) (Nat.le_refl _) ?_ (fun b hb _ => get_push_lt hb)
      · simp [hnl]
      · rw [Heap.size_push]; omega
      · rw [get_push_eq rfl]; simp
      · rw [Heap.size_push]; omega
end Go.Proofs.Ytpbbfephfmdgmaa.Rai
