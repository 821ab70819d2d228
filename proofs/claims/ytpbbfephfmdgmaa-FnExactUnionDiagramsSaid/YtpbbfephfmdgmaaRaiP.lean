/- A part of the walk: what functions of the program do, over an abstract heap. -/
import Derived.Test.YtpbbfephfmdgmaaRaiO
namespace Go.Proofs.Ytpbbfephfmdgmaa.Rai
open Go
set_option linter.unusedVariables false
set_option linter.unusedSimpArgs false
/-! ### Rows of elements of several cells, of one's own, that grow -/
/-- n elements of sz cells, in the block g (or no block: the nil slice). -/
def OG (sz : Nat) (H : Heap) (v : Value) (g n : Nat) (L : List Value) : Prop := (v = .slice none 0 0 ∧ n = 0 ∧ L = []) ∨ ∃ c, v = .slice (some ⟨g, 0, none⟩) n c ∧ g < H.size ∧ H.get g = .cells L sz false ∧ L.length = n * sz ∧ ((c = 0 ∧ n ≠ 0) ∨ (c = 1 ∧ n = 0))
theorem OG.keep {sz : Nat} {H H' : Heap} {v : Value} {g n : Nat} {L : List Value} (h : OG sz H v g n L) (hs : H.size ≤ H'.size) (hk : v = .slice none 0 0 ∨ (g < H.size → H'.get g = H.get g)) : OG sz H' v g n L := by
  rcases h with ⟨rfl, h⟩ | ⟨c, rfl, h1, h2, h3⟩
  · exact .inl ⟨rfl, h⟩
  · rcases hk with hk | hk
    · cases hk
    · exact .inr ⟨c, rfl, Nat.lt_of_lt_of_le h1 hs, (hk h1).trans h2, h3⟩
theorem OG.ext {sz : Nat} {H H' : Heap} {v : Value} {g n : Nat} {L : List Value} (h : OG sz H v g n L) (hx : Ext H H') : OG sz H' v g n L := h.keep hx.size (.inr fun h => hx.get g h)
theorem OG.one {sz : Nat} {H : Heap} {v : Value} {g n : Nat} {L : List Value} (h : OG sz H v g n L) : v.oneCell' = true := by rcases h with ⟨rfl, h⟩ | ⟨c, rfl, h1, h2, h3⟩ <;> rfl
theorem OG.shape {sz : Nat} {H : Heap} {v : Value} {g n : Nat} {L : List Value} (h : OG sz H v g n L) : ∃ p c, v = .slice p n c := by
  rcases h with ⟨rfl, rfl, _⟩ | ⟨c, rfl, _⟩ <;> exact ⟨_, _, rfl⟩
theorem OG.nn {sz : Nat} {H : Heap} {v : Value} {g n : Nat} {L : List Value} (h : OG sz H v g n L) (hn : n ≠ 0) : v ≠ .slice none 0 0 := by
  rcases h with ⟨rfl, rfl, _⟩ | ⟨c, rfl, _⟩
  · exact absurd rfl hn
  · intro e; cases e
theorem OG.lt {sz : Nat} {H : Heap} {v : Value} {g n : Nat} {L : List Value} (h : OG sz H v g n L) (hn : n ≠ 0) : g < H.size := by
  rcases h with ⟨rfl, rfl, _⟩ | ⟨c, rfl, h1, _⟩
  · exact absurd rfl hn
  · exact h1
theorem OG.append {P : Program} {st xt et sz z : Nat} {zv : Value} (ht : P.underlying st = some (.slice et) ∧ cz P et = some sz ∧ bz P et = some z ∧ zr P et = some zv ∧ el P xt = some (none, sz)) (hz : 0 < z ∧ z ≤ 64 ∧ constOk zv = true ∧ zv.cells.size = sz ∧ 0 < sz)
    {H : Heap} {v : Value} {g gx k n m : Nat} {ro : Bool} {L new : List Value} {K : Value → Heap → Prop} (hO : OG sz H v g n L) (hx : H.get gx = .cells new sz ro) (hnl : new.length = m * sz) (hm : m ≠ 0) (h1 : oneCells new) (hL : n + m ≤ 1000000000)
    (h : ∀ v' g' H', OG sz H' v' g' (n + m) (L ++ new) → H.size ≤ g' → H.size ≤ H'.size → (∀ b, b < H.size → (n ≠ 0 → b ≠ g) → H'.get b = H.get b) → K v' H') : appendK P st xt v (.slice (some ⟨gx, 0, none⟩) m k) H K := by
  obtain ⟨t1, t2, t3, t4, t5⟩ := ht
  obtain ⟨z1, z2, z3, z4, z5⟩ := hz
  have hne : n + m ≠ 0 := by omega
  have hr : H.range gx 0 (m * sz) = some new := by
    simp only [Heap.range, hx]
    rw [if_pos (by omega)]
    simp [← hnl]
  have hb : ∀ m, m ≤ 1000000000 → m * z ≤ 140737488355328 := fun m hm => Nat.le_trans (Nat.mul_le_mul hm z2) (by decide)
  unfold appendK appsK
  simp only [t1, t2, t3, t4, t5]
  refine ⟨z5, z1, z3, z4, by trivial, new, hr, h1, ?_⟩
  rcases hO with ⟨rfl, rfl, rfl⟩ | ⟨c, rfl, g1, g2, g4, g3⟩
  · refine ⟨hb _ (by omega), fun e => absurd e hm, fun _ => ?_⟩
    refine h _ H.size _ (.inr ⟨0, ?_, ?_, get_push_eq rfl, ?_, .inl ⟨rfl, hne⟩⟩) (Nat.le_refl _) ?_ (fun b hb _ => get_push_lt hb)
    · rw [Nat.zero_add]
    · rw [Heap.size_push]; omega
    · simp [hnl]
    · rw [Heap.size_push]; omega
  · rcases g3 with ⟨rfl, gl⟩ | ⟨rfl, rfl⟩
    · simp only [g2]
      refine ⟨trivial, trivial, hb _ hL, fun e => absurd e hm, fun _ => ⟨by omega, ?_⟩⟩
      refine h _ H.size _ (.inr ⟨0, rfl, ?_, ?_, ?_, .inl ⟨rfl, hne⟩⟩) (Nat.le_refl _) ?_ (fun b hb he => ?_)
      · rw [Heap.size_push, Heap.size_set]; omega
      · rw [get_push_eq (by rw [Heap.size_set])]; rw [List.drop_zero, List.take_of_length_le (by omega)]
      · rw [List.length_append, hnl, g4, Nat.add_mul]
      · rw [Heap.size_push, Heap.size_set]; omega
      · rw [get_push_lt (by rw [Heap.size_set]; omega), get_set_ne (he gl)]
    · simp only [g2]
      have hL0 : L = [] := List.eq_nil_of_length_eq_zero (by omega)
      subst hL0
      refine ⟨trivial, hb _ (by omega), fun e => by omega, fun _ => ⟨by simp, ?_⟩⟩
      refine h _ H.size _ (.inr ⟨0, rfl, ?_, ?_, ?_, .inl ⟨rfl, hne⟩⟩) (Nat.le_refl _) ?_ (fun b hb _ => get_push_lt hb)
      · rw [Heap.size_push]; omega
      · rw [get_push_eq rfl]; simp
      · simp [hnl]
      · rw [Heap.size_push]; omega
theorem appendK.hkx {P : Program} {st xt : TypeId} {s x : Value} {H : Heap} {p : Heap → Prop} {K K' : Value → Heap → Prop} (hK : Cont (∀ v H', p H' → K v H' → K' v H')) (h : appendK P st xt s x H fun v H' => p H' ∧ K v H') : appendK P st xt s x H K' :=
  appendK.hk (K := fun v H' => p H' ∧ K v H') (fun v H' q => hK.out v H' q.1 q.2) h
end Go.Proofs.Ytpbbfephfmdgmaa.Rai
