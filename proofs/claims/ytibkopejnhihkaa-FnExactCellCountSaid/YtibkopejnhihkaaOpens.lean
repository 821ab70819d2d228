/- What an argument of a kind (Kd) reads as: out of the row's own reading, for integers, bools, strings, slices and structs. No program in sight. -/
import Derived.Test.YtibkopejnhihkaaWWords
import Derived.Deep.Slices
import Derived.ChangeArms
import Derived.WideShapes
namespace Go.Proofs.Ytibkopejnhihkaa.Opens
open Go.ChangeShapes Go.WideShapes Go.Deep Go.Proofs.YtibkopejnhihkaaW.PrintWords

/-- Whatever reads as data of type t is of kind d, and good. -/
def Opens (P : Program) (t : TypeId) {α : Type} (d : Kd α) (good : α → Prop) : Prop :=
  ∀ {H : Type} {enc : TypeId × Value → H} {w : World} {base : Nat} {spare : Nat → Bool} {held : Bool} {fuel : Nat} {cs : List Value} {x : DataW H × List MemPlace},
    DataW.trod enc P w base spare held fuel t cs = some x → ∃ y, d.K w y cs ∧ good y

theorem opens_int {P : Program} {t : TypeId} {k : IntKind} (ht : P.underlying t = some (.int k)) : Opens P t (Kd.int k) (fun n => (Lit.int k n).wf = true) := by
  intro H enc w base spare held fuel cs x h
  obtain ⟨n, rfl, _, hw⟩ := DataW.trod_int ht h
  exact ⟨n, rfl, hw⟩

theorem opens_bool {P : Program} {t : TypeId} (ht : P.underlying t = some .bool) : Opens P t Kd.bool (fun _ => True) := by
  intro H enc w base spare held fuel cs x h
  obtain ⟨n, rfl, _⟩ := DataW.trod_bool ht h
  exact ⟨n, rfl, trivial⟩

theorem opens_string {P : Program} {t : TypeId} (ht : P.underlying t = some .string) : Opens P t Kd.string (fun s => s.size ≤ maxLen) := by
  intro H enc w base spare held fuel cs x h
  obtain ⟨n, rfl, _, hw⟩ := DataW.trod_string ht h
  exact ⟨n, rfl, hw⟩

theorem cells?_at {w : World} {base n : Nat} {a : Addr} {cs : List Value} (h : w.cells? base a n = some cs) : cs.length = n ∧ ∀ (i : Nat) u, cs[i]? = some u → w.cell? (a.add i) = some u := by
  unfold World.cells? at h
  split at h
  · rename_i hb
    have hm := h
    clear h
    have key : ∀ (l : List Nat) (cs : List Value), l.mapM (fun i => w.cell? (a.add i)) = some cs → cs.length = l.length ∧ ∀ (i : Nat) u, cs[i]? = some u → ∃ j : Nat, l[i]? = some j ∧ w.cell? (a.add j) = some u := by
      intro l
      induction l with
      | nil => intro cs h; simp at h; subst h; exact ⟨rfl, fun i u hu => by simp at hu⟩
      | cons b l ih =>
        intro cs h
        rw [List.mapM_cons] at h
        simp only [bind, Option.bind_eq_some_iff, pure, Option.some.injEq] at h
        obtain ⟨c, hc, r, hr, rfl⟩ := h
        obtain ⟨h1, h2⟩ := ih r hr
        refine ⟨by simp [h1], fun i u hu => ?_⟩
        cases i with
        | zero => simp at hu; subst hu; exact ⟨b, rfl, hc⟩
        | succ i => simp at hu; obtain ⟨j, hj, hj2⟩ := h2 i u hu; exact ⟨j, by simpa using hj, hj2⟩
    obtain ⟨h1, h2⟩ := key _ _ hm
    refine ⟨by simpa using h1, fun i u hu => ?_⟩
    obtain ⟨j, hj, hc⟩ := h2 i u hu
    have hi : i < (List.range n).length := by
      have := (List.getElem?_eq_some_iff.1 hj).1
      exact this
    rw [List.getElem?_eq_getElem hi] at hj
    simp at hj
    subst hj
    exact hc
  · simp at h

theorem opens_slice {P : Program} {t e : TypeId} {α : Type} {d : Kd α} {good : α → Prop} (ht : P.underlying t = some (.slice e)) (hc : P.cellsOf e = d.sz) (he : Opens P e d good) :
    Opens P t (Kd.slice e d) (fun l => l.length ≤ maxLen ∧ ∀ x ∈ l, good x) := by
  intro H enc w base spare held fuel cs x h
  rcases open_slice ht h with ⟨rfl, _⟩ | ⟨a, len, cap, m, n, D, Pl, rfl, hb, hl, hm, hmm, rfl, hx⟩
  · exact ⟨[], ⟨none, 0, rfl, Nat.le_refl _, rfl, by simp, fun h => absurd h (by simp)⟩, by simp [maxLen], by simp⟩
  · have hlm : len ≤ m := by rw [hmm]; split <;> omega
    have hy : ∀ i, i < len → ∃ y : Option α, ∃ z cs', y = some z ∧ w.cells? base (a.add (i * P.cellsOf e)) (P.cellsOf e) = some cs' ∧ d.K w z cs' ∧ good z := by
      intro i hi
      obtain ⟨cs', h1, h2⟩ := hx i (by omega)
      obtain ⟨y, hy1, hy2⟩ := he h2
      exact ⟨some y, y, cs', rfl, h1, hy1, hy2⟩
    have hz : ∃ l : List α, l.length = len ∧ ∀ i z, l[i]? = some z → ∃ cs', w.cells? base (a.add (i * P.cellsOf e)) (P.cellsOf e) = some cs' ∧ d.K w z cs' ∧ good z := by
      clear hx hlm hmm hm hl h
      induction len with
      | zero => exact ⟨[], rfl, fun i z hz => by simp at hz⟩
      | succ k ih =>
        obtain ⟨l, hl, hh⟩ := ih (fun i hi => hy i (by omega))
        obtain ⟨y, z, cs', _, h1, h2, h3⟩ := hy k (by omega)
        refine ⟨l ++ [z], by simp [hl], fun i q hq => ?_⟩
        rcases Nat.lt_or_ge i l.length with hi | hi
        · rw [List.getElem?_append_left hi] at hq; exact hh i q hq
        · have hi' : i = l.length := by
            have := (List.getElem?_eq_some_iff.1 hq).1
            simp at this
            omega
          subst hi'
          simp at hq
          subst hq
          rw [hl]
          exact ⟨cs', h1, h2, h3⟩
    obtain ⟨l, hll, hh⟩ := hz
    refine ⟨l, ⟨some a, cap, by rw [hll], by omega, rfl, by rw [hll]; unfold maxLen at hm; omega, fun _ => ⟨a, rfl, fun j p hj => ?_⟩⟩, by omega, fun y hy => ?_⟩
    · obtain ⟨cs', h1, h2, _⟩ := hh j p hj
      obtain ⟨h3, h4⟩ := cells?_at h1
      refine ⟨cs', by rw [h3, hc], h2, fun i u hu => ?_⟩
      have := h4 i u hu
      rw [Deep.add_add, hc] at this
      exact this
    · obtain ⟨i, hi, rfl⟩ := List.getElem_of_mem hy
      obtain ⟨_, _, _, h3⟩ := hh i _ (List.getElem?_eq_getElem hi)
      exact h3

/-- A struct's fields, from one of them on (off: the cells ahead of it). -/
def OpensL (P : Program) (fs : List Field) (off : Nat) {α : Type} (d : Kd α) (good : α → Prop) : Prop :=
  ∀ {H : Type} {enc : TypeId × Value → H} {w : World} {base : Nat} {spare : Nat → Bool} {held : Bool} {fuel : Nat} {cs : List Value},
    (∀ f ∈ fs, ∃ x : DataW H × List MemPlace, DataW.trod enc P w base spare held fuel f.type ((cs.drop f.offset).take (P.cellsOf f.type)) = some x) → cs.length = off + d.sz → ∃ y, d.K w y (cs.drop off) ∧ good y

theorem opensL_one {P : Program} {f : Field} {off : Nat} {t : TypeId} {α : Type} {d : Kd α} {good : α → Prop} (ht : f.type = t) (ho : f.offset = off) (hc : P.cellsOf t = d.sz) (h : Opens P t d good) : OpensL P [f] off d good := by
  intro H enc w base spare held fuel cs hx hl
  obtain ⟨x, hx⟩ := hx f (by simp)
  rw [ht, ho, hc] at hx
  rw [List.take_of_length_le (by rw [List.length_drop]; omega)] at hx
  exact h hx

theorem opensL_cons {P : Program} {f : Field} {fs : List Field} {off : Nat} {t : TypeId} {α β : Type} {d : Kd α} {g : Kd β} {good : α → Prop} {good2 : β → Prop} (ht : f.type = t) (ho : f.offset = off) (hc : P.cellsOf t = d.sz) (h : Opens P t d good) (hs : OpensL P fs (off + d.sz) g good2) :
    OpensL P (f :: fs) off (Kd.pair d g) (fun p => good p.1 ∧ good2 p.2) := by
  intro H enc w base spare held fuel cs hx hl
  obtain ⟨x, hx0⟩ := hx f (by simp)
  rw [ht, ho, hc] at hx0
  obtain ⟨y, hy, gy⟩ := h hx0
  obtain ⟨z, hz, gz⟩ := hs (fun f' hf' => hx f' (by simp [hf'])) (by rw [hl]; show off + (d.sz + g.sz) = _; omega)
  refine ⟨(y, z), ⟨_, _, ?_, hy, hz⟩, gy, gz⟩
  rw [← List.drop_drop, List.take_append_drop]

theorem opens_struct {P : Program} {t : TypeId} {fs : Array Field} {l : List Field} {α β : Type} {d : Kd α} {f : β → α} {g : α → β} {good : α → Prop} (ht : P.underlying t = some (.struct fs)) (hl : fs.toList = l) (hc : P.cellsOf t = d.sz) (hg : ∀ a, f (g a) = a) (h : OpensL P l 0 d good) :
    Opens P t (Kd.iso d f) (fun b => good (f b)) := by
  intro H enc w base spare held fuel cs x hx
  obtain ⟨xs, n, rfl, _, hlen, hsz, hf⟩ := DataW.trod_struct ht hx
  obtain ⟨y, hy, gy⟩ := h (H := H) (enc := enc) (w := w) (base := base) (spare := spare) (held := held) (fuel := n) (cs := cs) (fun q hq => by
    rw [← hl] at hq
    obtain ⟨i, hi, rfl⟩ := List.getElem_of_mem hq
    have h1 := hf i _ (by rw [← Array.getElem?_toList, List.getElem?_eq_getElem hi])
    have hi' : i < xs.length := by rw [hsz]; simpa using hi
    exact ⟨xs[i], h1.trans (List.getElem?_eq_getElem hi')⟩) (by rw [hlen, hc]; omega)
  exact ⟨g y, by show d.K w (f (g y)) cs; rw [hg]; exact hy, by show good (f (g y)); rw [hg]; exact gy⟩

theorem agg_cells (cs : Array Value) : (Value.agg cs).cells.toList = cs.toList := rfl
end Go.Proofs.Ytibkopejnhihkaa.Opens
