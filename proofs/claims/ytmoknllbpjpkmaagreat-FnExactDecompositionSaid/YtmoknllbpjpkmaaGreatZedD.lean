/- From what a row reads to an abstract heap: arguments as blocks that are only read. -/
import Derived.Test.YtmoknllbpjpkmaaGreatZedC
import Derived.Below
import Derived.Deep.Slices
import Derived.ChangeArms
import Derived.WideShapes
namespace Go.Proofs.YtmoknllbpjpkmaaGreat.Zed
open Go Go.ChangeShapes Go.WideShapes Go.Deep Go.RowKit
set_option linter.unusedVariables false
set_option linter.unusedSimpArgs false

/-- The whole world, frozen. -/
def worldR (w : World) : Ren := { img := fun _ => ⟨0, 0, 0, 0⟩, fz := fun β i => w.cell? ⟨β, i, none⟩, tl := fun _ => 0, ti := fun _ => ⟨0, 0, 0, 0⟩ }
def H0 : Heap := ⟨0, fun _ => .absent⟩
theorem H0_holds (w : World) : Holds (worldR w) H0 w :=
  ⟨fun _ _ => rfl, fun b cs es ro h => by simp [H0] at h, fun b cs es h => by simp [H0] at h, fun b cs es ro h => by simp [H0] at h, fun b es h => by simp [H0] at h, fun b h => by simp [H0, Blk.live] at h, fun b c _ h => by simp [H0, Blk.live] at h,
    ⟨fun β i u h => h, fun b h => by simp [H0, Blk.wr] at h, fun b n es h => by simp [H0] at h, fun b n es c h => by simp [H0] at h, fun b c n es n' es' _ h => by simp [H0] at h, fun _ _ => rfl⟩⟩
theorem H0_owns {φ : Ren} {β : Nat} : ¬ Owns φ H0 β := by
  rintro (⟨b, h, _⟩ | ⟨b, n, es, h, _⟩)
  · simp [H0, Blk.wr] at h
  · simp [H0] at h
theorem cells?_get {w : World} {base n : Nat} {a : Addr} {cs : List Value} (h : w.cells? base a n = some cs) : cs.length = n ∧ ∀ (i : Nat) u, cs[i]? = some u → w.cell? (a.add i) = some u := by
  unfold World.cells? at h
  split at h
  · rename_i hb
    have key : ∀ (l : List Nat) (cs : List Value), l.mapM (fun i => w.cell? (a.add i)) = some cs → cs.length = l.length ∧ ∀ (i : Nat) u, cs[i]? = some u → ∃ j : Nat, l[i]? = some j ∧ w.cell? (a.add j) = some u := by
      intro l
      induction l with
      | nil => intro cs h; simp at h; subst h; exact ⟨rfl, fun i u hu => by simp at hu⟩
      | cons b l ih =>
        intro cs h
        rw [List.mapM_cons] at h
        simp only [bind, Option.bind_eq_some_iff, pure, Option.some.injEq] at h
        obtain ⟨c, hc, r, hr, rfl⟩ := h
        obtain ⟨h1, h2⟩ := ih r hr
        refine ⟨by simp [h1], fun i u hu => ?_⟩
        cases i with
        | zero => simp at hu; subst hu; exact ⟨b, rfl, hc⟩
        | succ i => simp at hu; obtain ⟨j, hj, hj2⟩ := h2 i u hu; exact ⟨j, by simpa using hj, hj2⟩
    obtain ⟨h1, h2⟩ := key _ _ h
    refine ⟨by simpa using h1, fun i u hu => ?_⟩
    obtain ⟨j, hj, hc⟩ := h2 i u hu
    have hi : i < (List.range n).length := (List.getElem?_eq_some_iff.1 hj).1
    rw [List.getElem?_eq_getElem hi] at hj
    simp at hj
    subst hj
    exact hc
  · simp at h
theorem cell_spot {w : World} {a : Addr} {u : Value} (h : w.cell? a = some u) : a.spot = none ∧ a.block < w.heap.size := by
  unfold World.cell? at h
  split at h
  · rename_i c e f hg
    split at h
    · simp at h
    · rename_i hs
      exact ⟨by cases e : a.spot with
        | none => rfl
        | some s => rw [e] at hs; simp at hs, (Array.getElem?_eq_some_iff.1 hg).1⟩
  · simp at h

/-- Whatever reads as data of type t stands for some y, in the world frozen. -/
def AOpen (P : Program) (t : TypeId) {α : Type} (A : α → List Value) (good : α → Prop) : Prop :=
  ∀ {Hy : Type} {enc : TypeId × Value → Hy} {w : World} {base : Nat} {spare : Nat → Bool} {held : Bool} {fuel : Nat} {cs : List Value} {x : DataW Hy × List MemPlace},
    DataW.trod enc P w base spare held fuel t cs = some x → ∃ y, good y ∧ RL (worldR w) H0.has (A y) cs
theorem aopen_int {P : Program} {t : TypeId} {k : IntKind} (ht : P.underlying t = some (.int k)) : AOpen P t (fun n => [.int k n]) (fun n => (Lit.int k n).wf = true) := by
  intro Hy enc w base spare held fuel cs x h
  obtain ⟨n, rfl, _, hw⟩ := DataW.trod_int ht h
  exact ⟨n, hw, RL.cons (.int _ _) RL.nil⟩
theorem aopen_bool {P : Program} {t : TypeId} (ht : P.underlying t = some .bool) : AOpen P t (fun n => [.bool n]) (fun _ => True) := by
  intro Hy enc w base spare held fuel cs x h
  obtain ⟨n, rfl, _⟩ := DataW.trod_bool ht h
  exact ⟨n, trivial, RL.cons (.bool _) RL.nil⟩
theorem aopen_str {P : Program} {t : TypeId} (ht : P.underlying t = some .string) : AOpen P t (fun s => [.string s]) (fun s => s.size ≤ maxLen) := by
  intro Hy enc w base spare held fuel cs x h
  obtain ⟨n, rfl, _, hw⟩ := DataW.trod_string ht h
  exact ⟨n, hw, RL.cons (.string _) RL.nil⟩
theorem aopen_slice {P : Program} {t e : TypeId} {α : Type} {sz : Nat} {A : α → List Value} {good : α → Prop} (ht : P.underlying t = some (.slice e)) (hc : P.cellsOf e = sz) (hsz : 0 < sz) (he : AOpen P e A good) :
    AOpen P t (fun l : List α => [FZ sz l.length (l.flatMap A)]) (fun l => l.length ≤ maxLen ∧ ∀ x ∈ l, good x) := by
  intro Hy enc w base spare held fuel cs x h
  rcases open_slice ht h with ⟨rfl, _⟩ | ⟨a, len, cap, m, n, D, Pl, rfl, hb, hl, hm, hmm, rfl, hx⟩
  · exact ⟨[], ⟨Nat.zero_le _, by simp⟩, RL.cons (.fz0 sz none 0 fun _ => rfl) RL.nil⟩
  · have hlm : len ≤ m := by rw [hmm]; split <;> omega
    rw [hc] at hx
    have key : ∀ i, i ≤ len → ∃ ys : List α, ys.length = i ∧ (∀ y ∈ ys, good y) ∧ (ys.flatMap A).length = i * sz ∧ ∀ (q : Nat) v, (ys.flatMap A)[q]? = some v → ∃ u, w.cell? (a.add q) = some u ∧ R (worldR w) H0.has v u := by
      intro i
      induction i with
      | zero => exact fun _ => ⟨[], rfl, by simp, by simp, fun q v hq => by simp at hq⟩
      | succ i ih =>
        intro hi
        obtain ⟨ys, hyl, hyg, h5, h7⟩ := ih (by omega)
        obtain ⟨c2, hc1, hc2⟩ := hx i (by omega)
        obtain ⟨y, hyg2, k6⟩ := he hc2
        obtain ⟨hcl, hcg⟩ := cells?_get hc1
        have hc3 : (A y).length = sz := by rw [k6.1, hcl]
        have hfl : (ys ++ [y]).flatMap A = ys.flatMap A ++ A y := by simp
        refine ⟨ys ++ [y], by simp [hyl], fun z hz => ?_, by rw [hfl, List.length_append, h5, hc3, Nat.succ_mul], fun q v hq => ?_⟩
        · rcases List.mem_append.1 hz with hz | hz
          · exact hyg z hz
          · simp at hz; subst hz; exact hyg2
        · rw [hfl] at hq
          by_cases hqi : q < (ys.flatMap A).length
          · rw [List.getElem?_append_left hqi] at hq
            exact h7 q v hq
          · rw [List.getElem?_append_right (by omega)] at hq
            have hq2 := (List.getElem?_eq_some_iff.1 hq).1
            have hlt : q - (ys.flatMap A).length < c2.length := by rw [hcl]; omega
            refine ⟨c2[q - (ys.flatMap A).length], ?_, k6.2 _ _ _ hq (List.getElem?_eq_getElem hlt)⟩
            have := hcg _ _ (List.getElem?_eq_getElem hlt)
            rw [add_add, ← h5, show (ys.flatMap A).length + (q - (ys.flatMap A).length) = q by omega] at this
            exact this
    obtain ⟨ys, hyl, hyg, h5, h7⟩ := key len (Nat.le_refl _)
    refine ⟨ys, ⟨by omega, hyg⟩, RL.cons ?_ RL.nil⟩
    rw [hyl]
    by_cases hz : len = 0
    · subst hz
      have : ys.flatMap A = [] := List.eq_nil_of_length_eq_zero (by rw [h5, Nat.zero_mul])
      rw [this]
      exact .fz0 sz (some a) cap fun h => by cases h
    · have hd0 : 0 < (ys.flatMap A).length := by rw [h5]; exact Nat.mul_pos (by omega) hsz
      obtain ⟨u0, hu0, _⟩ := h7 0 _ (List.getElem?_eq_getElem hd0)
      obtain ⟨hsp, hblk⟩ := cell_spot hu0
      have hsp' : a.spot = none := by
        obtain ⟨ab, ao, as⟩ := a
        cases as with
        | none => rfl
        | some s => simp [Addr.add] at hsp
      obtain ⟨ab, ao, as⟩ := a
      dsimp only at hsp'
      subst hsp'
      refine .fz sz len cap ab ao _ (fun i => (w.cell? ⟨ab, ao + i, none⟩).getD undef) hsz h5 hl (fun i hi => ?_) (fun i v hi => ?_)
      · obtain ⟨u, hu, _⟩ := h7 i _ (List.getElem?_eq_getElem hi)
        rw [add_off] at hu
        show w.cell? ⟨ab, ao + i, none⟩ = _
        rw [hu]; rfl
      · obtain ⟨u, hu, hr⟩ := h7 i v hi
        rw [add_off] at hu
        rw [hu]; exact hr
/-- A struct's fields from one of them on. -/
def AOpenL (P : Program) (fs : List Field) (off sz : Nat) {α : Type} (A : α → List Value) (good : α → Prop) : Prop :=
  ∀ {Hy : Type} {enc : TypeId × Value → Hy} {w : World} {base : Nat} {spare : Nat → Bool} {held : Bool} {fuel : Nat} {cs : List Value},
    (∀ f ∈ fs, ∃ x : DataW Hy × List MemPlace, DataW.trod enc P w base spare held fuel f.type ((cs.drop f.offset).take (P.cellsOf f.type)) = some x) → cs.length = off + sz →
    ∃ y, good y ∧ RL (worldR w) H0.has (A y) (cs.drop off)
theorem aopenL_one {P : Program} {f : Field} {off sz : Nat} {t : TypeId} {α : Type} {A : α → List Value} {good : α → Prop} (ht : f.type = t) (ho : f.offset = off) (hc : P.cellsOf t = sz) (h : AOpen P t A good) : AOpenL P [f] off sz A good := by
  intro Hy enc w base spare held fuel cs hx hl
  obtain ⟨x, hx⟩ := hx f (by simp)
  rw [ht, ho, hc] at hx
  rw [List.take_of_length_le (by rw [List.length_drop]; omega)] at hx
  exact h hx
theorem aopenL_cons {P : Program} {f : Field} {fs : List Field} {off sz sz2 : Nat} {t : TypeId} {α β : Type} {A : α → List Value} {B : β → List Value} {good : α → Prop} {good2 : β → Prop} (ht : f.type = t) (ho : f.offset = off) (hc : P.cellsOf t = sz) (h : AOpen P t A good) (hs : AOpenL P fs (off + sz) sz2 B good2) :
    AOpenL P (f :: fs) off (sz + sz2) (fun p : α × β => A p.1 ++ B p.2) (fun p => good p.1 ∧ good2 p.2) := by
  intro Hy enc w base spare held fuel cs hx hl
  obtain ⟨x, hx0⟩ := hx f (by simp)
  rw [ht, ho, hc] at hx0
  obtain ⟨y, gy, h6⟩ := h hx0
  obtain ⟨z, gz, k6⟩ := hs (fun f' hf' => hx f' (by simp [hf'])) (by rw [hl]; omega)
  refine ⟨(y, z), ⟨gy, gz⟩, ?_⟩
  have := h6.append k6
  rw [← List.drop_drop, List.take_append_drop] at this
  exact this
theorem aopen_struct {P : Program} {t : TypeId} {fs : Array Field} {l : List Field} {sz : Nat} {α : Type} {A : α → List Value} {good : α → Prop} (ht : P.underlying t = some (.struct fs)) (hl : fs.toList = l) (hc : P.cellsOf t = sz) (h : AOpenL P l 0 sz A good) : AOpen P t A good := by
  intro Hy enc w base spare held fuel cs x hx
  obtain ⟨xs, n, rfl, _, hlen, hsz, hf⟩ := DataW.trod_struct ht hx
  obtain ⟨y, gy, hy⟩ := h (Hy := Hy) (enc := enc) (w := w) (base := base) (spare := spare) (held := held) (fuel := n) (cs := cs) (fun q hq => by
    rw [← hl] at hq
    obtain ⟨i, hi, rfl⟩ := List.getElem_of_mem hq
    have h1 := hf i _ (by rw [← Array.getElem?_toList, List.getElem?_eq_getElem hi])
    have hi' : i < xs.length := by rw [hsz]; simpa using hi
    exact ⟨xs[i], h1.trans (List.getElem?_eq_getElem hi')⟩) (by rw [hlen, hc]; omega)
  exact ⟨y, gy, hy⟩
/-- A call over frozen values that answers true: the world below is as it was. -/
theorem calls_true {P : Program} {f : FuncId} {args : List Value} {args' : Array Value} {W : World} (h : ZCalls P f args (.bool true)) (ha : RA (worldR W) H0.has args.toArray args') :
    Calls P f args' W fun e w' => e = .returned (.bool true) ∧ Below W.heap.size W w' := by
  refine ((h H0).2 (worldR W) args' W (H0_holds W) ha).mono ?_
  rintro e w' ⟨φ', v, v', H', rfl, ⟨rfl, rfl⟩, hr, hh', ok⟩
  rw [hr.bool_inv]
  exact ⟨rfl, ⟨ok.os, ok.tape, ok.output, ok.wsize, fun k hk => ok.frame k hk H0_owns⟩⟩
end Go.Proofs.YtmoknllbpjpkmaaGreat.Zed
