/- From what a row reads to an abstract heap: arguments as blocks that are only read. -/
import Derived.Test.YtpbbfephfmdgmaaRaiB
import Derived.Below
import Derived.Deep.Slices
import Derived.ChangeArms
import Derived.WideShapes
namespace Go.Proofs.Ytpbbfephfmdgmaa.Rai
open Go Go.ChangeShapes Go.WideShapes Go.Deep Go.RowKit
set_option linter.unusedVariables false
set_option linter.unusedSimpArgs false
def RO (H : Heap) : Prop := ∀ b, (H.get b).wr = false
def H0 : Heap := ⟨0, fun _ => .absent⟩
theorem H0_ro : RO H0 := fun _ => rfl
theorem H0_holds (w : World) : Holds (fun _ => ⟨0, 0, 0, 0⟩) H0 w :=
  ⟨fun _ _ => rfl, fun b cs es ro h => by simp [H0] at h, fun b cs es h => by simp [H0] at h, fun b cs es ro h => by simp [H0] at h, fun b es h => by simp [H0] at h, fun b h => by simp [H0, Blk.live] at h, fun b c _ h => by simp [H0, Blk.live] at h⟩
theorem Holds.push_ro {φ : Nat → Img} {H : Heap} {w : World} (h : Holds φ H w) (ro : RO H) (x : Blk) (i : Img) (hwr : x.wr = false) (hx : x ≠ .absent)
    (hc : ∀ cs es r, x = .cells cs es r → r = true ∧ es = i.es ∧ 0 < es ∧ i.blk < w.heap.size ∧ ∀ (j : Nat) (v : Value), cs[j]? = some v → ∃ u, w.cell? ⟨i.blk, i.base + j, none⟩ = some u ∧ R φ H.has v u) :
    Holds (upd φ H.size i) (H.push x) w ∧ RO (H.push x) ∧ Ext H (H.push x) ∧ ∀ b, H.has b → (H.push x).has b ∧ upd φ H.size i b = φ b := by
  have hm := h.push_mono x i
  have hu : upd φ H.size i H.size = i := by unfold upd; rw [if_pos rfl]
  have hself : (H.push x).get H.size = x := by rw [Heap.get_push, if_pos rfl]
  have hro : RO (H.push x) := fun b => by
    rw [Heap.get_push]; split
    · exact hwr
    · exact ro b
  have hcase : ∀ b, (H.push x).has b → b = H.size ∨ (H.has b ∧ (H.push x).get b = H.get b ∧ upd φ H.size i b = φ b) := by
    intro b hb
    by_cases e : b = H.size
    · exact .inl e
    · right
      unfold Heap.has at hb ⊢
      rw [Heap.get_push, if_neg e] at hb
      exact ⟨hb, by rw [Heap.get_push, if_neg e], by unfold upd; rw [if_neg e]⟩
  refine ⟨⟨?_, ?_, ?_, ?_, ?_, ?_, ?_⟩, hro, (Ext.refl H).push x, hm⟩
  · intro b hb
    rw [Heap.size_push] at hb
    rw [Heap.get_push, if_neg (by omega)]
    exact h.wf b (by omega)
  · intro b cs es r hb j v hj
    rcases hcase b (Heap.has_of_cells hb) with rfl | ⟨h1, h2, h3⟩
    · rw [hself] at hb
      obtain ⟨_, _, _, _, hv⟩ := hc cs es r hb
      obtain ⟨u, hu1, hu2⟩ := hv j v hj
      exact ⟨u, by rw [hu]; exact hu1, hu2.mono hm⟩
    · rw [h2] at hb
      obtain ⟨u, hu1, hu2⟩ := h.cell b cs es r hb j v hj
      exact ⟨u, by rw [h3]; exact hu1, hu2.mono hm⟩
  · intro b cs es hb
    have := hro b
    rw [hb] at this
    simp [Blk.wr] at this
  · intro b cs es r hb
    rcases hcase b (Heap.has_of_cells hb) with rfl | ⟨h1, h2, h3⟩
    · rw [hself] at hb
      obtain ⟨_, h4, h5, _⟩ := hc cs es r hb
      rw [hu]; exact ⟨h4, h5⟩
    · rw [h2] at hb; rw [h3]; exact h.es b cs es r hb
  · intro b es hb
    have := hro b
    rw [hb] at this
    simp [Blk.wr] at this
  · intro b hb
    rcases hcase b (Heap.has_of_live hb) with rfl | ⟨h1, h2, h3⟩
    · rw [hself] at hb
      rw [hu]
      cases x with
      | cells cs es r => exact (hc cs es r rfl).2.2.2.1
      | map es => simp [Blk.wr] at hwr
      | absent => simp [Blk.live] at hb
      | dead => simp [Blk.live] at hb
    · rw [h2] at hb; rw [h3]; exact h.lt b hb
  · intro b c hbc hb hc'
    rw [hro c] at hc'; simp at hc'
/-- Whatever reads as data of type t stands for some y, in an abstract heap that grows. -/
def AOpen (P : Program) (t : TypeId) {α : Type} (A : Heap → α → List Value → Prop) (good : α → Prop) : Prop :=
  ∀ {Hy : Type} {enc : TypeId × Value → Hy} {w : World} {base : Nat} {spare : Nat → Bool} {held : Bool} {fuel : Nat} {cs : List Value} {x : DataW Hy × List MemPlace},
    DataW.trod enc P w base spare held fuel t cs = some x → ∃ y, good y ∧ ∀ φ H, Holds φ H w → RO H → ∃ φ' H' cs', Holds φ' H' w ∧ RO H' ∧ Ext H H' ∧ (∀ b, H.has b → H'.has b ∧ φ' b = φ b) ∧ A H' y cs' ∧ RL φ' H'.has cs' cs
def Stab {α : Type} (A : Heap → α → List Value → Prop) : Prop := ∀ H H' y cs, A H y cs → Ext H H' → A H' y cs
def AInt (k : IntKind) (_ : Heap) (n : Int) (cs : List Value) : Prop := cs = [.int k n]
def ABool (_ : Heap) (n : Bool) (cs : List Value) : Prop := cs = [.bool n]
def AStr (_ : Heap) (n : ByteArray) (cs : List Value) : Prop := cs = [.string n]
theorem stab_int (k : IntKind) : Stab (AInt k) := fun _ _ _ _ h _ => h
theorem stab_bool : Stab ABool := fun _ _ _ _ h _ => h
theorem stab_str : Stab AStr := fun _ _ _ _ h _ => h
theorem aopen_int {P : Program} {t : TypeId} {k : IntKind} (ht : P.underlying t = some (.int k)) : AOpen P t (AInt k) (fun n => (Lit.int k n).wf = true) := by
  intro Hy enc w base spare held fuel cs x h
  obtain ⟨n, rfl, _, hw⟩ := DataW.trod_int ht h
  exact ⟨n, hw, fun φ H hh hr => ⟨φ, H, _, hh, hr, Ext.refl H, fun b hb => ⟨hb, rfl⟩, rfl, RL.cons (.int _ _) RL.nil⟩⟩
theorem aopen_bool {P : Program} {t : TypeId} (ht : P.underlying t = some .bool) : AOpen P t ABool (fun _ => True) := by
  intro Hy enc w base spare held fuel cs x h
  obtain ⟨n, rfl, _⟩ := DataW.trod_bool ht h
  exact ⟨n, trivial, fun φ H hh hr => ⟨φ, H, _, hh, hr, Ext.refl H, fun b hb => ⟨hb, rfl⟩, rfl, RL.cons (.bool _) RL.nil⟩⟩
theorem aopen_str {P : Program} {t : TypeId} (ht : P.underlying t = some .string) : AOpen P t AStr (fun s => s.size ≤ maxLen) := by
  intro Hy enc w base spare held fuel cs x h
  obtain ⟨n, rfl, _, hw⟩ := DataW.trod_string ht h
  exact ⟨n, hw, fun φ H hh hr => ⟨φ, H, _, hh, hr, Ext.refl H, fun b hb => ⟨hb, rfl⟩, rfl, RL.cons (.string _) RL.nil⟩⟩
theorem cells?_get {w : World} {base n : Nat} {a : Addr} {cs : List Value} (h : w.cells? base a n = some cs) : cs.length = n ∧ ∀ (i : Nat) u, cs[i]? = some u → w.cell? (a.add i) = some u := by
  unfold World.cells? at h
  split at h
  · rename_i hb
    have key : ∀ (l : List Nat) (cs : List Value), l.mapM (fun i => w.cell? (a.add i)) = some cs → cs.length = l.length ∧ ∀ (i : Nat) u, cs[i]? = some u → ∃ j : Nat, l[i]? = some j ∧ w.cell? (a.add j) = some u := by
      intro l
      induction l with
      | nil => intro cs h; simp at h; subst h; exact ⟨rfl, fun i u hu => by simp at hu⟩
      | cons b l ih =>
        intro cs h
        rw [List.mapM_cons] at h
        simp only [bind, Option.bind_eq_some_iff, pure, Option.some.injEq] at h
        obtain ⟨c, hc, r, hr, rfl⟩ := h
        obtain ⟨h1, h2⟩ := ih r hr
        refine ⟨by simp [h1], fun i u hu => ?_⟩
        cases i with
        | zero => simp at hu; subst hu; exact ⟨b, rfl, hc⟩
        | succ i => simp at hu; obtain ⟨j, hj, hj2⟩ := h2 i u hu; exact ⟨j, by simpa using hj, hj2⟩
    obtain ⟨h1, h2⟩ := key _ _ h
    refine ⟨by simpa using h1, fun i u hu => ?_⟩
    obtain ⟨j, hj, hc⟩ := h2 i u hu
    have hi : i < (List.range n).length := (List.getElem?_eq_some_iff.1 hj).1
    rw [List.getElem?_eq_getElem hi] at hj
    simp at hj
    subst hj
    exact hc
  · simp at h
theorem cell_spot {w : World} {a : Addr} {u : Value} (h : w.cell? a = some u) : a.spot = none ∧ a.block < w.heap.size := by
  unfold World.cell? at h
  split at h
  · rename_i c e f hg
    split at h
    · simp at h
    · rename_i hs
      exact ⟨by cases e : a.spot with
        | none => rfl
        | some s => rw [e] at hs; simp at hs, (Array.getElem?_eq_some_iff.1 hg).1⟩
  · simp at h
/-- A slice's elements. -/
def ASl {α : Type} (sz : Nat) (Ae : Heap → α → List Value → Prop) (H : Heap) (l : List α) (cs : List Value) : Prop :=
  ∃ p k, cs = [.slice p l.length k] ∧ (p = none → k = 0) ∧ ∀ j y, l[j]? = some y → ∃ b ds ro, p = some ⟨b, 0, none⟩ ∧ b < H.size ∧ H.get b = .cells ds sz ro ∧ j * sz + sz ≤ ds.length ∧ Ae H y ((ds.drop (j * sz)).take sz)
theorem stab_sl {α : Type} {sz : Nat} {Ae : Heap → α → List Value → Prop} (h : Stab Ae) : Stab (ASl sz Ae) := by
  rintro H H' l cs ⟨p, k, rfl, hp, hh⟩ hx
  refine ⟨p, k, rfl, hp, fun j y hj => ?_⟩
  obtain ⟨b, ds, ro, rfl, hb, hg, hl, ha⟩ := hh j y hj
  exact ⟨b, ds, ro, rfl, Nat.lt_of_lt_of_le hb hx.size, (hx.get b hb).trans hg, hl, h _ _ _ _ ha hx⟩
theorem aopen_slice {P : Program} {t e : TypeId} {α : Type} {sz : Nat} {Ae : Heap → α → List Value → Prop} {good : α → Prop} (ht : P.underlying t = some (.slice e)) (hc : P.cellsOf e = sz) (hsz : 0 < sz) (hst : Stab Ae) (he : AOpen P e Ae good) :
    AOpen P t (ASl sz Ae) (fun l => l.length ≤ maxLen ∧ ∀ x ∈ l, good x) := by
  intro Hy enc w base spare held fuel cs x h
  rcases open_slice ht h with ⟨rfl, _⟩ | ⟨a, len, cap, m, n, D, Pl, rfl, hb, hl, hm, hmm, rfl, hx⟩
  · exact ⟨[], ⟨Nat.zero_le _, by simp⟩, fun φ H hh hr => ⟨φ, H, _, hh, hr, Ext.refl H, fun b hb => ⟨hb, rfl⟩, ⟨none, 0, rfl, fun _ => rfl, fun j y hj => by simp at hj⟩, RL.cons .slice0 RL.nil⟩⟩
  · have hlm : len ≤ m := by rw [hmm]; split <;> omega
    rw [hc] at hx
    have key : ∀ i, i ≤ len → ∃ ys : List α, ys.length = i ∧ (∀ y ∈ ys, good y) ∧ ∀ φ H, Holds φ H w → RO H → ∃ (φ' : Nat → Img) (H' : Heap) (ds : List Value), Holds φ' H' w ∧ RO H' ∧ Ext H H' ∧ (∀ b, H.has b → H'.has b ∧ φ' b = φ b) ∧ ds.length = i * sz ∧
        (∀ j y, ys[j]? = some y → Ae H' y ((ds.drop (j * sz)).take sz)) ∧ ∀ (q : Nat) v, ds[q]? = some v → ∃ u, w.cell? (a.add q) = some u ∧ R φ' H'.has v u := by
      intro i
      induction i with
      | zero => exact fun _ => ⟨[], rfl, by simp, fun φ H hh hr => ⟨φ, H, [], hh, hr, Ext.refl H, fun b hb => ⟨hb, rfl⟩, by simp, fun j y hj => by simp at hj, fun q v hq => by simp at hq⟩⟩
      | succ i ih =>
        intro hi
        obtain ⟨ys, hyl, hyg, hys⟩ := ih (by omega)
        obtain ⟨c2, hc1, hc2⟩ := hx i (by omega)
        obtain ⟨y, hyg2, hy⟩ := he hc2
        obtain ⟨hcl, hcg⟩ := cells?_get hc1
        refine ⟨ys ++ [y], by simp [hyl], fun z hz => ?_, fun φ H hh hr => ?_⟩
        · rcases List.mem_append.1 hz with hz | hz
          · exact hyg z hz
          · simp at hz; subst hz; exact hyg2
        · obtain ⟨φ1, H1, ds, h1, h2, h3, h4, h5, h6, h7⟩ := hys φ H hh hr
          obtain ⟨φ2, H2, c3, k1, k2, k3, k4, k5, k6⟩ := hy φ1 H1 h1 h2
          have hc3 : c3.length = sz := by rw [k6.1, hcl]
          refine ⟨φ2, H2, ds ++ c3, k1, k2, h3.trans k3, fun b hb => ⟨(k4 b (h4 b hb).1).1, (k4 b (h4 b hb).1).2.trans (h4 b hb).2⟩, by rw [List.length_append, h5, hc3, Nat.succ_mul], fun j z hj => ?_, fun q v hq => ?_⟩
          · by_cases hji : j < i
            · rw [List.getElem?_append_left (by omega)] at hj
              have hle : j * sz + sz ≤ ds.length := by
                rw [h5, ← Nat.succ_mul]; exact Nat.mul_le_mul_right _ hji
              rw [List.drop_append_of_le_length (by omega), List.take_append_of_le_length (by rw [List.length_drop]; omega)]
              exact hst _ _ _ _ (h6 j z hj) k3
            · have hlt := (List.getElem?_eq_some_iff.1 hj).1
              rw [List.length_append, hyl] at hlt
              have hji' : j = i := by simp at hlt; omega
              subst hji'
              rw [List.getElem?_append_right (by omega), hyl, Nat.sub_self] at hj
              simp at hj
              subst hj
              rw [← h5, List.drop_left, List.take_of_length_le (by omega)]
              exact k5
          · by_cases hqi : q < ds.length
            · rw [List.getElem?_append_left hqi] at hq
              obtain ⟨u, hu1, hu2⟩ := h7 q v hq
              exact ⟨u, hu1, hu2.mono k4⟩
            · rw [List.getElem?_append_right (by omega)] at hq
              have hq2 := (List.getElem?_eq_some_iff.1 hq).1
              have hlt : q - ds.length < c2.length := by rw [hcl]; omega
              refine ⟨c2[q - ds.length], ?_, k6.2 _ _ _ hq (List.getElem?_eq_getElem hlt)⟩
              have := hcg _ _ (List.getElem?_eq_getElem hlt)
              rw [add_add, ← h5, show ds.length + (q - ds.length) = q by omega] at this
              exact this
    obtain ⟨ys, hyl, hyg, hys⟩ := key len (Nat.le_refl _)
    refine ⟨ys, ⟨by omega, hyg⟩, fun φ H hh hr => ?_⟩
    obtain ⟨φ1, H1, ds, h1, h2, h3, h4, h5, h6, h7⟩ := hys φ H hh hr
    by_cases hz : len = 0
    · subst hz
      cases hsp : a.spot with
      | some s =>
        exact ⟨φ1, H1, [.slice (some a) 0 (cap + 1)], h1, h2, h3, h4, ⟨some a, cap + 1, by rw [hyl], fun h => (by cases h), fun j y hj => by have := (List.getElem?_eq_some_iff.1 hj).1; omega⟩, RL.cons (.slf a cap (by rw [hsp]; rfl)) RL.nil⟩
      | none =>
        obtain ⟨k1, k2, k3, k4⟩ := h1.push_ro h2 .dead ⟨a.block, a.off, 0, 0⟩ rfl (by simp) (fun _ _ _ h => by cases h)
        refine ⟨_, _, [.slice (some ⟨H1.size, 0, none⟩) 0 (cap + 1)], k1, k2, h3.trans k3, fun b hb => ⟨(k4 b (h4 b hb).1).1, (k4 b (h4 b hb).1).2.trans (h4 b hb).2⟩, ⟨_, cap + 1, by rw [hyl], fun h => (by cases h), fun j y hj => by have := (List.getElem?_eq_some_iff.1 hj).1; omega⟩, RL.cons ?_ RL.nil⟩
        have := R.slx (φ := upd φ1 H1.size ⟨a.block, a.off, 0, 0⟩) (has := (H1.push .dead).has) H1.size 0 0 cap (by unfold Heap.has; rw [Heap.get_push, if_pos rfl]; simp) (Nat.zero_le _)
        unfold upd at this
        rw [if_pos rfl] at this
        obtain ⟨ab, ao, as⟩ := a
        dsimp only at hsp
        subst hsp
        exact this
    · have hd0 : 0 < ds.length := by rw [h5]; exact Nat.mul_pos (by omega) hsz
      obtain ⟨u0, hu0, _⟩ := h7 0 _ (List.getElem?_eq_getElem hd0)
      obtain ⟨hsp, hblk⟩ := cell_spot hu0
      have hsp' : a.spot = none := by
        obtain ⟨ab, ao, as⟩ := a
        cases as with
        | none => rfl
        | some s => simp [Addr.add] at hsp
      obtain ⟨ab, ao, as⟩ := a
      dsimp only at hsp'
      subst hsp'
      rw [add_off] at hblk
      obtain ⟨k1, k2, k3, k4⟩ := h1.push_ro h2 (.cells ds sz true) ⟨ab, ao, 0, sz⟩ rfl (by simp) (fun cs es r e => by
        injection e with e1 e2 e3
        subst e1 e2 e3
        refine ⟨rfl, rfl, hsz, hblk, fun j v hj => ?_⟩
        obtain ⟨u, hu1, hu2⟩ := h7 j v hj
        rw [add_off] at hu1
        exact ⟨u, hu1, hu2⟩)
      refine ⟨_, _, [.slice (some ⟨H1.size, 0, none⟩) len (cap + 1)], k1, k2, h3.trans k3, fun b hb => ⟨(k4 b (h4 b hb).1).1, (k4 b (h4 b hb).1).2.trans (h4 b hb).2⟩, ⟨_, cap + 1, by rw [hyl], fun h => (by cases h), fun j y hj => ?_⟩, RL.cons ?_ RL.nil⟩
      · have hj2 := (List.getElem?_eq_some_iff.1 hj).1
        refine ⟨H1.size, ds, true, rfl, by rw [Heap.size_push]; omega, get_push_eq rfl, ?_, hst _ _ _ _ (h6 j y hj) k3⟩
        rw [h5, ← Nat.succ_mul]
        exact Nat.mul_le_mul_right _ (by omega)
      · have := R.slx (φ := upd φ1 H1.size ⟨ab, ao, 0, sz⟩) (has := (H1.push (.cells ds sz true)).has) H1.size 0 len cap (by unfold Heap.has; rw [Heap.get_push, if_pos rfl]; simp) hl
        unfold upd at this
        rw [if_pos rfl] at this
        exact this
/-- Two readings side by side. -/
def APr {α β : Type} (A : Heap → α → List Value → Prop) (B : Heap → β → List Value → Prop) (H : Heap) (x : α × β) (cs : List Value) : Prop := ∃ c1 c2, cs = c1 ++ c2 ∧ A H x.1 c1 ∧ B H x.2 c2
theorem stab_pr {α β : Type} {A : Heap → α → List Value → Prop} {B : Heap → β → List Value → Prop} (hA : Stab A) (hB : Stab B) : Stab (APr A B) := by
  rintro H H' x cs ⟨c1, c2, rfl, h1, h2⟩ hx
  exact ⟨c1, c2, rfl, hA _ _ _ _ h1 hx, hB _ _ _ _ h2 hx⟩
/-- A struct's fields from one of them on. -/
def AOpenL (P : Program) (fs : List Field) (off sz : Nat) {α : Type} (A : Heap → α → List Value → Prop) (good : α → Prop) : Prop :=
  ∀ {Hy : Type} {enc : TypeId × Value → Hy} {w : World} {base : Nat} {spare : Nat → Bool} {held : Bool} {fuel : Nat} {cs : List Value},
    (∀ f ∈ fs, ∃ x : DataW Hy × List MemPlace, DataW.trod enc P w base spare held fuel f.type ((cs.drop f.offset).take (P.cellsOf f.type)) = some x) → cs.length = off + sz →
    ∃ y, good y ∧ ∀ φ H, Holds φ H w → RO H → ∃ φ' H' cs', Holds φ' H' w ∧ RO H' ∧ Ext H H' ∧ (∀ b, H.has b → H'.has b ∧ φ' b = φ b) ∧ A H' y cs' ∧ RL φ' H'.has cs' (cs.drop off)
theorem aopenL_one {P : Program} {f : Field} {off sz : Nat} {t : TypeId} {α : Type} {A : Heap → α → List Value → Prop} {good : α → Prop} (ht : f.type = t) (ho : f.offset = off) (hc : P.cellsOf t = sz) (h : AOpen P t A good) : AOpenL P [f] off sz A good := by
  intro Hy enc w base spare held fuel cs hx hl
  obtain ⟨x, hx⟩ := hx f (by simp)
  rw [ht, ho, hc] at hx
  rw [List.take_of_length_le (by rw [List.length_drop]; omega)] at hx
  exact h hx
theorem aopenL_cons {P : Program} {f : Field} {fs : List Field} {off sz sz2 : Nat} {t : TypeId} {α β : Type} {A : Heap → α → List Value → Prop} {B : Heap → β → List Value → Prop} {good : α → Prop} {good2 : β → Prop} (ht : f.type = t) (ho : f.offset = off) (hc : P.cellsOf t = sz) (hst : Stab A) (h : AOpen P t A good) (hs : AOpenL P fs (off + sz) sz2 B good2) :
    AOpenL P (f :: fs) off (sz + sz2) (APr A B) (fun p => good p.1 ∧ good2 p.2) := by
  intro Hy enc w base spare held fuel cs hx hl
  obtain ⟨x, hx0⟩ := hx f (by simp)
  rw [ht, ho, hc] at hx0
  obtain ⟨y, gy, hy⟩ := h hx0
  obtain ⟨z, gz, hz⟩ := hs (fun f' hf' => hx f' (by simp [hf'])) (by rw [hl]; omega)
  refine ⟨(y, z), ⟨gy, gz⟩, fun φ H hh hr => ?_⟩
  obtain ⟨φ1, H1, c1, h1, h2, h3, h4, h5, h6⟩ := hy φ H hh hr
  obtain ⟨φ2, H2, c2, k1, k2, k3, k4, k5, k6⟩ := hz φ1 H1 h1 h2
  refine ⟨φ2, H2, c1 ++ c2, k1, k2, h3.trans k3, fun b hb => ⟨(k4 b (h4 b hb).1).1, (k4 b (h4 b hb).1).2.trans (h4 b hb).2⟩, ⟨c1, c2, rfl, hst _ _ _ _ h5 k3, k5⟩, ?_⟩
  have := (h6.mono k4).append k6
  rw [← List.drop_drop, List.take_append_drop] at this
  exact this
theorem aopen_struct {P : Program} {t : TypeId} {fs : Array Field} {l : List Field} {sz : Nat} {α : Type} {A : Heap → α → List Value → Prop} {good : α → Prop} (ht : P.underlying t = some (.struct fs)) (hl : fs.toList = l) (hc : P.cellsOf t = sz) (h : AOpenL P l 0 sz A good) : AOpen P t A good := by
  intro Hy enc w base spare held fuel cs x hx
  obtain ⟨xs, n, rfl, _, hlen, hsz, hf⟩ := DataW.trod_struct ht hx
  obtain ⟨y, gy, hy⟩ := h (Hy := Hy) (enc := enc) (w := w) (base := base) (spare := spare) (held := held) (fuel := n) (cs := cs) (fun q hq => by
    rw [← hl] at hq
    obtain ⟨i, hi, rfl⟩ := List.getElem_of_mem hq
    have h1 := hf i _ (by rw [← Array.getElem?_toList, List.getElem?_eq_getElem hi])
    have hi' : i < xs.length := by rw [hsz]; simpa using hi
    exact ⟨xs[i], h1.trans (List.getElem?_eq_getElem hi')⟩) (by rw [hlen, hc]; omega)
  exact ⟨y, gy, hy⟩
/-- An abstract call that answers true, over blocks that are only read: the world below is as it was. -/
theorem calls_true {P : Program} {f : FuncId} {args : List Value} {args' : Array Value} {H : Heap} {φ : Nat → Img} {W : World} (h : ACalls P f args H fun v _ => v = .bool true) (hh : Holds φ H W) (ro : RO H) (ha : RA φ H.has args.toArray args') :
    Calls P f args' W fun e w' => e = .returned (.bool true) ∧ Below W.heap.size W w' := by
  refine (h.2 φ args' W hh ha).mono ?_
  rintro e w' ⟨φ', v, v', H', rfl, rfl, hr, hh', ok⟩
  rw [hr.bool_inv]
  exact ⟨rfl, ⟨ok.os, ok.tape, ok.output, ok.wsize, fun k hk => ok.frame k hk (fun b hb => by rw [ro b] at hb; cases hb)⟩⟩
end Go.Proofs.Ytpbbfephfmdgmaa.Rai
