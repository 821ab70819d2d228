/- A part of the walk: what functions of the program do, over an abstract heap. -/
import Derived.Test.YtmoknllbpjpkmaaGreatZedB
namespace Go.Proofs.YtmoknllbpjpkmaaGreat.Zed
open Go
set_option linter.unusedVariables false
set_option linter.unusedSimpArgs false
/-! ### Freezing; what a function gives back -/
section
variable {φ φ' : Ren} {H H' : Heap} {w : World}
open Classical in
/-- The blocks of G are frozen. -/
noncomputable def Ren.ice (φ : Ren) (G : Nat → Prop) (w : World) : Ren := { φ with fz := fun β i => if ∃ g, G g ∧ (φ g).blk = β then w.cell? ⟨β, i, none⟩ else φ.fz β i }
theorem ice_in {G : Nat → Prop} {β i : Nat} (h : ∃ g, G g ∧ (φ g).blk = β) : (φ.ice G w).fz β i = w.cell? ⟨β, i, none⟩ := if_pos h
theorem ice_out {G : Nat → Prop} {β i : Nat} (h : ¬ ∃ g, G g ∧ (φ g).blk = β) : (φ.ice G w).fz β i = φ.fz β i := if_neg h
theorem Holds.ice (h : Holds φ H w) (G : Nat → Prop) (hG : ∀ g, G g → (H.get g).wr = true) (hs : H'.size = H.size) (h1 : ∀ b, ¬ G b → H'.get b = H.get b) (h2 : ∀ b, G b → H'.get b = .dead) : Holds (φ.ice G w) H' w ∧ Ok φ H w (φ.ice G w) H' w := by
  have hfz : ∀ β i u, φ.fz β i = some u → (φ.ice G w).fz β i = some u := fun β i u hf => by
    by_cases hb : ∃ g, G g ∧ (φ g).blk = β
    · obtain ⟨g, hg, rfl⟩ := hb
      rw [h.rest.unf g (hG g hg) i] at hf; cases hf
    · rw [ice_out hb]; exact hf
  have hm : Le φ H.has (φ.ice G w) H'.has := by
    refine ⟨fun b hb => ⟨?_, rfl⟩, hfz, fun _ _ => .inl ⟨rfl, rfl⟩⟩
    unfold Heap.has
    by_cases hg : G b
    · rw [h2 b hg]; simp
    · rw [h1 b hg]; exact hb
  have hc : ∀ b y, H'.get b = y → y ≠ .dead → ¬ G b ∧ H.get b = y := fun b y hy hd => by
    by_cases hg : G b
    · rw [h2 b hg] at hy; exact absurd hy.symm hd
    · rw [h1 b hg] at hy; exact ⟨hg, hy⟩
  have hlv : ∀ b, (H'.get b).live = true → ¬ G b ∧ (H.get b).live = true := fun b hb => by
    obtain ⟨q1, q2⟩ := hc b _ rfl (fun e => by rw [e] at hb; cases hb)
    exact ⟨q1, by rw [q2]; exact hb⟩
  have hwv : ∀ b, (H'.get b).wr = true → ¬ G b ∧ (H.get b).wr = true := fun b hb => by
    obtain ⟨q1, q2⟩ := hc b _ rfl (fun e => by rw [e] at hb; cases hb)
    exact ⟨q1, by rw [q2]; exact hb⟩
  have hnb : ∀ b, ¬ G b → (H.get b).live = true → ¬ ∃ g, G g ∧ (φ g).blk = (φ b).blk := fun b hb hl => by
    rintro ⟨g, hg, e⟩
    exact h.apart b g (fun q => hb (q ▸ hg)) hl (hG g hg) e.symm
  refine ⟨⟨fun b hb => ?_, ?_, ?_, ?_, ?_, ?_, ?_, ⟨?_, ?_, ?_, ?_, ?_, ?_⟩⟩, ⟨by omega, fun _ _ => rfl, fun b hb => (hm.img b hb).1, rfl, rfl, rfl, Nat.le_refl _, fun _ _ _ => rfl, ?_, hfz, fun _ _ => .inl ⟨rfl, rfl⟩⟩⟩
  · rw [hs] at hb
    have := h.wf b hb
    rw [h1 b (fun hg => by have := hG b hg; rw [h.wf b hb] at this; cases this)]
    exact this
  · intro b cs es ro hb j v hj
    obtain ⟨_, hb⟩ := hc b _ hb (by simp)
    obtain ⟨u, hu1, hu2⟩ := h.cell b cs es ro hb j v hj
    exact ⟨u, hu1, hu2.mono hm⟩
  · intro b cs es hb
    exact h.row b cs es (hc b _ hb (by simp)).2
  · intro b cs es ro hb
    exact h.es b cs es ro (hc b _ hb (by simp)).2
  · intro b es hb
    obtain ⟨en, ck, h4, hr⟩ := h.map b es (hc b _ hb (by simp)).2
    exact ⟨en, ck, h4, hr.1, fun j k v e q1 q2 => ⟨(hr.2 j k v e q1 q2).1, (hr.2 j k v e q1 q2).2.mono hm⟩⟩
  · intro b hb; exact h.lt b (hlv b hb).2
  · intro b c hbc hb hc'; exact h.apart b c hbc (hlv b hb).2 (hwv c hc').2
  · intro β i u hf
    by_cases hb : ∃ g, G g ∧ (φ g).blk = β
    · rw [ice_in hb] at hf; exact hf
    · rw [ice_out hb] at hf; exact h.rest.froz β i u hf
  · intro b hb i
    obtain ⟨q1, q2⟩ := hwv b hb
    show (φ.ice G w).fz (φ b).blk i = none
    rw [ice_out (hnb b q1 (Blk.live_of_wr q2))]
    exact h.rest.unf b q2 i
  · intro b n es hb
    obtain ⟨_, hb⟩ := hc b _ hb (by simp)
    obtain ⟨q1, q2, q3⟩ := h.rest.tok b n es hb
    refine ⟨q1, q2, q3.imp id ?_⟩
    rintro ⟨q3, q4, q5, q6⟩
    refine ⟨q3, q4, q5, fun i hi => ?_⟩
    show (φ.ice G w).fz (φ.ti b).blk i = none
    rw [ice_out]
    · exact q6 i hi
    · rintro ⟨g, hg, e⟩
      exact h.rest.tap b n es g hb (by omega) (Blk.live_of_wr (hG g hg)) e
  · intro b n es c hb he hc'
    exact h.rest.tap b n es c (hc b _ hb (by simp)).2 he (hlv c hc').2
  · intro b c n es n' es' hbc hb hc' he he'
    exact h.rest.tap2 b c n es n' es' hbc (hc b _ hb (by simp)).2 (hc c _ hc' (by simp)).2 he he'
  · intro b hb
    exact h.rest.tl0 b (by omega)
  · intro β hβ
    rcases hβ with ⟨b, hb, rfl⟩ | ⟨b, n, es, hb, he, rfl⟩
    · exact .inr (.inl ⟨b, (hwv b hb).2, rfl⟩)
    · exact .inr (.inr ⟨b, n, es, (hc b _ hb (by simp)).2, he, rfl⟩)
/-- What a value tells under one renaming it tells under another one that knows its names. -/
theorem R.vis {h1 h0 h2 : Nat → Prop} {φ0 φ2 : Ren} {v u u0 : Value} (h : R φ h1 v u) (k : R φ0 h0 v u0) (himg : ∀ b, h0 b → h2 b ∧ φ2 b = φ b) (hfz : ∀ β i x, φ.fz β i = some x → φ2.fz β i = some x) (htl : ∀ b, φ0.tl b ≠ 0 → φ2.tl b = φ.tl b ∧ φ2.ti b = φ.ti b) : R φ2 h2 v u := by
  induction h generalizing u0 with
  | bool b => exact .bool b
  | int kk n => exact .int kk n
  | string s => exact .string s
  | ptr0 => exact .ptr0
  | ptr b o h =>
    have hb : h0 b := by cases k <;> first | assumption | simp_all
    rw [← (himg b hb).2]; exact .ptr b o (himg b hb).1
  | slice0 => exact .slice0
  | slx b o n c h hc =>
    have hb : h0 b := by cases k <;> first | assumption | simp_all
    rw [← (himg b hb).2]; exact .slx b o n c (himg b hb).1 hc
  | sl b o n c h hc he hs =>
    have hb : h0 b := by cases k <;> first | assumption | simp_all
    rw [← (himg b hb).2] at he hs ⊢; exact .sl b o n c (himg b hb).1 hc he hs
  | slf a c h => exact .slf a c h
  | map0 => exact .map0
  | map b h =>
    have hb : h0 b := by cases k <;> first | assumption | simp_all
    rw [← (himg b hb).2]; exact .map b (himg b hb).1
  | nilFunc => exact .nilFunc
  | nilIface => exact .nilIface
  | func fn xs ys xs' ys' h1 h2 hx hy ihx ihy =>
    cases k with
    | func _ _ _ xs2 ys2 g1 g2 gx gy =>
      refine .func fn xs ys xs' ys' h1 h2 (fun i x x' hi hi' => ?_) (fun i x x' hi hi' => ?_)
      · have hlt : i < xs2.size := by rw [← g1]; exact (Array.getElem?_eq_some_iff.1 hi).1
        exact ihx i x x' hi hi' (gx i x _ hi (Array.getElem?_eq_getElem hlt))
      · have hlt : i < ys2.size := by rw [← g2]; exact (Array.getElem?_eq_some_iff.1 hi).1
        exact ihy i x x' hi hi' (gy i x _ hi (Array.getElem?_eq_getElem hlt))
  | agg xs xs' h1 hx ih =>
    cases k with
    | agg _ xs2 g1 gx =>
      refine .agg xs xs' h1 fun i x x' hi hi' => ?_
      have hlt : i < xs2.size := by rw [← g1]; exact (Array.getElem?_eq_some_iff.1 hi).1
      exact ih i x x' hi hi' (gx i x _ hi (Array.getElem?_eq_getElem hlt))
  | tuple xs xs' h1 hx ih =>
    cases k with
    | tuple _ xs2 g1 gx =>
      refine .tuple xs xs' h1 fun i x x' hi hi' => ?_
      have hlt : i < xs2.size := by rw [← g1]; exact (Array.getElem?_eq_some_iff.1 hi).1
      exact ih i x x' hi hi' (gx i x _ hi (Array.getElem?_eq_getElem hlt))
  | fz es n c β base cs us hs hl hc hf hr ih =>
    refine .fz es n c β base cs us hs hl hc (fun i hi => hfz _ _ _ (hf i hi)) fun i x hi => ?_
    obtain ⟨a, c2, _, h3⟩ := k.fz_inv
    rcases h3 with ⟨_, rfl, _⟩ | ⟨β2, b2, us2, _, _, _, _, _, q⟩
    · simp at hi
    · exact ih i x hi (q i x hi)
  | fz0 es a c h => exact .fz0 es a c h
  | pz β base o cs us hf hr ih =>
    refine .pz β base o cs us (fun i hi => hfz _ _ _ (hf i hi)) fun i x hi => ?_
    obtain ⟨β2, b2, us2, _, _, q⟩ := k.pz_inv
    exact ih i x hi (q i x hi)
  | gz tag es n cs u h hn hc ih =>
    obtain ⟨k1, k2, _⟩ := k.gz_inv
    obtain ⟨e1, e2⟩ := htl tag (by omega)
    refine .gz tag es n cs u (ih k1) (by rw [e1]; exact hn) (fun e => ?_)
    have := hc (by omega)
    unfold GCur at this ⊢
    rw [e2]; exact this
  | kz es n cs u h hc ih => exact .kz es n cs u (ih k.kz_inv.1) hc
  | junk u h => exact .junk u h
/-- Nothing but what is frozen says what this value tells. -/
def Cl (r : Value) : Prop := ∀ (φ φ2 : Ren) (h1 h2 : Nat → Prop) (u : Value), (∀ β i x, φ.fz β i = some x → φ2.fz β i = some x) → R φ h1 r u → R φ2 h2 r u
theorem Cl.flat {r : Value} (h : flat r = true) : Cl r := fun φ φ2 h1 h2 u _ hr => by rw [R.flat_eq h hr]; exact R.of_flat h
theorem Cl.int (k : IntKind) (n : Int) : Cl (.int k n) := Cl.flat rfl
theorem Cl.bool (b : Bool) : Cl (.bool b) := Cl.flat rfl
theorem Cl.string (s : ByteArray) : Cl (.string s) := Cl.flat rfl
theorem Cl.fz {es n : Nat} {cs : List Value} (h : ∀ x ∈ cs, Cl x) : Cl (FZ es n cs) := fun φ φ2 h1 h2 u hf hr => by
  obtain ⟨a, c, rfl, h3⟩ := hr.fz_inv
  rcases h3 with ⟨rfl, rfl, h4⟩ | ⟨β, base, us, rfl, hs, hl, hc, g1, g2⟩
  · exact .fz0 _ _ _ h4
  · exact .fz es n c β base cs us hs hl hc (fun i hi => hf _ _ _ (g1 i hi)) fun i x hi => h x (List.mem_of_getElem? hi) φ φ2 h1 h2 _ hf (g2 i x hi)
theorem Cl.agg {l : List Value} (h : ∀ x ∈ l, Cl x) : Cl (.agg l.toArray) := fun φ φ2 h1 h2 u hf hr => by
  obtain ⟨cs', rfl, hcs⟩ := hr.agg_inv
  exact R.agg_mk ⟨hcs.1, fun i x x' hi hi' => h x (List.mem_of_getElem? (by simpa using hi)) φ φ2 h1 h2 _ hf (hcs.2 i x x' hi hi')⟩
theorem Cl.tuple {l : List Value} (h : ∀ x ∈ l, Cl x) : Cl (.tuple l.toArray) := fun φ φ2 h1 h2 u hf hr => by
  obtain ⟨cs', rfl, hcs⟩ := hr.tuple_inv
  exact R.tuple_mk ⟨hcs.1, fun i x x' hi hi' => h x (List.mem_of_getElem? (by simpa using hi)) φ φ2 h1 h2 _ hf (hcs.2 i x x' hi hi')⟩
theorem Cl.nil : ∀ x ∈ ([] : List Value), Cl x := fun x hx => by cases hx
theorem Cl.cons {x : Value} {l : List Value} (h : Cl x) (g : ∀ y ∈ l, Cl y) : ∀ y ∈ x :: l, Cl y := fun y hy => by
  rcases List.mem_cons.1 hy with rfl | hy
  · exact h
  · exact g y hy
theorem Cl.map {α : Type} {l : List α} {f : α → Value} (h : ∀ x, Cl (f x)) : ∀ y ∈ l.map f, Cl y := fun y hy => by
  obtain ⟨x, _, rfl⟩ := List.mem_map.1 hy; exact h x
theorem Cl.ints (l : List Int) : ∀ y ∈ ints l, Cl y := Cl.map fun x => Cl.int _ x
/-- The value v, in this heap, may be told as r once nobody writes any more what lies at lo or behind. -/
inductive FinV (lo : Nat) (H : Heap) : Value → Value → Prop
  | cl {r : Value} (h : Cl r) : FinV lo H r r
  | gz {tag es n : Nat} {cs : List Value} (h : ∀ x ∈ cs, Cl x) : FinV lo H (GZ tag es n cs) (FZ es n cs)
  | nil (es : Nat) : FinV lo H (.slice none 0 0) (FZ es 0 [])
  | own {g o n c es : Nat} {cs rs : List Value} (hg : lo ≤ g) (hget : H.get g = .cells cs es false) (hl : o + n * es ≤ cs.length) (hr : rs.length = n * es) (h : ∀ (i : Nat) (x r : Value), cs[o + i]? = some x → rs[i]? = some r → FinV lo H x r) : FinV lo H (.slice (some ⟨g, o, none⟩) n c) (FZ es n rs)
  | agg {l l' : List Value} (hl : l.length = l'.length) (h : ∀ (i : Nat) (x r : Value), l[i]? = some x → l'[i]? = some r → FinV lo H x r) : FinV lo H (.agg l.toArray) (.agg l'.toArray)
  | tuple {l l' : List Value} (hl : l.length = l'.length) (h : ∀ (i : Nat) (x r : Value), l[i]? = some x → l'[i]? = some r → FinV lo H x r) : FinV lo H (.tuple l.toArray) (.tuple l'.toArray)
theorem FinV.fz {lo : Nat} {es n : Nat} {cs : List Value} (h : ∀ x ∈ cs, Cl x) : FinV lo H (FZ es n cs) (FZ es n cs) := .cl (.fz h)
/-- The heap's part that was there, what is new being frozen. -/
theorem Holds.fin {φ0 : Ren} {w0 : World} (h0 : Holds φ0 H w0) (h : Holds φ H' w) (ok : Ok φ0 H w0 φ H' w) (hx : Ext H H') : ∃ φ2, Holds φ2 H w ∧ Ok φ0 H w0 φ2 H w ∧ ∀ v r u, FinV H.size H' v r → R φ H'.has v u → R φ2 H.has r u := by
  let G : Nat → Prop := fun g => H.size ≤ g ∧ ∃ cs es, H'.get g = .cells cs es false
  have hGd : ∀ g, G g → (H'.get g).wr = true := fun g hg => by obtain ⟨_, cs, es, e⟩ := hg; rw [e]; rfl
  let φ2 : Ren := { φ.ice G w with tl := fun b => if b < H.size then φ.tl b else 0 }
  have hlt : ∀ b, H.has b → b < H.size := fun b hb => h0.lt_size hb
  have hget : ∀ b y, H.get b = y → y ≠ .absent → b < H.size ∧ H'.get b = y := fun b y hy ha => by
    have hb : b < H.size := hlt b (by unfold Heap.has; rw [hy]; exact ha)
    exact ⟨hb, by rw [hx.get b hb]; exact hy⟩
  have hfz : ∀ β i x, φ.fz β i = some x → φ2.fz β i = some x := fun β i x hf => by
    show (φ.ice G w).fz β i = some x
    by_cases hb : ∃ g, G g ∧ (φ g).blk = β
    · obtain ⟨g, hg, rfl⟩ := hb
      rw [h.rest.unf g (hGd g hg) i] at hf; cases hf
    · rw [ice_out hb]; exact hf
  have htl : ∀ b, b < H.size → φ2.tl b = φ.tl b := fun b hb => by show (if b < H.size then φ.tl b else 0) = _; rw [if_pos hb]
  have h0tl : ∀ b, φ0.tl b ≠ 0 → b < H.size := fun b hb => by
    rcases Nat.lt_or_ge b H.size with q | q
    · exact q
    · exact absurd (h0.rest.tl0 b q) hb
  have vis : ∀ {v u u0}, R φ H'.has v u → R φ0 H.has v u0 → R φ2 H.has v u := fun hr hr0 => hr.vis hr0 (fun b hb => ⟨hb, rfl⟩) hfz (fun b hb => ⟨htl b (h0tl b hb), rfl⟩)
  have hlv : ∀ b, (H.get b).live = true → b < H.size ∧ (H'.get b).live = true := fun b hb => by
    obtain ⟨q1, q2⟩ := hget b _ rfl (fun e => by rw [e] at hb; cases hb)
    exact ⟨q1, by rw [q2]; exact hb⟩
  have hwv : ∀ b, (H.get b).wr = true → b < H.size ∧ (H'.get b).wr = true := fun b hb => by
    obtain ⟨q1, q2⟩ := hget b _ rfl (fun e => by rw [e] at hb; cases hb)
    exact ⟨q1, by rw [q2]; exact hb⟩
  have hnb : ∀ b, b < H.size → (H'.get b).live = true → ¬ ∃ g, G g ∧ (φ g).blk = (φ b).blk := fun b hb hl => by
    rintro ⟨g, hg, e⟩
    exact h.apart b g (fun q => by have := hg.1; omega) hl (hGd g hg) e.symm
  have hown : ∀ β, Owns φ2 H β → Owns φ H' β := fun β hβ => by
    rcases hβ with ⟨b, hb, rfl⟩ | ⟨b, n, es, hb, he, rfl⟩
    · exact .inl ⟨b, (hwv b hb).2, rfl⟩
    · exact .inr ⟨b, n, es, (hget b _ hb (by simp)).2, he, rfl⟩
  refine ⟨φ2, ⟨h0.wf, ?_, ?_, ?_, ?_, ?_, ?_, ⟨?_, ?_, ?_, ?_, ?_, ?_⟩⟩, ⟨Nat.le_refl _, fun b hb => ok.img b hb, fun _ h => h, ok.os, ok.tape, ok.output, ok.wsize, ok.frame, fun β hβ => ok.wr β (hown β hβ), fun β i u hf => hfz _ _ _ (ok.fz β i u hf), fun b hb => ?_⟩, ?_⟩
  · intro b cs es ro hb j v hj
    obtain ⟨_, hb'⟩ := hget b _ hb (by simp)
    obtain ⟨u, hu1, hu2⟩ := h.cell b cs es ro hb' j v hj
    obtain ⟨u0, _, hu3⟩ := h0.cell b cs es ro hb j v hj
    exact ⟨u, hu1, vis hu2 hu3⟩
  · intro b cs es hb; exact h.row b cs es (hget b _ hb (by simp)).2
  · intro b cs es ro hb; exact h.es b cs es ro (hget b _ hb (by simp)).2
  · intro b es hb
    obtain ⟨en, ck, h4, hr⟩ := h.map b es (hget b _ hb (by simp)).2
    obtain ⟨en0, ck0, _, hr0⟩ := h0.map b es hb
    refine ⟨en, ck, h4, hr.1, fun j k v e q1 q2 => ⟨(hr.2 j k v e q1 q2).1, ?_⟩⟩
    have hj : j < en0.size := by rw [← hr0.1]; exact (List.getElem?_eq_some_iff.1 q1).1
    exact vis (hr.2 j k v e q1 q2).2 (hr0.2 j k v _ q1 (Array.getElem?_eq_getElem hj)).2
  · intro b hb; exact h.lt b (hlv b hb).2
  · intro b c hbc hb hc; exact h.apart b c hbc (hlv b hb).2 (hwv c hc).2
  · intro β i u hf
    have hf : (φ.ice G w).fz β i = some u := hf
    by_cases hb : ∃ g, G g ∧ (φ g).blk = β
    · rw [ice_in hb] at hf; exact hf
    · rw [ice_out hb] at hf; exact h.rest.froz β i u hf
  · intro b hb i
    obtain ⟨q1, q2⟩ := hwv b hb
    show (φ.ice G w).fz (φ b).blk i = none
    rw [ice_out (hnb b q1 (Blk.live_of_wr q2))]
    exact h.rest.unf b q2 i
  · intro b n es hb
    obtain ⟨q0, hb⟩ := hget b _ hb (by simp)
    obtain ⟨q1, q2, q3⟩ := h.rest.tok b n es hb
    refine ⟨by rw [htl b q0]; exact q1, q2, q3.imp id ?_⟩
    rintro ⟨q3, q4, q5, q6⟩
    refine ⟨q3, q4, q5, fun i hi => ?_⟩
    show (φ.ice G w).fz (φ.ti b).blk i = none
    rw [ice_out]
    · exact q6 i hi
    · rintro ⟨g, hg, e⟩
      exact h.rest.tap b n es g hb (by omega) (Blk.live_of_wr (hGd g hg)) e
  · intro b n es c hb he hc
    exact h.rest.tap b n es c (hget b _ hb (by simp)).2 he (hlv c hc).2
  · intro b c n es n' es' hbc hb hc he he'
    exact h.rest.tap2 b c n es n' es' hbc (hget b _ hb (by simp)).2 (hget c _ hc (by simp)).2 he he'
  · intro b hb
    show (if b < H.size then φ.tl b else 0) = 0
    rw [if_neg (by omega)]
  · rcases ok.tl b hb with ⟨e1, e2⟩ | q
    · exact .inl ⟨by rw [htl b (h0tl b hb)]; exact e1, e2⟩
    · exact .inr (by rw [htl b (h0tl b hb)]; exact q)
  · intro v r u hf
    induction hf generalizing u with
    | cl hcl => exact fun hr => hcl φ φ2 _ _ u hfz hr
    | gz hcl => exact fun hr => Cl.fz hcl φ φ2 _ _ u hfz hr.gz_inv.1
    | nil es =>
      intro hr
      rw [R.flat_eq (v := .slice none 0 0) rfl hr]
      exact .fz0 es none 0 fun _ => rfl
    | @own g o n c es cs rs hg hget hl hrl hh ih =>
      intro hr
      obtain ⟨_, hb, c', rfl, hnc, _⟩ := hr.slice_inv (.inl rfl)
      have hes := (h.es g cs es false hget).2
      refine .fz es n c' (φ g).blk ((φ g).base + o) rs (fun i => (w.cell? ⟨(φ g).blk, (φ g).base + o + i, none⟩).getD undef) hes hrl hnc (fun i hi => ?_) (fun i x hi => ?_)
      · have hi2 : o + i < cs.length := by omega
        obtain ⟨u, hu1, _⟩ := h.cell g cs es false hget (o + i) _ (List.getElem?_eq_getElem hi2)
        rw [← Nat.add_assoc] at hu1
        show (φ.ice G w).fz (φ g).blk _ = _
        rw [ice_in ⟨g, ⟨hg, cs, es, hget⟩, rfl⟩, hu1]
        rfl
      · have hi1 := (List.getElem?_eq_some_iff.1 hi).1
        have hi2 : o + i < cs.length := by omega
        obtain ⟨u, hu1, hu2⟩ := h.cell g cs es false hget (o + i) _ (List.getElem?_eq_getElem hi2)
        rw [← Nat.add_assoc] at hu1
        rw [hu1]
        exact ih i _ x (List.getElem?_eq_getElem hi2) hi u hu2
    | @agg l l' hl hh ih =>
      intro hr
      obtain ⟨cs', rfl, hcs⟩ := hr.agg_inv
      refine R.agg_mk ⟨by rw [← hcs.1]; simp [hl], fun i x x' hi hi' => ?_⟩
      have hi1 : i < l.toArray.size := by rw [hcs.1]; exact (Array.getElem?_eq_some_iff.1 hi').1
      have q := hcs.2 i _ x' (Array.getElem?_eq_getElem hi1) hi'
      exact ih i _ x (by rw [← List.getElem?_toArray, Array.getElem?_eq_getElem hi1]) (by simpa using hi) x' q
    | @tuple l l' hl hh ih =>
      intro hr
      obtain ⟨cs', rfl, hcs⟩ := hr.tuple_inv
      refine R.tuple_mk ⟨by rw [← hcs.1]; simp [hl], fun i x x' hi hi' => ?_⟩
      have hi1 : i < l.toArray.size := by rw [hcs.1]; exact (Array.getElem?_eq_some_iff.1 hi').1
      have q := hcs.2 i _ x' (Array.getElem?_eq_getElem hi1) hi'
      exact ih i _ x (by rw [← List.getElem?_toArray, Array.getElem?_eq_getElem hi1]) (by simpa using hi) x' q
end
section
variable {P : Program}
theorem ZCalls.of {f : FuncId} {args : List Value} {r : Value} (h : ∀ H, ACalls P f args H fun v H' => FinV H.size H' v r ∧ Ext H H') : ZCalls P f args r := by
  intro H
  refine ⟨(h H).1, fun φ args' w hs ha => ((h H).2 φ args' w hs ha).mono ?_⟩
  rintro e w' ⟨φ', v, v', H', rfl, ⟨q1, q2⟩, q3, q4, q5⟩
  obtain ⟨φ2, k1, k2, k3⟩ := hs.fin q4 q5 q2
  exact ⟨φ2, r, v', H, rfl, ⟨rfl, rfl⟩, k3 v r v' q1 q3, k1, k2⟩
theorem ZCalls.body {f : FuncId} {fn : Func} {c : Code} {m : Nat} {rs : List ResultVar} {args : List Value} {r : Value} (hf : P.funcs[f]? = some fn) (hb : fn.body = some c) (hm : fn.ntmps = m) (hrs : fn.results.toList = rs) (hle : args.length ≤ m) (hn : (fn.name == "runtime.NumGoroutine") = false)
    (h' : ∀ (H : Heap) (Q' : Value → Heap → Prop), Cont (∀ v H', FinV H.size H' v r → Ext H H' → Q' v H') → ∀ A : Fr, (∀ (t : Nat) (v : Value) (r : List Value), args.drop t = v :: r → A t = v) → AWp P m c (aret P rs Q') A H) : ZCalls P f args r :=
  ZCalls.of fun H => ACalls.body hf hb hm hrs hle hn fun Q' hQ A hA => h' H Q' (fun v H' q1 q2 => hQ.out v H' ⟨q1, q2⟩) A hA
theorem ZCalls.to {f : FuncId} {args : List Value} {v : Value} {H : Heap} {K : Value → Heap → Prop} (h : ZCalls P f args v) (hK : K v H) : ACalls P f args H K := (h H).mono fun u H' q => by rw [q.1, q.2]; exact hK
def zcK (P : Program) (f : FuncId) (args : List Value) (K : Value → Prop) : Prop := ∃ v, ZCalls P f args v ∧ K v
theorem ZCalls.tf {f : FuncId} {args : List Value} {v : Value} {K : Value → Prop} (h : ZCalls P f args v) (hK : K v) : zcK P f args K := ⟨v, h, hK⟩
theorem zcK.hk {f : FuncId} {args : List Value} {K K' : Value → Prop} (hK : Cont (∀ v, K v → K' v)) (h : zcK P f args K) : zcK P f args K' := let ⟨v, q1, q2⟩ := h; ⟨v, q1, hK.out v q2⟩
theorem fcall_eq {g : FuncId} {l l2 : Array Value} {args : List Value} {K : Value → Prop} : fcallK P (.func (.func g) l l2) args K = zcK P g (l.toList ++ args ++ l2.toList) K := rfl
theorem fx0 (P : Program) (d : Option Nat) (ty : TypeId) (pos : String) (af : Array Edge) (g : Option (Nat × Bool)) (e : Operand → Value) (H : Heap) (K : Value → HeldL → Prop) :
    (∀ x, fstep P ⟨d, .move x, ty, pos, af, g⟩ e H K = K (e x) []) ∧ (∀ x, fstep P ⟨d, .assign x, ty, pos, af, g⟩ e H K = K (e x) []) ∧
    (∀ c x y, fstep P ⟨d, .pick c x y, ty, pos, af, g⟩ e H K = asBoolK (e c) fun b => K (if b = true then e x else e y) []) ∧
    (∀ t x, fstep P ⟨d, .load t x, ty, pos, af, g⟩ e H K = loadHK P t H (e x) K) ∧
    (∀ op t x y u, fstep P ⟨d, .binOp op t x y u, ty, pos, af, g⟩ e H K = binK P op t (e x) (e y) fun v => K v []) ∧
    (∀ op t x, fstep P ⟨d, .unOp op t x, ty, pos, af, g⟩ e H K = unK op (e x) fun v => K v []) ∧
    (∀ s t x, fstep P ⟨d, .convert s t x, ty, pos, af, g⟩ e H K = convK P s t (e x) fun v => K v []) ∧
    (∀ fn x y, fstep P ⟨d, .makeFunc fn x y, ty, pos, af, g⟩ e H K = K (.func fn (x.map e) (y.map e)) []) ∧
    (∀ s x f, fstep P ⟨d, .fieldAddr s x f, ty, pos, af, g⟩ e H K = fieldAddrK P s f (e x) fun v => K v []) ∧
    (∀ s x f, fstep P ⟨d, .field s x f, ty, pos, af, g⟩ e H K = fieldK P s f (e x) fun v => K v []) ∧
    (∀ t x i, fstep P ⟨d, .indexAddr t x i, ty, pos, af, g⟩ e H K = indexAddrK P t (e x) (e i) fun v => K v []) ∧
    (∀ t x i, fstep P ⟨d, .index t x i, ty, pos, af, g⟩ e H K = indexK P t (e x) (e i) fun v => K v []) ∧
    (∀ x i, fstep P ⟨d, .extract x i, ty, pos, af, g⟩ e H K = extractK i (e x) fun v => K v []) ∧
    (∀ x, fstep P ⟨d, .nilCheck x, ty, pos, af, g⟩ e H K = nilK (e x) fun v => K v []) ∧
    (∀ t x lo hi mx, fstep P ⟨d, .slice t x lo hi mx, ty, pos, af, g⟩ e H K = sliceK P t ⟨0, fun _ => .absent⟩ (e x) (lo.map e) (hi.map e) (mx.map e) fun v => K v []) ∧
    (∀ t ps, fstep P ⟨d, .build t ps, ty, pos, af, g⟩ e H K = buildK P t (ps.map fun (i, x) => (i, e x)) fun v => K v []) ∧
    (∀ x t, fstep P ⟨d, .call ⟨.builtin .len, #[x], #[t]⟩, ty, pos, af, g⟩ e H K = lenK P t (e x) ⟨0, fun _ => .absent⟩ fun v => K v []) ∧
    (∀ x y t, fstep P ⟨d, .call ⟨.builtin .min, #[x, y], t⟩, ty, pos, af, g⟩ e H K = pstep.mnK (fun a b => if b < a then b else a) (e x) (e y) fun v => K v []) ∧
    (∀ x y t, fstep P ⟨d, .call ⟨.builtin .max, #[x, y], t⟩, ty, pos, af, g⟩ e H K = pstep.mnK (fun a b => if b > a then b else a) (e x) (e y) fun v => K v []) ∧
    (∀ t n ps, fstep P ⟨d, .buildSlice t n ps, ty, pos, af, g⟩ e H K = litK P t n (ps.map fun (i, x) => (i, e x)) fun v => K v []) ∧ (∀ t x, fstep P ⟨d, .box t x, ty, pos, af, g⟩ e H K = K (PZ ((e x).cells.toList.map frz) 0) []) ∧
    (∀ f args ats, fstep P ⟨d, .call ⟨.value f, args, ats⟩, ty, pos, af, g⟩ e H K = fcallK P (e f) (args.toList.map e) fun v => K v []) := by
  refine ⟨?_, ?_, ?_, ?_, ?_, ?_, ?_, ?_, ?_, ?_, ?_, ?_, ?_, ?_, ?_, ?_, ?_, ?_, ?_, ?_, ?_, ?_⟩ <;> intros <;> simp [fstep, pure0, pstep0, pstep]
end
/-! ### Steps of the mind: the world stays -/
section
variable {P : Program} {m : Nat} {c : Code} {Q : Exit → Fr → Heap → Prop} {A A' : Fr} {H H' : Heap}
theorem AWp.ghost (h : ∀ φ a w, St m φ A H a w → ∃ φ', St m φ' A' H' a w ∧ Ok φ H w φ' H' w) (g : AWp P m c Q A' H') : AWp P m c Q A H := by
  intro φ a w hs
  obtain ⟨φ', h1, h2⟩ := h φ a w hs
  exact wp_mono (g φ' a w h1) fun e a' w' ⟨φ2, A2, H2, q, s, ok⟩ => ⟨φ2, A2, H2, q, s, h2.trans ok⟩
/-- A value may be told in another way. -/
def Wk (v r : Value) : Prop := ∀ (φ : Ren) (h : Nat → Prop) (u : Value), R φ h v u → R φ h r u
theorem Wk.refl (v : Value) : Wk v v := fun _ _ _ h => h
theorem Wk.gz {tag es n : Nat} {cs : List Value} : Wk (GZ tag es n cs) (FZ es n cs) := fun _ _ _ h => h.gz_inv.1
theorem Wk.nil {es : Nat} : Wk (.slice none 0 0) (FZ es 0 []) := fun _ _ u h => by
  rw [R.flat_eq (v := .slice none 0 0) rfl h]; exact .fz0 es none 0 fun _ => rfl
theorem AWp.wk (hA : ∀ t, Wk (A t) (A' t)) (hout : ∀ t, A t = undef → A' t = undef) (g : AWp P m c Q A' H) : AWp P m c Q A H :=
  AWp.ghost (fun φ a w hs => ⟨φ, ⟨hs.defers, hs.size, fun t v ht => hA t _ _ _ (hs.tmp t v ht), fun t ht => hout t (hs.out t ht), hs.holds⟩, Ok.refl⟩) g
theorem AWp.wk1 {t : Nat} {r : Value} (hw : Wk (A t) r) (hne : A t ≠ undef) (g : AWp P m c Q (put A (some t) r) H) : AWp P m c Q A H :=
  AWp.wk (fun s => by
    rw [put_at]
    split
    · rename_i e; rw [e]; exact hw
    · exact Wk.refl _) (fun s hs => by
    rw [put_at]
    split
    · rename_i e; rw [e] at hs; exact absurd hs hne
    · exact hs) g
theorem Holds.push_tok {φ : Ren} {w : World} (h : Holds φ H w) {es : Nat} (hes : 0 < es) : Holds { φ with tl := fun b => if b = H.size then 1 else φ.tl b, ti := fun b => if b = H.size then ⟨0, 0, 0, 0⟩ else φ.ti b } (H.push (.tok 0 es)) w ∧ Ok φ H w { φ with tl := fun b => if b = H.size then 1 else φ.tl b, ti := fun b => if b = H.size then ⟨0, 0, 0, 0⟩ else φ.ti b } (H.push (.tok 0 es)) w := by
  generalize hφ : ({ φ with tl := fun b => if b = H.size then 1 else φ.tl b, ti := fun b => if b = H.size then ⟨0, 0, 0, 0⟩ else φ.ti b } : Ren) = φ'
  have e1 : φ'.img = φ.img := by rw [← hφ]
  have e2 : φ'.fz = φ.fz := by rw [← hφ]
  have e3 : ∀ b, b ≠ H.size → φ'.tl b = φ.tl b ∧ φ'.ti b = φ.ti b := fun b hb => by rw [← hφ]; exact ⟨if_neg hb, if_neg hb⟩
  have e4 : φ'.tl H.size = 1 ∧ φ'.ti H.size = ⟨0, 0, 0, 0⟩ := by rw [← hφ]; exact ⟨if_pos rfl, if_pos rfl⟩
  have hm : Le φ H.has φ' (H.push (.tok 0 es)).has := by
    refine ⟨fun b hb => ⟨?_, by rw [e1]⟩, fun β i u hf => by rw [e2]; exact hf, fun b hb => .inl (e3 b fun q => hb (by rw [q]; exact h.rest.tl0 _ (Nat.le_refl _)))⟩
    have := h.lt_size hb
    unfold Heap.has
    rw [Heap.get_push, if_neg (by omega)]
    exact hb
  have hc : ∀ b y, (H.push (.tok 0 es)).get b = y → y.isTok = false → H.get b = y := fun b y hy hk => by
    rw [Heap.get_push] at hy
    split at hy
    · rw [← hy] at hk; cases hk
    · exact hy
  have hlv : ∀ b, ((H.push (.tok 0 es)).get b).live = true → (H.get b).live = true := fun b hb => by
    rw [Heap.get_push] at hb
    split at hb
    · cases hb
    · exact hb
  have hwv : ∀ b, ((H.push (.tok 0 es)).get b).wr = true → (H.get b).wr = true := fun b hb => by
    rw [Heap.get_push] at hb
    split at hb
    · cases hb
    · exact hb
  have htk : ∀ b n es', (H.push (.tok 0 es)).get b = .tok n es' → (b = H.size ∧ n = 0 ∧ es' = es) ∨ (b ≠ H.size ∧ H.get b = .tok n es') := fun b n es' hb => by
    rw [Heap.get_push] at hb
    split at hb
    · injection hb with h1 h2; exact .inl ⟨by assumption, h1.symm, h2.symm⟩
    · exact .inr ⟨by assumption, hb⟩
  refine ⟨⟨?_, ?_, ?_, ?_, ?_, ?_, ?_, ⟨?_, ?_, ?_, ?_, ?_, ?_⟩⟩, ⟨by rw [Heap.size_push]; omega, fun b hb => (hm.img b hb).2, fun b hb => (hm.img b hb).1, rfl, rfl, rfl, Nat.le_refl _, fun _ _ _ => rfl, fun β hβ => ?_, hm.fz, hm.tl⟩⟩
  · intro b hb
    rw [Heap.size_push] at hb
    rw [Heap.get_push, if_neg (by omega)]
    exact h.wf b (by omega)
  · intro b cs es ro hb j v hj
    obtain ⟨u, hu1, hu2⟩ := h.cell b cs es ro (hc b _ hb rfl) j v hj
    rw [e1]
    exact ⟨u, hu1, hu2.mono hm⟩
  · intro b cs es hb; rw [e1]; exact h.row b cs es (hc b _ hb rfl)
  · intro b cs es ro hb; rw [e1]; exact h.es b cs es ro (hc b _ hb rfl)
  · intro b es hb
    obtain ⟨en, ck, h4, hr⟩ := h.map b es (hc b _ hb rfl)
    rw [e1]
    exact ⟨en, ck, h4, hr.1, fun j k v e q1 q2 => ⟨(hr.2 j k v e q1 q2).1, (hr.2 j k v e q1 q2).2.mono hm⟩⟩
  · intro b hb; rw [e1]; exact h.lt b (hlv b hb)
  · intro b c hbc hb hc'; rw [e1]; exact h.apart b c hbc (hlv b hb) (hwv c hc')
  · intro β i u hf; rw [e2] at hf; exact h.rest.froz β i u hf
  · intro b hb i; rw [e1, e2]; exact h.rest.unf b (hwv b hb) i
  · intro b n es' hb
    rcases htk b n es' hb with ⟨rfl, rfl, rfl⟩ | ⟨hne, hb⟩
    · rw [e4.1, e4.2]; exact ⟨rfl, hes, .inl ⟨rfl, rfl⟩⟩
    · rw [(e3 b hne).1, (e3 b hne).2, e2]; exact h.rest.tok b n es' hb
  · intro b n es' c hb he hc'
    rcases htk b n es' hb with ⟨rfl, rfl, rfl⟩ | ⟨hne, hb⟩
    · rw [e4.2] at he; exact absurd rfl he
    · rw [(e3 b hne).2] at he ⊢; rw [e1]; exact h.rest.tap b n es' c hb he (hlv c hc')
  · intro b c n es' n' es'' hbc hb hc' he he'
    rcases htk b n es' hb with ⟨rfl, rfl, rfl⟩ | ⟨hne, hb⟩
    · rw [e4.2] at he; exact absurd rfl he
    · rcases htk c n' es'' hc' with ⟨rfl, rfl, rfl⟩ | ⟨hne', hc'⟩
      · rw [e4.2] at he'; exact absurd rfl he'
      · rw [(e3 b hne).2] at he ⊢; rw [(e3 c hne').2] at he' ⊢; exact h.rest.tap2 b c n es' n' es'' hbc hb hc' he he'
  · intro b hb
    rw [Heap.size_push] at hb
    rw [(e3 b (by omega)).1]; exact h.rest.tl0 b (by omega)
  · right
    rcases hβ with ⟨b, hb, rfl⟩ | ⟨b, n, es', hb, he, rfl⟩
    · exact .inl ⟨b, hwv b hb, by rw [e1]⟩
    · rcases htk b n es' hb with ⟨rfl, rfl, rfl⟩ | ⟨hne, hb⟩
      · rw [e4.2] at he; exact absurd rfl he
      · rw [(e3 b hne).2] at he ⊢; exact .inr ⟨b, n, es', hb, he, rfl⟩
/-- A nil slice is a list that may grow. -/
theorem AWp.grow {t : Nat} (es : Nat) (hes : 0 < es) (hA : A t = .slice none 0 0) (g : AWp P m c Q (put A (some t) (GZ H.size es 0 [])) (H.push (.tok 0 es))) : AWp P m c Q A H := by
  refine AWp.ghost (fun φ a w hs => ?_) g
  obtain ⟨h1, h2⟩ := hs.holds.push_tok hes
  have hs2 := hs.step h2 h1
  refine ⟨_, ⟨hs.defers, hs.size, fun s v hv => ?_, fun s hs' => ?_, h1⟩, h2⟩
  · rw [put_at]
    split
    · rename_i e
      subst e
      have hr := hs.tmp s v hv
      rw [hA] at hr
      rw [R.flat_eq (v := .slice none 0 0) rfl hr]
      refine .gz H.size es 0 [] _ (.fz0 es none 0 fun _ => rfl) (by show 0 + 1 ≤ (if H.size = H.size then 1 else φ.tl H.size); rw [if_pos rfl]; exact Nat.le_refl _) fun _ => .inl ⟨rfl, ?_, none, rfl⟩
      show (if H.size = H.size then (⟨0, 0, 0, 0⟩ : Img) else φ.ti H.size).es = 0
      rw [if_pos rfl]
    · exact hs2.tmp s v hv
  · rw [put_at]
    split
    · rename_i e
      subst e
      have := hs.out s hs'
      rw [hA] at this; cases this
    · exact hs.out s hs'
/-- .. an empty slice with no room. -/
theorem AWp.growE {t g o : Nat} (es : Nat) (hes : 0 < es) (hA : A t = .slice (some ⟨g, o, none⟩) 0 1) (g : AWp P m c Q (put A (some t) (GZ H.size es 0 [])) (H.push (.tok 0 es))) : AWp P m c Q A H := by
  refine AWp.ghost (fun φ a w hs => ?_) g
  obtain ⟨h1, h2⟩ := hs.holds.push_tok hes
  have hs2 := hs.step h2 h1
  refine ⟨_, ⟨hs.defers, hs.size, fun s v hv => ?_, fun s hs' => ?_, h1⟩, h2⟩
  · rw [put_at]
    split
    · rename_i e
      subst e
      have hr := hs.tmp s v hv
      rw [hA] at hr
      obtain ⟨a', rfl⟩ : ∃ a', v = .slice (some a') 0 0 := by
        obtain ⟨_, _, c', rfl, _, h⟩ := hr.slice_inv (.inl rfl)
        have : c' = 0 := by omega
        exact ⟨_, by rw [this]⟩
      refine .gz H.size es 0 [] _ (.fz0 es (some a') 0 fun _ => rfl) (by show 0 + 1 ≤ (if H.size = H.size then 1 else φ.tl H.size); rw [if_pos rfl]; exact Nat.le_refl _) fun _ => .inl ⟨rfl, ?_, _, rfl⟩
      show (if H.size = H.size then (⟨0, 0, 0, 0⟩ : Img) else φ.ti H.size).es = 0
      rw [if_pos rfl]
    · exact hs2.tmp s v hv
  · rw [put_at]
    split
    · rename_i e
      subst e
      have := hs.out s hs'
      rw [hA] at this; cases this
    · exact hs.out s hs'
/-- A block of one's own is frozen: its slice. -/
theorem AWp.freeze {t g o n k es : Nat} {cs : List Value} (hA : A t = .slice (some ⟨g, o, none⟩) n k) (hg : H.get g = .cells cs es false) (hl : o + n * es ≤ cs.length) (gg : AWp P m c Q (put A (some t) (FZ es n ((cs.drop o).take (n * es)))) (H.set g .dead)) : AWp P m c Q A H := by
  refine AWp.ghost (fun φ a w hs => ?_) gg
  obtain ⟨h1, h2⟩ := hs.holds.ice (H' := H.set g .dead) (fun x => x = g) (fun x hx => by rw [hx, hg]; rfl) rfl (fun b hb => get_set_ne hb) (fun b hb => by rw [hb]; exact get_set_eq)
  have hs2 := hs.step h2 h1
  refine ⟨_, ⟨hs.defers, hs.size, fun s v hv => ?_, fun s hs' => ?_, h1⟩, h2⟩
  · rw [put_at]
    split
    · rename_i e
      subst e
      have hr := hs.tmp s v hv
      rw [hA] at hr
      obtain ⟨_, hb, c', rfl, hnc, _⟩ := hr.slice_inv (.inl rfl)
      have hes := (hs.holds.es g cs es false hg).2
      refine .fz es n c' (φ g).blk ((φ g).base + o) _ (fun i => (w.cell? ⟨(φ g).blk, (φ g).base + o + i, none⟩).getD undef) hes (by rw [List.length_take, List.length_drop]; omega) hnc (fun i hi => ?_) (fun i x hi => ?_)
      · rw [List.length_take, List.length_drop] at hi
        have hi2 : o + i < cs.length := by omega
        obtain ⟨u, hu1, _⟩ := hs.holds.cell g cs es false hg (o + i) _ (List.getElem?_eq_getElem hi2)
        rw [← Nat.add_assoc] at hu1
        rw [ice_in (G := fun x => x = g) ⟨g, rfl, rfl⟩, hu1]
        rfl
      · rw [List.getElem?_take] at hi
        split at hi
        · rw [List.getElem?_drop] at hi
          obtain ⟨u, hu1, hu2⟩ := hs.holds.cell g cs es false hg (o + i) _ hi
          rw [← Nat.add_assoc] at hu1
          rw [hu1]
          exact hu2.mono h2.mono
        · cases hi
    · exact hs2.tmp s v hv
  · rw [put_at]
    split
    · rename_i e
      subst e
      have := hs.out s hs'
      rw [hA] at this; cases this
    · exact hs.out s hs'
/-- .. a variable's place. -/
theorem AWp.fixed {t g es : Nat} {cs : List Value} (hA : A t = .pointer (some ⟨g, 0, none⟩)) (hg : H.get g = .cells cs es false) (gg : AWp P m c Q (put A (some t) (PZ cs 0)) (H.set g .dead)) : AWp P m c Q A H := by
  refine AWp.ghost (fun φ a w hs => ?_) gg
  obtain ⟨h1, h2⟩ := hs.holds.ice (H' := H.set g .dead) (fun x => x = g) (fun x hx => by rw [hx, hg]; rfl) rfl (fun b hb => get_set_ne hb) (fun b hb => by rw [hb]; exact get_set_eq)
  have hs2 := hs.step h2 h1
  refine ⟨_, ⟨hs.defers, hs.size, fun s v hv => ?_, fun s hs' => ?_, h1⟩, h2⟩
  · rw [put_at]
    split
    · rename_i e
      subst e
      have hr := hs.tmp s v hv
      rw [hA] at hr
      obtain ⟨_, hb, rfl⟩ := hr.ptr_inv
      refine .pz (φ g).blk (φ g).base 0 cs (fun i => (w.cell? ⟨(φ g).blk, (φ g).base + i, none⟩).getD undef) (fun i hi => ?_) (fun i x hi => ?_)
      · obtain ⟨u, hu1, _⟩ := hs.holds.cell g cs es false hg i _ (List.getElem?_eq_getElem hi)
        rw [ice_in (G := fun x => x = g) ⟨g, rfl, rfl⟩, hu1]
        rfl
      · obtain ⟨u, hu1, hu2⟩ := hs.holds.cell g cs es false hg i x hi
        rw [hu1]
        exact hu2.mono h2.mono
    · exact hs2.tmp s v hv
  · rw [put_at]
    split
    · rename_i e
      subst e
      have := hs.out s hs'
      rw [hA] at this; cases this
    · exact hs.out s hs'
end
/-! ### Loops of a few rounds, unrolled -/
section
variable {P : Program} {m : Nat} {Q : Exit → Fr → Heap → Prop} {A : Fr} {H : Heap} {c : Code}
def AIn (P : Program) (m : Nat) (c : Code) (Q : Exit → Fr → Heap → Prop) (A : Fr) (H : Heap) : Prop :=
  ∀ (φ : Ren) (a : Act) (w : World), St m φ A H a w → ∀ b k cs, ∃ e a' w', (∃ φ' A' H', Q e A' H' ∧ St m φ' A' H' a' w' ∧ Ok φ H w φ' H' w') ∧ Arrives P (lone (b.at a (.code c :: .inLoop c :: k)) cs w) b k cs e a' w'
theorem AWp.unroll (h : AIn P m c Q A H) : AWp P m (.loop c) Q A H := by
  intro φ a w hs b k cs
  obtain ⟨e, a', w', hq, harr⟩ := h φ a w hs b k cs
  exact ⟨e, a', w', hq, .of_steps (.one step_loop) harr⟩
theorem AIn.step (h : AWp P m c (athen (AIn P m c Q) Q) A H) : AIn P m c Q A H := by
  intro φ a w hs b k cs
  obtain ⟨e, a2, w2, ⟨φ2, A2, H2, hq, hs2, ok2⟩, harr⟩ := h φ a w hs b (.inLoop c :: k) cs
  cases e with
  | normal =>
    obtain ⟨e3, a3, w3, ⟨φ3, A3, H3, hq3, hs3, ok3⟩, harr3⟩ := hq φ2 a2 w2 hs2 b k cs
    exact ⟨e3, a3, w3, ⟨φ3, A3, H3, hq3, hs3, ok2.trans ok3⟩, .of_steps (Steps.trans harr (.one step_inLoop)) harr3⟩
  | exit id => exact ⟨_, a2, w2, ⟨φ2, A2, H2, hq, hs2, ok2⟩, .pass (x := .inLoop c) rfl (fun _ _ => .inl (by simp)) harr⟩
  | goto l => exact ⟨_, a2, w2, ⟨φ2, A2, H2, hq, hs2, ok2⟩, .pass (x := .inLoop c) rfl (fun _ _ => .inl (by simp)) harr⟩
  | ret => exact ⟨_, a2, w2, ⟨φ2, A2, H2, hq, hs2, ok2⟩, .pass (x := .inLoop c) rfl (fun _ _ => .inl (by simp)) harr⟩
  | panic ch => exact ⟨_, a2, w2, ⟨φ2, A2, H2, hq, hs2, ok2⟩, .pass (x := .inLoop c) rfl (fun _ _ => .inl (by simp)) harr⟩
  | outgrown => exact ⟨_, a2, w2, ⟨φ2, A2, H2, hq, hs2, ok2⟩, .pass (x := .inLoop c) rfl (fun _ _ => .inl (by simp)) harr⟩
end
theorem ZCalls.zc {P : Program} {f : FuncId} {args : List Value} {es n : Nat} {cs : List Value} (hc : ∀ x ∈ cs, Cl x) (h : ∀ H, ACalls P f args H fun v H' => (∃ tag, v = GZ tag es n cs ∧ H.size ≤ tag ∧ H'.get tag = .tok n es) ∧ Ext H H') : ZCalls P f args (FZ es n cs) :=
  ZCalls.of fun H => (h H).mono fun v H' ⟨⟨tag, e, _⟩, q⟩ => ⟨e ▸ .gz hc, q⟩
/-! ### Slices of rows of one's own -/
section
def slX (l : Option (Option Nat × Nat)) (a : Addr) (n c : Nat) (lo hi mx : Option Value) (K : Value → Prop) : Prop :=
  match l with
  | some (none, s) => a.spot = none ∧ bnd lo 0 fun l => bnd hi n fun h => bnd mx c fun m =>
      l ≤ h ∧ h ≤ m ∧ m ≤ c ∧ (mx.isSome = true → hi.isSome = true) ∧ K (.slice (some ⟨a.block, if m = l then a.off else a.off + l * s, none⟩) (h - l) (m - l + 1))
  | _ => False
def slN (l : Option (Option Nat × Nat)) (lo hi mx : Option Value) (K : Value → Prop) : Prop :=
  match l with
  | some (none, _) => bnd lo 0 fun l => bnd hi 0 fun h => bnd mx 0 fun m => l = 0 ∧ h = 0 ∧ m = 0 ∧ (mx.isSome = true → hi.isSome = true) ∧ K (.slice none 0 0)
  | _ => False
def slP (l : Option (Option Nat × Nat)) (a : Addr) (lo hi mx : Option Value) (K : Value → Prop) : Prop :=
  match l with
  | some (some len, s) => bnd lo 0 fun l => bnd hi len fun h => bnd mx len fun m =>
      l ≤ h ∧ h ≤ m ∧ m ≤ len ∧ (mx.isSome = true → hi.isSome = true) ∧ K (.slice (some ⟨a.block, if m = l then a.off else a.off + l * s, none⟩) (h - l) (m - l + 1))
  | _ => False
def slQ (l : Option (Option Nat × Nat)) (cs : List Value) (o : Nat) (lo hi mx : Option Value) (K : Value → Prop) : Prop :=
  match l with
  | some (some len, s) => 0 < s ∧ o + len * s ≤ cs.length ∧ bnd lo 0 fun l => bnd hi len fun h => bnd mx len fun m =>
      l ≤ h ∧ h ≤ m ∧ m ≤ len ∧ (mx.isSome = true → hi.isSome = true) ∧ K (FZ s (h - l) ((cs.drop (o + l * s)).take ((h - l) * s)))
  | _ => False
def tkX (b : Blk) (a : Addr) (len c n bz sz : Nat) (new : List Value) (H : Heap) (K : Value → Heap → Prop) : Prop :=
  match b with
  | .cells cs es ro => a.spot = none ∧ (len + n) * bz ≤ 140737488355328 ∧
      (len + n ≤ c → ro = false ∧ a.off + (len + n) * sz ≤ cs.length ∧ K (.slice (some a) (len + n) (c + 1)) (H.set a.block (.cells (cs.take (a.off + len * sz) ++ new ++ cs.drop (a.off + (len + n) * sz)) es false))) ∧
      (c < len + n → a.off + len * sz ≤ cs.length ∧ K (.slice (some ⟨H.size, 0, none⟩) (len + n) 0) (H.push (.cells ((cs.drop a.off).take (len * sz) ++ new) sz false)))
  | _ => False
def agX (P : Program) (d : Option TypeDesc) (xt : TypeId) (a : Addr) (len c : Nat) (x : Value) (H : Heap) (K : Value → Heap → Prop) : Prop :=
  match d with
  | some (.slice et) => match cz P et, bz P et, zr P et with
    | some sz, some bz, some z => 0 < sz ∧ 0 < bz ∧ constOk z = true ∧ z.cells.size = sz ∧ appsK P xt x sz H fun n new => oneCells new ∧ tkX (H.get a.block) a len c n bz sz new H K
    | _, _, _ => False
  | _ => False
theorem appendX {P : Program} {st xt : TypeId} {a : Addr} {len c : Nat} {x : Value} {H : Heap} {K : Value → Heap → Prop} : appendK P st xt (.slice (some a) len (c + 1)) x H K = agX P (P.underlying st) xt a len c x H K := by
  unfold appendK agX
  generalize P.underlying st = d
  rcases d with _ | d
  · rfl
  · cases d <;> rfl
def agK (P : Program) (d : Option TypeDesc) (xt : TypeId) (es len : Nat) (cs : List Value) (x : Value) (H : Heap) (K : Value → Heap → Prop) : Prop :=
  match d with
  | some (.slice et) => match cz P et, bz P et, zr P et with
    | some sz, some bz, some z => 0 < sz ∧ 0 < bz ∧ constOk z = true ∧ z.cells.size = sz ∧ appsK P xt x sz H fun n new => oneCells new ∧ es = sz ∧ cs.length = len * sz ∧ (len + n) * bz ≤ 140737488355328 ∧ (n = 0 → K (KZ es len cs) H) ∧ (n ≠ 0 → K (.slice (some ⟨H.size, 0, none⟩) (len + n) 0) (H.push (.cells (cs ++ new) sz false)))
    | _, _, _ => False
  | _ => False
theorem appendKZ {P : Program} {st xt : TypeId} {es len : Nat} {cs : List Value} {x : Value} {H : Heap} {K : Value → Heap → Prop} : appendK P st xt (KZ es len cs) x H K = agK P (P.underlying st) xt es len cs x H K := by
  unfold appendK agK
  generalize P.underlying st = d
  rcases d with _ | d
  · rfl
  · cases d <;> rfl
theorem zx4 :
    (∀ (P : Program) (t : TypeId) (H : Heap) (a : Addr) (n c : Nat) (lo hi mx : Option Value) (K : Value → Prop), sliceK P t H (.slice (some a) n (c + 1)) lo hi mx K = slX (el P t) a n c lo hi mx K) ∧
    (∀ (P : Program) (t : TypeId) (H : Heap) (lo hi mx : Option Value) (K : Value → Prop), sliceK P t H (.slice none 0 0) lo hi mx K = slN (el P t) lo hi mx K) ∧
    (∀ (P : Program) (t : TypeId) (H : Heap) (a : Addr) (lo hi mx : Option Value) (K : Value → Prop), sliceK P t H (.pointer (some a)) lo hi mx K = slP (el P t) a lo hi mx K) ∧
    (∀ (P : Program) (t : TypeId) (H : Heap) (cs : List Value) (o : Nat) (lo hi mx : Option Value) (K : Value → Prop), sliceK P t H (PZ cs o) lo hi mx K = slQ (el P t) cs o lo hi mx K) ∧
    (∀ (s : Nat) (a : Addr) (n c : Nat) (lo hi mx : Option Value) (K : Value → Prop), slX (some (none, s)) a n c lo hi mx K = (a.spot = none ∧ bnd lo 0 fun l => bnd hi n fun h => bnd mx c fun m =>
      l ≤ h ∧ h ≤ m ∧ m ≤ c ∧ (mx.isSome = true → hi.isSome = true) ∧ K (.slice (some ⟨a.block, if m = l then a.off else a.off + l * s, none⟩) (h - l) (m - l + 1)))) ∧
    (∀ (s : Nat) (lo hi mx : Option Value) (K : Value → Prop), slN (some (none, s)) lo hi mx K = (bnd lo 0 fun l => bnd hi 0 fun h => bnd mx 0 fun m => l = 0 ∧ h = 0 ∧ m = 0 ∧ (mx.isSome = true → hi.isSome = true) ∧ K (.slice none 0 0))) ∧
    (∀ (len s : Nat) (a : Addr) (lo hi mx : Option Value) (K : Value → Prop), slP (some (some len, s)) a lo hi mx K = (bnd lo 0 fun l => bnd hi len fun h => bnd mx len fun m =>
      l ≤ h ∧ h ≤ m ∧ m ≤ len ∧ (mx.isSome = true → hi.isSome = true) ∧ K (.slice (some ⟨a.block, if m = l then a.off else a.off + l * s, none⟩) (h - l) (m - l + 1)))) ∧
    (∀ (len s : Nat) (cs : List Value) (o : Nat) (lo hi mx : Option Value) (K : Value → Prop), slQ (some (some len, s)) cs o lo hi mx K = (0 < s ∧ o + len * s ≤ cs.length ∧ bnd lo 0 fun l => bnd hi len fun h => bnd mx len fun m =>
      l ≤ h ∧ h ≤ m ∧ m ≤ len ∧ (mx.isSome = true → hi.isSome = true) ∧ K (FZ s (h - l) ((cs.drop (o + l * s)).take ((h - l) * s))))) ∧
    (∀ (P : Program) (st xt : TypeId) (a : Addr) (len c : Nat) (x : Value) (H : Heap) (K : Value → Heap → Prop), appendK P st xt (.slice (some a) len (c + 1)) x H K = agX P (P.underlying st) xt a len c x H K) ∧
    (∀ (P : Program) (et xt : TypeId) (a : Addr) (len c : Nat) (x : Value) (H : Heap) (K : Value → Heap → Prop), agX P (some (.slice et)) xt a len c x H K = (match cz P et, bz P et, zr P et with
      | some sz, some bz, some z => 0 < sz ∧ 0 < bz ∧ constOk z = true ∧ z.cells.size = sz ∧ appsK P xt x sz H fun n new => oneCells new ∧ tkX (H.get a.block) a len c n bz sz new H K
      | _, _, _ => False)) ∧
    (∀ (cs : List Value) (es : Nat) (ro : Bool) (a : Addr) (len c n bz sz : Nat) (new : List Value) (H : Heap) (K : Value → Heap → Prop), tkX (.cells cs es ro) a len c n bz sz new H K = (a.spot = none ∧ (len + n) * bz ≤ 140737488355328 ∧
      (len + n ≤ c → ro = false ∧ a.off + (len + n) * sz ≤ cs.length ∧ K (.slice (some a) (len + n) (c + 1)) (H.set a.block (.cells (cs.take (a.off + len * sz) ++ new ++ cs.drop (a.off + (len + n) * sz)) es false))) ∧
      (c < len + n → a.off + len * sz ≤ cs.length ∧ K (.slice (some ⟨H.size, 0, none⟩) (len + n) 0) (H.push (.cells ((cs.drop a.off).take (len * sz) ++ new) sz false))))) ∧
    (∀ (P : Program) (st xt : TypeId) (es len : Nat) (cs : List Value) (x : Value) (H : Heap) (K : Value → Heap → Prop), appendK P st xt (KZ es len cs) x H K = agK P (P.underlying st) xt es len cs x H K) ∧
    (∀ (P : Program) (et xt : TypeId) (es len : Nat) (cs : List Value) (x : Value) (H : Heap) (K : Value → Heap → Prop), agK P (some (.slice et)) xt es len cs x H K = (match cz P et, bz P et, zr P et with
      | some sz, some bz, some z => 0 < sz ∧ 0 < bz ∧ constOk z = true ∧ z.cells.size = sz ∧ appsK P xt x sz H fun n new => oneCells new ∧ es = sz ∧ cs.length = len * sz ∧ (len + n) * bz ≤ 140737488355328 ∧ (n = 0 → K (KZ es len cs) H) ∧ (n ≠ 0 → K (.slice (some ⟨H.size, 0, none⟩) (len + n) 0) (H.push (.cells (cs ++ new) sz false)))
      | _, _, _ => False)) ∧
    (∀ (P : Program) (xt : TypeId) (sz : Nat) (H : Heap) (K : Nat → List Value → Prop), appsK P xt (.slice none 0 0) sz H K = slN (el P xt) none none none (fun _ => K 0 [])) := by
  refine ⟨?_, ?_, ?_, ?_, ?_, ?_, ?_, ?_, fun _ _ _ _ _ _ _ _ _ => appendX, fun _ _ _ _ _ _ _ _ _ => rfl, fun _ _ _ _ _ _ _ _ _ _ _ _ => rfl, fun _ _ _ _ _ _ _ _ _ => appendKZ, fun _ _ _ _ _ _ _ _ _ => rfl, ?_⟩
  · intro P t H a n c lo hi mx K
    unfold sliceK slX
    generalize el P t = q
    rcases q with _ | ⟨q | q, r⟩ <;> rfl
  · intro P t H lo hi mx K
    unfold sliceK slN
    generalize el P t = q
    rcases q with _ | ⟨q | q, r⟩ <;> rfl
  · intro P t H a lo hi mx K
    unfold sliceK slP
    generalize el P t = q
    rcases q with _ | ⟨q | q, r⟩ <;> rfl
  · intro P t H cs o lo hi mx K
    unfold sliceK slQ
    generalize el P t = q
    rcases q with _ | ⟨q | q, r⟩ <;> rfl
  · intros; rfl
  · intros; rfl
  · intros; rfl
  · intros; rfl
  · intro P xt sz H K
    unfold appsK slN
    generalize el P xt = q
    rcases q with _ | ⟨q | q, r⟩ <;> simp [bnd]
end
theorem zcK.hkx {P : Program} {f : FuncId} {args : List Value} {K K' : Value → HeldL → Prop} (hK : Cont (∀ v hl, K v hl → K' v hl)) (h : zcK P f args fun v => K v []) : zcK P f args fun v => K' v [] := let ⟨v, q1, q2⟩ := h; ⟨v, q1, hK.out v [] q2⟩
theorem appendK.hkx {P : Program} {st xt : TypeId} {s x : Value} {H : Heap} {p : Heap → Prop} {K K' : Value → Heap → Prop} (hK : Cont (∀ v H', p H' → K v H' → K' v H')) (h : appendK P st xt s x H fun v H' => p H' ∧ K v H') : appendK P st xt s x H K' := h.mono fun v H' q => hK.out v H' q.1 q.2
theorem push_set_eq {H : Heap} {b : Nat} {x y : Blk} (h : b = H.size) : (H.push x).set b y = H.push y := by
  subst h
  unfold Heap.push Heap.set
  congr 1
  funext c
  dsimp only
  split <;> rfl
theorem set_id {H : Heap} {b : Nat} {x : Blk} (h : H.get b = x) : H.set b x = H := set_self h
theorem hx0 : (∀ {H : Heap} {b : Nat} {x y : Blk}, b = H.size → (H.push x).set b y = H.push y) ∧ (∀ {H : Heap} {b : Nat} {x y : Blk}, b < H.size → (H.push y).set b x = (H.set b x).push y) ∧ (∀ {H : Heap} {b : Nat} {x y : Blk}, (H.set b x).set b y = H.set b y) ∧
    (∀ (P : Program) (g : FuncId) (l l2 : Array Value) (args : List Value) (K : Value → Prop), fcallK P (.func (.func g) l l2) args K = zcK P g (l.toList ++ args ++ l2.toList) K) := ⟨push_set_eq, push_set, set_set, fun _ _ _ _ _ _ => rfl⟩
/-! ### Values as frozen rows -/
/-- A list of numbers. -/
abbrev zI (l : List Int) : Value := FZ 1 l.length (ints l)
/-- A list of values of one cell. -/
abbrev zL {α : Type} (f : α → Value) (l : List α) : Value := FZ 1 l.length (l.map f)
def p2 (l : List (Int × Int)) : List Value := (l.map fun p => [I p.1, I p.2]).flatten
/-- A list of pairs of numbers. -/
abbrev zP (l : List (Int × Int)) : Value := FZ 2 l.length (p2 l)
theorem map_get {α : Type} (f : α → Value) (d : α) {l : List α} {i : Nat} (h : i < l.length) : (l.map f)[i]? = some (f (l.getD i d)) := by simp [h]
theorem map_getI (f : Int → Value) {l : List Int} {i : Nat} (h : i < l.length) : (l.map f)[i]? = some (f (l.getD i 0)) := map_get f 0 h
theorem map_getB (f : Bool → Value) {l : List Bool} {i : Nat} (h : i < l.length) : (l.map f)[i]? = some (f (l.getD i false)) := map_get f false h
theorem map_getL {α : Type} (f : List α → Value) {l : List (List α)} {i : Nat} (h : i < l.length) : (l.map f)[i]? = some (f (l.getD i [])) := map_get f [] h
theorem p2_len (l : List (Int × Int)) : (p2 l).length = l.length * 2 := by
  unfold p2
  induction l with
  | nil => rfl
  | cons a l ih => simp only [List.map_cons, List.flatten_cons, List.length_append, ih, List.length_cons, List.length_nil]; omega
theorem p2_get0 {l : List (Int × Int)} {i : Nat} (h : i < l.length) : (p2 l)[i * 2]? = some (I (l.getD i (0, 0)).1) := by
  unfold p2
  induction l generalizing i with
  | nil => simp at h
  | cons a l ih =>
    cases i with
    | zero => rfl
    | succ i =>
      have e : (i + 1) * 2 = i * 2 + 1 + 1 := by omega
      rw [e]
      simp only [List.map_cons, List.flatten_cons, List.cons_append, List.nil_append, List.getElem?_cons_succ]
      rw [ih (by simpa using h)]
      simp
theorem p2_get1 {l : List (Int × Int)} {i : Nat} (h : i < l.length) : (p2 l)[i * 2 + 1]? = some (I (l.getD i (0, 0)).2) := by
  unfold p2
  induction l generalizing i with
  | nil => simp at h
  | cons a l ih =>
    cases i with
    | zero => rfl
    | succ i =>
      have e : (i + 1) * 2 + 1 = i * 2 + 1 + 1 + 1 := by omega
      rw [e]
      simp only [List.map_cons, List.flatten_cons, List.cons_append, List.nil_append, List.getElem?_cons_succ]
      rw [ih (by simpa using h)]
      simp
theorem p2_take {l : List (Int × Int)} {i : Nat} (h : i < l.length) : ((p2 l).drop (i * 2)).take 2 = [I (l.getD i (0, 0)).1, I (l.getD i (0, 0)).2] := by
  have hl := p2_len l
  have h0 : i * 2 < (p2 l).length := by omega
  have h1 : i * 2 + 1 < (p2 l).length := by omega
  rw [List.drop_eq_getElem_cons h0, List.drop_eq_getElem_cons h1]
  simp only [List.take_succ_cons, List.take_zero]
  have q0 := p2_get0 h
  have q1 := p2_get1 h
  rw [List.getElem?_eq_getElem h0] at q0
  rw [List.getElem?_eq_getElem h1] at q1
  rw [Option.some.inj q0, Option.some.inj q1]
theorem p2_app (l m : List (Int × Int)) : p2 l ++ p2 m = p2 (l ++ m) := by simp [p2]
theorem p2_one (l : List (Int × Int)) (a b : Int) : p2 l ++ [.int .i64 a, .int .i64 b] = p2 (l ++ [(a, b)]) := by simp [p2]
theorem p2_frz (l : List (Int × Int)) : (p2 l).map frz = p2 l := by
  unfold p2
  induction l with
  | nil => rfl
  | cons a l ih => simp only [List.map_cons, List.flatten_cons, List.map_append, ih]; rfl
theorem one_p2 (l : List (Int × Int)) : oneCells (p2 l) := by
  intro v hv
  obtain ⟨x, hx, hv⟩ := List.mem_flatten.1 hv
  obtain ⟨p, _, rfl⟩ := List.mem_map.1 hx
  rcases List.mem_cons.1 hv with rfl | hv
  · rfl
  · rcases List.mem_cons.1 hv with rfl | hv
    · rfl
    · cases hv
theorem map_one {α : Type} (f : α → Value) (l : List α) (x : α) : l.map f ++ [f x] = (l ++ [x]).map f := by simp
/-- Rows of numbers. -/
abbrev zII (l : List (List Int)) : Value := zL (fun r => zI r) l
/-- Rows of truths. -/
abbrev zB (l : List Bool) : Value := zL (fun b => Value.bool b) l
theorem zg : (∀ {α : Type} (l : List (List α)) (f : List α → Value) (i : Nat), i < l.length → (l.map f)[i]? = some (f (l.getD i []))) ∧ (∀ (l : List Int) (f : Int → Value) (i : Nat), i < l.length → (l.map f)[i]? = some (f (l.getD i 0))) ∧ (∀ (l : List Bool) (f : Bool → Value) (i : Nat), i < l.length → (l.map f)[i]? = some (f (l.getD i false))) ∧
    (∀ l : List (Int × Int), (p2 l).length = l.length * 2) ∧ (∀ (l : List (Int × Int)) (i : Nat), i < l.length → (p2 l)[i * 2]? = some (.int .i64 (l.getD i (0, 0)).1)) ∧ (∀ (l : List (Int × Int)) (i : Nat), i < l.length → (p2 l)[i * 2 + 1]? = some (.int .i64 (l.getD i (0, 0)).2)) ∧
    (∀ (l : List (Int × Int)) (i : Nat), i < l.length → ((p2 l).drop (i * 2)).take 2 = [.int .i64 (l.getD i (0, 0)).1, .int .i64 (l.getD i (0, 0)).2]) ∧ (∀ (l : List (Int × Int)) (a b : Int), p2 l ++ [.int .i64 a, .int .i64 b] = p2 (l ++ [(a, b)])) ∧ (∀ l : List (Int × Int), (p2 l).map frz = p2 l) :=
  ⟨fun _ f _ h => map_getL f h, fun _ f _ h => map_getI f h, fun _ f _ h => map_getB f h, p2_len, fun _ _ h => p2_get0 h, fun _ _ h => p2_get1 h, fun _ _ h => p2_take h, p2_one, p2_frz⟩
theorem Cl.p2 (l : List (Int × Int)) : ∀ y ∈ p2 l, Cl y := fun y hy => by
  obtain ⟨x, hx, hy⟩ := List.mem_flatten.1 hy
  obtain ⟨p, _, rfl⟩ := List.mem_map.1 hx
  exact Cl.cons (Cl.int _ _) (Cl.cons (Cl.int _ _) Cl.nil) y hy
theorem Cl.zI (l : List Int) : Cl (Zed.zI l) := Cl.fz (Cl.ints l)
theorem Cl.zP (l : List (Int × Int)) : Cl (Zed.zP l) := Cl.fz (Cl.p2 l)
theorem Cl.zL {α : Type} {f : α → Value} (h : ∀ x, Cl (f x)) (l : List α) : Cl (Zed.zL f l) := Cl.fz (Cl.map h)
theorem Cl.zII (l : List (List Int)) : Cl (Zed.zII l) := Cl.zL (fun r => Cl.zI r) l
theorem Cl.zB (l : List Bool) : Cl (Zed.zB l) := Cl.zL (fun b => Cl.bool b) l
theorem zh : (∀ (x : Int) (l : List Int), zI (x :: l) = FZ 1 (l.length + 1) (.int .i64 x :: ints l)) ∧ (zI [] = FZ 1 0 []) ∧ (ints [] = []) ∧ (∀ (x : Int) (l : List Int), ints (x :: l) = .int .i64 x :: ints l) ∧ (∀ {α : Type} (f : α → Value) (l m : List α), (l ++ m).map f = l.map f ++ m.map f) := ⟨fun _ _ => rfl, rfl, rfl, fun _ _ => rfl, fun _ _ _ => List.map_append⟩
theorem zxq : type_of% (And.intro zx (And.intro zx2 (And.intro zx3 (And.intro zx4 (And.intro fx0 (And.intro hx0 (And.intro zh zg))))))) := And.intro zx (And.intro zx2 (And.intro zx3 (And.intro zx4 (And.intro fx0 (And.intro hx0 (And.intro zh zg))))))
theorem FinV.eq {lo : Nat} {H : Heap} {v r : Value} (h : Cl r) (e : v = r) : FinV lo H v r := by rw [e]; exact .cl h
/-- What is given back, where it stands there as it should. -/
theorem fv {lo : Nat} {H : Heap} {v r : Value} (h : FinV lo H v r := by first | exact .cl (Cl.int _ _) | exact .cl (Cl.bool _) | exact .cl (Cl.string _) | exact .gz (Cl.ints _) | exact .gz (Cl.p2 _) | exact .gz (Cl.map fun _ => Cl.zI _) | exact .nil _ | exact .cl (Cl.zI _) | exact .cl (Cl.zII _) | exact .cl (Cl.zP _) | exact .cl (Cl.zB _)) : FinV lo H v r := h
theorem Ext.setB {H H1 : Heap} (h : Ext H H1) (b : Nat) (x : Blk) : Ext (H.set b x) (H1.set b x) := ⟨h.size, fun c hc => by
  rw [Heap.get_set, Heap.get_set]
  split
  · rfl
  · exact h.get c hc⟩
theorem Ext.setc {X Z G : Heap} {b : Nat} {y : Blk} (h : Ext X G) (e : X.set b y = Z) : Ext Z (G.set b y) := e ▸ h.setB b y
theorem Ext.ofeq {X Z G : Heap} (h : Ext X G) (e : X = Z) : Ext Z G := e ▸ h
theorem all_succ {p : Nat → Prop} {k : Nat} (h : ∀ i, i < k → p i) (hk : p k) : ∀ i, i < k + 1 → p i := fun i hi => by
  rcases Nat.lt_succ_iff_lt_or_eq.1 hi with h1 | rfl
  · exact h i h1
  · exact hk
end Go.Proofs.YtmoknllbpjpkmaaGreat.Zed
