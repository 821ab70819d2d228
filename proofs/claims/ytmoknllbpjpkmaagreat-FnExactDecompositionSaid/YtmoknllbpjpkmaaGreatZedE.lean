/- What a function gives back and nobody else knows: rows of one's own; arguments that are lent. -/
import Derived.Test.YtmoknllbpjpkmaaGreatZedC
namespace Go.Proofs.YtmoknllbpjpkmaaGreat.Zed
open Go
set_option linter.unusedVariables false
set_option linter.unusedSimpArgs false
/-- Nothing frozen in it. -/
inductive Nf : Value → Prop
  | flat {v : Value} (h : flat v = true) : Nf v
  | sl (b o n c : Nat) : Nf (.slice (some ⟨b, o, none⟩) n c)
  | fz0 (es : Nat) : Nf (FZ es 0 [])
/-- The values vs, told as rs, with blocks of their own (ks: the blocks and what they hold). q: growing lists too. -/
inductive OwnL (q : Bool) (lo : Nat) (H : Heap) : List Value → List Value → List (Nat × Blk) → Prop
  | nil : OwnL q lo H [] [] []
  | flat {v : Value} {l l' : List Value} {ks : List (Nat × Blk)} (h : flat v = true) (t : OwnL q lo H l l' ks) : OwnL q lo H (v :: l) (v :: l') ks
  | nilr (es : Nat) {l l' : List Value} {ks : List (Nat × Blk)} (t : OwnL q lo H l l' ks) : OwnL q lo H (.slice none 0 0 :: l) (FZ es 0 [] :: l') ks
  | fz0 (es : Nat) {l l' : List Value} {ks : List (Nat × Blk)} (t : OwnL q lo H l l' ks) : OwnL q lo H (FZ es 0 [] :: l) (FZ es 0 [] :: l') ks
  | own {g o n c es : Nat} {cs rs l l' : List Value} {k1 k2 : List (Nat × Blk)} (hg : lo ≤ g) (hget : H.get g = .cells cs es false) (hl : o + n * es ≤ cs.length) (hr : rs.length = n * es) (hn : ∀ x ∈ cs, Nf x)
      (h1 : OwnL q lo H ((cs.drop o).take (n * es)) rs k1) (h2 : OwnL q lo H l l' k2) (hd : ∀ k ∈ k1 ++ k2, k.1 ≠ g) (hd2 : ∀ k ∈ k1, ∀ k' ∈ k2, k.1 ≠ k'.1) :
      OwnL q lo H (.slice (some ⟨g, o, none⟩) n c :: l) (FZ es n rs :: l') ((g, .cells cs es false) :: (k1 ++ k2))
  | gz {tag n es : Nat} {cs rs l l' : List Value} {k1 k2 : List (Nat × Blk)} (hq : q = true) (hg : lo ≤ tag) (hget : H.get tag = .tok n es) (h0 : 0 < n) (hr : rs.length = n * es) (hn : ∀ x ∈ cs, Nf x)
      (h1 : OwnL q lo H cs rs k1) (h2 : OwnL q lo H l l' k2) (hd : ∀ k ∈ k1 ++ k2, k.1 ≠ H.size + tag) (hd2 : ∀ k ∈ k1, ∀ k' ∈ k2, k.1 ≠ k'.1) :
      OwnL q lo H (GZ tag es n cs :: l) (FZ es n rs :: l') ((H.size + tag, .cells cs es false) :: (k1 ++ k2))
  | gz0 {tag es : Nat} {l l' : List Value} {ks : List (Nat × Blk)} (hq : q = true) (t : OwnL q lo H l l' ks) : OwnL q lo H (GZ tag es 0 [] :: l) (FZ es 0 [] :: l') ks
  | agg {xs xs' l l' : List Value} {k1 k2 : List (Nat × Blk)} (h1 : OwnL q lo H xs xs' k1) (h2 : OwnL q lo H l l' k2) (hd2 : ∀ k ∈ k1, ∀ k' ∈ k2, k.1 ≠ k'.1) : OwnL q lo H (.agg xs.toArray :: l) (.agg xs'.toArray :: l') (k1 ++ k2)
  | tuple {xs xs' l l' : List Value} {k1 k2 : List (Nat × Blk)} (h1 : OwnL q lo H xs xs' k1) (h2 : OwnL q lo H l l' k2) (hd2 : ∀ k ∈ k1, ∀ k' ∈ k2, k.1 ≠ k'.1) : OwnL q lo H (.tuple xs.toArray :: l) (.tuple xs'.toArray :: l') (k1 ++ k2)
section
variable {q : Bool} {lo : Nat} {H H' : Heap} {vs rs : List Value} {ks : List (Nat × Blk)}
theorem OwnL.fn (h : OwnL q lo H vs rs ks) : ∀ k ∈ ks, ∀ k' ∈ ks, k.1 = k'.1 → k = k' := by
  have app : ∀ {k1 k2 : List (Nat × Blk)}, (∀ k ∈ k1, ∀ k' ∈ k1, k.1 = k'.1 → k = k') → (∀ k ∈ k2, ∀ k' ∈ k2, k.1 = k'.1 → k = k') → (∀ k ∈ k1, ∀ k' ∈ k2, k.1 ≠ k'.1) → ∀ k ∈ k1 ++ k2, ∀ k' ∈ k1 ++ k2, k.1 = k'.1 → k = k' := by
    intro k1 k2 a b c k hk k' hk' e
    rcases List.mem_append.1 hk with h1 | h1 <;> rcases List.mem_append.1 hk' with h2 | h2
    · exact a k h1 k' h2 e
    · exact absurd e (c k h1 k' h2)
    · exact absurd e.symm (c k' h2 k h1)
    · exact b k h1 k' h2 e
  have con : ∀ {x : Nat × Blk} {l : List (Nat × Blk)}, (∀ k ∈ l, ∀ k' ∈ l, k.1 = k'.1 → k = k') → (∀ k ∈ l, k.1 ≠ x.1) → ∀ k ∈ x :: l, ∀ k' ∈ x :: l, k.1 = k'.1 → k = k' := by
    intro x l a b k hk k' hk' e
    rcases List.mem_cons.1 hk with rfl | h1 <;> rcases List.mem_cons.1 hk' with rfl | h2
    · rfl
    · exact absurd e.symm (b k' h2)
    · exact absurd e (b k h1)
    · exact a k h1 k' h2 e
  induction h with
  | nil => intro k hk; cases hk
  | flat h t ih => exact ih
  | nilr es t ih => exact ih
  | fz0 es t ih => exact ih
  | own hg hget hl hr hn h1 h2 hd hd2 ih1 ih2 => exact con (app ih1 ih2 hd2) hd
  | gz hq hg hget h0 hr hn h1 h2 hd hd2 ih1 ih2 => exact con (app ih1 ih2 hd2) hd
  | gz0 hq t ih => exact ih
  | agg h1 h2 hd2 ih1 ih2 => exact app ih1 ih2 hd2
  | tuple h1 h2 hd2 ih1 ih2 => exact app ih1 ih2 hd2
/-- Where a key comes from. -/
def KeyOf (H : Heap) (b : Nat) (cs : List Value) (es : Nat) : Prop := (H.get b = .cells cs es false) ∨ ∃ t n, b = H.size + t ∧ H.get t = .tok n es ∧ 0 < n
theorem OwnL.key (h : OwnL q lo H vs rs ks) : ∀ k ∈ ks, ∃ cs es, k.2 = .cells cs es false ∧ (∀ x ∈ cs, Nf x) ∧ ((lo ≤ k.1 ∧ H.get k.1 = .cells cs es false) ∨ ∃ t n, lo ≤ t ∧ k.1 = H.size + t ∧ H.get t = .tok n es ∧ 0 < n) := by
  induction h with
  | nil => intro k hk; cases hk
  | flat h t ih => exact ih
  | nilr es t ih => exact ih
  | fz0 es t ih => exact ih
  | own hg hget hl hr hn h1 h2 hd hd2 ih1 ih2 =>
    intro k hk
    rcases List.mem_cons.1 hk with rfl | hk
    · exact ⟨_, _, rfl, hn, .inl ⟨hg, hget⟩⟩
    · rcases List.mem_append.1 hk with hk | hk
      · exact ih1 k hk
      · exact ih2 k hk
  | gz hq hg hget h0 hr hn h1 h2 hd hd2 ih1 ih2 =>
    intro k hk
    rcases List.mem_cons.1 hk with rfl | hk
    · exact ⟨_, _, rfl, hn, .inr ⟨_, _, hg, rfl, hget, h0⟩⟩
    · rcases List.mem_append.1 hk with hk | hk
      · exact ih1 k hk
      · exact ih2 k hk
  | gz0 hq t ih => exact ih
  | agg h1 h2 hd2 ih1 ih2 =>
    intro k hk
    rcases List.mem_append.1 hk with hk | hk
    · exact ih1 k hk
    · exact ih2 k hk
  | tuple h1 h2 hd2 ih1 ih2 =>
    intro k hk
    rcases List.mem_append.1 hk with hk | hk
    · exact ih1 k hk
    · exact ih2 k hk
theorem Nf.not_gz {tag es n : Nat} {cs : List Value} (h : Nf (GZ tag es n cs)) : False := by
  generalize hv : GZ tag es n cs = v at h
  cases h with
  | flat h => subst hv; simp [Zed.flat, GZ] at h
  | sl b o n c => simp [GZ] at hv
  | fz0 es => simp [GZ, FZ] at hv
/-- The same in another heap, where the blocks hold the same. -/
theorem OwnL.keep {lo' : Nat} (h : OwnL q lo H vs rs ks) (hn : q = false ∨ ∀ v ∈ vs, Nf v) (hlo : lo' ≤ lo) (hk : ∀ k ∈ ks, H'.get k.1 = k.2) : OwnL false lo' H' vs rs ks := by
  induction h with
  | nil => exact .nil
  | flat h t ih => exact .flat h (ih (hn.imp id fun h v hv => h v (List.mem_cons_of_mem _ hv)) hk)
  | nilr es t ih => exact .nilr es (ih (hn.imp id fun h v hv => h v (List.mem_cons_of_mem _ hv)) hk)
  | fz0 es t ih => exact .fz0 es (ih (hn.imp id fun h v hv => h v (List.mem_cons_of_mem _ hv)) hk)
  | own hg hget hl hr hn' h1 h2 hd hd2 ih1 ih2 =>
    exact .own (by omega) (hk _ (List.mem_cons_self ..)) hl hr hn' (ih1 (.inr fun v hv => hn' v (List.mem_of_mem_drop (List.mem_of_mem_take hv))) fun k h => hk k (List.mem_cons_of_mem _ (List.mem_append_left _ h)))
      (ih2 (hn.imp id fun h v hv => h v (List.mem_cons_of_mem _ hv)) fun k h => hk k (List.mem_cons_of_mem _ (List.mem_append_right _ h))) hd hd2
  | gz hq hg hget h0 hr hn' h1 h2 hd hd2 ih1 ih2 =>
    rcases hn with e | e
    · rw [e] at hq; cases hq
    · exact (e _ (List.mem_cons_self ..)).not_gz.elim
  | gz0 hq t ih =>
    rcases hn with e | e
    · rw [e] at hq; cases hq
    · exact (e _ (List.mem_cons_self ..)).not_gz.elim
  | agg h1 h2 hd2 ih1 ih2 =>
    rcases hn with e | e
    · exact .agg (ih1 (.inl e) fun k h => hk k (List.mem_append_left _ h)) (ih2 (.inl e) fun k h => hk k (List.mem_append_right _ h)) hd2
    · have := e _ (List.mem_cons_self ..)
      generalize hv : Value.agg _ = v at this
      cases this with
      | flat h => subst hv; simp [Zed.flat] at h
      | sl b o n c => simp at hv
      | fz0 es => simp [FZ] at hv
  | tuple h1 h2 hd2 ih1 ih2 =>
    rcases hn with e | e
    · exact .tuple (ih1 (.inl e) fun k h => hk k (List.mem_append_left _ h)) (ih2 (.inl e) fun k h => hk k (List.mem_append_right _ h)) hd2
    · have := e _ (List.mem_cons_self ..)
      generalize hv : Value.tuple _ = v at this
      cases this with
      | flat h => subst hv; simp [Zed.flat] at h
      | sl b o n c => simp at hv
      | fz0 es => simp [FZ] at hv
end
/-! ### The heap, wholly frozen -/
def wrs (H : Heap) (b : Nat) : Prop := (H.get b).wr = true
def iced (H : Heap) : Heap := ⟨H.size, fun b => if (H.get b).wr = true then .dead else H.get b⟩
theorem iced_wr {H : Heap} {b : Nat} : ((iced H).get b).wr = false := by
  unfold iced
  dsimp only
  split
  · rfl
  · rename_i h; cases e : (H.get b).wr
    · rfl
    · exact absurd e h
theorem iced_tok {H : Heap} {b n es : Nat} : (iced H).get b = .tok n es ↔ H.get b = .tok n es := by
  unfold iced
  dsimp only
  constructor
  · intro h
    split at h
    · cases h
    · exact h
  · intro h
    rw [h]; rfl
theorem Holds.iceAll {φ : Ren} {H : Heap} {w : World} (h : Holds φ H w) : Holds (φ.ice (wrs H) w) (iced H) w ∧ Ok φ H w (φ.ice (wrs H) w) (iced H) w :=
  h.ice (H' := iced H) (wrs H) (fun g hg => hg) rfl (fun b hb => if_neg hb) (fun b hb => if_pos hb)
theorem iced_has {H : Heap} {b : Nat} (h : H.has b) : (iced H).has b := by
  unfold Heap.has iced
  dsimp only
  split
  · simp
  · exact h
theorem iced_has' {H : Heap} {b : Nat} (h : (iced H).has b) : H.has b := by
  intro e
  apply h
  unfold iced
  dsimp only
  rw [e]; rfl
theorem iced_owns {φ φ' : Ren} {H : Heap} {β : Nat} (hti : φ'.ti = φ.ti) (h : Owns φ' (iced H) β) : ∃ t n es, H.get t = .tok n es ∧ (φ.ti t).es ≠ 0 ∧ (φ.ti t).blk = β := by
  rcases h with ⟨b, hb, _⟩ | ⟨b, n, es, hb, he, h⟩
  · rw [iced_wr] at hb; cases hb
  · rw [hti] at he h; exact ⟨b, n, es, iced_tok.1 hb, he, h⟩
/-- Rows of one's own, told by their contents while the heap is frozen. -/
theorem OwnL.lent {φ : Ren} {H : Heap} {w : World} (h0 : Holds φ H w) {lo : Nat} {vs rs us : List Value} {ks : List (Nat × Blk)} (h : OwnL false lo H vs rs ks) (hr : RL φ H.has vs us) : RL (φ.ice (wrs H) w) (iced H).has rs us := by
  have hfz : ∀ β i x, φ.fz β i = some x → (φ.ice (wrs H) w).fz β i = some x := fun β i x hf => (h0.iceAll).2.fz β i x hf
  have hm := (h0.iceAll).2.mono
  induction h generalizing us with
  | nil => exact ⟨hr.1, fun i x x' hx => by simp at hx⟩
  | flat h t ih =>
    obtain ⟨y, ys, rfl, h1, h2⟩ := hr.inv_cons
    exact RL.cons (h1.mono hm) (ih h2)
  | nilr es t ih =>
    obtain ⟨y, ys, rfl, h1, h2⟩ := hr.inv_cons
    refine RL.cons ?_ (ih h2)
    rw [R.flat_eq (v := .slice none 0 0) rfl h1]
    exact .fz0 es none 0 fun _ => rfl
  | fz0 es t ih =>
    obtain ⟨y, ys, rfl, h1, h2⟩ := hr.inv_cons
    exact RL.cons (h1.mono hm) (ih h2)
  | @own g o n c es cs rs l l' k1 k2 hg hget hl hrl hn t1 t2 hd hd2 ih1 ih2 =>
    obtain ⟨y, ys, rfl, h1, h2⟩ := hr.inv_cons
    refine RL.cons ?_ (ih2 h2)
    obtain ⟨_, hb, c', rfl, hnc, _⟩ := h1.slice_inv (.inl rfl)
    have hes := (h0.es g cs es false hget).2
    have hc : ∀ i, i < n * es → ∃ u, w.cell? ⟨(φ g).blk, (φ g).base + o + i, none⟩ = some u ∧ ∃ x, ((cs.drop o).take (n * es))[i]? = some x ∧ R φ H.has x u := fun i hi => by
      have hi2 : o + i < cs.length := by omega
      obtain ⟨u, hu1, hu2⟩ := h0.cell g cs es false hget (o + i) _ (List.getElem?_eq_getElem hi2)
      refine ⟨u, by rw [Nat.add_assoc]; exact hu1, _, ?_, hu2⟩
      rw [List.getElem?_take_of_lt hi, List.getElem?_drop, List.getElem?_eq_getElem hi2]
    have key := ih1 (us := (List.range (n * es)).map fun i => (w.cell? ⟨(φ g).blk, (φ g).base + o + i, none⟩).getD undef) ⟨by simp; omega, fun i x x' hx hx' => by
      have hi : i < n * es := by
        have := (List.getElem?_eq_some_iff.1 hx').1
        simpa using this
      obtain ⟨u, hu, x2, hx2, hR⟩ := hc i hi
      rw [List.getElem?_map, List.getElem?_range hi] at hx'
      simp only [Option.map_some, Option.some.injEq] at hx'
      rw [hu] at hx'
      rw [hx2] at hx
      cases hx
      rw [← hx']; exact hR⟩
    refine .fz es n c' (φ g).blk ((φ g).base + o) rs (fun i => (w.cell? ⟨(φ g).blk, (φ g).base + o + i, none⟩).getD undef) hes hrl hnc (fun i hi => ?_) (fun i x hi => ?_)
    · rw [hrl] at hi
      obtain ⟨u, hu, _⟩ := hc i hi
      rw [ice_in (G := wrs H) ⟨g, by unfold wrs; rw [hget]; rfl, rfl⟩, hu]; rfl
    · have hi1 : i < n * es := by rw [← hrl]; exact (List.getElem?_eq_some_iff.1 hi).1
      refine key.2 i x _ hi ?_
      rw [List.getElem?_map, List.getElem?_range hi1]; rfl
  | gz hq => cases hq
  | gz0 hq => cases hq
  | agg t1 t2 hd2 ih1 ih2 =>
    obtain ⟨y, ys, rfl, h1, h2⟩ := hr.inv_cons
    obtain ⟨cs', rfl, hcs⟩ := h1.agg_inv
    exact RL.cons (R.agg_mk (by have := (ih1 (us := cs'.toList) (by have := hcs.toList; simpa using this)).toArray; simpa using this)) (ih2 h2)
  | tuple t1 t2 hd2 ih1 ih2 =>
    obtain ⟨y, ys, rfl, h1, h2⟩ := hr.inv_cons
    obtain ⟨cs', rfl, hcs⟩ := h1.tuple_inv
    exact RL.cons (R.tuple_mk (by have := (ih1 (us := cs'.toList) (by have := hcs.toList; simpa using this)).toArray; simpa using this)) (ih2 h2)
section
variable {φ φ0 : Ren} {H H' : Heap} {w w0 : World}
open Classical in
/-- The heap at a function's end: what was there, what is given back; the rest is dead. -/
noncomputable def keepH (H H' : Heap) (ks : List (Nat × Blk)) : Heap :=
  ⟨H'.size + H'.size, fun b => if b < H.size then H.get b else if h : ∃ x, (b, x) ∈ ks then h.choose else if b < H'.size + H'.size then .dead else .absent⟩
def keepR (φ0 φ : Ren) (H H' : Heap) : Ren := { img := fun b => if b < H'.size then φ.img b else φ.ti (b - H'.size), fz := φ0.fz, tl := fun b => if b < H.size then φ.tl b else 0, ti := φ.ti }
theorem keepH_key {ks : List (Nat × Blk)} (hfn : ∀ k ∈ ks, ∀ k' ∈ ks, k.1 = k'.1 → k = k') (hlo : ∀ k ∈ ks, H.size ≤ k.1) : ∀ k ∈ ks, (keepH H H' ks).get k.1 = k.2 := by
  intro k hk
  unfold keepH
  dsimp only
  rw [if_neg (by have := hlo k hk; omega)]
  have hex : ∃ x, (k.1, x) ∈ ks := ⟨k.2, hk⟩
  rw [dif_pos hex]
  exact congrArg Prod.snd (hfn _ hex.choose_spec _ hk rfl)
theorem keepH_cases {ks : List (Nat × Blk)} {b : Nat} {y : Blk} (h : (keepH H H' ks).get b = y) (h1 : y ≠ .dead) (h2 : y ≠ .absent) : (b < H.size ∧ H.get b = y) ∨ (H.size ≤ b ∧ (b, y) ∈ ks) := by
  unfold keepH at h
  dsimp only at h
  split at h
  · exact .inl ⟨by assumption, h⟩
  · split at h
    · rename_i hex
      exact .inr ⟨by omega, by rw [← h]; exact hex.choose_spec⟩
    · split at h
      · exact absurd h.symm h1
      · exact absurd h.symm h2
/-- What a call gives back: rows of one's own, in a heap that holds what it held. -/
theorem Holds.keep (h0 : Holds φ0 H w0) (h : Holds φ H' w) (ok : Ok (φ0.ice (wrs H) w0) (iced H) w0 φ H' w) (hx : Ext (iced H) H') {vs rs us : List Value} {ks : List (Nat × Blk)} (hf : OwnL true H.size H' vs rs ks) (hr : RL φ H'.has vs us) :
    ∃ φ3 H3 vs3, Holds φ3 H3 w ∧ Ok φ0 H w0 φ3 H3 w ∧ (Ext H H3 ∧ ∀ tag es n cs, vs = [GZ tag es n cs] → vs3 = [if n = 0 then FZ es 0 [] else .slice (some ⟨H'.size + tag, 0, none⟩) n 0] ∧ (n ≠ 0 → H3.get (H'.size + tag) = .cells cs es false)) ∧ (OwnL false H.size H3 vs3 rs ks ∧ ∀ k ∈ ks, k.1 < H3.size) ∧ RL φ3 H3.has vs3 us := by
  have hice := (h0.iceAll).2
  have hsz : H.size ≤ H'.size := hx.size
  have hg : ∀ b, b < H.size → H'.get b = (iced H).get b := fun b hb => hx.get b hb
  have hlt : ∀ b, H.has b → b < H.size := fun b hb => h0.lt_size hb
  have himg : ∀ b, H.has b → φ b = φ0 b := fun b hb => ok.img b (iced_has hb)
  have hfz0 : ∀ β i u, φ0.fz β i = some u → φ.fz β i = some u := fun β i u hf => ok.fz β i u (hice.fz β i u hf)
  have htok : ∀ b n es, H.get b = .tok n es → b < H.size ∧ H'.get b = .tok n es ∧ φ.ti b = φ0.ti b ∧ φ.tl b = φ0.tl b := fun b n es hb => by
    have hb1 := hlt b (by unfold Heap.has; rw [hb]; simp)
    have hb2 : H'.get b = .tok n es := by rw [hg b hb1]; exact iced_tok.2 hb
    have e1 := (h0.rest.tok b n es hb).1
    have e2 := (h.rest.tok b n es hb2).1
    rcases ok.tl b (by show φ0.tl b ≠ 0; omega) with ⟨q1, q2⟩ | q
    · exact ⟨hb1, hb2, q2, q1⟩
    · have : φ0.tl b < φ.tl b := q
      omega
  have hnown : ∀ b, (H.get b).live = true → ¬ Owns (φ0.ice (wrs H) w0) (iced H) (φ0 b).blk := fun b hb ho => by
    obtain ⟨t, n, es, q1, q2, q3⟩ := iced_owns (φ := φ0) rfl ho
    exact h0.rest.tap t n es b q1 q2 hb q3.symm
  have hold : ∀ b, (H.get b).live = true → w.heap[(φ0 b).blk]? = w0.heap[(φ0 b).blk]? := fun b hb => ok.frame _ (h0.lt b hb) (hnown b hb)
  -- the keys
  have hkey : ∀ k ∈ ks, H.size ≤ k.1 ∧ k.1 < H'.size + H'.size ∧ ∃ cs es, k.2 = .cells cs es false ∧ (∀ x ∈ cs, Nf x) ∧ 0 < es ∧ es = ((keepR φ0 φ H H') k.1).es ∧
      (∀ (j : Nat) (v : Value), cs[j]? = some v → ∃ u, w.cell? ⟨((keepR φ0 φ H H') k.1).blk, ((keepR φ0 φ H H') k.1).base + j, none⟩ = some u ∧ R φ H'.has v u) ∧
      (∃ arr e, w.heap[((keepR φ0 φ H H') k.1).blk]? = some (.cells arr e (0, 0)) ∧ ((keepR φ0 φ H H') k.1).base + ((keepR φ0 φ H H') k.1).ext = arr.size ∧ cs.length ≤ ((keepR φ0 φ H H') k.1).ext) ∧
      ((k.1 < H'.size ∧ (H'.get k.1).wr = true ∧ (keepR φ0 φ H H') k.1 = φ k.1) ∨ ∃ t n, H.size ≤ t ∧ k.1 = H'.size + t ∧ H'.get t = .tok n es ∧ (φ.ti t).es ≠ 0 ∧ (keepR φ0 φ H H') k.1 = φ.ti t) := by
    clear hold hnown htok
    have hes0 : ∀ {t n es}, H'.get t = .tok n es → (keepR φ0 φ H H') (H'.size + t) = φ.ti t := fun {t n es} ht => by
      show (if H'.size + t < H'.size then φ.img (H'.size + t) else φ.ti (H'.size + t - H'.size)) = _
      rw [if_neg (by omega), Nat.add_sub_cancel_left]
    induction hf generalizing us with
    | nil => intro k hk; cases hk
    | flat _ t ih => obtain ⟨y, ys, rfl, h1, h2⟩ := hr.inv_cons; exact ih h2
    | nilr es t ih => obtain ⟨y, ys, rfl, h1, h2⟩ := hr.inv_cons; exact ih h2
    | fz0 es t ih => obtain ⟨y, ys, rfl, h1, h2⟩ := hr.inv_cons; exact ih h2
    | gz0 hq t ih => obtain ⟨y, ys, rfl, h1, h2⟩ := hr.inv_cons; exact ih h2
    | agg t1 t2 hd2 ih1 ih2 =>
      obtain ⟨y, ys, rfl, h1, h2⟩ := hr.inv_cons
      obtain ⟨cs', rfl, hcs⟩ := h1.agg_inv
      intro k hk
      rcases List.mem_append.1 hk with hk | hk
      · exact ih1 (us := cs'.toList) (by have := hcs.toList; simpa using this) k hk
      · exact ih2 h2 k hk
    | tuple t1 t2 hd2 ih1 ih2 =>
      obtain ⟨y, ys, rfl, h1, h2⟩ := hr.inv_cons
      obtain ⟨cs', rfl, hcs⟩ := h1.tuple_inv
      intro k hk
      rcases List.mem_append.1 hk with hk | hk
      · exact ih1 (us := cs'.toList) (by have := hcs.toList; simpa using this) k hk
      · exact ih2 h2 k hk
    | @own g o n c es cs rs l l' k1 k2 hgl hget hl hrl hn t1 t2 hd hd2 ih1 ih2 =>
      obtain ⟨y, ys, rfl, h1, h2⟩ := hr.inv_cons
      have hgs : g < H'.size := h.lt_size (by unfold Heap.has; rw [hget]; simp)
      have hRg : (keepR φ0 φ H H') g = φ g := if_pos hgs
      intro k hk
      rcases List.mem_cons.1 hk with rfl | hk
      · refine ⟨hgl, by show g < _; omega, cs, es, rfl, hn, (h.es g cs es false hget).2, by rw [hRg]; exact (h.es g cs es false hget).1, ?_, ?_, .inl ⟨hgs, by show (H'.get g).wr = _; rw [hget]; rfl, hRg⟩⟩
        · rw [hRg]; exact h.cell g cs es false hget
        · rw [hRg]; exact h.row g cs es hget
      · rcases List.mem_append.1 hk with hk | hk
        · have hes := (h.es g cs es false hget).2
          refine ih1 (us := (List.range (n * es)).map fun i => (w.cell? ⟨(φ g).blk, (φ g).base + (o + i), none⟩).getD undef) ⟨by simp; omega, fun i x x' hx hx' => ?_⟩ k hk
          have hi : i < n * es := by have := (List.getElem?_eq_some_iff.1 hx').1; simpa using this
          rw [List.getElem?_map, List.getElem?_range hi] at hx'
          simp only [Option.map_some, Option.some.injEq] at hx'
          rw [List.getElem?_take_of_lt hi, List.getElem?_drop] at hx
          obtain ⟨u, hu1, hu2⟩ := h.cell g cs es false hget (o + i) x hx
          rw [hu1] at hx'
          rw [← hx']; exact hu2
        · exact ih2 h2 k hk
    | @gz tag n es cs rs l l' k1 k2 hq hgl hget h0n hrl hn t1 t2 hd hd2 ih1 ih2 =>
      obtain ⟨y, ys, rfl, h1, h2⟩ := hr.inv_cons
      obtain ⟨g1, g2, g3⟩ := h1.gz_inv
      obtain ⟨q1, q2, q3⟩ := h.rest.tok tag n es hget
      have hts : tag < H'.size := h.lt_size (by unfold Heap.has; rw [hget]; simp)
      have hRg := hes0 hget
      have hcells : cs.length = n * es ∧ ∀ (j : Nat) (v : Value), cs[j]? = some v → ∃ u, w.cell? ⟨(φ.ti tag).blk, (φ.ti tag).base + j, none⟩ = some u ∧ R φ H'.has v u := by
        obtain ⟨a, c, rfl, h3⟩ := g1.fz_inv
        rcases h3 with ⟨rfl, _⟩ | ⟨β, base, us', rfl, hs, hl, hc, f1, f2⟩
        · omega
        · rcases g3 q1.symm with ⟨e, _⟩ | ⟨_, _, c', e, _⟩
          · omega
          · injection e with e _ _
            injection e with e
            injection e with e1 e2 _
            refine ⟨hl, fun j v hj => ?_⟩
            have hj1 := (List.getElem?_eq_some_iff.1 hj).1
            have := h.rest.froz _ _ _ (f1 j hj1)
            rw [e1, e2] at this
            exact ⟨_, this, f2 j v hj⟩
      have hq3 : (φ.ti tag).es = es ∧ (∃ arr e, w.heap[(φ.ti tag).blk]? = some (.cells arr e (0, 0)) ∧ (φ.ti tag).base + (φ.ti tag).ext = arr.size) ∧ (∃ c, n ≤ c ∧ c * es = (φ.ti tag).ext) := by
        rcases q3 with ⟨e, _⟩ | ⟨e1, e2, e3, _⟩
        · omega
        · exact ⟨e1, e2, e3⟩
      obtain ⟨e1, ⟨arr, e, ea, eb⟩, c, hc1, hc2⟩ := hq3
      intro k hk
      rcases List.mem_cons.1 hk with rfl | hk
      · refine ⟨by show H.size ≤ H'.size + tag; omega, by show H'.size + tag < _; omega, cs, es, rfl, hn, q2, by rw [hRg]; exact e1.symm, ?_, ?_, .inr ⟨tag, n, hgl, rfl, hget, by omega, hRg⟩⟩
        · rw [hRg]; exact hcells.2
        · rw [hRg]
          refine ⟨arr, e, ea, eb, ?_⟩
          rw [hcells.1, ← hc2]
          exact Nat.mul_le_mul_right _ hc1
      · rcases List.mem_append.1 hk with hk | hk
        · refine ih1 (us := (List.range (n * es)).map fun i => (w.cell? ⟨(φ.ti tag).blk, (φ.ti tag).base + i, none⟩).getD undef) ⟨by simp [hcells.1], fun i x x' hx hx' => ?_⟩ k hk
          have hi : i < n * es := by have := (List.getElem?_eq_some_iff.1 hx').1; simpa using this
          rw [List.getElem?_map, List.getElem?_range hi] at hx'
          simp only [Option.map_some, Option.some.injEq] at hx'
          obtain ⟨u, hu1, hu2⟩ := hcells.2 i x hx
          rw [hu1] at hx'
          rw [← hx']; exact hu2
        · exact ih2 h2 k hk
  have hfn := hf.fn
  have hget3 := keepH_key (H := H) (H' := H') hfn (fun k hk => (hkey k hk).1)
  obtain ⟨H3, hH3⟩ : ∃ H3, keepH H H' ks = H3 := ⟨_, rfl⟩
  have hcas : ∀ {b : Nat} {y : Blk}, H3.get b = y → y ≠ .dead → y ≠ .absent → (b < H.size ∧ H.get b = y) ∨ (H.size ≤ b ∧ (b, y) ∈ ks) := fun hy h1 h2 => keepH_cases (by rw [hH3]; exact hy) h1 h2
  have hs3 : H3.size = H'.size + H'.size := by rw [← hH3]; rfl
  have hlow : ∀ b, b < H.size → H3.get b = H.get b := fun b hb => by rw [← hH3]; exact if_pos hb
  have hhas3 : ∀ b, H.size ≤ b → b < H'.size + H'.size → H3.has b := fun b h1 h2 e => by
    rw [← hH3] at e
    unfold keepH at e
    dsimp only at e
    rw [if_neg (by omega)] at e
    split at e
    · rename_i hex
      obtain ⟨_, _, cs, es, e', _⟩ := hkey _ hex.choose_spec
      dsimp only at e'
      rw [e'] at e; cases e
    · cases e
  have hwf3 : ∀ b, H3.size ≤ b → H3.get b = .absent := fun b hb => by
    rw [hs3] at hb
    rw [← hH3]
    unfold keepH
    dsimp only
    rw [if_neg (by omega), dif_neg (fun ⟨x, hx⟩ => by have := (hkey _ hx).2.1; dsimp only at this; omega), if_neg (by omega)]
  rw [hH3] at hget3
  clear hH3
  -- the keys' blocks are new
  have hnew : ∀ k ∈ ks, w0.heap.size ≤ ((keepR φ0 φ H H') k.1).blk := fun k hk => by
    obtain ⟨_, _, cs, es, _, _, _, _, _, _, hsrc⟩ := hkey k hk
    have hO : Owns φ H' ((keepR φ0 φ H H') k.1).blk := by
      rcases hsrc with ⟨_, q1, q2⟩ | ⟨t, n, _, _, q1, q2, q3⟩
      · exact .inl ⟨k.1, q1, by rw [q2]⟩
      · exact .inr ⟨t, n, es, q1, q2, by rw [q3]⟩
    rcases ok.wr _ hO with q | q
    · exact q
    · exfalso
      obtain ⟨t, n, es', q1, q2, q3⟩ := iced_owns (φ := φ0) rfl q
      obtain ⟨t1, t2, t3, _⟩ := htok t n es' q1
      rw [← t3] at q2 q3
      rcases hsrc with ⟨_, p1, p2⟩ | ⟨t', n', p0, _, p1, p2, p3⟩
      · rw [p2] at q3
        exact h.rest.tap t n es' k.1 t2 q2 (Blk.live_of_wr p1) q3.symm
      · rw [p3] at q3
        exact h.rest.tap2 t t' n es' n' es (by omega) t2 p1 q2 p2 q3
  have hkey2 : ∀ k ∈ ks, ∀ k' ∈ ks, k.1 ≠ k'.1 → ((keepR φ0 φ H H') k.1).blk ≠ ((keepR φ0 φ H H') k'.1).blk := fun k hk k' hk' hne e => by
    obtain ⟨_, _, cs, es, _, _, _, _, _, _, s1⟩ := hkey k hk
    obtain ⟨_, _, cs', es', _, _, _, _, _, _, s2⟩ := hkey k' hk'
    rcases s1 with ⟨_, p1, p2⟩ | ⟨t, n, _, p4, p1, p2, p3⟩ <;> rcases s2 with ⟨_, q1, q2⟩ | ⟨t', n', _, q4, q1, q2, q3⟩
    · rw [p2, q2] at e; exact h.apart k.1 k'.1 hne (Blk.live_of_wr p1) q1 e
    · rw [p2, q3] at e; exact h.rest.tap t' n' es' k.1 q1 q2 (Blk.live_of_wr p1) e
    · rw [p3, q2] at e; exact h.rest.tap t n es k'.1 p1 p2 (Blk.live_of_wr q1) e.symm
    · rw [p3, q3] at e; exact h.rest.tap2 t t' n es n' es' (fun q => hne (by omega)) p1 q1 p2 q2 e
  have hR0 : ∀ b, H.has b → (keepR φ0 φ H H') b = φ0 b := fun b hb => by
    have := hlt b hb
    show (if b < H'.size then φ.img b else _) = _
    rw [if_pos (by omega)]; exact himg b hb
  have hRl : ∀ b, (H.get b).live = true → H.has b := fun b hb e => by rw [e] at hb; cases hb
  have hm : Le φ0 H.has (keepR φ0 φ H H') H3.has := by
    refine ⟨fun b hb => ⟨?_, hR0 b hb⟩, fun _ _ _ q => q, fun b hb => ?_⟩
    · show H3.get b ≠ _
      rw [hlow b (hlt b hb)]; exact hb
    · have hb1 : b < H.size := by
        rcases Nat.lt_or_ge b H.size with q | q
        · exact q
        · exact absurd (h0.rest.tl0 b q) hb
      have e : (keepR φ0 φ H H').tl b = φ.tl b := if_pos hb1
      rw [e]
      exact ok.tl b hb
  -- values without frozen parts
  have nf : ∀ {v u : Value}, Nf v → R φ H'.has v u → R (keepR φ0 φ H H') H3.has v u := fun {v u} hv hr => by
    cases hv with
    | flat hf => rw [R.flat_eq hf hr]; exact R.of_flat hf
    | fz0 es =>
      obtain ⟨ad, c, rfl, h3⟩ := hr.fz_inv
      rcases h3 with ⟨_, _, h4⟩ | ⟨β, base, us', rfl, _⟩
      · exact .fz0 es ad c h4
      · exact .fz0 es _ c (fun e => by cases e)
    | sl b o n c =>
      have hb : H'.has b := (hr.slice_inv (.inl rfl)).2.1
      have hb1 := h.lt_size hb
      have e : (keepR φ0 φ H H') b = φ b := if_pos hb1
      have hb3 : H3.has b := by
        rcases Nat.lt_or_ge b H.size with q | q
        · show H3.get b ≠ _
          rw [hlow b q]
          have hb : H'.get b ≠ .absent := hb
          rw [hg b q] at hb
          exact iced_has' hb
        · exact hhas3 b q (by omega)
      generalize hv : Value.slice (some ⟨b, o, none⟩) n c = v at hr
      cases hr with
      | slx b' o' n' c' hh hc =>
        injection hv with hv1 hv2 hv3
        injection hv1 with hv1
        injection hv1 with hv1 hv4 _
        subst hv1 hv2 hv4
        rw [← e]; exact .slx b o n c' hb3 hc
      | sl b' o' n' c' hh hc he hs =>
        injection hv with hv1 hv2 hv3
        injection hv1 with hv1
        injection hv1 with hv1 hv4 _
        subst hv1 hv2 hv4
        rw [← e] at he hs ⊢; exact .sl b o n c' hb3 hc he hs
      | slf a c' hsp => injection hv with hv1; injection hv1 with hv1; rw [← hv1] at hsp; cases hsp
      | _ => cases hv
  refine ⟨keepR φ0 φ H H', H3, ?_⟩
  have hvs : ∃ vs3, OwnL false H.size H3 vs3 rs ks ∧ RL (keepR φ0 φ H H') H3.has vs3 us ∧ ∀ tag es n cs, vs = [GZ tag es n cs] → vs3 = [if n = 0 then FZ es 0 [] else .slice (some ⟨H'.size + tag, 0, none⟩) n 0] ∧ (n ≠ 0 → H3.get (H'.size + tag) = .cells cs es false) := by
    clear hnew hkey2 hfn hcas
    induction hf generalizing us with
    | nil => exact ⟨[], .nil, ⟨hr.1, fun i x x' hx => by simp at hx⟩, fun _ _ _ _ e => by cases e⟩
    | @flat v l l' ks' hv t ih =>
      obtain ⟨y, ys, rfl, h1, h2⟩ := hr.inv_cons
      obtain ⟨vs3, a, b, _⟩ := ih h2 hkey hget3
      exact ⟨v :: vs3, .flat hv a, RL.cons (nf (.flat hv) h1) b, fun _ _ _ _ e => by injection e with e _; rw [e] at hv; simp [Zed.flat, GZ] at hv⟩
    | nilr es t ih =>
      obtain ⟨y, ys, rfl, h1, h2⟩ := hr.inv_cons
      obtain ⟨vs3, a, b, _⟩ := ih h2 hkey hget3
      exact ⟨.slice none 0 0 :: vs3, .nilr es a, RL.cons (nf (.flat rfl) h1) b, fun _ _ _ _ e => by injection e with e _; simp [GZ] at e⟩
    | fz0 es t ih =>
      obtain ⟨y, ys, rfl, h1, h2⟩ := hr.inv_cons
      obtain ⟨vs3, a, b, _⟩ := ih h2 hkey hget3
      obtain ⟨ad, c, rfl, h3⟩ := h1.fz_inv
      refine ⟨FZ es 0 [] :: vs3, .fz0 es a, RL.cons ?_ b, fun _ _ _ _ e => by injection e with e _; simp [FZ, GZ] at e⟩
      rcases h3 with ⟨_, _, h4⟩ | ⟨β, base, us', rfl, _⟩
      · exact .fz0 es ad c h4
      · exact .fz0 es _ c (fun e => by cases e)
    | gz0 hq t ih =>
      rename_i tag es l l' ks'
      obtain ⟨y, ys, rfl, h1, h2⟩ := hr.inv_cons
      obtain ⟨vs3, a, b, _⟩ := ih h2 hkey hget3
      obtain ⟨ad, c, rfl, h3⟩ := h1.gz_inv.1.fz_inv
      refine ⟨FZ es 0 [] :: vs3, .fz0 es a, RL.cons ?_ b, fun tag' es' n' cs' e => by
        injection e with e e2
        simp [GZ] at e
        obtain ⟨rfl, rfl, rfl, rfl⟩ := e
        subst e2
        have := b.1.trans h2.1.symm
        rw [List.length_nil] at this
        rw [List.length_eq_zero_iff.1 this]; exact ⟨rfl, fun h => absurd rfl h⟩⟩
      rcases h3 with ⟨_, _, h4⟩ | ⟨β, base, us', rfl, _⟩
      · exact .fz0 es ad c h4
      · exact .fz0 es _ c (fun e => by cases e)
    | agg t1 t2 hd2 ih1 ih2 =>
      obtain ⟨y, ys, rfl, h1, h2⟩ := hr.inv_cons
      obtain ⟨cs', rfl, hcs⟩ := h1.agg_inv
      obtain ⟨vs1, a1, b1, _⟩ := ih1 (us := cs'.toList) (by have := hcs.toList; simpa using this) (fun k hk => hkey k (List.mem_append_left _ hk)) (fun k hk => hget3 k (List.mem_append_left _ hk))
      obtain ⟨vs3, a, b, _⟩ := ih2 h2 (fun k hk => hkey k (List.mem_append_right _ hk)) (fun k hk => hget3 k (List.mem_append_right _ hk))
      exact ⟨.agg vs1.toArray :: vs3, .agg a1 a hd2, RL.cons (R.agg_mk (by have := b1.toArray; simpa using this)) b, fun _ _ _ _ e => by injection e with e _; simp [GZ] at e⟩
    | tuple t1 t2 hd2 ih1 ih2 =>
      obtain ⟨y, ys, rfl, h1, h2⟩ := hr.inv_cons
      obtain ⟨cs', rfl, hcs⟩ := h1.tuple_inv
      obtain ⟨vs1, a1, b1, _⟩ := ih1 (us := cs'.toList) (by have := hcs.toList; simpa using this) (fun k hk => hkey k (List.mem_append_left _ hk)) (fun k hk => hget3 k (List.mem_append_left _ hk))
      obtain ⟨vs3, a, b, _⟩ := ih2 h2 (fun k hk => hkey k (List.mem_append_right _ hk)) (fun k hk => hget3 k (List.mem_append_right _ hk))
      exact ⟨.tuple vs1.toArray :: vs3, .tuple a1 a hd2, RL.cons (R.tuple_mk (by have := b1.toArray; simpa using this)) b, fun _ _ _ _ e => by injection e with e _; simp [GZ] at e⟩
    | @own g o n c es cs rs l l' k1 k2 hgl hget hl hrl hn t1 t2 hd hd2 ih1 ih2 =>
      obtain ⟨y, ys, rfl, h1, h2⟩ := hr.inv_cons
      obtain ⟨vs3, a, b, _⟩ := ih2 h2 (fun k hk => hkey k (List.mem_cons_of_mem _ (List.mem_append_right _ hk))) (fun k hk => hget3 k (List.mem_cons_of_mem _ (List.mem_append_right _ hk)))
      refine ⟨.slice (some ⟨g, o, none⟩) n c :: vs3, .own hgl (hget3 _ (List.mem_cons_self ..)) hl hrl hn ?_ a hd hd2, RL.cons (nf (.sl g o n c) h1) b, fun _ _ _ _ e => by injection e with e _; simp [GZ] at e⟩
      exact t1.keep (.inr fun v hv => hn v (List.mem_of_mem_drop (List.mem_of_mem_take hv))) (Nat.le_refl _) fun k hk => hget3 k (List.mem_cons_of_mem _ (List.mem_append_left _ hk))
    | @gz tag n es cs rs l l' k1 k2 hq hgl hget h0n hrl hn t1 t2 hd hd2 ih1 ih2 =>
      obtain ⟨y, ys, rfl, h1, h2⟩ := hr.inv_cons
      obtain ⟨vs3, a, b, _⟩ := ih2 h2 (fun k hk => hkey k (List.mem_cons_of_mem _ (List.mem_append_right _ hk))) (fun k hk => hget3 k (List.mem_cons_of_mem _ (List.mem_append_right _ hk)))
      obtain ⟨g1, g2, g3⟩ := h1.gz_inv
      obtain ⟨q1, q2, q3⟩ := h.rest.tok tag n es hget
      have hts : tag < H'.size := h.lt_size (by unfold Heap.has; rw [hget]; simp)
      have hRg : (keepR φ0 φ H H') (H'.size + tag) = φ.ti tag := by
        show (if H'.size + tag < H'.size then φ.img (H'.size + tag) else φ.ti (H'.size + tag - H'.size)) = _
        rw [if_neg (by omega), Nat.add_sub_cancel_left]
      have hlen : cs.length = n * es := by
        obtain ⟨ad, c, rfl, h3⟩ := g1.fz_inv
        rcases h3 with ⟨rfl, _⟩ | ⟨β, base, us', rfl, hs, hl, hc, f1, f2⟩
        · omega
        · exact hl
      rcases g3 q1.symm with ⟨e, _⟩ | ⟨p1, p2, c', rfl, hnc, hce⟩
      · omega
      · refine ⟨.slice (some ⟨H'.size + tag, 0, none⟩) n 0 :: vs3, .own (by omega) (hget3 _ (List.mem_cons_self ..)) (by omega) hrl hn ?_ a hd hd2, RL.cons ?_ b, fun tag' es' n' cs' e => by
          injection e with e e2
          simp [GZ] at e
          obtain ⟨rfl, rfl, rfl, rfl⟩ := e
          subst e2
          have := b.1.trans h2.1.symm
          rw [List.length_nil] at this
          rw [List.length_eq_zero_iff.1 this, if_neg (by omega)]
          exact ⟨rfl, fun _ => hget3 _ (List.mem_cons_self ..)⟩⟩
        · have := t1.keep (H' := H3) (lo' := H.size) (.inr hn) (Nat.le_refl _) fun k hk => hget3 k (List.mem_cons_of_mem _ (List.mem_append_left _ hk))
          rw [List.drop_zero, List.take_of_length_le (by omega)]
          exact this
        · have := R.sl (φ := keepR φ0 φ H H') (has := H3.has) (H'.size + tag) 0 n c' (hhas3 _ (by omega) (by omega)) hnc (by rw [hRg, p2]; omega) (by rw [hRg, p2]; exact p1)
          rw [hRg] at this
          exact this
  obtain ⟨vs3, a3, b3, hcv⟩ := hvs
  refine ⟨vs3, ⟨hwf3, ?_, ?_, ?_, ?_, ?_, ?_, ⟨?_, ?_, ?_, ?_, ?_, ?_⟩⟩, ⟨by rw [hs3]; omega, hR0, fun b hb => (hm.img b hb).1, ok.os, ok.tape, ok.output, ok.wsize, fun β hβ hn => ok.frame β hβ (fun ho => hn ?_), ?_, fun _ _ _ q => q, hm.tl⟩, ⟨⟨by rw [hs3]; omega, hlow⟩, hcv⟩, ⟨a3, fun k hk => by rw [hs3]; exact (hkey k hk).2.1⟩, b3⟩
  · intro b cs es ro hb j v hj
    rcases hcas hb (by simp) (by simp) with ⟨q1, q2⟩ | ⟨q1, q2⟩
    · have hl : (H.get b).live = true := by rw [q2]; rfl
      obtain ⟨u, hu1, hu2⟩ := h0.cell b cs es ro q2 j v hj
      refine ⟨u, ?_, hu2.mono hm⟩
      rw [hR0 b (hRl b hl), cell_congr (hold b hl)]; exact hu1
    · obtain ⟨_, _, cs', es', e, hn, _, _, hc, _⟩ := hkey _ q2
      injection e with e1 e2 e3
      subst e1
      obtain ⟨u, hu1, hu2⟩ := hc j v hj
      exact ⟨u, hu1, nf (hn v (List.mem_of_getElem? hj)) hu2⟩
  · intro b cs es hb
    rcases hcas hb (by simp) (by simp) with ⟨q1, q2⟩ | ⟨q1, q2⟩
    · have hl : (H.get b).live = true := by rw [q2]; rfl
      rw [hR0 b (hRl b hl), hold b hl]; exact h0.row b cs es q2
    · obtain ⟨_, _, cs', es', e, hn, _, _, hc, hrow, _⟩ := hkey _ q2
      injection e with e1 e2 e3
      subst e1
      exact hrow
  · intro b cs es ro hb
    rcases hcas hb (by simp) (by simp) with ⟨q1, q2⟩ | ⟨q1, q2⟩
    · have hl : (H.get b).live = true := by rw [q2]; rfl
      rw [hR0 b (hRl b hl)]; exact h0.es b cs es ro q2
    · obtain ⟨_, _, cs', es', e, hn, p1, p2, _⟩ := hkey _ q2
      injection e with e1 e2 e3
      subst e1 e2
      exact ⟨p2, p1⟩
  · intro b es hb
    rcases hcas hb (by simp) (by simp) with ⟨q1, q2⟩ | ⟨q1, q2⟩
    · have hl : (H.get b).live = true := by rw [q2]; rfl
      obtain ⟨en, ck, h4, hr'⟩ := h0.map b es q2
      refine ⟨en, ck, ?_, hr'.1, fun j k v e p1 p2 => ⟨(hr'.2 j k v e p1 p2).1, (hr'.2 j k v e p1 p2).2.mono hm⟩⟩
      rw [hR0 b (hRl b hl), hold b hl]; exact h4
    · obtain ⟨_, _, cs', es', e, _⟩ := hkey _ q2
      cases e
  · intro b hb
    rcases hcas (b := b) rfl (fun e => by rw [e] at hb; cases hb) (fun e => by rw [e] at hb; cases hb) with ⟨q1, q2⟩ | ⟨q1, q2⟩
    · have hl : (H.get b).live = true := by rw [q2]; exact hb
      rw [hR0 b (hRl b hl)]
      exact Nat.lt_of_lt_of_le (h0.lt b hl) ok.wsize
    · obtain ⟨_, _, cs', es', e, hn, _, _, hc, ⟨arr, e2, hrow, _⟩, _⟩ := hkey _ q2
      exact (Array.getElem?_eq_some_iff.1 hrow).1
  · intro b c hbc hb hc e
    rcases hcas (b := b) rfl (fun e => by rw [e] at hb; cases hb) (fun e => by rw [e] at hb; cases hb) with ⟨q1, q2⟩ | ⟨q1, q2⟩ <;> rcases hcas (b := c) rfl (fun e => by rw [e] at hc; cases hc) (fun e => by rw [e] at hc; cases hc) with ⟨p1, p2⟩ | ⟨p1, p2⟩
    · have hl : (H.get b).live = true := by rw [q2]; exact hb
      have hw : (H.get c).wr = true := by rw [p2]; exact hc
      rw [hR0 b (hRl b hl), hR0 c (hRl c (Blk.live_of_wr hw))] at e
      exact h0.apart b c hbc hl hw e
    · have hl : (H.get b).live = true := by rw [q2]; exact hb
      have := hnew _ p2
      dsimp only at this
      rw [← e, hR0 b (hRl b hl)] at this
      have := h0.lt b hl; omega
    · have hw : (H.get c).wr = true := by rw [p2]; exact hc
      have hl := Blk.live_of_wr hw
      have := hnew _ q2
      dsimp only at this
      rw [e, hR0 c (hRl c hl)] at this
      have := h0.lt c hl; omega
    · exact hkey2 _ q2 _ p2 hbc e
  · intro β i u hf'
    exact h.rest.froz β i u (hfz0 β i u hf')
  · intro b hb i
    rcases hcas (b := b) rfl (fun e => by rw [e] at hb; cases hb) (fun e => by rw [e] at hb; cases hb) with ⟨q1, q2⟩ | ⟨q1, q2⟩
    · have hw : (H.get b).wr = true := by rw [q2]; exact hb
      rw [hR0 b (hRl b (Blk.live_of_wr hw))]
      exact h0.rest.unf b hw i
    · cases e : (keepR φ0 φ H H').fz ((keepR φ0 φ H H') b).blk i with
      | none => rfl
      | some u =>
        have h1 := cell_lt (h0.rest.froz _ _ _ e)
        have := hnew _ q2
        dsimp only at this
        omega
  · intro b n es hb
    rcases hcas hb (by simp) (by simp) with ⟨q1, q2⟩ | ⟨q1, q2⟩
    · obtain ⟨t1, t2, t3, t4⟩ := htok b n es q2
      obtain ⟨p1, p2, p3⟩ := h.rest.tok b n es t2
      refine ⟨(show (if b < H.size then φ.tl b else 0) = _ by rw [if_pos q1]; exact p1), p2, p3.imp id ?_⟩
      rintro ⟨p3, p4, p5, p6⟩
      refine ⟨p3, p4, p5, fun i hi => ?_⟩
      cases e : (keepR φ0 φ H H').fz ((keepR φ0 φ H H').ti b).blk i with
      | none => rfl
      | some u =>
        have := hfz0 _ _ _ e
        have e2 : φ.fz (φ.ti b).blk i = some u := this
        rw [p6 i hi] at e2; cases e2
    · obtain ⟨_, _, cs', es', e, _⟩ := hkey _ q2
      cases e
  · intro b n es c hb he hc
    rcases hcas hb (by simp) (by simp) with ⟨q1, q2⟩ | ⟨q1, q2⟩
    · obtain ⟨t1, t2, t3, t4⟩ := htok b n es q2
      rcases hcas (b := c) rfl (fun e => by rw [e] at hc; cases hc) (fun e => by rw [e] at hc; cases hc) with ⟨p1, p2⟩ | ⟨p1, p2⟩
      · have hl : (H.get c).live = true := by rw [p2]; exact hc
        rw [hR0 c (hRl c hl)]
        show _ ≠ (φ.ti b).blk
        rw [t3]
        refine h0.rest.tap b n es c q2 ?_ hl
        rw [← t3]; exact he
      · obtain ⟨_, _, cs', es', _, _, _, _, _, _, s⟩ := hkey _ p2
        rcases s with ⟨_, s1, s2⟩ | ⟨t, n', s0, _, s1, s2, s3⟩
        · dsimp only at s1 s2
          rw [s2]; exact h.rest.tap b n es c t2 he (Blk.live_of_wr s1)
        · dsimp only at s3
          rw [s3]; exact h.rest.tap2 t b n' es' n es (by omega) s1 t2 s2 he
    · obtain ⟨_, _, cs', es', e, _⟩ := hkey _ q2
      cases e
  · intro b c n es n' es' hbc hb hc he he'
    rcases hcas hb (by simp) (by simp) with ⟨q1, q2⟩ | ⟨q1, q2⟩
    · rcases hcas hc (by simp) (by simp) with ⟨p1, p2⟩ | ⟨p1, p2⟩
      · exact h.rest.tap2 b c n es n' es' hbc (htok b n es q2).2.1 (htok c n' es' p2).2.1 he he'
      · obtain ⟨_, _, cs', es', e, _⟩ := hkey _ p2
        cases e
    · obtain ⟨_, _, cs', es', e, _⟩ := hkey _ q2
      cases e
  · intro b hb
    rw [hs3] at hb
    show (if b < H.size then φ.tl b else 0) = 0
    rw [if_neg (by omega)]
  · obtain ⟨t, n, es, q1, q2, q3⟩ := iced_owns (φ := φ0) rfl ho
    exact .inr ⟨t, n, es, q1, q2, q3⟩
  · intro β hO
    rcases hO with ⟨b, hb, rfl⟩ | ⟨b, n, es, hb, he, rfl⟩
    · rcases hcas (b := b) rfl (fun e => by rw [e] at hb; cases hb) (fun e => by rw [e] at hb; cases hb) with ⟨q1, q2⟩ | ⟨q1, q2⟩
      · have hw : (H.get b).wr = true := by rw [q2]; exact hb
        rw [hR0 b (hRl b (Blk.live_of_wr hw))]
        exact .inr (.inl ⟨b, hw, rfl⟩)
      · exact .inl (hnew _ q2)
    · rcases hcas hb (by simp) (by simp) with ⟨q1, q2⟩ | ⟨q1, q2⟩
      · obtain ⟨t1, t2, t3, t4⟩ := htok b n es q2
        refine .inr (.inr ⟨b, n, es, q2, ?_, ?_⟩)
        · rw [← t3]; exact he
        · rw [← t3]; rfl
      · obtain ⟨_, _, cs', es', e, _⟩ := hkey _ q2
        cases e
end
/-! ### Contracts: what is given back belongs to the caller alone; arguments may be lent -/
section
variable {P : Program} {f : FuncId} {args : List Value} {r : Value}
/-- Arguments: frozen ones as they are, rows of one's own told by their contents. -/
inductive ArgL (H : Heap) : List Value → List Value → Prop
  | nil : ArgL H [] []
  | cl {v : Value} {l l' : List Value} (h : Cl v) (t : ArgL H l l') : ArgL H (v :: l) (v :: l')
  | own {lo : Nat} {v r : Value} {ks : List (Nat × Blk)} {l l' : List Value} (h : OwnL false lo H [v] [r] ks) (t : ArgL H l l') : ArgL H (v :: l) (r :: l')
theorem ArgL.lent {φ : Ren} {H : Heap} {w : World} (h0 : Holds φ H w) {vs rs us : List Value} (h : ArgL H vs rs) (hr : RL φ H.has vs us) : RL (φ.ice (wrs H) w) (iced H).has rs us := by
  have hice := (h0.iceAll).2
  induction h generalizing us with
  | nil => exact ⟨hr.1, fun i x x' hx => by simp at hx⟩
  | cl h t ih =>
    obtain ⟨y, ys, rfl, h1, h2⟩ := hr.inv_cons
    exact RL.cons (h _ _ _ _ _ hice.fz h1) (ih h2)
  | own h t ih =>
    obtain ⟨y, ys, rfl, h1, h2⟩ := hr.inv_cons
    have := h.lent h0 (us := [y]) (RL.cons h1 RL.nil)
    obtain ⟨y', ys', e, g1, g2⟩ := this.inv_cons
    injection e with e1 e2
    subst e1
    exact RL.cons g1 (ih h2)
/-- f, at these values, gives back r, in rows that nobody else knows; the heap stays. -/
def OCalls (P : Program) (f : FuncId) (args : List Value) (r : Value) : Prop := ∀ H, ACalls P f args H fun v H' => (∃ ks, OwnL true H.size H' [v] [r] ks) ∧ Ext H H'
/-- The values vs, told as rs, with blocks of their own between lo and hi. -/
def OwnB (lo hi : Nat) (H : Heap) (vs rs : List Value) : Prop := ∃ ks, OwnL false lo H vs rs ks ∧ ∀ k ∈ ks, k.1 < hi
theorem OCalls.lend (h : OCalls P f args r) {H : Heap} {ao : List Value} (ha : ArgL H ao args) : ACalls P f ao H fun v H' => OwnB H.size H'.size H' [v] [r] ∧ Ext H H' := by
  refine ⟨(h H).1, fun φ args' w hs hr => ?_⟩
  obtain ⟨i1, i2⟩ := hs.iceAll
  have hra : RA (φ.ice (wrs H) w) (iced H).has args.toArray args' := by
    have := (ha.lent hs (us := args'.toList) (by have := hr.toList; simpa using this)).toArray
    simpa using this
  refine ((h (iced H)).2 _ args' w i1 hra).mono ?_
  rintro e w' ⟨φ', v, v', H', rfl, ⟨⟨ks, q1⟩, q2⟩, q3, q4, q5⟩
  obtain ⟨φ3, H3, vs3, k1, k2, ⟨k3, _⟩, ⟨k4, k6⟩, k5⟩ := hs.keep q4 q5 q2 (us := [v']) q1 (RL.cons q3 RL.nil)
  obtain ⟨v3, rfl⟩ : ∃ v3, vs3 = [v3] := by
    have := k5.1
    match vs3, this with
    | [v3], _ => exact ⟨v3, rfl⟩
  exact ⟨φ3, v3, v', H3, rfl, ⟨⟨ks, k4, k6⟩, k3⟩, k5.2 0 _ _ rfl rfl, k1, k2⟩
theorem ArgL.same {H : Heap} : ∀ {l : List Value}, (∀ x ∈ l, Cl x) → ArgL H l l
  | [], _ => .nil
  | x :: l, h => .cl (h x (List.mem_cons_self ..)) (ArgL.same fun y hy => h y (List.mem_cons_of_mem _ hy))
theorem OwnL.fin {lo : Nat} {H : Heap} {vs rs : List Value} {ks : List (Nat × Blk)} (h : OwnL false lo H vs rs ks) : vs.length = rs.length ∧ ∀ (i : Nat) (v r : Value), vs[i]? = some v → rs[i]? = some r → FinV lo H v r := by
  have con : ∀ {v r : Value} {l l' : List Value}, FinV lo H v r → (l.length = l'.length ∧ ∀ (i : Nat) (v r : Value), l[i]? = some v → l'[i]? = some r → FinV lo H v r) → (v :: l).length = (r :: l').length ∧ ∀ (i : Nat) (v' r' : Value), (v :: l)[i]? = some v' → (r :: l')[i]? = some r' → FinV lo H v' r' := by
    intro v r l l' a b
    refine ⟨by simp [b.1], fun i v' r' h1 h2 => ?_⟩
    cases i with
    | zero => simp at h1 h2; subst h1 h2; exact a
    | succ i => exact b.2 i v' r' (by simpa using h1) (by simpa using h2)
  induction h with
  | nil => exact ⟨rfl, fun i v r h => by simp at h⟩
  | flat h t ih => exact con (.cl (Cl.flat h)) ih
  | nilr es t ih => exact con (.nil es) ih
  | fz0 es t ih => exact con (.cl (Cl.fz fun x hx => by cases hx)) ih
  | own hg hget hl hr hn h1 h2 hd hd2 ih1 ih2 =>
    refine con (.own hg hget hl hr fun i x r hx hr' => ?_) ih2
    have hi := (List.getElem?_eq_some_iff.1 hr').1
    refine ih1.2 i x r ?_ hr'
    rw [List.getElem?_take_of_lt (by omega), List.getElem?_drop]; exact hx
  | gz hq => cases hq
  | gz0 hq => cases hq
  | agg h1 h2 hd2 ih1 ih2 => exact con (.agg ih1.1 ih1.2) ih2
  | tuple h1 h2 hd2 ih1 ih2 => exact con (.tuple ih1.1 ih1.2) ih2
theorem OCalls.toZ (h : OCalls P f args r) (hc : ∀ x ∈ args, Cl x) : ZCalls P f args r :=
  ZCalls.of fun H => (h.lend (H := H) (ArgL.same hc)).mono fun v H' ⟨⟨ks, q1, _⟩, q2⟩ => ⟨q1.fin.2 0 v r rfl rfl, q2⟩
theorem OCalls.body {fn : Func} {c : Code} {m : Nat} {rs : List ResultVar} (hf : P.funcs[f]? = some fn) (hb : fn.body = some c) (hm : fn.ntmps = m) (hrs : fn.results.toList = rs) (hle : args.length ≤ m) (hn : (fn.name == "runtime.NumGoroutine") = false)
    (h' : ∀ (H : Heap) (Q' : Value → Heap → Prop), Cont (∀ v H', (∃ ks, OwnL true H.size H' [v] [r] ks) → Ext H H' → Q' v H') → ∀ A : Fr, (∀ (t : Nat) (v : Value) (r : List Value), args.drop t = v :: r → A t = v) → AWp P m c (aret P rs Q') A H) : OCalls P f args r :=
  fun H => ACalls.body hf hb hm hrs hle hn fun Q' hQ A hA => h' H Q' (fun v H' q1 q2 => hQ.out v H' ⟨q1, q2⟩) A hA
/-- A value without rows. -/
theorem OwnL.const {lo : Nat} {H : Heap} {v : Value} {ks : List (Nat × Blk)} (hc : constOk r = true) (h : OwnL false lo H [v] [r] ks) : v = r := by
  have hfl : ∀ {l l' : List Value} {k : List (Nat × Blk)}, OwnL false lo H l l' k → (∀ x ∈ l', Zed.flat x = true) → l = l' := by
    intro l l' k h
    induction h with
    | nil => intro _; rfl
    | flat h t ih => intro hf; rw [ih fun x hx => hf x (List.mem_cons_of_mem _ hx)]
    | _ => intro hf; have := hf _ (List.mem_cons_self ..); simp [Zed.flat, FZ] at this
  generalize hl : [v] = l at h
  generalize hl' : [r] = l' at h
  cases h with
  | nil => cases hl
  | flat h t => injection hl with e1 _; injection hl' with e2 _; rw [e1, e2]
  | agg h1 h2 hd2 =>
    injection hl with e1 _; injection hl' with e2 _
    rw [e2] at hc
    have hc : (_ : Array Value).all Zed.flat = true := hc
    rw [e1, e2, hfl h1 (fun x hx => by simpa using (Array.all_eq_true'.1 hc) x (by simpa using hx))]
  | tuple h1 h2 hd2 =>
    injection hl with e1 _; injection hl' with e2 _
    rw [e2] at hc
    have hc : (_ : Array Value).all Zed.flat = true := hc
    rw [e1, e2, hfl h1 (fun x hx => by simpa using (Array.all_eq_true'.1 hc) x (by simpa using hx))]
  | _ => injection hl' with e2 _; rw [e2] at hc; simp [constOk, Zed.flat, FZ] at hc
theorem OwnL.flats {q : Bool} {lo : Nat} {H : Heap} : ∀ {l : List Value}, (∀ x ∈ l, Zed.flat x = true) → OwnL q lo H l l []
  | [], _ => .nil
  | x :: l, h => .flat (h x (List.mem_cons_self ..)) (OwnL.flats fun y hy => h y (List.mem_cons_of_mem _ hy))
theorem OwnL.ofConst {q : Bool} {lo : Nat} {H : Heap} (hc : constOk r = true) : OwnL q lo H [r] [r] [] := by
  unfold constOk at hc
  split at hc
  · rename_i cs
    have := OwnL.agg (q := q) (lo := lo) (H := H) (OwnL.flats (l := cs.toList) (fun x hx => by simpa using (Array.all_eq_true'.1 hc) x (by simpa using hx))) .nil (fun k hk => by cases hk)
    simpa using this
  · rename_i cs
    have := OwnL.tuple (q := q) (lo := lo) (H := H) (OwnL.flats (l := cs.toList) (fun x hx => by simpa using (Array.all_eq_true'.1 hc) x (by simpa using hx))) .nil (fun k hk => by cases hk)
    simpa using this
  · exact .flat hc .nil
theorem ZCalls.lend (hc : constOk r = true) (h : ZCalls P f args r) {H : Heap} {ao : List Value} (ha : ArgL H ao args) : ACalls P f ao H fun v H' => v = r ∧ Ext H H' :=
  (OCalls.lend (r := r) (fun H => (h H).mono fun v H' ⟨e1, e2⟩ => by subst e1 e2; exact ⟨⟨[], .ofConst hc⟩, Ext.refl _⟩) ha).mono fun v H' ⟨⟨ks, q1, _⟩, q2⟩ => ⟨q1.const hc, q2⟩
end
/-! ### Rows of one's own: putting together, keeping -/
section
variable {q : Bool} {lo hi mid lo' hi' : Nat} {H H' : Heap} {vs rs us ss : List Value} {v r : Value} {ks k1 k2 : List (Nat × Blk)}
theorem OwnL.get (h : OwnL false lo H vs rs ks) : ∀ k ∈ ks, lo ≤ k.1 ∧ H.get k.1 = k.2 := by
  induction h with
  | nil => intro k hk; cases hk
  | flat h t ih => exact ih
  | nilr es t ih => exact ih
  | fz0 es t ih => exact ih
  | own hg hget hl hr hn h1 h2 hd hd2 ih1 ih2 =>
    intro k hk
    rcases List.mem_cons.1 hk with rfl | hk
    · exact ⟨hg, hget⟩
    · rcases List.mem_append.1 hk with hk | hk
      · exact ih1 k hk
      · exact ih2 k hk
  | gz hq => cases hq
  | gz0 hq => cases hq
  | agg h1 h2 hd2 ih1 ih2 =>
    intro k hk
    rcases List.mem_append.1 hk with hk | hk
    · exact ih1 k hk
    · exact ih2 k hk
  | tuple h1 h2 hd2 ih1 ih2 =>
    intro k hk
    rcases List.mem_append.1 hk with hk | hk
    · exact ih1 k hk
    · exact ih2 k hk
theorem OwnL.any (h : OwnL false lo H vs rs ks) : OwnL q lo H vs rs ks := by
  induction h with
  | nil => exact .nil
  | flat h t ih => exact .flat h ih
  | nilr es t ih => exact .nilr es ih
  | fz0 es t ih => exact .fz0 es ih
  | own hg hget hl hr hn h1 h2 hd hd2 ih1 ih2 => exact .own hg hget hl hr hn ih1 ih2 hd hd2
  | gz hq => cases hq
  | gz0 hq => cases hq
  | agg h1 h2 hd2 ih1 ih2 => exact .agg ih1 ih2 hd2
  | tuple h1 h2 hd2 ih1 ih2 => exact .tuple ih1 ih2 hd2
theorem OwnL.append (h : OwnL q lo H vs rs k1) (g : OwnL q lo H us ss k2) (hd : ∀ k ∈ k1, ∀ k' ∈ k2, k.1 ≠ k'.1) : OwnL q lo H (vs ++ us) (rs ++ ss) (k1 ++ k2) := by
  induction h with
  | nil => exact g
  | flat h t ih => exact .flat h (ih hd)
  | nilr es t ih => exact .nilr es (ih hd)
  | fz0 es t ih => exact .fz0 es (ih hd)
  | gz0 hq t ih => exact .gz0 hq (ih hd)
  | @own g o n c es cs rs l l' k1' k2' hg hget hl hr hn h1 h2 hd' hd2 ih1 ih2 =>
    have := OwnL.own (c := c) hg hget hl hr hn h1 (ih2 fun k hk => hd k (List.mem_cons_of_mem _ (List.mem_append_right _ hk))) (by
      intro k hk
      rcases List.mem_append.1 hk with hk | hk
      · exact hd' k (List.mem_append_left _ hk)
      · rcases List.mem_append.1 hk with hk | hk
        · exact hd' k (List.mem_append_right _ hk)
        · exact fun e => hd _ (List.mem_cons_self ..) k hk e.symm) (by
      intro k hk k' hk'
      rcases List.mem_append.1 hk' with hk' | hk'
      · exact hd2 k hk k' hk'
      · exact hd k (List.mem_cons_of_mem _ (List.mem_append_left _ hk)) k' hk')
    simpa using this
  | gz hq hg hget h0 hr hn h1 h2 hd' hd2 ih1 ih2 =>
    have := OwnL.gz hq hg hget h0 hr hn h1 (ih2 fun k hk => hd k (List.mem_cons_of_mem _ (List.mem_append_right _ hk))) (by
      intro k hk
      rcases List.mem_append.1 hk with hk | hk
      · exact hd' k (List.mem_append_left _ hk)
      · rcases List.mem_append.1 hk with hk | hk
        · exact hd' k (List.mem_append_right _ hk)
        · exact fun e => hd _ (List.mem_cons_self ..) k hk e.symm) (by
      intro k hk k' hk'
      rcases List.mem_append.1 hk' with hk' | hk'
      · exact hd2 k hk k' hk'
      · exact hd k (List.mem_cons_of_mem _ (List.mem_append_left _ hk)) k' hk')
    simpa using this
  | agg h1 h2 hd2 ih1 ih2 =>
    have := OwnL.agg h1 (ih2 fun k hk => hd k (List.mem_append_right _ hk)) (by
      intro k hk k' hk'
      rcases List.mem_append.1 hk' with hk' | hk'
      · exact hd2 k hk k' hk'
      · exact hd k (List.mem_append_left _ hk) k' hk')
    simpa using this
  | tuple h1 h2 hd2 ih1 ih2 =>
    have := OwnL.tuple h1 (ih2 fun k hk => hd k (List.mem_append_right _ hk)) (by
      intro k hk k' hk'
      rcases List.mem_append.1 hk' with hk' | hk'
      · exact hd2 k hk k' hk'
      · exact hd k (List.mem_append_left _ hk) k' hk')
    simpa using this
theorem OwnL.len (h : OwnL q lo H vs rs ks) : vs.length = rs.length := by
  induction h with
  | nil => rfl
  | flat h t ih => simp [ih]
  | nilr es t ih => simp [ih]
  | fz0 es t ih => simp [ih]
  | gz0 hq t ih => simp [ih]
  | own hg hget hl hr hn h1 h2 hd hd2 ih1 ih2 => simp [ih2]
  | gz hq hg hget h0 hr hn h1 h2 hd hd2 ih1 ih2 => simp [ih2]
  | agg h1 h2 hd2 ih1 ih2 => simp [ih2]
  | tuple h1 h2 hd2 ih1 ih2 => simp [ih2]
def isFZ : Value → Bool
  | FZ _ _ _ => true
  | v => flat v
theorem OwnL.nf (h : OwnL false lo H vs rs ks) (hr : ∀ x ∈ rs, isFZ x = true) : ∀ x ∈ vs, Nf x := by
  have con : ∀ {x : Value} {l : List Value}, Nf x → (∀ y ∈ l, Nf y) → ∀ y ∈ x :: l, Nf y := fun a b y hy => by
    rcases List.mem_cons.1 hy with rfl | hy
    · exact a
    · exact b y hy
  have tl : ∀ {x : Value} {l : List Value}, (∀ y ∈ x :: l, isFZ y = true) → ∀ y ∈ l, isFZ y = true := fun h y hy => h y (List.mem_cons_of_mem _ hy)
  induction h with
  | nil => intro x hx; cases hx
  | flat h t ih => exact con (.flat h) (ih (tl hr))
  | nilr es t ih => exact con (.flat rfl) (ih (tl hr))
  | fz0 es t ih => exact con (.fz0 es) (ih (tl hr))
  | gz hq => cases hq
  | gz0 hq => cases hq
  | own hg hget hl hr' hn h1 h2 hd hd2 ih1 ih2 => exact con (.sl _ _ _ _) (ih2 (tl hr))
  | agg h1 h2 hd2 ih1 ih2 => have := hr _ (List.mem_cons_self ..); simp [isFZ, Zed.flat] at this
  | tuple h1 h2 hd2 ih1 ih2 => have := hr _ (List.mem_cons_self ..); simp [isFZ, Zed.flat] at this
theorem OwnB.keep (h : OwnB lo hi H vs rs) (hk : ∀ b, lo ≤ b → b < hi → H'.get b = H.get b) : OwnB lo hi H' vs rs := by
  obtain ⟨ks, h1, h2⟩ := h
  exact ⟨ks, h1.keep (.inl rfl) (Nat.le_refl _) fun k hk' => by rw [hk k.1 (h1.get k hk').1 (h2 k hk')]; exact (h1.get k hk').2, h2⟩
theorem OwnB.wide (h : OwnB lo hi H vs rs) (h1 : lo' ≤ lo) (h2 : hi ≤ hi') : OwnB lo' hi' H vs rs := by
  obtain ⟨ks, a, b⟩ := h
  exact ⟨ks, a.keep (.inl rfl) h1 fun k hk => (a.get k hk).2, fun k hk => Nat.lt_of_lt_of_le (b k hk) h2⟩
theorem OwnB.ext (h : OwnB lo hi H vs rs) (hs : hi ≤ H.size) (k : Ext H H') : OwnB lo hi H' vs rs := h.keep fun b _ hb => k.get b (by omega)
theorem OwnB.extR (h : OwnB lo hi H vs rs) (hs : hi ≤ H.size) (k : ExtR lo' hi' H H') (hd : hi ≤ lo' ∨ hi' ≤ lo) : OwnB lo hi H' vs rs := h.keep fun b h1 hb => k.get b (by omega) (by omega)
theorem OwnB.nil : OwnB lo hi H [] [] := ⟨[], .nil, fun k hk => by cases hk⟩
theorem OwnB.append (h : OwnB lo mid H vs rs) (g : OwnB mid hi H us ss) (h1 : lo ≤ mid) (h2 : mid ≤ hi) : OwnB lo hi H (vs ++ us) (rs ++ ss) := by
  obtain ⟨k1, a1, b1⟩ := h.wide (lo' := lo) (Nat.le_refl _) (Nat.le_refl _)
  obtain ⟨k2, a2, b2⟩ := g
  have a3 := a2.keep (H' := H) (lo' := lo) (.inl rfl) h1 fun k hk => (a2.get k hk).2
  refine ⟨k1 ++ k2, a1.append a3 fun k hk k' hk' e => ?_, fun k hk => ?_⟩
  · have := b1 k hk
    have := (a2.get k' hk').1
    omega
  · rcases List.mem_append.1 hk with hk | hk
    · have := b1 k hk; omega
    · exact b2 k hk
theorem OwnB.cons (h : OwnB lo mid H [v] [r]) (g : OwnB mid hi H us ss) (h1 : lo ≤ mid) (h2 : mid ≤ hi) : OwnB lo hi H (v :: us) (r :: ss) := OwnB.append h g h1 h2
theorem OwnB.flat (hf : flat v = true) : OwnB lo hi H [v] [v] := ⟨[], .flat hf .nil, fun k hk => by cases hk⟩
theorem OwnB.tup {l l' : List Value} (h : OwnB lo hi H l l') : OwnB lo hi H [.tuple l.toArray] [.tuple l'.toArray] := by
  obtain ⟨ks, a, b⟩ := h
  have := OwnL.tuple a .nil (fun k _ k' hk' => by cases hk')
  rw [List.append_nil] at this
  exact ⟨ks, this, b⟩
theorem OwnB.ag {l l' : List Value} (h : OwnB lo hi H l l') : OwnB lo hi H [.agg l.toArray] [.agg l'.toArray] := by
  obtain ⟨ks, a, b⟩ := h
  have := OwnL.agg a .nil (fun k _ k' hk' => by cases hk')
  rw [List.append_nil] at this
  exact ⟨ks, this, b⟩
theorem OwnB.out (h : OwnB lo hi H [v] [r]) : ∃ ks, OwnL true lo H [v] [r] ks := let ⟨ks, a, _⟩ := h; ⟨ks, a.any⟩
/-- A row of rows, or of plain values. -/
theorem OwnB.rows {g n c es : Nat} {cs ss : List Value} (hg : lo ≤ g) (hgh : g < hi) (hget : H.get g = .cells cs es false) (h : OwnB (g + 1) hi H cs ss) (hl : cs.length = n * es) (hr : ∀ x ∈ ss, isFZ x = true) : OwnB lo hi H [.slice (some ⟨g, 0, none⟩) n c] [FZ es n ss] := by
  obtain ⟨ks, a, b⟩ := h
  have a' := a.keep (H' := H) (lo' := lo) (.inl rfl) (by omega) fun k hk => (a.get k hk).2
  have := OwnL.own (q := false) (lo := lo) (c := c) (n := n) (o := 0) hg hget (by omega) (by rw [← a.len]; exact hl) (a.nf hr) (rs := ss) (k1 := ks) (by rw [List.drop_zero, List.take_of_length_le (by omega)]; exact a') .nil (fun k hk => by
    rw [List.append_nil] at hk
    have := (a.get k hk).1; omega) (fun k _ k' hk' => by cases hk')
  rw [List.append_nil] at this
  refine ⟨_, this, fun k hk => ?_⟩
  rcases List.mem_cons.1 hk with rfl | hk
  · exact hgh
  · exact b k hk
theorem OwnB.flats {l : List Value} (h : ∀ x ∈ l, Zed.flat x = true) : OwnB lo hi H l l := ⟨[], OwnL.flats h, fun k hk => by cases hk⟩
theorem isFZ_flat {v : Value} (h : Zed.flat v = true) : isFZ v = true := by
  unfold isFZ
  split
  · rfl
  · exact h
theorem flat_ints (l : List Int) : ∀ x ∈ ints l, Zed.flat x = true := fun x hx => by obtain ⟨y, _, rfl⟩ := List.mem_map.1 hx; rfl
theorem flat_p2 (l : List (Int × Int)) : ∀ x ∈ p2 l, Zed.flat x = true := fun x hx => by
  obtain ⟨y, hy, hx⟩ := List.mem_flatten.1 hx
  obtain ⟨p, _, rfl⟩ := List.mem_map.1 hy
  rcases List.mem_cons.1 hx with rfl | hx
  · rfl
  · rcases List.mem_cons.1 hx with rfl | hx
    · rfl
    · cases hx
theorem OwnB.ints {g n c : Nat} {l : List Int} (hg : lo ≤ g) (hgh : g < hi) (hn : l.length = n) (hget : H.get g = .cells (ints l) 1 false) : OwnB lo hi H [.slice (some ⟨g, 0, none⟩) n c] [FZ 1 n (Zed.ints l)] :=
  .rows hg hgh hget (.flats (flat_ints l)) (by rw [ints_len]; omega) (fun x hx => isFZ_flat (flat_ints l x hx))
theorem OwnB.pairs {g n c : Nat} {l : List (Int × Int)} (hg : lo ≤ g) (hgh : g < hi) (hn : l.length = n) (hget : H.get g = .cells (p2 l) 2 false) : OwnB lo hi H [.slice (some ⟨g, 0, none⟩) n c] [FZ 2 n (p2 l)] :=
  .rows hg hgh hget (.flats (flat_p2 l)) (by rw [p2_len]; omega) (fun x hx => isFZ_flat (flat_p2 l x hx))
theorem OwnB.nilr (es : Nat) : OwnB lo hi H [.slice none 0 0] [FZ es 0 []] := ⟨[], .nilr es .nil, fun k hk => by cases hk⟩
/-- Lists that have grown. -/
theorem OwnL.grown {tag n es : Nat} {cs : List Value} (hg : lo ≤ tag) (hget : H.get tag = .tok n es) (hl : cs.length = n * es) (hf : ∀ x ∈ cs, Zed.flat x = true) : ∃ ks, OwnL true lo H [GZ tag es n cs] [FZ es n cs] ks := by
  rcases Nat.eq_zero_or_pos n with rfl | h0
  · obtain rfl : cs = [] := List.length_eq_zero_iff.1 (by omega)
    exact ⟨_, .gz0 rfl .nil⟩
  · exact ⟨_, .gz rfl hg hget h0 hl (fun x hx => .flat (hf x hx)) (OwnL.flats hf) .nil (fun k hk => by cases hk) (fun k _ k' hk' => by cases hk')⟩
theorem OwnL.gints {tag n : Nat} {l : List Int} (hg : lo ≤ tag) (hget : H.get tag = .tok n 1) (hl : l.length = n) : ∃ ks, OwnL true lo H [GZ tag 1 n (ints l)] [FZ 1 n (ints l)] ks := OwnL.grown hg hget (by rw [ints_len]; omega) (flat_ints l)
theorem OwnL.gpairs {tag n : Nat} {l : List (Int × Int)} (hg : lo ≤ tag) (hget : H.get tag = .tok n 2) (hl : l.length = n) : ∃ ks, OwnL true lo H [GZ tag 2 n (p2 l)] [FZ 2 n (p2 l)] ks := OwnL.grown hg hget (by rw [p2_len]; omega) (flat_p2 l)
theorem OwnL.tup1 {x : Value} (hx : Zed.flat x = true) (h : ∃ ks, OwnL q lo H [v] [r] ks) : ∃ ks, OwnL q lo H [.tuple #[v, x]] [.tuple #[r, x]] ks := by
  obtain ⟨ks, a⟩ := h
  have := OwnL.tuple (a.append (OwnL.flat hx .nil) (fun k _ k' hk' => by cases hk')) .nil (fun k _ k' hk' => by cases hk')
  exact ⟨_, this⟩
theorem OwnB.one {es n : Nat} {cs : List Value} (h : OwnB lo hi H [v] [FZ es n cs]) : v.oneCell' = true := by
  obtain ⟨ks, h, _⟩ := h
  generalize hl : [v] = l at h
  generalize hl' : [FZ es n cs] = l' at h
  cases h with
  | nil => cases hl
  | flat h t => injection hl' with e _; rw [← e] at h; simp [Zed.flat, FZ] at h
  | nilr es t => injection hl with e _; rw [e]; rfl
  | fz0 es t => injection hl with e _; rw [e]; rfl
  | own => injection hl with e _; rw [e]; rfl
  | gz hq => cases hq
  | gz0 hq => cases hq
  | agg => injection hl' with e _; simp [FZ] at e
  | tuple => injection hl' with e _; simp [FZ] at e
/-- What a row of one's own may look like. -/
theorem OwnB.shape {es n : Nat} {cs : List Value} (h : OwnB lo hi H [v] [FZ es n cs]) : (n = 0 ∧ cs = [] ∧ (v = .slice none 0 0 ∨ v = FZ es 0 [])) ∨
    ∃ g o c ds, v = .slice (some ⟨g, o, none⟩) n c ∧ lo ≤ g ∧ g < hi ∧ H.get g = .cells ds es false ∧ o + n * es ≤ ds.length ∧ cs.length = n * es ∧ (∀ x ∈ ds, Nf x) ∧ ∃ ks, OwnL false lo H ((ds.drop o).take (n * es)) cs ks ∧ (∀ k ∈ ks, k.1 ≠ g) ∧ ∀ k ∈ ks, k.1 < hi := by
  obtain ⟨ks, h, hb⟩ := h
  generalize hl : [v] = l at h
  generalize hl' : [FZ es n cs] = l' at h
  cases h with
  | nil => cases hl
  | flat h t => injection hl' with e _; rw [← e] at h; simp [Zed.flat, FZ] at h
  | nilr es t => injection hl' with e _; injection hl with e2 _; simp only [FZ, Value.iface.injEq, true_and] at e; simp at e; exact .inl ⟨e.2.1, e.2.2, .inl e2⟩
  | fz0 es' t => injection hl' with e _; injection hl with e2 _; simp only [FZ, Value.iface.injEq, true_and] at e; simp at e; obtain ⟨rfl, rfl, rfl⟩ := e; exact .inl ⟨rfl, rfl, .inr e2⟩
  | own hg hget hl2 hr hn h1 h2 hd hd2 =>
    injection hl' with e _; injection hl with e2 _
    simp only [FZ, Value.iface.injEq, true_and] at e; simp at e; obtain ⟨rfl, rfl, rfl⟩ := e
    refine .inr ⟨_, _, _, _, e2, hg, hb _ (List.mem_cons_self ..), hget, hl2, hr, hn, _, h1, fun k hk => hd k (List.mem_append_left _ hk), fun k hk => hb k (List.mem_cons_of_mem _ (List.mem_append_left _ hk))⟩
  | gz hq => cases hq
  | gz0 hq => cases hq
  | agg => injection hl' with e _; simp [FZ] at e
  | tuple => injection hl' with e _; simp [FZ] at e
end
/-! ### A list that has grown, as a row of one's own at a known place -/
section
variable {φ φ0 : Ren} {H H' : Heap} {w w0 : World}
theorem Holds.shrink (h0 : Holds φ0 H w0) (h : Holds φ H' w) (ok : Ok φ0 H w0 φ H' w) (hx : Ext H H') {g es : Nat} {cs : List Value} (hg : H.size ≤ g) (hget : H'.get g = .cells cs es false) (hf : ∀ x ∈ cs, Zed.flat x = true) :
    ∃ φ2, Holds φ2 (H.push (.cells cs es false)) w ∧ Ok φ0 H w0 φ2 (H.push (.cells cs es false)) w ∧ φ2 H.size = φ g := by
  let φ2 : Ren := { img := fun b => if b = H.size then φ g else φ b, fz := φ.fz, tl := fun b => if b < H.size then φ.tl b else 0, ti := φ.ti }
  obtain ⟨H2, hH2⟩ : ∃ H2, H.push (.cells cs es false) = H2 := ⟨_, rfl⟩
  have hs2 : H2.size = H.size + 1 := by rw [← hH2]; rfl
  have hlow : ∀ b, b < H.size → H2.get b = H.get b := fun b hb => by rw [← hH2]; exact get_push_lt hb
  have hnew : H2.get H.size = .cells cs es false := by rw [← hH2]; exact get_push_eq rfl
  have hhi : ∀ b, H.size < b → H2.get b = .absent := fun b hb => by
    rw [← hH2]
    show (if b = H.size then _ else H.get b) = _
    rw [if_neg (by omega)]; exact h0.wf b (by omega)
  have hlt : ∀ b, H.has b → b < H.size := fun b hb => h0.lt_size hb
  have himg : φ2 H.size = φ g := if_pos rfl
  have him : ∀ b, b < H.size → φ2 b = φ b := fun b hb => if_neg (by omega)
  have htl : ∀ b, b < H.size → φ2.tl b = φ.tl b := fun b hb => by show (if b < H.size then φ.tl b else 0) = _; rw [if_pos hb]
  have h0tl : ∀ b, φ0.tl b ≠ 0 → b < H.size := fun b hb => by
    rcases Nat.lt_or_ge b H.size with q | q
    · exact q
    · exact absurd (h0.rest.tl0 b q) hb
  have hgw : (H'.get g).wr = true := by rw [hget]; rfl
  have hcas : ∀ {b : Nat} {y : Blk}, H2.get b = y → y ≠ .absent → (b < H.size ∧ H.get b = y ∧ H'.get b = y) ∨ (b = H.size ∧ y = .cells cs es false) := fun {b y} hy ha => by
    rcases Nat.lt_trichotomy b H.size with q | q | q
    · rw [hlow b q] at hy; exact .inl ⟨q, hy, by rw [hx.get b q]; exact hy⟩
    · rw [q, hnew] at hy; exact .inr ⟨q, hy.symm⟩
    · rw [hhi b q] at hy; exact absurd hy.symm ha
  have hhas : ∀ b, H.has b → H2.has b := fun b hb => by show H2.get b ≠ _; rw [hlow b (hlt b hb)]; exact hb
  have vis : ∀ {v u u0}, R φ H'.has v u → R φ0 H.has v u0 → R φ2 H2.has v u := fun {v u u0} hr hr0 => by
    have a := hr.vis hr0 (φ2 := φ2) (fun b hb => ⟨hb, him b (hlt b hb)⟩) (fun _ _ _ q => q) (fun b hb => ⟨htl b (h0tl b hb), rfl⟩)
    exact a.mono ⟨fun b hb => ⟨hhas b hb, rfl⟩, fun _ _ _ q => q, fun _ _ => .inl ⟨rfl, rfl⟩⟩
  have hne : ∀ b, b < H.size → (H'.get b).live = true → (φ b).blk ≠ (φ g).blk := fun b hb hl => h.apart b g (by omega) hl hgw
  rw [hH2]
  refine ⟨φ2, ⟨?_, ?_, ?_, ?_, ?_, ?_, ?_, ⟨?_, ?_, ?_, ?_, ?_, ?_⟩⟩, ⟨by omega, fun b hb => (him b (hlt b hb)).trans (ok.img b hb), hhas, ok.os, ok.tape, ok.output, ok.wsize, ok.frame, ?_, fun β i u hf => ok.fz β i u hf, fun b hb => ?_⟩, himg⟩
  · intro b hb; rw [hs2] at hb; exact hhi b (by omega)
  · intro b cs' es' ro hb j v hj
    rcases hcas hb (by simp) with ⟨q1, q2, q3⟩ | ⟨rfl, q2⟩
    · obtain ⟨u, hu1, hu2⟩ := h.cell b cs' es' ro q3 j v hj
      obtain ⟨u0, _, hu3⟩ := h0.cell b cs' es' ro q2 j v hj
      exact ⟨u, by rw [him b q1]; exact hu1, vis hu2 hu3⟩
    · injection q2 with e1 e2 e3
      subst e1
      obtain ⟨u, hu1, hu2⟩ := h.cell g cs' es false hget j v hj
      have hfl := hf v (List.mem_of_getElem? hj)
      exact ⟨u, by rw [himg]; exact hu1, by rw [R.flat_eq hfl hu2]; exact R.of_flat hfl⟩
  · intro b cs' es' hb
    rcases hcas hb (by simp) with ⟨q1, q2, q3⟩ | ⟨rfl, q2⟩
    · rw [him b q1]; exact h.row b cs' es' q3
    · injection q2 with e1 e2 e3
      subst e1
      rw [himg]; exact h.row g cs' es hget
  · intro b cs' es' ro hb
    rcases hcas hb (by simp) with ⟨q1, q2, q3⟩ | ⟨rfl, q2⟩
    · rw [him b q1]; exact h.es b cs' es' ro q3
    · injection q2 with e1 e2 e3
      subst e1 e2
      rw [himg]; exact h.es g cs' es' false hget
  · intro b es' hb
    rcases hcas hb (by simp) with ⟨q1, q2, q3⟩ | ⟨rfl, q2⟩
    · obtain ⟨en, ck, h4, hr⟩ := h.map b es' q3
      obtain ⟨en0, ck0, _, hr0⟩ := h0.map b es' q2
      refine ⟨en, ck, by rw [him b q1]; exact h4, hr.1, fun j k v e p1 p2 => ⟨(hr.2 j k v e p1 p2).1, ?_⟩⟩
      have hj : j < en0.size := by rw [← hr0.1]; exact (List.getElem?_eq_some_iff.1 p1).1
      exact vis (hr.2 j k v e p1 p2).2 (hr0.2 j k v _ p1 (Array.getElem?_eq_getElem hj)).2
    · cases q2
  · intro b hb
    rcases hcas (b := b) rfl (fun e => by rw [e] at hb; cases hb) with ⟨q1, q2, q3⟩ | ⟨rfl, q2⟩
    · rw [him b q1]; exact h.lt b (by rw [q3]; exact hb)
    · rw [himg]; exact h.lt g (Blk.live_of_wr hgw)
  · intro b c hbc hb hc
    rcases hcas (b := b) rfl (fun e => by rw [e] at hb; cases hb) with ⟨q1, q2, q3⟩ | ⟨rfl, q2⟩ <;> rcases hcas (b := c) rfl (fun e => by rw [e] at hc; cases hc) with ⟨p1, p2, p3⟩ | ⟨rfl, p2⟩
    · rw [him b q1, him c p1]; exact h.apart b c hbc (by rw [q3]; exact hb) (by rw [p3]; exact hc)
    · rw [him b q1, himg]; exact hne b q1 (by rw [q3]; exact hb)
    · rw [him c p1, himg]
      exact fun e => h.apart g c (by omega) (Blk.live_of_wr hgw) (by rw [p3]; exact hc) e
    · exact absurd rfl hbc
  · intro β i u hf'; exact h.rest.froz β i u hf'
  · intro b hb i
    rcases hcas (b := b) rfl (fun e => by rw [e] at hb; cases hb) with ⟨q1, q2, q3⟩ | ⟨rfl, q2⟩
    · rw [him b q1]; exact h.rest.unf b (by rw [q3]; exact hb) i
    · rw [himg]; exact h.rest.unf g hgw i
  · intro b n es' hb
    rcases hcas hb (by simp) with ⟨q1, q2, q3⟩ | ⟨rfl, q2⟩
    · obtain ⟨r1, r2, r3⟩ := h.rest.tok b n es' q3
      exact ⟨by rw [htl b q1]; exact r1, r2, r3⟩
    · cases q2
  · intro b n es' c hb he hc
    rcases hcas hb (by simp) with ⟨q1, q2, q3⟩ | ⟨rfl, q2⟩
    · rcases hcas (b := c) rfl (fun e => by rw [e] at hc; cases hc) with ⟨p1, p2, p3⟩ | ⟨rfl, p2⟩
      · rw [him c p1]; exact h.rest.tap b n es' c q3 he (by rw [p3]; exact hc)
      · rw [himg]; exact h.rest.tap b n es' g q3 he (Blk.live_of_wr hgw)
    · cases q2
  · intro b c n es' n' es'' hbc hb hc he he'
    rcases hcas hb (by simp) with ⟨q1, q2, q3⟩ | ⟨rfl, q2⟩
    · rcases hcas hc (by simp) with ⟨p1, p2, p3⟩ | ⟨rfl, p2⟩
      · exact h.rest.tap2 b c n es' n' es'' hbc q3 p3 he he'
      · cases p2
    · cases q2
  · intro b hb
    rw [hs2] at hb
    show (if b < H.size then φ.tl b else 0) = 0
    rw [if_neg (by omega)]
  · intro β hβ
    refine ok.wr β ?_
    rcases hβ with ⟨b, hb, rfl⟩ | ⟨b, n, es', hb, he, rfl⟩
    · rcases hcas (b := b) rfl (fun e => by rw [e] at hb; cases hb) with ⟨q1, q2, q3⟩ | ⟨rfl, q2⟩
      · exact .inl ⟨b, by rw [q3]; exact hb, by rw [him b q1]⟩
      · exact .inl ⟨g, hgw, by rw [himg]⟩
    · rcases hcas hb (by simp) with ⟨q1, q2, q3⟩ | ⟨rfl, q2⟩
      · exact .inr ⟨b, n, es', q3, he, rfl⟩
      · cases q2
  · rcases ok.tl b hb with ⟨e1, e2⟩ | q
    · exact .inl ⟨by rw [htl b (h0tl b hb)]; exact e1, e2⟩
    · exact .inr (by rw [htl b (h0tl b hb)]; exact q)
end
def OwnK (H : Heap) (es n : Nat) (cs : List Value) (v : Value) (H' : Heap) : Prop := (v = FZ es 0 [] ∧ n = 0 ∧ H' = H) ∨ (v = .slice (some ⟨H.size, 0, none⟩) n 0 ∧ H' = H.push (.cells cs es false))
theorem ints_flat (l : List Int) : ∀ x ∈ ints l, Zed.flat x = true := flat_ints l
theorem ACalls.fresh {P : Program} {f : FuncId} {args : List Value} {es n : Nat} {cs : List Value} (hf : ∀ x ∈ cs, Zed.flat x = true) (h : ∀ H, ACalls P f args H fun v H' => (∃ tag, v = GZ tag es n cs ∧ H.size ≤ tag ∧ H'.get tag = .tok n es) ∧ Ext H H') (H : Heap)
    (hc : ∀ x ∈ args, Cl x := by first | exact Cl.cons (Cl.int _ _) Cl.nil | exact Cl.cons (Cl.zI _) Cl.nil | exact Cl.cons (Cl.fz (Cl.ints _)) Cl.nil) : ACalls P f args H (OwnK H es n cs) := by
  refine ⟨(h H).1, fun φ args' w hs hr => ?_⟩
  obtain ⟨i1, i2⟩ := hs.iceAll
  have hra : RA (φ.ice (wrs H) w) (iced H).has args.toArray args' := hr.mono i2.mono
  refine ((h (iced H)).2 _ args' w i1 hra).mono ?_
  rintro e w' ⟨φ', v, v', H', rfl, ⟨⟨tag, rfl, q0, q1⟩, q2⟩, q3, q4, q5⟩
  have hlen : cs.length = n * es := by
    obtain ⟨ad, c, rfl, h3⟩ := q3.gz_inv.1.fz_inv
    rcases h3 with ⟨rfl, rfl, _⟩ | ⟨β, base, us', rfl, hs, hl, hc, f1, f2⟩
    · simp
    · exact hl
  obtain ⟨ks, hO⟩ := OwnL.grown (lo := H.size) q0 q1 hlen hf
  obtain ⟨φ3, H3, vs3, k1, k2, ⟨k3, hcv⟩, ⟨k4, k6⟩, k5⟩ := hs.keep q4 q5 q2 (us := [v']) hO (RL.cons q3 RL.nil)
  obtain ⟨e, hg3⟩ := hcv tag es n cs rfl
  subst e
  have hR := k5.2 0 _ _ rfl rfl
  by_cases hn : n = 0
  · rw [if_pos hn] at hR
    obtain ⟨φ2, a1, a2, a3⟩ := hs.fin k1 k2 k3
    exact ⟨φ2, FZ es 0 [], v', H, rfl, .inl ⟨rfl, hn, rfl⟩, a3 _ _ _ (.cl (Cl.fz fun x hx => by cases hx)) hR, a1, a2⟩
  · rw [if_neg hn] at hR
    obtain ⟨φ2, a1, a2, a3⟩ := hs.shrink k1 k2 k3 (g := H'.size + tag) (by have := q2.size; have : H.size ≤ H'.size := this; omega) (hg3 hn) hf
    refine ⟨φ2, .slice (some ⟨H.size, 0, none⟩) n 0, v', _, rfl, .inr ⟨rfl, rfl⟩, ?_, a1, a2⟩
    have hh : (H.push (.cells cs es false)).has H.size := by show (H.push _).get H.size ≠ _; rw [get_push_eq rfl]; simp
    generalize hv : Value.slice (some ⟨H'.size + tag, 0, none⟩) n 0 = v at hR
    cases hR with
    | slice0 => cases hv
    | slx b o n' c hh hc => injection hv with _ _ e; omega
    | sl b o n' c hh2 hc he hs2 =>
      injection hv with e1 e2 e3
      injection e1 with e1
      injection e1 with e1 e4 _
      subst e1 e4 e2
      rw [← a3] at he hs2 ⊢
      exact .sl H.size 0 n c hh hc he hs2
    | slf a c hsp => injection hv with _ _ e; omega
    | _ => cases hv
end Go.Proofs.YtmoknllbpjpkmaaGreat.Zed
