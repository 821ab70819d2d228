/- Rows of one's own: taking apart, marks. -/
import Derived.Test.YtmoknllbpjpkmaaGreatZedE
namespace Go.Proofs.YtmoknllbpjpkmaaGreat.Zed
open Go
set_option linter.unusedVariables false
set_option linter.unusedSimpArgs false
/-! ### Taking apart what is one's own; marks -/
section
variable {lo : Nat} {H H' : Heap} {vs rs : List Value} {v r : Value} {ks k1 k2 : List (Nat × Blk)}
theorem OwnL.tup_inv {l' : List Value} (h : OwnL false lo H [v] [.tuple l'.toArray] ks) : ∃ l, v = .tuple l.toArray ∧ OwnL false lo H l l' ks := by
  generalize hl : [v] = l at h
  generalize hl' : [Value.tuple l'.toArray] = l2 at h
  cases h with
  | nil => cases hl
  | flat h t => injection hl' with e _; rw [← e] at h; simp [Zed.flat] at h
  | nilr es t => injection hl' with e _; simp [FZ] at e
  | fz0 es t => injection hl' with e _; simp [FZ] at e
  | own => injection hl' with e _; simp [FZ] at e
  | gz hq => cases hq
  | gz0 hq => cases hq
  | agg => injection hl' with e _; cases e
  | tuple h1 h2 hd2 =>
    injection hl with e1 e2; injection hl' with e3 e4
    subst e2 e4
    injection e3 with e3
    have e3 := congrArg Array.toList e3
    dsimp only at e3
    subst e3
    cases h2
    exact ⟨_, e1, by rw [List.append_nil]; exact h1⟩
theorem OwnL.agg_inv {l' : List Value} (h : OwnL false lo H [v] [.agg l'.toArray] ks) : ∃ l, v = .agg l.toArray ∧ OwnL false lo H l l' ks := by
  generalize hl : [v] = l at h
  generalize hl' : [Value.agg l'.toArray] = l2 at h
  cases h with
  | nil => cases hl
  | flat h t => injection hl' with e _; rw [← e] at h; simp [Zed.flat] at h
  | nilr es t => injection hl' with e _; simp [FZ] at e
  | fz0 es t => injection hl' with e _; simp [FZ] at e
  | own => injection hl' with e _; simp [FZ] at e
  | gz hq => cases hq
  | gz0 hq => cases hq
  | tuple => injection hl' with e _; cases e
  | agg h1 h2 hd2 =>
    injection hl with e1 e2; injection hl' with e3 e4
    subst e2 e4
    injection e3 with e3
    have e3 := congrArg Array.toList e3
    dsimp only at e3
    subst e3
    cases h2
    exact ⟨_, e1, by rw [List.append_nil]; exact h1⟩
theorem OwnL.nil_inv (h : OwnL false lo H vs [] ks) : vs = [] ∧ ks = [] := by cases h; exact ⟨rfl, rfl⟩
theorem OwnL.flat_inv (hf : Zed.flat r = true) (h : OwnL false lo H vs (r :: rs) ks) : ∃ vs', vs = r :: vs' ∧ OwnL false lo H vs' rs ks := by
  generalize hl' : r :: rs = l2 at h
  cases h with
  | nil => cases hl'
  | flat h t => injection hl' with e1 e2; subst e1 e2; exact ⟨_, rfl, t⟩
  | nilr es t => injection hl' with e _; rw [e] at hf; simp [Zed.flat, FZ] at hf
  | fz0 es t => injection hl' with e _; rw [e] at hf; simp [Zed.flat, FZ] at hf
  | own => injection hl' with e _; rw [e] at hf; simp [Zed.flat, FZ] at hf
  | gz hq => cases hq
  | gz0 hq => cases hq
  | agg => injection hl' with e _; rw [e] at hf; simp [Zed.flat] at hf
  | tuple => injection hl' with e _; rw [e] at hf; simp [Zed.flat] at hf
theorem OwnL.cons_inv (h : OwnL false lo H vs (r :: rs) ks) : ∃ v vs' k1 k2, vs = v :: vs' ∧ OwnL false lo H [v] [r] k1 ∧ OwnL false lo H vs' rs k2 ∧ (∀ k ∈ k1, ∀ k' ∈ k2, k.1 ≠ k'.1) ∧ ks = k1 ++ k2 := by
  generalize hl' : r :: rs = l2 at h
  cases h with
  | nil => cases hl'
  | flat h t => injection hl' with e1 e2; subst e1 e2; exact ⟨_, _, [], _, rfl, .flat h .nil, t, (fun k hk => by cases hk), rfl⟩
  | nilr es t => injection hl' with e1 e2; subst e1 e2; exact ⟨_, _, [], _, rfl, .nilr es .nil, t, (fun k hk => by cases hk), rfl⟩
  | fz0 es t => injection hl' with e1 e2; subst e1 e2; exact ⟨_, _, [], _, rfl, .fz0 es .nil, t, (fun k hk => by cases hk), rfl⟩
  | @own g o n c es cs rs' l l' k1 k2 hg hget hl hr hn h1 h2 hd hd2 =>
    injection hl' with e1 e2; subst e1 e2
    have := OwnL.own (c := c) hg hget hl hr hn h1 .nil (fun k hk => hd k (by rw [List.append_nil] at hk; exact List.mem_append_left _ hk)) (fun k _ k' hk' => by cases hk')
    rw [List.append_nil] at this
    refine ⟨_, _, _, _, rfl, this, h2, fun k hk k' hk' => ?_, rfl⟩
    rcases List.mem_cons.1 hk with rfl | hk
    · exact fun e => hd k' (List.mem_append_right _ hk') e.symm
    · exact hd2 k hk k' hk'
  | gz hq => cases hq
  | gz0 hq => cases hq
  | agg h1 h2 hd2 =>
    injection hl' with e1 e2; subst e1 e2
    have := OwnL.agg h1 (.nil (H := H)) (fun k _ k' hk' => by cases hk')
    rw [List.append_nil] at this
    exact ⟨_, _, _, _, rfl, this, h2, hd2, rfl⟩
  | tuple h1 h2 hd2 =>
    injection hl' with e1 e2; subst e1 e2
    have := OwnL.tuple h1 (.nil (H := H)) (fun k _ k' hk' => by cases hk')
    rw [List.append_nil] at this
    exact ⟨_, _, _, _, rfl, this, h2, hd2, rfl⟩
theorem OwnL.shape {es n : Nat} {cs : List Value} (h : OwnL false lo H [v] [FZ es n cs] ks) : (n = 0 ∧ cs = [] ∧ (v = .slice none 0 0 ∨ v = FZ es 0 [])) ∨
    ∃ g o c ds k1, v = .slice (some ⟨g, o, none⟩) n c ∧ H.get g = .cells ds es false ∧ o + n * es ≤ ds.length ∧ cs.length = n * es ∧ (∀ x ∈ ds, Nf x) ∧ OwnL false lo H ((ds.drop o).take (n * es)) cs k1 ∧ (∀ k ∈ k1, k.1 ≠ g) ∧ ks = (g, .cells ds es false) :: k1 := by
  generalize hl : [v] = l at h
  generalize hl' : [FZ es n cs] = l' at h
  cases h with
  | nil => cases hl
  | flat h t => injection hl' with e _; rw [← e] at h; simp [Zed.flat, FZ] at h
  | nilr es t => injection hl' with e _; injection hl with e2 _; simp only [FZ, Value.iface.injEq, true_and] at e; simp at e; exact .inl ⟨e.2.1, e.2.2, .inl e2⟩
  | fz0 es' t => injection hl' with e _; injection hl with e2 _; simp only [FZ, Value.iface.injEq, true_and] at e; simp at e; obtain ⟨rfl, rfl, rfl⟩ := e; exact .inl ⟨rfl, rfl, .inr e2⟩
  | own hg hget hl2 hr hn h1 h2 hd hd2 =>
    injection hl' with e e4; injection hl with e2 e3
    simp only [FZ, Value.iface.injEq, true_and] at e; simp at e; obtain ⟨rfl, rfl, rfl⟩ := e
    subst e3 e4
    cases h2
    rw [List.append_nil] at hd ⊢
    exact .inr ⟨_, _, _, _, _, e2, hget, hl2, hr, hn, h1, hd, rfl⟩
  | gz hq => cases hq
  | gz0 hq => cases hq
  | agg => injection hl' with e _; simp [FZ] at e
  | tuple => injection hl' with e _; simp [FZ] at e
/-- Only the blocks of ks have changed. -/
structure Chg (ks : List (Nat × Blk)) (H H' : Heap) : Prop where
  size : H.size ≤ H'.size
  get : ∀ b, b < H.size → (∀ k ∈ ks, k.1 ≠ b) → H'.get b = H.get b
theorem Chg.refl (ks : List (Nat × Blk)) (H : Heap) : Chg ks H H := ⟨Nat.le_refl _, fun _ _ _ => rfl⟩
theorem Chg.trans {H1 : Heap} (a : Chg ks H H1) (b : Chg ks H1 H') : Chg ks H H' := ⟨Nat.le_trans a.size b.size, fun c hc hk => (b.get c (by have := a.size; omega) hk).trans (a.get c hc hk)⟩
theorem Chg.ext (a : Ext H H') : Chg ks H H' := ⟨a.size, fun c hc _ => a.get c hc⟩
theorem Chg.wide (a : Chg k1 H H') (h : ∀ k ∈ k1, ∃ k' ∈ ks, k'.1 = k.1) : Chg ks H H' := ⟨a.size, fun c hc hk => a.get c hc fun k hk1 e => by
  obtain ⟨k', q1, q2⟩ := h k hk1
  exact hk k' q1 (q2.trans e)⟩
theorem OwnL.ext (h : OwnL false lo H vs rs ks) (hb : ∀ k ∈ ks, k.1 < H.size) (k : Ext H H') : OwnL false lo H' vs rs ks :=
  h.keep (.inl rfl) (Nat.le_refl _) fun x hx => by rw [k.get _ (hb x hx)]; exact (h.get x hx).2
theorem OwnL.chg (h : OwnL false lo H vs rs ks) (hb : ∀ k ∈ ks, k.1 < H.size) (k : Chg k1 H H') (hd : ∀ x ∈ k1, ∀ y ∈ ks, x.1 ≠ y.1) : OwnL false lo H' vs rs ks :=
  h.keep (.inl rfl) (Nat.le_refl _) fun x hx => by rw [k.get _ (hb x hx) fun y hy => hd y hy x hx]; exact (h.get x hx).2
/-- The marks of a row. -/
def mkI (k : Int) : Nat → List Int
  | 0 => []
  | n + 1 => mkI k n ++ [k + n]
theorem mkI_len (k : Int) (n : Nat) : (mkI k n).length = n := by
  induction n with
  | zero => rfl
  | succ n ih => simp [mkI, ih]
theorem mkI_get (k : Int) : ∀ (n i : Nat), i < n → (mkI k n).getD i 0 = k + i
  | 0, i, h => by omega
  | n + 1, i, h => by
    have hl := mkI_len k n
    rw [mkI, List.getD_eq_getElem?_getD]
    by_cases e : i < n
    · rw [List.getElem?_append_left (by omega), ← List.getD_eq_getElem?_getD]; exact mkI_get k n i e
    · obtain rfl : i = n := by omega
      rw [List.getElem?_append_right (by omega)]; simp [hl]
/-- The keys are the same. -/
def SameK (ks k1 : List (Nat × Blk)) : Prop := ks.map (·.1) = k1.map (·.1)
theorem SameK.mem (h : SameK ks k1) : ∀ k ∈ k1, ∃ k' ∈ ks, k'.1 = k.1 := fun k hk => by
  have : k.1 ∈ k1.map (·.1) := List.mem_map.2 ⟨k, hk, rfl⟩
  rw [← h] at this
  exact List.mem_map.1 this
theorem SameK.symm (h : SameK ks k1) : SameK k1 ks := Eq.symm h
end
/-- A region, but not this one. -/
theorem AWp.regionB {P : Program} {m : Nat} {Q : Exit → Fr → Heap → Prop} {A : Fr} {H : Heap} {id : Nat} {l : List Oper} (k : Nat) (hne : Nat.beq id k = false) (h : AOps P m l.toArray l (Q .normal) A H) : AWp P m (.region id l.toArray false) Q A H := AWp.region h
section
variable {lo hi : Nat} {H H' : Heap} {vs rs us ss : List Value} {v r x : Value}
theorem ArgL.ownB {l l' : List Value} (h : OwnB lo hi H [v] [r]) (t : ArgL H l l') : ArgL H (v :: l) (r :: l') := let ⟨ks, a, _⟩ := h; .own a t
theorem OwnB.fcons (hx : Zed.flat x = true) (h : OwnB lo hi H us ss) : OwnB lo hi H (x :: us) (x :: ss) := let ⟨ks, a, b⟩ := h; ⟨ks, .flat hx a, b⟩
theorem OwnB.cflats {l : List Value} (h : OwnB lo hi H [v] [r]) (hl : ∀ x ∈ l, Zed.flat x = true) : OwnB lo hi H (v :: l) (r :: l) := by
  obtain ⟨ks, a, b⟩ := h
  have := a.append (OwnL.flats (q := false) (lo := lo) (H := H) hl) (fun k _ k' hk' => by cases hk')
  rw [List.append_nil] at this
  exact ⟨ks, this, b⟩
theorem OwnB.tup_inv {l' : List Value} (h : OwnB lo hi H [v] [.tuple l'.toArray]) : ∃ l, v = .tuple l.toArray ∧ OwnB lo hi H l l' := by
  obtain ⟨ks, a, b⟩ := h
  obtain ⟨l, e, a'⟩ := a.tup_inv
  exact ⟨l, e, ks, a', b⟩
theorem OwnB.agg_inv {l' : List Value} (h : OwnB lo hi H [v] [.agg l'.toArray]) : ∃ l, v = .agg l.toArray ∧ OwnB lo hi H l l' := by
  obtain ⟨ks, a, b⟩ := h
  obtain ⟨l, e, a'⟩ := a.agg_inv
  exact ⟨l, e, ks, a', b⟩
theorem OwnB.flat_inv (hf : Zed.flat r = true) (h : OwnB lo hi H vs (r :: rs)) : ∃ vs', vs = r :: vs' ∧ OwnB lo hi H vs' rs := by
  obtain ⟨ks, a, b⟩ := h
  obtain ⟨vs', e, a'⟩ := a.flat_inv hf
  exact ⟨vs', e, ks, a', b⟩
theorem OwnB.nil_inv (h : OwnB lo hi H vs []) : vs = [] := by obtain ⟨ks, a, b⟩ := h; exact a.nil_inv.1
theorem OwnB.cons_inv (h : OwnB lo hi H vs (r :: rs)) : ∃ v vs', vs = v :: vs' ∧ OwnB lo hi H [v] [r] ∧ OwnB lo hi H vs' rs := by
  obtain ⟨ks, a, b⟩ := h
  obtain ⟨v, vs', k1, k2, e, a1, a2, _, rfl⟩ := a.cons_inv
  exact ⟨v, vs', e, ⟨k1, a1, fun k hk => b k (List.mem_append_left _ hk)⟩, ⟨k2, a2, fun k hk => b k (List.mem_append_right _ hk)⟩⟩
theorem Chg.toR {ks : List (Nat × Blk)} (h : Chg ks H H') (h1 : ∀ k ∈ ks, lo ≤ k.1 ∧ k.1 < hi) : ExtR lo hi H H' := ⟨h.size, fun b hb hn => h.get b hb fun k hk e => by have := h1 k hk; omega⟩
theorem OwnB.in (h : OwnB lo hi H vs rs) : ∃ ks, OwnL false lo H vs rs ks ∧ ∀ k ∈ ks, lo ≤ k.1 ∧ k.1 < hi := let ⟨ks, a, b⟩ := h; ⟨ks, a, fun k hk => ⟨(a.get k hk).1, b k hk⟩⟩
end
theorem OwnB.frz {lo hi : Nat} {H : Heap} {v : Value} {es n : Nat} {cs : List Value} (h : OwnB lo hi H [v] [FZ es n cs]) : Zed.frz v = v := by
  rcases h.shape with ⟨_, _, rfl | rfl⟩ | ⟨g, o, c, ds, rfl, _⟩ <;> rfl
theorem OwnB.fin {lo hi : Nat} {H : Heap} {v r : Value} (h : OwnB lo hi H [v] [r]) : FinV lo H v r := let ⟨ks, a, _⟩ := h; a.fin.2 0 v r rfl rfl
theorem Ext.viaR {H H1 H2 : Heap} {lo hi : Nat} (h : Ext H H1) (k : ExtR lo hi H1 H2) (hl : H.size ≤ lo) : Ext H H2 := ⟨Nat.le_trans h.size k.size, fun b hb => (k.get b (by have := h.size; omega) (.inl (by omega))).trans (h.get b hb)⟩
theorem OwnB.three {lo hi a1 b1 a2 b2 a3 b3 : Nat} {H : Heap} {v1 v2 v3 r1 r2 r3 : Value} (h1 : OwnB a1 b1 H [v1] [r1]) (h2 : OwnB a2 b2 H [v2] [r2]) (h3 : OwnB a3 b3 H [v3] [r3])
    (d12 : b1 ≤ a2 ∨ b2 ≤ a1) (d13 : b1 ≤ a3 ∨ b3 ≤ a1) (d23 : b2 ≤ a3 ∨ b3 ≤ a2) (l1 : lo ≤ a1) (l2 : lo ≤ a2) (l3 : lo ≤ a3) (u1 : b1 ≤ hi) (u2 : b2 ≤ hi) (u3 : b3 ≤ hi) : OwnB lo hi H [v1, v2, v3] [r1, r2, r3] := by
  obtain ⟨k1, q1, p1⟩ := h1.in
  obtain ⟨k2, q2, p2⟩ := h2.in
  obtain ⟨k3, q3, p3⟩ := h3.in
  have w1 := q1.keep (H' := H) (lo' := lo) (.inl rfl) l1 fun k hk => (q1.get k hk).2
  have w2 := q2.keep (H' := H) (lo' := lo) (.inl rfl) l2 fun k hk => (q2.get k hk).2
  have w3 := q3.keep (H' := H) (lo' := lo) (.inl rfl) l3 fun k hk => (q3.get k hk).2
  have w23 := w2.append w3 (fun k hk k' hk' e => by have := p2 k hk; have := p3 k' hk'; omega)
  have w := w1.append w23 (fun k hk k' hk' e => by
    have := p1 k hk
    rcases List.mem_append.1 hk' with hk' | hk'
    · have := p2 k' hk'; omega
    · have := p3 k' hk'; omega)
  refine ⟨_, w, fun k hk => ?_⟩
  rcases List.mem_append.1 hk with hk | hk
  · have := p1 k hk; omega
  · rcases List.mem_append.1 hk with hk | hk
    · have := p2 k hk; omega
    · have := p3 k hk; omega
/-- What holds behind a part. -/
theorem AWp.mid {P : Program} {m : Nat} {c : Code} {K : Fr → Heap → Prop} {Q : Exit → Fr → Heap → Prop} {A : Fr} {H : Heap} (I : Fr → Heap → Prop) (h1 : AWp P m c (athen I fun _ _ _ => False) A H) (h2 : ∀ A' H', I A' H' → K A' H') : AWp P m c (athen K Q) A H :=
  h1.mono fun e A' H' q => by cases e <;> first | exact h2 A' H' q | exact q.elim
end Go.Proofs.YtmoknllbpjpkmaaGreat.Zed
