/- A region that draws, with effects that may come in several orders: a tree of plans. -/
import Derived.Test.YtmoknllbpjpkmaaGreatZedG
namespace Go.Proofs.YtmoknllbpjpkmaaGreat.Zed
open Go
set_option linter.unusedVariables false
set_option linter.unusedSimpArgs false
inductive ZT where
  | nil
  | flt (i : Nat) (t : ZT)
  | eff (i : Nat) (rel : List Nat) (t alt : ZT)
def ZT.heads : ZT → List Nat
  | .eff i _ _ alt => i :: alt.heads
  | _ => []
def ZT.sz : ZT → Nat
  | .nil => 0
  | .flt _ t => t.sz + 1
  | .eff _ _ t alt => max (t.sz + 1) alt.sz
inductive ATr (P : Program) (l : List Oper) (K : Fr → Heap → Prop) : Bool → ZT → HeldG → Fr → Heap → Prop
  | nil {held : HeldG} {A : Fr} {H : Heap} (h : K A H) : ATr P l K false .nil held A H
  | stop {held : HeldG} {A : Fr} {H : Heap} : ATr P l K true .nil held A H
  | flt {i : Nat} {t : ZT} {held : HeldG} {A : Fr} {H : Heap} {o : Oper} {v : Value} {hl : HeldL} (hi : l[i]? = some o) (hw : zwant l o A) (hf : Flt P o (ev A) hl v) (hh : heldIn hl H) (h : ATr P l K false t ((i, hl) :: held) (put A o.dst v) H) : ATr P l K false (.flt i t) held A H
  | skip {i : Nat} {t : ZT} {held : HeldG} {A : Fr} {H : Heap} {o : Oper} (hi : l[i]? = some o) (hw : zskip l o A) (h : ATr P l K false t held (put A o.dst undef) H) : ATr P l K false (.flt i t) held A H
  | eff {f : Bool} {i : Nat} {rel : List Nat} {t alt : ZT} {held : HeldG} {A : Fr} {H : Heap} {o : Oper} (Kv : Value → Heap → Prop) (hi : l[i]? = some o) (hw : zwant l o A) (he : OpE P o (ev A) H Kv)
      (hh : ∀ v H', Kv v H' → heldG (dropG rel held) H') (h : ∀ v H', Kv v H' → ATr P l K false t (dropG rel held) (put A o.dst v) H') (ha : ATr P l K true alt held A H) : ATr P l K f (.eff i rel t alt) held A H
def ordT (l : List Oper) (need : Nat → List Nat) : Bool → List Nat → ZT → Prop
  | false, pre, .nil => ∀ i, i < l.length → i ∈ pre
  | false, pre, .flt i t => i < l.length ∧ i ∉ pre ∧ (∀ j ∈ need i, j ∈ pre) ∧ (∀ j ∈ zdeps l i, j ∈ pre) ∧ ordT l need false (i :: pre) t
  | f, pre, .eff i rel t alt => i < l.length ∧ i ∉ pre ∧ (∀ j ∈ need i, j ∈ pre) ∧ (∀ j ∈ zdeps l i, j ∈ pre) ∧ (∀ j ∈ rel, j ∈ need i) ∧ ordT l need false (i :: pre) t ∧ ordT l need true pre alt ∧
      (f = false → ∀ j, j < l.length → j ∉ pre → j ∈ i :: alt.heads ∨ ∃ a ∈ i :: alt.heads, a ∈ need j)
  | true, _, .nil => True
  | true, _, .flt _ _ => True
section
variable {P : Program} {m : Nat}
variable {l : List Oper} {need : Nat → List Nat} {pre : List Nat} {plan : List (Nat × Option (List Nat))} {held : HeldG} {A : Fr} {H : Heap} {U : List Pnd} {listed : Array Bool} {Aa : Fr}
theorem ZSt.readyT (hS : ZSt P l need pre plan held A H U listed Aa) (hne : U ≠ [] ∨ ∃ i, i < l.length ∧ i ∉ pre ∧ ∀ j ∈ zdeps l i, j ∈ pre) : ∃ i, i ∈ Region.ready .any l.toArray listed := by
  have fin : ∀ i, i < l.length → listed.getD i false = false → (∀ j ∈ zdeps l i, listed.getD j false = true) → i ∈ Region.ready .any l.toArray listed := fun i hi hu hd => by
    have hg : l[i]? = some l[i] := List.getElem?_eq_getElem hi
    exact mem_ready.2 ⟨hS.unl hi hu, l[i], by simp [hi], (zdeps_listed hg).1 hd⟩
  by_cases hex : ∃ i ∈ pre, ¬ (listed.getD i false = true)
  · obtain ⟨i, _, h2, h3, h4⟩ := preOk.first (fun i => listed.getD i false = true) hS.pr hex
    exact ⟨i, fin i h3 (by simpa using h2) h4⟩
  · have hall : ∀ i ∈ pre, listed.getD i false = true := fun i hi => Classical.byContradiction fun hn => hex ⟨i, hi, hn⟩
    have hU : U = [] := by
      cases U with
      | nil => rfl
      | cons x U =>
        have h1 := hS.u x (List.mem_cons_self ..)
        obtain ⟨o, ho, _⟩ := h1.1.h
        have h2 := (hS.lis x.1 false (List.getElem?_eq_some_iff.1 ho).1).1 (hall _ h1.2)
        exact absurd rfl (h2.2 x (List.mem_cons_self ..))
    obtain ⟨i, h1, h2, h4⟩ := hne.resolve_left (fun h => h hU)
    refine ⟨i, fin i h1 ?_ fun j hj => hall j (h4 j hj)⟩
    cases hq : listed.getD i false with
    | false => rfl
    | true => exact absurd ((hS.lis i false h1).1 hq).1 h2
theorem ZSt.pass (z : ZOk l need) (hS : ZSt P l need pre plan held A H U listed Aa) (hpl : ∀ i, i < l.length → i ∈ plan.map (·.1)) {i : Nat} (h1 : i < l.length) (h2 : i ∉ pre) (h3 : ∀ j ∈ need i, j ∈ pre) (h4 : ∀ j ∈ zdeps l i, j ∈ pre)
    {o : Oper} {v : Value} {hl : HeldL} {held' : HeldG} (hio : l[i]? = some o) (hhd : ∀ p ∈ held, p ∈ held') (hc : (zwant l o A ∧ Flt P o (ev A) hl v ∧ heldIn hl H ∧ (i, hl) ∈ held') ∨ (zskip l o A ∧ v = undef)) :
    ZSt P l need (i :: pre) plan held' (put A o.dst v) H ((i, hl, v, A) :: U) listed Aa := by
  have hpre' : preOk l need (i :: pre) := ⟨h1, h2, h3, h4, hS.pr⟩
  have hun : ∀ d, listed.getD i d = true → False := fun d h => h2 ((hS.lis i d h1).1 h).1
  have hnx : ∀ x ∈ U, x.1 ≠ i ∧ i ∉ need x.1 := fun x hx => ⟨fun e => h2 (e ▸ (hS.u x hx).2), fun h => h2 (hS.pr.need x.1 (hS.u x hx).2 _ h)⟩
  refine ⟨hpre', fun k hk => .inr (hpl k hk), fun x hx => ?_, hS.size, fun j d hj => ?_, hS.cl, fun t ht => ?_, fun x hx ox hox t ht hp => ?_, fun x hx y hy hyn ox oy t hox hoy hd ht => ?_⟩
  · rcases List.mem_cons.1 hx with rfl | hx
    · exact ⟨⟨o, hio, fun t ht => by rw [ht, put_at, if_pos rfl], hc⟩, List.mem_cons_self ..⟩
    · exact ⟨(hS.u x hx).1.put z hio (hnx x hx).1 hhd v, List.mem_cons_of_mem _ (hS.u x hx).2⟩
  · by_cases e : j = i
    · subst e
      refine ⟨fun h => (hun d h).elim, fun h => absurd rfl (h.2 (j, hl, v, A) (List.mem_cons_self ..))⟩
    · rw [hS.lis j d hj]
      refine ⟨fun h => ⟨List.mem_cons_of_mem _ h.1, fun x hx => ?_⟩, fun h => ⟨(List.mem_cons.1 h.1).resolve_left e, fun x hx => h.2 x (List.mem_cons_of_mem _ hx)⟩⟩
      rcases List.mem_cons.1 hx with rfl | hx
      · exact fun q => e q.symm
      · exact h.2 x hx
  · rw [put_ne (ht (i, hl, v, A) (List.mem_cons_self ..) o hio)]
    exact hS.ag t fun x hx => ht x (List.mem_cons_of_mem _ hx)
  · rcases List.mem_cons.1 hx with rfl | hx
    · have e : ox = o := by rw [hio] at hox; exact (Option.some.inj hox).symm
      subst e
      refine hS.ag t fun y hy oy hoy e => ?_
      rcases z.c3 i y.1 ox oy t hio hoy e ht with h | h | h
      · exact (hnx y hy).1 h.symm
      · exact hp y (List.mem_cons_of_mem _ hy) h oy hoy e
      · exact (hnx y hy).2 h
    · exact hS.us x hx ox hox t ht fun y hy => hp y (List.mem_cons_of_mem _ hy)
  · rcases List.mem_cons.1 hx with rfl | hx
    · rcases List.mem_cons.1 hy with rfl | hy
      · exact absurd (h3 _ hyn) h2
      · obtain ⟨oy', q1, q2, _⟩ := (hS.u y hy).1.h
        have e : oy' = oy := by rw [hoy] at q1; exact (Option.some.inj q1).symm
        subst e
        exact q2 t hd
    · rcases List.mem_cons.1 hy with rfl | hy
      · exact absurd hyn (hnx x hx).2
      · exact hS.uy x hx y hy hyn ox oy t hox hoy hd ht
theorem ZSt.done (z : ZOk l need) (hS : ZSt P l need pre plan held A H U listed Aa) (hpl : ∀ i, i < l.length → i ∈ plan.map (·.1)) {i : Nat} (h1 : i < l.length) (h2 : i ∉ pre) (h3 : ∀ j ∈ need i, j ∈ pre) (h4 : ∀ j ∈ zdeps l i, j ∈ pre)
    {rel : List Nat} (h56 : ∀ j ∈ rel, j ∈ need i) {o : Oper} (hi : l[i]? = some o) (hn2 : ∀ j ∈ need i, listed.getD j false = true) {v : Value} {H' : Heap} (hh : heldG (dropG rel held) H') :
    ZSt P l need (i :: pre) plan (dropG rel held) (put A o.dst v) H' U (listed.setIfInBounds i true) (put Aa o.dst v) := by
  have hpre' : preOk l need (i :: pre) := ⟨h1, h2, h3, h4, hS.pr⟩
  have hnx : ∀ x ∈ U, x.1 ≠ i ∧ i ∉ need x.1 := fun x hx => ⟨fun e => h2 (e ▸ (hS.u x hx).2), fun h => h2 (hS.pr.need x.1 (hS.u x hx).2 _ h)⟩
  have hsz : i < listed.size := by rw [hS.size]; exact h1
  refine ⟨hpre', fun k hk => .inr (hpl k hk), fun x hx => ⟨?_, List.mem_cons_of_mem _ (hS.u x hx).2⟩, by simp [hS.size], fun k d hk2 => ?_, cl_set hS h1 hn2, fun t ht => ?_, fun x hx ox hox t ht hp => ?_, hS.uy⟩
  · have hxn := hS.pend hn2 hx
    have hu := (hS.u x hx).1.put z hi (hnx x hx).1 (held' := held) (fun p hp => hp) v
    obtain ⟨o', r1, r2, r3⟩ := hu.h
    refine ⟨o', r1, r2, r3.imp ?_ id⟩
    rintro ⟨s1, s2, s3, s4⟩
    have hnr : rel.contains x.1 = false := by
      cases hc : rel.contains x.1 with
      | false => rfl
      | true => exact absurd (h56 x.1 (List.contains_iff_mem.1 hc)) hxn
    have hin := mem_dropG s4 hnr
    exact ⟨s1, s2, hh _ hin, hin⟩
  · rw [set_getD hsz]
    by_cases e : k = i
    · rw [if_pos e]
      exact ⟨fun _ => ⟨e ▸ List.mem_cons_self .., fun x hx => e ▸ (hnx x hx).1⟩, fun _ => rfl⟩
    · rw [if_neg e, hS.lis k d hk2]
      exact and_congr_left fun _ => ⟨List.mem_cons_of_mem _, fun h => (List.mem_cons.1 h).resolve_left e⟩
  · by_cases e : o.dst = some t
    · rw [e, put_at, put_at, if_pos rfl, if_pos rfl]
    · rw [put_ne e, put_ne e]; exact hS.ag t ht
  · rw [put_ne fun e => ?_]
    · exact hS.us x hx ox hox t ht hp
    · rcases z.c3 x.1 i ox o t hox hi e ht with h | h | h
      · exact (hnx x hx).1 h
      · exact (hnx x hx).2 h
      · exact hS.pend hn2 hx h
/-- The effects of which one comes next. -/
theorem ATr.heads {K : Fr → Heap → Prop} : ∀ {f : Bool} {t : ZT}, ATr P l K f t held A H → ordT l need f pre t → ∀ j ∈ t.heads, ∃ rel t' o, ∃ Kv : Value → Heap → Prop, j < l.length ∧ j ∉ pre ∧ (∀ k ∈ need j, k ∈ pre) ∧ (∀ k ∈ zdeps l j, k ∈ pre) ∧ (∀ k ∈ rel, k ∈ need j) ∧ ordT l need false (j :: pre) t' ∧ t'.sz + 1 ≤ t.sz ∧ l[j]? = some o ∧ zwant l o A ∧ OpE P o (ev A) H Kv ∧
    (∀ v H', Kv v H' → heldG (dropG rel held) H') ∧ ∀ v H', Kv v H' → ATr P l K false t' (dropG rel held) (put A o.dst v) H'
  | _, .nil, _, _, j, hj => by cases hj
  | _, .flt _ _, _, _, j, hj => by cases hj
  | f, .eff i rel t alt, h, ho, j, hj => by
    have ho : i < l.length ∧ i ∉ pre ∧ (∀ j ∈ need i, j ∈ pre) ∧ (∀ j ∈ zdeps l i, j ∈ pre) ∧ (∀ j ∈ rel, j ∈ need i) ∧ ordT l need false (i :: pre) t ∧ ordT l need true pre alt ∧ (f = false → ∀ j, j < l.length → j ∉ pre → j ∈ i :: alt.heads ∨ ∃ a ∈ i :: alt.heads, a ∈ need j) := by cases f <;> exact ho
    obtain ⟨o1, o2, o3, o4, o5, o6, o7, _⟩ := ho
    cases h with
    | eff Kv hi hw he hh hn ha =>
      rcases List.mem_cons.1 hj with rfl | hj
      · exact ⟨rel, t, _, Kv, o1, o2, o3, o4, o5, o6, Nat.le_max_left _ _, hi, hw, he, hh, hn⟩
      · obtain ⟨rel', t', o', Kv', p1, p2, p3, p4, p5, p6, p7, p8⟩ := ATr.heads ha o7 j hj
        exact ⟨rel', t', o', Kv', p1, p2, p3, p4, p5, p6, Nat.le_trans p7 (Nat.le_max_right _ _), p8⟩
theorem ATr.sim {l : List Oper} {need : Nat → List Nat} (z : ZOk l need) (hm : ∀ o ∈ l, dstOk m o.dst = true) (hop : ∀ o ∈ l, ∀ x ∈ o.op.operands, opndOk x = true) {plan : List (Nat × Option (List Nat))} (hpl : ∀ i, i < l.length → i ∈ plan.map (·.1)) {K : Fr → Heap → Prop} {Qc : Exit → Act → World → Prop} :
    ∀ (fuel : Nat) (t : ZT) (pre : List Nat) (held : HeldG) (A : Fr) (H : Heap) (U : List Pnd) (listed : Array Bool) (Aa : Fr) (φ : Ren) (a : Act) (w : World),
      ATr P l K false t held A H → ordT l need false pre t → ZSt P l need pre plan held A H U listed Aa → t.sz + U.length ≤ fuel → St m φ Aa H a w →
      (∀ φ' A' H' a' w', K A' H' → St m φ' A' H' a' w' → Ok φ H w φ' H' w' → Qc .normal a' w') → wpAny P .any l.toArray Qc fuel listed a w := by
  intro fuel
  induction fuel with
  | zero =>
    intro t pre held A H U listed Aa φ a w hz ho hS hf hs hk
    have hU : U = [] := List.eq_nil_of_length_eq_zero (by omega)
    subst hU
    have ht : t = .nil := by
      cases t with
      | nil => rfl
      | flt i t => simp only [ZT.sz] at hf; omega
      | eff i rel t alt => simp only [ZT.sz] at hf; omega
    subst ht
    have hK : K A H := by cases hz; assumption
    have hAa : Aa = A := funext fun t => hS.ag t (fun x hx => by cases hx)
    subst hAa
    refine ⟨?_, hk φ Aa H a w hK hs Ok.refl⟩
    refine List.eq_nil_iff_forall_not_mem.2 fun i hi => ?_
    obtain ⟨h1, o, h2, _⟩ := mem_ready.1 hi
    have hlt : i < l.length := by have := (Array.getElem?_eq_some_iff.1 h2).1; simpa using this
    have := (hS.lis i true hlt).2 ⟨ho i hlt, fun x hx => by cases hx⟩
    rw [this] at h1; cases h1
  | succ fuel ih =>
    have stepU : ∀ (t : ZT) (pre : List Nat) (held : HeldG) (A : Fr) (H : Heap) (U : List Pnd) (listed : Array Bool) (Aa : Fr) (φ : Ren) (a : Act) (w : World),
      ATr P l K false t held A H → ordT l need false pre t → ZSt P l need pre plan held A H U listed Aa → t.sz + U.length ≤ fuel + 1 → St m φ Aa H a w →
      (∀ φ' A' H' a' w', K A' H' → St m φ' A' H' a' w' → Ok φ H w φ' H' w' → Qc .normal a' w') → ∀ x ∈ U, x.1 ∈ Region.ready .any l.toArray listed → wpOp P l.toArray Qc x.1 (wpAny P .any l.toArray Qc fuel (listed.setIfInBounds x.1 true)) a w := by
      intro t pre held A H U listed Aa φ a w hz ho hS hf hs hk x hx hr
      refine wpOp_mono ?_ (hS.runU z hm hop hx hr hs)
      rintro a' w' ⟨φ', Aa', hs', ok', hS'⟩
      have hlen : (U.filter fun y => y.1 != x.1).length < U.length := by
        refine List.length_filter_lt_length_iff_exists.2 ⟨x, hx, by simp⟩
      exact ih t pre held A H _ _ Aa' φ' a' w' hz ho hS' (by omega) hs' (fun φ2 A2 H2 a2 w2 q s ok => hk φ2 A2 H2 a2 w2 q s (ok'.trans ok))
    intro t
    induction t with
    | nil =>
      intro pre held A H U listed Aa φ a w hz ho hS hf hs hk
      refine ⟨fun hr => ?_, fun i hi => ?_⟩
      · have hU : U = [] := Classical.byContradiction fun h => by
          obtain ⟨i, hi⟩ := hS.readyT (.inl h)
          rw [hr] at hi; cases hi
        subst hU
        have hK : K A H := by cases hz; assumption
        have hAa : Aa = A := funext fun t => hS.ag t (fun x hx => by cases hx)
        subst hAa
        exact hk φ Aa H a w hK hs Ok.refl
      · obtain ⟨h1, o, h2, _⟩ := mem_ready.1 hi
        have hlt : i < l.length := by have := (Array.getElem?_eq_some_iff.1 h2).1; simpa using this
        have hex : ∃ x ∈ U, x.1 = i := Classical.byContradiction fun hn => by
          have := (hS.lis i true hlt).2 ⟨ho i hlt, fun x hx e => hn ⟨x, hx, e⟩⟩
          rw [this] at h1; cases h1
        obtain ⟨x, hx, rfl⟩ := hex
        exact stepU .nil pre held A H U listed Aa φ a w hz ho hS hf hs hk x hx hi
    | flt i t iht =>
      intro pre held A H U listed Aa φ a w hz ho hS hf hs hk
      obtain ⟨h1, h2, h3, h4, h6⟩ := ho
      cases hz with
      | flt hi hw hf' hh h =>
        refine iht (i :: pre) _ _ H ((i, _, _, _) :: U) listed Aa φ a w h h6 (hS.pass z hpl h1 h2 h3 h4 hi (fun p hp => List.mem_cons_of_mem _ hp) (.inl ⟨hw, hf', hh, List.mem_cons_self ..⟩)) ?_ hs hk
        simp only [List.length_cons, ZT.sz] at hf ⊢; omega
      | skip hi hw h =>
        refine iht (i :: pre) _ _ H ((i, [], undef, _) :: U) listed Aa φ a w h h6 (hS.pass z hpl h1 h2 h3 h4 hi (fun p hp => hp) (.inr ⟨hw, rfl⟩)) ?_ hs hk
        simp only [List.length_cons, ZT.sz] at hf ⊢; omega
    | eff i rel t alt _ _ =>
      intro pre held A H U listed Aa φ a w hz ho hS hf hs hk
      have ho' := ho
      obtain ⟨h1, h2, h3, h4, h5, h6, h7, h8⟩ := ho
      refine ⟨fun hr => ?_, fun j hj => ?_⟩
      · obtain ⟨k, hk2⟩ := hS.readyT (.inr ⟨i, h1, h2, h4⟩)
        rw [hr] at hk2; cases hk2
      · obtain ⟨q1, oj, q2, _⟩ := mem_ready.1 hj
        have hlt : j < l.length := by have := (Array.getElem?_eq_some_iff.1 q2).1; simpa using this
        have q2' : l[j]? = some oj := by rw [← q2, List.getElem?_toArray]
        obtain ⟨hn1, hn2⟩ := hS.needs z q2' hj
        by_cases hjp : j ∈ pre
        · have hex : ∃ x ∈ U, x.1 = j := Classical.byContradiction fun hn => by
            have := (hS.lis j true hlt).2 ⟨hjp, fun x hx e => hn ⟨x, hx, e⟩⟩
            rw [this] at q1; cases q1
          obtain ⟨x, hx, rfl⟩ := hex
          exact stepU (.eff i rel t alt) pre held A H U listed Aa φ a w hz ho' hS hf hs hk x hx hj
        · have hjh : j ∈ (ZT.eff i rel t alt).heads := by
            rcases h8 rfl j hlt hjp with h | ⟨b, hb, hbn⟩
            · exact h
            · exfalso
              have hlb := hn2 b hbn
              obtain ⟨_, _, _, _, p1, p2, _⟩ := ATr.heads hz ho' b hb
              exact p2 ((hS.lis b false p1).1 hlb).1
          obtain ⟨rel', t', o, Kv, p1, p2, p3, p4, p5, p6, p7, hi, hw, he, hh, h⟩ := ATr.heads hz ho' j hjh
          have hsame := hS.same z hi p2 hn2
          have hmem := List.mem_of_getElem? hi
          unfold wpOp
          rw [List.getElem?_toArray, hi]
          simp only
          rw [if_pos (zwanted hs hm (zwant_congr hw hsame))]
          refine .inl (he φ a w _ _ hs.holds (fun y hy => ?_) ?_)
          · have e : ev A y = ev Aa y := by
              cases y with
              | tmp t => exact (hsame t (uses_op hy)).symm
              | _ => rfl
            rw [e]; exact hs.ev (hop o hmem y hy)
          · intro φ' v u H' w' hKv hr' hh' ok'
            exact ih t' (j :: pre) _ _ H' U _ (put Aa o.dst v) φ' _ w' (h v H' hKv) p6 (hS.done z hpl p1 p2 p3 p4 p5 hi hn2 (hh v H' hKv)) (by omega) ((hs.step ok' hh').put (hm o hmem) hr') (fun φ2 A2 H2 a2 w2 q s ok => hk φ2 A2 H2 a2 w2 q s (ok'.trans ok))
def ordTB (l : List Oper) (nd : List (List Nat)) : Bool → List Nat → ZT → Bool
  | false, pre, .nil => (List.range l.length).all (pre.contains ·)
  | false, pre, .flt i t => decide (i < l.length) && !pre.contains i && (nd.getD i []).all (pre.contains ·) && (zdeps l i).all (pre.contains ·) && ordTB l nd false (i :: pre) t
  | f, pre, .eff i rel t alt => decide (i < l.length) && !pre.contains i && (nd.getD i []).all (pre.contains ·) && (zdeps l i).all (pre.contains ·) && rel.all ((nd.getD i []).contains ·) && ordTB l nd false (i :: pre) t && ordTB l nd true pre alt &&
      (f || (List.range l.length).all fun j => pre.contains j || (i :: alt.heads).contains j || (i :: alt.heads).any ((nd.getD j []).contains ·))
  | true, _, .nil => true
  | true, _, .flt _ _ => true
theorem ordTB_ok {l : List Oper} {nd : List (List Nat)} : ∀ {f : Bool} {pre : List Nat} {t : ZT}, ordTB l nd f pre t = true → ordT l (fun i => nd.getD i []) f pre t
  | false, pre, .nil, h => by
    simp only [ordTB, List.all_eq_true, List.mem_range, List.contains_iff_mem] at h
    exact h
  | false, pre, .flt i t, h => by
    simp only [ordTB, Bool.and_eq_true, decide_eq_true_eq, Bool.not_eq_true', List.all_eq_true, List.contains_iff_mem] at h
    obtain ⟨⟨⟨⟨h1, h2⟩, h3⟩, h4⟩, h6⟩ := h
    exact ⟨h1, fun hm => (by rw [List.contains_iff_mem.2 hm] at h2; cases h2), h3, h4, ordTB_ok h6⟩
  | f, pre, .eff i rel t alt, h => by
    have h : (decide (i < l.length) && !pre.contains i && (nd.getD i []).all (pre.contains ·) && (zdeps l i).all (pre.contains ·) && rel.all ((nd.getD i []).contains ·) && ordTB l nd false (i :: pre) t && ordTB l nd true pre alt &&
      (f || (List.range l.length).all fun j => pre.contains j || (i :: alt.heads).contains j || (i :: alt.heads).any ((nd.getD j []).contains ·))) = true := by cases f <;> exact h
    simp only [Bool.and_eq_true, decide_eq_true_eq, Bool.not_eq_true', List.all_eq_true, Bool.or_eq_true, List.any_eq_true, List.mem_range, List.contains_iff_mem] at h
    obtain ⟨⟨⟨⟨⟨⟨⟨h1, h2⟩, h3⟩, h4⟩, h5⟩, h6⟩, h7⟩, h8⟩ := h
    have key : i < l.length ∧ i ∉ pre ∧ (∀ j ∈ nd.getD i [], j ∈ pre) ∧ (∀ j ∈ zdeps l i, j ∈ pre) ∧ (∀ j ∈ rel, j ∈ nd.getD i []) ∧ ordT l (fun i => nd.getD i []) false (i :: pre) t ∧ ordT l (fun i => nd.getD i []) true pre alt ∧
      (f = false → ∀ j, j < l.length → j ∉ pre → j ∈ i :: alt.heads ∨ ∃ a ∈ i :: alt.heads, a ∈ nd.getD j []) := by
      refine ⟨h1, fun hm => (by rw [List.contains_iff_mem.2 hm] at h2; cases h2), h3, h4, h5, ordTB_ok h6, ordTB_ok h7, fun e j hj hjp => ?_⟩
      rcases h8 with h8 | h8
      · rw [e] at h8; cases h8
      · rcases h8 j hj with (h | h) | h
        · exact absurd h hjp
        · exact .inl h
        · exact .inr h
    cases f <;> exact key
  | true, _, .nil, _ => trivial
  | true, _, .flt _ _, _ => trivial
def tchk (m : Nat) (l : List Oper) (t : ZT) (nd : List (List Nat)) : Bool :=
  decide (t.sz ≤ l.length) && l.all (fun o => dstOk m o.dst && o.op.operands.toList.all opndOk) &&
  (List.range l.length).all (fun i => (nd.getD i []).all fun j => (zdeps l i).contains j || (zdeps l i).any fun d => (nd.getD d []).contains j) &&
  l.zipIdx.all (fun p => l.zipIdx.all fun q => match q.1.dst with
    | none => true
    | some t => (!(zuses l p.1).contains t || p.2 == q.2 || (nd.getD p.2 []).contains q.2 || (nd.getD q.2 []).contains p.2) && (p.2 == q.2 || p.1.dst != some t)) && ordTB l nd false [] t
theorem AWp.ztree {id : Nat} {l : List Oper} {Q : Exit → Fr → Heap → Prop} {A : Fr} {H : Heap} (t : ZT) (hm : P.follows .mixedOrders = true) (hok : tchk m l t (zneeds l) = true) (h : ATr P l (Q .normal) false t [] A H) : AWp P m (.region id l.toArray true) Q A H := by
  generalize zneeds l = nd at hok
  simp only [tchk, Bool.and_eq_true, decide_eq_true_eq, List.all_eq_true, List.mem_range, List.contains_iff_mem, List.any_eq_true, Bool.or_eq_true] at hok
  obtain ⟨⟨⟨⟨k1, k3⟩, k4⟩, k5⟩, k6⟩ := hok
  have zz : ∀ (i j : Nat) (oi oj : Oper) (t : Nat), l[i]? = some oi → l[j]? = some oj → oj.dst = some t → (t ∉ zuses l oi ∨ i = j ∨ j ∈ nd.getD i [] ∨ i ∈ nd.getD j []) ∧ (i = j ∨ oi.dst ≠ some t) := by
    intro i j oi oj t hi hj ht
    have := k5 (oi, i) (List.mk_mem_zipIdx_iff_getElem?.2 hi) (oj, j) (List.mk_mem_zipIdx_iff_getElem?.2 hj)
    simp only [ht, Bool.and_eq_true, Bool.or_eq_true, Bool.not_eq_true', List.contains_iff_mem, beq_iff_eq, bne_iff_ne, ne_eq] at this
    refine ⟨?_, this.2⟩
    rcases this.1 with ((h | h) | h) | h
    · exact .inl fun hm => by rw [List.contains_iff_mem.2 hm] at h; cases h
    · exact .inr (.inl h)
    · exact .inr (.inr (.inl h))
    · exact .inr (.inr (.inr h))
  have z : ZOk l (fun i => nd.getD i []) := by
    refine ⟨fun i j hi hj => ?_, fun i j o oj t hi hj ht hu => ((zz i j o oj t hi hj ht).1).resolve_left (fun h => h hu), fun i j oi oj t hne hi hj ht e => ?_⟩
    · rcases k4 i hi j hj with h | ⟨d, h1, h2⟩
      · exact .inl h
      · exact .inr ⟨d, h1, h2⟩
    · exact ((zz i j oi oj t hi hj e).2).elim hne (fun h => h ht)
  intro φ a w hs
  have hs1 : St m φ A H a { w with drawn := w.drawn + 1 } := ⟨hs.defers, hs.size, hs.tmp, hs.out, hs.holds.drew _⟩
  refine wp_region_any hm ?_
  refine ATr.sim z (fun o ho => (k3 o ho).1) (fun o ho x hx => (k3 o ho).2 x (Array.mem_toList_iff.2 hx)) (plan := (List.range l.length).map fun i => (i, none)) (fun i hi => by simp [hi]) _ t [] [] A H [] _ A φ a _ h (ordTB_ok k6) ?_ (by simpa using k1) hs1 (fun φ' A' H' a' w' q s ok => ⟨φ', A', H', q, s, Ok.drew _ ok⟩)
  refine ⟨trivial, fun i hi => .inr (by simp [hi]), fun x hx => (by cases hx), by simp, fun i d hi => ?_, fun i hi h => ?_, fun t _ => rfl, fun x hx => (by cases hx), fun x hx => (by cases hx)⟩
  · refine ⟨fun h => ?_, fun h => by cases h.1⟩
    simp [hi] at h
  · simp [hi] at h
end
section
variable {P : Program} {m : Nat} {l : List Oper} {i : Nat} {t alt : ZT} {held : HeldG} {K : Fr → Heap → Prop} {A : Fr} {H : Heap} {dst : Option Nat} {op : Op} {ty : TypeId} {pos : String} {af : Array Edge} {r : List Oper} {f : Bool}
theorem ATr.fl (hi : l.drop i = ⟨dst, op, ty, pos, af, none⟩ :: r)
    (h : ∀ Kx : Value → HeldL → Prop, Cont (∀ v hl, ATr P l K false t ((i, hl) :: held) (put A dst v) H → Kx v hl) → fstep P ⟨dst, op, ty, pos, af, none⟩ (ev A) H Kx) : ATr P l K false (.flt i t) held A H := by
  obtain ⟨v, hl, hK, hh, hf⟩ := fstep_flt (h _ fun v hl q => q)
  exact .flt (at_drop' hi) trivial hf hh hK
theorem ATr.flg {j : Nat} {want : Bool} {tm : Nat} (hi : l.drop i = ⟨dst, op, ty, pos, af, some (j, want)⟩ :: r) (ht : (l[j]?).bind (·.dst) = some tm) (hA : A tm = .bool want)
    (h : ∀ Kx : Value → HeldL → Prop, Cont (∀ v hl, ATr P l K false t ((i, hl) :: held) (put A dst v) H → Kx v hl) → fstep P ⟨dst, op, ty, pos, af, some (j, want)⟩ (ev A) H Kx) : ATr P l K false (.flt i t) held A H := by
  obtain ⟨v, hl, hK, hh, hf⟩ := fstep_flt (h _ fun v hl q => q)
  exact .flt (at_drop' hi) ⟨tm, ht, hA⟩ hf hh hK
theorem ATr.pas {j : Nat} {want : Bool} {tm : Nat} (hi : l.drop i = ⟨dst, op, ty, pos, af, some (j, want)⟩ :: r) (ht : (l[j]?).bind (·.dst) = some tm) (hA : A tm = .bool (!want) ∨ A tm = undef)
    (h : ATr P l K false t held (put A dst undef) H) : ATr P l K false (.flt i t) held A H :=
  .skip (at_drop' hi) ⟨j, want, tm, rfl, ht, hA⟩ h
/-- The effect i comes next. -/
def ATe (P : Program) (l : List Oper) (K : Fr → Heap → Prop) (i : Nat) (rel : List Nat) (t : ZT) (held : HeldG) (A : Fr) (H : Heap) : Prop :=
  ∃ (o : Oper) (Kv : Value → Heap → Prop), l[i]? = some o ∧ zwant l o A ∧ OpE P o (ev A) H Kv ∧ (∀ v H', Kv v H' → heldG (dropG rel held) H') ∧ ∀ v H', Kv v H' → ATr P l K false t (dropG rel held) (put A o.dst v) H'
theorem ATr.split {rel : List Nat} (h : ATe P l K i rel t held A H) (ha : ATr P l K true alt held A H) : ATr P l K f (.eff i rel t alt) held A H := by
  obtain ⟨o, Kv, h1, h2, h3, h4, h5⟩ := h
  exact .eff Kv h1 h2 h3 h4 h5 ha
theorem ATr.last {rel : List Nat} (h : ATe P l K i rel t held A H) : ATr P l K f (.eff i rel t .nil) held A H := ATr.split h .stop
theorem ATe.ef {rel : List Nat} (hi : l.drop i = ⟨dst, op, ty, pos, af, none⟩ :: r)
    (h : ∀ Kx : Value → Heap → Prop, Cont (∀ v H', heldG (dropG rel held) H' → ATr P l K false t (dropG rel held) (put A dst v) H' → Kx v H') → astep P ⟨dst, op, ty, pos, af, none⟩ (ev A) H Kx) : ATe P l K i rel t held A H := by
  have := OpE.step (h (fun v H' => heldG (dropG rel held) H' ∧ ATr P l K false t (dropG rel held) (put A dst v) H') fun v H' q1 q2 => ⟨q1, q2⟩)
  exact ⟨_, _, at_drop' hi, trivial, this, fun v H' q => q.1, fun v H' q => q.2⟩
end
theorem rtY {a b : Prop} (hb : b) (h : Later b → a := by
  intro hb
  first
  | with_reducible refine ATr.nil ?_
  | with_reducible refine ATr.last ?_
  | (refine ATr.pas rfl rfl (.inl ?_) ?_; focus (simp (disch := (first | omega | (simp only [nx]; first | done | omega))) only [Value.bool.injEq, Bool.and_true, Bool.true_and, Bool.and_false, Bool.false_and, beq_self_eq_true, bne, Bool.not_true, Bool.not_false, sx, nx, dx, ↓reduceIte, reduceCtorEq, Nat.reduceEqDiff, ne_eq, not_false_eq_true, *]; done))
  | (refine ATr.pas rfl rfl (.inr ?_) ?_; focus (simp (disch := (first | omega | (simp only [nx]; first | done | omega))) only [Value.bool.injEq, Bool.and_true, Bool.true_and, Bool.and_false, Bool.false_and, beq_self_eq_true, bne, Bool.not_true, Bool.not_false, sx, nx, dx, ↓reduceIte, reduceCtorEq, Nat.reduceEqDiff, ne_eq, not_false_eq_true, *]; done))
  | ((first | refine ATr.fl rfl fun Kx hKx => ?_ | (refine ATr.flg rfl rfl ?_ fun Kx hKx => ?_; focus (simp (disch := (first | omega | (simp only [nx]; first | done | omega))) only [Value.bool.injEq, Bool.and_true, Bool.true_and, Bool.and_false, Bool.false_and, beq_self_eq_true, bne, Bool.not_true, Bool.not_false, sx, nx, dx, ↓reduceIte, reduceCtorEq, Nat.reduceEqDiff, ne_eq, not_false_eq_true, *]; done)) | refine ATe.ef rfl fun Kx hKx => ?_); simp (disch := (first | omega | (simp only [nx]; first | done | omega))) only [heldIn_iff, List.zipIdx_cons, List.zipIdx_nil, List.map_cons, List.map_nil, heldG_iff, Nat.reduceBEq, Bool.or_false, Bool.or_true, Bool.false_or, Bool.true_or, xxq, zxq, tf, litK, copyK, clearK, makeSliceK, buildSliceK, buildK, lookupK, mapPutK, mapOf, convK, allocK, indexK, partK, xxa, xxb, xxc, bne, Int.reduceEq, Int.reduceBEq, Int.reduceNe, Int.reduceBNe, Int.reduceLE, Int.reduceGT, Int.reduceGE, Int.reduceNeg, ↓reduceIte, reduceCtorEq, Nat.reduceEqDiff, Nat.reduceAdd, Nat.reduceMul, Nat.reduceSub, Nat.reduceLT, Int.reduceAdd, Int.reduceSub, Int.reduceMul, Int.reduceLT, Int.reduceToNat, ne_eq, *]; (repeat first | ((with_reducible refine And.intro (fun hc => ?_) (fun hc => absurd hc (by omega))); clear hc) | ((with_reducible refine And.intro (fun hc => absurd hc (by omega)) (fun hc => ?_)); clear hc) | ((with_reducible refine And.intro ?_ ?_); focus ((first | omega | assumption | exact cok _ rfl | exact one_ints _ | exact one_map fun _ => rfl | ((repeat refine one_cons (by first | rfl | assumption) ?_); exact one_nil) | rfl | decide | (intro u hu; cases hu)); done)) | (with_reducible refine (fun hc => ?_ : _ → _); clear hc)); (first | refine hKx.out _ _ ?_ | refine zcK.hkx hKx ?_ | refine ACalls.hkx hKx ?_ | (refine hKx.out _ _ ?_ ?_; focus (simp (disch := (first | omega | (simp only [nx]; first | done | omega))) only [heldIn_iff, List.zipIdx_cons, List.zipIdx_nil, List.map_cons, List.map_nil, heldG_iff, Nat.reduceBEq, Bool.or_false, Bool.or_true, Bool.false_or, Bool.true_or, xxq, zxq, tf, litK, copyK, clearK, makeSliceK, buildSliceK, buildK, lookupK, mapPutK, mapOf, convK, allocK, indexK, partK, xxa, xxb, xxc, bne, Int.reduceEq, Int.reduceBEq, Int.reduceNe, Int.reduceBNe, Int.reduceLE, Int.reduceGT, Int.reduceGE, Int.reduceNeg, ↓reduceIte, reduceCtorEq, Nat.reduceEqDiff, Nat.reduceAdd, Nat.reduceMul, Nat.reduceSub, Nat.reduceLT, Int.reduceAdd, Int.reduceSub, Int.reduceMul, Int.reduceLT, Int.reduceToNat, ne_eq, *]; first | done | trivial)) | (refine appendK.hkx hKx ?_; try (refine appendK.ofZ ?_; simp (disch := (first | omega | (simp only [nx]; first | done | omega))) only [heldIn_iff, List.zipIdx_cons, List.zipIdx_nil, List.map_cons, List.map_nil, heldG_iff, Nat.reduceBEq, Bool.or_false, Bool.or_true, Bool.false_or, Bool.true_or, xxq, zxq, tf, litK, copyK, clearK, makeSliceK, buildSliceK, buildK, lookupK, mapPutK, mapOf, convK, allocK, indexK, partK, xxa, xxb, xxc, bne, Int.reduceEq, Int.reduceBEq, Int.reduceNe, Int.reduceBNe, Int.reduceLE, Int.reduceGT, Int.reduceGE, Int.reduceNeg, ↓reduceIte, reduceCtorEq, Nat.reduceEqDiff, Nat.reduceAdd, Nat.reduceMul, Nat.reduceSub, Nat.reduceLT, Int.reduceAdd, Int.reduceSub, Int.reduceMul, Int.reduceLT, Int.reduceToNat, ne_eq, *]; (repeat first | ((with_reducible refine And.intro (fun hc => ?_) (fun hc => absurd hc (by omega))); clear hc) | ((with_reducible refine And.intro (fun hc => absurd hc (by omega)) (fun hc => ?_)); clear hc) | ((with_reducible refine And.intro ?_ ?_); focus ((first | omega | assumption | exact cok _ rfl | exact one_ints _ | exact one_map fun _ => rfl | ((repeat refine one_cons (by first | rfl | assumption) ?_); exact one_nil) | rfl | decide | (intro u hu; cases hu)); done)) | (with_reducible refine (fun hc => ?_ : _ → _); clear hc))))))
  exact hb.out) : a := h ⟨hb⟩
end Go.Proofs.YtmoknllbpjpkmaaGreat.Zed
