/- A part of the walk: what functions of the program do, over an abstract heap. -/
import Derived.Test.YtmoknllbpjpkmaaZedG
import Derived.OrdersIn
import Derived.TacticsIn
import Derived.RangeFuncSeq
import Derived.Below
import Derived.RangeFuncBox
import Derived.Test.YtmoknllbpjpkmaaW5
import Derived.Shelf.Abstract
import Derived.WalkKit
import Derived.OwnWalkIn
import Derived.TacticsInMore
import Derived.LoopNIn
import Derived.LoopIn
import Derived.RegionIn
import Derived.Test.YtmoknllbpjpkmaaX26
import Derived.Test.YtmoknllbpjpkmaaX30
import Derived.Test.YtmoknllbpjpkmaaX12
/- A region that draws, with effects that may come in several orders: a tree of plans. -/
namespace Go.Proofs.Ytmoknllbpjpkmaa.Zed
open Go
set_option linter.unusedVariables false
set_option linter.unusedSimpArgs false
inductive ZT where
  | nil
  | flt (i : Nat) (t : ZT)
  | eff (i : Nat) (rel : List Nat) (t alt : ZT)
def ZT.heads : ZT → List Nat
  | .eff i _ _ alt => i :: alt.heads
  | _ => []
def ZT.sz : ZT → Nat
  | .nil => 0
  | .flt _ t => t.sz + 1
  | .eff _ _ t alt => max (t.sz + 1) alt.sz
inductive ATr (P : Program) (l : List Oper) (K : Fr → Heap → Prop) : Bool → ZT → HeldG → Fr → Heap → Prop
  | nil {held : HeldG} {A : Fr} {H : Heap} (h : K A H) : ATr P l K false .nil held A H
  | stop {held : HeldG} {A : Fr} {H : Heap} : ATr P l K true .nil held A H
  | flt {i : Nat} {t : ZT} {held : HeldG} {A : Fr} {H : Heap} {o : Oper} {v : Value} {hl : HeldL} (hi : l[i]? = some o) (hw : zwant l o A) (hf : Flt P o (ev A) hl v) (hh : heldIn hl H) (h : ATr P l K false t ((i, hl) :: held) (put A o.dst v) H) : ATr P l K false (.flt i t) held A H
  | skip {i : Nat} {t : ZT} {held : HeldG} {A : Fr} {H : Heap} {o : Oper} (hi : l[i]? = some o) (hw : zskip l o A) (h : ATr P l K false t held (put A o.dst undef) H) : ATr P l K false (.flt i t) held A H
  | eff {f : Bool} {i : Nat} {rel : List Nat} {t alt : ZT} {held : HeldG} {A : Fr} {H : Heap} {o : Oper} (Kv : Value → Heap → Prop) (hi : l[i]? = some o) (hw : zwant l o A) (he : OpE P o (ev A) H Kv)
      (hh : ∀ v H', Kv v H' → heldG (dropG rel held) H') (h : ∀ v H', Kv v H' → ATr P l K false t (dropG rel held) (put A o.dst v) H') (ha : ATr P l K true alt held A H) : ATr P l K f (.eff i rel t alt) held A H
def ordT (l : List Oper) (need : Nat → List Nat) : Bool → List Nat → ZT → Prop
  | false, pre, .nil => ∀ i, i < l.length → i ∈ pre
  | false, pre, .flt i t => i < l.length ∧ i ∉ pre ∧ (∀ j ∈ need i, j ∈ pre) ∧ (∀ j ∈ zdeps l i, j ∈ pre) ∧ ordT l need false (i :: pre) t
  | f, pre, .eff i rel t alt => i < l.length ∧ i ∉ pre ∧ (∀ j ∈ need i, j ∈ pre) ∧ (∀ j ∈ zdeps l i, j ∈ pre) ∧ (∀ j ∈ rel, j ∈ need i) ∧ ordT l need false (i :: pre) t ∧ ordT l need true pre alt ∧
      (f = false → ∀ j, j < l.length → j ∉ pre → j ∈ i :: alt.heads ∨ ∃ a ∈ i :: alt.heads, a ∈ need j)
  | true, _, .nil => True
  | true, _, .flt _ _ => True
section
variable {P : Program} {m : Nat}
variable {l : List Oper} {need : Nat → List Nat} {pre : List Nat} {plan : List (Nat × Option (List Nat))} {held : HeldG} {A : Fr} {H : Heap} {U : List Pnd} {listed : Array Bool} {Aa : Fr}
theorem ZSt.readyT (hS : ZSt P l need pre plan held A H U listed Aa) (hne : U ≠ [] ∨ ∃ i, i < l.length ∧ i ∉ pre ∧ ∀ j ∈ zdeps l i, j ∈ pre) : ∃ i, i ∈ Region.ready .any l.toArray listed := by
  have fin : ∀ i, i < l.length → listed.getD i false = false → (∀ j ∈ zdeps l i, listed.getD j false = true) → i ∈ Region.ready .any l.toArray listed := fun i hi hu hd => by
    have hg : l[i]? = some l[i] := List.getElem?_eq_getElem hi
    exact mem_ready.2 ⟨hS.unl hi hu, l[i], by simp [hi], (zdeps_listed hg).1 hd⟩
  by_cases hex : ∃ i ∈ pre, ¬ (listed.getD i false = true)
  · obtain ⟨i, _, h2, h3, h4⟩ := preOk.first (fun i => listed.getD i false = true) hS.pr hex
    exact ⟨i, fin i h3 (by simpa using h2) h4⟩
  · have hall : ∀ i ∈ pre, listed.getD i false = true := fun i hi => Classical.byContradiction fun hn => hex ⟨i, hi, hn⟩
    have hU : U = [] := by
      cases U with
      | nil => rfl
      | cons x U =>
        have h1 := hS.u x (List.mem_cons_self ..)
        obtain ⟨o, ho, _⟩ := h1.1.h
        have h2 := (hS.lis x.1 false (List.getElem?_eq_some_iff.1 ho).1).1 (hall _ h1.2)
        exact absurd rfl (h2.2 x (List.mem_cons_self ..))
    obtain ⟨i, h1, h2, h4⟩ := hne.resolve_left (fun h => h hU)
    refine ⟨i, fin i h1 ?_ fun j hj => hall j (h4 j hj)⟩
    cases hq : listed.getD i false with
    | false => rfl
    | true => exact absurd ((hS.lis i false h1).1 hq).1 h2
theorem ZSt.pass (z : ZOk l need) (hS : ZSt P l need pre plan held A H U listed Aa) (hpl : ∀ i, i < l.length → i ∈ plan.map (·.1)) {i : Nat} (h1 : i < l.length) (h2 : i ∉ pre) (h3 : ∀ j ∈ need i, j ∈ pre) (h4 : ∀ j ∈ zdeps l i, j ∈ pre)
    {o : Oper} {v : Value} {hl : HeldL} {held' : HeldG} (hio : l[i]? = some o) (hhd : ∀ p ∈ held, p ∈ held') (hc : (zwant l o A ∧ Flt P o (ev A) hl v ∧ heldIn hl H ∧ (i, hl) ∈ held') ∨ (zskip l o A ∧ v = undef)) :
    ZSt P l need (i :: pre) plan held' (put A o.dst v) H ((i, hl, v, A) :: U) listed Aa := by
  have hpre' : preOk l need (i :: pre) := ⟨h1, h2, h3, h4, hS.pr⟩
  have hun : ∀ d, listed.getD i d = true → False := fun d h => h2 ((hS.lis i d h1).1 h).1
  have hnx : ∀ x ∈ U, x.1 ≠ i ∧ i ∉ need x.1 := fun x hx => ⟨fun e => h2 (e ▸ (hS.u x hx).2), fun h => h2 (hS.pr.need x.1 (hS.u x hx).2 _ h)⟩
  refine ⟨hpre', fun k hk => .inr (hpl k hk), fun x hx => ?_, hS.size, fun j d hj => ?_, hS.cl, fun t ht => ?_, fun x hx ox hox t ht hp => ?_, fun x hx y hy hyn ox oy t hox hoy hd ht => ?_⟩
  · rcases List.mem_cons.1 hx with rfl | hx
    · exact ⟨⟨o, hio, fun t ht => by rw [ht, put_at, if_pos rfl], hc⟩, List.mem_cons_self ..⟩
    · exact ⟨(hS.u x hx).1.put z hio (hnx x hx).1 hhd v, List.mem_cons_of_mem _ (hS.u x hx).2⟩
  · by_cases e : j = i
    · subst e
      refine ⟨fun h => (hun d h).elim, fun h => absurd rfl (h.2 (j, hl, v, A) (List.mem_cons_self ..))⟩
    · rw [hS.lis j d hj]
      refine ⟨fun h => ⟨List.mem_cons_of_mem _ h.1, fun x hx => ?_⟩, fun h => ⟨(List.mem_cons.1 h.1).resolve_left e, fun x hx => h.2 x (List.mem_cons_of_mem _ hx)⟩⟩
      rcases List.mem_cons.1 hx with rfl | hx
      · exact fun q => e q.symm
      · exact h.2 x hx
  · rw [put_ne (ht (i, hl, v, A) (List.mem_cons_self ..) o hio)]
    exact hS.ag t fun x hx => ht x (List.mem_cons_of_mem _ hx)
  · rcases List.mem_cons.1 hx with rfl | hx
    · have e : ox = o := by rw [hio] at hox; exact (Option.some.inj hox).symm
      subst e
      refine hS.ag t fun y hy oy hoy e => ?_
      rcases z.c3 i y.1 ox oy t hio hoy e ht with h | h | h
      · exact (hnx y hy).1 h.symm
      · exact hp y (List.mem_cons_of_mem _ hy) h oy hoy e
      · exact (hnx y hy).2 h
    · exact hS.us x hx ox hox t ht fun y hy => hp y (List.mem_cons_of_mem _ hy)
  · rcases List.mem_cons.1 hx with rfl | hx
    · rcases List.mem_cons.1 hy with rfl | hy
      · exact absurd (h3 _ hyn) h2
      · obtain ⟨oy', q1, q2, _⟩ := (hS.u y hy).1.h
        have e : oy' = oy := by rw [hoy] at q1; exact (Option.some.inj q1).symm
        subst e
        exact q2 t hd
    · rcases List.mem_cons.1 hy with rfl | hy
      · exact absurd hyn (hnx x hx).2
      · exact hS.uy x hx y hy hyn ox oy t hox hoy hd ht
theorem ZSt.done (z : ZOk l need) (hS : ZSt P l need pre plan held A H U listed Aa) (hpl : ∀ i, i < l.length → i ∈ plan.map (·.1)) {i : Nat} (h1 : i < l.length) (h2 : i ∉ pre) (h3 : ∀ j ∈ need i, j ∈ pre) (h4 : ∀ j ∈ zdeps l i, j ∈ pre)
    {rel : List Nat} (h56 : ∀ j ∈ rel, j ∈ need i) {o : Oper} (hi : l[i]? = some o) (hn2 : ∀ j ∈ need i, listed.getD j false = true) {v : Value} {H' : Heap} (hh : heldG (dropG rel held) H') :
    ZSt P l need (i :: pre) plan (dropG rel held) (put A o.dst v) H' U (listed.setIfInBounds i true) (put Aa o.dst v) := by
  have hpre' : preOk l need (i :: pre) := ⟨h1, h2, h3, h4, hS.pr⟩
  have hnx : ∀ x ∈ U, x.1 ≠ i ∧ i ∉ need x.1 := fun x hx => ⟨fun e => h2 (e ▸ (hS.u x hx).2), fun h => h2 (hS.pr.need x.1 (hS.u x hx).2 _ h)⟩
  have hsz : i < listed.size := by rw [hS.size]; exact h1
  refine ⟨hpre', fun k hk => .inr (hpl k hk), fun x hx => ⟨?_, List.mem_cons_of_mem _ (hS.u x hx).2⟩, by simp [hS.size], fun k d hk2 => ?_, cl_set hS h1 hn2, fun t ht => ?_, fun x hx ox hox t ht hp => ?_, hS.uy⟩
  · have hxn := hS.pend hn2 hx
    have hu := (hS.u x hx).1.put z hi (hnx x hx).1 (held' := held) (fun p hp => hp) v
    obtain ⟨o', r1, r2, r3⟩ := hu.h
    refine ⟨o', r1, r2, r3.imp ?_ id⟩
    rintro ⟨s1, s2, s3, s4⟩
    have hnr : rel.contains x.1 = false := by
      cases hc : rel.contains x.1 with
      | false => rfl
      | true => exact absurd (h56 x.1 (List.contains_iff_mem.1 hc)) hxn
    have hin := mem_dropG s4 hnr
    exact ⟨s1, s2, hh _ hin, hin⟩
  · rw [set_getD hsz]
    by_cases e : k = i
    · rw [if_pos e]
      exact ⟨fun _ => ⟨e ▸ List.mem_cons_self .., fun x hx => e ▸ (hnx x hx).1⟩, fun _ => rfl⟩
    · rw [if_neg e, hS.lis k d hk2]
      exact and_congr_left fun _ => ⟨List.mem_cons_of_mem _, fun h => (List.mem_cons.1 h).resolve_left e⟩
  · by_cases e : o.dst = some t
    · rw [e, put_at, put_at, if_pos rfl, if_pos rfl]
    · rw [put_ne e, put_ne e]; exact hS.ag t ht
  · rw [put_ne fun e => ?_]
    · exact hS.us x hx ox hox t ht hp
    · rcases z.c3 x.1 i ox o t hox hi e ht with h | h | h
      · exact (hnx x hx).1 h
      · exact (hnx x hx).2 h
      · exact hS.pend hn2 hx h
/-- The effects of which one comes next. -/
theorem ATr.heads {K : Fr → Heap → Prop} : ∀ {f : Bool} {t : ZT}, ATr P l K f t held A H → ordT l need f pre t → ∀ j ∈ t.heads, ∃ rel t' o, ∃ Kv : Value → Heap → Prop, j < l.length ∧ j ∉ pre ∧ (∀ k ∈ need j, k ∈ pre) ∧ (∀ k ∈ zdeps l j, k ∈ pre) ∧ (∀ k ∈ rel, k ∈ need j) ∧ ordT l need false (j :: pre) t' ∧ t'.sz + 1 ≤ t.sz ∧ l[j]? = some o ∧ zwant l o A ∧ OpE P o (ev A) H Kv ∧
    (∀ v H', Kv v H' → heldG (dropG rel held) H') ∧ ∀ v H', Kv v H' → ATr P l K false t' (dropG rel held) (put A o.dst v) H'
  | _, .nil, _, _, j, hj => by cases hj
  | _, .flt _ _, _, _, j, hj => by cases hj
  | f, .eff i rel t alt, h, ho, j, hj => by
    have ho : i < l.length ∧ i ∉ pre ∧ (∀ j ∈ need i, j ∈ pre) ∧ (∀ j ∈ zdeps l i, j ∈ pre) ∧ (∀ j ∈ rel, j ∈ need i) ∧ ordT l need false (i :: pre) t ∧ ordT l need true pre alt ∧ (f = false → ∀ j, j < l.length → j ∉ pre → j ∈ i :: alt.heads ∨ ∃ a ∈ i :: alt.heads, a ∈ need j) := by cases f <;> exact ho
    obtain ⟨o1, o2, o3, o4, o5, o6, o7, _⟩ := ho
    cases h with
    | eff Kv hi hw he hh hn ha =>
      rcases List.mem_cons.1 hj with rfl | hj
      · exact ⟨rel, t, _, Kv, o1, o2, o3, o4, o5, o6, Nat.le_max_left _ _, hi, hw, he, hh, hn⟩
      · obtain ⟨rel', t', o', Kv', p1, p2, p3, p4, p5, p6, p7, p8⟩ := ATr.heads ha o7 j hj
        exact ⟨rel', t', o', Kv', p1, p2, p3, p4, p5, p6, Nat.le_trans p7 (Nat.le_max_right _ _), p8⟩
theorem ATr.sim {l : List Oper} {need : Nat → List Nat} (z : ZOk l need) (hm : ∀ o ∈ l, dstOk m o.dst = true) (hop : ∀ o ∈ l, ∀ x ∈ o.op.operands, opndOk x = true) {plan : List (Nat × Option (List Nat))} (hpl : ∀ i, i < l.length → i ∈ plan.map (·.1)) {K : Fr → Heap → Prop} {Qc : Exit → Act → World → Prop} :
    ∀ (fuel : Nat) (t : ZT) (pre : List Nat) (held : HeldG) (A : Fr) (H : Heap) (U : List Pnd) (listed : Array Bool) (Aa : Fr) (φ : Ren) (a : Act) (w : World),
      ATr P l K false t held A H → ordT l need false pre t → ZSt P l need pre plan held A H U listed Aa → t.sz + U.length ≤ fuel → St m φ Aa H a w →
      (∀ φ' A' H' a' w', K A' H' → St m φ' A' H' a' w' → Ok φ H w φ' H' w' → Qc .normal a' w') → wpAny P .any l.toArray Qc fuel listed a w := by
  intro fuel
  induction fuel with
  | zero =>
    intro t pre held A H U listed Aa φ a w hz ho hS hf hs hk
    have hU : U = [] := List.eq_nil_of_length_eq_zero (by omega)
    subst hU
    have ht : t = .nil := by
      cases t with
      | nil => rfl
      | flt i t => simp only [ZT.sz] at hf; omega
      | eff i rel t alt => simp only [ZT.sz] at hf; omega
    subst ht
    have hK : K A H := by cases hz; assumption
    have hAa : Aa = A := funext fun t => hS.ag t (fun x hx => by cases hx)
    subst hAa
    refine ⟨?_, hk φ Aa H a w hK hs Ok.refl⟩
    refine List.eq_nil_iff_forall_not_mem.2 fun i hi => ?_
    obtain ⟨h1, o, h2, _⟩ := mem_ready.1 hi
    have hlt : i < l.length := by have := (Array.getElem?_eq_some_iff.1 h2).1; simpa using this
    have := (hS.lis i true hlt).2 ⟨ho i hlt, fun x hx => by cases hx⟩
    rw [this] at h1; cases h1
  | succ fuel ih =>
    have stepU : ∀ (t : ZT) (pre : List Nat) (held : HeldG) (A : Fr) (H : Heap) (U : List Pnd) (listed : Array Bool) (Aa : Fr) (φ : Ren) (a : Act) (w : World),
      ATr P l K false t held A H → ordT l need false pre t → ZSt P l need pre plan held A H U listed Aa → t.sz + U.length ≤ fuel + 1 → St m φ Aa H a w →
      (∀ φ' A' H' a' w', K A' H' → St m φ' A' H' a' w' → Ok φ H w φ' H' w' → Qc .normal a' w') → ∀ x ∈ U, x.1 ∈ Region.ready .any l.toArray listed → wpOp P l.toArray Qc x.1 (wpAny P .any l.toArray Qc fuel (listed.setIfInBounds x.1 true)) a w := by
      intro t pre held A H U listed Aa φ a w hz ho hS hf hs hk x hx hr
      refine wpOp_mono ?_ (hS.runU z hm hop hx hr hs)
      rintro a' w' ⟨φ', Aa', hs', ok', hS'⟩
      have hlen : (U.filter fun y => y.1 != x.1).length < U.length := by
        refine List.length_filter_lt_length_iff_exists.2 ⟨x, hx, by simp⟩
      exact ih t pre held A H _ _ Aa' φ' a' w' hz ho hS' (by omega) hs' (fun φ2 A2 H2 a2 w2 q s ok => hk φ2 A2 H2 a2 w2 q s (ok'.trans ok))
    intro t
    induction t with
    | nil =>
      intro pre held A H U listed Aa φ a w hz ho hS hf hs hk
      refine ⟨fun hr => ?_, fun i hi => ?_⟩
      · have hU : U = [] := Classical.byContradiction fun h => by
          obtain ⟨i, hi⟩ := hS.readyT (.inl h)
          rw [hr] at hi; cases hi
        subst hU
        have hK : K A H := by cases hz; assumption
        have hAa : Aa = A := funext fun t => hS.ag t (fun x hx => by cases hx)
        subst hAa
        exact hk φ Aa H a w hK hs Ok.refl
      · obtain ⟨h1, o, h2, _⟩ := mem_ready.1 hi
        have hlt : i < l.length := by have := (Array.getElem?_eq_some_iff.1 h2).1; simpa using this
        have hex : ∃ x ∈ U, x.1 = i := Classical.byContradiction fun hn => by
          have := (hS.lis i true hlt).2 ⟨ho i hlt, fun x hx e => hn ⟨x, hx, e⟩⟩
          rw [this] at h1; cases h1
        obtain ⟨x, hx, rfl⟩ := hex
        exact stepU .nil pre held A H U listed Aa φ a w hz ho hS hf hs hk x hx hi
    | flt i t iht =>
      intro pre held A H U listed Aa φ a w hz ho hS hf hs hk
      obtain ⟨h1, h2, h3, h4, h6⟩ := ho
      cases hz with
      | flt hi hw hf' hh h =>
        refine iht (i :: pre) _ _ H ((i, _, _, _) :: U) listed Aa φ a w h h6 (hS.pass z hpl h1 h2 h3 h4 hi (fun p hp => List.mem_cons_of_mem _ hp) (.inl ⟨hw, hf', hh, List.mem_cons_self ..⟩)) ?_ hs hk
        simp only [List.length_cons, ZT.sz] at hf ⊢; omega
      | skip hi hw h =>
        refine iht (i :: pre) _ _ H ((i, [], undef, _) :: U) listed Aa φ a w h h6 (hS.pass z hpl h1 h2 h3 h4 hi (fun p hp => hp) (.inr ⟨hw, rfl⟩)) ?_ hs hk
        simp only [List.length_cons, ZT.sz] at hf ⊢; omega
    | eff i rel t alt _ _ =>
      intro pre held A H U listed Aa φ a w hz ho hS hf hs hk
      have ho' := ho
      obtain ⟨h1, h2, h3, h4, h5, h6, h7, h8⟩ := ho
      refine ⟨fun hr => ?_, fun j hj => ?_⟩
      · obtain ⟨k, hk2⟩ := hS.readyT (.inr ⟨i, h1, h2, h4⟩)
        rw [hr] at hk2; cases hk2
      · obtain ⟨q1, oj, q2, _⟩ := mem_ready.1 hj
        have hlt : j < l.length := by have := (Array.getElem?_eq_some_iff.1 q2).1; simpa using this
        have q2' : l[j]? = some oj := by rw [← q2, List.getElem?_toArray]
        obtain ⟨hn1, hn2⟩ := hS.needs z q2' hj
        by_cases hjp : j ∈ pre
        · have hex : ∃ x ∈ U, x.1 = j := Classical.byContradiction fun hn => by
            have := (hS.lis j true hlt).2 ⟨hjp, fun x hx e => hn ⟨x, hx, e⟩⟩
            rw [this] at q1; cases q1
          obtain ⟨x, hx, rfl⟩ := hex
          exact stepU (.eff i rel t alt) pre held A H U listed Aa φ a w hz ho' hS hf hs hk x hx hj
        · have hjh : j ∈ (ZT.eff i rel t alt).heads := by
            rcases h8 rfl j hlt hjp with h | ⟨b, hb, hbn⟩
            · exact h
            · exfalso
              have hlb := hn2 b hbn
              obtain ⟨_, _, _, _, p1, p2, _⟩ := ATr.heads hz ho' b hb
              exact p2 ((hS.lis b false p1).1 hlb).1
          obtain ⟨rel', t', o, Kv, p1, p2, p3, p4, p5, p6, p7, hi, hw, he, hh, h⟩ := ATr.heads hz ho' j hjh
          have hsame := hS.same z hi p2 hn2
          have hmem := List.mem_of_getElem? hi
          unfold wpOp
          rw [List.getElem?_toArray, hi]
          simp only
          rw [if_pos (zwanted hs hm (zwant_congr hw hsame))]
          refine .inl (he φ a w _ _ hs.holds (fun y hy => ?_) ?_)
          · have e : ev A y = ev Aa y := by
              cases y with
              | tmp t => exact (hsame t (uses_op hy)).symm
              | _ => rfl
            rw [e]; exact hs.ev (hop o hmem y hy)
          · intro φ' v u H' w' hKv hr' hh' ok'
            exact ih t' (j :: pre) _ _ H' U _ (put Aa o.dst v) φ' _ w' (h v H' hKv) p6 (hS.done z hpl p1 p2 p3 p4 p5 hi hn2 (hh v H' hKv)) (by omega) ((hs.step ok' hh').put (hm o hmem) hr') (fun φ2 A2 H2 a2 w2 q s ok => hk φ2 A2 H2 a2 w2 q s (ok'.trans ok))
def ordTB (l : List Oper) (nd : List (List Nat)) : Bool → List Nat → ZT → Bool
  | false, pre, .nil => (List.range l.length).all (pre.contains ·)
  | false, pre, .flt i t => decide (i < l.length) && !pre.contains i && (nd.getD i []).all (pre.contains ·) && (zdeps l i).all (pre.contains ·) && ordTB l nd false (i :: pre) t
  | f, pre, .eff i rel t alt => decide (i < l.length) && !pre.contains i && (nd.getD i []).all (pre.contains ·) && (zdeps l i).all (pre.contains ·) && rel.all ((nd.getD i []).contains ·) && ordTB l nd false (i :: pre) t && ordTB l nd true pre alt &&
      (f || (List.range l.length).all fun j => pre.contains j || (i :: alt.heads).contains j || (i :: alt.heads).any ((nd.getD j []).contains ·))
  | true, _, .nil => true
  | true, _, .flt _ _ => true
theorem ordTB_ok {l : List Oper} {nd : List (List Nat)} : ∀ {f : Bool} {pre : List Nat} {t : ZT}, ordTB l nd f pre t = true → ordT l (fun i => nd.getD i []) f pre t
  | false, pre, .nil, h => by
    simp only [ordTB, List.all_eq_true, List.mem_range, List.contains_iff_mem] at h
    exact h
  | false, pre, .flt i t, h => by
    simp only [ordTB, Bool.and_eq_true, decide_eq_true_eq, Bool.not_eq_true', List.all_eq_true, List.contains_iff_mem] at h
    obtain ⟨⟨⟨⟨h1, h2⟩, h3⟩, h4⟩, h6⟩ := h
    exact ⟨h1, fun hm => (by rw [List.contains_iff_mem.2 hm] at h2; cases h2), h3, h4, ordTB_ok h6⟩
  | f, pre, .eff i rel t alt, h => by
    have h : (decide (i < l.length) && !pre.contains i && (nd.getD i []).all (pre.contains ·) && (zdeps l i).all (pre.contains ·) && rel.all ((nd.getD i []).contains ·) && ordTB l nd false (i :: pre) t && ordTB l nd true pre alt &&
      (f || (List.range l.length).all fun j => pre.contains j || (i :: alt.heads).contains j || (i :: alt.heads).any ((nd.getD j []).contains ·))) = true := by cases f <;> exact h
    simp only [Bool.and_eq_true, decide_eq_true_eq, Bool.not_eq_true', List.all_eq_true, Bool.or_eq_true, List.any_eq_true, List.mem_range, List.contains_iff_mem] at h
    obtain ⟨⟨⟨⟨⟨⟨⟨h1, h2⟩, h3⟩, h4⟩, h5⟩, h6⟩, h7⟩, h8⟩ := h
    have key : i < l.length ∧ i ∉ pre ∧ (∀ j ∈ nd.getD i [], j ∈ pre) ∧ (∀ j ∈ zdeps l i, j ∈ pre) ∧ (∀ j ∈ rel, j ∈ nd.getD i []) ∧ ordT l (fun i => nd.getD i []) false (i :: pre) t ∧ ordT l (fun i => nd.getD i []) true pre alt ∧
      (f = false → ∀ j, j < l.length → j ∉ pre → j ∈ i :: alt.heads ∨ ∃ a ∈ i :: alt.heads, a ∈ nd.getD j []) := by
      refine ⟨h1, fun hm => (by rw [List.contains_iff_mem.2 hm] at h2; cases h2), h3, h4, h5, ordTB_ok h6, ordTB_ok h7, fun e j hj hjp => ?_⟩
      rcases h8 with h8 | h8
      · rw [e] at h8; cases h8
      · rcases h8 j hj with (h | h) | h
        · exact absurd h hjp
        · exact .inl h
        · exact .inr h
    cases f <;> exact key
  | true, _, .nil, _ => trivial
  | true, _, .flt _ _, _ => trivial
def tchk (m : Nat) (l : List Oper) (t : ZT) (nd : List (List Nat)) : Bool :=
  decide (t.sz ≤ l.length) && l.all (fun o => dstOk m o.dst && o.op.operands.toList.all opndOk) &&
  (List.range l.length).all (fun i => (nd.getD i []).all fun j => (zdeps l i).contains j || (zdeps l i).any fun d => (nd.getD d []).contains j) &&
  l.zipIdx.all (fun p => l.zipIdx.all fun q => match q.1.dst with
    | none => true
    | some t => (!(zuses l p.1).contains t || p.2 == q.2 || (nd.getD p.2 []).contains q.2 || (nd.getD q.2 []).contains p.2) && (p.2 == q.2 || p.1.dst != some t)) && ordTB l nd false [] t
theorem AWp.ztree {id : Nat} {l : List Oper} {Q : Exit → Fr → Heap → Prop} {A : Fr} {H : Heap} (t : ZT) (hm : P.follows .mixedOrders = true) (hok : tchk m l t (zneeds l) = true) (h : ATr P l (Q .normal) false t [] A H) : AWp P m (.region id l.toArray true) Q A H := by
  generalize zneeds l = nd at hok
  simp only [tchk, Bool.and_eq_true, decide_eq_true_eq, List.all_eq_true, List.mem_range, List.contains_iff_mem, List.any_eq_true, Bool.or_eq_true] at hok
  obtain ⟨⟨⟨⟨k1, k3⟩, k4⟩, k5⟩, k6⟩ := hok
  have zz : ∀ (i j : Nat) (oi oj : Oper) (t : Nat), l[i]? = some oi → l[j]? = some oj → oj.dst = some t → (t ∉ zuses l oi ∨ i = j ∨ j ∈ nd.getD i [] ∨ i ∈ nd.getD j []) ∧ (i = j ∨ oi.dst ≠ some t) := by
    intro i j oi oj t hi hj ht
    have := k5 (oi, i) (List.mk_mem_zipIdx_iff_getElem?.2 hi) (oj, j) (List.mk_mem_zipIdx_iff_getElem?.2 hj)
    simp only [ht, Bool.and_eq_true, Bool.or_eq_true, Bool.not_eq_true', List.contains_iff_mem, beq_iff_eq, bne_iff_ne, ne_eq] at this
    refine ⟨?_, this.2⟩
    rcases this.1 with ((h | h) | h) | h
    · exact .inl fun hm => by rw [List.contains_iff_mem.2 hm] at h; cases h
    · exact .inr (.inl h)
    · exact .inr (.inr (.inl h))
    · exact .inr (.inr (.inr h))
  have z : ZOk l (fun i => nd.getD i []) := by
    refine ⟨fun i j hi hj => ?_, fun i j o oj t hi hj ht hu => ((zz i j o oj t hi hj ht).1).resolve_left (fun h => h hu), fun i j oi oj t hne hi hj ht e => ?_⟩
    · rcases k4 i hi j hj with h | ⟨d, h1, h2⟩
      · exact .inl h
      · exact .inr ⟨d, h1, h2⟩
    · exact ((zz i j oi oj t hi hj e).2).elim hne (fun h => h ht)
  intro φ a w hs
  have hs1 : St m φ A H a { w with drawn := w.drawn + 1 } := ⟨hs.defers, hs.size, hs.tmp, hs.out, hs.holds.drew _⟩
  refine wp_region_any hm ?_
  refine ATr.sim z (fun o ho => (k3 o ho).1) (fun o ho x hx => (k3 o ho).2 x (Array.mem_toList_iff.2 hx)) (plan := (List.range l.length).map fun i => (i, none)) (fun i hi => by simp [hi]) _ t [] [] A H [] _ A φ a _ h (ordTB_ok k6) ?_ (by simpa using k1) hs1 (fun φ' A' H' a' w' q s ok => ⟨φ', A', H', q, s, Ok.drew _ ok⟩)
  refine ⟨trivial, fun i hi => .inr (by simp [hi]), fun x hx => (by cases hx), by simp, fun i d hi => ?_, fun i hi h => ?_, fun t _ => rfl, fun x hx => (by cases hx), fun x hx => (by cases hx)⟩
  · refine ⟨fun h => ?_, fun h => by cases h.1⟩
    simp [hi] at h
  · simp [hi] at h
end
section
variable {P : Program} {m : Nat} {l : List Oper} {i : Nat} {t alt : ZT} {held : HeldG} {K : Fr → Heap → Prop} {A : Fr} {H : Heap} {dst : Option Nat} {op : Op} {ty : TypeId} {pos : String} {af : Array Edge} {r : List Oper} {f : Bool}
theorem ATr.fl (hi : l.drop i = ⟨dst, op, ty, pos, af, none⟩ :: r)
    (h : ∀ Kx : Value → HeldL → Prop, Cont (∀ v hl, ATr P l K false t ((i, hl) :: held) (put A dst v) H → Kx v hl) → fstep P ⟨dst, op, ty, pos, af, none⟩ (ev A) H Kx) : ATr P l K false (.flt i t) held A H := by
  obtain ⟨v, hl, hK, hh, hf⟩ := fstep_flt (h _ fun v hl q => q)
  exact .flt (at_drop' hi) trivial hf hh hK
theorem ATr.flg {j : Nat} {want : Bool} {tm : Nat} (hi : l.drop i = ⟨dst, op, ty, pos, af, some (j, want)⟩ :: r) (ht : (l[j]?).bind (·.dst) = some tm) (hA : A tm = .bool want)
    (h : ∀ Kx : Value → HeldL → Prop, Cont (∀ v hl, ATr P l K false t ((i, hl) :: held) (put A dst v) H → Kx v hl) → fstep P ⟨dst, op, ty, pos, af, some (j, want)⟩ (ev A) H Kx) : ATr P l K false (.flt i t) held A H := by
  obtain ⟨v, hl, hK, hh, hf⟩ := fstep_flt (h _ fun v hl q => q)
  exact .flt (at_drop' hi) ⟨tm, ht, hA⟩ hf hh hK
theorem ATr.pas {j : Nat} {want : Bool} {tm : Nat} (hi : l.drop i = ⟨dst, op, ty, pos, af, some (j, want)⟩ :: r) (ht : (l[j]?).bind (·.dst) = some tm) (hA : A tm = .bool (!want) ∨ A tm = undef)
    (h : ATr P l K false t held (put A dst undef) H) : ATr P l K false (.flt i t) held A H :=
  .skip (at_drop' hi) ⟨j, want, tm, rfl, ht, hA⟩ h
/-- The effect i comes next. -/
def ATe (P : Program) (l : List Oper) (K : Fr → Heap → Prop) (i : Nat) (rel : List Nat) (t : ZT) (held : HeldG) (A : Fr) (H : Heap) : Prop :=
  ∃ (o : Oper) (Kv : Value → Heap → Prop), l[i]? = some o ∧ zwant l o A ∧ OpE P o (ev A) H Kv ∧ (∀ v H', Kv v H' → heldG (dropG rel held) H') ∧ ∀ v H', Kv v H' → ATr P l K false t (dropG rel held) (put A o.dst v) H'
theorem ATr.split {rel : List Nat} (h : ATe P l K i rel t held A H) (ha : ATr P l K true alt held A H) : ATr P l K f (.eff i rel t alt) held A H := by
  obtain ⟨o, Kv, h1, h2, h3, h4, h5⟩ := h
  exact .eff Kv h1 h2 h3 h4 h5 ha
theorem ATr.last {rel : List Nat} (h : ATe P l K i rel t held A H) : ATr P l K f (.eff i rel t .nil) held A H := ATr.split h .stop
theorem ATe.ef {rel : List Nat} (hi : l.drop i = ⟨dst, op, ty, pos, af, none⟩ :: r)
    (h : ∀ Kx : Value → Heap → Prop, Cont (∀ v H', heldG (dropG rel held) H' → ATr P l K false t (dropG rel held) (put A dst v) H' → Kx v H') → astep P ⟨dst, op, ty, pos, af, none⟩ (ev A) H Kx) : ATe P l K i rel t held A H := by
  have := OpE.step (h (fun v H' => heldG (dropG rel held) H' ∧ ATr P l K false t (dropG rel held) (put A dst v) H') fun v H' q1 q2 => ⟨q1, q2⟩)
  exact ⟨_, _, at_drop' hi, trivial, this, fun v H' q => q.1, fun v H' q => q.2⟩
end
theorem rtY {a b : Prop} (hb : b) (h : Later b → a := by
  intro hb
  first
  | with_reducible refine ATr.nil ?_
  | with_reducible refine ATr.last ?_
  | (refine ATr.pas rfl rfl (.inl ?_) ?_; focus (simp (disch := (first | omega | (simp only [nx]; first | done | omega))) only [Value.bool.injEq, Bool.and_true, Bool.true_and, Bool.and_false, Bool.false_and, beq_self_eq_true, bne, Bool.not_true, Bool.not_false, sx, nx, dx, ↓reduceIte, reduceCtorEq, Nat.reduceEqDiff, ne_eq, not_false_eq_true, *]; done))
  | (refine ATr.pas rfl rfl (.inr ?_) ?_; focus (simp (disch := (first | omega | (simp only [nx]; first | done | omega))) only [Value.bool.injEq, Bool.and_true, Bool.true_and, Bool.and_false, Bool.false_and, beq_self_eq_true, bne, Bool.not_true, Bool.not_false, sx, nx, dx, ↓reduceIte, reduceCtorEq, Nat.reduceEqDiff, ne_eq, not_false_eq_true, *]; done))
  | ((first | refine ATr.fl rfl fun Kx hKx => ?_ | (refine ATr.flg rfl rfl ?_ fun Kx hKx => ?_; focus (simp (disch := (first | omega | (simp only [nx]; first | done | omega))) only [Value.bool.injEq, Bool.and_true, Bool.true_and, Bool.and_false, Bool.false_and, beq_self_eq_true, bne, Bool.not_true, Bool.not_false, sx, nx, dx, ↓reduceIte, reduceCtorEq, Nat.reduceEqDiff, ne_eq, not_false_eq_true, *]; done)) | refine ATe.ef rfl fun Kx hKx => ?_); simp (disch := (first | omega | (simp only [nx]; first | done | omega))) only [heldIn_iff, List.zipIdx_cons, List.zipIdx_nil, List.map_cons, List.map_nil, heldG_iff, Nat.reduceBEq, Bool.or_false, Bool.or_true, Bool.false_or, Bool.true_or, xxq, zxq, tf, litK, copyK, clearK, makeSliceK, buildSliceK, buildK, lookupK, mapPutK, mapOf, convK, allocK, indexK, partK, xxa, xxb, xxc, bne, Int.reduceEq, Int.reduceBEq, Int.reduceNe, Int.reduceBNe, Int.reduceLE, Int.reduceGT, Int.reduceGE, Int.reduceNeg, ↓reduceIte, reduceCtorEq, Nat.reduceEqDiff, Nat.reduceAdd, Nat.reduceMul, Nat.reduceSub, Nat.reduceLT, Int.reduceAdd, Int.reduceSub, Int.reduceMul, Int.reduceLT, Int.reduceToNat, ne_eq, *]; (repeat first | ((with_reducible refine And.intro (fun hc => ?_) (fun hc => absurd hc (by omega))); clear hc) | ((with_reducible refine And.intro (fun hc => absurd hc (by omega)) (fun hc => ?_)); clear hc) | ((with_reducible refine And.intro ?_ ?_); focus ((first | omega | assumption | exact cok _ rfl | exact one_ints _ | exact one_map fun _ => rfl | ((repeat refine one_cons (by first | rfl | assumption) ?_); exact one_nil) | rfl | decide | (intro u hu; cases hu)); done)) | (with_reducible refine (fun hc => ?_ : _ → _); clear hc)); (first | refine hKx.out _ _ ?_ | refine zcK.hkx hKx ?_ | refine ACalls.hkx hKx ?_ | (refine hKx.out _ _ ?_ ?_; focus (simp (disch := (first | omega | (simp only [nx]; first | done | omega))) only [heldIn_iff, List.zipIdx_cons, List.zipIdx_nil, List.map_cons, List.map_nil, heldG_iff, Nat.reduceBEq, Bool.or_false, Bool.or_true, Bool.false_or, Bool.true_or, xxq, zxq, tf, litK, copyK, clearK, makeSliceK, buildSliceK, buildK, lookupK, mapPutK, mapOf, convK, allocK, indexK, partK, xxa, xxb, xxc, bne, Int.reduceEq, Int.reduceBEq, Int.reduceNe, Int.reduceBNe, Int.reduceLE, Int.reduceGT, Int.reduceGE, Int.reduceNeg, ↓reduceIte, reduceCtorEq, Nat.reduceEqDiff, Nat.reduceAdd, Nat.reduceMul, Nat.reduceSub, Nat.reduceLT, Int.reduceAdd, Int.reduceSub, Int.reduceMul, Int.reduceLT, Int.reduceToNat, ne_eq, *]; first | done | trivial)) | (refine appendK.hkx hKx ?_; try (refine appendK.ofZ ?_; simp (disch := (first | omega | (simp only [nx]; first | done | omega))) only [heldIn_iff, List.zipIdx_cons, List.zipIdx_nil, List.map_cons, List.map_nil, heldG_iff, Nat.reduceBEq, Bool.or_false, Bool.or_true, Bool.false_or, Bool.true_or, xxq, zxq, tf, litK, copyK, clearK, makeSliceK, buildSliceK, buildK, lookupK, mapPutK, mapOf, convK, allocK, indexK, partK, xxa, xxb, xxc, bne, Int.reduceEq, Int.reduceBEq, Int.reduceNe, Int.reduceBNe, Int.reduceLE, Int.reduceGT, Int.reduceGE, Int.reduceNeg, ↓reduceIte, reduceCtorEq, Nat.reduceEqDiff, Nat.reduceAdd, Nat.reduceMul, Nat.reduceSub, Nat.reduceLT, Int.reduceAdd, Int.reduceSub, Int.reduceMul, Int.reduceLT, Int.reduceToNat, ne_eq, *]; (repeat first | ((with_reducible refine And.intro (fun hc => ?_) (fun hc => absurd hc (by omega))); clear hc) | ((with_reducible refine And.intro (fun hc => absurd hc (by omega)) (fun hc => ?_)); clear hc) | ((with_reducible refine And.intro ?_ ?_); focus ((first | omega | assumption | exact cok _ rfl | exact one_ints _ | exact one_map fun _ => rfl | ((repeat refine one_cons (by first | rfl | assumption) ?_); exact one_nil) | rfl | decide | (intro u hu; cases hu)); done)) | (with_reducible refine (fun hc => ?_ : _ → _); clear hc))))))
  exact hb.out) : a := h ⟨hb⟩
end Go.Proofs.Ytmoknllbpjpkmaa.Zed
/- A range over a function: what a round does, what the statement leaves; the mark among the deferred calls. -/
namespace Go.Proofs.Ytmoknllbpjpkmaa.Zed
open Go
set_option linter.unusedVariables false
set_option linter.unusedSimpArgs false
/-- No fence; in a round of a loop or in none. -/
abbrev Fro (ro : Option Nat) : Fence := { Fence.wide with round := ro }
/-- More deferred calls below those that there are. -/
def lift (ds : List Deferred) (a : Act) : Act := { a with defers := a.defers ++ ds }
theorem lift_put (ds : List Deferred) (a : Act) (d : Option Nat) (v : Value) : lift ds (a.put d v) = (lift ds a).put d v := by cases d <;> rfl
theorem lift_eval (ds : List Deferred) (a : Act) : (lift ds a).eval = a.eval := funext fun x => by cases x <;> rfl
def noDefer (o : Oper) : Bool := match o.op with
  | .defer _ => false
  | _ => true
theorem noDefer_ne {o : Oper} (h : noDefer o = true) : ∀ c, o.op ≠ .defer c := fun c e => by
  unfold noDefer at h; rw [e] at h; cases h
section
variable {P : Program} {ro : Option Nat} {ds : List Deferred} {Qc Q' : Exit → Act → World → Prop}
theorem upon_in {o : Oper} {a : Act} {w : World} {K K' : Act → World → Prop} (h : o.wp P a w K Qc) (hq : ¬ LetsOut Qc) (hd : noDefer o = true) (hK : ∀ a w, K a w → K' (lift ds a) w) (hQ : ∀ e a w, Qc e a w → Q' e (lift ds a) w) :
    o.wpIn (Fro ro) 0 P (lift ds a) w K' Q' := by
  refine ⟨fun _ _ => trivial, ?_⟩
  rw [Oper.semAt_eq _ _ _ (noDefer_ne hd), lift_eval]
  unfold Oper.wp at h
  generalize (execOp a.eval o).run P w = r at *
  cases r with
  | ok x w' =>
    cases x with
    | value v => have := hK _ _ h; rw [lift_put] at this; exact this
    | skip => have := hK _ _ h; rw [lift_put] at this; exact this
    | defer d => have := hK _ _ h; rw [lift_put] at this; exact this
    | enter f args =>
      have h : Calls P f args w' _ := h
      refine ⟨fun h => (by cases h), ?_⟩
      refine (show CallsIn Fence.wide (0 - 1) P f args w' _ from callsIn_wide.2 (h.mono ?_))
      rintro e w'' he
      cases e with
      | returned v => have := hK _ _ he; rw [lift_put] at this; exact this
      | panicked chain => exact hQ _ _ _ he
      | outgrown => exact absurd he hq
    | row row args =>
      have h : Rows P row args w' _ := h
      refine ⟨fun h => (by cases h), fun c cs _ => ?_⟩
      obtain ⟨v, w'', r, s⟩ := h c cs
      refine ⟨v, w'', ?_, (show StepsIn (Machine.fenced P Fence.wide) P _ _ from stepsIn_wide.2 s)⟩
      have := hK _ _ r; rw [lift_put] at this; exact this
    | round l f tmps assign body => exact h.elim
    | _ => exact h.elim
  | halt x w' =>
    cases x with
    | panic v => exact hQ _ _ _ h
    | _ => exact h.elim
theorem list_in {ops : Array Oper} (hq : ¬ LetsOut Qc) (hQ : ∀ e a w, Qc e a w → Q' e (lift ds a) w) : ∀ (l : List Oper) (a : Act) (w : World), l.all noDefer = true → wpList P ops Qc l a w → wpListIn (Fro ro) 0 P ops Q' l (lift ds a) w
  | [], a, w, _, h => hQ _ _ _ h
  | o :: l, a, w, hd, h => by
    rw [List.all_cons, Bool.and_eq_true] at hd
    unfold wpList at h
    unfold wpListIn
    split at h
    · rename_i hw
      rw [if_pos (show Region.wanted o (yielded ops (lift ds a).tmps) = true from hw)]
      refine upon_in (h.resolve_right fun h => hq h.2) hq hd.1 (fun a w h => list_in hq hQ l a w hd.2 h) hQ
    · rename_i hw
      rw [if_neg (show ¬ Region.wanted o (yielded ops (lift ds a).tmps) = true from hw), ← lift_put]
      exact ⟨fun _ _ => trivial, list_in hq hQ l _ _ hd.2 h⟩
theorem op_in {ops : Array Oper} {i : Nat} {a : Act} {w : World} {K K' : Act → World → Prop} (hd : ∀ o, ops[i]? = some o → noDefer o = true) (h : wpOp P ops Qc i K a w) (hq : ¬ LetsOut Qc) (hK : ∀ a w, K a w → K' (lift ds a) w) (hQ : ∀ e a w, Qc e a w → Q' e (lift ds a) w) :
    wpOpIn (Fro ro) 0 P ops Q' i K' (lift ds a) w := by
  unfold wpOp at h
  unfold wpOpIn
  cases ho : ops[i]? with
  | none => rw [ho] at h; exact hK _ _ h
  | some o =>
    rw [ho] at h
    dsimp only at h ⊢
    split at h
    · rename_i hw
      rw [if_pos (show Region.wanted o (yielded ops (lift ds a).tmps) = true from hw)]
      exact upon_in (h.resolve_right fun h => hq h.2) hq (hd o ho) hK hQ
    · rename_i hw
      rw [if_neg (show ¬ Region.wanted o (yielded ops (lift ds a).tmps) = true from hw), ← lift_put]
      exact ⟨fun _ _ => trivial, hK _ _ h⟩
theorem any_in {ops : Array Oper} {md : Region.Mode} (hq : ¬ LetsOut Qc) (hQ : ∀ e a w, Qc e a w → Q' e (lift ds a) w) (hd : ∀ (i : Nat) (o : Oper), ops[i]? = some o → noDefer o = true) : ∀ (fuel : Nat) (listed : Array Bool) (a : Act) (w : World), wpAny P md ops Qc fuel listed a w → wpAnyIn (Fro ro) 0 P md ops Q' fuel listed (lift ds a) w
  | 0, listed, a, w, h => ⟨h.1, hQ _ _ _ h.2⟩
  | fuel + 1, listed, a, w, h => ⟨fun e => hQ _ _ _ (h.1 e), fun i hi => op_in (hd i) (h.2 i hi) hq (fun a w h => any_in hq hQ hd fuel _ a w h) hQ⟩
end
/-- A piece of code, within a round or with a mark among the deferred calls. -/
def AWr (P : Program) (m : Nat) (ro : Option Nat) (ds : List Deferred) (c : Code) (Q : Exit → Fr → Heap → Prop) (A : Fr) (H : Heap) : Prop :=
  ∀ (φ : Ren) (a : Act) (w : World), St m φ A H a w → c.wpIn (Fro ro) 0 P (fun e a' w' => ∃ φ' A' H' a0, a' = lift ds a0 ∧ Q e A' H' ∧ St m φ' A' H' a0 w' ∧ Ok φ H w φ' H' w') (lift ds a) w
section
variable {P : Program} {m : Nat} {ro : Option Nat} {ds : List Deferred} {Q : Exit → Fr → Heap → Prop} {A : Fr} {H : Heap}
theorem AWr.mono {c : Code} {Q' : Exit → Fr → Heap → Prop} (h : AWr P m ro ds c Q A H) (hq : ∀ e A H, Q e A H → Q' e A H) : AWr P m ro ds c Q' A H :=
  fun φ a w hs => wpIn_mono (h φ a w hs) fun e a' w' ⟨φ', A', H', a0, e0, q, r⟩ => ⟨φ', A', H', a0, e0, hq _ _ _ q, r⟩
theorem AWr.skip (h : Q .normal A H) : AWr P m ro ds .skip Q A H := fun φ a w hs => wpIn_skip ⟨φ, A, H, a, rfl, h, hs, Ok.refl⟩
theorem AWr.ret (h : Q .ret A H) : AWr P m ro ds .ret Q A H := fun φ a w hs => wpIn_ret ⟨φ, A, H, a, rfl, h, hs, Ok.refl⟩
theorem AWr.exit {id : Nat} (h : Q (.exit id) A H) : AWr P m ro ds (.exit id) Q A H := fun φ a w hs => wpIn_exit ⟨φ, A, H, a, rfl, h, hs, Ok.refl⟩
theorem AWr.seq' {x y : Code} (h : AWr P m ro ds x (athen (AWr P m ro ds y Q) Q) A H) : AWr P m ro ds (.seq x y) Q A H := by
  intro φ a w hs
  refine wpIn_seq (wpIn_mono (h φ a w hs) ?_)
  rintro e a1 w1 ⟨φ1, A1, H1, a0, rfl, q, s1, ok1⟩
  cases e with
  | normal => exact wpIn_mono (q φ1 a0 w1 s1) fun e a2 w2 ⟨φ2, A2, H2, a2', e2, q2, s2, ok2⟩ => ⟨φ2, A2, H2, a2', e2, q2, s2, ok1.trans ok2⟩
  | _ => exact ⟨φ1, A1, H1, a0, rfl, q, s1, ok1⟩
theorem AWr.block {id : Nat} {c : Code} (h : AWr P m ro ds c (ablock id Q) A H) : AWr P m ro ds (.block id c) Q A H := by
  intro φ a w hs
  refine wpIn_block (wpIn_mono (h φ a w hs) ?_)
  rintro e a1 w1 ⟨φ1, A1, H1, a0, rfl, q, s1, ok1⟩
  cases e with
  | exit id' =>
    simp only [ablock] at q
    simp only [Exit.inBlock]
    split
    · rename_i e; rw [if_pos e] at q; exact ⟨φ1, A1, H1, a0, rfl, q, s1, ok1⟩
    · rename_i e; rw [if_neg e] at q; exact ⟨φ1, A1, H1, a0, rfl, q, s1, ok1⟩
  | _ => exact ⟨φ1, A1, H1, a0, rfl, q, s1, ok1⟩
theorem AWr.cond {c : Operand} {x y : Code} (hc : opndOk c = true) (h : ∀ X Y : Prop, Cont (AWr P m ro ds x Q A H → X) → Cont (AWr P m ro ds y Q A H → Y) → acond (ev A c) X Y) : AWr P m ro ds (.cond c x y) Q A H := by
  intro φ a w hs
  have h0 := h _ _ id id
  have hr := hs.ev hc
  unfold acond at h0
  split at h0
  · rename_i b e
    rw [e] at hr
    have e2 : (lift ds a).eval c = .bool b := by rw [lift_eval]; exact R.flat_eq (v := .bool b) rfl hr
    exact wpIn_cond_split e2 (fun hb => h0.1 hb φ a w hs) (fun hb => h0.2 hb φ a w hs)
  · exact h0.elim
theorem AWr.condT {c : Operand} {x y : Code} (hc : opndOk c = true) (he : ev A c = .bool true) (h : AWr P m ro ds x Q A H) : AWr P m ro ds (.cond c x y) Q A H :=
  AWr.cond hc fun X Y hX hY => by rw [he]; exact ⟨fun _ => hX.out h, fun e => (by cases e)⟩
theorem AWr.condF {c : Operand} {x y : Code} (hc : opndOk c = true) (he : ev A c = .bool false) (h : AWr P m ro ds y Q A H) : AWr P m ro ds (.cond c x y) Q A H :=
  AWr.cond hc fun X Y hX hY => by rw [he]; exact ⟨fun e => (by cases e), fun _ => hY.out h⟩
theorem AWr.region {id : Nat} {l : List Oper} (hd : l.all noDefer = true) (h : AOps P m l.toArray l (Q .normal) A H) : AWr P m ro ds (.region id l.toArray false) Q A H := by
  intro φ a w hs
  refine wpIn_region_lit (list_in (Qc := fun e a' w' => e = .normal ∧ ∃ φ' A' H', Q .normal A' H' ∧ St m φ' A' H' a' w' ∧ Ok φ H w φ' H' w') (by rintro ⟨_, _, h, _⟩; cases h) ?_ l a w hd (h φ a w _ hs ?_))
  · rintro e a' w' ⟨rfl, φ', A', H', q, s, ok⟩
    exact ⟨φ', A', H', a', rfl, q, s, ok⟩
  · intro φ' A' H' a' w' q s ok
    exact ⟨rfl, φ', A', H', q, s, ok⟩
theorem AWr.of {c : Code} (h : AWp P m c Q A H) : AWr P m none [] c Q A H := by
  intro φ a w hs
  have e : lift [] a = a := by unfold lift; rw [List.append_nil]
  rw [e]
  exact (show c.wpIn Fence.wide 0 P _ a w from wpIn_wide.2 (wp_mono (h φ a w hs) fun e a' w' ⟨φ', A', H', q, s, ok⟩ => ⟨φ', A', H', a', by unfold lift; rw [List.append_nil], q, s, ok⟩))
end
/-! ### The record's turns -/
theorem cells_of_cell2 {W : World} {β i : Nat} {u : Value} (h : W.cell? ⟨β, i, none⟩ = some u) : ∃ o : Obj, W.heap[β]? = some o ∧ (match o with | .cells .. => True | _ => False) := by
  unfold World.cell? at h
  cases ho : W.heap[β]? with
  | none => simp [ho] at h
  | some o => exact ⟨o, rfl, by cases o <;> simp_all⟩
/-- What the heap tells of stays as it is. -/
def tells : Obj → Prop
  | .cells .. => True
  | .map .. => True
  | _ => False
theorem Holds.same {φ : Ren} {H : Heap} {W W' : World} (h : Holds φ H W) (hs : W.heap.size ≤ W'.heap.size) (hk : ∀ (β : Nat) (o : Obj), W.heap[β]? = some o → tells o → W'.heap[β]? = some o) : Holds φ H W' := by
  have hc : ∀ β i u, W.cell? ⟨β, i, none⟩ = some u → W'.cell? ⟨β, i, none⟩ = some u := fun β i u hu => by
    obtain ⟨o, ho, ht⟩ := cells_of_cell2 hu
    have h2 := hk β o ho (by cases o <;> first | trivial | exact ht.elim)
    exact (World.cell?_of_block (a := ⟨β, i, none⟩) (h2.trans ho.symm)).trans hu
  refine ⟨h.wf, fun b cs es r hb i v hv => ?_, fun b cs es hb => ?_, h.es, fun b es hb => ?_, fun b hb => Nat.lt_of_lt_of_le (h.lt b hb) hs, h.apart, ⟨fun β i u hf => hc β i u (h.rest.froz β i u hf), h.rest.unf, fun b n es hb => ?_, h.rest.tap, h.rest.tap2, h.rest.tl0⟩⟩
  · obtain ⟨u, h1, h2⟩ := h.cell b cs es r hb i v hv
    exact ⟨u, hc _ _ _ h1, h2⟩
  · obtain ⟨arr, e, h1, h2⟩ := h.row b cs es hb
    exact ⟨arr, e, hk _ _ h1 trivial, h2⟩
  · obtain ⟨en, ck, h1, h2⟩ := h.map b es hb
    exact ⟨en, ck, hk _ _ h1 trivial, h2⟩
  · obtain ⟨h1, h2, h3⟩ := h.rest.tok b n es hb
    refine ⟨h1, h2, ?_⟩
    rcases h3 with h3 | ⟨h3, ⟨arr, e, h4, h5⟩, h6⟩
    · exact .inl h3
    · exact .inr ⟨h3, ⟨arr, e, hk _ _ h4 trivial, h5⟩, h6⟩
theorem Holds.putObj {φ : Ren} {H : Heap} {W : World} (h : Holds φ H W) {l : Nat} {o : Obj} (o' : Obj) (hl : W.heap[l]? = some o) (ho : ¬ tells o) : Holds φ H (W.putObj l o') :=
  h.same (by simp) fun β x hx ht => (World.putObj_heap_other (fun e => ho (by rw [e, hl] at hx; cases hx; exact ht))).trans hx
theorem Holds.allocO {φ : Ren} {H : Heap} {W : World} (h : Holds φ H W) (o : Obj) : Holds φ H (W.alloc o) :=
  h.same (by simp) fun β x hx _ => (RowKit.Below.heap_alloc W o β (Array.getElem?_eq_some_iff.1 hx).1).trans hx
theorem Owns.lt {φ : Ren} {H : Heap} {W : World} (h : Holds φ H W) {β : Nat} (ho : Owns φ H β) : β < W.heap.size ∧ ∃ o, W.heap[β]? = some o ∧ tells o := by
  rcases ho with ⟨b, hb, rfl⟩ | ⟨b, n, es, hb, he, rfl⟩
  · refine ⟨h.lt b (Blk.live_of_wr hb), ?_⟩
    cases hx : H.get b with
    | cells cs es r =>
      rw [hx] at hb
      cases r with
      | true => cases hb
      | false => obtain ⟨arr, e, h1, _⟩ := h.row b cs es hx; exact ⟨_, h1, trivial⟩
    | map es => obtain ⟨en, ck, h1, _⟩ := h.map b es hx; exact ⟨_, h1, trivial⟩
    | _ => rw [hx] at hb; cases hb
  · obtain ⟨_, _, h3⟩ := h.rest.tok b n es hb
    rcases h3 with ⟨_, h3⟩ | ⟨_, ⟨arr, e, h4, _⟩, _⟩
    · exact absurd h3 he
    · exact ⟨(Array.getElem?_eq_some_iff.1 h4).1, _, h4, trivial⟩
theorem Ok.putR {φ φ' : Ren} {H H' : Heap} {w W : World} (h : Ok φ H w φ' H' W) {l : Nat} (o : Obj) (hl : w.heap.size ≤ l) : Ok φ H w φ' H' (W.putObj l o) :=
  ⟨h.size, h.img, h.has, h.os, h.tape, h.output, by simpa using h.wsize, fun β hβ hn => (World.putObj_heap_other (by omega)).trans (h.frame β hβ hn), h.wr, h.fz, h.tl⟩
theorem Ok.allocR {φ φ' : Ren} {H H' : Heap} {w W : World} (h : Ok φ H w φ' H' W) (o : Obj) : Ok φ H w φ' H' (W.alloc o) :=
  ⟨h.size, h.img, h.has, h.os, h.tape, h.output, by have := h.wsize; simp; omega, fun β hβ hn => (RowKit.Below.heap_alloc W o β (Nat.lt_of_lt_of_le hβ h.wsize)).trans (h.frame β hβ hn), h.wr, h.fz, h.tl⟩
/-! ### The statement -/
/-- An iterator: it calls yield with the elements, one after the other; it reads frozen cells alone. -/
def IterZ (P : Program) (g : FuncId) (caps els : List Value) : Prop :=
  enters P g ∧ ∀ (l : Nat) (φ0 : Ren) (has : Nat → Prop) (caps' : List Value) (J : Nat → World → Prop) (Jx : World → Prop) (W : World),
    RL φ0 has caps caps' → (∀ j W, J j W → ∀ β i u, φ0.fz β i = some u → W.cell? ⟨β, i, none⟩ = some u) → (∀ j W n, J j W → J j { W with drawn := n }) →
    (∀ j x W x', els[j]? = some x → J j W → R φ0 has x x' → YieldAt Fence.wide 0 P l #[x'] W fun e W' => (e = .returned (.bool true) ∧ J (j + 1) W') ∨ (e = .returned (.bool false) ∧ Jx W')) →
    J 0 W → Calls P g (#[.func (.yield l) #[] #[]] ++ caps'.toArray) W fun e W' => ∃ v, e = .returned v ∧ (J els.length W' ∨ Jx W')
def dsOf : Option Nat → List Deferred
  | none => []
  | some d => [{ target := .collected d, args := #[] }]
def Dok (D : Option Nat) (w : World) : Prop := ∀ d, D = some d → w.heap[d]? = some (.deferred (some []))
theorem Dok.step {φ φ' : Ren} {H H' : Heap} {w w' : World} {D : Option Nat} (h : Dok D w) (hh : Holds φ H w) (ok : Ok φ H w φ' H' w') : Dok D w' := fun d hd => by
  have h1 := h d hd
  refine (ok.frame d (Array.getElem?_eq_some_iff.1 h1).1 fun ho => ?_).trans h1
  obtain ⟨_, o, h2, h3⟩ := Owns.lt hh ho
  rw [h1] at h2; cases h2; exact h3
/-- A piece of code of a function that may leave a mark among its deferred calls. -/
def AWq (P : Program) (m : Nat) (D : Option Nat) (c : Code) (Q : Exit → Option Nat → Fr → Heap → Prop) (A : Fr) (H : Heap) : Prop :=
  ∀ (φ : Ren) (a : Act) (w : World), St m φ A H a w → Dok D w → c.wpIn Fence.wide 0 P (fun e a' w' => ∃ φ' A' H' D' a0, a' = lift (dsOf D') a0 ∧ Q e D' A' H' ∧ St m φ' A' H' a0 w' ∧ Dok D' w' ∧ (∀ d, D' = some d → D = some d ∨ w.heap.size ≤ d) ∧ Ok φ H w φ' H' w') (lift (dsOf D) a) w
def qthen (K : Option Nat → Fr → Heap → Prop) (Q : Exit → Option Nat → Fr → Heap → Prop) : Exit → Option Nat → Fr → Heap → Prop
  | .normal, D, A, H => K D A H
  | e, D, A, H => Q e D A H
def qblock (id : Nat) (Q : Exit → Option Nat → Fr → Heap → Prop) : Exit → Option Nat → Fr → Heap → Prop
  | .exit id', D, A, H => if id' = id then Q .normal D A H else Q (.exit id') D A H
  | e, D, A, H => Q e D A H
section
variable {P : Program} {m : Nat} {D : Option Nat} {Q : Exit → Option Nat → Fr → Heap → Prop} {A : Fr} {H : Heap}
theorem AWq.seq' {x y : Code} (h : AWq P m D x (qthen (fun D A H => AWq P m D y Q A H) Q) A H) : AWq P m D (.seq x y) Q A H := by
  intro φ a w hs hD
  refine wpIn_seq (wpIn_mono (h φ a w hs hD) ?_)
  rintro e a1 w1 ⟨φ1, A1, H1, D1, a0, rfl, q, s1, d1, b1, ok1⟩
  cases e with
  | normal =>
    refine wpIn_mono (q φ1 a0 w1 s1 d1) fun e a2 w2 ⟨φ2, A2, H2, D2, a2', e2, q2, s2, d2, b2, ok2⟩ => ⟨φ2, A2, H2, D2, a2', e2, q2, s2, d2, fun d hd => ?_, ok1.trans ok2⟩
    rcases b2 d hd with h | h
    · exact b1 d h
    · exact .inr (Nat.le_trans ok1.wsize h)
  | _ => exact ⟨φ1, A1, H1, D1, a0, rfl, q, s1, d1, b1, ok1⟩
theorem AWq.block {id : Nat} {c : Code} (h : AWq P m D c (qblock id Q) A H) : AWq P m D (.block id c) Q A H := by
  intro φ a w hs hD
  refine wpIn_block (wpIn_mono (h φ a w hs hD) ?_)
  rintro e a1 w1 ⟨φ1, A1, H1, D1, a0, rfl, q, s1, d1, b1, ok1⟩
  cases e with
  | exit id' =>
    simp only [qblock] at q
    simp only [Exit.inBlock]
    split
    · rename_i e; rw [if_pos e] at q; exact ⟨φ1, A1, H1, D1, a0, rfl, q, s1, d1, b1, ok1⟩
    · rename_i e; rw [if_neg e] at q; exact ⟨φ1, A1, H1, D1, a0, rfl, q, s1, d1, b1, ok1⟩
  | _ => exact ⟨φ1, A1, H1, D1, a0, rfl, q, s1, d1, b1, ok1⟩
theorem AWq.of {c : Code} (h : AWr P m none (dsOf D) c (fun e A' H' => Q e D A' H') A H) : AWq P m D c Q A H := by
  intro φ a w hs hD
  refine wpIn_mono (show c.wpIn Fence.wide 0 P _ _ w from h φ a w hs) ?_
  rintro e a1 w1 ⟨φ1, A1, H1, a0, rfl, q, s1, ok1⟩
  exact ⟨φ1, A1, H1, D, a0, rfl, q, s1, hD.step hs.holds ok1, fun d hd => .inl hd, ok1⟩
theorem AWq.of' {c : Code} (h : AWp P m c (fun e A' H' => Q e none A' H') A H) : AWq P m none c Q A H := AWq.of (AWr.of h)
def recL (fn : FuncId) (tmps : Array Value) (p : Nat) (assign body : Code) (D : Nat) (st : LoopState) (pe : Option Code) : Loop := { state := st, pending := pe, fn, tmps, params := #[p], assign, body, defers := D }
theorem R.func_inv {φ : Ren} {has : Nat → Prop} {g : FuncId} {caps : List Value} {u : Value} (h : R φ has (.func (.func g) #[] caps.toArray) u) : ∃ lb : List Value, u = .func (.func g) #[] lb.toArray ∧ RL φ has caps lb := by
  generalize hv : Value.func (.func g) #[] caps.toArray = v at h
  cases h with
  | func fn xs ys xs' ys' h1 h2 hx hy =>
    injection hv with e1 e2 e3
    subst e1 e2 e3
    have : xs' = #[] := by
      apply Array.eq_empty_of_size_eq_zero
      simpa using h1.symm
    subst this
    exact ⟨ys'.toList, by simp, by simpa using h2, fun i a b ha hb => hy i a b (by simpa using ha) (by simpa using hb)⟩
  | gz tag es n cs u h hn hc => simp [GZ] at hv
  | kz es n cs u h hc => simp [KZ] at hv
  | junk u h => simp [JZ] at hv
  | fz0 => simp [FZ] at hv
  | fz => simp [FZ] at hv
  | pz => simp [PZ] at hv
  | _ => cases hv
theorem AWq.range {f : Operand} {p : Nat} {assign body : Code} {g : FuncId} {caps els : List Value} (I : Nat → Heap → Prop) (Ix : Heap → Prop)
    (hp : decide (p < m) = true) (hf : opndOk f = true) (hev : ev A f = .func (.func g) #[] caps.toArray) (hit : IterZ P g caps els) (h0 : I 0 H)
    (round : ∀ l j x H', els[j]? = some x → I j H' → AWr P m (some l) [] assign (fun e A1 H1 => e = .normal ∧ AWr P m (some l) [] body (fun e A2 H2 => (e = .normal ∧ I (j + 1) H2) ∨ (e = .ret ∧ Ix H2)) A1 H1) (put A (some p) x) H')
    (done : ∀ D H', I els.length H' → Q .normal (some D) A H') (stop : ∀ D H', Ix H' → Q .ret (some D) A H') :
    AWq P m none (.rangeFunc f #[p] assign body) Q A H := by
  intro φ a w hs hD
  have ea : lift (dsOf none) a = a := by unfold lift dsOf; rw [List.append_nil]
  rw [ea]
  refine wpIn_rangeFunc ?_
  intro fn _
  have hr := hs.ev hf
  rw [hev] at hr
  obtain ⟨lb, hlb, hcaps⟩ := hr.func_inv
  obtain ⟨W1, hW1⟩ : ∃ W1, (w.alloc (.deferred (some []))).alloc (.loop (recL fn a.tmps p assign body w.heap.size .ready none)) = W1 := ⟨_, rfl⟩
  have hl1 : W1.heap[w.heap.size + 1]? = some (.loop (recL fn a.tmps p assign body w.heap.size .ready none)) := by
    rw [← hW1]; have := World.alloc_heap_new (w.alloc (.deferred (some []))) (.loop (recL fn a.tmps p assign body w.heap.size .ready none)); rwa [World.size_alloc] at this
  have hd1 : W1.heap[w.heap.size]? = some (.deferred (some [])) := by
    rw [← hW1]; exact (RowKit.Below.heap_alloc _ _ _ (by simp)).trans (World.alloc_heap_new w _)
  have hh1 : Holds φ H W1 := by rw [← hW1]; exact (hs.holds.allocO _).allocO _
  have ok1 : Ok φ H w φ H W1 := by rw [← hW1]; exact (Ok.refl.allocR _).allocR _
  have em : ({ a with defers := [{ target := .collected w.heap.size, args := #[] }] ++ a.defers } : Act) = lift (dsOf (some w.heap.size)) a := by
    unfold lift dsOf; rw [hs.defers]; rfl
  refine ⟨w.heap.size + 1, [{ target := .collected w.heap.size, args := #[] }], W1, { target := .fn (.func g) lb.toArray, args := #[.func (.yield (w.heap.size + 1)) #[] #[]] }, W1, g, #[.func (.yield (w.heap.size + 1)) #[] #[]] ++ lb.toArray, W1, ?_, ?_, fun _ _ => trivial, ?_, fun h => (by cases h), ?_⟩
  · rw [← hW1]; exact run_enterLoop_outer _ _ _ _ _
  · simp only [resolve, hlb]
    simp [go_sem]
  · have eg := hit.1
    unfold enters at eg
    simp [invoke, go_sem, eg]
  · rw [em]
    refine callsIn_wide.2 ((hit.2 (w.heap.size + 1) φ H.has lb
      (fun j W => ∃ φ' H', I j H' ∧ Holds φ' H' W ∧ Ok φ H w φ' H' W ∧ W.heap[w.heap.size + 1]? = some (.loop (recL fn a.tmps p assign body w.heap.size .ready none)) ∧ W.heap[w.heap.size]? = some (.deferred (some [])))
      (fun W => ∃ φ' H', Ix H' ∧ Holds φ' H' W ∧ Ok φ H w φ' H' W ∧ W.heap[w.heap.size + 1]? = some (.loop (recL fn a.tmps p assign body w.heap.size .done (some .ret))) ∧ W.heap[w.heap.size]? = some (.deferred (some [])))
      W1 hcaps ?_ ?_ ?_ ⟨φ, H, h0, hh1, ok1, hl1, hd1⟩).mono ?_)
    · rintro j W ⟨φ', H', _, hh, ok, _, _⟩ β i u hu
      exact hh.rest.froz β i u (ok.fz β i u hu)
    · rintro j W n ⟨φ', H', hi, hh, ok, hl, hd⟩
      exact ⟨φ', H', hi, hh.drew n, ok.drew' n, hl, hd⟩
    · rintro j x W x' hx ⟨φ', H', hi, hh, ok, hl, hd⟩ hrx
      have noL : ∀ {φ : Ren} {H : Heap} {W : World} {st : LoopState} {pe : Option Code}, Holds φ H W → W.heap[w.heap.size + 1]? = some (.loop (recL fn a.tmps p assign body w.heap.size st pe)) → ¬ Owns φ H (w.heap.size + 1) := fun hh hl ho => by
        obtain ⟨_, o, h2, h3⟩ := Owns.lt hh ho
        rw [hl] at h2; cases h2; exact h3
      have noD : ∀ {φ : Ren} {H : Heap} {W : World}, Holds φ H W → W.heap[w.heap.size]? = some (.deferred (some [])) → ¬ Owns φ H w.heap.size := fun hh hl ho => by
        obtain ⟨_, o, h2, h3⟩ := Owns.lt hh ho
        rw [hl] at h2; cases h2; exact h3
      have hy := run_yield (P := P) (args := #[x']) hl rfl
      refine ⟨fn, _, assign, body, hy, roundIn_of_wpIn trivial ?_⟩
      have hst : St m φ' (put A (some p) x) H' { tmps := ((recL fn a.tmps p assign body w.heap.size .ready none).params.zip #[x']).foldl (fun t (q, v) => t.setIfInBounds q v) (recL fn a.tmps p assign body w.heap.size .ready none).tmps, defers := [] } W := by
        have h1 := (hs.step ok hh).put (dst := some p) (by simpa [dstOk] using hp) (hrx.mono ok.mono)
        have h2 : ({ tmps := ((recL fn a.tmps p assign body w.heap.size .ready none).params.zip #[x']).foldl (fun t (q, v) => t.setIfInBounds q v) (recL fn a.tmps p assign body w.heap.size .ready none).tmps, defers := [] } : Act) = a.put (some p) x' := by
          unfold Act.put recL
          simp [hs.defers]
        rw [h2]; exact h1
      refine wpIn_mono (show assign.wpIn (Fence.wide.inRound (w.heap.size + 1)) 0 P _ _ W from round (w.heap.size + 1) j x H' hx hi φ' _ W hst) ?_
      rintro e a1 w1 ⟨φ1, A1, H1, a0, rfl, ⟨rfl, hb⟩, s1, ok2⟩
      have hl2 : w1.heap[w.heap.size + 1]? = some (.loop (recL fn a.tmps p assign body w.heap.size .ready none)) := (ok2.frame _ (Array.getElem?_eq_some_iff.1 hl).1 (noL hh hl)).trans hl
      have hd2 : w1.heap[w.heap.size]? = some (.deferred (some [])) := (ok2.frame _ (Array.getElem?_eq_some_iff.1 hd).1 (noD hh hd)).trans hd
      refine ⟨_, run_beginRound hl2 rfl, ?_⟩
      have hl3 : (w1.putObj (w.heap.size + 1) (.loop (recL fn a.tmps p assign body w.heap.size .busy none))).heap[w.heap.size + 1]? = some (.loop (recL fn a.tmps p assign body w.heap.size .busy none)) := World.putObj_heap_same (Array.getElem?_eq_some_iff.1 hl2).1
      have hd3 : (w1.putObj (w.heap.size + 1) (.loop (recL fn a.tmps p assign body w.heap.size .busy none))).heap[w.heap.size]? = some (.deferred (some [])) := (World.putObj_heap_other (by omega)).trans hd2
      have hh3 : Holds φ1 H1 (w1.putObj (w.heap.size + 1) (.loop (recL fn a.tmps p assign body w.heap.size .busy none))) := s1.holds.putObj _ hl2 (fun h => h)
      have ok3 : Ok φ H w φ1 H1 (w1.putObj (w.heap.size + 1) (.loop (recL fn a.tmps p assign body w.heap.size .busy none))) := (ok.trans ok2).putR _ (by omega)
      have s3 : St m φ1 A1 H1 a0 (w1.putObj (w.heap.size + 1) (.loop (recL fn a.tmps p assign body w.heap.size .busy none))) := ⟨s1.defers, s1.size, s1.tmp, s1.out, hh3⟩
      refine wpIn_mono (show body.wpIn (Fence.wide.inRound (w.heap.size + 1)) 0 P _ _ _ from hb φ1 a0 _ s3) ?_
      rintro e a2 w2 ⟨φ2, A2, H2, a3, rfl, hq, s4, ok4⟩
      have hl4 := (ok4.frame _ (Array.getElem?_eq_some_iff.1 hl3).1 (noL hh3 hl3)).trans hl3
      have hd4 := (ok4.frame _ (Array.getElem?_eq_some_iff.1 hd3).1 (noD hh3 hd3)).trans hd3
      have ok5 := ok3.trans ok4
      rcases hq with ⟨rfl, hi2⟩ | ⟨rfl, hx2⟩
      · exact ⟨_, _, run_endRound none hl4, .inl ⟨rfl, φ2, H2, hi2, s4.holds.putObj _ hl4 (fun h => h), ok5.putR _ (by omega), World.putObj_heap_same (Array.getElem?_eq_some_iff.1 hl4).1, (World.putObj_heap_other (by omega)).trans hd4⟩⟩
      · exact ⟨_, _, run_endRound (some .ret) hl4, .inr ⟨rfl, φ2, H2, hx2, s4.holds.putObj _ hl4 (fun h => h), ok5.putR _ (by omega), World.putObj_heap_same (Array.getElem?_eq_some_iff.1 hl4).1, (World.putObj_heap_other (by omega)).trans hd4⟩⟩
    · rintro e W' ⟨v, rfl, ⟨φ', H', hi, hh, ok, hl, hd⟩ | ⟨φ', H', hi, hh, ok, hl, hd⟩⟩
      · have hh' := hh.putObj (.loop { recL fn a.tmps p assign body w.heap.size .ready none with state := .exhausted }) hl (fun h => h)
        have s5 := (hs.step (ok.putR (.loop { recL fn a.tmps p assign body w.heap.size .ready none with state := .exhausted }) (by omega : w.heap.size ≤ w.heap.size + 1)) hh')
        exact ⟨none, _, run_endLoop hl (by simp [recL]), φ', A, H', some w.heap.size, a, rfl, done _ _ hi, s5, fun d hd' => (by cases hd'; exact (World.putObj_heap_other (by omega)).trans hd), fun d hd' => .inr (by cases hd'; exact Nat.le_refl _), ok.putR _ (by omega)⟩
      · have hh' := hh.putObj (.loop { recL fn a.tmps p assign body w.heap.size .done (some .ret) with state := .exhausted }) hl (fun h => h)
        have s5 := (hs.step (ok.putR (.loop { recL fn a.tmps p assign body w.heap.size .done (some .ret) with state := .exhausted }) (by omega : w.heap.size ≤ w.heap.size + 1)) hh')
        refine ⟨some .ret, _, run_endLoop hl (by simp [recL]), wpIn_ret ?_⟩
        exact ⟨φ', A, H', some w.heap.size, a, rfl, stop _ _ hi, s5, fun d hd' => (by cases hd'; exact (World.putObj_heap_other (by omega)).trans hd), fun d hd' => .inr (by cases hd'; exact Nat.le_refl _), ok.putR _ (by omega)⟩
theorem ACalls.bodyQ {f : FuncId} {fn : Func} {c : Code} {m : Nat} {rs : List ResultVar} {args : List Value} {H : Heap} {Q : Value → Heap → Prop} (hf : P.funcs[f]? = some fn) (hb : fn.body = some c) (hm : fn.ntmps = m) (hrs : fn.results.toList = rs) (hle : args.length ≤ m) (hn : (fn.name == "runtime.NumGoroutine") = false)
    (h' : ∀ Q' : Value → Heap → Prop, Cont (∀ v H', Q v H' → Q' v H') → ∀ A : Fr, (∀ (t : Nat) (v : Value) (r : List Value), args.drop t = v :: r → A t = v) → AWq P m none c (fun e _ A' H' => aret P rs Q' e A' H') A H) : ACalls P f args H Q := by
  have h := h' Q (fun _ _ h => h)
  refine ⟨fun args w => ?_, fun φ args' w hh ha => ?_⟩
  · have hn' : ¬ fn.name = "runtime.NumGoroutine" := by simpa using hn
    simp [callFunc, hf, hb, hn']
  refine callsIn_wide.1 (callsIn_of_wp_marks (n := 0) hf hb trivial ?_)
  have hsz : args.length = args'.size := by simpa using ha.1
  have hst : St m φ (fun t => args.getD t undef) H { tmps := args' ++ Array.replicate (fn.ntmps - args'.size) undef, defers := [] } w := by
    refine ⟨rfl, by simp [hm]; omega, fun t v' ht => ?_, fun t ht => ?_, hh⟩
    · by_cases hlt : t < args'.size
      · rw [Array.getElem?_append_left hlt] at ht
        have hlt2 : t < args.length := by omega
        have := ha.2 t args[t] v' (by simp [hlt2]) ht
        simpa [hlt2] using this
      · rw [Array.getElem?_append_right (by omega)] at ht
        have : v' = undef := by
          rw [Array.getElem?_replicate] at ht
          split at ht
          · injection ht with ht; exact ht.symm
          · simp at ht
        subst this
        have hge : args.length ≤ t := by omega
        simp [List.getElem?_eq_none hge]
        exact R.undef
    · have hge : args.length ≤ t := by omega
      simp [List.getElem?_eq_none hge]
  have hA : ∀ (t : Nat) (v : Value) (r : List Value), args.drop t = v :: r → (fun t => args.getD t undef) t = v := fun t v r ht => by
    have h1 : (args.drop t)[0]? = some v := by rw [ht]; rfl
    rw [List.getElem?_drop] at h1
    simp only [Nat.add_zero] at h1
    simp [h1]
  have h0 := h _ hA φ _ w hst (fun d hd => by cases hd)
  rw [show lift (dsOf none) _ = _ from by unfold lift dsOf; rw [List.append_nil]] at h0
  refine wpIn_mono h0 ?_
  rintro e a' w' ⟨φ', A', H', D, a0, rfl, hq, hs', hD, hb', ok'⟩
  have fin : ∀ w2, St m φ' A' H' a0 w2 → Ok φ H w φ' H' w2 → aresK P fn.results.toList A' H' (fun vs => Q (retv vs) H') → ∃ v, (results fn a0.tmps).run P w2 = .ok v w2 ∧ (∃ φ' v0 v'' H'', Ending.returned v = .returned v'' ∧ Q v0 H'' ∧ R φ' H''.has v0 v'' ∧ Holds φ' H'' w2 ∧ Ok φ H w φ' H'' w2) := fun w2 hs' ok' h0 =>
    aret_post (R' := fun e w' => ∃ φ' v v' H', e = .returned v' ∧ Q v H' ∧ R φ' H'.has v v' ∧ Holds φ' H' w' ∧ Ok φ H w φ' H' w') hs' h0 (fun v v' hQ hr => ⟨φ', v, v', H', rfl, hQ, hr, hs'.holds, ok'⟩)
  have out : aresK P fn.results.toList A' H' (fun vs => Q (retv vs) H') → LeavesInM Fence.wide 0 P fn (lift (dsOf D) a0).tmps (fun e w' => ∃ φ' v v' H', e = .returned v' ∧ Q v H' ∧ R φ' H'.has v v' ∧ Holds φ' H' w' ∧ Ok φ H w φ' H' w') (lift (dsOf D) a0).defers .returning w' := fun h0 => by
    have ed : (lift (dsOf D) a0).defers = dsOf D := by unfold lift; rw [hs'.defers]; rfl
    rw [ed]
    cases D with
    | none => exact fin w' hs' ok' h0
    | some d =>
      have hd := hD d rfl
      have hh2 := hs'.holds.putObj (.deferred none) hd (fun h => h)
      have hdl : w.heap.size ≤ d := (hb' d rfl).resolve_left (fun h => by cases h)
      exact ⟨fun h => (by cases h), .inl ⟨d, _, rfl, run_takeDeferred hd, fin _ ⟨hs'.defers, hs'.size, hs'.tmp, hs'.out, hh2⟩ (ok'.putR _ hdl) h0⟩⟩
  rw [hrs] at out
  cases e with
  | normal => exact out hq
  | ret => exact out hq
  | exit id => exact hq.elim
  | goto l => exact hq.elim
  | panic c => exact hq.elim
  | outgrown => exact hq.elim
theorem ZCalls.bodyQ {f : FuncId} {fn : Func} {c : Code} {m : Nat} {rs : List ResultVar} {args : List Value} {r : Value} (hf : P.funcs[f]? = some fn) (hb : fn.body = some c) (hm : fn.ntmps = m) (hrs : fn.results.toList = rs) (hle : args.length ≤ m) (hn : (fn.name == "runtime.NumGoroutine") = false)
    (h' : ∀ (H : Heap) (Q' : Value → Heap → Prop), Cont (∀ v H', FinV H.size H' v r → Ext H H' → Q' v H') → ∀ A : Fr, (∀ (t : Nat) (v : Value) (r : List Value), args.drop t = v :: r → A t = v) → AWq P m none c (fun e _ A' H' => aret P rs Q' e A' H') A H) : ZCalls P f args r :=
  ZCalls.of fun H => ACalls.bodyQ hf hb hm hrs hle hn fun Q' hQ A hA => h' H Q' (fun v H' q1 q2 => hQ.out v H' ⟨q1, q2⟩) A hA
theorem OCalls.bodyQ {f : FuncId} {fn : Func} {c : Code} {m : Nat} {rs : List ResultVar} {args : List Value} {r : Value} (hf : P.funcs[f]? = some fn) (hb : fn.body = some c) (hm : fn.ntmps = m) (hrs : fn.results.toList = rs) (hle : args.length ≤ m) (hn : (fn.name == "runtime.NumGoroutine") = false)
    (h' : ∀ (H : Heap) (Q' : Value → Heap → Prop), Cont (∀ v H', (∃ ks, OwnL true H.size H' [v] [r] ks) → Ext H H' → Q' v H') → ∀ A : Fr, (∀ (t : Nat) (v : Value) (r : List Value), args.drop t = v :: r → A t = v) → AWq P m none c (fun e _ A' H' => aret P rs Q' e A' H') A H) : OCalls P f args r :=
  fun H => ACalls.bodyQ hf hb hm hrs hle hn fun Q' hQ A hA => h' H Q' (fun v H' q1 q2 => hQ.out v H' ⟨q1, q2⟩) A hA
theorem qthen_n {K : Option Nat → Fr → Heap → Prop} (h : K D A H) : qthen K Q .normal D A H := h
theorem qthen_r {K : Option Nat → Fr → Heap → Prop} (h : Q .ret D A H) : qthen K Q .ret D A H := h
theorem qblock_n {id : Nat} (h : Q .normal D A H) : qblock id Q .normal D A H := h
theorem qblock_r {id : Nat} (h : Q .ret D A H) : qblock id Q .ret D A H := h
end
end Go.Proofs.Ytmoknllbpjpkmaa.Zed
namespace Go.Proofs.Ytmoknllbpjpkmaa.Zed
open Go TP
set_option linter.unusedVariables false
set_option linter.unusedSimpArgs false
set_option maxRecDepth 100000
namespace tfY3
theorem tf : (Try.prog.underlying 25 = some (.slice 2)) ∧ (el Try.prog 25 = some (none, 1)) ∧ (tk Try.prog 2 = some none) ∧ (tk Try.prog 3 = some none) ∧ (tk Try.prog 25 = some none) ∧ (cz Try.prog 2 = some 1) ∧ (bz Try.prog 2 = some 8) ∧ (zr Try.prog 2 = some (.int .i64 0)) := by
  refine ⟨?_, ?_, ?_, ?_, ?_, ?_, ?_, ?_⟩ <;> kernel_rfl
end tfY3
open tfY3

/-- The parts of a list. -/
def partL (n : Nat) (v : List Int) (j : Nat) : List Int := (v.drop (n * j)).take n
open Go.RowKit Go.Shelf in
set_option maxHeartbeats 2000000 in
theorem chunk1_in {n cnt L c : Nat} (hn : 0 < n) (hn2 : n ≤ 1000) (hL : L = n * cnt) (hl : L ≤ 1000000) (hc : L ≤ c) (l : Nat) (β1 b1 β2 b2 β base : Nat) (J : Nat → World → Prop) (Jx : World → Prop)
    (hb1 : ∀ j W, J j W → W.cell? ⟨β1, b1, none⟩ = some (.slice (some ⟨β, base, none⟩) L c)) (hb2 : ∀ j W, J j W → W.cell? ⟨β2, b2, none⟩ = some (.int .i64 n))
    (hd : ∀ j W k, J j W → J j { W with drawn := k })
    (hY : ∀ j W, j < cnt → J j W → YieldAt Fence.wide 0 Try.prog l #[.slice (some ⟨β, base + n * j, none⟩) n n] W fun e W' => (e = .returned (.bool true) ∧ J (j + 1) W') ∨ (e = .returned (.bool false) ∧ Jx W'))
    (W : World) (h0 : J 0 W) :
    CallsIn Fence.wide 1 Try.prog 179 #[.func (.yield l) #[] #[], .pointer (some ⟨β1, b1, none⟩), .pointer (some ⟨β2, b2, none⟩)] W fun e W' => ∃ v, e = .returned v ∧ (J cnt W' ∨ Jx W') := by
  refine callsIn_of_wp Try.func179 rfl trivial ?_ rfl
  simp only [Try.ntmps179, List.size_toArray, List.length_cons, List.length_nil, Nat.reduceAdd, Nat.reduceSub, Array.replicate_succ, Array.replicate_zero, List.push_toArray, List.append_toArray, List.nil_append, List.cons_append]
  gi_wp2
  gi_loopw [4] (fun i wr => ∃ k : Nat, k ≤ cnt ∧ i = .int .i64 ((n * k : Nat) : Int) ∧ J k wr)
    (fun i _ => L - (intOf i).toNat)
  case atStart => exact ⟨0, Nat.zero_le _, rfl, h0⟩
  case round =>
    obtain ⟨k, hk, rfl, hJs⟩ := hrel
    have c1 := hb1 k wr hJs
    have c2 := hb2 k wr hJs
    by_cases hlt : k < cnt
    · obtain ⟨fn, tmps, assign, body, hy, hR⟩ := hY k wr.drew hlt (hd k wr _ hJs)
      have hm : n * k + n ≤ L := by rw [hL, ← Nat.mul_succ]; exact Nat.mul_le_mul_left n hlt
      have hk1 : n * (k + 1) = n * k + n := Nat.mul_succ n k
      generalize n * k = i at *
      have c3 : wr.drew.cell? ⟨β1, b1, none⟩ = some (.slice (some ⟨β, base, none⟩) L c) := c1
      have c4 : wr.drew.cell? ⟨β2, b2, none⟩ = some (.int .i64 n) := c2
      clear hb1 hY h0
      gi_wp2
      gi_region
      gi_wp2
      refine hR.mono ?_
      rintro e W3 (⟨rfl, hJ3⟩ | ⟨rfl, hJx3⟩)
      · have c5 := hb2 (k + 1) W3 hJ3
        gi_wp2
        go_roundw
        case rel => exact ⟨k + 1, by omega, by rw [hk1]; simp, hJ3⟩
        case measure => simp [intOf]; omega
      · gi_wp2
        refine bodyPost_ret (results_none rfl _ _ _) rfl ?_
        exact ⟨_, rfl, .inr hJx3⟩
    · obtain rfl : k = cnt := by omega
      clear hb1 hb2 hY h0
      gi_wp2
      go_end0
      exact ⟨_, rfl, .inl hJs⟩
theorem chunk_z (v : List Int) (n : Nat) (hn : 0 < n) (hn2 : n ≤ 1000) : ZCalls Try.prog 135 [zI v, I n] (.func (.func 179) #[] #[PZ [zI v] 0, PZ [I n] 0]) := by
  intro H
  refine ACalls.body Try.func135 rfl Try.ntmps135 (rs := [.tmp 4]) rfl (by simp) rfl fun Q hQ A hA => ?_
  have a0 := hA 0 _ _ rfl
  have a1 := hA 1 _ _ rfl
  clear hA
  repeat' first | refine rnY ?_ | with_reducible refine And.intro (fun hc => ?_) (fun hc => ?_) | fail
  exact hQ.out _ _ ⟨rfl, rfl⟩
open Go.RowKit Go.Shelf in
set_option maxHeartbeats 2000000 in
theorem chunk1_nil {n : Nat} (a : Option Addr) (c : Nat) (l : Nat) (β1 b1 β2 b2 : Nat) (J : Nat → World → Prop) (Jx : World → Prop) (W : World)
    (hb1 : W.cell? ⟨β1, b1, none⟩ = some (.slice a 0 c)) (h0 : J 0 W) :
    CallsIn Fence.wide 1 Try.prog 179 #[.func (.yield l) #[] #[], .pointer (some ⟨β1, b1, none⟩), .pointer (some ⟨β2, b2, none⟩)] W fun e W' => ∃ v, e = .returned v ∧ (J 0 W' ∨ Jx W') := by
  refine callsIn_of_wp Try.func179 rfl trivial ?_ rfl
  simp only [Try.ntmps179, List.size_toArray, List.length_cons, List.length_nil, Nat.reduceAdd, Nat.reduceSub, Array.replicate_succ, Array.replicate_zero, List.push_toArray, List.append_toArray, List.nil_append, List.cons_append]
  gi_wp2
  gi_loopw [4] (fun i wr => i = .int .i64 0 ∧ J 0 wr ∧ wr.cell? ⟨β1, b1, none⟩ = some (.slice a 0 c))
    (fun i _ => 0)
  case atStart => exact ⟨rfl, h0, hb1⟩
  case round =>
    obtain ⟨rfl, hJs, c1⟩ := hrel
    gi_wp2
    go_end0
    exact ⟨_, rfl, .inl hJs⟩
/-- The parts as they come. -/
def partsZ (n cnt : Nat) (v : List Int) : List Value := (List.range cnt).map fun j => FZ 1 n (ints (partL n v j))
theorem chunk_iter {v : List Int} {n cnt : Nat} (hn : 0 < n) (hn2 : n ≤ 1000) (hL : v.length = n * cnt) (hl : v.length ≤ 1000000) : IterZ Try.prog 179 [PZ [zI v] 0, PZ [I n] 0] (partsZ n cnt v) := by
  refine ⟨fun args w => ?_, ?_⟩
  · have hn' : ¬ Try.f179.name = "runtime.NumGoroutine" := by decide
    have hb : ∃ c, Try.f179.body = some c := ⟨_, rfl⟩
    obtain ⟨c, hb⟩ := hb
    simp [callFunc, Try.func179, hn', hb]
  intro l φ0 has caps' J Jx W hcaps hfz hd hY h0
  obtain ⟨u1, r1, rfl, hu1, hr1⟩ := hcaps.inv_cons
  obtain ⟨u2, r2, rfl, hu2, hr2⟩ := hr1.inv_cons
  obtain rfl : r2 = [] := List.eq_nil_of_length_eq_zero (by simpa using hr2.1.symm)
  obtain ⟨β1, b1, us1, rfl, f1, g1⟩ := hu1.pz_inv
  obtain ⟨β2, b2, us2, rfl, f2, g2⟩ := hu2.pz_inv
  have e2 := (g2 0 _ rfl).int_inv
  have k2 := f2 0 (by simp)
  rw [e2] at k2
  have k1 := f1 0 (by simp)
  obtain ⟨a, c, ea, hcase⟩ := (g1 0 _ rfl).fz_inv
  rw [ea] at k1
  have hlen : (partsZ n cnt v).length = cnt := by simp [partsZ]
  rw [hlen]
  rcases hcase with ⟨hz, _, _⟩ | ⟨β, base, us, rfl, _, _, hc, f3, g3⟩
  · have hcnt : cnt = 0 := by
      rcases Nat.eq_zero_or_pos cnt with h | h
      · exact h
      · have := Nat.mul_pos hn h; omega
    subst hcnt
    rw [hz] at k1
    exact callsIn_wide.1 (chunk1_nil (n := n) a c l β1 (b1 + 0) β2 (b2 + 0) J Jx W (hfz 0 W h0 _ _ _ k1) h0)
  · refine callsIn_wide.1 (chunk1_in hn hn2 hL hl hc l β1 (b1 + 0) β2 (b2 + 0) β base J Jx (fun j W hJ => hfz j W hJ _ _ _ k1) (fun j W hJ => hfz j W hJ _ _ _ k2) hd (fun j W hj hJ => ?_) W h0)
    refine hY j (FZ 1 n (ints (partL n v j))) W _ (by simp [partsZ, hj]) hJ ?_
    have hm : n * j + n ≤ v.length := by rw [hL, ← Nat.mul_succ]; exact Nat.mul_le_mul_left n hj
    have hpl : (partL n v j).length = n := by simp [partL]; omega
    have hpg : ∀ i, i < n → (partL n v j).getD i 0 = v.getD (n * j + i) 0 := fun i hi => by simp [partL, List.getD_eq_getElem?_getD, List.getElem?_take, List.getElem?_drop, hi]
    refine .fz 1 n n β (base + n * j) _ (fun i => us (n * j + i)) (by decide) (by rw [ints_len, hpl]; omega) (Nat.le_refl _) (fun i hi => ?_) (fun i x hx => ?_)
    · rw [ints_len, hpl] at hi
      have := f3 (n * j + i) (by rw [ints_len]; omega)
      rw [← this, Nat.add_assoc]
    · have hi : i < n := by
        have := (List.getElem?_eq_some_iff.1 hx).1
        rw [ints_len, hpl] at this; exact this
      refine g3 (n * j + i) x ?_
      rw [ints_get (by omega)] at hx ⊢
      rw [← hx, hpg i hi]
end Go.Proofs.Ytmoknllbpjpkmaa.Zed
namespace Go.Proofs.Ytmoknllbpjpkmaa.Zed
open Go TP
set_option linter.unusedVariables false
set_option linter.unusedSimpArgs false
set_option maxRecDepth 20000
namespace tfY4
theorem tf : (Try.prog.underlying 25 = some (.slice 2)) ∧ (el Try.prog 25 = some (none, 1)) ∧ (tk Try.prog 2 = some none) ∧ (tk Try.prog 4 = some none) ∧ (cz Try.prog 2 = some 1) ∧ (bz Try.prog 2 = some 8) ∧ (zr Try.prog 2 = some (.int .i64 0)) ∧ (zr Try.prog 4 = some (.bool false)) := by
  refine ⟨?_, ?_, ?_, ?_, ?_, ?_, ?_, ?_⟩ <;> kernel_rfl
end tfY4
open tfY4

/-- The places of the elements below k that are not 0. -/
def supT (l : List Int) : Nat → List Int
  | 0 => []
  | k + 1 => if l.getD k 0 ≠ 0 then supT l k ++ [(k : Int)] else supT l k
theorem supT_len (l : List Int) : ∀ k, (supT l k).length ≤ k
  | 0 => by simp [supT]
  | k + 1 => by
    have := supT_len l k
    unfold supT
    split
    · rw [List.length_append]; simp; omega
    · omega
set_option maxHeartbeats 2000000 in
theorem support_z {l : List Int} {n : Nat} (hn : l.length = n) (hl : n ≤ 200000) : ZCalls Try.prog 136 [FZ 1 n (ints l)] (zI (supT l n)) := by
  refine ZCalls.body Try.func136 rfl Try.ntmps136 (rs := [.tmp 2]) rfl (by simp) rfl fun H Q hQ A hA => ?_
  have a0 := hA 0 _ _ rfl
  clear hA
  repeat' first | refine rnY ?_ | with_reducible refine And.intro (fun hc => ?_) (fun hc => ?_) | fail
  refine AWp.grow (t := 3) 1 (by decide) (by exact ivY) ?_
  refine AWp.cut (fun Ac hAc => ?_)
  have c6 := gtY (t := 6) hAc
  have c7 := gtY (t := 7) hAc
  have c3 := gtY (t := 3) hAc
  have c8 := gtY (t := 8) hAc
  clear a0
  refine AWp.loop (fun A' H' => ∃ (k : Nat), Ag [4, 5, 9, 10, 11, 12, 13, 14, 15, 16, 17, 18, 19] A' (put (put Ac (some 3) (GZ H.size 1 (supT l k).length (ints (supT l k)))) (some 8) (I k)) ∧ k ≤ n ∧ Ext (H.push (.tok (supT l k).length 1)) H') (fun A' _ => n - (intV (A' 8)).toNat) ?_ ?_
  · have e0 : supT l 0 = [] := rfl
    exact ⟨0, agY, by omega, by exact exY⟩
  · rintro A1 H1 ⟨k, hA, hk, hx⟩
    have d3 := gdY (t := 3) hA
    have d6 := gdY (t := 6) hA
    have d7 := gdY (t := 7) hA
    have d8 := gdY (t := 8) hA
    have hxg := hx.get; have hxs := hx.size; (try simp only [nx] at hxs)
    by_cases hlt : k < n
    · have hs1 : supT l (k + 1) = if l.getD k 0 ≠ 0 then supT l k ++ [(k : Int)] else supT l k := rfl
      have hll := supT_len l k
      generalize supT l k = L at *
      by_cases hb : l.getD k 0 = 0
      · have hbb : (l.getD k 0 == 0) = true := by rw [beq_iff_eq]; exact hb
        rw [if_neg (fun h => h hb)] at hs1
        clear hb
        repeat' first | refine rnY ?_ | with_reducible refine And.intro (fun hc => ?_) (fun hc => ?_) | fail
        exact ⟨⟨k + 1, agY, by omega, by rw [hs1]; (exact exY)⟩, by exact ivY⟩
      · have hbb : (l.getD k 0 == 0) = false := by rw [beq_eq_false_iff_ne]; exact hb
        rw [if_pos hb] at hs1
        clear hb
        repeat' first | refine rnY ?_ | with_reducible refine And.intro (fun hc => ?_) (fun hc => ?_) | fail
        exact ⟨⟨k + 1, agY, by omega, by rw [hs1]; (exact exY)⟩, by exact ivY⟩
    · obtain rfl : k = n := by omega
      repeat' first | refine rnY ?_ | with_reducible refine And.intro (fun hc => ?_) (fun hc => ?_) | fail
      exact hQ.out _ _ (fv) (by exact exY)
/-- At most one of the three quadrilaterals of part j. -/
def qOk (v : List Int) (j : Nat) : Bool := decide ((supT ((partL 7 v j).drop 4) 3).length ≤ 1)
/-- At most one type of quadrilaterals in each part. -/
def one7 (v : List Int) (cnt : Nat) : Bool := (List.range cnt).all fun j => qOk v j
set_option maxHeartbeats 4000000 in
theorem hasOneType_z {v : List Int} {cnt : Nat} (hL : v.length = 7 * cnt) (hl : v.length ≤ 1000000) : ZCalls Try.prog 89 [zI v] (B (one7 v cnt)) := by
  have hch := chunk_z v 7 (by decide) (by decide)
  have hit := chunk_iter (v := v) (n := 7) (cnt := cnt) (by decide) (by decide) hL hl
  have hgd : ∀ j, j < cnt → (partsZ 7 cnt v)[j]? = some (FZ 1 7 (ints (partL 7 v j))) := fun j hj => by simp [partsZ, hj]
  have hpl : ∀ j, j < cnt → (partL 7 v j).length = 7 := fun j hj => by simp [partL]; omega
  refine ZCalls.bodyQ Try.func89 rfl Try.ntmps89 (rs := [.cell 2 4]) rfl (by simp) rfl fun H Q hQ A hA => ?_
  have a0 := hA 0 _ _ rfl
  clear hA
  refine AWq.seq' (AWq.of' ?_)
  repeat' first | refine rnY ?_ | with_reducible refine And.intro (fun hc => ?_) (fun hc => ?_) | fail
  refine qthen_n ?_
  refine AWq.seq' (AWq.seq' (AWq.of' ?_))
  repeat' first | refine rnY ?_ | (first | refine ZCalls.to (hch) ?_ | refine ZCalls.tf (hch) ?_) | with_reducible refine And.intro (fun hc => ?_) (fun hc => ?_) | fail
  refine qthen_n ?_
  refine (AWq.block (AWq.range (els := partsZ 7 cnt v) (fun j H' => (∀ i, i < j → qOk v i = true) ∧ Ext (H.push (.cells [B false] 1 false)) H') (fun H' => one7 v cnt = false ∧ Ext (H.push (.cells [B false] 1 false)) H' ∧ H'.get H.size = .cells [B false] 1 false) (by decide) rfl (by exact ivY) hit ⟨fun i hi => by omega, by exact exY⟩ ?_ ?_ ?_))
  · rintro l j x H' hx ⟨hok, hE⟩
    have hj : j < cnt := by
      have := (List.getElem?_eq_some_iff.1 hx).1
      simpa [partsZ] using this
    rw [hgd j hj] at hx
    cases hx
    have hp := hpl j hj
    have hq : qOk v j = decide ((supT ((partL 7 v j).drop 4) 3).length ≤ 1) := rfl
    obtain ⟨r, hr⟩ : ∃ r, ((partL 7 v j).drop 4).take 3 = r := ⟨_, rfl⟩
    have hr2 : (partL 7 v j).drop 4 = r := by rw [← hr, List.take_of_length_le (by simp; omega)]
    have hr3 : r.length = 3 := by rw [← hr2]; simp; omega
    rw [hr2] at hq
    have hs := support_z (l := r) (n := 3) hr3 (by decide)
    have hsl := supT_len r 3
    have hno : qOk v j = false → one7 v cnt = false := fun h => by
      unfold one7
      rw [List.all_eq_false]
      exact ⟨j, List.mem_range.2 hj, by rw [h]; decide⟩
    clear hch hit hgd hpl hr2
    generalize supT r 3 = S at *
    refine AWr.region rfl ?_
    repeat' first | refine rnY ?_ | with_reducible refine And.intro (fun hc => ?_) (fun hc => ?_) | fail
    refine ⟨rfl, AWr.block (AWr.seq' (AWr.region rfl ?_))⟩
    by_cases hS : S.length ≤ 1
    · rw [decide_eq_true hS] at hq
      have hb : decide ((S.length : Int) > 1) = false := by simp; omega
      repeat' first | refine rnY ?_ | (first | refine ZCalls.to (hs) ?_ | refine ZCalls.tf (hs) ?_) | with_reducible refine And.intro (fun hc => ?_) (fun hc => ?_) | fail
      refine AWr.condF rfl (by exact ivY) (AWr.skip ?_)
      repeat' first | refine rnY ?_ | with_reducible refine And.intro (fun hc => ?_) (fun hc => ?_) | fail
      refine .inl ⟨rfl, fun i hi => ?_, by exact exY⟩
      rcases Nat.lt_or_ge i j with h | h
      · exact hok i h
      · obtain rfl : i = j := by omega
        exact hq
    · rw [decide_eq_false hS] at hq
      have hb : decide ((S.length : Int) > 1) = true := by simp; omega
      repeat' first | refine rnY ?_ | (first | refine ZCalls.to (hs) ?_ | refine ZCalls.tf (hs) ?_) | with_reducible refine And.intro (fun hc => ?_) (fun hc => ?_) | fail
      refine AWr.condT rfl (by exact ivY) (AWr.seq' (AWr.region rfl ?_))
      have hEg := hE.get; have hEs := hE.size; (try simp only [nx] at hEs)
      repeat' first | refine rnY ?_ | with_reducible refine And.intro (fun hc => ?_) (fun hc => ?_) | fail
      refine AWr.ret ?_
      repeat' first | refine rnY ?_ | with_reducible refine And.intro (fun hc => ?_) (fun hc => ?_) | fail
      exact .inr ⟨rfl, hno hq, by exact exY, by exact ivY⟩
  · rintro D H' ⟨hok, hE⟩
    have hall : one7 v cnt = true := by
      unfold one7
      rw [List.all_eq_true]
      intro i hi
      exact hok i (by simpa [partsZ] using List.mem_range.1 hi)
    refine qblock_n (qthen_n ?_)
    refine AWq.seq' (AWq.of (AWr.region rfl ?_))
    have hEg := hE.get; have hEs := hE.size; (try simp only [nx] at hEs)
    repeat' first | refine rnY ?_ | with_reducible refine And.intro (fun hc => ?_) (fun hc => ?_) | fail
    refine qthen_n ?_
    refine AWq.of (AWr.ret ?_)
    repeat' first | refine rnY ?_ | with_reducible refine And.intro (fun hc => ?_) (fun hc => ?_) | fail
    exact hQ.out _ _ (.eq (Cl.bool _) (by rw [hall])) (by exact exY)
  · rintro D H' ⟨hno, hE, hg⟩
    refine qblock_r (qthen_r ?_)
    have hEg := hE.get; have hEs := hE.size; (try simp only [nx] at hEs)
    repeat' first | refine rnY ?_ | with_reducible refine And.intro (fun hc => ?_) (fun hc => ?_) | fail
    exact hQ.out _ _ (.eq (Cl.bool _) (by rw [hno])) (by exact exY)
end Go.Proofs.Ytmoknllbpjpkmaa.Zed
namespace Go.Proofs.Ytmoknllbpjpkmaa.Zed
open Go TP
set_option linter.unusedVariables false
set_option linter.unusedSimpArgs false
set_option maxRecDepth 20000
namespace tfY5
theorem tf : (Try.prog.underlying 25 = some (.slice 2)) ∧ (el Try.prog 25 = some (none, 1)) ∧ (tk Try.prog 2 = some none) ∧ (tk Try.prog 31 = some (some 1)) ∧ (cz Try.prog 2 = some 1) ∧ (bz Try.prog 2 = some 8) ∧ (zr Try.prog 2 = some (.int .i64 0)) := by
  refine ⟨?_, ?_, ?_, ?_, ?_, ?_, ?_⟩ <;> kernel_rfl
end tfY5
open tfY5

set_option maxHeartbeats 4000000 in
theorem l17One_z {v : List Int} {cnt : Nat} (hL : v.length = 7 * cnt) (hl : v.length ≤ 1000000) (h0 : ∀ j, 0 ≤ v.getD j 0) : ZCalls Try.prog 83 [zI v] (B (one7 v cnt)) := by
  have hgt : ∀ j k, k < 3 → v.getD (7 * j + 4 + k) 0 = ((partL 7 v j).drop 4).getD k 0 := fun j k hk => by
    simp [partL, List.getD_eq_getElem?_getD, List.getElem?_take, List.getElem?_drop, show 4 + k < 7 by omega, Nat.add_assoc]
  have hno : ∀ j, j < cnt → qOk v j = false → one7 v cnt = false := fun j hj h => by
    unfold one7
    rw [List.all_eq_false]
    exact ⟨j, List.mem_range.2 hj, by rw [h]; decide⟩
  have hyes : (∀ j, j < cnt → qOk v j = true) → one7 v cnt = true := fun h => by
    unfold one7
    rw [List.all_eq_true]
    exact fun i hi => h i (List.mem_range.1 hi)
  generalize one7 v cnt = out at *
  refine ZCalls.body Try.func83 rfl Try.ntmps83 (rs := [.tmp 2]) rfl (by simp) rfl fun H Q hQ A hA => ?_
  have a0 := hA 0 _ _ rfl
  clear hA
  repeat' first | refine rnY ?_ | with_reducible refine And.intro (fun hc => ?_) (fun hc => ?_) | fail
  refine AWp.cut (fun Ac hAc => ?_)
  have c0 := gtY (t := 0) hAc
  have c3 := gtY (t := 3) hAc
  clear a0
  refine AWp.loop (fun A' H' => ∃ (j : Nat), Ag [4, 5, 6, 7, 8, 9, 10, 11, 12, 13, 14, 15, 16, 17, 18, 19, 20, 21, 22, 23, 24, 25, 26, 27] A' (put Ac (some 3) (I (7 * j))) ∧ j ≤ cnt ∧ (∀ i, i < j → qOk v i = true) ∧ Ext H H') (fun A' _ => cnt * 7 - (intV (A' 3)).toNat) ?_ ?_
  · exact ⟨0, agY, by omega, fun i hi => by omega, by exact exY⟩
  · rintro A1 H1 ⟨j, hA1, hj, hok, hx⟩
    have d0 := gdY (t := 0) hA1
    have d3 := gdY (t := 3) hA1
    by_cases hlt : j < cnt
    · have hgj := hgt j
      have hq : qOk v j = decide ((supT ((partL 7 v j).drop 4) 3).length ≤ 1) := rfl
      have hnj := hno j hlt
      clear hgt hno hyes
      generalize (partL 7 v j).drop 4 = r at *
      have e0 : supT r 0 = [] := rfl
      repeat' first | refine rnY ?_ | with_reducible refine And.intro (fun hc => ?_) (fun hc => ?_) | fail
      refine AWp.cut (fun Ae hAe => ?_)
      have e0 := gtY (t := 0) hAe
      have e3 := gtY (t := 3) hAe
      have e4 := gtY (t := 4) hAe
      have e5 := gtY (t := 5) hAe
      refine AWp.loop (fun A' H' => ∃ (k : Nat), Ag [13, 14, 15, 16, 17, 18, 19, 20, 21, 22, 23, 24, 25] A' (put (put Ae (some 4) (I (supT r k).length)) (some 5) (I (4 + k))) ∧ k ≤ 3 ∧ Ext H H') (fun A' _ => 7 - (intV (A' 5)).toNat) ?_ ?_
      · exact ⟨0, agY, by omega, by exact exY⟩
      · rintro A2 H2 ⟨k, hB, hk, hx2⟩
        have f0 := gdY (t := 0) hB
        have f3 := gdY (t := 3) hB
        have f4 := gdY (t := 4) hB
        have f5 := gdY (t := 5) hB
        by_cases hk3 : k < 3
        · have hg := hgj k hk3
          have h00 := h0 (7 * j + 4 + k)
          have hs1 : supT r (k + 1) = if r.getD k 0 ≠ 0 then supT r k ++ [(k : Int)] else supT r k := rfl
          have hsl := supT_len r k
          have hi : (7 * (j : Int) + (4 + (k : Int))).toNat = 7 * j + 4 + k := by omega
          rw [← hg] at hs1
          generalize supT r k = S at *
          clear hgj h0 hq hnj hok
          by_cases hb : v.getD (7 * j + 4 + k) 0 = 0
          · rw [if_neg (fun h => h hb)] at hs1
            have hbb : decide (v.getD (7 * j + 4 + k) 0 > 0) = false := by rw [decide_eq_false]; omega
            repeat' first | refine rnY ?_ | with_reducible refine And.intro (fun hc => ?_) (fun hc => ?_) | fail
            exact ⟨⟨k + 1, by rw [hs1]; exact agY, by omega, by exact exY⟩, by exact ivY⟩
          · rw [if_pos hb] at hs1
            have hbb : decide (v.getD (7 * j + 4 + k) 0 > 0) = true := by rw [decide_eq_true]; omega
            have hln : ((supT r (k + 1)).length : Int) = S.length + 1 := by rw [hs1]; simp
            clear hs1
            repeat' first | refine rnY ?_ | with_reducible refine And.intro (fun hc => ?_) (fun hc => ?_) | fail
            exact ⟨⟨k + 1, by rw [hln]; exact agY, by omega, by exact exY⟩, by exact ivY⟩
        · obtain rfl : k = 3 := by omega
          have hsl := supT_len r 3
          generalize supT r 3 = S at *
          clear hgj
          by_cases hS : S.length ≤ 1
          · rw [decide_eq_true hS] at hq
            have hb : decide ((S.length : Int) > 1) = false := by simp; omega
            repeat' first | refine rnY ?_ | with_reducible refine And.intro (fun hc => ?_) (fun hc => ?_) | fail
            exact ⟨⟨j + 1, agY, by omega, fun i hi => by
              rcases Nat.lt_or_ge i j with h | h
              · exact hok i h
              · obtain rfl : i = j := by omega
                exact hq, by exact exY⟩, by exact ivY⟩
          · rw [decide_eq_false hS] at hq
            have hb : decide ((S.length : Int) > 1) = true := by simp; omega
            have hout := hnj hq
            repeat' first | refine rnY ?_ | with_reducible refine And.intro (fun hc => ?_) (fun hc => ?_) | fail
            exact hQ.out _ _ (.eq (Cl.bool _) (by rw [hout])) (by exact exY)
    · obtain rfl : j = cnt := by omega
      have hout := hyes hok
      clear hgt hno hyes hok
      repeat' first | refine rnY ?_ | with_reducible refine And.intro (fun hc => ?_) (fun hc => ?_) | fail
      exact hQ.out _ _ (.eq (Cl.bool _) (by rw [hout])) (by exact exY)
theorem nrI_bd {T : List (List (Int × Int))} {v : List Int} (h : NrI T v) : ∀ j, 0 ≤ v.getD j 0 ∧ v.getD j 0 ≤ 1000 := fun j => by
  by_cases hj : j < v.length
  · exact h.2.1 j hj
  · rw [List.getD_eq_getElem?_getD, List.getElem?_eq_none (by omega)]; decide
/-- An admissible vector. -/
def AdI (T : List (List (Int × Int))) (v : List Int) : Prop := NrI T v ∧ one7 v T.length = true
instance (T : List (List (Int × Int))) (v : List Int) : Decidable (AdI T v) := by unfold AdI; infer_instance
theorem isAdmissible_z {T : List (List (Int × Int))} (hF : Fine T) (v : List Int) (hv : v.length ≤ 1048576) : ZCalls Try.prog 140 [zT T, zI v] (B (decide (AdI T v))) := by
  have hn := isNormal_z hF v hv
  have h8 := hF.1
  by_cases h : NrI T v
  · have ho := hasOneType_z (v := v) (cnt := T.length) h.1 (by have := h.1; omega)
    rw [decide_eq_true h] at hn
    have e : decide (AdI T v) = one7 v T.length := by unfold AdI; simp [h]
    rw [e]
    clear e h h8
    generalize one7 v T.length = b at *
    refine ZCalls.body Try.func140 rfl Try.ntmps140 (rs := [.tmp 4]) rfl (by simp) rfl fun H Q hQ A hA => ?_
    have a0 := hA 0 _ _ rfl
    have a1 := hA 1 _ _ rfl
    clear hA
    repeat' first | refine rnY ?_ | (first | refine ZCalls.to (hn) ?_ | refine ZCalls.tf (hn) ?_) | (first | refine ZCalls.to (ho) ?_ | refine ZCalls.tf (ho) ?_) | with_reducible refine And.intro (fun hc => ?_) (fun hc => ?_) | fail
    exact hQ.out _ _ (fv) (by exact exY)
  · rw [decide_eq_false h] at hn
    rw [decide_eq_false (fun q : AdI T v => h q.1)]
    clear h
    refine ZCalls.body Try.func140 rfl Try.ntmps140 (rs := [.tmp 4]) rfl (by simp) rfl fun H Q hQ A hA => ?_
    have a0 := hA 0 _ _ rfl
    have a1 := hA 1 _ _ rfl
    clear hA
    repeat' first | refine rnY ?_ | (first | refine ZCalls.to (hn) ?_ | refine ZCalls.tf (hn) ?_) | with_reducible refine And.intro (fun hc => ?_) (fun hc => ?_) | fail
    exact hQ.out _ _ (fv) (by exact exY)
theorem specIsAdmissible_z {T : List (List (Int × Int))} (hl : T.length ≤ 1048576) (v : List Int) (hv : v.length ≤ 1048576) : ZCalls Try.prog 100 [zT T, zI v] (B (decide (codeN T = 0 ∧ AdI T v))) := by
  have hn := specIsNormal_z hl v hv
  by_cases h : codeN T = 0 ∧ NrI T v
  · have h6 := codeN_six h.1
    have ho := l17One_z (v := v) (cnt := T.length) h.2.1 (by have := h.2.1; omega) (fun j => (nrI_bd h.2 j).1)
    rw [decide_eq_true h] at hn
    have e : decide (codeN T = 0 ∧ AdI T v) = one7 v T.length := by unfold AdI; simp [h]
    rw [e]
    clear e h h6
    generalize one7 v T.length = b at *
    refine ZCalls.body Try.func100 rfl Try.ntmps100 (rs := [.tmp 4]) rfl (by simp) rfl fun H Q hQ A hA => ?_
    have a0 := hA 0 _ _ rfl
    have a1 := hA 1 _ _ rfl
    clear hA
    repeat' first | refine rnY ?_ | (first | refine ZCalls.to (hn) ?_ | refine ZCalls.tf (hn) ?_) | (first | refine ZCalls.to (ho) ?_ | refine ZCalls.tf (ho) ?_) | with_reducible refine And.intro (fun hc => ?_) (fun hc => ?_) | fail
    exact hQ.out _ _ (fv) (by exact exY)
  · rw [decide_eq_false h] at hn
    rw [decide_eq_false (fun q : codeN T = 0 ∧ AdI T v => h ⟨q.1, q.2.1⟩)]
    clear h
    refine ZCalls.body Try.func100 rfl Try.ntmps100 (rs := [.tmp 4]) rfl (by simp) rfl fun H Q hQ A hA => ?_
    have a0 := hA 0 _ _ rfl
    have a1 := hA 1 _ _ rfl
    clear hA
    repeat' first | refine rnY ?_ | (first | refine ZCalls.to (hn) ?_ | refine ZCalls.tf (hn) ?_) | with_reducible refine And.intro (fun hc => ?_) (fun hc => ?_) | fail
    exact hQ.out _ _ (fv) (by exact exY)
end Go.Proofs.Ytmoknllbpjpkmaa.Zed
namespace Go.Proofs.Ytmoknllbpjpkmaa.Zed
open Go TP
set_option linter.unusedVariables false
set_option linter.unusedSimpArgs false
set_option maxRecDepth 20000
namespace tfY6
theorem tf : (Try.prog.underlying 25 = some (.slice 2)) ∧ (el Try.prog 25 = some (none, 1)) ∧ (tk Try.prog 2 = some none) ∧ (tk Try.prog 31 = some (some 1)) ∧ (cz Try.prog 2 = some 1) ∧ (bz Try.prog 2 = some 8) ∧ (zr Try.prog 2 = some (.int .i64 0)) := by
  refine ⟨?_, ?_, ?_, ?_, ?_, ?_, ?_⟩ <;> kernel_rfl
end tfY6
open tfY6

/-- The code of a vector that is to be admissible. -/
def aC (T : List (List (Int × Int))) (v : List Int) : Int := if codeN T = 0 then (if AdI T v then 0 else 5) else codeN T
theorem aC_ok {T : List (List (Int × Int))} {v : List Int} (h : aC T v = 0) : codeN T = 0 ∧ AdI T v := by
  unfold aC at h
  split at h
  · rename_i h0
    split at h
    · rename_i h1; exact ⟨h0, h1⟩
    · cases h
  · rename_i h0; exact absurd h h0
theorem admissibleCode_z {T : List (List (Int × Int))} (hl : T.length ≤ 1048576) (v : List Int) (hv : v.length ≤ 1048576) : ZCalls Try.prog 103 [zT T, zI v] (I (aC T v)) := by
  have hc := normalCode_z hl
  unfold aC
  by_cases h : codeN T = 0
  · rw [if_pos h]
    have ha := isAdmissible_z (codeN_ok h).fine v hv
    rw [h] at hc
    by_cases h1 : AdI T v
    · rw [if_pos h1]
      rw [decide_eq_true h1] at ha
      clear h1 h
      refine ZCalls.body Try.func103 rfl Try.ntmps103 (rs := [.tmp 4]) rfl (by simp) rfl fun H Q hQ A hA => ?_
      have a0 := hA 0 _ _ rfl
      have a1 := hA 1 _ _ rfl
      clear hA
      repeat' first | refine rnY ?_ | (first | refine ZCalls.to (hc) ?_ | refine ZCalls.tf (hc) ?_) | (first | refine ZCalls.to (ha) ?_ | refine ZCalls.tf (ha) ?_) | with_reducible refine And.intro (fun hc => ?_) (fun hc => ?_) | fail
      exact hQ.out _ _ (fv) (by exact exY)
    · rw [if_neg h1]
      rw [decide_eq_false h1] at ha
      clear h1 h
      refine ZCalls.body Try.func103 rfl Try.ntmps103 (rs := [.tmp 4]) rfl (by simp) rfl fun H Q hQ A hA => ?_
      have a0 := hA 0 _ _ rfl
      have a1 := hA 1 _ _ rfl
      clear hA
      repeat' first | refine rnY ?_ | (first | refine ZCalls.to (hc) ?_ | refine ZCalls.tf (hc) ?_) | (first | refine ZCalls.to (ha) ?_ | refine ZCalls.tf (ha) ?_) | with_reducible refine And.intro (fun hc => ?_) (fun hc => ?_) | fail
      exact hQ.out _ _ (fv) (by exact exY)
  · rw [if_neg h]
    have hcb : (codeN T == 0) = false := by rw [beq_eq_false_iff_ne]; exact h
    generalize codeN T = k at *
    clear h
    refine ZCalls.body Try.func103 rfl Try.ntmps103 (rs := [.tmp 4]) rfl (by simp) rfl fun H Q hQ A hA => ?_
    have a0 := hA 0 _ _ rfl
    have a1 := hA 1 _ _ rfl
    clear hA
    repeat' first | refine rnY ?_ | (first | refine ZCalls.to (hc) ?_ | refine ZCalls.tf (hc) ?_) | with_reducible refine And.intro (fun hc => ?_) (fun hc => ?_) | fail
    exact hQ.out _ _ (fv) (by exact exY)
/-- The number of candidates below k, cut at 20001. -/
def candS (v : List Int) : Nat → Int
  | 0 => 1
  | k + 1 => min (candS v k * (v.getD k 0 + 1)) 20001
theorem candS_bd {v : List Int} (h : ∀ j, 0 ≤ v.getD j 0) : ∀ k, 1 ≤ candS v k ∧ candS v k ≤ 20001
  | 0 => by simp [candS]
  | k + 1 => by
    have ih := candS_bd h k
    have hk := h k
    have := Int.mul_le_mul_of_nonneg_left (show (1 : Int) ≤ v.getD k 0 + 1 by omega) (show 0 ≤ candS v k by omega)
    rw [Int.mul_one] at this
    unfold candS; omega
theorem candS_top {v : List Int} (h : ∀ j, 0 ≤ v.getD j 0) {k : Nat} (hk : candS v k = 20001) : ∀ d, candS v (k + d) = 20001
  | 0 => hk
  | d + 1 => by
    have ih := candS_top h hk d
    have h1 := h (k + d)
    show min (candS v (k + d) * (v.getD (k + d) 0 + 1)) 20001 = 20001
    rw [ih]; omega
theorem candFn_z (x : Int) : ZCalls Try.prog 141 [I x] (B (!decide (0 ≤ x ∧ x ≤ 1000))) := by
  have hr := inRange_z x 0 1000
  refine ZCalls.body Try.func141 rfl Try.ntmps141 (rs := [.tmp 2]) rfl (by simp) rfl fun H Q hQ A hA => ?_
  have a0 := hA 0 _ _ rfl
  clear hA
  repeat' first | refine rnY ?_ | (first | refine ZCalls.to (hr) ?_ | refine ZCalls.tf (hr) ?_) | with_reducible refine And.intro (fun hc => ?_) (fun hc => ?_) | fail
  exact hQ.out _ _ (fv) (by exact exY)
theorem any_no {v : List Int} (h : ∀ j, 0 ≤ v.getD j 0 ∧ v.getD j 0 ≤ 1000) : (v.any fun x => !decide (0 ≤ x ∧ x ≤ 1000)) = false := by
  rw [List.any_eq_false]
  intro x hx
  obtain ⟨i, hi, rfl⟩ := List.getElem_of_mem hx
  have := h i
  simp [hi] at this
  simp [this]
set_option maxHeartbeats 4000000 in
theorem candidateCount_z {v : List Int} (hl : v.length ≤ 1048576) (h : ∀ j, 0 ≤ v.getD j 0 ∧ v.getD j 0 ≤ 1000) : ZCalls Try.prog 104 [zI v] (I (candS v v.length)) := by
  have hcn := containsN_z (F := 141) (xs := #[]) hl (fun x _ => candFn_z x)
  rw [any_no h] at hcn
  have hbd := candS_bd fun j => (h j).1
  have htop := fun k => candS_top (fun j => (h j).1) (k := k)
  have hst : ∀ k, candS v (k + 1) = min (candS v k * (v.getD k 0 + 1)) 20001 := fun k => rfl
  have h0 : candS v 0 = 1 := rfl
  refine ZCalls.body Try.func104 rfl Try.ntmps104 (rs := [.tmp 2]) rfl (by simp) rfl fun H Q hQ A hA => ?_
  have a0 := hA 0 _ _ rfl
  clear hA
  repeat' first | refine rnY ?_ | (first | refine ZCalls.to (hcn) ?_ | refine ZCalls.tf (hcn) ?_) | with_reducible refine And.intro (fun hc => ?_) (fun hc => ?_) | fail
  refine AWp.cut (fun Ac hAc => ?_)
  have c8 := gtY (t := 8) hAc
  have c9 := gtY (t := 9) hAc
  have c3 := gtY (t := 3) hAc
  have c10 := gtY (t := 10) hAc
  clear a0 hcn
  refine AWp.loop (fun A' H' => ∃ (k : Nat), Ag [5, 11, 12, 13, 14, 15, 16, 17, 18, 19, 20] A' (put (put Ac (some 3) (I (candS v k))) (some 10) (I k)) ∧ k ≤ v.length ∧ candS v k ≤ 20000 ∧ Ext H H') (fun A' _ => v.length - (intV (A' 10)).toNat) ?_ ?_
  · exact ⟨0, by rw [h0]; exact agY, by omega, by rw [h0]; decide, by exact exY⟩
  · rintro A1 H1 ⟨k, hA1, hk, hc, hx⟩
    have d3 := gdY (t := 3) hA1
    have d8 := gdY (t := 8) hA1
    have d9 := gdY (t := 9) hA1
    have d10 := gdY (t := 10) hA1
    by_cases hlt : k < v.length
    · have hst := hst k
      have hb1 := (hbd k).1
      have hvk := h k
      have hup : candS v k * (v.getD k 0 + 1) ≤ 20000 * 1001 := Int.mul_le_mul (by omega) (by omega) (by omega) (by omega)
      have hlo : 0 ≤ candS v k * (v.getD k 0 + 1) := Int.mul_nonneg (by omega) (by omega)
      have htop := htop (k + 1)
      clear hbd h h0
      generalize candS v k = x at *
      generalize hp : x * (v.getD k 0 + 1) = p at *
      by_cases hgt : p > 20000
      · have hbb : decide (p > 20000) = true := decide_eq_true hgt
        have hout := htop (by omega) (v.length - (k + 1))
        rw [show k + 1 + (v.length - (k + 1)) = v.length by omega] at hout
        clear htop hst
        repeat' first | refine rnY ?_ | with_reducible refine And.intro (fun hc => ?_) (fun hc => ?_) | fail
        exact hQ.out _ _ (.eq (Cl.int _ _) (by rw [hout])) (by exact exY)
      · have hbb : decide (p > 20000) = false := decide_eq_false hgt
        have hst2 : candS v (k + 1) = p := by omega
        clear hst htop
        repeat' first | refine rnY ?_ | with_reducible refine And.intro (fun hc => ?_) (fun hc => ?_) | fail
        exact ⟨⟨k + 1, by rw [hst2]; exact agY, by omega, by omega, by exact exY⟩, by exact ivY⟩
    · obtain rfl : k = v.length := by omega
      clear hst htop
      repeat' first | refine rnY ?_ | with_reducible refine And.intro (fun hc => ?_) (fun hc => ?_) | fail
      exact hQ.out _ _ (fv) (by exact exY)
set_option maxHeartbeats 4000000 in
theorem l20Candidates_z {v : List Int} (hl : v.length ≤ 1048576) (h : ∀ j, 0 ≤ v.getD j 0 ∧ v.getD j 0 ≤ 1000) : ZCalls Try.prog 101 [zI v] (I (candS v v.length)) := by
  have hbd := candS_bd fun j => (h j).1
  have hst : ∀ k, candS v (k + 1) = min (candS v k * (v.getD k 0 + 1)) 20001 := fun k => rfl
  have h0 : candS v 0 = 1 := rfl
  refine ZCalls.body Try.func101 rfl Try.ntmps101 (rs := [.tmp 2]) rfl (by simp) rfl fun H Q hQ A hA => ?_
  have a0 := hA 0 _ _ rfl
  clear hA
  repeat' first | refine rnY ?_ | with_reducible refine And.intro (fun hc => ?_) (fun hc => ?_) | fail
  refine AWp.cut (fun Ac hAc => ?_)
  have c0 := gtY (t := 0) hAc
  have c3 := gtY (t := 3) hAc
  have c4 := gtY (t := 4) hAc
  clear a0
  refine AWp.loop (fun A' H' => ∃ (k : Nat), Ag [5, 6, 7, 8, 9, 10, 11, 12, 13, 14, 15, 16, 17, 18] A' (put (put Ac (some 3) (I (candS v k))) (some 4) (I k)) ∧ k ≤ v.length ∧ Ext H H') (fun A' _ => v.length - (intV (A' 4)).toNat) ?_ ?_
  · exact ⟨0, by rw [h0]; exact agY, by omega, by exact exY⟩
  · rintro A1 H1 ⟨k, hA1, hk, hx⟩
    have d0 := gdY (t := 0) hA1
    have d3 := gdY (t := 3) hA1
    have d4 := gdY (t := 4) hA1
    by_cases hlt : k < v.length
    · have hst := hst k
      have hb1 := hbd k
      have hvk := h k
      have hup : candS v k * (v.getD k 0 + 1) ≤ 20001 * 1001 := Int.mul_le_mul (by omega) (by omega) (by omega) (by omega)
      have hlo : 0 ≤ candS v k * (v.getD k 0 + 1) := Int.mul_nonneg (by omega) (by omega)
      clear hbd h h0
      generalize candS v k = x at *
      generalize hp : x * (v.getD k 0 + 1) = p at *
      repeat' first | refine rnY ?_ | with_reducible refine And.intro (fun hc => ?_) (fun hc => ?_) | fail
      exact ⟨⟨k + 1, by rw [hst]; exact agY, by omega, by exact exY⟩, by exact ivY⟩
    · obtain rfl : k = v.length := by omega
      clear hst
      repeat' first | refine rnY ?_ | with_reducible refine And.intro (fun hc => ?_) (fun hc => ?_) | fail
      exact hQ.out _ _ (fv) (by exact exY)
/-- The code of a vector that is split. -/
def scT (T : List (List (Int × Int))) (v : List Int) : Int := if aC T v = 0 then (if candS v v.length > 20000 then 3 else 0) else aC T v
theorem splitCode_z {T : List (List (Int × Int))} (hl : T.length ≤ 1048576) (v : List Int) (hv : v.length ≤ 1048576) : ZCalls Try.prog 53 [zT T, zI v] (I (scT T v)) := by
  have hc := admissibleCode_z hl v hv
  unfold scT
  by_cases h : aC T v = 0
  · have ha := candidateCount_z hv (nrI_bd (aC_ok h).2.1)
    rw [if_pos h]
    rw [h] at hc
    generalize candS v v.length = x at *
    by_cases h1 : x > 20000
    · rw [if_pos h1]
      have hb : decide (x > 20000) = true := decide_eq_true h1
      clear h
      refine ZCalls.body Try.func53 rfl Try.ntmps53 (rs := [.tmp 4]) rfl (by simp) rfl fun H Q hQ A hA => ?_
      have a0 := hA 0 _ _ rfl
      have a1 := hA 1 _ _ rfl
      clear hA
      repeat' first | refine rnY ?_ | (first | refine ZCalls.to (hc) ?_ | refine ZCalls.tf (hc) ?_) | (first | refine ZCalls.to (ha) ?_ | refine ZCalls.tf (ha) ?_) | with_reducible refine And.intro (fun hc => ?_) (fun hc => ?_) | fail
      exact hQ.out _ _ (fv) (by exact exY)
    · rw [if_neg h1]
      have hb : decide (x > 20000) = false := decide_eq_false h1
      clear h
      refine ZCalls.body Try.func53 rfl Try.ntmps53 (rs := [.tmp 4]) rfl (by simp) rfl fun H Q hQ A hA => ?_
      have a0 := hA 0 _ _ rfl
      have a1 := hA 1 _ _ rfl
      clear hA
      repeat' first | refine rnY ?_ | (first | refine ZCalls.to (hc) ?_ | refine ZCalls.tf (hc) ?_) | (first | refine ZCalls.to (ha) ?_ | refine ZCalls.tf (ha) ?_) | with_reducible refine And.intro (fun hc => ?_) (fun hc => ?_) | fail
      exact hQ.out _ _ (fv) (by exact exY)
  · rw [if_neg h]
    have hcb : (aC T v == 0) = false := by rw [beq_eq_false_iff_ne]; exact h
    generalize aC T v = k at *
    clear h
    refine ZCalls.body Try.func53 rfl Try.ntmps53 (rs := [.tmp 4]) rfl (by simp) rfl fun H Q hQ A hA => ?_
    have a0 := hA 0 _ _ rfl
    have a1 := hA 1 _ _ rfl
    clear hA
    repeat' first | refine rnY ?_ | (first | refine ZCalls.to (hc) ?_ | refine ZCalls.tf (hc) ?_) | with_reducible refine And.intro (fun hc => ?_) (fun hc => ?_) | fail
    exact hQ.out _ _ (fv) (by exact exY)
theorem l20Code_z {T : List (List (Int × Int))} (hl : T.length ≤ 1048576) (v : List Int) (hv : v.length ≤ 1048576) : ZCalls Try.prog 50 [zT T, zI v] (I (scT T v)) := by
  have hc := l17Code_z hl
  have hs := specIsAdmissible_z hl v hv
  unfold scT aC
  by_cases h : codeN T = 0
  · by_cases h1 : AdI T v
    · have ha := l20Candidates_z hv (nrI_bd h1.1)
      rw [decide_eq_true ⟨h, h1⟩] at hs
      rw [h] at hc
      rw [if_pos h, if_pos h1, if_pos rfl]
      generalize candS v v.length = x at *
      clear h h1
      by_cases h1 : x > 20000
      · rw [if_pos h1]
        have hb : decide (x > 20000) = true := decide_eq_true h1
        refine ZCalls.body Try.func50 rfl Try.ntmps50 (rs := [.tmp 4]) rfl (by simp) rfl fun H Q hQ A hA => ?_
        have a0 := hA 0 _ _ rfl
        have a1 := hA 1 _ _ rfl
        clear hA
        repeat' first | refine rnY ?_ | (first | refine ZCalls.to (hc) ?_ | refine ZCalls.tf (hc) ?_) | (first | refine ZCalls.to (hs) ?_ | refine ZCalls.tf (hs) ?_) | (first | refine ZCalls.to (ha) ?_ | refine ZCalls.tf (ha) ?_) | with_reducible refine And.intro (fun hc => ?_) (fun hc => ?_) | fail
        exact hQ.out _ _ (fv) (by exact exY)
      · rw [if_neg h1]
        have hb : decide (x > 20000) = false := decide_eq_false h1
        refine ZCalls.body Try.func50 rfl Try.ntmps50 (rs := [.tmp 4]) rfl (by simp) rfl fun H Q hQ A hA => ?_
        have a0 := hA 0 _ _ rfl
        have a1 := hA 1 _ _ rfl
        clear hA
        repeat' first | refine rnY ?_ | (first | refine ZCalls.to (hc) ?_ | refine ZCalls.tf (hc) ?_) | (first | refine ZCalls.to (hs) ?_ | refine ZCalls.tf (hs) ?_) | (first | refine ZCalls.to (ha) ?_ | refine ZCalls.tf (ha) ?_) | with_reducible refine And.intro (fun hc => ?_) (fun hc => ?_) | fail
        exact hQ.out _ _ (fv) (by exact exY)
    · rw [decide_eq_false (fun q : codeN T = 0 ∧ AdI T v => h1 q.2)] at hs
      rw [h] at hc
      rw [if_pos h, if_neg h1, if_neg (by decide)]
      clear h h1
      refine ZCalls.body Try.func50 rfl Try.ntmps50 (rs := [.tmp 4]) rfl (by simp) rfl fun H Q hQ A hA => ?_
      have a0 := hA 0 _ _ rfl
      have a1 := hA 1 _ _ rfl
      clear hA
      repeat' first | refine rnY ?_ | (first | refine ZCalls.to (hc) ?_ | refine ZCalls.tf (hc) ?_) | (first | refine ZCalls.to (hs) ?_ | refine ZCalls.tf (hs) ?_) | with_reducible refine And.intro (fun hc => ?_) (fun hc => ?_) | fail
      exact hQ.out _ _ (fv) (by exact exY)
  · rw [if_neg h, if_neg h]
    have hcb : (codeN T == 0) = false := by rw [beq_eq_false_iff_ne]; exact h
    clear hs
    generalize codeN T = k at *
    clear h
    refine ZCalls.body Try.func50 rfl Try.ntmps50 (rs := [.tmp 4]) rfl (by simp) rfl fun H Q hQ A hA => ?_
    have a0 := hA 0 _ _ rfl
    have a1 := hA 1 _ _ rfl
    clear hA
    repeat' first | refine rnY ?_ | (first | refine ZCalls.to (hc) ?_ | refine ZCalls.tf (hc) ?_) | with_reducible refine And.intro (fun hc => ?_) (fun hc => ?_) | fail
    exact hQ.out _ _ (fv) (by exact exY)
end Go.Proofs.Ytmoknllbpjpkmaa.Zed
namespace Go.Proofs.Ytmoknllbpjpkmaa.Zed
open Go TP
set_option linter.unusedVariables false
set_option linter.unusedSimpArgs false
set_option maxRecDepth 20000
/-! The parts of a vector, one after the other. -/
/-- The next vector. -/
def nxU : List Int → List Int → Option (List Int)
  | [], _ => none
  | a :: u, v => match nxU u v.tail with
    | some u' => some (a :: u')
    | none => if a = v.headD 0 then none else some ((a + 1) :: List.replicate u.length 0)
/-- One more than the last place below k that is not full; 0: all are full. -/
def ln (u v : List Int) : Nat → Nat
  | 0 => 0
  | k + 1 => if u.getD k 0 = v.getD k 0 then ln u v k else k + 1
/-- 0 from place i on. -/
def zf (u : List Int) (i : Nat) : List Int := u.take i ++ List.replicate (u.length - i) 0
theorem ln_cons (a b : Int) (u v : List Int) : ∀ k, ln (a :: u) (b :: v) (k + 1) = if ln u v k = 0 then (if a = b then 0 else 1) else ln u v k + 1
  | 0 => by simp [ln]
  | k + 1 => by
    have ih := ln_cons a b u v k
    show (if (a :: u).getD (k + 1) 0 = (b :: v).getD (k + 1) 0 then ln (a :: u) (b :: v) (k + 1) else k + 1 + 1) = _
    rw [ih]
    show (if u.getD k 0 = v.getD k 0 then (if ln u v k = 0 then (if a = b then 0 else 1) else ln u v k + 1) else k + 1 + 1) = if (if u.getD k 0 = v.getD k 0 then ln u v k else k + 1) = 0 then (if a = b then 0 else 1) else (if u.getD k 0 = v.getD k 0 then ln u v k else k + 1) + 1
    by_cases h : u.getD k 0 = v.getD k 0
    · simp only [if_pos h]
    · simp only [if_neg h]; rw [if_neg (by omega)]
theorem ln_le (u v : List Int) : ∀ k, ln u v k ≤ k
  | 0 => Nat.le_refl _
  | k + 1 => by have := ln_le u v k; unfold ln; split <;> omega
theorem zf_len (u : List Int) (i : Nat) : (zf u i).length = u.length := by simp [zf]; omega
theorem nx_ln : ∀ (u v : List Int), u.length = v.length → nxU u v = if ln u v u.length = 0 then none else some ((zf u (ln u v u.length)).set (ln u v u.length - 1) (u.getD (ln u v u.length - 1) 0 + 1))
  | [], v, _ => by simp [nxU, ln]
  | a :: u, [], h => by simp at h
  | a :: u, b :: v, h => by
    have ih := nx_ln u v (by simpa using h)
    have hl := ln_cons a b u v u.length
    have hle := ln_le u v u.length
    show (match nxU u v with | some u' => some (a :: u') | none => if a = b then none else some ((a + 1) :: List.replicate u.length 0)) = _
    rw [ih, List.length_cons, hl]
    by_cases h0 : ln u v u.length = 0
    · rw [if_pos h0]
      simp only [h0, if_true]
      by_cases hab : a = b
      · rw [if_pos hab, if_pos hab]; rfl
      · rw [if_neg hab, if_neg hab]; simp [zf]
    · rw [if_neg h0, if_neg h0]
      obtain ⟨j, hj⟩ : ∃ j, ln u v u.length = j + 1 := ⟨ln u v u.length - 1, by omega⟩
      rw [hj]
      simp [zf]
/-- All vectors, in order. -/
def allU : List Int → List (List Int)
  | [] => [[]]
  | x :: v => (List.range (x.toNat + 1)).flatMap fun (a : Nat) => (allU v).map fun u => (a : Int) :: u
/-- Each one's next is the one behind it; the last one's is e. -/
def Lnk {α : Type} (f : α → Option α) : List α → Option α → Prop
  | [], _ => True
  | a :: l, e => f a = l.head?.or e ∧ Lnk f l e
theorem Lnk.append {α : Type} {f : α → Option α} {e : Option α} {l2 : List α} : ∀ {l1 : List α}, Lnk f l1 (l2.head?.or e) → Lnk f l2 e → Lnk f (l1 ++ l2) e
  | [], _, h => h
  | a :: l1, h, g => ⟨by
      rw [h.1]
      cases l1 with
      | nil => simp
      | cons b l1 => simp, Lnk.append h.2 g⟩
theorem Lnk.get {α : Type} {f : α → Option α} : ∀ {l : List α} {n : Nat} {a : α}, Lnk f l none → l[n]? = some a → f a = l[n + 1]?
  | b :: l, 0, a, h, e => by
    simp at e
    rw [← e, h.1]
    simp [List.head?_eq_getElem?]
  | b :: l, n + 1, a, h, e => by
    have := Lnk.get h.2 (by simpa using e)
    simpa using this
theorem allU_head : ∀ v : List Int, (allU v).head? = some (List.replicate v.length 0)
  | [] => rfl
  | x :: v => by
    have ih := allU_head v
    obtain ⟨t, ht⟩ : ∃ t, allU v = List.replicate v.length 0 :: t := by
      cases h : allU v with
      | nil => rw [h] at ih; cases ih
      | cons a t => rw [h] at ih; simp at ih; exact ⟨t, by rw [ih]⟩
    unfold allU
    rw [List.range_succ_eq_map, List.flatMap_cons, ht]
    simp [List.replicate_succ]
theorem nx_cons (a b : Int) (u v : List Int) : nxU (a :: u) (b :: v) = (match nxU u v with | some u' => some (a :: u') | none => if a = b then none else some ((a + 1) :: List.replicate u.length 0)) := rfl
theorem allU_len : ∀ (v u : List Int), u ∈ allU v → u.length = v.length
  | [], u, h => by simp [allU] at h; rw [h]
  | x :: v, u, h => by
    unfold allU at h
    rw [List.mem_flatMap] at h
    obtain ⟨a, _, h⟩ := h
    obtain ⟨w, hw, rfl⟩ := List.mem_map.1 h
    simp [allU_len v w hw]
theorem Lnk.map_cons {v : List Int} (a b : Int) : ∀ {l : List (List Int)}, (∀ u ∈ l, u.length = v.length) → Lnk (fun u => nxU u v) l none → Lnk (fun u => nxU u (b :: v)) (l.map fun u => a :: u) (if a = b then none else some ((a + 1) :: List.replicate v.length 0))
  | [], _, _ => trivial
  | u :: l, hl, h => by
    refine ⟨?_, Lnk.map_cons a b (fun u hu => hl u (List.mem_cons_of_mem _ hu)) h.2⟩
    show nxU (a :: u) (b :: v) = _
    have h1 : nxU u v = l.head?.or none := h.1
    rw [nx_cons, h1]
    cases l with
    | nil => simp [hl u (List.mem_cons_self ..)]
    | cons w l => simp
theorem allU_lnk : ∀ v : List Int, (∀ x ∈ v, 0 ≤ x) → Lnk (fun u => nxU u v) (allU v) none
  | [], _ => ⟨rfl, trivial⟩
  | x :: v, h => by
    have ih := allU_lnk v (fun y hy => h y (List.mem_cons_of_mem _ hy))
    have hx := h x (List.mem_cons_self ..)
    obtain ⟨m, rfl⟩ : ∃ m : Nat, x = m := ⟨x.toNat, by omega⟩
    have hd := allU_head v
    have key : ∀ d a : Nat, a + d = m → Lnk (fun u => nxU u ((m : Int) :: v)) ((List.range' a (d + 1)).flatMap fun (a : Nat) => (allU v).map fun u => (a : Int) :: u) none := by
      intro d
      induction d with
      | zero =>
        intro a ha
        have := Lnk.map_cons (a : Int) (m : Int) (allU_len v) ih
        rw [if_pos (by omega)] at this
        simpa using this
      | succ d ihd =>
        intro a ha
        have h1 := Lnk.map_cons (a : Int) (m : Int) (allU_len v) ih
        rw [if_neg (by omega)] at h1
        have h2 := ihd (a + 1) (by omega)
        rw [List.range'_succ, List.flatMap_cons]
        refine Lnk.append ?_ h2
        have e : ((List.range' (a + 1) (d + 1)).flatMap fun (a : Nat) => (allU v).map fun u => (a : Int) :: u).head? = some (((a : Int) + 1) :: List.replicate v.length 0) := by
          rw [List.range'_succ, List.flatMap_cons]
          cases hv : allU v with
          | nil => rw [hv] at hd; cases hd
          | cons w t => rw [hv] at hd; simp at hd; simp [hd]
        rw [e]; exact h1
    have := key m 0 (by omega)
    unfold allU
    rw [Int.toNat_natCast, List.range_eq_range']
    exact this
/-- In the vector. -/
def LeL (u v : List Int) : Prop := u.length = v.length ∧ ∀ i, i < v.length → 0 ≤ u.getD i 0 ∧ u.getD i 0 ≤ v.getD i 0
theorem mem_allU : ∀ (v u : List Int), (∀ x ∈ v, 0 ≤ x) → (u ∈ allU v ↔ LeL u v)
  | [], u, _ => by
    simp only [allU, List.mem_singleton, LeL, List.length_nil]
    exact ⟨fun h => ⟨by rw [h]; rfl, fun i hi => by omega⟩, fun h => List.eq_nil_of_length_eq_zero h.1⟩
  | x :: v, u, h => by
    have ih := fun w => mem_allU v w (fun y hy => h y (List.mem_cons_of_mem _ hy))
    have hx := h x (List.mem_cons_self ..)
    unfold allU
    rw [List.mem_flatMap]
    constructor
    · rintro ⟨a, ha, hu⟩
      obtain ⟨w, hw, rfl⟩ := List.mem_map.1 hu
      obtain ⟨q1, q2⟩ := (ih w).1 hw
      have := List.mem_range.1 ha
      refine ⟨by simp [q1], fun i hi => ?_⟩
      cases i with
      | zero => simp; omega
      | succ i => simpa using q2 i (by simpa using hi)
    · rintro ⟨q1, q2⟩
      cases u with
      | nil => simp at q1
      | cons a w =>
        have h0 := q2 0 (by simp)
        simp at h0
        refine ⟨a.toNat, List.mem_range.2 (by omega), List.mem_map.2 ⟨w, (ih w).2 ⟨by simpa using q1, fun i hi => ?_⟩, by rw [Int.toNat_of_nonneg h0.1]⟩⟩
        simpa using q2 (i + 1) (by simpa using hi)
/-- Before, letter by letter. -/
def lxU (u w : List Int) : Prop := ∃ i, (∀ j, j < i → u.getD j 0 = w.getD j 0) ∧ u.getD i 0 < w.getD i 0
theorem lx_irr (u : List Int) : ¬ lxU u u := fun ⟨i, _, h⟩ => by omega
theorem lx_asym {u w : List Int} (h : lxU u w) : ¬ lxU w u := by
  rintro ⟨j, h1, h2⟩
  obtain ⟨i, h3, h4⟩ := h
  rcases Nat.lt_trichotomy i j with h | h | h
  · have := h1 i h; omega
  · subst h; omega
  · have := h3 j h; omega
theorem lx_le {u w : List Int} (h : LeL u w) (hne : u ≠ w) : lxU u w := by
  have hex : ∃ i, i < w.length ∧ u.getD i 0 ≠ w.getD i 0 := by
    refine Classical.byContradiction fun hn => hne ?_
    refine List.ext_getElem h.1 fun i h1 h2 => ?_
    refine Classical.byContradiction fun hc => hn ⟨i, h2, fun e => hc ?_⟩
    simpa [h1, h2] using e
  have key : ∀ n, (∃ i, i < n ∧ i < w.length ∧ u.getD i 0 ≠ w.getD i 0) → lxU u w := by
    intro n
    induction n with
    | zero => rintro ⟨i, h, _⟩; omega
    | succ n ih =>
      rintro ⟨i, h1, h2, h3⟩
      by_cases hn : ∃ i, i < n ∧ i < w.length ∧ u.getD i 0 ≠ w.getD i 0
      · exact ih hn
      · have e : i = n := by
          rcases Nat.lt_or_ge i n with hh | hh
          · exact absurd ⟨i, hh, h2, h3⟩ hn
          · omega
        subst e
        refine ⟨i, fun j hj => Classical.byContradiction fun hc => hn ⟨j, hj, by omega, hc⟩, ?_⟩
        have := (h.2 i h2).2
        omega
  obtain ⟨i, h1, h2⟩ := hex
  exact key (i + 1) ⟨i, by omega, h1, h2⟩
theorem allU_sorted : ∀ v : List Int, (allU v).Pairwise lxU
  | [] => by simp [allU]
  | x :: v => by
    have ih := allU_sorted v
    unfold allU
    rw [List.pairwise_flatMap]
    refine ⟨fun a _ => ?_, ?_⟩
    · rw [List.pairwise_map]
      refine ih.imp fun {u w} h => ?_
      obtain ⟨i, h1, h2⟩ := h
      refine ⟨i + 1, fun j hj => ?_, by simpa using h2⟩
      cases j with
      | zero => rfl
      | succ j => simpa using h1 j (by omega)
    · refine List.pairwise_lt_range.imp fun {a b} hab u hu w hw => ?_
      obtain ⟨u', _, rfl⟩ := List.mem_map.1 hu
      obtain ⟨w', _, rfl⟩ := List.mem_map.1 hw
      exact ⟨0, fun j hj => by omega, by simpa using hab⟩
/-- The solutions among the parts. -/
def PL (sv : List Int → Bool) (v : List Int) : List (List Int) := (allU v).filter sv
section
variable {sv : List Int → Bool} {v : List Int}
theorem PL_sorted : (PL sv v).Pairwise lxU := (allU_sorted v).filter _
theorem PL_mem (h : ∀ x ∈ v, 0 ≤ x) {u : List Int} : u ∈ PL sv v ↔ LeL u v ∧ sv u = true := by
  unfold PL; rw [List.mem_filter, mem_allU v u h]
theorem PL_head (h0 : sv (List.replicate v.length 0) = true) : ∃ t, PL sv v = List.replicate v.length 0 :: t := by
  have hd := allU_head v
  unfold PL
  cases hv : allU v with
  | nil => rw [hv] at hd; cases hd
  | cons w t => rw [hv] at hd; simp at hd; subst hd; rw [List.filter_cons_of_pos h0]; exact ⟨_, rfl⟩
/-- Behind the vector itself there is nothing. -/
theorem PL_last (h : ∀ x ∈ v, 0 ≤ x) {n : Nat} (hn : (PL sv v)[n]? = some v) : (PL sv v).length = n + 1 := by
  obtain ⟨hlt, hg⟩ := List.getElem?_eq_some_iff.1 hn
  refine Classical.byContradiction fun hc => ?_
  have h2 : n + 1 < (PL sv v).length := by omega
  have h3 := List.pairwise_iff_getElem.1 (PL_sorted (sv := sv) (v := v)) n (n + 1) hlt h2 (by omega)
  rw [hg] at h3
  have h4 := ((PL_mem h).1 (List.getElem_mem h2)).1
  by_cases e : (PL sv v)[n + 1] = v
  · rw [e] at h3; exact lx_irr _ h3
  · exact lx_asym h3 (lx_le h4 e)
end
end Go.Proofs.Ytmoknllbpjpkmaa.Zed
namespace Go.Proofs.Ytmoknllbpjpkmaa.Zed
open Go TP
set_option linter.unusedVariables false
set_option linter.unusedSimpArgs false
set_option maxRecDepth 20000
namespace tfY8
theorem tf : (Try.prog.underlying 25 = some (.slice 2)) ∧ (el Try.prog 25 = some (none, 1)) ∧ (tk Try.prog 2 = some none) ∧ (cz Try.prog 2 = some 1) ∧ (bz Try.prog 2 = some 8) ∧ (zr Try.prog 2 = some (.int .i64 0)) := by
  refine ⟨?_, ?_, ?_, ?_, ?_, ?_⟩ <;> kernel_rfl
end tfY8
open tfY8

theorem abs_z (x : Int) (hx : 0 ≤ x) : ZCalls Try.prog 142 [I x] (I x) := by
  have hb : decide (x < 0) = false := decide_eq_false (by omega)
  refine ZCalls.body Try.func142 rfl Try.ntmps142 (rs := [.tmp 2]) rfl (by simp) rfl fun H Q hQ A hA => ?_
  have a0 := hA 0 _ _ rfl
  clear hA
  repeat' first | refine rnY ?_ | with_reducible refine And.intro (fun hc => ?_) (fun hc => ?_) | fail
  exact hQ.out _ _ (fv) (by exact exY)
set_option maxHeartbeats 2000000 in
theorem gcd_z (a b : Nat) (ha : a ≤ 1000000) (hb : b ≤ 1000000) : ZCalls Try.prog 105 [I a, I b] (I (Nat.gcd a b)) := by
  have h1 := abs_z a (by omega)
  have h2 := abs_z b (by omega)
  refine ZCalls.body Try.func105 rfl Try.ntmps105 (rs := [.tmp 4]) rfl (by simp) rfl fun H Q hQ A hA => ?_
  have a0 := hA 0 _ _ rfl
  have a1 := hA 1 _ _ rfl
  clear hA
  repeat' first | refine rnY ?_ | (first | refine ZCalls.to (h1) ?_ | refine ZCalls.tf (h1) ?_) | (first | refine ZCalls.to (h2) ?_ | refine ZCalls.tf (h2) ?_) | with_reducible refine And.intro (fun hc => ?_) (fun hc => ?_) | fail
  refine AWp.cut (fun Ac hAc => ?_)
  have c0 := gtY (t := 0) hAc
  have c1 := gtY (t := 1) hAc
  clear a0 a1 h1 h2
  refine AWp.loop (fun A' H' => ∃ (x : Nat) (y : Nat), Ag [9, 10, 11, 12, 13, 14] A' (put (put Ac (some 0) (I x)) (some 1) (I y)) ∧ x ≤ 1000000 ∧ y ≤ 1000000 ∧ Nat.gcd x y = Nat.gcd a b ∧ Ext H H') (fun A' _ => (intV (A' 1)).toNat) ?_ ?_
  · exact ⟨a, b, agY, by omega, by omega, rfl, by exact exY⟩
  · rintro A1 H1 ⟨x, y, hA1, hx1, hy1, hg, hx⟩
    have d0 := gdY (t := 0) hA1
    have d1 := gdY (t := 1) hA1
    by_cases hy : y = 0
    · subst hy
      have hbb : (((0 : Nat) : Int) == 0) = true := rfl
      rw [Nat.gcd_zero_right] at hg
      rw [← hg] at hQ
      clear hg
      repeat' first | refine rnY ?_ | with_reducible refine And.intro (fun hc => ?_) (fun hc => ?_) | fail
      exact hQ.out _ _ (fv) (by exact exY)
    · have hbb : ((y : Int) == 0) = false := by rw [beq_eq_false_iff_ne]; omega
      have hlt := Nat.mod_lt x (Nat.pos_of_ne_zero hy)
      have hm : ((x : Int) % (y : Int)) = ((x % y : Nat) : Int) := by omega
      have hm2 : Int.tmod (x : Int) (y : Int) = ((x % y : Nat) : Int) := by rw [Int.tmod_eq_emod_of_nonneg (by omega)]; exact hm
      have hg2 : Nat.gcd y (x % y) = Nat.gcd a b := by
        have h1 := Nat.gcd_rec y x
        rw [← hg, Nat.gcd_comm x y, h1, Nat.gcd_comm]
      have hy0 : 0 < y := by omega
      clear hy hm
      repeat' first | refine rnY ?_ | with_reducible refine And.intro (fun hc => ?_) (fun hc => ?_) | fail
      refine AWp.zreg [(0, none), (1, none), (2, none), (3, none), (4, none), (5, none)] mixed (by kernel_rfl) ?_
      repeat' first | refine rzY ?_ | fail
      repeat' first | refine rnY ?_ | with_reducible refine And.intro (fun hc => ?_) (fun hc => ?_) | fail
      exact ⟨⟨y, x % y, agY, by omega, by omega, hg2, by exact exY⟩, by exact ivY⟩
/-- The greatest common divisor of the elements below k. -/
def gT (l : List Int) : Nat → Nat
  | 0 => 0
  | k + 1 => Nat.gcd (gT l k) (l.getD k 0).toNat
theorem gT_bd {l : List Int} (h : ∀ j, 0 ≤ l.getD j 0 ∧ l.getD j 0 ≤ 1000) : ∀ k, gT l k ≤ 1000
  | 0 => by simp [gT]
  | k + 1 => by
    have ih := gT_bd h k
    have hk := h k
    unfold gT
    by_cases h0 : gT l k = 0
    · rw [h0, Nat.gcd_zero_left]; omega
    · exact Nat.le_trans (Nat.gcd_le_left _ (by omega)) ih
theorem gT_zero {l : List Int} (h : ∀ j, 0 ≤ l.getD j 0) : ∀ k, gT l k = 0 ↔ ∀ j, j < k → l.getD j 0 = 0
  | 0 => by simp [gT]
  | k + 1 => by
    have ih := gT_zero h k
    have hk := h k
    unfold gT
    rw [Nat.gcd_eq_zero_iff, ih]
    constructor
    · rintro ⟨h1, h2⟩ j hj
      rcases Nat.lt_or_ge j k with h | h
      · exact h1 j h
      · obtain rfl : j = k := by omega
        omega
    · intro h1
      exact ⟨fun j hj => h1 j (by omega), by rw [h1 k (by omega)]; rfl⟩
set_option maxHeartbeats 2000000 in
theorem gcdOf_z {l : List Int} (hl : l.length ≤ 1048576) (h : ∀ j, 0 ≤ l.getD j 0 ∧ l.getD j 0 ≤ 1000) : ZCalls Try.prog 54 [zI l] (I (gT l l.length)) := by
  have hst : ∀ k, gT l (k + 1) = Nat.gcd (gT l k) (l.getD k 0).toNat := fun k => rfl
  have hbd := gT_bd h
  have h0 : gT l 0 = 0 := rfl
  refine ZCalls.body Try.func54 rfl Try.ntmps54 (rs := [.tmp 2]) rfl (by simp) rfl fun H Q hQ A hA => ?_
  have a0 := hA 0 _ _ rfl
  clear hA
  repeat' first | refine rnY ?_ | with_reducible refine And.intro (fun hc => ?_) (fun hc => ?_) | fail
  refine AWp.cut (fun Ac hAc => ?_)
  have c6 := gtY (t := 6) hAc
  have c7 := gtY (t := 7) hAc
  have c3 := gtY (t := 3) hAc
  have c8 := gtY (t := 8) hAc
  clear a0
  refine AWp.loop (fun A' H' => ∃ (k : Nat), Ag [5, 9, 10, 11, 12, 13, 14, 15] A' (put (put Ac (some 3) (I (gT l k))) (some 8) (I k)) ∧ k ≤ l.length ∧ Ext H H') (fun A' _ => l.length - (intV (A' 8)).toNat) ?_ ?_
  · exact ⟨0, by rw [h0]; exact agY, by omega, by exact exY⟩
  · rintro A1 H1 ⟨k, hA1, hk, hx⟩
    have d3 := gdY (t := 3) hA1
    have d6 := gdY (t := 6) hA1
    have d7 := gdY (t := 7) hA1
    have d8 := gdY (t := 8) hA1
    by_cases hlt : k < l.length
    · have hst := hst k
      have hb := hbd k
      have hlk := h k
      obtain ⟨x, hx1⟩ : ∃ x : Nat, l.getD k 0 = x := ⟨(l.getD k 0).toNat, by omega⟩
      rw [hx1, Int.toNat_natCast] at hst
      rw [hx1] at hlk
      have hg := gcd_z (gT l k) x (by omega) (by omega)
      rw [← hst] at hg
      clear hbd h h0 hst
      generalize gT l k = g at *
      repeat' first | refine rnY ?_ | (first | refine ZCalls.to (hg) ?_ | refine ZCalls.tf (hg) ?_) | with_reducible refine And.intro (fun hc => ?_) (fun hc => ?_) | fail
      exact ⟨⟨k + 1, agY, by omega, by exact exY⟩, by exact ivY⟩
    · obtain rfl : k = l.length := by omega
      clear hst hbd h
      repeat' first | refine rnY ?_ | with_reducible refine And.intro (fun hc => ?_) (fun hc => ?_) | fail
      exact hQ.out _ _ (fv) (by exact exY)
set_option maxHeartbeats 2000000 in
theorem clone_o {l : List Int} (hl : l.length ≤ 100000) (h0 : 0 < l.length) : OCalls Try.prog 79 [zI l] (zI l) := by
  refine OCalls.body Try.func79 rfl Try.ntmps79 (rs := [.tmp 2]) rfl (by simp) rfl fun H Q hQ A hA => ?_
  have a0 := hA 0 _ _ rfl
  clear hA
  repeat' first | refine rnY ?_ | (refine appI (cs := []) (by exact ivY) (by simp) rfl (by omega) (by omega) ?_) | with_reducible refine And.intro (fun hc => ?_) (fun hc => ?_) | fail
  exact hQ.out _ _ ((OwnB.ints (lo := H.size) (hi := H.size + 1 + 1) (by omega) (by omega) rfl (get_push_eq (by simp only [nx]))).out) (by exact exY)
set_option maxHeartbeats 2000000 in
theorem equal_z {l m : List Int} (hl : l.length ≤ 1048576) (hm : m.length ≤ 1048576) : ZCalls Try.prog 55 [zI l, zI m] (B (decide (l = m))) := by
  by_cases hn : l.length = m.length
  · have hnb : ((l.length : Int) == (m.length : Int)) = true := by rw [beq_iff_eq]; omega
    have hno : ∀ j, j < l.length → l.getD j 0 ≠ m.getD j 0 → decide (l = m) = false := fun j hj h => decide_eq_false fun e => h (by rw [e])
    have hyes : (∀ j, j < l.length → l.getD j 0 = m.getD j 0) → decide (l = m) = true := fun h => decide_eq_true (List.ext_getElem hn fun i h1 h2 => by
      have := h i h1
      simpa [h1, h2] using this)
    generalize decide (l = m) = out at *
    refine ZCalls.body Try.func55 rfl Try.ntmps55 (rs := [.tmp 4]) rfl (by simp) rfl fun H Q hQ A hA => ?_
    have a0 := hA 0 _ _ rfl
    have a1 := hA 1 _ _ rfl
    clear hA
    repeat' first | refine rnY ?_ | with_reducible refine And.intro (fun hc => ?_) (fun hc => ?_) | fail
    refine AWp.cut (fun Ac hAc => ?_)
    have c0 := gtY (t := 0) hAc
    have c1 := gtY (t := 1) hAc
    have c12 := gtY (t := 12) hAc
    have c13 := gtY (t := 13) hAc
    clear a0 a1 hnb
    refine AWp.loop (fun A' H' => ∃ (k : Nat), Ag [5, 14, 15, 16, 17, 18, 19, 20, 21, 22, 23, 24, 25] A' (put Ac (some 13) (I k)) ∧ k ≤ l.length ∧ (∀ j, j < k → l.getD j 0 = m.getD j 0) ∧ Ext H H') (fun A' _ => l.length - (intV (A' 13)).toNat) ?_ ?_
    · exact ⟨0, agY, by omega, fun j hj => by omega, by exact exY⟩
    · rintro A1 H1 ⟨k, hA1, hk, hal, hx⟩
      have d0 := gdY (t := 0) hA1
      have d1 := gdY (t := 1) hA1
      have d12 := gdY (t := 12) hA1
      have d13 := gdY (t := 13) hA1
      by_cases hlt : k < l.length
      · have hno := hno k hlt
        clear hyes
        by_cases he : l.getD k 0 = m.getD k 0
        · have heb : (l.getD k 0 == m.getD k 0) = true := by rw [beq_iff_eq]; exact he
          have hal2 : ∀ j, j < k + 1 → l.getD j 0 = m.getD j 0 := fun j hj => by
            rcases Nat.lt_or_ge j k with h | h
            · exact hal j h
            · obtain rfl : j = k := by omega
              exact he
          clear he hno hal
          repeat' first | refine rnY ?_ | with_reducible refine And.intro (fun hc => ?_) (fun hc => ?_) | fail
          refine AWp.zreg [(0, none), (1, none), (2, none), (3, none), (4, none), (5, none), (6, none), (7, none), (8, none)] mixed (by kernel_rfl) ?_
          repeat' first | refine rzY ?_ | fail
          repeat' first | refine rnY ?_ | with_reducible refine And.intro (fun hc => ?_) (fun hc => ?_) | fail
          exact ⟨⟨k + 1, agY, by omega, hal2, by exact exY⟩, by exact ivY⟩
        · have heb : (l.getD k 0 == m.getD k 0) = false := by rw [beq_eq_false_iff_ne]; exact he
          have hout := hno he
          clear he hno hal
          repeat' first | refine rnY ?_ | with_reducible refine And.intro (fun hc => ?_) (fun hc => ?_) | fail
          refine AWp.zreg [(0, none), (1, none), (2, none), (3, none), (4, none), (5, none), (6, none), (7, none), (8, none)] mixed (by kernel_rfl) ?_
          repeat' first | refine rzY ?_ | fail
          repeat' first | refine rnY ?_ | with_reducible refine And.intro (fun hc => ?_) (fun hc => ?_) | fail
          exact hQ.out _ _ (.eq (Cl.bool _) (by rw [hout])) (by exact exY)
      · obtain rfl : k = l.length := by omega
        have hout := hyes hal
        clear hyes hal hno
        repeat' first | refine rnY ?_ | with_reducible refine And.intro (fun hc => ?_) (fun hc => ?_) | fail
        exact hQ.out _ _ (.eq (Cl.bool _) (by rw [hout])) (by exact exY)
  · have hnb : ((l.length : Int) == (m.length : Int)) = false := by rw [beq_eq_false_iff_ne]; omega
    rw [decide_eq_false (fun e : l = m => hn (by rw [e]))]
    clear hn
    refine ZCalls.body Try.func55 rfl Try.ntmps55 (rs := [.tmp 4]) rfl (by simp) rfl fun H Q hQ A hA => ?_
    have a0 := hA 0 _ _ rfl
    have a1 := hA 1 _ _ rfl
    clear hA
    repeat' first | refine rnY ?_ | with_reducible refine And.intro (fun hc => ?_) (fun hc => ?_) | fail
    exact hQ.out _ _ (fv) (by exact exY)
/-- The answer of l20Next. -/
def nextV (u v : List Int) : Value := match nxU u v with
  | some u' => .tuple #[zI u', B true]
  | none => .tuple #[zI [], B false]
theorem zf_get (u : List Int) (k j : Nat) (hk : k ≤ u.length) : (zf u k).getD j 0 = if j < k then u.getD j 0 else 0 := by
  unfold zf
  simp only [List.getD_eq_getElem?_getD, List.getElem?_append, List.length_take, List.getElem?_take, List.getElem?_replicate]
  by_cases h : j < k
  · rw [if_pos (by omega), if_pos h, if_pos h]
  · rw [if_neg (by omega), if_neg h]
    split <;> rfl
theorem getD_setM {l : List Int} {i j : Nat} {x : Int} (hi : i < l.length) : (l.set i x).getD j 0 = if j = i then x else l.getD j 0 := by
  simp only [List.getD_eq_getElem?_getD, List.getElem?_set]
  by_cases h : i = j
  · subst h; simp [hi]
  · rw [if_neg h, if_neg (fun e => h e.symm)]
theorem zf_zero (u : List Int) (k : Nat) (hk : k < u.length) : (zf u (k + 1)).set k 0 = zf u k := by
  refine List.ext_getElem (by simp [zf_len]) fun i h1 h2 => ?_
  have e1 : ((zf u (k + 1)).set k 0)[i] = ((zf u (k + 1)).set k 0).getD i 0 := by rw [List.getD_eq_getElem?_getD, List.getElem?_eq_getElem h1]; rfl
  have e2 : (zf u k)[i] = (zf u k).getD i 0 := by rw [List.getD_eq_getElem?_getD, List.getElem?_eq_getElem h2]; rfl
  rw [e1, e2, getD_setM (by rw [zf_len]; exact hk), zf_get _ _ _ (by omega), zf_get _ _ _ (by omega)]
  by_cases h : i = k
  · rw [if_pos h, if_neg (by omega)]
  · rw [if_neg h]
    by_cases h3 : i < k
    · rw [if_pos (by omega), if_pos h3]
    · rw [if_neg (by omega), if_neg h3]
theorem zf_all (u : List Int) : zf u u.length = u := by simp [zf]
set_option maxHeartbeats 4000000 in
theorem l20Next_z {u v : List Int} (hL : LeL u v) (hl : v.length ≤ 1000) (hb : ∀ j, v.getD j 0 ≤ 1000) : ZCalls Try.prog 85 [zI u, zI v] (nextV u v) := by
  have hnx := nx_ln u v hL.1
  have hul := hL.1
  have hst : ∀ k, ln u v (k + 1) = if u.getD k 0 = v.getD k 0 then ln u v k else k + 1 := fun k => rfl
  have h00 : ln u v 0 = 0 := rfl
  have hfin : ∀ k, ln u v u.length = ln u v k → k = 0 → nextV u v = .tuple #[zI [], B false] := fun k h1 h2 => by
    unfold nextV
    rw [hnx, h1, h2, h00]; rfl
  have hgo : ∀ k, ln u v u.length = k + 1 → nextV u v = .tuple #[zI ((zf u (k + 1)).set k (u.getD k 0 + 1)), B true] := fun k h1 => by
    unfold nextV
    rw [hnx, h1]; rfl
  have hLe := hL.2
  have hz := zf_all u
  generalize nextV u v = out at *
  clear hnx hL
  refine ZCalls.body Try.func85 rfl Try.ntmps85 (rs := [.tmp 4, .tmp 5]) rfl (by simp) rfl fun H Q hQ A hA => ?_
  have a0 := hA 0 _ _ rfl
  have a1 := hA 1 _ _ rfl
  clear hA
  by_cases h0 : u.length = 0
  · have hu0 : u = [] := List.eq_nil_of_length_eq_zero h0
    subst hu0
    have hf := hfin 0 rfl rfl
    clear hfin hgo hst hLe
    repeat' first | refine rnY ?_ | (refine appI0 (cs := []) (by exact ivY) (by simp) ?_) | (refine AWp.unroll ?_) | (refine AIn.step ?_) | with_reducible refine And.intro (fun hc => ?_) (fun hc => ?_) | fail
    rw [hf] at hQ
    exact hQ.out _ _ ((OwnB.tup (lo := H.size) (hi := H.size) (l := [.slice none 0 0, B false]) (l' := [zI [], B false]) (.cflats (OwnB.nilr 1) (fun x hx => by simp at hx; subst hx; rfl))).fin) (by exact exY)
  · repeat' first | refine rnY ?_ | (refine appI (cs := []) (by exact ivY) (by simp) rfl (by omega) (by omega) ?_) | with_reducible refine And.intro (fun hc => ?_) (fun hc => ?_) | fail
    refine AWp.cut (fun Ac hAc => ?_)
    have c1 := gtY (t := 1) hAc
    have c6 := gtY (t := 6) hAc
    have c7 := gtY (t := 7) hAc
    clear a0 a1
    refine AWp.loop (fun A' H' => ∃ (k : Nat), Ag [14, 15, 16, 17, 18, 19, 20, 21, 22, 23, 24, 25, 26, 27, 28, 29, 30, 31, 32, 33, 34, 35, 36] A' (put Ac (some 7) (I ((k : Int) - 1))) ∧ k ≤ u.length ∧ ln u v u.length = ln u v k ∧ H' = (H.push (.cells [] 1 false)).push (.cells (ints (zf u k)) 1 false)) (fun A' _ => ((intV (A' 7)) + 1).toNat) ?_ ?_
    · exact ⟨u.length, agY, by omega, rfl, by rw [hz]⟩
    · rintro A1 H1 ⟨k, hA1, hk, hln, rfl⟩
      have d1 := gdY (t := 1) hA1
      have d6 := gdY (t := 6) hA1
      have d7 := gdY (t := 7) hA1
      have hzl := zf_len u k
      by_cases hk0 : k = 0
      · subst hk0
        have hf := hfin 0 hln rfl
        clear hfin hgo hst hLe hz
        repeat' first | refine rnY ?_ | with_reducible refine And.intro (fun hc => ?_) (fun hc => ?_) | fail
        rw [hf] at hQ
        exact hQ.out _ _ ((OwnB.tup (lo := H.size) (hi := H.size) (l := [.slice none 0 0, B false]) (l' := [zI [], B false]) (.cflats (OwnB.nilr 1) (fun x hx => by simp at hx; subst hx; rfl))).fin) (by exact exY)
      · obtain ⟨i, rfl⟩ : ∃ i, k = i + 1 := ⟨k - 1, by omega⟩
        have hst := hst i
        have hgo := hgo i
        have hzz := zf_zero u i (by omega)
        have hzg := zf_get u (i + 1) i (by omega)
        rw [if_pos (by omega)] at hzg
        have hLi := hLe i (by omega)
        have hbi := hb i
        have hi1 : ((i + 1 : Nat) : Int) - 1 = i := by omega
        clear hfin hLe hz hb h00
        by_cases he : u.getD i 0 = v.getD i 0
        · rw [if_pos he] at hst
          have hb1 : decide (u.getD i 0 < v.getD i 0) = false := decide_eq_false (by omega)
          rw [hst] at hln
          clear he hgo hst
          repeat' first | refine rnY ?_ | with_reducible refine And.intro (fun hc => ?_) (fun hc => ?_) | fail
          refine AWp.zreg [(0, none), (1, none), (2, none), (3, none), (4, none), (5, none), (6, none), (7, none), (8, none)] mixed (by kernel_rfl) ?_
          repeat' first | refine rzY ?_ | fail
          repeat' first | refine rnY ?_ | with_reducible refine And.intro (fun hc => ?_) (fun hc => ?_) | fail
          exact ⟨⟨i, agY, by omega, hln, by rw [← hzz]⟩, by exact ivY⟩
        · rw [if_neg he] at hst
          have hb1 : decide (u.getD i 0 < v.getD i 0) = true := decide_eq_true (by omega)
          have hout := hgo (by rw [hln, hst])
          clear hgo hst hzz
          generalize zf u (i + 1) = Z at *
          repeat' first | refine rnY ?_ | with_reducible refine And.intro (fun hc => ?_) (fun hc => ?_) | fail
          refine AWp.zreg [(0, none), (1, none), (2, none), (3, none), (4, none), (5, none), (6, none), (7, none), (8, none)] mixed (by kernel_rfl) ?_
          repeat' first | refine rzY ?_ | fail
          repeat' first | refine rnY ?_ | with_reducible refine And.intro (fun hc => ?_) (fun hc => ?_) | fail
          rw [hout] at hQ
          have hZl : (Z.set i (u.getD i 0 + 1)).length = v.length := by rw [List.length_set]; omega
          have hO : OwnB H.size (H.size + 1 + 1) ((H.push (.cells [] 1 false)).push (.cells (ints (Z.set i (u.getD i 0 + 1))) 1 false)) [.slice (some ⟨H.size + 1, 0, none⟩) v.length 0] [zI (Z.set i (u.getD i 0 + 1))] := by
            unfold Zed.zI; rw [hZl]; exact OwnB.ints (by omega) (by omega) hZl (get_push_eq (by simp only [nx]))
          exact hQ.out _ _ ((OwnB.tup (l := [_, B true]) (l' := [zI (Z.set i (u.getD i 0 + 1)), B true]) (.cflats hO (fun x hx => by simp at hx; subst hx; rfl))).fin) (by exact exY)
end Go.Proofs.Ytmoknllbpjpkmaa.Zed
namespace Go.Proofs.Ytmoknllbpjpkmaa.Zed
open Go TP
set_option linter.unusedVariables false
set_option linter.unusedSimpArgs false
set_option maxRecDepth 20000
namespace tfY9
theorem tf : (Try.prog.underlying 25 = some (.slice 2)) ∧ (el Try.prog 25 = some (none, 1)) ∧ (Try.prog.underlying 51 = some (.slice 25)) ∧ (el Try.prog 51 = some (none, 1)) ∧ (tk Try.prog 2 = some none) ∧ (tk Try.prog 25 = some none) ∧ (tk Try.prog 31 = some (some 1)) ∧ (cz Try.prog 2 = some 1) ∧ (bz Try.prog 2 = some 8) ∧ (cz Try.prog 25 = some 1) ∧ (bz Try.prog 25 = some 24) ∧ (zr Try.prog 2 = some (.int .i64 0)) ∧ (zr Try.prog 25 = some (.slice none 0 0)) := by
  refine ⟨?_, ?_, ?_, ?_, ?_, ?_, ?_, ?_, ?_, ?_, ?_, ?_, ?_⟩ <;> kernel_rfl
end tfY9
open tfY9

/-- A vector solves the rows M. -/
def svM (M : List (List Int)) (n : Nat) (u : List Int) : Bool := decide (∀ r, r < M.length → dotL (M.getD r []) u n = 0)
set_option maxHeartbeats 2000000 in
theorem l20Solves_z {M : List (List Int)} {n : Nat} {u : List Int} (hM : ∀ r ∈ M, r.length = n) (hM2 : ∀ r ∈ M, ∀ j, -4 ≤ r.getD j 0 ∧ r.getD j 0 ≤ 4) (hMl : M.length ≤ 1000) (hn : n ≤ 1000) (hu : u.length = n) (hb : ∀ j, 0 ≤ u.getD j 0 ∧ u.getD j 0 ≤ 1000) :
    ZCalls Try.prog 84 [FZ 1 M.length (rowsZ n M), zI u] (B (svM M n u)) := by
  have hno : ∀ r, r < M.length → dotL (M.getD r []) u n ≠ 0 → svM M n u = false := fun r hr h => decide_eq_false fun q => h (q r hr)
  have hyes : (∀ r, r < M.length → dotL (M.getD r []) u n = 0) → svM M n u = true := fun h => decide_eq_true h
  generalize svM M n u = out at *
  have hrl := rowsZ_len n M
  have hrg : ∀ r, r < M.length → (rowsZ n M)[r]? = some (FZ 1 n (ints (M.getD r []))) := fun r hr => by simp [rowsZ, hr]
  generalize rowsZ n M = Z at *
  refine ZCalls.body Try.func84 rfl Try.ntmps84 (rs := [.tmp 4]) rfl (by simp) rfl fun H Q hQ A hA => ?_
  have a0 := hA 0 _ _ rfl
  have a1 := hA 1 _ _ rfl
  clear hA
  repeat' first | refine rnY ?_ | with_reducible refine And.intro (fun hc => ?_) (fun hc => ?_) | fail
  refine AWp.cut (fun Ac hAc => ?_)
  have c0 := gtY (t := 0) hAc
  have c1 := gtY (t := 1) hAc
  have c5 := gtY (t := 5) hAc
  clear a0 a1
  refine AWp.loop (fun A' H' => ∃ (k : Nat), Ag [6, 7, 8, 9, 10, 11, 12, 13, 14, 15, 16, 17, 18] A' (put Ac (some 5) (I k)) ∧ k ≤ M.length ∧ (∀ j, j < k → dotL (M.getD j []) u n = 0) ∧ Ext H H') (fun A' _ => M.length - (intV (A' 5)).toNat) ?_ ?_
  · exact ⟨0, agY, by omega, fun j hj => by omega, by exact exY⟩
  · rintro A1 H1 ⟨k, hA1, hk, hal, hx⟩
    have d0 := gdY (t := 0) hA1
    have d1 := gdY (t := 1) hA1
    have d5 := gdY (t := 5) hA1
    by_cases hlt : k < M.length
    · have hin : M.getD k [] ∈ M := by simp [hlt]
      have hd := l17Dot_z (a := M.getD k []) (b := u) (A := 4) (B' := 1000) (hM _ hin) (by omega) hn (by omega) (by omega) (by omega) (hM2 _ hin) (fun j => by have := hb j; omega)
      have hrg := hrg k hlt
      have hno := hno k hlt
      clear hM hM2 hyes hin hb
      by_cases he : dotL (M.getD k []) u n = 0
      · have heb : (dotL (M.getD k []) u n == 0) = true := by rw [beq_iff_eq]; exact he
        have hal2 : ∀ j, j < k + 1 → dotL (M.getD j []) u n = 0 := fun j hj => by
          rcases Nat.lt_or_ge j k with h | h
          · exact hal j h
          · obtain rfl : j = k := by omega
            exact he
        clear he hno hal
        repeat' first | refine rnY ?_ | (first | refine ZCalls.to (hd) ?_ | refine ZCalls.tf (hd) ?_) | with_reducible refine And.intro (fun hc => ?_) (fun hc => ?_) | fail
        exact ⟨⟨k + 1, agY, by omega, hal2, by exact exY⟩, by exact ivY⟩
      · have heb : (dotL (M.getD k []) u n == 0) = false := by rw [beq_eq_false_iff_ne]; exact he
        have hout := hno he
        clear he hno hal
        repeat' first | refine rnY ?_ | (first | refine ZCalls.to (hd) ?_ | refine ZCalls.tf (hd) ?_) | with_reducible refine And.intro (fun hc => ?_) (fun hc => ?_) | fail
        exact hQ.out _ _ (.eq (Cl.bool _) (by rw [hout])) (by exact exY)
    · obtain rfl : k = M.length := by omega
      have hout := hyes hal
      clear hyes hal hno hM hM2 hb hrg
      repeat' first | refine rnY ?_ | with_reducible refine And.intro (fun hc => ?_) (fun hc => ?_) | fail
      exact hQ.out _ _ (.eq (Cl.bool _) (by rw [hout])) (by exact exY)
theorem LeL.bd {u v : List Int} (h : LeL u v) (hb : ∀ j, v.getD j 0 ≤ 1000) : ∀ j, 0 ≤ u.getD j 0 ∧ u.getD j 0 ≤ 1000 := fun j => by
  by_cases hj : j < v.length
  · have := h.2 j hj
    have := hb j
    omega
  · have : u.getD j 0 = 0 := by rw [List.getD_eq_getElem?_getD, List.getElem?_eq_none (by have := h.1; omega)]; rfl
    omega
theorem nonneg_mem {v : List Int} (h : ∀ j, 0 ≤ v.getD j 0) : ∀ x ∈ v, 0 ≤ x := fun x hx => by
  obtain ⟨i, hi, rfl⟩ := List.getElem_of_mem hx
  have := h i
  simpa [hi] using this
/-- The solutions among the parts of v. -/
abbrev PT (T : List (List (Int × Int))) (v : List Int) : List (List Int) := PL (svM (mmR T) (7 * T.length)) v
set_option maxHeartbeats 8000000 in
theorem l20Parts_z {T : List (List (Int × Int))} (hT : IsTri T) (h6 : T.length ≤ 6) {v : List Int} (hv : v.length = 7 * T.length) (hb : ∀ j, 0 ≤ v.getD j 0 ∧ v.getD j 0 ≤ 1000) (hc : (allU v).length ≤ 100000) : ZCalls Try.prog 51 [zT T, zI v] (zII (PT T v)) := by
  have hrows := l17Rows_z hT.fine
  rw [rows_same hT] at hrows
  have hS := fun {u : List Int} (hu : LeL u v) => l20Solves_z (mmR_rows T) (mTs_bd T.length T T.length) (by have := mmR_len T; omega) (by omega) (hu.1.trans hv) (hu.bd fun j => (hb j).2)
  have hnn := nonneg_mem fun j => (hb j).1
  have hlk := fun n u => (Lnk.get (allU_lnk v hnn) (n := n) (a := u))
  have hmm : ∀ n u, (allU v)[n]? = some u → LeL u v := fun n u h => (mem_allU v u hnn).1 (List.mem_of_getElem? h)
  have hN := fun {u : List Int} (hu : LeL u v) => l20Next_z hu (by omega) (fun j => (hb j).2)
  have hhd := allU_head v
  rw [List.head?_eq_getElem?] at hhd
  have hpt : PT T v = (allU v).filter (svM (mmR T) (7 * T.length)) := rfl
  rw [hpt]
  rw [hv] at hhd
  generalize svM (mmR T) (7 * T.length) = sv at *
  generalize allU v = U at *
  generalize mmR T = M at *
  clear hT hpt hnn hb
  have hvl : v.length ≤ 42 := by omega
  obtain ⟨z0, hz0⟩ : ∃ z0, List.replicate (7 * T.length) (0 : Int) = z0 := ⟨_, rfl⟩
  have hz7 : z0.length = 7 * T.length := by rw [← hz0]; simp
  rw [hz0] at hhd
  refine ZCalls.body Try.func51 rfl Try.ntmps51 (rs := [.tmp 4]) rfl (by simp) rfl fun H Q hQ A hA => ?_
  have a0 := hA 0 _ _ rfl
  have a1 := hA 1 _ _ rfl
  clear hA
  have zf0 := @rep_ints
  have zf1 := @zero1
  repeat' first | refine rnY ?_ | (first | refine ZCalls.to (hrows) ?_ | refine ZCalls.tf (hrows) ?_) | with_reducible refine And.intro (fun hc => ?_) (fun hc => ?_) | fail
  refine AWp.growE (t := 6) 1 (by decide) (by exact ivY) ?_
  refine AWp.freezeI (t := 7) (g := H.size + 1) z0 z0.length (by exact ivY) (by exact ivY) rfl hz7.symm rfl ?_
  clear hz7
  refine AWp.cut (fun Ac hAc => ?_)
  have c1 := gtY (t := 1) hAc
  have c5 := gtY (t := 5) hAc
  have c6 := gtY (t := 6) hAc
  have c7 := gtY (t := 7) hAc
  have c8 := gtY (t := 8) hAc
  clear a0 a1 hrows hz0
  have ho0 : (U.take 0).filter sv = [] := rfl
  have hof : (U.take U.length).filter sv = U.filter sv := by rw [List.take_length]
  have hos : ∀ n u, U[n]? = some u → (U.take (n + 1)).filter sv = if sv u then (U.take n).filter sv ++ [u] else (U.take n).filter sv := fun n u h => by
    obtain ⟨h1, h2⟩ := List.getElem?_eq_some_iff.1 h
    rw [List.take_succ_eq_append_getElem h1, List.filter_append, h2]
    cases hs : sv u <;> simp [hs]
  have hol : ∀ n, ((U.take n).filter sv).length ≤ n := fun n => Nat.le_trans (List.length_filter_le _ _) (by rw [List.length_take]; omega)
  have hUp : 0 < U.length := (List.getElem?_eq_some_iff.1 hhd).1
  refine AWp.loopx (σ := Nat) (fun s A' H' => ∃ (n : Nat) (u : List Int) (b : Bool), Ag [15, 16, 17, 18, 19, 20, 21, 22, 23, 24, 25, 26, 27, 28] A' (put (put (put Ac (some 6) (GZ (H.size + 1 + 1) 1 ((U.take n).filter sv).length (((U.take n).filter sv).map fun r => zI r))) (some 7) (zI u)) (some 8) (B b)) ∧ s + n = U.length ∧ (n < U.length → U[n]? = some u ∧ b = true) ∧ (n = U.length → b = false) ∧ Ext H H' ∧ H'.get (H.size + 1 + 1) = .tok ((U.take n).filter sv).length 1 ∧ H.size + 1 + 1 < H'.size) (fun s => s) (U.length) ?_ ?_
  · refine ⟨0, z0, true, ?_, by omega, fun _ => ⟨hhd, rfl⟩, fun h => by omega, by exact exY, by rw [ho0]; exact ivY, by simp only [nx]; omega⟩
    rw [ho0]; exact agY
  · rintro s A1 H1 ⟨n, u, b, hA1, hsn, hb1, hb2, hx, htg, htz⟩
    have d1 := gdY (t := 1) hA1
    have d5 := gdY (t := 5) hA1
    have d6 := gdY (t := 6) hA1
    have d7 := gdY (t := 7) hA1
    have d8 := gdY (t := 8) hA1
    by_cases hlt : n < U.length
    · obtain ⟨hu, rfl⟩ := hb1 hlt
      have hS := hS (hmm n u hu)
      have hN := hN (hmm n u hu)
      have hlk := hlk n u hu
      have hos := hos n u hu
      have hol := hol n
      have hnext : ∃ u' b', nextV u v = .tuple #[zI u', B b'] ∧ (n + 1 < U.length → U[n + 1]? = some u' ∧ b' = true) ∧ (n + 1 = U.length → b' = false) := by
        unfold nextV
        rw [hlk]
        cases hg : U[n + 1]? with
        | none => exact ⟨[], false, rfl, fun h => (by rw [List.getElem?_eq_getElem h] at hg; cases hg), fun _ => rfl⟩
        | some u' => exact ⟨u', true, rfl, fun _ => ⟨rfl, rfl⟩, fun h => (by rw [List.getElem?_eq_none (by omega)] at hg; cases hg)⟩
      obtain ⟨u', b', hn1, hn2, hn3⟩ := hnext
      rw [hn1] at hN
      clear hn1 hlk hmm hb1 hb2 hof ho0 hhd
      generalize (U.take n).filter sv = R at *
      cases hs : sv u
      · rw [hs] at hS hos
        rw [if_neg (by decide)] at hos
        repeat' first | refine rnY ?_ | (first | refine ZCalls.to (hS) ?_ | refine ZCalls.tf (hS) ?_) | (first | refine ZCalls.to (hN) ?_ | refine ZCalls.tf (hN) ?_) | with_reducible refine And.intro (fun hc => ?_) (fun hc => ?_) | fail
        exact ⟨s - 1, ⟨n + 1, u', b', by rw [hos]; exact agY, by omega, hn2, hn3, by exact exY, by rw [hos]; exact ivY, by exact ivY⟩, by omega⟩
      · rw [hs] at hS hos
        rw [if_pos rfl] at hos
        repeat' first | refine rnY ?_ | (first | refine ZCalls.to (hS) ?_ | refine ZCalls.tf (hS) ?_) | (first | refine ZCalls.to (hN) ?_ | refine ZCalls.tf (hN) ?_) | with_reducible refine And.intro (fun hc => ?_) (fun hc => ?_) | fail
        exact ⟨s - 1, ⟨n + 1, u', b', by rw [hos]; exact agY, by omega, hn2, hn3, by exact exY, by rw [hos]; exact ivY, by exact ivY⟩, by omega⟩
    · obtain rfl : n = U.length := by omega
      obtain rfl := hb2 rfl
      clear hos hol ho0 hof hmm hlk hS hN hb1 hb2
      repeat' first | refine rnY ?_ | with_reducible refine And.intro (fun hc => ?_) (fun hc => ?_) | fail
      exact hQ.out _ _ (fv) (by exact exY)
end Go.Proofs.Ytmoknllbpjpkmaa.Zed
