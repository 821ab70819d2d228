/- A region that draws its order: a load's cells are held only until what waits for the load has come. -/
import Derived.Test.YtpbbfephfmdgmaaRaiP
namespace Go.Proofs.Ytpbbfephfmdgmaa.Rai
open Go
set_option linter.unusedVariables false
set_option linter.unusedSimpArgs false
section
variable {P : Program} {ops : Array Oper} {Q : Exit → Act → World → Prop}
/-- Does operation j wait for operation i? -/
def depB (ops : Array Oper) (j i : Nat) : Bool := match ops[j]? with
  | some o => o.after.any fun e => Region.binds .any e && e.on == i
  | none => false
abbrev Pend := List (Nat × (World → Prop))
/-- Whatever order is picked from here on; what is pending for a load holds behind every operation that need not wait for the load. -/
def wpAnyG (P : Program) (ops : Array Oper) (Q : Exit → Act → World → Prop) : Pend → Nat → Array Bool → Act → World → Prop
  | _, 0, listed, a, w => Region.ready .any ops listed = [] ∧ Q .normal a w
  | hs, fuel + 1, listed, a, w => (Region.ready .any ops listed = [] → Q .normal a w) ∧
    ∀ i ∈ Region.ready .any ops listed, wpOp P ops Q i (fun a' w' => (∀ h ∈ hs, depB ops i h.1 = false → h.2 w') ∧ wpAnyG P ops Q (hs.filter fun h => !depB ops i h.1) fuel (listed.setIfInBounds i true) a' w') a w
theorem wpAny_of_G : ∀ (fuel : Nat) (hs : Pend) (listed : Array Bool) (a : Act) (w : World), wpAnyG P ops Q hs fuel listed a w → wpAny P .any ops Q fuel listed a w
  | 0, _, _, _, _, h => by unfold wpAnyG at h; exact h
  | fuel + 1, hs, _, _, _, h => by
    unfold wpAnyG at h
    exact ⟨h.1, fun i hi => wpOp_mono (fun a' w' h' => wpAny_of_G fuel _ _ a' w' h'.2) (h.2 i hi)⟩
theorem wpAnyG_mono : ∀ (fuel : Nat) (hs hs' : Pend) (listed : Array Bool) (a : Act) (w : World), (∀ h ∈ hs, (∀ w, h.2 w) ∨ ∃ h' ∈ hs', h'.1 = h.1 ∧ ∀ w, h'.2 w → h.2 w) → wpAnyG P ops Q hs' fuel listed a w → wpAnyG P ops Q hs fuel listed a w
  | 0, _, _, _, _, _, _, h => by unfold wpAnyG at *; exact h
  | fuel + 1, hs, hs', listed, a, w, hm, h => by
    unfold wpAnyG at *
    refine ⟨h.1, fun i hi => wpOp_mono (fun a' w' h' => ⟨fun x hx hd => ?_, wpAnyG_mono fuel _ _ _ a' w' (fun x hx => ?_) h'.2⟩) (h.2 i hi)⟩
    · rcases hm x hx with ht | ⟨y, hy, e, hyx⟩
      · exact ht _
      · exact hyx _ (h'.1 y hy (by rw [e]; exact hd))
    · obtain ⟨hx1, hx2⟩ := List.mem_filter.1 hx
      rcases hm x hx1 with ht | ⟨y, hy, e, hyx⟩
      · exact .inl ht
      · exact .inr ⟨y, List.mem_filter.2 ⟨hy, by rw [e]; exact hx2⟩, e, hyx⟩
theorem wpAnyG_first {i : Nat} {oi : Oper} {v : Value} {S : World → Prop} (hi : ops[i]? = some oi) (hsel : ∀ (j : Nat) (o : Oper) cs b, ops[j]? = some o → o.op ≠ .select cs b)
    (hQ : ∀ c a w, Q (.panic c) (a.put oi.dst v) w → Q (.panic c) a w) :
    ∀ (fuel : Nat) (hs : Pend) (listed : Array Bool) (a : Act) (w : World),
      (∀ j oj, ops[j]? = some oj → j ≠ i → listed.getD j true = false → (∀ e ∈ oj.after, Region.binds .any e = true → e.on ≠ i) → oi.apart ops oj = true) →
      i ∈ Region.ready .any ops listed → YieldsIf P ops S oi v a → S w → (∀ h ∈ hs, h.2 w) →
      wpAnyG P ops Q ((i, S) :: hs) fuel (listed.setIfInBounds i true) (a.put oi.dst v) w → wpAnyG P ops Q hs (fuel + 1) listed a w := by
  intro fuel
  induction fuel with
  | zero =>
    intro hs listed a w _ hr hy hS hA H
    unfold wpAnyG at H ⊢
    refine ⟨fun h => (by rw [h] at hr; cases hr), fun j hj => ?_⟩
    by_cases hji : j = i
    · subst hji; exact hy.wpOp hi hS ⟨fun h hh _ => hA h hh, by unfold wpAnyG; exact H⟩
    · have := ready_mono hj hji
      rw [H.1] at this
      cases this
  | succ fuel ih =>
    intro hs listed a w hfree hr hy hS hA H
    unfold wpAnyG
    refine ⟨fun h => (by rw [h] at hr; cases hr), fun j hj => ?_⟩
    by_cases hji : j = i
    · subst hji
      refine hy.wpOp hi hS ⟨fun h hh _ => hA h hh, wpAnyG_mono _ _ _ _ _ _ (fun h hh => .inr ⟨h, List.mem_cons_of_mem _ (List.mem_filter.1 hh).1, rfl, fun _ q => q⟩) H⟩
    · unfold wpAnyG at H
      have h1 := H.2 j (ready_mono hj hji)
      obtain ⟨hjun, oj, hoj, hall⟩ := mem_ready.1 hj
      have hnot : ∀ e ∈ oj.after, Region.binds .any e = true → e.on ≠ i := fun e he hb heq => by
        have h1 := hall e he hb
        have h0 := (mem_ready.1 hr).1
        rw [heq] at h1
        rcases Nat.lt_or_ge i listed.size with h' | h'
        · simp [h'] at h0 h1; rw [h0] at h1; cases h1
        · simp [Array.getElem?_eq_none h'] at h1
      have hdep : depB ops j i = false := by
        unfold depB
        rw [hoj]
        simp only [Array.any_eq_false']
        intro e he
        simp only [Bool.and_eq_true, beq_iff_eq, not_and]
        exact fun hb => hnot e he hb
      have h2 := wpOp_putIf hoj (hfree j oj hoj hji hjun hnot) (fun cs b => hsel i oi cs b hi) (fun cs b => hsel j oj cs b hoj) hQ hy h1
      have hfree' : ∀ k ok, ops[k]? = some ok → k ≠ i → (listed.setIfInBounds j true).getD k true = false →
          (∀ e ∈ ok.after, Region.binds .any e = true → e.on ≠ i) → oi.apart ops ok = true := fun k ok hk hki hun hno => by
        refine hfree k ok hk hki ?_ hno
        by_cases hjk : j = k
        · subst hjk; exact hjun
        · rw [getD_set_ne true hjk] at hun; exact hun
      refine wpOp_mono (fun a' w' h3 => ?_) h2
      obtain ⟨h4, h5, h6⟩ := h3
      refine ⟨fun h hh hd => h5 h (List.mem_cons_of_mem _ hh) hd, ih _ (listed.setIfInBounds j true) a' w' hfree' (ready_mono hr (Ne.symm hji)) h4 (h5 _ (List.mem_cons_self ..) hdep) (fun h hh => ?_) ?_⟩
      · obtain ⟨q1, q2⟩ := List.mem_filter.1 hh
        exact h5 h (List.mem_cons_of_mem _ q1) (by simpa using q2)
      · rw [Array.setIfInBounds_comm _ _ hji]
        rw [List.filter_cons, if_pos (by simp [hdep])] at h6
        exact h6
end
section
variable {P : Program} {m : Nat} {ops : Array Oper}
abbrev HeldG := List (Nat × HeldL)
def heldG (held : HeldG) (H : Heap) : Prop := ∀ e ∈ held, heldIn e.2 H
def pend (φ : Nat → Img) (H : Heap) (held : HeldG) : Pend := held.map fun e => (e.1, SH φ H e.2)
def ADg (P : Program) (m : Nat) (ops : Array Oper) (fuel : Nat) (listed : Array Bool) (held : HeldG) (K : Fr → Heap → Prop) (A : Fr) (H : Heap) : Prop :=
  ∀ (φ : Nat → Img) (a : Act) (w : World) (Qc : Exit → Act → World → Prop), St m φ A H a w → heldG held H → (∀ c a w, ¬ Qc (.panic c) a w) →
    (∀ φ' A' H' a' w', K A' H' → St m φ' A' H' a' w' → Ok φ H w φ' H' w' → Qc .normal a' w') → wpAnyG P ops Qc (pend φ H held) fuel listed a w
variable {fuel : Nat} {listed : Array Bool} {held : HeldG} {K : Fr → Heap → Prop} {A : Fr} {H : Heap}
theorem AWp.drawG {id : Nat} {l : List Oper} {n : Nat} {ls : Array Bool} {Q : Exit → Fr → Heap → Prop} (hm : P.follows .mixedOrders = true) (hn : l.length = n) (hls : Array.replicate n false = ls) (h : ADg P m l.toArray n ls [] (Q .normal) A H) : AWp P m (.region id l.toArray true) Q A H := by
  intro φ a w hs
  subst hn hls
  have hs1 : St m φ A H a { w with drawn := w.drawn + 1 } := ⟨hs.defers, hs.size, hs.tmp, hs.out, hs.holds.drew _⟩
  have hw : (Code.region id l.toArray true).wp P (fun e a' w' => match e with | .normal => ∃ φ' A' H', Q .normal A' H' ∧ St m φ' A' H' a' w' ∧ Ok φ H w φ' H' w' | _ => False) a w := by
    refine wp_region_any hm ?_
    have := h φ a { w with drawn := w.drawn + 1 } (fun e a' w' => match e with | .normal => ∃ φ' A' H', Q .normal A' H' ∧ St m φ' A' H' a' w' ∧ Ok φ H w φ' H' w' | _ => False) hs1 (by intro h hh; simp at hh) (fun _ _ _ h => h)
      (fun φ' A' H' a' w' q s ok => ⟨φ', A', H', q, s, Ok.drew _ ok⟩)
    have h2 := wpAny_of_G _ _ _ _ _ this
    simpa using h2
  refine wp_mono hw ?_
  intro e a' w' hq
  cases e with
  | normal => exact hq
  | _ => exact hq.elim
theorem ADg.done (hr : Region.ready .any ops listed = []) (h : K A H) : ADg P m ops fuel listed held K A H := by
  intro φ a w Qc hs hl hp hk
  have hq := hk φ A H a w h hs Ok.refl
  cases fuel with
  | zero => unfold wpAnyG; exact ⟨hr, hq⟩
  | succ n => unfold wpAnyG; exact ⟨fun _ => hq, fun i hi => by rw [hr] at hi; cases hi⟩
theorem ADg.take (i : Nat) (l : HeldL) (hl0 : heldIn l H) {o : Oper} (hi : ops[i]? = some o) (hsel : Region.noSelect ops = true) (hfree : Region.free .any ops listed i = true) (hrdy : (Region.ready .any ops listed).contains i = true)
    (hd : dstOk m o.dst = true) (hx : o.op.operands.toList.all opndOk = true) (hg : o.guard = none) (v : Value) (hv : ∀ H', heldIn l H' → (∀ b, H.has b → H'.has b) → PGives P o (ev A) H' (fun x => x = v))
    (h : ADg P m ops fuel (listed.setIfInBounds i true) ((i, l) :: held) K (put A o.dst v) H) : ADg P m ops (fuel + 1) listed held K A H := by
  intro φ a w Qc hs hl hp hk
  have hall : ∀ x ∈ o.op.operands, R φ H.has (ev A x) (a.eval x) := fun x hm => hs.ev (by
    exact List.all_eq_true.1 hx _ (Array.mem_toList_iff.2 hm))
  obtain ⟨v0, v', rfl, hrun, hr⟩ := hv H hl0 (fun _ h => h) φ a.eval w hs.holds hall
  have hl' : heldG ((i, l) :: held) H := by
    intro e he
    rcases List.mem_cons.1 he with rfl | he
    · exact hl0
    · exact hl e he
  refine wpAnyG_first (v := v') (S := SH φ H l) hi (Region.noSelect_spec hsel) (fun c a w q => (hp c _ _ q).elim) fuel _ listed a w (Region.free_spec hi hfree) (by simpa using hrdy) (.inl ⟨by simp [Region.wanted, hg], ?_⟩) (SH.self hs.holds hl0) ?_ ?_
  · rintro w' ⟨φ', H', h1, h2, h3⟩
    obtain ⟨v1, v1', e1, hrun1, hr1⟩ := hv H' h3 (fun b hb => (h2 b hb).1) φ' a.eval w' h1 (fun x hm => (hall x hm).mono h2)
    rw [hrun1]
    have := (hr.mono h2).det (e1 ▸ hr1)
    rw [this]
  · intro x hx
    obtain ⟨e, he, rfl⟩ := List.mem_map.1 hx
    exact SH.self hs.holds (hl e he)
  · exact h φ (a.put o.dst v') w Qc (hs.put hd hr) hl' hp hk
theorem ADg.takeB (i : Nat) {o : Oper} (hi : ops[i]? = some o) (hsel : Region.noSelect ops = true) (hfree : Region.free .any ops listed i = true) (hrdy : (Region.ready .any ops listed).contains i = true)
    (hd : dstOk m o.dst = true) (hx : o.op.operands.toList.all opndOk = true) (hg : o.guard = none) (h : PGivesB P o (ev A) H (fun v => ADg P m ops fuel (listed.setIfInBounds i true) held K (put A o.dst v) H)) : ADg P m ops (fuel + 1) listed held K A H := by
  intro φ a w Qc hs hl hp hk
  have hall : ∀ x ∈ o.op.operands, R φ H.has (ev A x) (a.eval x) := fun x hm => hs.ev (by
    exact List.all_eq_true.1 hx _ (Array.mem_toList_iff.2 hm))
  obtain ⟨v0, v', hK, hrun, hr⟩ := h φ a.eval w hs.holds hall
  refine wpAnyG_first (v := v') (S := fun _ => True) hi (Region.noSelect_spec hsel) (fun c a w q => (hp c _ _ q).elim) fuel _ listed a w (Region.free_spec hi hfree) (by simpa using hrdy) (.inl ⟨by simp [Region.wanted, hg], fun w' _ => hrun w'⟩) trivial ?_ ?_
  · intro x hx
    obtain ⟨e, he, rfl⟩ := List.mem_map.1 hx
    exact SH.self hs.holds (hl e he)
  · refine wpAnyG_mono _ _ (pend φ H held) _ _ _ ?_ (hK φ (a.put o.dst v') w Qc (hs.put hd hr) hl hp hk)
    intro x hx
    rcases List.mem_cons.1 hx with rfl | hx
    · exact .inl fun _ => trivial
    · exact .inr ⟨x, hx, rfl, fun _ q => q⟩
def dropG (rel : List Nat) : HeldG → HeldG
  | [] => []
  | (i, l) :: r => if (rel.contains i) = true then dropG rel r else (i, l) :: dropG rel r
theorem mem_dropG {rel : List Nat} {e : Nat × HeldL} : ∀ {held : HeldG}, e ∈ held → rel.contains e.1 = false → e ∈ dropG rel held
  | (i, l) :: r, he, hr => by
    unfold dropG
    rcases List.mem_cons.1 he with rfl | he
    · rw [if_neg (by rw [hr]; simp)]; exact List.mem_cons_self ..
    · split
      · exact mem_dropG he hr
      · exact List.mem_cons_of_mem _ (mem_dropG he hr)
theorem ADg.act (i : Nat) (rel : List Nat) (hrel : (rel.all fun r => depB ops i r) = true) {o : Oper} (hi : ops[i]? = some o) (hrdy : Region.ready .any ops listed = [i]) (hg : o.guard = none)
    (h : AOp P m o (fun A' H' => heldG (dropG rel held) H' ∧ ADg P m ops fuel (listed.setIfInBounds i true) (dropG rel held) K A' H') A H) : ADg P m ops (fuel + 1) listed held K A H := by
  intro φ a w Qc hs hl hp hk
  have hnr : ∀ e : Nat, depB ops i e = false → rel.contains e = false := fun e he => by
    cases hc : rel.contains e with
    | false => rfl
    | true =>
      have := List.all_eq_true.1 hrel e (by simpa using hc)
      rw [he] at this; cases this
  unfold wpAnyG
  refine ⟨fun h0 => (by rw [hrdy] at h0; cases h0), fun j hj => ?_⟩
  have : j = i := by rw [hrdy] at hj; simpa using hj
  subst this
  unfold wpOp
  rw [hi]
  simp only
  rw [if_pos (by simp [Region.wanted, hg])]
  refine .inl (h φ a w _ _ hs ?_)
  rintro φ' A' H' a' w' ⟨hl', hA'⟩ hs' ok'
  refine ⟨?_, wpAnyG_mono _ _ _ _ _ _ ?_ (hA' φ' a' w' Qc hs' hl' hp (fun φ2 A2 H2 a2 w2 q2 s2 ok2 => hk φ2 A2 H2 a2 w2 q2 s2 (ok'.trans ok2)))⟩
  · intro x hx hd
    obtain ⟨e, he, rfl⟩ := List.mem_map.1 hx
    exact ⟨φ', H', hs'.holds, ok'.mono, hl' e (mem_dropG he (hnr _ hd))⟩
  · intro x hx
    obtain ⟨hx1, hx2⟩ := List.mem_filter.1 hx
    obtain ⟨e, he, rfl⟩ := List.mem_map.1 hx1
    refine .inr ⟨_, List.mem_map.2 ⟨e, mem_dropG he (hnr _ (by simpa using hx2)), rfl⟩, rfl, ?_⟩
    rintro w2 ⟨φ2, H2, h1, h2, h3⟩
    exact ⟨φ2, H2, h1, fun b hb => ⟨(h2 b (ok'.has b hb)).1, (h2 b (ok'.has b hb)).2.trans (ok'.img b hb)⟩, h3⟩
end
/-- All blocks given up. -/
def deadH (H : Heap) : Heap := ⟨H.size, fun b => match H.get b with | .absent => .absent | _ => .dead⟩
theorem deadH_has {H : Heap} {b : Nat} : (deadH H).has b ↔ H.has b := by
  unfold Heap.has deadH
  show (match H.get b with | .absent => Blk.absent | _ => .dead) ≠ .absent ↔ H.get b ≠ .absent
  cases H.get b <;> simp
theorem deadH_holds {φ : Nat → Img} {H : Heap} {w : World} (h : Holds φ H w) (w2 : World) : Holds φ (deadH H) w2 := by
  have hg : ∀ b, (deadH H).get b = .absent ∨ (deadH H).get b = .dead := fun b => by
    show (match H.get b with | .absent => Blk.absent | _ => .dead) = _ ∨ (match H.get b with | .absent => Blk.absent | _ => .dead) = _
    cases H.get b <;> simp
  refine ⟨fun b hb => ?_, fun b cs es ro hb => ?_, fun b cs es hb => ?_, fun b cs es ro hb => ?_, fun b es hb => ?_, fun b hb => ?_, fun b c hbc hb hc => ?_⟩
  · have := h.wf b hb
    show (match H.get b with | .absent => Blk.absent | _ => .dead) = .absent
    rw [this]
  all_goals (rcases hg b with e | e <;> rw [e] at hb <;> first | cases hb | (simp [Blk.live] at hb))
/-- Does the plan hold? -/
def planG (ops : Array Oper) : Array Bool → List (Nat × List Nat) → Bool
  | listed, [] => Region.ready .any ops listed == []
  | listed, (i, rel) :: plan => (match ops[i]? with
      | some o => if pure0 o.op || isLoad o.op then Region.free .any ops listed i && (Region.ready .any ops listed).contains i else (Region.ready .any ops listed == [i]) && (rel.all fun r => depB ops i r)
      | none => false) && planG ops (listed.setIfInBounds i true) plan
def APg (P : Program) (m : Nat) (l : List Oper) (plan : List (Nat × List Nat)) (held : HeldG) (K : Fr → Heap → Prop) (A : Fr) (H : Heap) : Prop :=
  ∀ listed, Region.noSelect l.toArray = true → planG l.toArray listed plan = true → ADg P m l.toArray plan.length listed held K A H
section
variable {P : Program} {m : Nat} {ops : List Oper} {plan : List (Nat × List Nat)} {held : HeldG} {K : Fr → Heap → Prop} {A : Fr} {H : Heap} {dst : Option Nat} {op : Op} {ty : TypeId} {pos : String} {af : Array Edge} {i : Nat} {rel : List Nat} {r : List Oper}
theorem AWp.plannedG {id : Nat} {l : List Oper} {Q : Exit → Fr → Heap → Prop} (plan : List (Nat × List Nat)) (hm : P.follows .mixedOrders = true) (hok : (Region.noSelect l.toArray && planG l.toArray (Array.replicate l.length false) plan && (plan.length == l.length)) = true)
    (h : APg P m l plan [] (Q .normal) A H) : AWp P m (.region id l.toArray true) Q A H := by
  simp only [Bool.and_eq_true, beq_iff_eq] at hok
  exact AWp.drawG hm hok.2.symm (by rw [hok.2]) (h _ hok.1.1 hok.1.2)
theorem APg.nil (h : K A H) : APg P m ops [] held K A H := fun listed _ hp => ADg.done (by simpa [planG] using hp) h
theorem APg.pure (hi' : ops.drop i = ⟨dst, op, ty, pos, af, none⟩ :: r) (h0 : pure0 op = true) (hd : dstOk m dst = true) (hx : op.operands.toList.all opndOk = true)
    (h : ∀ Kx : Value → Prop, Cont (∀ v, APg P m ops plan held K (put A dst v) H → Kx v) → pstep0 P ⟨dst, op, ty, pos, af, none⟩ (ev A) Kx) : APg P m ops ((i, rel) :: plan) held K A H := by
  have hi := at_drop hi'
  intro listed hs hp
  simp only [planG, hi, h0, Bool.true_or, if_true, Bool.and_eq_true] at hp
  obtain ⟨v, hv, hq⟩ := pstep0_det h0 (h _ fun v h => h)
  refine ADg.takeB i hi hs hp.1.1 hp.1.2 hd hx rfl ?_
  intro φ ρ w hh hx'
  have hd' : ∀ w2, Holds φ (deadH H) w2 := fun w2 => deadH_holds hh w2
  have hx2 : ∀ x ∈ op.operands, R φ (deadH H).has (ev A x) (ρ x) := fun x hm => (hx' x hm).mono fun b hb => ⟨deadH_has.2 hb, rfl⟩
  have hp2 := pgives_step (pstep0_any h0 hq (deadH H))
  obtain ⟨v1, v', e1, h1, h2⟩ := hp2 φ ρ w (hd' w) hx2
  subst e1
  refine ⟨v1, v', hv _ hs hp.2, fun w2 => ?_, h2.mono fun b hb => ⟨deadH_has.1 hb, rfl⟩⟩
  obtain ⟨v2, v'', e2, h3, h4⟩ := hp2 φ ρ w2 (hd' w2) hx2
  subst e2
  rw [h2.det h4]
  exact h3
theorem APg.load {t : TypeId} {x : Operand} (hi' : ops.drop i = ⟨dst, .load t x, ty, pos, af, none⟩ :: r) (hd : dstOk m dst = true) (hx : opndOk x = true)
    (h : ∀ Kx : Value → HeldL → Prop, Cont (∀ v l, APg P m ops plan ((i, l) :: held) K (put A dst v) H → Kx v l) → loadHK P t H (ev A x) Kx) : APg P m ops ((i, rel) :: plan) held K A H := by
  have hi := at_drop hi'
  intro listed hs hp
  simp only [planG, hi, isLoad, Bool.or_true, if_true, Bool.and_eq_true] at hp
  obtain ⟨v, l, hK, hl, hall⟩ := loadHK_spec (h _ fun v l h => h)
  exact ADg.take i l hl hi hs hp.1.1 hp.1.2 hd (by simp [Op.operands, hx]) rfl v (fun H' hl' hh => pg_load (hall H' hl' hh)) (hK _ hs hp.2)
theorem APg.slice {t : TypeId} {x : Operand} {lo hi mx : Option Operand} (hi' : ops.drop i = ⟨dst, .slice t x lo hi mx, ty, pos, af, none⟩ :: r) (hd : dstOk m dst = true) (hx : (Op.slice t x lo hi mx).operands.toList.all opndOk = true)
    (h : ∀ Kx : Value → Prop, Cont (∀ v, APg P m ops plan held K (put A dst v) H → Kx v) → sliceK P t H (ev A x) (lo.map (ev A)) (hi.map (ev A)) (mx.map (ev A)) Kx) : APg P m ops ((i, rel) :: plan) held K A H := by
  have hi0 := at_drop hi'
  intro listed hs hp
  simp only [planG, hi0, isLoad, Bool.or_true, if_true, Bool.and_eq_true] at hp
  refine ADg.takeB i hi0 hs hp.1.1 hp.1.2 hd hx rfl ?_
  have h1 := pgb_slice (dst := dst) (ty := ty) (pos := pos) (af := af) (g := none) (h _ fun v h => h)
  intro φ ρ w hh hr
  obtain ⟨v, v', hK, h2, h3⟩ := h1 φ ρ w hh hr
  exact ⟨v, v', hK _ hs hp.2, h2, h3⟩
theorem APg.act (hi' : ops.drop i = ⟨dst, op, ty, pos, af, none⟩ :: r) (h0 : (pure0 op || isLoad op) = false) (hd : dstOk m dst = true) (hx : op.operands.toList.all opndOk = true)
    (h : ∀ Kx : Value → Heap → Prop, Cont (∀ v H', heldG (dropG rel held) H' → APg P m ops plan (dropG rel held) K (put A dst v) H' → Kx v H') → astep P ⟨dst, op, ty, pos, af, none⟩ (ev A) H Kx) : APg P m ops ((i, rel) :: plan) held K A H := by
  have hi := at_drop hi'
  intro listed hs hp
  simp only [planG, hi, h0, Bool.false_eq_true, if_false, Bool.and_eq_true, beq_iff_eq] at hp
  have a1 : AOp P m ⟨dst, op, ty, pos, af, none⟩ (fun A' H' => heldG (dropG rel held) H' ∧ ADg P m ops.toArray plan.length (listed.setIfInBounds i true) (dropG rel held) K A' H') A H := AOp.step hd hx (h _ fun v H' q1 q2 => ⟨q1, q2 _ hs hp.2⟩)
  exact ADg.act i rel hp.1.2 hi hp.1.1 rfl a1
theorem heldG_iff : (∀ H, heldG [] H = True) ∧ (∀ H i l r, heldG ((i, l) :: r) H = (heldIn l H ∧ heldG r H)) ∧ (∀ rel, dropG rel [] = []) ∧ (∀ rel i l r, dropG rel ((i, l) :: r) = if (rel.contains i) = true then dropG rel r else (i, l) :: dropG rel r) ∧
    (∀ i : Nat, ([] : List Nat).contains i = false) ∧ (∀ (a : Nat) (l : List Nat) (i : Nat), (a :: l).contains i = (i == a || l.contains i)) := by
  refine ⟨fun H => eq_true (by intro e he; cases he), fun H i l r => propext ⟨fun h => ⟨h _ (List.mem_cons_self ..), fun e he => h e (List.mem_cons_of_mem _ he)⟩, fun h e he => ?_⟩, fun _ => rfl, fun _ _ _ _ => rfl, fun _ => rfl, fun a l i => List.contains_cons⟩
  rcases List.mem_cons.1 he with rfl | he
  · exact h.1
  · exact h.2 e he
end
end Go.Proofs.Ytpbbfephfmdgmaa.Rai
