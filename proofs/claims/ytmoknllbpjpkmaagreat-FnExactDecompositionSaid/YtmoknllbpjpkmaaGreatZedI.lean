/- A range over a function: what a round does, what the statement leaves; the mark among the deferred calls. -/
import Derived.Test.YtmoknllbpjpkmaaGreatZedH
import Derived.OrdersIn
import Derived.TacticsIn
import Derived.RangeFuncSeq
import Derived.Below
import Derived.RangeFuncBox
namespace Go.Proofs.YtmoknllbpjpkmaaGreat.Zed
open Go
set_option linter.unusedVariables false
set_option linter.unusedSimpArgs false
/-- No fence; in a round of a loop or in none. -/
abbrev Fro (ro : Option Nat) : Fence := { Fence.wide with round := ro }
/-- More deferred calls below those that there are. -/
def lift (ds : List Deferred) (a : Act) : Act := { a with defers := a.defers ++ ds }
theorem lift_put (ds : List Deferred) (a : Act) (d : Option Nat) (v : Value) : lift ds (a.put d v) = (lift ds a).put d v := by cases d <;> rfl
theorem lift_eval (ds : List Deferred) (a : Act) : (lift ds a).eval = a.eval := funext fun x => by cases x <;> rfl
def noDefer (o : Oper) : Bool := match o.op with
  | .defer _ => false
  | _ => true
theorem noDefer_ne {o : Oper} (h : noDefer o = true) : ∀ c, o.op ≠ .defer c := fun c e => by
  unfold noDefer at h; rw [e] at h; cases h
section
variable {P : Program} {ro : Option Nat} {ds : List Deferred} {Qc Q' : Exit → Act → World → Prop}
theorem upon_in {o : Oper} {a : Act} {w : World} {K K' : Act → World → Prop} (h : o.wp P a w K Qc) (hq : ¬ LetsOut Qc) (hd : noDefer o = true) (hK : ∀ a w, K a w → K' (lift ds a) w) (hQ : ∀ e a w, Qc e a w → Q' e (lift ds a) w) :
    o.wpIn (Fro ro) 0 P (lift ds a) w K' Q' := by
  refine ⟨fun _ _ => trivial, ?_⟩
  rw [Oper.semAt_eq _ _ _ (noDefer_ne hd), lift_eval]
  unfold Oper.wp at h
  generalize (execOp a.eval o).run P w = r at *
  cases r with
  | ok x w' =>
    cases x with
    | value v => have := hK _ _ h; rw [lift_put] at this; exact this
    | skip => have := hK _ _ h; rw [lift_put] at this; exact this
    | defer d => have := hK _ _ h; rw [lift_put] at this; exact this
    | enter f args =>
      have h : Calls P f args w' _ := h
      refine ⟨fun h => (by cases h), ?_⟩
      refine (show CallsIn Fence.wide (0 - 1) P f args w' _ from callsIn_wide.2 (h.mono ?_))
      rintro e w'' he
      cases e with
      | returned v => have := hK _ _ he; rw [lift_put] at this; exact this
      | panicked chain => exact hQ _ _ _ he
      | outgrown => exact absurd he hq
    | row row args =>
      have h : Rows P row args w' _ := h
      refine ⟨fun h => (by cases h), fun c cs _ => ?_⟩
      obtain ⟨v, w'', r, s⟩ := h c cs
      refine ⟨v, w'', ?_, (show StepsIn (Machine.fenced P Fence.wide) P _ _ from stepsIn_wide.2 s)⟩
      have := hK _ _ r; rw [lift_put] at this; exact this
    | round l f tmps assign body => exact h.elim
    | _ => exact h.elim
  | halt x w' =>
    cases x with
    | panic v => exact hQ _ _ _ h
    | _ => exact h.elim
theorem list_in {ops : Array Oper} (hq : ¬ LetsOut Qc) (hQ : ∀ e a w, Qc e a w → Q' e (lift ds a) w) : ∀ (l : List Oper) (a : Act) (w : World), l.all noDefer = true → wpList P ops Qc l a w → wpListIn (Fro ro) 0 P ops Q' l (lift ds a) w
  | [], a, w, _, h => hQ _ _ _ h
  | o :: l, a, w, hd, h => by
    rw [List.all_cons, Bool.and_eq_true] at hd
    unfold wpList at h
    unfold wpListIn
    split at h
    · rename_i hw
      rw [if_pos (show Region.wanted o (yielded ops (lift ds a).tmps) = true from hw)]
      refine upon_in (h.resolve_right fun h => hq h.2) hq hd.1 (fun a w h => list_in hq hQ l a w hd.2 h) hQ
    · rename_i hw
      rw [if_neg (show ¬ Region.wanted o (yielded ops (lift ds a).tmps) = true from hw), ← lift_put]
      exact ⟨fun _ _ => trivial, list_in hq hQ l _ _ hd.2 h⟩
theorem op_in {ops : Array Oper} {i : Nat} {a : Act} {w : World} {K K' : Act → World → Prop} (hd : ∀ o, ops[i]? = some o → noDefer o = true) (h : wpOp P ops Qc i K a w) (hq : ¬ LetsOut Qc) (hK : ∀ a w, K a w → K' (lift ds a) w) (hQ : ∀ e a w, Qc e a w → Q' e (lift ds a) w) :
    wpOpIn (Fro ro) 0 P ops Q' i K' (lift ds a) w := by
  unfold wpOp at h
  unfold wpOpIn
  cases ho : ops[i]? with
  | none => rw [ho] at h; exact hK _ _ h
  | some o =>
    rw [ho] at h
    dsimp only at h ⊢
    split at h
    · rename_i hw
      rw [if_pos (show Region.wanted o (yielded ops (lift ds a).tmps) = true from hw)]
      exact upon_in (h.resolve_right fun h => hq h.2) hq (hd o ho) hK hQ
    · rename_i hw
      rw [if_neg (show ¬ Region.wanted o (yielded ops (lift ds a).tmps) = true from hw), ← lift_put]
      exact ⟨fun _ _ => trivial, hK _ _ h⟩
theorem any_in {ops : Array Oper} {md : Region.Mode} (hq : ¬ LetsOut Qc) (hQ : ∀ e a w, Qc e a w → Q' e (lift ds a) w) (hd : ∀ (i : Nat) (o : Oper), ops[i]? = some o → noDefer o = true) : ∀ (fuel : Nat) (listed : Array Bool) (a : Act) (w : World), wpAny P md ops Qc fuel listed a w → wpAnyIn (Fro ro) 0 P md ops Q' fuel listed (lift ds a) w
  | 0, listed, a, w, h => ⟨h.1, hQ _ _ _ h.2⟩
  | fuel + 1, listed, a, w, h => ⟨fun e => hQ _ _ _ (h.1 e), fun i hi => op_in (hd i) (h.2 i hi) hq (fun a w h => any_in hq hQ hd fuel _ a w h) hQ⟩
end
/-- A piece of code, within a round or with a mark among the deferred calls. -/
def AWr (P : Program) (m : Nat) (ro : Option Nat) (ds : List Deferred) (c : Code) (Q : Exit → Fr → Heap → Prop) (A : Fr) (H : Heap) : Prop :=
  ∀ (φ : Ren) (a : Act) (w : World), St m φ A H a w → c.wpIn (Fro ro) 0 P (fun e a' w' => ∃ φ' A' H' a0, a' = lift ds a0 ∧ Q e A' H' ∧ St m φ' A' H' a0 w' ∧ Ok φ H w φ' H' w') (lift ds a) w
section
variable {P : Program} {m : Nat} {ro : Option Nat} {ds : List Deferred} {Q : Exit → Fr → Heap → Prop} {A : Fr} {H : Heap}
theorem AWr.mono {c : Code} {Q' : Exit → Fr → Heap → Prop} (h : AWr P m ro ds c Q A H) (hq : ∀ e A H, Q e A H → Q' e A H) : AWr P m ro ds c Q' A H :=
  fun φ a w hs => wpIn_mono (h φ a w hs) fun e a' w' ⟨φ', A', H', a0, e0, q, r⟩ => ⟨φ', A', H', a0, e0, hq _ _ _ q, r⟩
theorem AWr.skip (h : Q .normal A H) : AWr P m ro ds .skip Q A H := fun φ a w hs => wpIn_skip ⟨φ, A, H, a, rfl, h, hs, Ok.refl⟩
theorem AWr.ret (h : Q .ret A H) : AWr P m ro ds .ret Q A H := fun φ a w hs => wpIn_ret ⟨φ, A, H, a, rfl, h, hs, Ok.refl⟩
theorem AWr.exit {id : Nat} (h : Q (.exit id) A H) : AWr P m ro ds (.exit id) Q A H := fun φ a w hs => wpIn_exit ⟨φ, A, H, a, rfl, h, hs, Ok.refl⟩
theorem AWr.seq' {x y : Code} (h : AWr P m ro ds x (athen (AWr P m ro ds y Q) Q) A H) : AWr P m ro ds (.seq x y) Q A H := by
  intro φ a w hs
  refine wpIn_seq (wpIn_mono (h φ a w hs) ?_)
  rintro e a1 w1 ⟨φ1, A1, H1, a0, rfl, q, s1, ok1⟩
  cases e with
  | normal => exact wpIn_mono (q φ1 a0 w1 s1) fun e a2 w2 ⟨φ2, A2, H2, a2', e2, q2, s2, ok2⟩ => ⟨φ2, A2, H2, a2', e2, q2, s2, ok1.trans ok2⟩
  | _ => exact ⟨φ1, A1, H1, a0, rfl, q, s1, ok1⟩
theorem AWr.block {id : Nat} {c : Code} (h : AWr P m ro ds c (ablock id Q) A H) : AWr P m ro ds (.block id c) Q A H := by
  intro φ a w hs
  refine wpIn_block (wpIn_mono (h φ a w hs) ?_)
  rintro e a1 w1 ⟨φ1, A1, H1, a0, rfl, q, s1, ok1⟩
  cases e with
  | exit id' =>
    simp only [ablock] at q
    simp only [Exit.inBlock]
    split
    · rename_i e; rw [if_pos e] at q; exact ⟨φ1, A1, H1, a0, rfl, q, s1, ok1⟩
    · rename_i e; rw [if_neg e] at q; exact ⟨φ1, A1, H1, a0, rfl, q, s1, ok1⟩
  | _ => exact ⟨φ1, A1, H1, a0, rfl, q, s1, ok1⟩
theorem AWr.cond {c : Operand} {x y : Code} (hc : opndOk c = true) (h : ∀ X Y : Prop, Cont (AWr P m ro ds x Q A H → X) → Cont (AWr P m ro ds y Q A H → Y) → acond (ev A c) X Y) : AWr P m ro ds (.cond c x y) Q A H := by
  intro φ a w hs
  have h0 := h _ _ id id
  have hr := hs.ev hc
  unfold acond at h0
  split at h0
  · rename_i b e
    rw [e] at hr
    have e2 : (lift ds a).eval c = .bool b := by rw [lift_eval]; exact R.flat_eq (v := .bool b) rfl hr
    exact wpIn_cond_split e2 (fun hb => h0.1 hb φ a w hs) (fun hb => h0.2 hb φ a w hs)
  · exact h0.elim
theorem AWr.condT {c : Operand} {x y : Code} (hc : opndOk c = true) (he : ev A c = .bool true) (h : AWr P m ro ds x Q A H) : AWr P m ro ds (.cond c x y) Q A H :=
  AWr.cond hc fun X Y hX hY => by rw [he]; exact ⟨fun _ => hX.out h, fun e => (by cases e)⟩
theorem AWr.condF {c : Operand} {x y : Code} (hc : opndOk c = true) (he : ev A c = .bool false) (h : AWr P m ro ds y Q A H) : AWr P m ro ds (.cond c x y) Q A H :=
  AWr.cond hc fun X Y hX hY => by rw [he]; exact ⟨fun e => (by cases e), fun _ => hY.out h⟩
theorem AWr.region {id : Nat} {l : List Oper} (hd : l.all noDefer = true) (h : AOps P m l.toArray l (Q .normal) A H) : AWr P m ro ds (.region id l.toArray false) Q A H := by
  intro φ a w hs
  refine wpIn_region_lit (list_in (Qc := fun e a' w' => e = .normal ∧ ∃ φ' A' H', Q .normal A' H' ∧ St m φ' A' H' a' w' ∧ Ok φ H w φ' H' w') (by rintro ⟨_, _, h, _⟩; cases h) ?_ l a w hd (h φ a w _ hs ?_))
  · rintro e a' w' ⟨rfl, φ', A', H', q, s, ok⟩
    exact ⟨φ', A', H', a', rfl, q, s, ok⟩
  · intro φ' A' H' a' w' q s ok
    exact ⟨rfl, φ', A', H', q, s, ok⟩
theorem AWr.of {c : Code} (h : AWp P m c Q A H) : AWr P m none [] c Q A H := by
  intro φ a w hs
  have e : lift [] a = a := by unfold lift; rw [List.append_nil]
  rw [e]
  exact (show c.wpIn Fence.wide 0 P _ a w from wpIn_wide.2 (wp_mono (h φ a w hs) fun e a' w' ⟨φ', A', H', q, s, ok⟩ => ⟨φ', A', H', a', by unfold lift; rw [List.append_nil], q, s, ok⟩))
end
/-! ### The record's turns -/
theorem cells_of_cell2 {W : World} {β i : Nat} {u : Value} (h : W.cell? ⟨β, i, none⟩ = some u) : ∃ o : Obj, W.heap[β]? = some o ∧ (match o with | .cells .. => True | _ => False) := by
  unfold World.cell? at h
  cases ho : W.heap[β]? with
  | none => simp [ho] at h
  | some o => exact ⟨o, rfl, by cases o <;> simp_all⟩
/-- What the heap tells of stays as it is. -/
def tells : Obj → Prop
  | .cells .. => True
  | .map .. => True
  | _ => False
theorem Holds.same {φ : Ren} {H : Heap} {W W' : World} (h : Holds φ H W) (hs : W.heap.size ≤ W'.heap.size) (hk : ∀ (β : Nat) (o : Obj), W.heap[β]? = some o → tells o → W'.heap[β]? = some o) : Holds φ H W' := by
  have hc : ∀ β i u, W.cell? ⟨β, i, none⟩ = some u → W'.cell? ⟨β, i, none⟩ = some u := fun β i u hu => by
    obtain ⟨o, ho, ht⟩ := cells_of_cell2 hu
    have h2 := hk β o ho (by cases o <;> first | trivial | exact ht.elim)
    exact (World.cell?_of_block (a := ⟨β, i, none⟩) (h2.trans ho.symm)).trans hu
  refine ⟨h.wf, fun b cs es r hb i v hv => ?_, fun b cs es hb => ?_, h.es, fun b es hb => ?_, fun b hb => Nat.lt_of_lt_of_le (h.lt b hb) hs, h.apart, ⟨fun β i u hf => hc β i u (h.rest.froz β i u hf), h.rest.unf, fun b n es hb => ?_, h.rest.tap, h.rest.tap2, h.rest.tl0⟩⟩
  · obtain ⟨u, h1, h2⟩ := h.cell b cs es r hb i v hv
    exact ⟨u, hc _ _ _ h1, h2⟩
  · obtain ⟨arr, e, h1, h2⟩ := h.row b cs es hb
    exact ⟨arr, e, hk _ _ h1 trivial, h2⟩
  · obtain ⟨en, ck, h1, h2⟩ := h.map b es hb
    exact ⟨en, ck, hk _ _ h1 trivial, h2⟩
  · obtain ⟨h1, h2, h3⟩ := h.rest.tok b n es hb
    refine ⟨h1, h2, ?_⟩
    rcases h3 with h3 | ⟨h3, ⟨arr, e, h4, h5⟩, h6⟩
    · exact .inl h3
    · exact .inr ⟨h3, ⟨arr, e, hk _ _ h4 trivial, h5⟩, h6⟩
theorem Holds.putObj {φ : Ren} {H : Heap} {W : World} (h : Holds φ H W) {l : Nat} {o : Obj} (o' : Obj) (hl : W.heap[l]? = some o) (ho : ¬ tells o) : Holds φ H (W.putObj l o') :=
  h.same (by simp) fun β x hx ht => (World.putObj_heap_other (fun e => ho (by rw [e, hl] at hx; cases hx; exact ht))).trans hx
theorem Holds.allocO {φ : Ren} {H : Heap} {W : World} (h : Holds φ H W) (o : Obj) : Holds φ H (W.alloc o) :=
  h.same (by simp) fun β x hx _ => (RowKit.Below.heap_alloc W o β (Array.getElem?_eq_some_iff.1 hx).1).trans hx
theorem Owns.lt {φ : Ren} {H : Heap} {W : World} (h : Holds φ H W) {β : Nat} (ho : Owns φ H β) : β < W.heap.size ∧ ∃ o, W.heap[β]? = some o ∧ tells o := by
  rcases ho with ⟨b, hb, rfl⟩ | ⟨b, n, es, hb, he, rfl⟩
  · refine ⟨h.lt b (Blk.live_of_wr hb), ?_⟩
    cases hx : H.get b with
    | cells cs es r =>
      rw [hx] at hb
      cases r with
      | true => cases hb
      | false => obtain ⟨arr, e, h1, _⟩ := h.row b cs es hx; exact ⟨_, h1, trivial⟩
    | map es => obtain ⟨en, ck, h1, _⟩ := h.map b es hx; exact ⟨_, h1, trivial⟩
    | _ => rw [hx] at hb; cases hb
  · obtain ⟨_, _, h3⟩ := h.rest.tok b n es hb
    rcases h3 with ⟨_, h3⟩ | ⟨_, ⟨arr, e, h4, _⟩, _⟩
    · exact absurd h3 he
    · exact ⟨(Array.getElem?_eq_some_iff.1 h4).1, _, h4, trivial⟩
theorem Ok.putR {φ φ' : Ren} {H H' : Heap} {w W : World} (h : Ok φ H w φ' H' W) {l : Nat} (o : Obj) (hl : w.heap.size ≤ l) : Ok φ H w φ' H' (W.putObj l o) :=
  ⟨h.size, h.img, h.has, h.os, h.tape, h.output, by simpa using h.wsize, fun β hβ hn => (World.putObj_heap_other (by omega)).trans (h.frame β hβ hn), h.wr, h.fz, h.tl⟩
theorem Ok.allocR {φ φ' : Ren} {H H' : Heap} {w W : World} (h : Ok φ H w φ' H' W) (o : Obj) : Ok φ H w φ' H' (W.alloc o) :=
  ⟨h.size, h.img, h.has, h.os, h.tape, h.output, by have := h.wsize; simp; omega, fun β hβ hn => (RowKit.Below.heap_alloc W o β (Nat.lt_of_lt_of_le hβ h.wsize)).trans (h.frame β hβ hn), h.wr, h.fz, h.tl⟩
/-! ### The statement -/
/-- An iterator: it calls yield with the elements, one after the other; it reads frozen cells alone. -/
def IterZ (P : Program) (g : FuncId) (caps els : List Value) : Prop :=
  enters P g ∧ ∀ (l : Nat) (φ0 : Ren) (has : Nat → Prop) (caps' : List Value) (J : Nat → World → Prop) (Jx : World → Prop) (W : World),
    RL φ0 has caps caps' → (∀ j W, J j W → ∀ β i u, φ0.fz β i = some u → W.cell? ⟨β, i, none⟩ = some u) → (∀ j W n, J j W → J j { W with drawn := n }) →
    (∀ j x W x', els[j]? = some x → J j W → R φ0 has x x' → YieldAt Fence.wide 0 P l #[x'] W fun e W' => (e = .returned (.bool true) ∧ J (j + 1) W') ∨ (e = .returned (.bool false) ∧ Jx W')) →
    J 0 W → Calls P g (#[.func (.yield l) #[] #[]] ++ caps'.toArray) W fun e W' => ∃ v, e = .returned v ∧ (J els.length W' ∨ Jx W')
def dsOf : Option Nat → List Deferred
  | none => []
  | some d => [{ target := .collected d, args := #[] }]
def Dok (D : Option Nat) (w : World) : Prop := ∀ d, D = some d → w.heap[d]? = some (.deferred (some []))
theorem Dok.step {φ φ' : Ren} {H H' : Heap} {w w' : World} {D : Option Nat} (h : Dok D w) (hh : Holds φ H w) (ok : Ok φ H w φ' H' w') : Dok D w' := fun d hd => by
  have h1 := h d hd
  refine (ok.frame d (Array.getElem?_eq_some_iff.1 h1).1 fun ho => ?_).trans h1
  obtain ⟨_, o, h2, h3⟩ := Owns.lt hh ho
  rw [h1] at h2; cases h2; exact h3
/-- A piece of code of a function that may leave a mark among its deferred calls. -/
def AWq (P : Program) (m : Nat) (D : Option Nat) (c : Code) (Q : Exit → Option Nat → Fr → Heap → Prop) (A : Fr) (H : Heap) : Prop :=
  ∀ (φ : Ren) (a : Act) (w : World), St m φ A H a w → Dok D w → c.wpIn Fence.wide 0 P (fun e a' w' => ∃ φ' A' H' D' a0, a' = lift (dsOf D') a0 ∧ Q e D' A' H' ∧ St m φ' A' H' a0 w' ∧ Dok D' w' ∧ (∀ d, D' = some d → D = some d ∨ w.heap.size ≤ d) ∧ Ok φ H w φ' H' w') (lift (dsOf D) a) w
def qthen (K : Option Nat → Fr → Heap → Prop) (Q : Exit → Option Nat → Fr → Heap → Prop) : Exit → Option Nat → Fr → Heap → Prop
  | .normal, D, A, H => K D A H
  | e, D, A, H => Q e D A H
def qblock (id : Nat) (Q : Exit → Option Nat → Fr → Heap → Prop) : Exit → Option Nat → Fr → Heap → Prop
  | .exit id', D, A, H => if id' = id then Q .normal D A H else Q (.exit id') D A H
  | e, D, A, H => Q e D A H
section
variable {P : Program} {m : Nat} {D : Option Nat} {Q : Exit → Option Nat → Fr → Heap → Prop} {A : Fr} {H : Heap}
theorem AWq.seq' {x y : Code} (h : AWq P m D x (qthen (fun D A H => AWq P m D y Q A H) Q) A H) : AWq P m D (.seq x y) Q A H := by
  intro φ a w hs hD
  refine wpIn_seq (wpIn_mono (h φ a w hs hD) ?_)
  rintro e a1 w1 ⟨φ1, A1, H1, D1, a0, rfl, q, s1, d1, b1, ok1⟩
  cases e with
  | normal =>
    refine wpIn_mono (q φ1 a0 w1 s1 d1) fun e a2 w2 ⟨φ2, A2, H2, D2, a2', e2, q2, s2, d2, b2, ok2⟩ => ⟨φ2, A2, H2, D2, a2', e2, q2, s2, d2, fun d hd => ?_, ok1.trans ok2⟩
    rcases b2 d hd with h | h
    · exact b1 d h
    · exact .inr (Nat.le_trans ok1.wsize h)
  | _ => exact ⟨φ1, A1, H1, D1, a0, rfl, q, s1, d1, b1, ok1⟩
theorem AWq.block {id : Nat} {c : Code} (h : AWq P m D c (qblock id Q) A H) : AWq P m D (.block id c) Q A H := by
  intro φ a w hs hD
  refine wpIn_block (wpIn_mono (h φ a w hs hD) ?_)
  rintro e a1 w1 ⟨φ1, A1, H1, D1, a0, rfl, q, s1, d1, b1, ok1⟩
  cases e with
  | exit id' =>
    simp only [qblock] at q
    simp only [Exit.inBlock]
    split
    · rename_i e; rw [if_pos e] at q; exact ⟨φ1, A1, H1, D1, a0, rfl, q, s1, d1, b1, ok1⟩
    · rename_i e; rw [if_neg e] at q; exact ⟨φ1, A1, H1, D1, a0, rfl, q, s1, d1, b1, ok1⟩
  | _ => exact ⟨φ1, A1, H1, D1, a0, rfl, q, s1, d1, b1, ok1⟩
theorem AWq.of {c : Code} (h : AWr P m none (dsOf D) c (fun e A' H' => Q e D A' H') A H) : AWq P m D c Q A H := by
  intro φ a w hs hD
  refine wpIn_mono (show c.wpIn Fence.wide 0 P _ _ w from h φ a w hs) ?_
  rintro e a1 w1 ⟨φ1, A1, H1, a0, rfl, q, s1, ok1⟩
  exact ⟨φ1, A1, H1, D, a0, rfl, q, s1, hD.step hs.holds ok1, fun d hd => .inl hd, ok1⟩
theorem AWq.of' {c : Code} (h : AWp P m c (fun e A' H' => Q e none A' H') A H) : AWq P m none c Q A H := AWq.of (AWr.of h)
def recL (fn : FuncId) (tmps : Array Value) (p : Nat) (assign body : Code) (D : Nat) (st : LoopState) (pe : Option Code) : Loop := { state := st, pending := pe, fn, tmps, params := #[p], assign, body, defers := D }
theorem R.func_inv {φ : Ren} {has : Nat → Prop} {g : FuncId} {caps : List Value} {u : Value} (h : R φ has (.func (.func g) #[] caps.toArray) u) : ∃ lb : List Value, u = .func (.func g) #[] lb.toArray ∧ RL φ has caps lb := by
  generalize hv : Value.func (.func g) #[] caps.toArray = v at h
  cases h with
  | func fn xs ys xs' ys' h1 h2 hx hy =>
    injection hv with e1 e2 e3
    subst e1 e2 e3
    have : xs' = #[] := by
      apply Array.eq_empty_of_size_eq_zero
      simpa using h1.symm
    subst this
    exact ⟨ys'.toList, by simp, by simpa using h2, fun i a b ha hb => hy i a b (by simpa using ha) (by simpa using hb)⟩
  | gz tag es n cs u h hn hc => simp [GZ] at hv
  | kz es n cs u h hc => simp [KZ] at hv
  | junk u h => simp [JZ] at hv
  | fz0 => simp [FZ] at hv
  | fz => simp [FZ] at hv
  | pz => simp [PZ] at hv
  | _ => cases hv
theorem AWq.range {f : Operand} {p : Nat} {assign body : Code} {g : FuncId} {caps els : List Value} (I : Nat → Heap → Prop) (Ix : Heap → Prop)
    (hp : decide (p < m) = true) (hf : opndOk f = true) (hev : ev A f = .func (.func g) #[] caps.toArray) (hit : IterZ P g caps els) (h0 : I 0 H)
    (round : ∀ l j x H', els[j]? = some x → I j H' → AWr P m (some l) [] assign (fun e A1 H1 => e = .normal ∧ AWr P m (some l) [] body (fun e A2 H2 => (e = .normal ∧ I (j + 1) H2) ∨ (e = .ret ∧ Ix H2)) A1 H1) (put A (some p) x) H')
    (done : ∀ D H', I els.length H' → Q .normal (some D) A H') (stop : ∀ D H', Ix H' → Q .ret (some D) A H') :
    AWq P m none (.rangeFunc f #[p] assign body) Q A H := by
  intro φ a w hs hD
  have ea : lift (dsOf none) a = a := by unfold lift dsOf; rw [List.append_nil]
  rw [ea]
  refine wpIn_rangeFunc ?_
  intro fn _
  have hr := hs.ev hf
  rw [hev] at hr
  obtain ⟨lb, hlb, hcaps⟩ := hr.func_inv
  obtain ⟨W1, hW1⟩ : ∃ W1, (w.alloc (.deferred (some []))).alloc (.loop (recL fn a.tmps p assign body w.heap.size .ready none)) = W1 := ⟨_, rfl⟩
  have hl1 : W1.heap[w.heap.size + 1]? = some (.loop (recL fn a.tmps p assign body w.heap.size .ready none)) := by
    rw [← hW1]; have := World.alloc_heap_new (w.alloc (.deferred (some []))) (.loop (recL fn a.tmps p assign body w.heap.size .ready none)); rwa [World.size_alloc] at this
  have hd1 : W1.heap[w.heap.size]? = some (.deferred (some [])) := by
    rw [← hW1]; exact (RowKit.Below.heap_alloc _ _ _ (by simp)).trans (World.alloc_heap_new w _)
  have hh1 : Holds φ H W1 := by rw [← hW1]; exact (hs.holds.allocO _).allocO _
  have ok1 : Ok φ H w φ H W1 := by rw [← hW1]; exact (Ok.refl.allocR _).allocR _
  have em : ({ a with defers := [{ target := .collected w.heap.size, args := #[] }] ++ a.defers } : Act) = lift (dsOf (some w.heap.size)) a := by
    unfold lift dsOf; rw [hs.defers]; rfl
  refine ⟨w.heap.size + 1, [{ target := .collected w.heap.size, args := #[] }], W1, { target := .fn (.func g) lb.toArray, args := #[.func (.yield (w.heap.size + 1)) #[] #[]] }, W1, g, #[.func (.yield (w.heap.size + 1)) #[] #[]] ++ lb.toArray, W1, ?_, ?_, fun _ _ => trivial, ?_, fun h => (by cases h), ?_⟩
  · rw [← hW1]; exact run_enterLoop_outer _ _ _ _ _
  · simp only [resolve, hlb]
    simp [go_sem]
  · have eg := hit.1
    unfold enters at eg
    simp [invoke, go_sem, eg]
  · rw [em]
    refine callsIn_wide.2 ((hit.2 (w.heap.size + 1) φ H.has lb
      (fun j W => ∃ φ' H', I j H' ∧ Holds φ' H' W ∧ Ok φ H w φ' H' W ∧ W.heap[w.heap.size + 1]? = some (.loop (recL fn a.tmps p assign body w.heap.size .ready none)) ∧ W.heap[w.heap.size]? = some (.deferred (some [])))
      (fun W => ∃ φ' H', Ix H' ∧ Holds φ' H' W ∧ Ok φ H w φ' H' W ∧ W.heap[w.heap.size + 1]? = some (.loop (recL fn a.tmps p assign body w.heap.size .done (some .ret))) ∧ W.heap[w.heap.size]? = some (.deferred (some [])))
      W1 hcaps ?_ ?_ ?_ ⟨φ, H, h0, hh1, ok1, hl1, hd1⟩).mono ?_)
    · rintro j W ⟨φ', H', _, hh, ok, _, _⟩ β i u hu
      exact hh.rest.froz β i u (ok.fz β i u hu)
    · rintro j W n ⟨φ', H', hi, hh, ok, hl, hd⟩
      exact ⟨φ', H', hi, hh.drew n, ok.drew' n, hl, hd⟩
    · rintro j x W x' hx ⟨φ', H', hi, hh, ok, hl, hd⟩ hrx
      have noL : ∀ {φ : Ren} {H : Heap} {W : World} {st : LoopState} {pe : Option Code}, Holds φ H W → W.heap[w.heap.size + 1]? = some (.loop (recL fn a.tmps p assign body w.heap.size st pe)) → ¬ Owns φ H (w.heap.size + 1) := fun hh hl ho => by
        obtain ⟨_, o, h2, h3⟩ := Owns.lt hh ho
        rw [hl] at h2; cases h2; exact h3
      have noD : ∀ {φ : Ren} {H : Heap} {W : World}, Holds φ H W → W.heap[w.heap.size]? = some (.deferred (some [])) → ¬ Owns φ H w.heap.size := fun hh hl ho => by
        obtain ⟨_, o, h2, h3⟩ := Owns.lt hh ho
        rw [hl] at h2; cases h2; exact h3
      have hy := run_yield (P := P) (args := #[x']) hl rfl
      refine ⟨fn, _, assign, body, hy, roundIn_of_wpIn trivial ?_⟩
      have hst : St m φ' (put A (some p) x) H' { tmps := ((recL fn a.tmps p assign body w.heap.size .ready none).params.zip #[x']).foldl (fun t (q, v) => t.setIfInBounds q v) (recL fn a.tmps p assign body w.heap.size .ready none).tmps, defers := [] } W := by
        have h1 := (hs.step ok hh).put (dst := some p) (by simpa [dstOk] using hp) (hrx.mono ok.mono)
        have h2 : ({ tmps := ((recL fn a.tmps p assign body w.heap.size .ready none).params.zip #[x']).foldl (fun t (q, v) => t.setIfInBounds q v) (recL fn a.tmps p assign body w.heap.size .ready none).tmps, defers := [] } : Act) = a.put (some p) x' := by
          unfold Act.put recL
          simp [hs.defers]
        rw [h2]; exact h1
      refine wpIn_mono (show assign.wpIn (Fence.wide.inRound (w.heap.size + 1)) 0 P _ _ W from round (w.heap.size + 1) j x H' hx hi φ' _ W hst) ?_
      rintro e a1 w1 ⟨φ1, A1, H1, a0, rfl, ⟨rfl, hb⟩, s1, ok2⟩
      have hl2 : w1.heap[w.heap.size + 1]? = some (.loop (recL fn a.tmps p assign body w.heap.size .ready none)) := (ok2.frame _ (Array.getElem?_eq_some_iff.1 hl).1 (noL hh hl)).trans hl
      have hd2 : w1.heap[w.heap.size]? = some (.deferred (some [])) := (ok2.frame _ (Array.getElem?_eq_some_iff.1 hd).1 (noD hh hd)).trans hd
      refine ⟨_, run_beginRound hl2 rfl, ?_⟩
      have hl3 : (w1.putObj (w.heap.size + 1) (.loop (recL fn a.tmps p assign body w.heap.size .busy none))).heap[w.heap.size + 1]? = some (.loop (recL fn a.tmps p assign body w.heap.size .busy none)) := World.putObj_heap_same (Array.getElem?_eq_some_iff.1 hl2).1
      have hd3 : (w1.putObj (w.heap.size + 1) (.loop (recL fn a.tmps p assign body w.heap.size .busy none))).heap[w.heap.size]? = some (.deferred (some [])) := (World.putObj_heap_other (by omega)).trans hd2
      have hh3 : Holds φ1 H1 (w1.putObj (w.heap.size + 1) (.loop (recL fn a.tmps p assign body w.heap.size .busy none))) := s1.holds.putObj _ hl2 (fun h => h)
      have ok3 : Ok φ H w φ1 H1 (w1.putObj (w.heap.size + 1) (.loop (recL fn a.tmps p assign body w.heap.size .busy none))) := (ok.trans ok2).putR _ (by omega)
      have s3 : St m φ1 A1 H1 a0 (w1.putObj (w.heap.size + 1) (.loop (recL fn a.tmps p assign body w.heap.size .busy none))) := ⟨s1.defers, s1.size, s1.tmp, s1.out, hh3⟩
      refine wpIn_mono (show body.wpIn (Fence.wide.inRound (w.heap.size + 1)) 0 P _ _ _ from hb φ1 a0 _ s3) ?_
      rintro e a2 w2 ⟨φ2, A2, H2, a3, rfl, hq, s4, ok4⟩
      have hl4 := (ok4.frame _ (Array.getElem?_eq_some_iff.1 hl3).1 (noL hh3 hl3)).trans hl3
      have hd4 := (ok4.frame _ (Array.getElem?_eq_some_iff.1 hd3).1 (noD hh3 hd3)).trans hd3
      have ok5 := ok3.trans ok4
      rcases hq with ⟨rfl, hi2⟩ | ⟨rfl, hx2⟩
      · exact ⟨_, _, run_endRound none hl4, .inl ⟨rfl, φ2, H2, hi2, s4.holds.putObj _ hl4 (fun h => h), ok5.putR _ (by omega), World.putObj_heap_same (Array.getElem?_eq_some_iff.1 hl4).1, (World.putObj_heap_other (by omega)).trans hd4⟩⟩
      · exact ⟨_, _, run_endRound (some .ret) hl4, .inr ⟨rfl, φ2, H2, hx2, s4.holds.putObj _ hl4 (fun h => h), ok5.putR _ (by omega), World.putObj_heap_same (Array.getElem?_eq_some_iff.1 hl4).1, (World.putObj_heap_other (by omega)).trans hd4⟩⟩
    · rintro e W' ⟨v, rfl, ⟨φ', H', hi, hh, ok, hl, hd⟩ | ⟨φ', H', hi, hh, ok, hl, hd⟩⟩
      · have hh' := hh.putObj (.loop { recL fn a.tmps p assign body w.heap.size .ready none with state := .exhausted }) hl (fun h => h)
        have s5 := (hs.step (ok.putR (.loop { recL fn a.tmps p assign body w.heap.size .ready none with state := .exhausted }) (by omega : w.heap.size ≤ w.heap.size + 1)) hh')
        exact ⟨none, _, run_endLoop hl (by simp [recL]), φ', A, H', some w.heap.size, a, rfl, done _ _ hi, s5, fun d hd' => (by cases hd'; exact (World.putObj_heap_other (by omega)).trans hd), fun d hd' => .inr (by cases hd'; exact Nat.le_refl _), ok.putR _ (by omega)⟩
      · have hh' := hh.putObj (.loop { recL fn a.tmps p assign body w.heap.size .done (some .ret) with state := .exhausted }) hl (fun h => h)
        have s5 := (hs.step (ok.putR (.loop { recL fn a.tmps p assign body w.heap.size .done (some .ret) with state := .exhausted }) (by omega : w.heap.size ≤ w.heap.size + 1)) hh')
        refine ⟨some .ret, _, run_endLoop hl (by simp [recL]), wpIn_ret ?_⟩
        exact ⟨φ', A, H', some w.heap.size, a, rfl, stop _ _ hi, s5, fun d hd' => (by cases hd'; exact (World.putObj_heap_other (by omega)).trans hd), fun d hd' => .inr (by cases hd'; exact Nat.le_refl _), ok.putR _ (by omega)⟩
theorem ACalls.bodyQ {f : FuncId} {fn : Func} {c : Code} {m : Nat} {rs : List ResultVar} {args : List Value} {H : Heap} {Q : Value → Heap → Prop} (hf : P.funcs[f]? = some fn) (hb : fn.body = some c) (hm : fn.ntmps = m) (hrs : fn.results.toList = rs) (hle : args.length ≤ m) (hn : (fn.name == "runtime.NumGoroutine") = false)
    (h' : ∀ Q' : Value → Heap → Prop, Cont (∀ v H', Q v H' → Q' v H') → ∀ A : Fr, (∀ (t : Nat) (v : Value) (r : List Value), args.drop t = v :: r → A t = v) → AWq P m none c (fun e _ A' H' => aret P rs Q' e A' H') A H) : ACalls P f args H Q := by
  have h := h' Q (fun _ _ h => h)
  refine ⟨fun args w => ?_, fun φ args' w hh ha => ?_⟩
  · have hn' : ¬ fn.name = "runtime.NumGoroutine" := by simpa using hn
    simp [callFunc, hf, hb, hn']
  refine callsIn_wide.1 (callsIn_of_wp_marks (n := 0) hf hb trivial ?_)
  have hsz : args.length = args'.size := by simpa using ha.1
  have hst : St m φ (fun t => args.getD t undef) H { tmps := args' ++ Array.replicate (fn.ntmps - args'.size) undef, defers := [] } w := by
    refine ⟨rfl, by simp [hm]; omega, fun t v' ht => ?_, fun t ht => ?_, hh⟩
    · by_cases hlt : t < args'.size
      · rw [Array.getElem?_append_left hlt] at ht
        have hlt2 : t < args.length := by omega
        have := ha.2 t args[t] v' (by simp [hlt2]) ht
        simpa [hlt2] using this
      · rw [Array.getElem?_append_right (by omega)] at ht
        have : v' = undef := by
          rw [Array.getElem?_replicate] at ht
          split at ht
          · injection ht with ht; exact ht.symm
          · simp at ht
        subst this
        have hge : args.length ≤ t := by omega
        simp [List.getElem?_eq_none hge]
        exact R.undef
    · have hge : args.length ≤ t := by omega
      simp [List.getElem?_eq_none hge]
  have hA : ∀ (t : Nat) (v : Value) (r : List Value), args.drop t = v :: r → (fun t => args.getD t undef) t = v := fun t v r ht => by
    have h1 : (args.drop t)[0]? = some v := by rw [ht]; rfl
    rw [List.getElem?_drop] at h1
    simp only [Nat.add_zero] at h1
    simp [h1]
  have h0 := h _ hA φ _ w hst (fun d hd => by cases hd)
  rw [show lift (dsOf none) _ = _ from by unfold lift dsOf; rw [List.append_nil]] at h0
  refine wpIn_mono h0 ?_
  rintro e a' w' ⟨φ', A', H', D, a0, rfl, hq, hs', hD, hb', ok'⟩
  have fin : ∀ w2, St m φ' A' H' a0 w2 → Ok φ H w φ' H' w2 → aresK P fn.results.toList A' H' (fun vs => Q (retv vs) H') → ∃ v, (results fn a0.tmps).run P w2 = .ok v w2 ∧ (∃ φ' v0 v'' H'', Ending.returned v = .returned v'' ∧ Q v0 H'' ∧ R φ' H''.has v0 v'' ∧ Holds φ' H'' w2 ∧ Ok φ H w φ' H'' w2) := fun w2 hs' ok' h0 =>
    aret_post (R' := fun e w' => ∃ φ' v v' H', e = .returned v' ∧ Q v H' ∧ R φ' H'.has v v' ∧ Holds φ' H' w' ∧ Ok φ H w φ' H' w') hs' h0 (fun v v' hQ hr => ⟨φ', v, v', H', rfl, hQ, hr, hs'.holds, ok'⟩)
  have out : aresK P fn.results.toList A' H' (fun vs => Q (retv vs) H') → LeavesInM Fence.wide 0 P fn (lift (dsOf D) a0).tmps (fun e w' => ∃ φ' v v' H', e = .returned v' ∧ Q v H' ∧ R φ' H'.has v v' ∧ Holds φ' H' w' ∧ Ok φ H w φ' H' w') (lift (dsOf D) a0).defers .returning w' := fun h0 => by
    have ed : (lift (dsOf D) a0).defers = dsOf D := by unfold lift; rw [hs'.defers]; rfl
    rw [ed]
    cases D with
    | none => exact fin w' hs' ok' h0
    | some d =>
      have hd := hD d rfl
      have hh2 := hs'.holds.putObj (.deferred none) hd (fun h => h)
      have hdl : w.heap.size ≤ d := (hb' d rfl).resolve_left (fun h => by cases h)
      exact ⟨fun h => (by cases h), .inl ⟨d, _, rfl, run_takeDeferred hd, fin _ ⟨hs'.defers, hs'.size, hs'.tmp, hs'.out, hh2⟩ (ok'.putR _ hdl) h0⟩⟩
  rw [hrs] at out
  cases e with
  | normal => exact out hq
  | ret => exact out hq
  | exit id => exact hq.elim
  | goto l => exact hq.elim
  | panic c => exact hq.elim
  | outgrown => exact hq.elim
theorem ZCalls.bodyQ {f : FuncId} {fn : Func} {c : Code} {m : Nat} {rs : List ResultVar} {args : List Value} {r : Value} (hf : P.funcs[f]? = some fn) (hb : fn.body = some c) (hm : fn.ntmps = m) (hrs : fn.results.toList = rs) (hle : args.length ≤ m) (hn : (fn.name == "runtime.NumGoroutine") = false)
    (h' : ∀ (H : Heap) (Q' : Value → Heap → Prop), Cont (∀ v H', FinV H.size H' v r → Ext H H' → Q' v H') → ∀ A : Fr, (∀ (t : Nat) (v : Value) (r : List Value), args.drop t = v :: r → A t = v) → AWq P m none c (fun e _ A' H' => aret P rs Q' e A' H') A H) : ZCalls P f args r :=
  ZCalls.of fun H => ACalls.bodyQ hf hb hm hrs hle hn fun Q' hQ A hA => h' H Q' (fun v H' q1 q2 => hQ.out v H' ⟨q1, q2⟩) A hA
theorem OCalls.bodyQ {f : FuncId} {fn : Func} {c : Code} {m : Nat} {rs : List ResultVar} {args : List Value} {r : Value} (hf : P.funcs[f]? = some fn) (hb : fn.body = some c) (hm : fn.ntmps = m) (hrs : fn.results.toList = rs) (hle : args.length ≤ m) (hn : (fn.name == "runtime.NumGoroutine") = false)
    (h' : ∀ (H : Heap) (Q' : Value → Heap → Prop), Cont (∀ v H', (∃ ks, OwnL true H.size H' [v] [r] ks) → Ext H H' → Q' v H') → ∀ A : Fr, (∀ (t : Nat) (v : Value) (r : List Value), args.drop t = v :: r → A t = v) → AWq P m none c (fun e _ A' H' => aret P rs Q' e A' H') A H) : OCalls P f args r :=
  fun H => ACalls.bodyQ hf hb hm hrs hle hn fun Q' hQ A hA => h' H Q' (fun v H' q1 q2 => hQ.out v H' ⟨q1, q2⟩) A hA
theorem qthen_n {K : Option Nat → Fr → Heap → Prop} (h : K D A H) : qthen K Q .normal D A H := h
theorem qthen_r {K : Option Nat → Fr → Heap → Prop} (h : Q .ret D A H) : qthen K Q .ret D A H := h
theorem qblock_n {id : Nat} (h : Q .normal D A H) : qblock id Q .normal D A H := h
theorem qblock_r {id : Nat} (h : Q .ret D A H) : qblock id Q .ret D A H := h
end
end Go.Proofs.YtmoknllbpjpkmaaGreat.Zed
