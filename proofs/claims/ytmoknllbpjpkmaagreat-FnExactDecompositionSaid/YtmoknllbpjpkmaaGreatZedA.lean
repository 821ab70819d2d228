/- An abstract heap for Go programs: its words, and how an abstract state tells of a world. -/
import Derived.OrdersHeld
import Derived.Laws.Cells
import Derived.Laws.CopyRow
import Derived.Laws.StructEq
import Derived.WalkKit
namespace Go.Proofs.YtmoknllbpjpkmaaGreat.Zed
open Go
set_option linter.unusedVariables false
set_option linter.unusedSimpArgs false
/-- Where an abstract block lies: the block, the first cell, how many cells to its end, the cells of an element. -/
structure Img where
  blk : Nat
  base : Nat
  ext : Nat
  es : Nat
/-- A renaming: where each abstract block lies; which cells of the world are frozen, and to what; of each growing list its length (one more; 0: none) and its place. -/
structure Ren where
  img : Nat → Img
  fz : Nat → Nat → Option Value
  tl : Nat → Nat
  ti : Nat → Img
instance : CoeFun Ren (fun _ => Nat → Img) := ⟨Ren.img⟩
inductive Blk where
  | absent
  | dead
  | cells (cs : List Value) (es : Nat) (ro : Bool)
  | map (es : List (Int × Value))
  | tok (n es : Nat)
def Blk.live : Blk → Bool
  | .cells _ _ _ => true
  | .map _ => true
  | _ => false
def Blk.wr : Blk → Bool
  | .cells _ _ ro => !ro
  | .map _ => true
  | _ => false
theorem Blk.live_of_wr {x : Blk} (h : x.wr = true) : x.live = true := by cases x <;> first | rfl | (simp [Blk.wr] at h)
/-- A frozen row: n elements of es cells each. -/
@[match_pattern] def FZ (es n : Nat) (cs : List Value) : Value := .iface 0 (.iface es (.iface n (.agg ⟨cs⟩)))
/-- A place in frozen cells. -/
@[match_pattern] def PZ (cs : List Value) (o : Nat) : Value := .iface 1 (.iface o (.agg ⟨cs⟩))
/-- A list that grows, with its name. -/
@[match_pattern] def GZ (tag es n : Nat) (cs : List Value) : Value := .iface 2 (.iface tag (.iface es (.iface n (.agg ⟨cs⟩))))
/-- A frozen row without room behind it. -/
@[match_pattern] def KZ (es n : Nat) (cs : List Value) : Value := .iface 5 (.iface es (.iface n (.agg ⟨cs⟩)))
/-- Nobody asks. -/
def JZ : Value := .iface 3 .nilIface
structure Heap where
  size : Nat
  get : Nat → Blk
def Heap.has (H : Heap) (b : Nat) : Prop := H.get b ≠ .absent
def Heap.set (H : Heap) (b : Nat) (x : Blk) : Heap := ⟨H.size, fun c => if c = b then x else H.get c⟩
def Heap.push (H : Heap) (x : Blk) : Heap := ⟨H.size + 1, fun c => if c = H.size then x else H.get c⟩
theorem Heap.get_set (H : Heap) (b : Nat) (x : Blk) (c : Nat) : (H.set b x).get c = if c = b then x else H.get c := rfl
theorem Heap.get_push (H : Heap) (x : Blk) (c : Nat) : (H.push x).get c = if c = H.size then x else H.get c := rfl
theorem Heap.size_set (H : Heap) (b : Nat) (x : Blk) : (H.set b x).size = H.size := rfl
theorem Heap.size_push (H : Heap) (x : Blk) : (H.push x).size = H.size + 1 := rfl
/-- The present place of a growing list. -/
def GCur (φ : Ren) (tag es n : Nat) (u : Value) : Prop :=
  (n = 0 ∧ (φ.ti tag).es = 0 ∧ ∃ a, u = .slice a 0 0) ∨ (0 < es ∧ (φ.ti tag).es = es ∧ ∃ c, u = .slice (some ⟨(φ.ti tag).blk, (φ.ti tag).base, none⟩) n c ∧ n ≤ c ∧ c * es = (φ.ti tag).ext)
/-- The value u of the world is what the abstract value v tells of. An abstract capacity c + 1 is the capacity c; 0: to the block's end. -/
inductive R (φ : Ren) (has : Nat → Prop) : Value → Value → Prop
  | bool (b : Bool) : R φ has (.bool b) (.bool b)
  | int (k : IntKind) (n : Int) : R φ has (.int k n) (.int k n)
  | string (s : ByteArray) : R φ has (.string s) (.string s)
  | ptr0 : R φ has (.pointer none) (.pointer none)
  | ptr (b o : Nat) (h : has b) : R φ has (.pointer (some ⟨b, o, none⟩)) (.pointer (some ⟨(φ b).blk, (φ b).base + o, none⟩))
  | slice0 : R φ has (.slice none 0 0) (.slice none 0 0)
  | slx (b o n c : Nat) (h : has b) (hc : n ≤ c) : R φ has (.slice (some ⟨b, o, none⟩) n (c + 1)) (.slice (some ⟨(φ b).blk, (φ b).base + o, none⟩) n c)
  | sl (b o n c : Nat) (h : has b) (hc : n ≤ c) (he : c * (φ b).es + o = (φ b).ext) (hs : 0 < (φ b).es) : R φ has (.slice (some ⟨b, o, none⟩) n 0) (.slice (some ⟨(φ b).blk, (φ b).base + o, none⟩) n c)
  | slf (a : Addr) (c : Nat) (h : a.spot.isSome = true) : R φ has (.slice (some a) 0 (c + 1)) (.slice (some a) 0 c)
  | map0 : R φ has (.map none) (.map none)
  | map (b : Nat) (h : has b) : R φ has (.map (some b)) (.map (some (φ b).blk))
  | nilFunc : R φ has .nilFunc .nilFunc
  | nilIface : R φ has .nilIface .nilIface
  | func (fn : Fn) (xs ys xs' ys' : Array Value) (h1 : xs.size = xs'.size) (h2 : ys.size = ys'.size) (hx : ∀ (i : Nat) (x x' : Value), xs[i]? = some x → xs'[i]? = some x' → R φ has x x')
      (hy : ∀ (i : Nat) (x x' : Value), ys[i]? = some x → ys'[i]? = some x' → R φ has x x') : R φ has (.func fn xs ys) (.func fn xs' ys')
  | agg (xs xs' : Array Value) (h1 : xs.size = xs'.size) (hx : ∀ (i : Nat) (x x' : Value), xs[i]? = some x → xs'[i]? = some x' → R φ has x x') : R φ has (.agg xs) (.agg xs')
  | tuple (xs xs' : Array Value) (h1 : xs.size = xs'.size) (hx : ∀ (i : Nat) (x x' : Value), xs[i]? = some x → xs'[i]? = some x' → R φ has x x') : R φ has (.tuple xs) (.tuple xs')
  | fz (es n c β base : Nat) (cs : List Value) (us : Nat → Value) (hs : 0 < es) (hl : cs.length = n * es) (hc : n ≤ c) (hf : ∀ i, i < cs.length → φ.fz β (base + i) = some (us i)) (hr : ∀ (i : Nat) (x : Value), cs[i]? = some x → R φ has x (us i)) : R φ has (FZ es n cs) (.slice (some ⟨β, base, none⟩) n c)
  | fz0 (es : Nat) (a : Option Addr) (c : Nat) (h : a = none → c = 0) : R φ has (FZ es 0 []) (.slice a 0 c)
  | pz (β base o : Nat) (cs : List Value) (us : Nat → Value) (hf : ∀ i, i < cs.length → φ.fz β (base + i) = some (us i)) (hr : ∀ (i : Nat) (x : Value), cs[i]? = some x → R φ has x (us i)) : R φ has (PZ cs o) (.pointer (some ⟨β, base + o, none⟩))
  | gz (tag es n : Nat) (cs : List Value) (u : Value) (h : R φ has (FZ es n cs) u) (hn : n + 1 ≤ φ.tl tag) (hc : n + 1 = φ.tl tag → GCur φ tag es n u) : R φ has (GZ tag es n cs) u
  | kz (es n : Nat) (cs : List Value) (u : Value) (h : R φ has (FZ es n cs) u) (hc : ∃ a, u = .slice a n n) : R φ has (KZ es n cs) u
  | junk (u : Value) (h : u.oneCell' = true) : R φ has JZ u
/-- One renaming knows what another one knew. -/
structure Le (φ : Ren) (has : Nat → Prop) (φ' : Ren) (has' : Nat → Prop) : Prop where
  img : ∀ b, has b → has' b ∧ φ' b = φ b
  fz : ∀ β i u, φ.fz β i = some u → φ'.fz β i = some u
  tl : ∀ b, φ.tl b ≠ 0 → (φ'.tl b = φ.tl b ∧ φ'.ti b = φ.ti b) ∨ φ.tl b < φ'.tl b
theorem Le.refl (φ : Ren) (has : Nat → Prop) : Le φ has φ has := ⟨fun _ h => ⟨h, rfl⟩, fun _ _ _ h => h, fun _ _ => .inl ⟨rfl, rfl⟩⟩
theorem Le.trans {φ φ1 φ2 : Ren} {has h1 h2 : Nat → Prop} (g : Le φ has φ1 h1) (k : Le φ1 h1 φ2 h2) : Le φ has φ2 h2 :=
  ⟨fun b hb => ⟨(k.img b (g.img b hb).1).1, (k.img b (g.img b hb).1).2.trans (g.img b hb).2⟩, fun β i u h => k.fz β i u (g.fz β i u h), fun b hb => by
    rcases g.tl b hb with ⟨e1, e2⟩ | h
    · rcases k.tl b (by rw [e1]; exact hb) with ⟨e3, e4⟩ | h
      · exact .inl ⟨e3.trans e1, e4.trans e2⟩
      · exact .inr (by omega)
    · rcases k.tl b (by omega) with ⟨e3, e4⟩ | h
      · exact .inr (by omega)
      · exact .inr (by omega)⟩
/-- Value by value. -/
def RA (φ : Ren) (has : Nat → Prop) (xs xs' : Array Value) : Prop := xs.size = xs'.size ∧ ∀ (i : Nat) (x x' : Value), xs[i]? = some x → xs'[i]? = some x' → R φ has x x'
def RL (φ : Ren) (has : Nat → Prop) (xs xs' : List Value) : Prop := xs.length = xs'.length ∧ ∀ (i : Nat) (x x' : Value), xs[i]? = some x → xs'[i]? = some x' → R φ has x x'
section
variable {φ φ' : Ren} {has has' : Nat → Prop}
theorem R.mono {v u : Value} (h : R φ has v u) (hh : Le φ has φ' has') : R φ' has' v u := by
  induction h with
  | bool b => exact .bool b
  | int k n => exact .int k n
  | string s => exact .string s
  | ptr0 => exact .ptr0
  | ptr b o h => rw [← (hh.img b h).2]; exact .ptr b o (hh.img b h).1
  | slice0 => exact .slice0
  | slx b o n c h hc => rw [← (hh.img b h).2]; exact .slx b o n c (hh.img b h).1 hc
  | sl b o n c h hc he hs => rw [← (hh.img b h).2] at he hs ⊢; exact .sl b o n c (hh.img b h).1 hc he hs
  | slf a c h => exact .slf a c h
  | map0 => exact .map0
  | map b h => rw [← (hh.img b h).2]; exact .map b (hh.img b h).1
  | nilFunc => exact .nilFunc
  | nilIface => exact .nilIface
  | func fn xs ys xs' ys' h1 h2 hx hy ihx ihy => exact .func fn xs ys xs' ys' h1 h2 ihx ihy
  | agg xs xs' h1 hx ih => exact .agg xs xs' h1 ih
  | tuple xs xs' h1 hx ih => exact .tuple xs xs' h1 ih
  | fz es n c β base cs us hs hl hc hf hr ih => exact .fz es n c β base cs us hs hl hc (fun i hi => hh.fz _ _ _ (hf i hi)) ih
  | fz0 es a c h => exact .fz0 es a c h
  | pz β base o cs us hf hr ih => exact .pz β base o cs us (fun i hi => hh.fz _ _ _ (hf i hi)) ih
  | gz tag es n cs u h hn hc ih =>
    rcases hh.tl tag (by omega) with ⟨e1, e2⟩ | hlt
    · refine .gz tag es n cs u ih (by omega) (fun e => ?_)
      have := hc (by omega)
      unfold GCur at this ⊢
      rw [e2]; exact this
    · exact .gz tag es n cs u ih (by omega) (fun e => by omega)
  | kz es n cs u h hc ih => exact .kz es n cs u ih hc
  | junk u h => exact .junk u h
theorem array_ext? {xs ys : Array Value} (h : xs.size = ys.size) (hh : ∀ (i : Nat) (x y : Value), xs[i]? = some x → ys[i]? = some y → x = y) : xs = ys := by
  apply Array.ext_getElem?
  intro i
  by_cases hi : i < xs.size
  · have hj : i < ys.size := by omega
    rw [Array.getElem?_eq_getElem hi, Array.getElem?_eq_getElem hj]
    exact congrArg some (hh i _ _ (Array.getElem?_eq_getElem hi) (Array.getElem?_eq_getElem hj))
  · rw [Array.getElem?_eq_none (by omega), Array.getElem?_eq_none (by omega)]
def flat : Value → Bool
  | .bool _ | .int _ _ | .string _ | .pointer none | .slice none 0 0 | .map none | .nilFunc | .nilIface => true
  | _ => false
def constOk : Value → Bool
  | .agg cs => cs.all flat
  | .tuple cs => cs.all flat
  | v => flat v
theorem R.of_flat {v : Value} (h : flat v = true) : R φ has v v := by
  unfold flat at h
  split at h <;> first | constructor | (simp at h)
theorem R.of_const {v : Value} (h : constOk v = true) : R φ has v v := by
  have key : ∀ (cs : Array Value), cs.all flat = true → ∀ (i : Nat) (x x' : Value), cs[i]? = some x → cs[i]? = some x' → R φ has x x' := by
    intro cs hc i x x' h1 h2
    rw [h1] at h2
    injection h2 with h2
    subst h2
    obtain ⟨hi, rfl⟩ := Array.getElem?_eq_some_iff.1 h1
    exact .of_flat (Array.all_eq_true.1 hc i hi)
  unfold constOk at h
  split at h
  · exact .agg _ _ rfl (key _ h)
  · exact .tuple _ _ rfl (key _ h)
  · exact .of_flat h
theorem R.flat_eq {v u : Value} (hf : flat v = true) (h : R φ has v u) : u = v := by
  cases h <;> first | rfl | (simp [flat, FZ, GZ, PZ, KZ, JZ] at hf)
theorem R.const_eq {v u : Value} (hf : constOk v = true) (h : R φ has v u) : u = v := by
  cases h with
  | agg xs xs' h1 hx =>
    have hf : xs.all flat = true := hf
    congr 1
    exact array_ext? (by omega) fun i x y hi hj => by
      have hlt : i < xs.size := by rw [h1]; exact (Array.getElem?_eq_some_iff.1 hi).1
      have hh := hx i _ x (Array.getElem?_eq_getElem hlt) hi
      rw [R.flat_eq (Array.all_eq_true.1 hf i hlt) hh]
      rw [Array.getElem?_eq_getElem hlt] at hj
      exact Option.some.inj hj
  | tuple xs xs' h1 hx =>
    have hf : xs.all flat = true := hf
    congr 1
    exact array_ext? (by omega) fun i x y hi hj => by
      have hlt : i < xs.size := by rw [h1]; exact (Array.getElem?_eq_some_iff.1 hi).1
      have hh := hx i _ x (Array.getElem?_eq_getElem hlt) hi
      rw [R.flat_eq (Array.all_eq_true.1 hf i hlt) hh]
      rw [Array.getElem?_eq_getElem hlt] at hj
      exact Option.some.inj hj
  | bool b => rfl
  | int k n => rfl
  | string s => rfl
  | ptr0 => rfl
  | slice0 => rfl
  | map0 => rfl
  | nilFunc => rfl
  | nilIface => rfl
  | _ => simp [constOk, flat, FZ, GZ, PZ, KZ, JZ] at hf
theorem R.undef : R φ has undef undef := .tuple #[] #[] rfl (by simp)
theorem RA.mono {xs ys : Array Value} (h : RA φ has xs ys) (hh : Le φ has φ' has') : RA φ' has' xs ys := ⟨h.1, fun i x y hx hy => (h.2 i x y hx hy).mono hh⟩
theorem RL.mono {xs ys : List Value} (h : RL φ has xs ys) (hh : Le φ has φ' has') : RL φ' has' xs ys := ⟨h.1, fun i x y hx hy => (h.2 i x y hx hy).mono hh⟩
theorem RA.nil : RA φ has #[] #[] := ⟨rfl, by simp⟩
theorem RA.toList {xs ys : Array Value} (h : RA φ has xs ys) : RL φ has xs.toList ys.toList := ⟨by simpa using h.1, fun i x y hx hy => h.2 i x y (by simpa using hx) (by simpa using hy)⟩
theorem RL.toArray {xs ys : List Value} (h : RL φ has xs ys) : RA φ has xs.toArray ys.toArray := ⟨by simpa using h.1, fun i x y hx hy => h.2 i x y (by simpa using hx) (by simpa using hy)⟩
theorem RL.nil : RL φ has [] [] := ⟨rfl, by simp⟩
theorem RL.cons {x y : Value} {xs ys : List Value} (h : R φ has x y) (hs : RL φ has xs ys) : RL φ has (x :: xs) (y :: ys) :=
  ⟨by simp [hs.1], fun i a b ha hb => by
    cases i with
    | zero => simp at ha hb; rw [← ha, ← hb]; exact h
    | succ i => exact hs.2 i a b (by simpa using ha) (by simpa using hb)⟩
theorem RL.inv_cons {x : Value} {xs zs : List Value} (h : RL φ has (x :: xs) zs) : ∃ y ys, zs = y :: ys ∧ R φ has x y ∧ RL φ has xs ys := by
  cases zs with
  | nil => simpa using h.1
  | cons y ys => exact ⟨y, ys, rfl, h.2 0 x y rfl rfl, by simpa using h.1, fun i a b ha hb => h.2 (i + 1) a b (by simpa using ha) (by simpa using hb)⟩
theorem RL.append {xs ys xs' ys' : List Value} (h : RL φ has xs xs') (h2 : RL φ has ys ys') : RL φ has (xs ++ ys) (xs' ++ ys') :=
  ⟨by simp [h.1, h2.1], fun i a b ha hb => by
    by_cases hi : i < xs.length
    · rw [List.getElem?_append_left hi] at ha
      rw [List.getElem?_append_left (by have := h.1; omega)] at hb
      exact h.2 i a b ha hb
    · rw [List.getElem?_append_right (by omega)] at ha
      rw [List.getElem?_append_right (by have := h.1; omega), ← h.1] at hb
      exact h2.2 _ a b ha hb⟩
theorem RL.map {α : Type} (l : List α) (f g : α → Value) (h : ∀ x ∈ l, R φ has (f x) (g x)) : RL φ has (l.map f) (l.map g) :=
  ⟨by simp, fun i a b ha hb => by
    rw [List.getElem?_map] at ha hb
    cases e : l[i]? with
    | none => rw [e] at ha; simp at ha
    | some x =>
      rw [e] at ha hb
      simp at ha hb
      rw [← ha, ← hb]
      exact h x (List.mem_of_getElem? e)⟩
theorem RA.map {α : Type} (l : Array α) (f g : α → Value) (h : ∀ x ∈ l, R φ has (f x) (g x)) : RA φ has (l.map f) (l.map g) := by
  have := (RL.map (φ := φ) (has := has) l.toList f g (fun x hx => h x (by simpa using hx))).toArray
  rwa [← Array.toList_map, ← Array.toList_map, Array.toArray_toList, Array.toArray_toList] at this
theorem RA.append {xs ys xs' ys' : Array Value} (h : RA φ has xs xs') (h2 : RA φ has ys ys') : RA φ has (xs ++ ys) (xs' ++ ys') := by
  have := (h.toList.append h2.toList).toArray
  rwa [← Array.toList_append, ← Array.toList_append, Array.toArray_toList, Array.toArray_toList] at this
theorem R.cells_eq {v u : Value} (h : R φ has v u) : (∃ xs ys, v = .agg xs ∧ u = .agg ys) ∨ (v.cells = #[v] ∧ u.cells = #[u]) := by
  have key : ∀ {v u : Value}, R φ has v u → (∃ xs ys, v = .agg xs ∧ u = .agg ys) ∨ (v.cells = #[v] ∧ u.cells = #[u]) := by
    intro v u h
    cases h with
    | agg xs xs' h1 hx => exact .inl ⟨_, _, rfl, rfl⟩
    | gz tag es n cs u h hn hc => right; cases h <;> exact ⟨rfl, rfl⟩
    | kz es n cs u h hc => right; cases h <;> exact ⟨rfl, rfl⟩
    | junk u h => right; refine ⟨rfl, ?_⟩; cases u <;> first | rfl | (simp [Value.oneCell'] at h)
    | _ => exact .inr ⟨rfl, rfl⟩
  exact key h
theorem R.cells {v u : Value} (h : R φ has v u) : RA φ has v.cells u.cells := by
  rcases h.cells_eq with ⟨xs, ys, rfl, rfl⟩ | ⟨e1, e2⟩
  · cases h with
    | agg xs xs' h1 hx => exact ⟨h1, hx⟩
  · rw [e1, e2]
    refine ⟨rfl, fun i a b ha hb => ?_⟩
    cases i with
    | succ i => simp at ha
    | zero =>
      simp at ha hb
      rw [← ha, ← hb]
      assumption
end
/-! ### What an abstract heap tells of a world; what a step may do -/
/-- A map's entries. -/
def MapR (φ : Ren) (has : Nat → Prop) (es : List (Int × Value)) (en : Array MapEntry) : Prop :=
  es.length = en.size ∧ ∀ (i : Nat) (k : Int) (v : Value) (e : MapEntry), es[i]? = some (k, v) → en[i]? = some e → e.key = .int .i64 k ∧ R φ has v e.val
/-- What is frozen and what grows. -/
structure Rest (φ : Ren) (H : Heap) (w : World) : Prop where
  froz : ∀ β i u, φ.fz β i = some u → w.cell? ⟨β, i, none⟩ = some u
  unf : ∀ b, (H.get b).wr = true → ∀ i, φ.fz (φ b).blk i = none
  tok : ∀ b n es, H.get b = .tok n es → φ.tl b = n + 1 ∧ 0 < es ∧ ((n = 0 ∧ (φ.ti b).es = 0) ∨ ((φ.ti b).es = es ∧ (∃ arr e, w.heap[(φ.ti b).blk]? = some (.cells arr e (0, 0)) ∧ (φ.ti b).base + (φ.ti b).ext = arr.size) ∧ (∃ c, n ≤ c ∧ c * es = (φ.ti b).ext) ∧ ∀ i, (φ.ti b).base + n * es ≤ i → φ.fz (φ.ti b).blk i = none))
  tap : ∀ b n es c, H.get b = .tok n es → (φ.ti b).es ≠ 0 → (H.get c).live = true → (φ c).blk ≠ (φ.ti b).blk
  tap2 : ∀ b c n es n' es', b ≠ c → H.get b = .tok n es → H.get c = .tok n' es' → (φ.ti b).es ≠ 0 → (φ.ti c).es ≠ 0 → (φ.ti b).blk ≠ (φ.ti c).blk
  tl0 : ∀ b, H.size ≤ b → φ.tl b = 0
/-- The blocks that the heap may write. -/
def Owns (φ : Ren) (H : Heap) (β : Nat) : Prop := (∃ b, (H.get b).wr = true ∧ (φ b).blk = β) ∨ (∃ b n es, H.get b = .tok n es ∧ (φ.ti b).es ≠ 0 ∧ (φ.ti b).blk = β)
structure Holds (φ : Ren) (H : Heap) (w : World) : Prop where
  wf : ∀ b, H.size ≤ b → H.get b = .absent
  cell : ∀ b cs es ro, H.get b = .cells cs es ro → ∀ (i : Nat) (v : Value), cs[i]? = some v → ∃ u, w.cell? ⟨(φ b).blk, (φ b).base + i, none⟩ = some u ∧ R φ H.has v u
  row : ∀ b cs es, H.get b = .cells cs es false → ∃ arr e, w.heap[(φ b).blk]? = some (.cells arr e (0, 0)) ∧ (φ b).base + (φ b).ext = arr.size ∧ cs.length ≤ (φ b).ext
  es : ∀ b cs es ro, H.get b = .cells cs es ro → es = (φ b).es ∧ 0 < es
  map : ∀ b es, H.get b = .map es → ∃ en ck, w.heap[(φ b).blk]? = some (.map en ck) ∧ MapR φ H.has es en
  lt : ∀ b, (H.get b).live = true → (φ b).blk < w.heap.size
  apart : ∀ b c, b ≠ c → (H.get b).live = true → (H.get c).wr = true → (φ b).blk ≠ (φ c).blk
  rest : Rest φ H w
structure Ok (φ : Ren) (H : Heap) (w : World) (φ' : Ren) (H' : Heap) (w' : World) : Prop where
  size : H.size ≤ H'.size
  img : ∀ b, H.has b → φ' b = φ b
  has : ∀ b, H.has b → H'.has b
  os : w'.os = w.os
  tape : w'.tape = w.tape
  output : w'.output = w.output
  wsize : w.heap.size ≤ w'.heap.size
  frame : ∀ β, β < w.heap.size → ¬ Owns φ H β → w'.heap[β]? = w.heap[β]?
  wr : ∀ β, Owns φ' H' β → w.heap.size ≤ β ∨ Owns φ H β
  fz : ∀ β i u, φ.fz β i = some u → φ'.fz β i = some u
  tl : ∀ b, φ.tl b ≠ 0 → (φ'.tl b = φ.tl b ∧ φ'.ti b = φ.ti b) ∨ φ.tl b < φ'.tl b
theorem Heap.has_of_wr {H : Heap} {b : Nat} (h : (H.get b).wr = true) : H.has b := by
  intro e; rw [e] at h; simp [Blk.wr] at h
theorem Heap.has_of_live {H : Heap} {b : Nat} (h : (H.get b).live = true) : H.has b := by
  intro e; rw [e] at h; simp [Blk.live] at h
theorem Heap.has_of_cells {H : Heap} {b : Nat} {cs : List Value} {es : Nat} {ro : Bool} (h : H.get b = .cells cs es ro) : H.has b := by
  intro e; rw [e] at h; simp at h
theorem Holds.lt_size {φ : Ren} {H : Heap} {w : World} (h : Holds φ H w) {b : Nat} (hb : H.has b) : b < H.size := by
  rcases Nat.lt_or_ge b H.size with h1 | h1
  · exact h1
  · exact absurd (h.wf b h1) hb
theorem Ok.refl {φ : Ren} {H : Heap} {w : World} : Ok φ H w φ H w :=
  ⟨Nat.le_refl _, fun _ _ => rfl, fun _ h => h, rfl, rfl, rfl, Nat.le_refl _, fun _ _ _ => rfl, fun b hb => .inr hb, fun _ _ _ h => h, fun _ _ => .inl ⟨rfl, rfl⟩⟩
theorem Ok.mono {φ φ' : Ren} {H H' : Heap} {w w' : World} (h : Ok φ H w φ' H' w') : Le φ H.has φ' H'.has := ⟨fun b hb => ⟨h.has b hb, h.img b hb⟩, h.fz, h.tl⟩
theorem Ok.trans {φ φ1 φ2 : Ren} {H H1 H2 : Heap} {w w1 w2 : World} (h : Ok φ H w φ1 H1 w1) (g : Ok φ1 H1 w1 φ2 H2 w2) : Ok φ H w φ2 H2 w2 where
  size := Nat.le_trans h.size g.size
  img b hb := (g.img b (h.has b hb)).trans (h.img b hb)
  has b hb := g.has b (h.has b hb)
  os := g.os.trans h.os
  tape := g.tape.trans h.tape
  output := g.output.trans h.output
  wsize := Nat.le_trans h.wsize g.wsize
  frame β hβ hn := by
    rw [g.frame β (Nat.lt_of_lt_of_le hβ h.wsize) (fun ho => by
      rcases h.wr β ho with h1 | h1
      · omega
      · exact hn h1), h.frame β hβ hn]
  wr β hb := by
    rcases g.wr β hb with h1 | h1
    · exact .inl (Nat.le_trans h.wsize h1)
    · exact h.wr β h1
  fz β i u hf := g.fz β i u (h.fz β i u hf)
  tl := (h.mono.trans g.mono).tl
/-- The world has drawn. -/
theorem Holds.drew {φ : Ren} {H : Heap} {w : World} (h : Holds φ H w) (n : Nat) : Holds φ H { w with drawn := n } := ⟨h.wf, h.cell, h.row, h.es, h.map, h.lt, h.apart, ⟨h.rest.froz, h.rest.unf, h.rest.tok, h.rest.tap, h.rest.tap2, h.rest.tl0⟩⟩
theorem Ok.drew {φ φ' : Ren} {H H' : Heap} {w w' : World} (n : Nat) (h : Ok φ H { w with drawn := n } φ' H' w') : Ok φ H w φ' H' w' :=
  ⟨h.size, h.img, h.has, h.os, h.tape, h.output, h.wsize, h.frame, h.wr, h.fz, h.tl⟩
theorem Ok.drew' {φ φ' : Ren} {H H' : Heap} {w w' : World} (n : Nat) (h : Ok φ H w φ' H' w') : Ok φ H w φ' H' { w' with drawn := n } :=
  ⟨h.size, h.img, h.has, h.os, h.tape, h.output, h.wsize, h.frame, h.wr, h.fz, h.tl⟩
/-! ### Frames -/
def put (A : Nat → Value) (dst : Option Nat) (v : Value) : Nat → Value :=
  match dst with
  | none => A
  | some d => fun t => if t = d then v else A t
theorem put_none (A : Nat → Value) (v : Value) : put A none v = A := rfl
theorem put_at (A : Nat → Value) (d : Nat) (v : Value) (t : Nat) : put A (some d) v t = if t = d then v else A t := rfl
def ev (A : Nat → Value) : Operand → Value
  | .tmp t => A t
  | .const v => v
  | .global g => .pointer (some ⟨g, 0, none⟩)
  | .func f => .func (.func f) #[] #[]
theorem ev_tmp (A : Nat → Value) (t : Nat) : ev A (.tmp t) = A t := rfl
theorem ev_const (A : Nat → Value) (v : Value) : ev A (.const v) = v := rfl
theorem ev_func (A : Nat → Value) (f : FuncId) : ev A (.func f) = .func (.func f) #[] #[] := rfl
def opndOk : Operand → Bool
  | .const v => constOk v
  | .global _ => false
  | _ => true
structure St (m : Nat) (φ : Ren) (A : Nat → Value) (H : Heap) (a : Act) (w : World) : Prop where
  defers : a.defers = []
  size : a.tmps.size = m
  tmp : ∀ (t : Nat) (v' : Value), a.tmps[t]? = some v' → R φ H.has (A t) v'
  out : ∀ t, m ≤ t → A t = undef
  holds : Holds φ H w
section
variable {m : Nat} {φ φ' : Ren} {A A' : Nat → Value} {H H' : Heap} {a : Act} {w w' : World}
theorem St.get (h : St m φ A H a w) (t : Nat) : R φ H.has (A t) (a.tmps.getD t undef) := by
  rcases Nat.lt_or_ge t m with h1 | h1
  · have hs : t < a.tmps.size := by rw [h.size]; exact h1
    have := h.tmp t a.tmps[t] (Array.getElem?_eq_getElem hs)
    simpa [hs] using this
  · have hs : a.tmps.size ≤ t := by rw [h.size]; exact h1
    rw [h.out t h1]
    simp [Array.getElem?_eq_none hs]
    exact R.undef
theorem St.ev (h : St m φ A H a w) {x : Operand} (hx : opndOk x = true) : R φ H.has (ev A x) (a.eval x) := by
  cases x with
  | tmp t => exact h.get t
  | const v => exact R.of_const hx
  | global g => simp [opndOk] at hx
  | func f => exact .func _ _ _ _ _ rfl rfl (by simp) (by simp)
def dstOk (m : Nat) : Option Nat → Bool
  | none => true
  | some d => d < m
theorem St.step (h : St m φ A H a w) (ok : Ok φ H w φ' H' w') (hh : Holds φ' H' w') : St m φ' A H' a w' :=
  ⟨h.defers, h.size, fun t v' ht => (h.tmp t v' ht).mono ok.mono, h.out, hh⟩
theorem St.put (h : St m φ A H a w) {dst : Option Nat} (hd : dstOk m dst = true) {v v' : Value} (hv : R φ H.has v v') : St m φ (put A dst v) H (a.put dst v') w := by
  cases dst with
  | none => exact h
  | some d =>
    have hd' : d < m := by simpa [dstOk] using hd
    refine ⟨h.defers, by simpa [Act.put] using h.size, fun t u ht => ?_, fun t ht => ?_, h.holds⟩
    · rw [put_at]
      by_cases e : t = d
      · subst e
        have hs : t < a.tmps.size := by rw [h.size]; exact hd'
        simp [Act.put, hs] at ht
        rw [if_pos rfl, ← ht]
        exact hv
      · rw [if_neg e]
        simp only [Act.put] at ht
        rw [Array.getElem?_setIfInBounds_ne (fun e' => e e'.symm)] at ht
        exact h.tmp t u ht
    · rw [put_at, if_neg (by omega)]
      exact h.out t ht
end
/-! ### Triples -/
abbrev Fr := Nat → Value
/-- Function f is entered by a call. -/
def enters (P : Program) (f : FuncId) : Prop := ∀ args w, (callFunc f args).run P w = .ok (.enter f args) w
def ACalls (P : Program) (f : FuncId) (args : List Value) (H : Heap) (Q : Value → Heap → Prop) : Prop :=
  enters P f ∧ ∀ (φ : Ren) (args' : Array Value) (w : World), Holds φ H w → RA φ H.has args.toArray args' →
    Calls P f args' w fun e w' => ∃ φ' v v' H', e = .returned v' ∧ Q v H' ∧ R φ' H'.has v v' ∧ Holds φ' H' w' ∧ Ok φ H w φ' H' w'
/-- One operation. -/
def AOp (P : Program) (m : Nat) (o : Oper) (K : Fr → Heap → Prop) (A : Fr) (H : Heap) : Prop :=
  ∀ (φ : Ren) (a : Act) (w : World) (Kc : Act → World → Prop) (Qc : Exit → Act → World → Prop), St m φ A H a w →
    (∀ φ' A' H' a' w', K A' H' → St m φ' A' H' a' w' → Ok φ H w φ' H' w' → Kc a' w') → o.wp P a w Kc Qc
/-- A region's operations. -/
def AOps (P : Program) (m : Nat) (ops : Array Oper) (l : List Oper) (K : Fr → Heap → Prop) (A : Fr) (H : Heap) : Prop :=
  ∀ (φ : Ren) (a : Act) (w : World) (Qc : Exit → Act → World → Prop), St m φ A H a w →
    (∀ φ' A' H' a' w', K A' H' → St m φ' A' H' a' w' → Ok φ H w φ' H' w' → Qc .normal a' w') → wpList P ops Qc l a w
def AWp (P : Program) (m : Nat) (c : Code) (Q : Exit → Fr → Heap → Prop) (A : Fr) (H : Heap) : Prop :=
  ∀ (φ : Ren) (a : Act) (w : World), St m φ A H a w → c.wp P (fun e a' w' => ∃ φ' A' H', Q e A' H' ∧ St m φ' A' H' a' w' ∧ Ok φ H w φ' H' w') a w
def athen (K : Fr → Heap → Prop) (Q : Exit → Fr → Heap → Prop) : Exit → Fr → Heap → Prop
  | .normal, A, H => K A H
  | e, A, H => Q e A H
def ablock (id : Nat) (Q : Exit → Fr → Heap → Prop) : Exit → Fr → Heap → Prop
  | .exit id', A, H => if id' = id then Q .normal A H else Q (.exit id') A H
  | e, A, H => Q e A H
section
variable {P : Program} {m : Nat} {Q : Exit → Fr → Heap → Prop} {A : Fr} {H : Heap}
theorem AWp.mono {c : Code} {Q' : Exit → Fr → Heap → Prop} (h : AWp P m c Q A H) (hq : ∀ e A H, Q e A H → Q' e A H) : AWp P m c Q' A H :=
  fun φ a w hs => wp_mono (h φ a w hs) fun e a' w' ⟨φ', A', H', q, r⟩ => ⟨φ', A', H', hq _ _ _ q, r⟩
theorem ACalls.mono {f : FuncId} {args : List Value} {Q Q' : Value → Heap → Prop} (h : ACalls P f args H Q) (hq : ∀ v H', Q v H' → Q' v H') : ACalls P f args H Q' :=
  ⟨h.1, fun φ args' w hs ha => (h.2 φ args' w hs ha).mono fun e w' ⟨φ', v, v', H', he, q, r⟩ => ⟨φ', v, v', H', he, hq _ _ q, r⟩⟩
theorem AWp.skip (h : Q .normal A H) : AWp P m .skip Q A H := fun φ a w hs => wp_skip ⟨φ, A, H, h, hs, Ok.refl⟩
theorem AWp.ret (h : Q .ret A H) : AWp P m .ret Q A H := fun φ a w hs => wp_ret ⟨φ, A, H, h, hs, Ok.refl⟩
theorem AWp.exit {id : Nat} (h : Q (.exit id) A H) : AWp P m (.exit id) Q A H := fun φ a w hs => wp_exit ⟨φ, A, H, h, hs, Ok.refl⟩
theorem AWp.seq' {x y : Code} (h : AWp P m x (athen (AWp P m y Q) Q) A H) : AWp P m (.seq x y) Q A H := by
  intro φ a w hs
  refine wp_seq (wp_mono (h φ a w hs) ?_)
  rintro e a1 w1 ⟨φ1, A1, H1, q, s1, ok1⟩
  cases e with
  | normal => exact wp_mono (q φ1 a1 w1 s1) fun e a2 w2 ⟨φ2, A2, H2, q2, s2, ok2⟩ => ⟨φ2, A2, H2, q2, s2, ok1.trans ok2⟩
  | _ => exact ⟨φ1, A1, H1, q, s1, ok1⟩
theorem AWp.seq {x y : Code} (h : ∀ K : Fr → Heap → Prop, (∀ A H, AWp P m y Q A H → K A H) → AWp P m x (athen K Q) A H) : AWp P m (.seq x y) Q A H :=
  AWp.seq' (h _ fun _ _ h => h)
theorem AWp.block {id : Nat} {c : Code} (h : AWp P m c (ablock id Q) A H) : AWp P m (.block id c) Q A H := by
  intro φ a w hs
  refine wp_block (wp_mono (h φ a w hs) ?_)
  rintro e a1 w1 ⟨φ1, A1, H1, q, s1, ok1⟩
  cases e with
  | exit id' =>
    simp only [ablock] at q
    simp only [Exit.inBlock]
    split
    · rename_i e; rw [if_pos e] at q; exact ⟨φ1, A1, H1, q, s1, ok1⟩
    · rename_i e; rw [if_neg e] at q; exact ⟨φ1, A1, H1, q, s1, ok1⟩
  | _ => exact ⟨φ1, A1, H1, q, s1, ok1⟩
/-- What follows, out of simp's sight. -/
def Cont (p : Prop) : Prop := p
theorem Cont.out {p : Prop} (h : Cont p) : p := h
/-- A test: v's two ways. -/
def acond (v : Value) (X Y : Prop) : Prop :=
  match v with
  | .bool b => (b = true → X) ∧ (b = false → Y)
  | _ => False
theorem acond_bool (b : Bool) (X Y : Prop) : acond (.bool b) X Y = ((b = true → X) ∧ (b = false → Y)) := rfl
theorem AWp.cond {c : Operand} {x y : Code} (hc : opndOk c = true) (h : ∀ X Y : Prop, Cont (AWp P m x Q A H → X) → Cont (AWp P m y Q A H → Y) → acond (ev A c) X Y) : AWp P m (.cond c x y) Q A H := by
  intro φ a w hs
  have h0 := h _ _ id id
  have hr := hs.ev hc
  unfold acond at h0
  split at h0
  · rename_i b e
    rw [e] at hr
    have e2 : a.eval c = .bool b := R.flat_eq (v := .bool b) rfl hr
    exact wp_cond_split e2 (fun hb => h0.1 hb φ a w hs) (fun hb => h0.2 hb φ a w hs)
  · exact h0.elim
/-- A loop: an invariant over abstract states, and a measure. -/
theorem AWp.loop {c : Code} (I : Fr → Heap → Prop) (μ : Fr → Heap → Nat) (h0 : I A H)
    (round : ∀ A H, I A H → AWp P m c (athen (fun A' H' => I A' H' ∧ μ A' H' < μ A H) Q) A H) : AWp P m (.loop c) Q A H := by
  intro φ a w hs b k cs
  have key : ∀ n A1 H1 φ1 a1 w1, μ A1 H1 = n → I A1 H1 → St m φ1 A1 H1 a1 w1 → Ok φ H w φ1 H1 w1 →
      ∃ e a' w', (∃ φ' A' H', Q e A' H' ∧ St m φ' A' H' a' w' ∧ Ok φ H w φ' H' w') ∧ Arrives P (lone (b.at a1 (.code c :: .inLoop c :: k)) cs w1) b k cs e a' w' := by
    intro n
    induction n using Nat.strongRecOn with
    | _ n ih =>
      intro A1 H1 φ1 a1 w1 hn hI hs1 ok1
      obtain ⟨e, a2, w2, ⟨φ2, A2, H2, hq, hs2, ok2⟩, harr⟩ := round A1 H1 hI φ1 a1 w1 hs1 b (.inLoop c :: k) cs
      cases e with
      | normal =>
        obtain ⟨hI2, hlt⟩ := hq
        obtain ⟨e3, a3, w3, hq3, harr3⟩ := ih (μ A2 H2) (hn ▸ hlt) A2 H2 φ2 a2 w2 rfl hI2 hs2 (ok1.trans ok2)
        exact ⟨e3, a3, w3, hq3, .of_steps (Steps.trans harr (.one step_inLoop)) harr3⟩
      | exit id => exact ⟨_, a2, w2, ⟨φ2, A2, H2, hq, hs2, ok1.trans ok2⟩, .pass (x := .inLoop c) rfl (fun _ _ => .inl (by simp)) harr⟩
      | goto l => exact ⟨_, a2, w2, ⟨φ2, A2, H2, hq, hs2, ok1.trans ok2⟩, .pass (x := .inLoop c) rfl (fun _ _ => .inl (by simp)) harr⟩
      | ret => exact ⟨_, a2, w2, ⟨φ2, A2, H2, hq, hs2, ok1.trans ok2⟩, .pass (x := .inLoop c) rfl (fun _ _ => .inl (by simp)) harr⟩
      | panic ch => exact ⟨_, a2, w2, ⟨φ2, A2, H2, hq, hs2, ok1.trans ok2⟩, .pass (x := .inLoop c) rfl (fun _ _ => .inl (by simp)) harr⟩
      | outgrown => exact ⟨_, a2, w2, ⟨φ2, A2, H2, hq, hs2, ok1.trans ok2⟩, .pass (x := .inLoop c) rfl (fun _ _ => .inl (by simp)) harr⟩
  obtain ⟨e, a', w', hq, harr⟩ := key _ A H φ a w rfl h0 hs Ok.refl
  exact ⟨e, a', w', hq, .of_steps (.one step_loop) harr⟩
/-! ### Regions -/
theorem AWp.region {id : Nat} {l : List Oper} (h : AOps P m l.toArray l (Q .normal) A H) : AWp P m (.region id l.toArray false) Q A H := by
  intro φ a w hs
  refine wp_region_lit (h φ a w _ hs ?_)
  intro φ' A' H' a' w' q s ok
  exact ⟨φ', A', H', q, s, ok⟩
variable {ops : Array Oper} {K : Fr → Heap → Prop}
theorem AOps.nil (h : K A H) : AOps P m ops [] K A H := fun φ a w Qc hs hk => wpList_nil (hk φ A H a w h hs Ok.refl)
theorem AOps.cons {o : Oper} {rest : List Oper} (hg : o.guard = none) (h : ∀ K' : Fr → Heap → Prop, (∀ A H, AOps P m ops rest K A H → K' A H) → AOp P m o K' A H) : AOps P m ops (o :: rest) K A H := by
  intro φ a w Qc hs hk
  have h0 := h _ (fun _ _ h => h)
  refine wpList_plain hg fun Kc hKc => h0 φ a w Kc Qc hs ?_
  intro φ' A' H' a' w' q s ok
  exact hKc _ _ (q φ' a' w' Qc s fun φ2 A2 H2 a2 w2 q2 s2 ok2 => hk φ2 A2 H2 a2 w2 q2 s2 (ok.trans ok2))
theorem AOps.guard {dst : Option Nat} {op : Op} {ty : TypeId} {pos : String} {af : Array Edge} {rest : List Oper} {j : Nat} {want : Bool} {t : Nat} (hd : dstOk m dst = true) (ht : (ops[j]?).bind (·.dst) = some t) (htm : decide (t < m) = true)
    (h : ∀ X Y : Prop, Cont (AOps P m ops (⟨dst, op, ty, pos, af, none⟩ :: rest) K A H → X) → Cont (AOps P m ops rest K (put A dst undef) H → Y) → acond (A t) (if want = true then X else Y) (if want = true then Y else X)) :
    AOps P m ops (⟨dst, op, ty, pos, af, some (j, want)⟩ :: rest) K A H := by
  intro φ a w Qc hs hk
  have h0 := h _ _ id id
  have hr := hs.get t
  have hsz : t < a.tmps.size := by rw [hs.size]; exact of_decide_eq_true htm
  unfold acond at h0
  split at h0
  · rename_i b e
    rw [e] at hr
    have e2 : a.tmps[t]? = some (.bool b) := by
      rw [Array.getElem?_eq_getElem hsz]
      have : a.tmps.getD t undef = a.tmps[t] := by simp [hsz]
      rw [this] at hr
      rw [R.flat_eq (v := .bool b) rfl hr]
    have hw : Region.wanted ⟨dst, op, ty, pos, af, some (j, want)⟩ (yielded ops a.tmps) = (b == want) := by
      unfold Region.wanted
      simp only [yielded, ht, Option.bind_some, e2]
      cases b <;> cases want <;> rfl
    have yes : AOps P m ops (⟨dst, op, ty, pos, af, none⟩ :: rest) K A H → (b == want) = true → wpList P ops Qc (⟨dst, op, ty, pos, af, some (j, want)⟩ :: rest) a w := fun h1 hb => by
      have h2 := h1 φ a w Qc hs hk
      unfold wpList at h2 ⊢
      rw [hw, hb]
      rw [if_pos (by simp [Region.wanted])] at h2
      rw [if_pos rfl]
      exact h2
    have no : AOps P m ops rest K (put A dst undef) H → (b == want) = false → wpList P ops Qc (⟨dst, op, ty, pos, af, some (j, want)⟩ :: rest) a w := fun h1 hb => by
      unfold wpList
      rw [hw, hb]
      rw [if_neg (by simp)]
      exact h1 φ _ w Qc (hs.put hd R.undef) fun φ2 A2 H2 a2 w2 q2 s2 ok2 => hk φ2 A2 H2 a2 w2 q2 s2 ok2
    cases b <;> cases want <;> simp at h0 <;> first | exact yes h0 rfl | exact no h0 rfl
  · exact h0.elim
theorem AOps.guardu {dst : Option Nat} {op : Op} {ty : TypeId} {pos : String} {af : Array Edge} {rest : List Oper} {j : Nat} {want : Bool} {t : Nat} (hd : dstOk m dst = true) (ht : (ops[j]?).bind (·.dst) = some t) (htm : decide (t < m) = true) (hA : A t = undef)
    (h : AOps P m ops rest K (put A dst undef) H) : AOps P m ops (⟨dst, op, ty, pos, af, some (j, want)⟩ :: rest) K A H := by
  intro φ a w Qc hs hk
  have hr := hs.get t
  have hsz : t < a.tmps.size := by rw [hs.size]; exact of_decide_eq_true htm
  rw [hA] at hr
  have e2 : a.tmps[t]? = some undef := by
    rw [Array.getElem?_eq_getElem hsz]
    have : a.tmps.getD t undef = a.tmps[t] := by simp [hsz]
    exact congrArg some (this.symm.trans (R.const_eq (v := undef) (by simp [constOk, undef]) hr))
  have hw : Region.wanted ⟨dst, op, ty, pos, af, some (j, want)⟩ (yielded ops a.tmps) = false := by
    unfold Region.wanted
    simp only [yielded, ht, Option.bind_some, e2]
    cases want <;> rfl
  unfold wpList
  rw [hw]
  rw [if_neg (by simp)]
  exact h φ _ w Qc (hs.put hd R.undef) fun φ2 A2 H2 a2 w2 q2 s2 ok2 => hk φ2 A2 H2 a2 w2 q2 s2 ok2
end
/-! ### New blocks, stores -/
def upd (φ : Ren) (n : Nat) (i : Img) : Ren := { φ with img := fun b => if b = n then i else φ b }
theorem upd_at (φ : Ren) (n : Nat) (i : Img) (b : Nat) : upd φ n i b = if b = n then i else φ b := rfl
theorem cell_at {w : World} {g : Nat} {arr : Array Value} {e : TypeId} {fz : Nat × Nat} (h : w.heap[g]? = some (.cells arr e fz)) (i : Nat) : w.cell? ⟨g, i, none⟩ = arr[i]? := by
  simp [World.cell?, h]
theorem cell_congr {w w' : World} {g : Nat} (h : w'.heap[g]? = w.heap[g]?) (i : Nat) : w'.cell? ⟨g, i, none⟩ = w.cell? ⟨g, i, none⟩ := by
  simp [World.cell?, h]
theorem cell_lt {w : World} {g i : Nat} {u : Value} (h : w.cell? ⟨g, i, none⟩ = some u) : g < w.heap.size := by
  unfold World.cell? at h
  split at h
  · rename_i c e f hg
    exact (Array.getElem?_eq_some_iff.1 hg).1
  · simp at h
theorem Rest.step {φ φ' : Ren} {H H' : Heap} {w w' : World} (h : Rest φ H w) (hfz : φ'.fz = φ.fz) (htl : φ'.tl = φ.tl) (hti : φ'.ti = φ.ti) (hs : H.size ≤ H'.size)
    (ht : ∀ b n es, H'.get b = .tok n es → H.get b = .tok n es)
    (hl : ∀ c, (H'.get c).live = true → w.heap.size ≤ (φ' c).blk ∨ ∃ d, (H.get d).live = true ∧ (φ d).blk = (φ' c).blk)
    (hw : ∀ c, (H'.get c).wr = true → w.heap.size ≤ (φ' c).blk ∨ ∃ d, (H.get d).wr = true ∧ (φ d).blk = (φ' c).blk)
    (hh : ∀ β, β < w.heap.size → (∀ b, (H.get b).wr = true → (φ b).blk ≠ β) → w'.heap[β]? = w.heap[β]?) : Rest φ' H' w' := by
  refine ⟨fun β i u hf => ?_, fun c hc i => ?_, fun b n es hb => ?_, fun b n es c hb he hc => ?_, fun b c n es n' es' hbc hb hc => ?_, fun b hb => ?_⟩
  · rw [hfz] at hf
    have hc := h.froz β i u hf
    rw [cell_congr (hh β (cell_lt hc) fun b hb e => by have := h.unf b hb i; rw [e, hf] at this; cases this)]
    exact hc
  · rw [hfz]
    rcases hw c hc with h1 | ⟨d, hd, e⟩
    · cases hq : φ.fz (φ' c).blk i with
      | none => rfl
      | some u => have := cell_lt (h.froz _ _ _ hq); omega
    · rw [← e]; exact h.unf d hd i
  · obtain ⟨h1, h2, h3⟩ := h.tok b n es (ht b n es hb)
    rw [htl, hti, hfz]
    refine ⟨h1, h2, h3.imp id ?_⟩
    rintro ⟨h3, ⟨arr, e, h4, h5⟩, h6, h7⟩
    refine ⟨h3, ⟨arr, e, ?_, h5⟩, h6, h7⟩
    rw [hh _ (Array.getElem?_eq_some_iff.1 h4).1 fun c hc => h.tap b n es c (ht b n es hb) (by omega) (Blk.live_of_wr hc)]
    exact h4
  · rw [hti] at he ⊢
    obtain ⟨_, _, h3⟩ := h.tok b n es (ht b n es hb)
    rcases h3 with ⟨_, h3⟩ | ⟨_, ⟨arr, e, h4, _⟩, _⟩
    · exact absurd h3 he
    · have := (Array.getElem?_eq_some_iff.1 h4).1
      rcases hl c hc with h1 | ⟨d, hd, e⟩
      · omega
      · rw [← e]; exact h.tap b n es d (ht b n es hb) he hd
  · rw [hti]; exact h.tap2 b c n es n' es' hbc (ht b n es hb) (ht c n' es' hc)
  · rw [htl]; exact h.tl0 b (Nat.le_trans hs hb)
theorem Ok.mk' {φ φ' : Ren} {H H' : Heap} {w w' : World} (size : H.size ≤ H'.size) (img : ∀ b, H.has b → φ' b = φ b) (has : ∀ b, H.has b → H'.has b) (os : w'.os = w.os) (tape : w'.tape = w.tape) (output : w'.output = w.output) (wsize : w.heap.size ≤ w'.heap.size)
    (frame : ∀ β, β < w.heap.size → (∀ b, (H.get b).wr = true → (φ b).blk ≠ β) → w'.heap[β]? = w.heap[β]?)
    (wr : ∀ b, (H'.get b).wr = true → w.heap.size ≤ (φ' b).blk ∨ ∃ c, (H.get c).wr = true ∧ (φ c).blk = (φ' b).blk)
    (hfz : φ'.fz = φ.fz) (htl : φ'.tl = φ.tl) (hti : φ'.ti = φ.ti) (ht : ∀ b n es, H'.get b = .tok n es → H.get b = .tok n es) : Ok φ H w φ' H' w' where
  size := size
  img := img
  has := has
  os := os
  tape := tape
  output := output
  wsize := wsize
  frame β hβ hn := frame β hβ fun b hb e => hn (.inl ⟨b, hb, e⟩)
  wr β hβ := by
    rcases hβ with ⟨b, hb, rfl⟩ | ⟨b, n, es, hb, he, rfl⟩
    · rcases wr b hb with h1 | ⟨c, hc, e⟩
      · exact .inl h1
      · exact .inr (.inl ⟨c, hc, e⟩)
    · exact .inr (.inr ⟨b, n, es, ht b n es hb, by rwa [hti] at he, by rw [hti]⟩)
  fz β i u h := by rw [hfz]; exact h
  tl b _ := .inl ⟨by rw [htl], by rw [hti]⟩
def Blk.isTok : Blk → Bool
  | .tok _ _ => true
  | _ => false
section
variable {φ : Ren} {H : Heap} {w : World}
theorem Holds.push_mono (h : Holds φ H w) (x : Blk) (i : Img) : Le φ H.has (upd φ H.size i) (H.push x).has := by
  refine ⟨fun b hb => ?_, fun _ _ _ h => h, fun _ _ => .inl ⟨rfl, rfl⟩⟩
  have hlt := h.lt_size hb
  refine ⟨?_, ?_⟩
  · unfold Heap.has
    rw [Heap.get_push, if_neg (by omega)]
    exact hb
  · rw [upd_at, if_neg (by omega)]
theorem alloc_other (w : World) (o : Obj) (g : Nat) (h : g ≠ w.heap.size) : (w.alloc o).heap[g]? = w.heap[g]? := by
  show (w.heap.push o)[g]? = _
  rw [Array.getElem?_push, if_neg h]
theorem alloc_same (w : World) (o : Obj) : (w.alloc o).heap[w.heap.size]? = some o := by
  show (w.heap.push o)[w.heap.size]? = _
  rw [Array.getElem?_push, if_pos rfl]
/-- A new block, in the world and in the abstract heap. -/
theorem Holds.alloc_any (h : Holds φ H w) (x : Blk) (o : Obj) (i : Img) (hib : i.blk = w.heap.size)
    (hcell : ∀ cs es ro, x = .cells cs es ro → ro = false ∧ i.base = 0 ∧ es = i.es ∧ 0 < es ∧ ∃ arr e, o = .cells arr e (0, 0) ∧ i.ext = arr.size ∧ cs.length ≤ arr.size ∧ ∀ (j : Nat) (v : Value), cs[j]? = some v → ∃ u, arr[j]? = some u ∧ R φ H.has v u)
    (hmap : ∀ es, x = .map es → ∃ en ck, o = .map en ck ∧ MapR φ H.has es en) (hx : x ≠ .absent) (htk : x.isTok = false) :
    Holds (upd φ H.size i) (H.push x) (w.alloc o) ∧ Ok φ H w (upd φ H.size i) (H.push x) (w.alloc o) := by
  have hm := h.push_mono x i
  have hu : upd φ H.size i H.size = i := by rw [upd_at, if_pos rfl]
  have hold : ∀ b, H.has b → (H.push x).get b = H.get b := fun b hb => by rw [Heap.get_push, if_neg (by have := h.lt_size hb; omega)]
  have hcase : ∀ b, (H.push x).has b → b = H.size ∨ (H.has b ∧ (H.push x).get b = H.get b ∧ upd φ H.size i b = φ b) := by
    intro b hb
    by_cases e : b = H.size
    · exact .inl e
    · right
      unfold Heap.has at hb ⊢
      rw [Heap.get_push, if_neg e] at hb
      exact ⟨hb, by rw [Heap.get_push, if_neg e], by rw [upd_at, if_neg e]⟩
  have hlt : ∀ b, (H.get b).live = true → (φ b).blk ≠ w.heap.size := fun b hb => by have := h.lt b hb; omega
  have hself : (H.push x).get H.size = x := by rw [Heap.get_push, if_pos rfl]
  have hrow : ∀ b, H.has b → (H.get b).live = true → (w.alloc o).heap[(φ b).blk]? = w.heap[(φ b).blk]? := fun b _ hl => alloc_other w o _ (hlt b hl)
  have htok : ∀ b y, y.isTok = true → (H.push x).get b = y → H.get b = y := fun b y hy hb => by
    rw [Heap.get_push] at hb
    split at hb
    · rw [hb, hy] at htk; cases htk
    · exact hb
  have hwr' : ∀ b, ((H.push x).get b).wr = true → w.heap.size ≤ (upd φ H.size i b).blk ∨ ∃ c, (H.get c).wr = true ∧ (φ c).blk = (upd φ H.size i b).blk := by
    intro b hb
    rcases hcase b (Heap.has_of_wr hb) with rfl | ⟨h1, h2, h3⟩
    · left; rw [hu, hib]; exact Nat.le_refl _
    · right; rw [h2] at hb; exact ⟨b, hb, by rw [h3]⟩
  have hlv' : ∀ b, ((H.push x).get b).live = true → w.heap.size ≤ (upd φ H.size i b).blk ∨ ∃ c, (H.get c).live = true ∧ (φ c).blk = (upd φ H.size i b).blk := by
    intro b hb
    rcases hcase b (Heap.has_of_live hb) with rfl | ⟨h1, h2, h3⟩
    · left; rw [hu, hib]; exact Nat.le_refl _
    · right; rw [h2] at hb; exact ⟨b, hb, by rw [h3]⟩
  refine ⟨⟨?_, ?_, ?_, ?_, ?_, ?_, ?_, h.rest.step rfl rfl rfl (by rw [Heap.size_push]; omega) (fun b n es => htok b _ rfl) hlv' hwr' (fun β hβ _ => alloc_other w o β (by omega))⟩, Ok.mk' (by rw [Heap.size_push]; omega) (fun b hb => (hm.img b hb).2) (fun b hb => (hm.img b hb).1) rfl rfl rfl (by simp) (fun β hβ _ => alloc_other w o β (by omega)) hwr' rfl rfl rfl (fun b n es => htok b _ rfl)⟩
  · intro b hb
    rw [Heap.size_push] at hb
    rw [Heap.get_push, if_neg (by omega)]
    exact h.wf b (by omega)
  · intro b cs es ro hb j v hj
    rcases hcase b (Heap.has_of_cells hb) with rfl | ⟨h1, h2, h3⟩
    · rw [hself] at hb
      obtain ⟨_, h0, _, _, arr, e, rfl, _, _, hv⟩ := hcell cs es ro hb
      obtain ⟨u, hu1, hu2⟩ := hv j v hj
      refine ⟨u, ?_, hu2.mono hm⟩
      rw [hu, hib, h0, Nat.zero_add, cell_at (alloc_same w _) j]
      exact hu1
    · rw [h2] at hb
      obtain ⟨u, hu1, hu2⟩ := h.cell b cs es ro hb j v hj
      refine ⟨u, ?_, hu2.mono hm⟩
      rw [h3, cell_congr (hrow b h1 (by rw [hb]; rfl))]
      exact hu1
  · intro b cs es hb
    rcases hcase b (Heap.has_of_cells hb) with rfl | ⟨h1, h2, h3⟩
    · rw [hself] at hb
      obtain ⟨_, h0, _, _, arr, e, rfl, hx1, hx2, _⟩ := hcell cs es false hb
      refine ⟨arr, e, by rw [hu, hib]; exact alloc_same w _, by rw [hu, h0, hx1, Nat.zero_add], by rw [hu, hx1]; exact hx2⟩
    · rw [h2] at hb
      obtain ⟨arr, e, h4, h5, h6⟩ := h.row b cs es hb
      exact ⟨arr, e, by rw [h3, hrow b h1 (by rw [hb]; rfl)]; exact h4, by rw [h3]; exact h5, by rw [h3]; exact h6⟩
  · intro b cs es ro hb
    rcases hcase b (Heap.has_of_cells hb) with rfl | ⟨h1, h2, h3⟩
    · rw [hself] at hb
      obtain ⟨_, _, h4, h5, _⟩ := hcell cs es ro hb
      rw [hu]; exact ⟨h4, h5⟩
    · rw [h2] at hb; rw [h3]; exact h.es b cs es ro hb
  · intro b es hb
    rcases hcase b (by unfold Heap.has; rw [hb]; simp) with rfl | ⟨h1, h2, h3⟩
    · rw [hself] at hb
      obtain ⟨en, ck, rfl, hr⟩ := hmap es hb
      exact ⟨en, ck, by rw [hu, hib]; exact alloc_same w _, hr.1, fun j k v e h1 h2 => ⟨(hr.2 j k v e h1 h2).1, (hr.2 j k v e h1 h2).2.mono hm⟩⟩
    · rw [h2] at hb
      obtain ⟨en, ck, h4, hr⟩ := h.map b es hb
      exact ⟨en, ck, by rw [h3, hrow b h1 (by rw [hb]; rfl)]; exact h4, hr.1, fun j k v e h1 h2 => ⟨(hr.2 j k v e h1 h2).1, (hr.2 j k v e h1 h2).2.mono hm⟩⟩
  · intro b hb
    rcases hcase b (Heap.has_of_live hb) with rfl | ⟨h1, h2, h3⟩
    · rw [hu, hib]; simp
    · rw [h2] at hb; rw [h3]; have := h.lt b hb; simp; omega
  · intro b c hbc hb hc
    rcases hcase b (Heap.has_of_live hb) with rfl | ⟨h1, h2, h3⟩ <;> rcases hcase c (Heap.has_of_wr hc) with rfl | ⟨h4, h5, h6⟩
    · exact absurd rfl hbc
    · rw [h5] at hc; rw [hu, hib, h6]; exact (hlt c (Blk.live_of_wr hc)).symm
    · rw [h2] at hb; rw [hu, hib, h3]; exact hlt b hb
    · rw [h2] at hb; rw [h5] at hc; rw [h3, h6]; exact h.apart b c hbc hb hc
theorem Holds.alloc (h : Holds φ H w) (cs : List Value) (arr : Array Value) (e : TypeId) (es : Nat) (hes : 0 < es) (hl : cs.length ≤ arr.size)
    (hr : ∀ (j : Nat) (v : Value), cs[j]? = some v → ∃ u, arr[j]? = some u ∧ R φ H.has v u) :
    Holds (upd φ H.size ⟨w.heap.size, 0, arr.size, es⟩) (H.push (.cells cs es false)) (w.alloc (.cells arr e)) ∧ Ok φ H w (upd φ H.size ⟨w.heap.size, 0, arr.size, es⟩) (H.push (.cells cs es false)) (w.alloc (.cells arr e)) :=
  h.alloc_any _ _ _ rfl (fun cs' es' ro' e' => by injection e' with e1 e2 e3; subst e1 e2 e3; exact ⟨rfl, rfl, rfl, hes, arr, e, rfl, rfl, hl, hr⟩) (fun es' e' => by simp at e') (by simp) rfl
theorem Holds.set_mono (x : Blk) (b0 : Nat) (hx : x ≠ .absent) : Le φ H.has φ (H.set b0 x).has := by
  refine ⟨fun b hb => ?_, fun _ _ _ h => h, fun _ _ => .inl ⟨rfl, rfl⟩⟩
  refine ⟨?_, rfl⟩
  unfold Heap.has
  rw [Heap.get_set]
  split
  · exact hx
  · exact hb
/-- A block that may be written is written: the world's row, the abstract block. -/
theorem Holds.write (h : Holds φ H w) {b : Nat} {cs : List Value} {es : Nat} (hb : H.get b = .cells cs es false) {arr : Array Value} {e : TypeId} (ha : w.heap[(φ b).blk]? = some (.cells arr e (0, 0)))
    (cs' : List Value) (arr' : Array Value) (hs : arr'.size = arr.size) (hl : cs'.length ≤ (φ b).ext)
    (hr : ∀ (j : Nat) (v : Value), cs'[j]? = some v → ∃ u, arr'[(φ b).base + j]? = some u ∧ R φ H.has v u) :
    Holds φ (H.set b (.cells cs' es false)) (w.setRow (φ b).blk arr') ∧ Ok φ H w φ (H.set b (.cells cs' es false)) (w.setRow (φ b).blk arr') := by
  have hm := Holds.set_mono (φ := φ) (H := H) (.cells cs' es false) b (by simp)
  have hwr : (H.get b).wr = true := by rw [hb]; rfl
  have hsame := setRow_heap w (φ b).blk arr arr' e (0, 0) ha
  have hoth : ∀ c, c ≠ b → (H.get c).live = true → (w.setRow (φ b).blk arr').heap[(φ c).blk]? = w.heap[(φ c).blk]? := fun c hc hl => setRow_other w _ _ _ (h.apart c b hc hl hwr)
  have hself : (H.set b (.cells cs' es false)).get b = .cells cs' es false := by rw [Heap.get_set, if_pos rfl]
  have hne : ∀ c, c ≠ b → (H.set b (.cells cs' es false)).get c = H.get c := fun c hc => by rw [Heap.get_set, if_neg hc]
  have hsz : (w.setRow (φ b).blk arr').heap.size = w.heap.size := by simp [World.setRow]
  obtain ⟨arr0, e0, g1, g2, g3⟩ := h.row b cs es hb
  rw [ha] at g1
  injection g1 with g1
  injection g1 with g1 g1'
  subst g1 g1'
  have htok : ∀ c y, y.isTok = true → (H.set b (.cells cs' es false)).get c = y → H.get c = y := fun c y hy hc => by
    by_cases ec : c = b
    · subst ec; rw [hself] at hc; subst hc; cases hy
    · rwa [hne c ec] at hc
  have hwr' : ∀ c, ((H.set b (.cells cs' es false)).get c).wr = true → w.heap.size ≤ (φ c).blk ∨ ∃ d, (H.get d).wr = true ∧ (φ d).blk = (φ c).blk := fun c hc => by
    right
    refine ⟨c, ?_, rfl⟩
    by_cases ec : c = b
    · subst ec; exact hwr
    · rwa [hne c ec] at hc
  have hlv' : ∀ c, ((H.set b (.cells cs' es false)).get c).live = true → w.heap.size ≤ (φ c).blk ∨ ∃ d, (H.get d).live = true ∧ (φ d).blk = (φ c).blk := fun c hc => by
    right
    refine ⟨c, ?_, rfl⟩
    by_cases ec : c = b
    · subst ec; exact Blk.live_of_wr hwr
    · rwa [hne c ec] at hc
  refine ⟨⟨?_, ?_, ?_, ?_, ?_, ?_, ?_, h.rest.step rfl rfl rfl (Nat.le_refl _) (fun b n es => htok b _ rfl) hlv' hwr' (fun β hβ hn => setRow_other w _ _ _ (fun e => hn b hwr e.symm))⟩, Ok.mk' (Nat.le_refl _) (fun _ _ => rfl) (fun c hc => (hm.img c hc).1) rfl rfl rfl (by rw [hsz]; exact Nat.le_refl _) (fun β hβ hn => setRow_other w _ _ _ (fun e => hn b hwr e.symm)) hwr' rfl rfl rfl (fun b n es => htok b _ rfl)⟩
  · intro c hc
    have hbs := h.lt_size (Heap.has_of_wr hwr)
    rw [Heap.size_set] at hc
    rw [hne c (by omega)]
    exact h.wf c hc
  · intro c cs2 es2 ro hc j v hj
    by_cases ec : c = b
    · subst ec
      rw [hself] at hc
      injection hc with e1 e2 e3
      subst e1
      obtain ⟨u, hu1, hu2⟩ := hr j v hj
      exact ⟨u, by rw [cell_at hsame]; exact hu1, hu2.mono hm⟩
    · rw [hne c ec] at hc
      obtain ⟨u, hu1, hu2⟩ := h.cell c cs2 es2 ro hc j v hj
      exact ⟨u, by rw [cell_congr (hoth c ec (by rw [hc]; rfl))]; exact hu1, hu2.mono hm⟩
  · intro c cs2 es2 hc
    by_cases ec : c = b
    · subst ec
      rw [hself] at hc
      injection hc with e1 e2 e3
      subst e1
      exact ⟨arr', e, hsame, by rw [hs]; exact g2, hl⟩
    · rw [hne c ec] at hc
      obtain ⟨arr2, e2, h4, h5, h6⟩ := h.row c cs2 es2 hc
      exact ⟨arr2, e2, by rw [hoth c ec (by rw [hc]; rfl)]; exact h4, h5, h6⟩
  · intro c cs2 es2 ro hc
    by_cases ec : c = b
    · subst ec
      rw [hself] at hc
      injection hc with e1 e2 e3
      subst e2
      exact h.es _ _ _ _ hb
    · rw [hne c ec] at hc; exact h.es c cs2 es2 ro hc
  · intro c es2 hc
    by_cases ec : c = b
    · subst ec; rw [hself] at hc; simp at hc
    · rw [hne c ec] at hc
      obtain ⟨en, ck, h4, h5⟩ := h.map c es2 hc
      exact ⟨en, ck, by rw [hoth c ec (by rw [hc]; rfl)]; exact h4, h5.1, fun j k v e h1 h2 => ⟨(h5.2 j k v e h1 h2).1, (h5.2 j k v e h1 h2).2.mono hm⟩⟩
  · intro c hc
    rw [hsz]
    by_cases ec : c = b
    · subst ec; exact h.lt _ (Blk.live_of_wr hwr)
    · rw [hne c ec] at hc; exact h.lt c hc
  · intro c d hcd hc hd
    have h1 : (H.get c).live = true := by
      by_cases ec : c = b
      · subst ec; exact Blk.live_of_wr hwr
      · rwa [hne c ec] at hc
    have h2 : (H.get d).wr = true := by
      by_cases ec : d = b
      · subst ec; exact hwr
      · rwa [hne d ec] at hd
    exact h.apart c d hcd h1 h2
end
/-! ### One operation -/
/-- A type: one cell (none), or an aggregate of n cells. -/
def tk (P : Program) (t : TypeId) : Option (Option Nat) :=
  match P.underlying t, P.info? t with
  | some (.struct _), some i => some (some i.size)
  | some (.array _ _), some i => some (some i.size)
  | some _, some i => if i.size = 1 then some none else none
  | _, _ => none
def cz (P : Program) (t : TypeId) : Option Nat := (P.info? t).map (·.size)
/-- A field: its place, its kind. -/
def fo (P : Program) (s : TypeId) (f : Nat) : Option (Nat × Option Nat) :=
  match P.underlying s with
  | some (.struct fs) => match fs[f]? with
    | some fl => (tk P fl.type).map fun k => (fl.offset, k)
    | none => none
  | _ => none
/-- A slice's or an array's elements: the array's length, an element's cells. -/
def el (P : Program) (t : TypeId) : Option (Option Nat × Nat) :=
  match P.underlying t with
  | some (.slice e) => (cz P e).map fun n => (none, n)
  | some (.array len e) => (cz P e).map fun n => (some len, n)
  | _ => none
def Heap.cell (H : Heap) (b o : Nat) : Option Value :=
  match H.get b with
  | .cells cs _ _ => cs[o]?
  | _ => none
def Heap.range (H : Heap) (b o n : Nat) : Option (List Value) :=
  match H.get b with
  | .cells cs _ _ => if o + n ≤ cs.length then some ((cs.drop o).take n) else none
  | _ => none
/-- What one operation leaves. -/
def Gives (P : Program) (o : Oper) (e : Operand → Value) (H : Heap) (K : Value → Heap → Prop) : Prop :=
  ∀ (φ : Ren) (ρ : Operand → Value) (w : World), Holds φ H w → (∀ x ∈ o.op.operands, R φ H.has (e x) (ρ x)) →
    ∃ φ' v v' H' w', K v H' ∧ ((execOp ρ o).run P w = .ok (.value v') w' ∨ ((execOp ρ o).run P w = .ok .skip w' ∧ v = undef ∧ v' = undef)) ∧ R φ' H'.has v v' ∧ Holds φ' H' w' ∧ Ok φ H w φ' H' w'
theorem AOp.of_gives {P : Program} {m : Nat} {o : Oper} {K : Fr → Heap → Prop} {A : Fr} {H : Heap} (hd : dstOk m o.dst = true) (hx : o.op.operands.toList.all opndOk = true)
    (h : Gives P o (ev A) H fun v H' => K (put A o.dst v) H') : AOp P m o K A H := by
  intro φ a w Kc Qc hs hk
  obtain ⟨φ', v, v', H', w', hK, hrun, hr, hh, ok⟩ := h φ a.eval w hs.holds (fun x hm => hs.ev (by
    exact List.all_eq_true.1 hx _ (Array.mem_toList_iff.2 hm)))
  unfold Oper.wp
  rcases hrun with e | ⟨e, e1, e2⟩
  · rw [e]
    exact hk _ _ _ _ _ hK ((hs.step ok hh).put hd hr) ok
  · rw [e]
    subst e1 e2
    exact hk _ _ _ _ _ hK ((hs.step ok hh).put hd hr) ok
/-- .. where the world is left as it is. -/
def PGives (P : Program) (o : Oper) (e : Operand → Value) (H : Heap) (K : Value → Prop) : Prop :=
  ∀ (φ : Ren) (ρ : Operand → Value) (w : World), Holds φ H w → (∀ x ∈ o.op.operands, R φ H.has (e x) (ρ x)) → ∃ v v', K v ∧ (execOp ρ o).run P w = .ok (.value v') w ∧ R φ H.has v v'
theorem PGives.mk' {P : Program} {o : Oper} {e : Operand → Value} {H : Heap} {K : Value → Prop} (v : Value) (hK : K v)
    (h : ∀ (φ : Ren) (ρ : Operand → Value) (w : World), Holds φ H w → (∀ x ∈ o.op.operands, R φ H.has (e x) (ρ x)) → ∃ v', (execOp ρ o).run P w = .ok (.value v') w ∧ R φ H.has v v') : PGives P o e H K :=
  fun φ ρ w hh hx => let ⟨v', h1, h2⟩ := h φ ρ w hh hx; ⟨v, v', hK, h1, h2⟩
theorem PGives.gives {P : Program} {o : Oper} {e : Operand → Value} {H : Heap} {K : Value → Heap → Prop} (h : PGives P o e H fun v => K v H) : Gives P o e H K :=
  fun φ ρ w hh hx => let ⟨v, v', hK, h1, h2⟩ := h φ ρ w hh hx; ⟨φ, v, v', H, w, hK, .inl h1, h2, hh, Ok.refl⟩
/-- .. in whatever world. -/
def PGivesB (P : Program) (o : Oper) (e : Operand → Value) (H : Heap) (K : Value → Prop) : Prop :=
  ∀ (φ : Ren) (ρ : Operand → Value) (w : World), Holds φ H w → (∀ x ∈ o.op.operands, R φ H.has (e x) (ρ x)) → ∃ v v', K v ∧ (∀ w2, (execOp ρ o).run P w2 = .ok (.value v') w2) ∧ R φ H.has v v'
theorem PGivesB.mkB {P : Program} {o : Oper} {e : Operand → Value} {H : Heap} {K : Value → Prop} (v : Value) (hK : K v)
    (h : ∀ (φ : Ren) (ρ : Operand → Value) (w : World), Holds φ H w → (∀ x ∈ o.op.operands, R φ H.has (e x) (ρ x)) → ∃ v', (∀ w2, (execOp ρ o).run P w2 = .ok (.value v') w2) ∧ R φ H.has v v') : PGivesB P o e H K :=
  fun φ ρ w hh hx => let ⟨v', h1, h2⟩ := h φ ρ w hh hx; ⟨v, v', hK, h1, h2⟩
section inv
variable {φ : Ren} {has : Nat → Prop}
theorem R.int_inv {k : IntKind} {n : Int} {u : Value} (h : R φ has (.int k n) u) : u = .int k n := R.flat_eq rfl h
theorem R.bool_inv {b : Bool} {u : Value} (h : R φ has (.bool b) u) : u = .bool b := R.flat_eq rfl h
theorem R.string_inv {b : ByteArray} {u : Value} (h : R φ has (.string b) u) : u = .string b := R.flat_eq rfl h
theorem R.ptr_inv {a : Addr} {u : Value} (h : R φ has (.pointer (some a)) u) : a.spot = none ∧ has a.block ∧ u = .pointer (some ⟨(φ a.block).blk, (φ a.block).base + a.off, none⟩) := by
  cases h with
  | ptr b o hb => exact ⟨rfl, hb, rfl⟩
theorem R.pz_inv {cs : List Value} {o : Nat} {u : Value} (h : R φ has (PZ cs o) u) : ∃ (β base : Nat) (us : Nat → Value), u = .pointer (some ⟨β, base + o, none⟩) ∧ (∀ i, i < cs.length → φ.fz β (base + i) = some (us i)) ∧ ∀ (i : Nat) (x : Value), cs[i]? = some x → R φ has x (us i) := by
  generalize hv : PZ cs o = v at h
  cases h with
  | pz β base o' cs' us hf hr => 
    simp only [PZ, Value.iface.injEq, Value.agg.injEq, Array.mk.injEq, true_and] at hv
    obtain ⟨rfl, rfl⟩ := hv
    exact ⟨β, base, us, rfl, hf, hr⟩
  | _ => simp [PZ, FZ, GZ, KZ, JZ] at hv
theorem R.fz_inv {es n : Nat} {cs : List Value} {u : Value} (h : R φ has (FZ es n cs) u) : ∃ a c, u = .slice a n c ∧ ((n = 0 ∧ cs = [] ∧ (a = none → c = 0)) ∨ ∃ (β base : Nat) (us : Nat → Value), a = some ⟨β, base, none⟩ ∧ 0 < es ∧ cs.length = n * es ∧ n ≤ c ∧ (∀ i, i < cs.length → φ.fz β (base + i) = some (us i)) ∧ ∀ (i : Nat) (x : Value), cs[i]? = some x → R φ has x (us i)) := by
  generalize hv : FZ es n cs = v at h
  cases h with
  | fz es' n' c β base cs' us hs hl hc hf hr => 
    simp only [FZ, Value.iface.injEq, Value.agg.injEq, Array.mk.injEq, true_and] at hv
    obtain ⟨rfl, rfl, rfl⟩ := hv
    exact ⟨_, c, rfl, .inr ⟨β, base, us, rfl, hs, hl, hc, hf, hr⟩⟩
  | fz0 es' a c h => 
    simp only [FZ, Value.iface.injEq, Value.agg.injEq, Array.mk.injEq, true_and] at hv
    obtain ⟨rfl, rfl, rfl⟩ := hv
    exact ⟨a, c, rfl, .inl ⟨rfl, rfl, h⟩⟩
  | _ => simp [PZ, FZ, GZ, KZ, JZ] at hv
theorem R.gz_inv {tag es n : Nat} {cs : List Value} {u : Value} (h : R φ has (GZ tag es n cs) u) : R φ has (FZ es n cs) u ∧ n + 1 ≤ φ.tl tag ∧ (n + 1 = φ.tl tag → GCur φ tag es n u) := by
  generalize hv : GZ tag es n cs = v at h
  cases h with
  | gz tag' es' n' cs' u h hn hc => 
    simp only [GZ, Value.iface.injEq, Value.agg.injEq, Array.mk.injEq, true_and] at hv
    obtain ⟨rfl, rfl, rfl, rfl⟩ := hv
    exact ⟨h, hn, hc⟩
  | _ => simp [PZ, FZ, GZ, KZ, JZ] at hv
theorem R.kz_inv {es n : Nat} {cs : List Value} {u : Value} (h : R φ has (KZ es n cs) u) : R φ has (FZ es n cs) u ∧ ∃ a, u = .slice a n n := by
  generalize hv : KZ es n cs = v at h
  cases h with
  | kz es' n' cs' u h hc => simp [KZ] at hv; obtain ⟨rfl, rfl, rfl⟩ := hv; exact ⟨h, hc⟩
  | _ => simp [PZ, FZ, GZ, KZ, JZ] at hv
theorem R.agg_inv {cs : Array Value} {u : Value} (h : R φ has (.agg cs) u) : ∃ cs', u = .agg cs' ∧ RA φ has cs cs' := by
  cases h with
  | agg _ xs' h1 hx => exact ⟨xs', rfl, h1, hx⟩
theorem R.tuple_inv {cs : Array Value} {u : Value} (h : R φ has (.tuple cs) u) : ∃ cs', u = .tuple cs' ∧ RA φ has cs cs' := by
  cases h with
  | tuple _ xs' h1 hx => exact ⟨xs', rfl, h1, hx⟩
theorem R.slice_inv {a : Addr} {n c : Nat} {u : Value} (h : R φ has (.slice (some a) n c) u) (hs : a.spot = none ∨ 0 < n) : a.spot = none ∧ has a.block ∧ ∃ c', u = .slice (some ⟨(φ a.block).blk, (φ a.block).base + a.off, none⟩) n c' ∧ n ≤ c' ∧
    ((c = c' + 1) ∨ (c = 0 ∧ c' * (φ a.block).es + a.off = (φ a.block).ext ∧ 0 < (φ a.block).es)) := by
  cases h with
  | slx b o n c hb hc => exact ⟨rfl, hb, c, rfl, hc, .inl rfl⟩
  | sl b o n c hb hc he hz => exact ⟨rfl, hb, c, rfl, hc, .inr ⟨rfl, he, hz⟩⟩
  | slf a c h =>
    rcases hs with hs | hs
    · rw [hs] at h; simp at h
    · omega
theorem R.slice_shape {a : Addr} {n c : Nat} {u : Value} (h : R φ has (.slice (some a) n c) u) : ∃ a' c', u = .slice (some a') n c' := by
  cases h with
  | slx b o n c hb hc => exact ⟨_, _, rfl⟩
  | sl b o n c hb hc he hs => exact ⟨_, _, rfl⟩
  | slf a c h => exact ⟨_, _, rfl⟩
theorem R.slice0_inv {n c : Nat} {u : Value} (h : R φ has (.slice none n c) u) : n = 0 ∧ c = 0 ∧ u = .slice none 0 0 := by
  cases h; exact ⟨rfl, rfl, rfl⟩
theorem R.map_inv {b : Nat} {u : Value} (h : R φ has (.map (some b)) u) : has b ∧ u = .map (some (φ b).blk) := by
  cases h with
  | map _ hb => exact ⟨hb, rfl⟩
theorem R.oneCell {v u : Value} (h : R φ has v u) : u.oneCell' = v.oneCell' := by
  cases h with
  | gz tag es n cs u h hn hc => obtain ⟨a, c, rfl, _⟩ := h.fz_inv; rfl
  | kz es n cs u h hc => obtain ⟨a, c, rfl, _⟩ := h.fz_inv; rfl
  | junk u h => exact h
  | _ => rfl
theorem R.agg_mk {cs cs' : Array Value} (h : RA φ has cs cs') : R φ has (.agg cs) (.agg cs') := .agg _ _ h.1 h.2
theorem R.tuple_mk {cs cs' : Array Value} (h : RA φ has cs cs') : R φ has (.tuple cs) (.tuple cs') := .tuple _ _ h.1 h.2
theorem R.ptr_mk {b o o' : Nat} (h : has b) (e : o' = (φ b).base + o) : R φ has (.pointer (some ⟨b, o, none⟩)) (.pointer (some ⟨(φ b).blk, o', none⟩)) := by subst e; exact .ptr b o h
end inv
section tables
variable {P : Program} {w : World}
theorem run_size {t : TypeId} {n : Nat} (h : cz P t = some n) : (sizeOf t).run P w = .ok n w := by
  unfold cz at h
  cases e : P.info? t with
  | none => rw [e] at h; simp at h
  | some i => rw [e] at h; simp at h; simp [sizeOf, typeInfo, e, h]
theorem run_isAgg {t : TypeId} {k : Option Nat} (h : tk P t = some k) : (isAgg t).run P w = .ok k.isSome w := by
  unfold tk at h
  unfold isAgg
  cases e : P.underlying t with
  | none => rw [e] at h; cases e2 : P.info? t <;> rw [e2] at h <;> simp at h
  | some d =>
    rw [Sem.run_bind, run_underlying e]
    rw [e] at h
    cases e2 : P.info? t with
    | none => rw [e2] at h; cases d <;> simp at h
    | some i =>
      rw [e2] at h
      cases d <;> simp at h <;> first | (obtain ⟨_, rfl⟩ := h; rfl) | (subst h; rfl)
theorem size_of_tk {t : TypeId} {k : Option Nat} (h : tk P t = some k) : cz P t = some (k.getD 1) := by
  unfold tk at h
  unfold cz
  cases e : P.underlying t with
  | none => rw [e] at h; cases e2 : P.info? t <;> rw [e2] at h <;> simp at h
  | some d =>
    rw [e] at h
    cases e2 : P.info? t with
    | none => rw [e2] at h; cases d <;> simp at h
    | some i =>
      rw [e2] at h
      cases d <;> simp at h <;> first | (obtain ⟨hs, rfl⟩ := h; simp [hs]) | (subst h; rfl)
theorem run_loadVar1 {t : TypeId} (h : tk P t = some none) {a : Addr} {u : Value} (hc : w.cell? a = some u) : (loadVar t a).run P w = .ok u w := by
  unfold loadVar
  rw [Sem.run_bind, run_isAgg h]
  simp [hc]
theorem run_loadVarN {t : TypeId} {n : Nat} (h : tk P t = some (some n)) {a : Addr} {us : List Value} (hl : us.length = n) (hc : ∀ (j : Nat) v, us[j]? = some v → w.cell? (a.add j) = some v) :
    (loadVar t a).run P w = .ok (.agg us.toArray) w := by
  unfold loadVar
  rw [Sem.run_bind, run_isAgg h]
  have hsz := run_size (P := P) (w := w) (size_of_tk h)
  simp only [Option.getD_some] at hsz
  simp [hsz]
  rw [← hl, run_loadCells_list w a us hc]
  rfl
end tables
theorem add_off (b o n : Nat) : (⟨b, o, none⟩ : Addr).add n = ⟨b, o + n, none⟩ := by unfold Addr.add; split <;> simp_all
section
variable {P : Program} {e : Operand → Value} {H : Heap} {K : Value → Heap → Prop} {dst : Option Nat} {ty : TypeId} {pos : String} {af : Array Edge} {g : Option (Nat × Bool)}
theorem pg_move {Kp : Value → Prop} {x : Operand} (h : Kp (e x)) : PGives P ⟨dst, .move x, ty, pos, af, g⟩ e H Kp :=
  .mk' _ h fun φ ρ w hh hx => ⟨ρ x, rfl, hx x (by simp [Op.operands])⟩
theorem pg_assign {Kp : Value → Prop} {x : Operand} (h : Kp (e x)) : PGives P ⟨dst, .assign x, ty, pos, af, g⟩ e H Kp :=
  .mk' _ h fun φ ρ w hh hx => ⟨ρ x, rfl, hx x (by simp [Op.operands])⟩
def asBoolK (v : Value) (K : Bool → Prop) : Prop :=
  match v with
  | .bool b => K b
  | _ => False
theorem pg_pick {Kp : Value → Prop} {c x y : Operand} (h : asBoolK (e c) fun b => Kp (if b = true then e x else e y)) : PGives P ⟨dst, .pick c x y, ty, pos, af, g⟩ e H Kp := by
  unfold asBoolK at h
  split at h
  · rename_i b eb
    refine .mk' _ h fun φ ρ w hh hx => ⟨if b = true then ρ x else ρ y, ?_, ?_⟩
    · have h1 := hx c (by simp [Op.operands])
      rw [eb] at h1
      simp [execOp, asBool, h1.bool_inv]
    · split
      · exact hx x (by simp [Op.operands])
      · exact hx y (by simp [Op.operands])
  · exact h.elim
def loadK (P : Program) (t : TypeId) (H : Heap) (x : Value) (K : Value → Prop) : Prop :=
  match x with
  | .pointer (some a) => match tk P t with
    | some none => ∃ v, H.cell a.block a.off = some v ∧ K v
    | some (some n) => ∃ cs, H.range a.block a.off n = some cs ∧ K (.agg cs.toArray)
    | none => False
  | PZ cs o => match tk P t with
    | some none => ∃ v, cs[o]? = some v ∧ K v
    | some (some n) => o + n ≤ cs.length ∧ K (.agg ((cs.drop o).take n).toArray)
    | none => False
  | _ => False
/-- What is read at a frozen place. -/
theorem pz_read {P : Program} {φ : Ren} {w : World} (hh : Holds φ H w) {t : TypeId} {cs : List Value} {o : Nat} {u : Value} {K : Value → Prop} (hr : R φ H.has (PZ cs o) u) (h : loadK P t H (PZ cs o) K) :
    ∃ a v v', u = .pointer (some a) ∧ K v ∧ (loadVar t a).run P w = .ok v' w ∧ R φ H.has v v' := by
  obtain ⟨β, base, us, rfl, hf, hr⟩ := hr.pz_inv
  unfold loadK PZ at h
  simp only at h
  split at h
  · rename_i ht
    obtain ⟨v, hv, hK⟩ := h
    have hi := (List.getElem?_eq_some_iff.1 hv).1
    exact ⟨_, v, us o, rfl, hK, run_loadVar1 ht (hh.rest.froz _ _ _ (hf o hi)), hr o v hv⟩
  · rename_i n ht
    obtain ⟨hl, hK⟩ := h
    have hlen : ((List.range n).map fun j => us (o + j)).length = n := by simp
    refine ⟨_, _, .agg ((List.range n).map fun j => us (o + j)).toArray, rfl, hK, run_loadVarN ht hlen ?_, R.agg_mk (RL.toArray ⟨by simp; omega, ?_⟩)⟩
    · intro j v hj
      have hjn : j < n := by have := (List.getElem?_eq_some_iff.1 hj).1; simpa using this
      rw [add_off]
      simp [hjn] at hj
      subst hj
      rw [Nat.add_assoc]
      exact hh.rest.froz _ _ _ (hf (o + j) (by omega))
    · intro j x x' hx hx'
      have hjn : j < n := by have := (List.getElem?_eq_some_iff.1 hx').1; simpa using this
      simp [hjn] at hx'
      rw [List.getElem?_take, if_pos hjn, List.getElem?_drop] at hx
      rw [← hx']
      exact hr _ _ hx
  · exact h.elim
theorem Holds.cell_get {φ : Ren} {w : World} (hh : Holds φ H w) {b o : Nat} {v : Value} (h : H.cell b o = some v) : ∃ u, w.cell? ⟨(φ b).blk, (φ b).base + o, none⟩ = some u ∧ R φ H.has v u := by
  unfold Heap.cell at h
  split at h
  · rename_i cs es ro eb
    exact hh.cell b cs es ro eb o v h
  · simp at h
theorem Holds.range_get {φ : Ren} {w : World} (hh : Holds φ H w) {b o n : Nat} {cs : List Value} (h : H.range b o n = some cs) :
    ∃ us, us.length = n ∧ cs.length = n ∧ RL φ H.has cs us ∧ ∀ (j : Nat) v, us[j]? = some v → w.cell? ⟨(φ b).blk, (φ b).base + o + j, none⟩ = some v := by
  unfold Heap.range at h
  split at h
  · rename_i ds es ro eb
    split at h
    · rename_i hle
      injection h with h
      subst h
      have hlen : ((ds.drop o).take n).length = n := by simp; omega
      have key : ∀ i, i < n → ∃ v u, ((ds.drop o).take n)[i]? = some v ∧ w.cell? ⟨(φ b).blk, (φ b).base + o + i, none⟩ = some u ∧ R φ H.has v u := by
        intro i hi
        have h1 : ((ds.drop o).take n)[i]? = some ((ds.drop o).take n)[i] := List.getElem?_eq_getElem (by omega)
        have h2 : ds[o + i]? = some ((ds.drop o).take n)[i] := by
          rw [← h1, List.getElem?_take, if_pos hi, List.getElem?_drop]
        obtain ⟨u, hu1, hu2⟩ := hh.cell b ds es ro eb (o + i) _ h2
        exact ⟨_, u, h1, by rw [Nat.add_assoc]; exact hu1, hu2⟩
      generalize (ds.drop o).take n = cs at hlen key
      refine ⟨(List.range n).map fun i => ((w.cell? ⟨(φ b).blk, (φ b).base + o + i, none⟩).getD undef), by simp, hlen, ⟨by simpa using hlen, ?_⟩, ?_⟩
      · intro i x x' hx hx'
        have hi : i < n := by have := (List.getElem?_eq_some_iff.1 hx).1; omega
        obtain ⟨v, u, k1, k2, k3⟩ := key i hi
        rw [hx] at k1
        injection k1 with k1
        simp [hi, k2] at hx'
        rw [k1, ← hx']
        exact k3
      · intro j v hv
        have hi : j < n := by have := (List.getElem?_eq_some_iff.1 hv).1; simpa using this
        obtain ⟨v', u, k1, k2, k3⟩ := key j hi
        simp [hi, k2] at hv
        rw [k2, hv]
    · simp at h
  · simp at h
theorem pg_load {Kp : Value → Prop} {t : TypeId} {x : Operand} (h : loadK P t H (e x) Kp) : PGives P ⟨dst, .load t x, ty, pos, af, g⟩ e H Kp := by
  unfold loadK at h
  split at h
  · rename_i a ea
    split at h
    · rename_i ht
      obtain ⟨v, hv, hK⟩ := h
      refine .mk' _ hK fun φ ρ w hh hx => ?_
      have h1 := hx x (by simp [Op.operands])
      rw [ea] at h1
      obtain ⟨_, _, e1⟩ := h1.ptr_inv
      obtain ⟨u, hu1, hu2⟩ := hh.cell_get hv
      refine ⟨u, ?_, hu2⟩
      simp [execOp, Instr.loadAt, Instr.sureAddr, e1, run_loadVar1 ht hu1]
    · rename_i n ht
      obtain ⟨cs, hv, hK⟩ := h
      refine .mk' _ hK fun φ ρ w hh hx => ?_
      have h1 := hx x (by simp [Op.operands])
      rw [ea] at h1
      obtain ⟨_, _, e1⟩ := h1.ptr_inv
      obtain ⟨us, hl, _, hr, hc⟩ := hh.range_get hv
      refine ⟨.agg us.toArray, ?_, R.agg_mk hr.toArray⟩
      have := run_loadVarN (w := w) ht (a := ⟨(φ a.block).blk, (φ a.block).base + a.off, none⟩) hl (fun j v hj => by rw [add_off]; exact hc j v hj)
      simp [execOp, Instr.loadAt, Instr.sureAddr, e1, this]
    · exact h.elim
  · rename_i o cs ex
    intro φ ρ w hh hx
    have h1 := hx x (by simp [Op.operands])
    rw [ex] at h1
    obtain ⟨a, v, v', e1, hK, hrun, hr⟩ := pz_read (P := P) hh h1 (t := t) (K := Kp) h
    exact ⟨v, v', hK, by simp [execOp, Instr.loadAt, Instr.sureAddr, e1, hrun], hr⟩
  · exact h.elim
theorem toList_cells_agg (cs : Array Value) : (Value.agg cs).cells = cs := rfl
def storeK (P : Program) (t : TypeId) (H : Heap) (x y : Value) (K : Heap → Prop) : Prop :=
  match x with
  | .pointer (some a) => match H.get a.block with
    | .cells cs es false => match tk P t with
      | some none => y.oneCell' = true ∧ a.off < cs.length ∧ K (H.set a.block (.cells (cs.set a.off y) es false))
      | some (some n) => match y with
        | .agg vs => vs.size = n ∧ (∀ v ∈ vs.toList, v.oneCell' = true) ∧ a.off + n ≤ cs.length ∧ K (H.set a.block (.cells (cs.take a.off ++ vs.toList ++ cs.drop (a.off + n)) es false))
        | _ => False
      | none => False
    | _ => False
  | _ => False
theorem gives_store {t : TypeId} {x y : Operand} (h : storeK P t H (e x) (e y) fun H' => K undef H') : Gives P ⟨dst, .store t x y, ty, pos, af, g⟩ e H K := by
  unfold storeK at h
  split at h
  · rename_i a ea
    split at h
    · rename_i cs es eb
      split at h
      · rename_i ht
        obtain ⟨h1, h2, hK⟩ := h
        intro φ ρ w hh hx
        have hp := hx x (by simp [Op.operands])
        have hv := hx y (by simp [Op.operands])
        rw [ea] at hp
        obtain ⟨_, _, e1⟩ := hp.ptr_inv
        obtain ⟨arr, et, ha, hb, hl⟩ := hh.row _ _ _ eb
        have h1' : (ρ y).oneCell' = true := by rw [hv.oneCell]; exact h1
        have hsz : (φ a.block).base + a.off < arr.size := by omega
        have hcells : (ρ y).cells = #[ρ y] := by cases hq : ρ y <;> simp [Value.oneCell', hq] at h1' <;> rfl
        have hwr := hh.write eb ha (cs.set a.off (e y)) (arr.setIfInBounds ((φ a.block).base + a.off) (ρ y)) (by simp) (by simpa using hl) (fun j v hj => by
          by_cases ej : j = a.off
          · subst ej
            rw [List.getElem?_set, if_pos rfl, if_pos h2] at hj
            injection hj with hj
            subst hj
            exact ⟨ρ y, by simp [hsz], hv⟩
          · rw [List.getElem?_set, if_neg (fun q => ej q.symm)] at hj
            obtain ⟨u, hu1, hu2⟩ := hh.cell _ _ _ _ eb j v hj
            rw [cell_at ha] at hu1
            exact ⟨u, by rw [Array.getElem?_setIfInBounds_ne (by omega)]; exact hu1, hu2⟩)
        refine ⟨φ, undef, undef, _, _, hK, .inr ⟨?_, rfl, rfl⟩, R.undef, hwr.1, hwr.2⟩
        have hst := run_storeCells_at (P := P) (φ a.block).blk ((φ a.block).base + a.off) et [ρ y] 0 arr w ha (by simp; omega) (by simpa using h1')
        have hszt := run_size (P := P) (w := w) (size_of_tk ht)
        simp only [Option.getD_none] at hszt
        have harr : (arr.toList.take ((φ a.block).base + a.off + 0) ++ [ρ y] ++ arr.toList.drop ((φ a.block).base + a.off + 0 + [ρ y].length)).toArray = arr.setIfInBounds ((φ a.block).base + a.off) (ρ y) := by
          apply Array.toList_inj.1
          rw [Array.toList_setIfInBounds, List.set_eq_take_append_cons_drop, if_pos (by simpa using hsz)]
          simp
        rw [harr] at hst
        simp [execOp, Instr.storeAt, Instr.sureAddr, storeVar, e1, hszt, hcells, hst]
      · rename_i n ht
        split at h
        · rename_i vs ey
          obtain ⟨h0, h1, h2, hK⟩ := h
          intro φ ρ w hh hx
          have hp := hx x (by simp [Op.operands])
          have hv := hx y (by simp [Op.operands])
          rw [ea] at hp
          rw [ey] at hv
          obtain ⟨_, _, e1⟩ := hp.ptr_inv
          obtain ⟨us, e2, hus⟩ := hv.agg_inv
          obtain ⟨arr, et, ha, hb, hl⟩ := hh.row _ _ _ eb
          have hn : us.size = n := by rw [← hus.1]; exact h0
          have h1' : ∀ v ∈ us.toList, v.oneCell' = true := by
            intro u hu
            obtain ⟨i, hi, rfl⟩ := List.getElem_of_mem hu
            have hi' : i < vs.size := by rw [hus.1]; simpa using hi
            have := hus.2 i vs[i] us[i] (Array.getElem?_eq_getElem hi') (Array.getElem?_eq_getElem (by simpa using hi))
            have hh1 := h1 vs[i] (by simp)
            rw [← this.oneCell] at hh1
            simpa using hh1
          have hst := run_storeCells_at (P := P) (φ a.block).blk ((φ a.block).base + a.off) et us.toList 0 arr w ha (by simp [hn]; omega) h1'
          have hszt := run_size (P := P) (w := w) (size_of_tk ht)
          simp only [Option.getD_some] at hszt
          generalize hA : (arr.toList.take ((φ a.block).base + a.off + 0) ++ us.toList ++ arr.toList.drop ((φ a.block).base + a.off + 0 + us.toList.length)).toArray = arr' at hst
          have hsize : arr'.size = arr.size := by rw [← hA]; simp [hn]; omega
          have hwr := hh.write eb ha (cs.take a.off ++ vs.toList ++ cs.drop (a.off + n)) arr' hsize (by simp [h0]; omega) (fun j v hj => by
            have hget : ∀ k : Nat, arr'[k]? = (arr.toList.take ((φ a.block).base + a.off) ++ us.toList ++ arr.toList.drop ((φ a.block).base + a.off + n))[k]? := by
              intro k; rw [← hA]; simp [hn]
            rw [hget]
            by_cases c1 : j < a.off
            · rw [List.append_assoc, List.getElem?_append_left (by simp; omega), List.getElem?_take, if_pos c1] at hj
              obtain ⟨u, hu1, hu2⟩ := hh.cell _ _ _ _ eb j v hj
              rw [cell_at ha] at hu1
              exact ⟨u, by rw [List.append_assoc, List.getElem?_append_left (by simp; omega), List.getElem?_take, if_pos (by omega)]; simpa using hu1, hu2⟩
            · by_cases c2 : j < a.off + n
              · rw [List.append_assoc, List.getElem?_append_right (by simp; omega), List.getElem?_append_left (by simp; omega)] at hj
                have ej : j - (cs.take a.off).length = j - a.off := by simp; omega
                rw [ej] at hj
                have hlt : j - a.off < us.size := by omega
                refine ⟨us[j - a.off], ?_, hus.2 (j - a.off) v us[j - a.off] (by simpa using hj) (Array.getElem?_eq_getElem hlt)⟩
                rw [List.append_assoc, List.getElem?_append_right (by simp; omega), List.getElem?_append_left (by simp; omega)]
                have ej2 : (φ a.block).base + j - (arr.toList.take ((φ a.block).base + a.off)).length = j - a.off := by simp; omega
                rw [ej2]
                simp [hlt]
              · rw [List.append_assoc, List.getElem?_append_right (by simp; omega), List.getElem?_append_right (by simp; omega), List.getElem?_drop] at hj
                have ej : a.off + n + (j - (cs.take a.off).length - vs.toList.length) = j := by simp; omega
                rw [ej] at hj
                obtain ⟨u, hu1, hu2⟩ := hh.cell _ _ _ _ eb j v hj
                rw [cell_at ha] at hu1
                refine ⟨u, ?_, hu2⟩
                rw [List.append_assoc, List.getElem?_append_right (by simp; omega), List.getElem?_append_right (by simp; omega), List.getElem?_drop]
                have ej2 : (φ a.block).base + a.off + n + ((φ a.block).base + j - (arr.toList.take ((φ a.block).base + a.off)).length - us.toList.length) = (φ a.block).base + j := by simp; omega
                rw [ej2]
                simpa using hu1)
          refine ⟨φ, undef, undef, _, _, hK, .inr ⟨?_, rfl, rfl⟩, R.undef, hwr.1, hwr.2⟩
          simp [execOp, Instr.storeAt, Instr.sureAddr, storeVar, e1, e2, hszt, toList_cells_agg, hn, hst]
        · exact h.elim
      · exact h.elim
    · exact h.elim
  · exact h.elim
end
section
variable {P : Program} {e : Operand → Value} {H : Heap} {K : Value → Heap → Prop} {dst : Option Nat} {ty : TypeId} {pos : String} {af : Array Edge} {g : Option (Nat × Bool)}
theorem gives_box {t : TypeId} {x : Operand} (h : K (.pointer (some ⟨H.size, 0, none⟩)) (H.push (.cells (e x).cells.toList 1 false))) : Gives P ⟨dst, .box t x, ty, pos, af, g⟩ e H K := by
  intro φ ρ w hh hx
  have h1 := (hx x (by simp [Op.operands])).cells
  have ha := hh.alloc (e x).cells.toList (ρ x).cells t 1 (by omega) (by simp [h1.1]) (fun j v hj => by
    have hlt : j < (ρ x).cells.size := by rw [← h1.1]; simpa using (List.getElem?_eq_some_iff.1 hj).1
    exact ⟨_, Array.getElem?_eq_getElem hlt, h1.2 j v _ (by simpa using hj) (Array.getElem?_eq_getElem hlt)⟩)
  refine ⟨_, _, .pointer (some ⟨w.heap.size, 0, none⟩), _, _, h, .inl ?_, ?_, ha.1, ha.2⟩
  · simp [execOp, Instr.box, newVar, newRow]
  · have := R.ptr (φ := upd φ H.size ⟨w.heap.size, 0, (ρ x).cells.size, 1⟩) (has := (H.push (.cells (e x).cells.toList 1 false)).has) H.size 0 (by unfold Heap.has; rw [Heap.get_push, if_pos rfl]; simp)
    simpa [upd] using this
def zr (P : Program) (t : TypeId) : Option Value := (P.info? t).bind (·.zero)
theorem run_zero {t : TypeId} {z : Value} (h : zr P t = some z) (w : World) : (zeroValue t).run P w = .ok z w := by
  unfold zr at h
  cases e : P.info? t with
  | none => rw [e] at h; simp at h
  | some i =>
    rw [e] at h
    simp only [Option.bind_some] at h
    simp [zeroValue, typeInfo, e, h]
def allocK (P : Program) (t : TypeId) (H : Heap) (K : Value → Heap → Prop) : Prop :=
  match zr P t with
  | some z => constOk z = true ∧ K (.pointer (some ⟨H.size, 0, none⟩)) (H.push (.cells z.cells.toList 1 false))
  | none => False
theorem gives_alloc {t : TypeId} (h : allocK P t H K) : Gives P ⟨dst, .alloc t, ty, pos, af, g⟩ e H K := by
  unfold allocK at h
  split at h
  · rename_i z hz
    obtain ⟨hc, hK⟩ := h
    intro φ ρ w hh hx
    have h1 := (R.of_const (φ := φ) (has := H.has) hc).cells
    have ha := hh.alloc z.cells.toList z.cells t 1 (by omega) (by simp) (fun j v hj => ⟨v, by simpa using hj, h1.2 j v v (by simpa using hj) (by simpa using hj)⟩)
    refine ⟨_, _, .pointer (some ⟨w.heap.size, 0, none⟩), _, _, hK, .inl ?_, ?_, ha.1, ha.2⟩
    · simp [execOp, Instr.alloc, newVar, newRow, run_zero hz]
    · have := R.ptr (φ := upd φ H.size ⟨w.heap.size, 0, z.cells.size, 1⟩) (has := (H.push (.cells z.cells.toList 1 false)).has) H.size 0 (by unfold Heap.has; rw [Heap.get_push, if_pos rfl]; simp)
      simpa [upd] using this
  · exact h.elim
def isI (P : Program) (t : TypeId) : Bool := match P.underlying t with | some (.int _) => true | _ => false
/-- Is t a struct of two whole numbers? -/
def i2 (P : Program) (t : TypeId) : Bool := (!P.eqGuardType P.depth t) && (!P.stoodInHeld t) && match P.underlying t with
  | some (.struct fs) => match fs.toList with
    | [f, g] => f.name != "_" && g.name != "_" && f.offset == 0 && g.offset == 1 && isI P f.type && isI P g.type
    | _ => false
  | _ => false
theorem run_i2 {t : TypeId} (h : i2 P t = true) (k k2 : IntKind) (a b c d : Int) (w : World) : (Op.equalIn 10000 t (.agg #[.int k a, .int k2 b]) (.agg #[.int k c, .int k2 d])).run P w = .ok (a == c && b == d) w := by
  unfold i2 at h
  simp only [Bool.and_eq_true, Bool.not_eq_true'] at h
  obtain ⟨⟨h1, h2⟩, h3⟩ := h
  split at h3
  · rename_i fs hu
    split at h3
    · rename_i f g hfs
      simp only [Bool.and_eq_true, bne_iff_ne, ne_eq, beq_iff_eq] at h3
      obtain ⟨⟨⟨⟨⟨n1, n2⟩, o1⟩, o2⟩, i1⟩, i2⟩ := h3
      have hfo : P.fieldsOf t = fs := by unfold Program.fieldsOf; rw [hu]
      rw [run_equalIn_struct w 9999 t _ _ (by rw [hfo]; exact hu) h2, hfo, hfs]
      have key : ∀ {q : TypeId}, isI P q = true → ∃ kk, P.underlying q = some (.int kk) := by
        intro q hq
        unfold isI at hq
        split at hq
        · rename_i kk hk; exact ⟨kk, hk⟩
        · cases hq
      obtain ⟨k1, hk1⟩ := key i1
      obtain ⟨k3, hk2⟩ := key i2
      have p1 : ∀ (cs : Array Value) (v : Value) (w : World), cs[0]? = some v → (part f.type cs f.offset).run P w = .ok v w := by
        intro cs v w hv
        simp only [part, isAgg, Sem.run_bind, run_underlying hk1, Result.andThen_ok, Sem.run_pure, Bool.false_eq_true, if_false, o1, hv]
      have p2 : ∀ (cs : Array Value) (v : Value) (w : World), cs[1]? = some v → (part g.type cs g.offset).run P w = .ok v w := by
        intro cs v w hv
        simp only [part, isAgg, Sem.run_bind, run_underlying hk2, Result.andThen_ok, Sem.run_pure, Bool.false_eq_true, if_false, o2, hv]
      have q1 : ∀ (x y : Int) (w : World), (Op.equalIn 9999 f.type (.int k x) (.int k y)).run P w = .ok (x == y) w := fun x y w => run_equalIn_int w 9998 f.type k k1 x y hk1
      have q2 : ∀ (x y : Int) (w : World), (Op.equalIn 9999 g.type (.int k2 x) (.int k2 y)).run P w = .ok (x == y) w := fun x y w => run_equalIn_int w 9998 g.type k2 k3 x y hk2
      have a1 := fun w => p1 #[.int k a, .int k2 b] (.int k a) w rfl
      have a2 := fun w => p1 #[.int k c, .int k2 d] (.int k c) w rfl
      have a3 := fun w => p2 #[.int k a, .int k2 b] (.int k2 b) w rfl
      have a4 := fun w => p2 #[.int k c, .int k2 d] (.int k2 d) w rfl
      simp only [Op.eqFields, n1, n2, ne_eq, not_false_eq_true, if_true, Sem.run_bind, a1, a2, q1, Result.andThen_ok]
      cases hab : (a == c)
      · simp
      · simp only [Bool.not_true, Bool.false_eq_true, if_false, Bool.true_and, Sem.run_bind, a3, a4, q2, Result.andThen_ok]
        cases (b == d) <;> simp
    · cases h3
  · cases h3
theorem i2_guard {t : TypeId} (h : i2 P t = true) : P.eqGuardType P.depth t = false := by
  unfold i2 at h
  simp only [Bool.and_eq_true, Bool.not_eq_true'] at h
  exact h.1.1
def andI (k : IntKind) (a b : Int) : Int := k.wrap (BitVec.ofInt k.bits a &&& BitVec.ofInt k.bits b).toNat
theorem run_shr (P : Program) (t : TypeId) (x y : Operand) (k k' : IntKind) (a b : Int) (h1 : ¬ b < 0) (w : World) : (do eqGuard .shr t x y (.int k a) (.int k' b); binOp .shr t (.int k a) (.int k' b) : Sem Value).run P w = .ok (.int k (a.fdiv (2 ^ (min b.toNat k.bits)))) w := by
  simp [eqGuard, binOp, Op.shift, h1]
theorem run_shl (P : Program) (t : TypeId) (x y : Operand) (k k' : IntKind) (a b : Int) (h1 : ¬ b < 0) (w : World) : (do eqGuard .shl t x y (.int k a) (.int k' b); binOp .shl t (.int k a) (.int k' b) : Sem Value).run P w = .ok (.int k (k.wrap (a * 2 ^ (min b.toNat k.bits)))) w := by
  simp [eqGuard, binOp, Op.shift, h1]
theorem run_and (P : Program) (t : TypeId) (x y : Operand) (k : IntKind) (a b : Int) (w : World) : (do eqGuard .and t x y (.int k a) (.int k b); binOp .and t (.int k a) (.int k b) : Sem Value).run P w = .ok (.int k (andI k a b)) w := by
  simp [eqGuard, binOp, Op.intBits, andI]
def binK (P : Program) (op : BinOp) (t : TypeId) (x y : Value) (K : Value → Prop) : Prop :=
  match x, y with
  | .int k a, .int k' b => match op with
    | .add => k = k' ∧ K (.int k (k.wrap (a + b)))
    | .sub => k = k' ∧ K (.int k (k.wrap (a - b)))
    | .mul => k = k' ∧ K (.int k (k.wrap (a * b)))
    | .quo => k = k' ∧ b ≠ 0 ∧ K (.int k (k.wrap (a.tdiv b)))
    | .rem => k = k' ∧ b ≠ 0 ∧ K (.int k (a.tmod b))
    | .eql => k = k' ∧ K (.bool (a == b))
    | .neq => k = k' ∧ K (.bool (a != b))
    | .lss => k = k' ∧ K (.bool (a < b))
    | .leq => k = k' ∧ K (.bool (a ≤ b))
    | .gtr => k = k' ∧ K (.bool (a > b))
    | .geq => k = k' ∧ K (.bool (a ≥ b))
    | .and => k = k' ∧ K (.int k (andI k a b))
    | .shr => 0 ≤ b ∧ K (.int k (a.fdiv (2 ^ (min b.toNat k.bits))))
    | .shl => 0 ≤ b ∧ K (.int k (k.wrap (a * 2 ^ (min b.toNat k.bits))))
    | _ => False
  | .bool a, .bool b => match op with
    | .eql => P.underlying t = some .bool ∧ K (.bool (a == b))
    | .neq => P.underlying t = some .bool ∧ K (.bool (a != b))
    | _ => False
  | .string a, .string b => match op with
    | .eql => K (.bool (a.toList == b.toList))
    | .neq => K (.bool !(a.toList == b.toList))
    | .add => (a.size : Int) + b.size ≤ IntKind.i64.max ∧ K (.string (a ++ b))
    | _ => False
  | .slice a n c, .slice none 0 0 => match el P t with
    | some (none, _) => match op with
      | .eql => K (.bool a.isNone)
      | .neq => K (.bool a.isSome)
      | _ => False
    | _ => False
  | FZ _ n _, .slice none 0 0 => n ≠ 0 ∧ match el P t with
    | some (none, _) => match op with
      | .eql => K (.bool false)
      | .neq => K (.bool true)
      | _ => False
    | _ => False
  | GZ _ _ n _, .slice none 0 0 => n ≠ 0 ∧ match el P t with
    | some (none, _) => match op with
      | .eql => K (.bool false)
      | .neq => K (.bool true)
      | _ => False
    | _ => False
  | .agg ⟨[.int k a, .int k2 b]⟩, .agg ⟨[.int k' c, .int k2' d]⟩ => i2 P t = true ∧ k' = k ∧ k2' = k2 ∧ match op with
    | .eql => K (.bool (a == c && b == d))
    | .neq => K (.bool (!(a == c && b == d)))
    | _ => False
  | _, _ => False
theorem el_slice {t : TypeId} {s : Nat} (h : el P t = some (none, s)) : ∃ et, P.underlying t = some (.slice et) ∧ cz P et = some s := by
  unfold el at h
  split at h
  · rename_i et hu
    cases hc : cz P et with
    | none => rw [hc] at h; simp at h
    | some n => rw [hc] at h; simp at h; exact ⟨et, hu, by rw [hc, h]⟩
  · rename_i len et hu
    cases hc : cz P et with
    | none => rw [hc] at h; simp at h
    | some n => rw [hc] at h; simp at h
  · simp at h
theorem el_array {t : TypeId} {len s : Nat} (h : el P t = some (some len, s)) : ∃ et, P.underlying t = some (.array len et) ∧ cz P et = some s := by
  unfold el at h
  split at h
  · rename_i et hu
    cases hc : cz P et with
    | none => rw [hc] at h; simp at h
    | some n => rw [hc] at h; simp at h
  · rename_i len' et hu
    cases hc : cz P et with
    | none => rw [hc] at h; simp at h
    | some n => rw [hc] at h; simp at h; obtain ⟨h1, h2⟩ := h; subst h1; exact ⟨et, hu, by rw [hc, h2]⟩
  · simp at h
/-- A binary operation by its run. -/
theorem pg_bin_run {Kp : Value → Prop} {op : BinOp} {t yt : TypeId} {x y : Operand} {vx vy : Value} (ex : e x = vx) (ey : e y = vy) (cx : constOk vx = true) (cy : constOk vy = true) {v : Value} (cv : constOk v = true)
    (hr : ∀ w, (do eqGuard op t x y vx vy; binOp op t vx vy : Sem Value).run P w = .ok v w) (hK : Kp v) : PGives P ⟨dst, .binOp op t x y yt, ty, pos, af, g⟩ e H Kp := by
  refine .mk' v hK fun φ ρ w hh hx => ?_
  have h1 := hx x (by simp [Op.operands])
  have h2 := hx y (by simp [Op.operands])
  rw [ex] at h1
  rw [ey] at h2
  refine ⟨v, ?_, R.of_const cv⟩
  have e1 := R.const_eq cx h1
  have e2 := R.const_eq cy h2
  have h3 := hr w
  simp only [execOp, e1, e2]
  rw [Sem.run_bind, h3]
  rfl
theorem run_eq_slice (d : Nat) (t et : TypeId) (h : P.underlying t = some (.slice et)) (a : Option Addr) (n c : Nat) (w : World) : (Op.equalIn (d + 1) t (.slice a n c) (.slice none 0 0)).run P w = .ok a.isNone w := by
  simp only [Op.equalIn, Sem.run_bind, run_underlying h, Result.andThen_ok]
  cases a <;> rfl
theorem pg_nil_fz {Kp : Value → Prop} {op : BinOp} {t yt : TypeId} {x y : Operand} {es n : Nat} {cs : List Value} (hr : ∀ (φ : Ren) (ρ : Operand → Value) (w : World), Holds φ H w → (∀ z ∈ #[x, y], R φ H.has (e z) (ρ z)) → R φ H.has (FZ es n cs) (ρ x)) (ey : e y = .slice none 0 0) (hn : n ≠ 0)
    (h : match el P t with | some (none, _) => (match op with | .eql => Kp (.bool false) | .neq => Kp (.bool true) | _ => False) | _ => False) : PGives P ⟨dst, .binOp op t x y yt, ty, pos, af, g⟩ e H Kp := by
  split at h
  · rename_i s hel
    obtain ⟨et, hu, _⟩ := el_slice hel
    have key : ∀ (φ : Ren) (ρ : Operand → Value) (w : World), Holds φ H w → (∀ z ∈ (Op.binOp op t x y yt).operands, R φ H.has (e z) (ρ z)) → ∃ a c, ρ x = .slice (some a) n c ∧ ρ y = .slice none 0 0 := by
      intro φ ρ w hh hx
      have h1 := hr φ ρ w hh (fun z hz => hx z (by simpa [Op.operands] using hz))
      have h2 := hx y (by simp [Op.operands])
      rw [ey] at h2
      obtain ⟨a, c, e1, h3⟩ := h1.fz_inv
      rcases h3 with ⟨h3, _⟩ | ⟨β, base, us, rfl, _⟩
      · exact absurd h3 hn
      · exact ⟨_, c, e1, R.flat_eq (v := .slice none 0 0) rfl h2⟩
    split at h
    · refine .mk' _ h fun φ ρ w hh hx => ?_
      obtain ⟨a, c, e1, e2⟩ := key φ ρ w hh hx
      refine ⟨.bool false, ?_, .bool _⟩
      simp only [execOp, e1, e2]
      show (do pure (Next.value (← (do (pure ()); (do pure (Value.bool (← Op.equal t (.slice (some a) n c) (.slice none 0 0))))))) : Sem Next).run P w = _
      have hq : (Op.equal t (.slice (some a) n c) (.slice none 0 0)).run P w = .ok false w := run_eq_slice 9999 t et hu (some a) n c w
      simp only [Sem.run_bind, Sem.run_pure, hq, Result.andThen_ok]
    · refine .mk' _ h fun φ ρ w hh hx => ?_
      obtain ⟨a, c, e1, e2⟩ := key φ ρ w hh hx
      refine ⟨.bool true, ?_, .bool _⟩
      simp only [execOp, e1, e2]
      show (do pure (Next.value (← (do (pure ()); (do pure (Value.bool (!(← Op.equal t (.slice (some a) n c) (.slice none 0 0)))))))) : Sem Next).run P w = _
      have hq : (Op.equal t (.slice (some a) n c) (.slice none 0 0)).run P w = .ok false w := run_eq_slice 9999 t et hu (some a) n c w
      simp only [Sem.run_bind, Sem.run_pure, hq, Result.andThen_ok]
      rfl
    · exact h.elim
  · exact h.elim
theorem pg_bin {Kp : Value → Prop} {op : BinOp} {t yt : TypeId} {x y : Operand} (h : binK P op t (e x) (e y) Kp) : PGives P ⟨dst, .binOp op t x y yt, ty, pos, af, g⟩ e H Kp := by
  unfold binK at h
  split at h
  · rename_i k a k' b ex ey
    have hf : ∀ {n : Int} {q : IntKind}, constOk (.int q n) = true := rfl
    have hb : ∀ {n : Bool}, constOk (.bool n) = true := rfl
    split at h
    case h_12 => obtain ⟨rfl, hK⟩ := h; exact pg_bin_run ex ey hf hf hf (fun w => run_and P t x y k a b w) hK
    case h_13 => obtain ⟨h0, hK⟩ := h; exact pg_bin_run ex ey hf hf hf (fun w => run_shr P t x y k k' a b (by omega) w) hK
    case h_14 => obtain ⟨h0, hK⟩ := h; exact pg_bin_run ex ey hf hf hf (fun w => run_shl P t x y k k' a b (by omega) w) hK
    all_goals first
      | exact h.elim
      | (obtain ⟨rfl, hK⟩ := h; exact pg_bin_run ex ey hf hf (by first | exact hf | exact hb) (fun w => by simp [eqGuard, binOp, Op.intArith, Op.intCmp]) hK)
      | (obtain ⟨rfl, h0, hK⟩ := h; exact pg_bin_run ex ey hf hf (by first | exact hf | exact hb) (fun w => by simp [eqGuard, binOp, Op.intDiv, h0]) hK)
  · rename_i a b ex ey
    have q : P.underlying t = some .bool → ∀ w, (Op.equal t (.bool a) (.bool b)).run P w = .ok (a == b) w := fun h0 w => run_equalIn_bool' w 9999 t a b h0
    split at h
    · obtain ⟨h0, hK⟩ := h
      exact pg_bin_run ex ey rfl rfl rfl (fun w => by show (do pure (Value.bool (← Op.equal t (.bool a) (.bool b))) : Sem Value).run P w = _; simp only [Sem.run_bind, q h0 w, Result.andThen_ok, Sem.run_pure]) hK
    · obtain ⟨h0, hK⟩ := h
      exact pg_bin_run ex ey rfl rfl rfl (fun w => by show (do pure (Value.bool (!(← Op.equal t (.bool a) (.bool b)))) : Sem Value).run P w = _; simp only [Sem.run_bind, q h0 w, Result.andThen_ok, Sem.run_pure]; rfl) hK
    · exact h.elim
  · rename_i a b ex ey
    split at h
    · exact pg_bin_run ex ey rfl rfl rfl (fun w => by simp [eqGuard, binOp, Op.stringOp]) h
    · exact pg_bin_run ex ey rfl rfl rfl (fun w => by simp [eqGuard, binOp, Op.stringOp]) h
    · obtain ⟨h0, hK⟩ := h
      exact pg_bin_run ex ey rfl rfl rfl (fun w => by
        have h1 : (a.size : Int) + (b.size : Int) ≤ 9223372036854775807 := h0
        simp [eqGuard, binOp, Op.stringOp, h1]) hK
    · exact h.elim
  · rename_i a n c ex ey
    split at h
    · rename_i s hel
      obtain ⟨et, hu, _⟩ := el_slice hel
      split at h
      · refine .mk' _ h fun φ ρ w hh hx => ?_
        have h1 := hx x (by simp [Op.operands])
        have h2 := hx y (by simp [Op.operands])
        rw [ex] at h1
        rw [ey] at h2
        have e2 := R.flat_eq (v := .slice none 0 0) rfl h2
        refine ⟨_, ?_, .bool _⟩
        have q : ∀ (a' : Option Addr) (n' c' : Nat), a'.isNone = a.isNone → ρ x = .slice a' n' c' → (execOp ρ ⟨dst, .binOp .eql t x y yt, ty, pos, af, g⟩).run P w = .ok (.value (.bool a.isNone)) w := by
          intro a' n' c' ha hr
          simp only [execOp, hr, e2]
          show (do pure (Next.value (← (do (pure ()); (do pure (Value.bool (← Op.equal t (.slice a' n' c') (.slice none 0 0))))))) : Sem Next).run P w = _
          have hq : (Op.equal t (.slice a' n' c') (.slice none 0 0)).run P w = .ok a'.isNone w := run_eq_slice 9999 t et hu a' n' c' w
          simp only [Sem.run_bind, Sem.run_pure, hq, Result.andThen_ok, ha]
        cases a with
        | none => obtain ⟨_, _, hr⟩ := h1.slice0_inv; exact q none 0 0 rfl hr
        | some a => obtain ⟨_, c', hr⟩ := h1.slice_shape; exact q (some _) n c' (by rfl) hr
      · refine .mk' _ h fun φ ρ w hh hx => ?_
        have h1 := hx x (by simp [Op.operands])
        have h2 := hx y (by simp [Op.operands])
        rw [ex] at h1
        rw [ey] at h2
        have e2 := R.flat_eq (v := .slice none 0 0) rfl h2
        refine ⟨_, ?_, .bool _⟩
        have q : ∀ (a' : Option Addr) (n' c' : Nat), a'.isSome = a.isSome → ρ x = .slice a' n' c' → (execOp ρ ⟨dst, .binOp .neq t x y yt, ty, pos, af, g⟩).run P w = .ok (.value (.bool a.isSome)) w := by
          intro a' n' c' ha hr
          simp only [execOp, hr, e2]
          show (do pure (Next.value (← (do (pure ()); (do pure (Value.bool (!(← Op.equal t (.slice a' n' c') (.slice none 0 0)))))))) : Sem Next).run P w = _
          have hq : (Op.equal t (.slice a' n' c') (.slice none 0 0)).run P w = .ok a'.isNone w := run_eq_slice 9999 t et hu a' n' c' w
          have hb : (!a'.isNone) = a.isSome := by rw [← ha]; cases a' <;> rfl
          simp only [Sem.run_bind, Sem.run_pure, hq, Result.andThen_ok, hb]
        cases a with
        | none => obtain ⟨_, _, hr⟩ := h1.slice0_inv; exact q none 0 0 rfl hr
        | some a => obtain ⟨_, c', hr⟩ := h1.slice_shape; exact q (some _) n c' (by rfl) hr
      · exact h.elim
    · exact h.elim
  · rename_i es n cs ex ey
    exact pg_nil_fz (fun φ ρ w hh hx => by have := hx x (by simp); rwa [ex] at this) ey h.1 h.2
  · rename_i tag es n cs ex ey
    exact pg_nil_fz (fun φ ρ w hh hx => by have := hx x (by simp); rw [ex] at this; exact this.gz_inv.1) ey h.1 h.2
  · rename_i k a k2 b k' c k2' d ex ey
    obtain ⟨h0, rfl, rfl, h⟩ := h
    have ck : ∀ (k k2 : IntKind) (a b : Int), constOk (.agg #[.int k a, .int k2 b]) = true := fun k k2 a b => by simp [constOk, flat]
    have g0 : ∀ (op : BinOp) (xs ys : Array Value) (w : World), (eqGuard op t x y (.agg xs) (.agg ys)).run P w = .ok () w := fun op xs ys w => run_eqGuard_agg w op t x y xs ys (i2_guard h0)
    split at h
    · exact pg_bin_run ex ey (ck _ _ _ _) (ck _ _ _ _) rfl (fun w => by rw [Sem.run_bind, g0]; simp only [Result.andThen_ok]; rw [run_eql_struct, run_i2 h0]; rfl) h
    · exact pg_bin_run ex ey (ck _ _ _ _) (ck _ _ _ _) rfl (fun w => by rw [Sem.run_bind, g0]; simp only [Result.andThen_ok]; rw [run_neq_struct, run_i2 h0]; rfl) h
    · exact h.elim
  · exact h.elim
def unK (op : UnOp) (x : Value) (K : Value → Prop) : Prop :=
  match op, x with
  | .neg, .int k n => K (.int k (k.wrap (0 - n)))
  | .not, .bool b => K (.bool !b)
  | _, _ => False
theorem pg_un {Kp : Value → Prop} {op : UnOp} {t : TypeId} {x : Operand} (h : unK op (e x) Kp) : PGives P ⟨dst, .unOp op t x, ty, pos, af, g⟩ e H Kp := by
  unfold unK at h
  split at h
  · rename_i k n ex
    refine .mk' _ h fun φ ρ w hh hx => ?_
    have h1 := hx x (by simp [Op.operands])
    rw [ex] at h1
    exact ⟨_, by simp [execOp, h1.int_inv, Op.unary, Op.intArith], .int _ _⟩
  · rename_i b ex
    refine .mk' _ h fun φ ρ w hh hx => ?_
    have h1 := hx x (by simp [Op.operands])
    rw [ex] at h1
    exact ⟨_, by simp [execOp, h1.bool_inv, Op.unary], .bool _⟩
  · exact h.elim
/-- Does this type hold whole numbers? -/
def ik (P : Program) (t : TypeId) : Option IntKind :=
  match P.underlying t with
  | some (.int k) => some k
  | _ => none
def convK (P : Program) (s d : TypeId) (x : Value) (K : Value → Prop) : Prop :=
  match x, ik P s, ik P d with
  | .int _ n, some _, some k => K (.int k (k.wrap n))
  | _, _, _ => False
theorem ik_und {t : TypeId} {k : IntKind} (h : ik P t = some k) : P.underlying t = some (.int k) := by
  unfold ik at h
  split at h
  · rename_i k' hu; injection h with h; subst h; exact hu
  · simp at h
theorem pg_conv {Kp : Value → Prop} {s d : TypeId} {x : Operand} (h : convK P s d (e x) Kp) : PGives P ⟨dst, .convert s d x, ty, pos, af, g⟩ e H Kp := by
  unfold convK at h
  split at h
  · rename_i k0 n k1 k2 ex h1 h2
    refine .mk' _ h fun φ ρ w hh hx => ?_
    have hr := hx x (by simp [Op.operands])
    rw [ex] at hr
    exact ⟨_, by simp [execOp, hr.int_inv, convert, run_underlying (ik_und h1), run_underlying (ik_und h2), Conv.intToInt], .int _ _⟩
  · exact h.elim
theorem pg_func {Kp : Value → Prop} {fn : Fn} {first cap : Array Operand} (h : Kp (.func fn (first.map e) (cap.map e))) : PGives P ⟨dst, .makeFunc fn first cap, ty, pos, af, g⟩ e H Kp := by
  refine .mk' _ h fun φ ρ w hh hx => ⟨.func fn (first.map ρ) (cap.map ρ), by simp [execOp, Instr.makeFunc], ?_⟩
  have h1 := RA.map (φ := φ) (has := H.has) first e ρ (fun x hm => hx x (by simp [Op.operands, hm]))
  have h2 := RA.map (φ := φ) (has := H.has) cap e ρ (fun x hm => hx x (by simp [Op.operands, hm]))
  exact .func _ _ _ _ _ h1.1 h2.1 h1.2 h2.2
def fieldAddrK (P : Program) (s : TypeId) (f : Nat) (x : Value) (K : Value → Prop) : Prop :=
  match x, fo P s f with
  | .pointer (some a), some (off, k) => k ≠ some 0 ∧ K (.pointer (some ⟨a.block, a.off + off, none⟩))
  | PZ cs o, some (off, k) => k ≠ some 0 ∧ K (PZ cs (o + off))
  | _, _ => False
theorem fo_spec {s : TypeId} {f off : Nat} {k : Option Nat} (h : fo P s f = some (off, k)) : ∃ fs fl, P.underlying s = some (.struct fs) ∧ fs[f]? = some fl ∧ fl.offset = off ∧ tk P fl.type = some k := by
  unfold fo at h
  split at h
  · rename_i fs hu
    split at h
    · rename_i fl hf
      cases ht : tk P fl.type with
      | none => rw [ht] at h; simp at h
      | some k' => rw [ht] at h; simp at h; exact ⟨fs, fl, hu, hf, h.1, by rw [ht, h.2]⟩
    · simp at h
  · simp at h
theorem pg_fieldAddr {Kp : Value → Prop} {s : TypeId} {x : Operand} {f : Nat} (h : fieldAddrK P s f (e x) Kp) : PGives P ⟨dst, .fieldAddr s x f, ty, pos, af, g⟩ e H Kp := by
  unfold fieldAddrK at h
  split at h
  · rename_i a off k ex hf
    obtain ⟨h0, hK⟩ := h
    obtain ⟨fs, fl, hu, hfl, ho, ht⟩ := fo_spec hf
    refine .mk' _ hK fun φ ρ w hh hx => ?_
    have hr := hx x (by simp [Op.operands])
    rw [ex] at hr
    obtain ⟨_, hb, e1⟩ := hr.ptr_inv
    have hsz := run_size (P := P) (w := w) (size_of_tk ht)
    have hne : ¬ k.getD 1 = 0 := by cases k with
      | none => simp
      | some n => simp; intro e; exact h0 (by rw [e])
    refine ⟨_, ?_, R.ptr_mk hb (o' := (φ a.block).base + a.off + off) (by omega)⟩
    simp [execOp, Instr.fieldAt, run_underlying hu, hfl, Instr.sureAddr, e1, fieldPlace, hsz, hne, add_off, ho]
  · rename_i o cs off k ex hf
    obtain ⟨h0, hK⟩ := h
    obtain ⟨fs, fl, hu, hfl, ho, ht⟩ := fo_spec hf
    refine .mk' _ hK fun φ ρ w hh hx => ?_
    have hr := hx x (by simp [Op.operands])
    rw [ex] at hr
    obtain ⟨β, base, us, e1, h1, h2⟩ := hr.pz_inv
    have hsz := run_size (P := P) (w := w) (size_of_tk ht)
    have hne : ¬ k.getD 1 = 0 := by cases k with
      | none => simp
      | some n => simp; intro e; exact h0 (by rw [e])
    refine ⟨_, ?_, R.pz β base (o + off) cs us h1 h2⟩
    simp [execOp, Instr.fieldAt, run_underlying hu, hfl, Instr.sureAddr, e1, fieldPlace, hsz, hne, add_off, ho, Nat.add_assoc]
  · exact h.elim
def partK (k : Option Nat) (cs : Array Value) (off : Nat) (K : Value → Prop) : Prop :=
  match k with
  | none => ∃ v, cs[off]? = some v ∧ K v
  | some n => K (.agg (cs.extract off (off + n)))
theorem run_part1 {t : TypeId} (h : tk P t = some none) {cs : Array Value} {off : Nat} {v : Value} (hv : cs[off]? = some v) (w : World) : (part t cs off).run P w = .ok v w := by
  unfold part
  rw [Sem.run_bind, run_isAgg h]
  simp [hv]
theorem run_partN {t : TypeId} {n : Nat} (h : tk P t = some (some n)) (cs : Array Value) (off : Nat) (w : World) : (part t cs off).run P w = .ok (.agg (cs.extract off (off + n))) w := by
  unfold part
  rw [Sem.run_bind, run_isAgg h]
  have hsz := run_size (P := P) (w := w) (size_of_tk h)
  simp only [Option.getD_some] at hsz
  simp [hsz]
theorem RA.extract {φ : Ren} {has : Nat → Prop} {cs cs' : Array Value} (h : RA φ has cs cs') (i j : Nat) : RA φ has (cs.extract i j) (cs'.extract i j) := by
  refine ⟨by simp [h.1], fun k x x' hx hx' => ?_⟩
  rw [Array.getElem?_extract] at hx hx'
  split at hx
  · rename_i hlt
    rw [if_pos (by rw [← h.1]; exact hlt)] at hx'
    exact h.2 _ x x' hx hx'
  · simp at hx
theorem partK_run {φ : Ren} {has : Nat → Prop} {t : TypeId} {k : Option Nat} (ht : tk P t = some k) {cs cs' : Array Value} (hr : RA φ has cs cs') {off : Nat} {K : Value → Prop} (h : partK k cs off K) :
    ∃ v v', K v ∧ (∀ w, (part t cs' off).run P w = .ok v' w) ∧ R φ has v v' := by
  cases k with
  | none =>
    obtain ⟨v, hv, hK⟩ := h
    have hlt : off < cs'.size := by rw [← hr.1]; exact (Array.getElem?_eq_some_iff.1 hv).1
    exact ⟨v, cs'[off], hK, fun w => run_part1 ht (Array.getElem?_eq_getElem hlt) w, hr.2 off v _ hv (Array.getElem?_eq_getElem hlt)⟩
  | some n => exact ⟨_, _, h, fun w => run_partN ht cs' off w, R.agg_mk (hr.extract _ _)⟩
def fieldK (P : Program) (s : TypeId) (f : Nat) (x : Value) (K : Value → Prop) : Prop :=
  match x, fo P s f with
  | .agg cs, some (off, k) => partK k cs off K
  | _, _ => False
theorem pg_field {Kp : Value → Prop} {s : TypeId} {x : Operand} {f : Nat} (h : fieldK P s f (e x) Kp) : PGives P ⟨dst, .field s x f, ty, pos, af, g⟩ e H Kp := by
  unfold fieldK at h
  split at h
  · rename_i cs off k ex hf
    obtain ⟨fs, fl, hu, hfl, ho, ht⟩ := fo_spec hf
    intro φ ρ w hh hx
    have hr := hx x (by simp [Op.operands])
    rw [ex] at hr
    obtain ⟨cs', e1, hcs⟩ := hr.agg_inv
    obtain ⟨v, v', hK, hrun, hv⟩ := partK_run ht hcs h
    refine ⟨v, v', hK, ?_, hv⟩
    simp [execOp, Instr.field, run_underlying hu, hfl, e1, asAgg, ho, hrun w]
  · exact h.elim
def ixK (l : Option (Option Nat × Nat)) (n : Int) (x : Value) (K : Value → Prop) : Prop :=
  match l, x with
  | some (none, s), .slice (some a) len _ => 0 ≤ n ∧ n < len ∧ K (.pointer (some ⟨a.block, a.off + n.toNat * s, none⟩))
  | some (some len, s), .pointer (some a) => 0 ≤ n ∧ n < len ∧ K (.pointer (some ⟨a.block, a.off + n.toNat * s, none⟩))
  | some (none, s), FZ es len cs => es = s ∧ 0 ≤ n ∧ n < len ∧ K (PZ cs (n.toNat * s))
  | some (none, s), GZ _ es len cs => es = s ∧ 0 ≤ n ∧ n < len ∧ K (PZ cs (n.toNat * s))
  | some (some len, s), PZ cs o => 0 ≤ n ∧ n < len ∧ K (PZ cs (o + n.toNat * s))
  | _, _ => False
def indexAddrK (P : Program) (t : TypeId) (x i : Value) (K : Value → Prop) : Prop :=
  match i with
  | .int _ n => ixK (el P t) n x K
  | _ => False
theorem pg_ix_fz {Kp : Value → Prop} {t : TypeId} {x i : Operand} {es len s : Nat} {cs : List Value} {kn : IntKind} {n : Int} (hr : ∀ (φ : Ren) (ρ : Operand → Value) (w : World), Holds φ H w → (∀ z ∈ #[x, i], R φ H.has (e z) (ρ z)) → R φ H.has (FZ es len cs) (ρ x)) (ei : e i = .int kn n)
    (hel : el P t = some (none, s)) (h0 : 0 ≤ n) (h1 : n < len) (hK : Kp (PZ cs (n.toNat * s))) : PGives P ⟨dst, .indexAddr t x i, ty, pos, af, g⟩ e H Kp := by
  obtain ⟨et, hu, hc⟩ := el_slice hel
  refine .mk' _ hK fun φ ρ w hh hx => ?_
  have hr := hr φ ρ w hh (fun z hz => hx z (by simpa [Op.operands] using hz))
  have hi := hx i (by simp [Op.operands])
  rw [ei] at hi
  obtain ⟨a, c, e1, h3⟩ := hr.fz_inv
  rcases h3 with ⟨h3, _⟩ | ⟨β, base, us, rfl, _, _, _, g1, g2⟩
  · omega
  · refine ⟨_, ?_, R.pz β base (n.toNat * s) cs us g1 g2⟩
    simp [execOp, Instr.indexAt, hi.int_inv, e1, asIntOf, run_underlying hu, h0, h1, run_size hc, add_off]
theorem pg_indexAddr {Kp : Value → Prop} {t : TypeId} {x i : Operand} (h : indexAddrK P t (e x) (e i) Kp) : PGives P ⟨dst, .indexAddr t x i, ty, pos, af, g⟩ e H Kp := by
  unfold indexAddrK at h
  split at h
  case h_2 => exact h.elim
  rename_i kn n ei
  unfold ixK at h
  split at h
  · rename_i s a len c hel ex
    obtain ⟨h0, h1, hK⟩ := h
    obtain ⟨et, hu, hc⟩ := el_slice hel
    refine .mk' _ hK fun φ ρ w hh hx => ?_
    have hr := hx x (by simp [Op.operands])
    have hi := hx i (by simp [Op.operands])
    rw [ex] at hr
    rw [ei] at hi
    obtain ⟨_, hb, c', e1, _⟩ := hr.slice_inv (.inr (by omega))
    refine ⟨_, ?_, R.ptr_mk hb (o' := (φ a.block).base + a.off + n.toNat * s) (by omega)⟩
    simp [execOp, Instr.indexAt, hi.int_inv, e1, asIntOf, run_underlying hu, h0, h1, run_size hc, add_off]
  · rename_i len s a hel ex
    obtain ⟨h0, h1, hK⟩ := h
    obtain ⟨et, hu, hc⟩ := el_array hel
    refine .mk' _ hK fun φ ρ w hh hx => ?_
    have hr := hx x (by simp [Op.operands])
    have hi := hx i (by simp [Op.operands])
    rw [ex] at hr
    rw [ei] at hi
    obtain ⟨_, hb, e1⟩ := hr.ptr_inv
    refine ⟨_, ?_, R.ptr_mk hb (o' := (φ a.block).base + a.off + n.toNat * s) (by omega)⟩
    simp [execOp, Instr.indexAt, hi.int_inv, e1, asIntOf, run_underlying hu, h0, h1, run_size hc, add_off, Instr.sureAddr]
  · rename_i s es len cs hel ex
    obtain ⟨rfl, h0, h1, hK⟩ := h
    exact pg_ix_fz (fun φ ρ w hh hx => by have := hx x (by simp); rwa [ex] at this) ei hel h0 h1 hK
  · rename_i s tag es len cs hel ex
    obtain ⟨rfl, h0, h1, hK⟩ := h
    exact pg_ix_fz (fun φ ρ w hh hx => by have := hx x (by simp); rw [ex] at this; exact this.gz_inv.1) ei hel h0 h1 hK
  · rename_i len s o cs hel ex
    obtain ⟨h0, h1, hK⟩ := h
    obtain ⟨et, hu, hc⟩ := el_array hel
    refine .mk' _ hK fun φ ρ w hh hx => ?_
    have hr := hx x (by simp [Op.operands])
    have hi := hx i (by simp [Op.operands])
    rw [ex] at hr
    rw [ei] at hi
    obtain ⟨β, base, us, e1, g1, g2⟩ := hr.pz_inv
    refine ⟨_, ?_, R.pz β base (o + n.toNat * s) cs us g1 g2⟩
    simp [execOp, Instr.indexAt, hi.int_inv, e1, asIntOf, run_underlying hu, h0, h1, run_size hc, add_off, Instr.sureAddr, Nat.add_assoc]
  · exact h.elim
end
section
variable {P : Program} {e : Operand → Value} {H : Heap} {K : Value → Heap → Prop} {dst : Option Nat} {ty : TypeId} {pos : String} {af : Array Edge} {g : Option (Nat × Bool)}
def indexK (P : Program) (t : TypeId) (x i : Value) (K : Value → Prop) : Prop :=
  match i, x with
  | .int _ n, .agg cs => match P.underlying t with
    | some (.array len et) => match tk P et with
      | some k => 0 ≤ n ∧ n < len ∧ partK k cs (n.toNat * k.getD 1) K
      | none => False
    | _ => False
  | .int _ n, .string s => P.underlying t = some .string ∧ 0 ≤ n ∧ ∃ b, s[n.toNat]? = some b ∧ K (.int .u8 b.toNat)
  | _, _ => False
theorem pg_index {Kp : Value → Prop} {t : TypeId} {x i : Operand} (h : indexK P t (e x) (e i) Kp) : PGives P ⟨dst, .index t x i, ty, pos, af, g⟩ e H Kp := by
  unfold indexK at h
  split at h
  · rename_i kn n cs ei ex
    split at h
    · rename_i len et hu
      split at h
      · rename_i k ht
        obtain ⟨h0, h1, hp⟩ := h
        intro φ ρ w hh hx
        have hr := hx x (by simp [Op.operands])
        have hi := hx i (by simp [Op.operands])
        rw [ex] at hr
        rw [ei] at hi
        obtain ⟨cs', e1, hcs⟩ := hr.agg_inv
        obtain ⟨v, v', hK, hrun, hv⟩ := partK_run ht hcs hp
        refine ⟨v, v', hK, ?_, hv⟩
        simp [execOp, Instr.index, hi.int_inv, e1, asIntOf, run_underlying hu, h0, h1, run_size (size_of_tk ht), hrun w]
      · exact h.elim
    · exact h.elim
  · rename_i kn n s ei ex
    obtain ⟨hu, h0, b, hb, hK⟩ := h
    refine .mk' _ hK fun φ ρ w hh hx => ?_
    have hr := hx x (by simp [Op.operands])
    have hi := hx i (by simp [Op.operands])
    rw [ex] at hr
    rw [ei] at hi
    exact ⟨_, by simp [execOp, Instr.index, hi.int_inv, hr.string_inv, asIntOf, run_underlying hu, h0, hb], .int _ _⟩
  · exact h.elim
def extractK (i : Nat) (x : Value) (K : Value → Prop) : Prop :=
  match x with
  | .tuple vs => ∃ v, vs[i]? = some v ∧ K v
  | _ => False
theorem pg_extract {Kp : Value → Prop} {x : Operand} {i : Nat} (h : extractK i (e x) Kp) : PGives P ⟨dst, .extract x i, ty, pos, af, g⟩ e H Kp := by
  unfold extractK at h
  split at h
  · rename_i vs ex
    obtain ⟨v, hv, hK⟩ := h
    refine .mk' _ hK fun φ ρ w hh hx => ?_
    have hr := hx x (by simp [Op.operands])
    rw [ex] at hr
    obtain ⟨vs', e1, hvs⟩ := hr.tuple_inv
    have hlt : i < vs'.size := by rw [← hvs.1]; exact (Array.getElem?_eq_some_iff.1 hv).1
    refine ⟨vs'[i], ?_, hvs.2 i v _ hv (Array.getElem?_eq_getElem hlt)⟩
    simp [execOp, Instr.extract, e1, Array.getElem?_eq_getElem hlt]
  · exact h.elim
def nilK (x : Value) (K : Value → Prop) : Prop :=
  match x with
  | .pointer (some _) => K x
  | PZ _ _ => K x
  | .func (.func _) _ _ => K x
  | _ => False
theorem pg_nil {Kp : Value → Prop} {x : Operand} (h : nilK (e x) Kp) : PGives P ⟨dst, .nilCheck x, ty, pos, af, g⟩ e H Kp := by
  unfold nilK at h
  split at h
  · rename_i a ex
    refine .mk' _ h fun φ ρ w hh hx => ?_
    have hr := hx x (by simp [Op.operands])
    have hr' := hr
    rw [ex] at hr'
    obtain ⟨_, _, e1⟩ := hr'.ptr_inv
    exact ⟨ρ x, by simp [execOp, e1], hr⟩
  · rename_i o cs ex
    refine .mk' _ h fun φ ρ w hh hx => ?_
    have hr := hx x (by simp [Op.operands])
    have hr' := hr
    rw [ex] at hr'
    obtain ⟨β, base, us, e1, _⟩ := hr'.pz_inv
    exact ⟨ρ x, by simp [execOp, e1], hr⟩
  · rename_i f xs ys ex
    refine .mk' _ h fun φ ρ w hh hx => ?_
    have hr := hx x (by simp [Op.operands])
    have hr' := hr
    rw [ex] at hr'
    refine ⟨ρ x, ?_, hr⟩
    generalize hq : ρ x = u at hr'
    cases hr'
    simp [execOp, hq]
  · exact h.elim
/-! slices of slices -/
def bnd (v : Option Value) (d : Nat) (K : Nat → Prop) : Prop :=
  match v with
  | none => K d
  | some (.int _ n) => 0 ≤ n ∧ K n.toNat
  | _ => False
/-- The bound's number. -/
def BV (v : Option Value) (d n : Nat) : Prop := (v = none ∧ n = d) ∨ ∃ k i, v = some (.int k i) ∧ 0 ≤ i ∧ i.toNat = n
theorem bnd_spec {v : Option Value} {d : Nat} {K : Nat → Prop} (h : bnd v d K) : ∃ n, BV v d n ∧ K n := by
  unfold bnd at h
  split at h
  · exact ⟨d, .inl ⟨rfl, rfl⟩, h⟩
  · exact ⟨_, .inr ⟨_, _, rfl, h.1, rfl⟩, h.2⟩
  · exact h.elim
theorem BV.map {φ : Ren} {has : Nat → Prop} {ρ : Operand → Value} {o : Option Operand} {d n : Nat} (h : BV (o.map e) d n) (hr : ∀ x, o = some x → R φ has (e x) (ρ x)) : BV (o.map ρ) d n := by
  cases o with
  | none => rcases h with ⟨_, rfl⟩ | ⟨k, i, hv, _⟩
            · exact .inl ⟨rfl, rfl⟩
            · simp at hv
  | some x =>
    rcases h with ⟨hv, _⟩ | ⟨k, i, hv, h0, hn⟩
    · simp at hv
    · simp at hv
      have := hr x rfl
      rw [hv] at this
      exact .inr ⟨k, i, by simp [this.int_inv], h0, hn⟩
theorem run_sliceBound {v : Value} {d n y : Nat} {c : BoundsCode} (h : BV (some v) d n) (hn : n ≤ y) (w : World) : (Instr.sliceBound v y c).run P w = .ok n w := by
  rcases h with ⟨hv, _⟩ | ⟨k, i, hv, h0, hi⟩
  · simp at hv
  · injection hv with hv
    subst hv hi
    have h1 : i ≤ (y : Int) := by omega
    simp [Instr.sliceBound, asIntOf, h0, h1]
theorem run_sliceBounds {b : Bool} {len cap l h m : Nat} {lo hi mx : Option Value} (hl : BV lo 0 l) (hh : BV hi len h) (hm : BV mx cap m) (h1 : l ≤ h) (h2 : h ≤ m) (h3 : m ≤ cap) (h4 : mx.isSome = true → hi.isSome = true) (w : World) :
    (Instr.sliceBounds b len cap lo hi mx).run P w = .ok (l, h, m) w := by
  unfold Instr.sliceBounds
  cases mx with
  | none =>
    rcases hm with ⟨_, rfl⟩ | ⟨_, _, hv, _⟩
    · cases hi with
      | none =>
        rcases hh with ⟨_, rfl⟩ | ⟨_, _, hv, _⟩
        · cases lo with
          | none =>
            rcases hl with ⟨_, rfl⟩ | ⟨_, _, hv, _⟩
            · simp
            · simp at hv
          | some lo => simp [run_sliceBound hl h1]
        · simp at hv
      | some hi =>
        cases lo with
        | none =>
          rcases hl with ⟨_, rfl⟩ | ⟨_, _, hv, _⟩
          · simp [run_sliceBound hh h2]
          · simp at hv
        | some lo => simp [run_sliceBound hh h2, run_sliceBound hl h1]
    · simp at hv
  | some mx =>
    cases hi with
    | none => simp at h4
    | some hi =>
      cases lo with
      | none =>
        rcases hl with ⟨_, rfl⟩ | ⟨_, _, hv, _⟩
        · simp [run_sliceBound hm h3, run_sliceBound hh h2]
        · simp at hv
      | some lo => simp [run_sliceBound hm h3, run_sliceBound hh h2, run_sliceBound hl h1]
def sliceK (P : Program) (t : TypeId) (H : Heap) (x : Value) (lo hi mx : Option Value) (K : Value → Prop) : Prop :=
  match el P t, x with
  | some (none, _), .slice none 0 0 => bnd lo 0 fun l => bnd hi 0 fun h => bnd mx 0 fun m => l = 0 ∧ h = 0 ∧ m = 0 ∧ (mx.isSome = true → hi.isSome = true) ∧ K (.slice none 0 0)
  | some (none, s), .slice (some a) n (c + 1) => a.spot = none ∧ bnd lo 0 fun l => bnd hi n fun h => bnd mx c fun m =>
      l ≤ h ∧ h ≤ m ∧ m ≤ c ∧ (mx.isSome = true → hi.isSome = true) ∧ K (.slice (some ⟨a.block, if m = l then a.off else a.off + l * s, none⟩) (h - l) (m - l + 1))
  | some (none, s), .slice (some a) n 0 => match H.get a.block with
    | .cells cs es ro => es = s ∧ a.spot = none ∧ bnd lo 0 fun l => bnd hi n fun h => l ≤ h ∧ (h ≤ n ∨ (ro = false ∧ a.off + h * s ≤ cs.length)) ∧
        match mx with
        | none => (¬ (l = 0 ∨ l < n ∨ (ro = false ∧ a.off + l * s < cs.length)) → K (.slice (some ⟨a.block, a.off, none⟩) (h - l) 1)) ∧ K (.slice (some ⟨a.block, a.off + l * s, none⟩) (h - l) 0)
        | some _ => bnd mx 0 fun m => h ≤ m ∧ (m ≤ n ∨ (ro = false ∧ a.off + m * s ≤ cs.length)) ∧ hi.isSome = true ∧ K (.slice (some ⟨a.block, if m = l then a.off else a.off + l * s, none⟩) (h - l) (m - l + 1))
    | _ => False
  | some (some len, s), .pointer (some a) => bnd lo 0 fun l => bnd hi len fun h => bnd mx len fun m =>
      l ≤ h ∧ h ≤ m ∧ m ≤ len ∧ (mx.isSome = true → hi.isSome = true) ∧ K (.slice (some ⟨a.block, if m = l then a.off else a.off + l * s, none⟩) (h - l) (m - l + 1))
  | some (none, s), FZ es n cs => es = s ∧ bnd lo 0 fun l => bnd hi n fun h => bnd mx n fun m => l ≤ h ∧ h ≤ m ∧ m ≤ n ∧ (mx.isSome = true → hi.isSome = true) ∧ K (if mx.isSome = true ∧ m = h then KZ es (h - l) ((cs.drop (l * s)).take ((h - l) * s)) else FZ es (h - l) ((cs.drop (l * s)).take ((h - l) * s)))
  | some (none, s), GZ _ es n cs => es = s ∧ bnd lo 0 fun l => bnd hi n fun h => bnd mx n fun m => l ≤ h ∧ h ≤ m ∧ m ≤ n ∧ (mx.isSome = true → hi.isSome = true) ∧ K (if mx.isSome = true ∧ m = h then KZ es (h - l) ((cs.drop (l * s)).take ((h - l) * s)) else FZ es (h - l) ((cs.drop (l * s)).take ((h - l) * s)))
  | some (some len, s), PZ cs o => 0 < s ∧ o + len * s ≤ cs.length ∧ bnd lo 0 fun l => bnd hi len fun h => bnd mx len fun m =>
      l ≤ h ∧ h ≤ m ∧ m ≤ len ∧ (mx.isSome = true → hi.isSome = true) ∧ K (FZ s (h - l) ((cs.drop (o + l * s)).take ((h - l) * s)))
  | none, .string s => P.underlying t = some .string ∧ mx.isSome = false ∧ bnd lo 0 fun l => bnd hi s.size fun h => l ≤ h ∧ h ≤ s.size ∧ K (.string (s.extract l h))
  | _, _ => False
theorem slx_mk {φ : Ren} {has : Nat → Prop} {b o n c o' : Nat} (h : has b) (hc : n ≤ c) (e : o' = (φ b).base + o) : R φ has (.slice (some ⟨b, o, none⟩) n (c + 1)) (.slice (some ⟨(φ b).blk, o', none⟩) n c) := by subst e; exact .slx b o n c h hc
theorem sl_mk {φ : Ren} {has : Nat → Prop} {b o n c o' : Nat} (h : has b) (hc : n ≤ c) (he : c * (φ b).es + o = (φ b).ext) (hs : 0 < (φ b).es) (e : o' = (φ b).base + o) :
    R φ has (.slice (some ⟨b, o, none⟩) n 0) (.slice (some ⟨(φ b).blk, o', none⟩) n c) := by subst e; exact .sl b o n c h hc he hs
theorem pg_slice_fz {Kp : Value → Prop} {t : TypeId} {x : Operand} {lo hi mx : Option Operand} {es n : Nat} {cs : List Value} (hr : ∀ (φ : Ren) (ρ : Operand → Value) (w : World), Holds φ H w → R φ H.has (e x) (ρ x) → R φ H.has (FZ es n cs) (ρ x)) (hel : el P t = some (none, es))
    (h : bnd (lo.map e) 0 fun l => bnd (hi.map e) n fun h => bnd (mx.map e) n fun m => l ≤ h ∧ h ≤ m ∧ m ≤ n ∧ ((mx.map e).isSome = true → (hi.map e).isSome = true) ∧ Kp (if (mx.map e).isSome = true ∧ m = h then KZ es (h - l) ((cs.drop (l * es)).take ((h - l) * es)) else FZ es (h - l) ((cs.drop (l * es)).take ((h - l) * es)))) : PGives P ⟨dst, .slice t x lo hi mx, ty, pos, af, g⟩ e H Kp := by
  have hns : ∀ {o : Option Operand} {ρ : Operand → Value}, ((o.map e).isSome = true) = ((o.map ρ).isSome = true) := by intro o ρ; cases o <;> rfl
  obtain ⟨l, hl, h⟩ := bnd_spec h
  obtain ⟨q, hq, h⟩ := bnd_spec h
  obtain ⟨m, hm, h1, h2, h3, h4, hK⟩ := bnd_spec h
  obtain ⟨et, hu, hc⟩ := el_slice hel
  refine .mk' _ hK fun φ ρ w hh hx => ?_
  have r0 := hr φ ρ w hh (hx x (by simp [Op.operands]))
  have r1 : ∀ y, lo = some y → R φ H.has (e y) (ρ y) := fun y ey => by subst ey; exact hx y (by simp [Op.operands])
  have r2 : ∀ y, hi = some y → R φ H.has (e y) (ρ y) := fun y ey => by subst ey; exact hx y (by simp [Op.operands])
  have r3 : ∀ y, mx = some y → R φ H.has (e y) (ρ y) := fun y ey => by subst ey; exact hx y (by simp [Op.operands])
  obtain ⟨a, c, e1, h5⟩ := r0.fz_inv
  have hcn : n ≤ c := by
    rcases h5 with ⟨h5, _⟩ | ⟨_, _, _, _, _, _, h5, _⟩ <;> omega
  -- the actual capacity in place of n
  obtain ⟨m', hm', hm2, hm3, hm4⟩ : ∃ m', BV (mx.map ρ) c m' ∧ q ≤ m' ∧ m' ≤ c ∧ ((mx.map e).isSome = true → m' = m) := by
    cases mx with
    | none => exact ⟨c, .inl ⟨rfl, rfl⟩, by omega, Nat.le_refl _, fun h => by cases h⟩
    | some y =>
      refine ⟨m, ?_, h2, by omega, fun _ => rfl⟩
      have := hm.map r3
      rcases this with ⟨h6, _⟩ | h6
      · simp at h6
      · exact .inr h6
  have hb := run_sliceBounds (P := P) (b := true) (hl.map r1) (hq.map r2) hm' h1 hm2 hm3 (by rw [← hns (o := mx), ← hns (o := hi)]; exact h4) w
  have fin : ∀ A, (execOp ρ ⟨dst, .slice t x lo hi mx, ty, pos, af, g⟩).run P w = .ok (.value (.slice A (q - l) (m' - l))) w → R φ H.has (FZ es (q - l) ((cs.drop (l * es)).take ((q - l) * es))) (.slice A (q - l) (m' - l)) → ∃ v', (execOp ρ ⟨dst, .slice t x lo hi mx, ty, pos, af, g⟩).run P w = .ok (.value v') w ∧ R φ H.has (if (mx.map e).isSome = true ∧ m = q then KZ es (q - l) ((cs.drop (l * es)).take ((q - l) * es)) else FZ es (q - l) ((cs.drop (l * es)).take ((q - l) * es))) v' := fun A hu hr => by
    refine ⟨_, hu, ?_⟩
    split
    · rename_i hq
      have := hm4 hq.1
      exact .kz _ _ _ _ hr ⟨A, by rw [show m' - l = q - l by omega]⟩
    · exact hr
  have hz : ∀ (a' : Option Addr) (c' : Nat), q - l = 0 → (a' = none → c' = 0) → R φ H.has (FZ es (q - l) ((cs.drop (l * es)).take ((q - l) * es))) (.slice a' (q - l) c') := fun a' c' h0 h6 => by
    rw [h0, Nat.zero_mul, List.take_zero]; exact .fz0 es a' c' h6
  cases a with
  | none =>
    have hc0 : c = 0 := by
      rcases h5 with ⟨_, _, h5⟩ | ⟨_, _, _, h5, _⟩
      · exact h5 rfl
      · cases h5
    subst hc0
    obtain rfl : l = 0 := by omega
    obtain rfl : q = 0 := by omega
    obtain rfl : m' = 0 := by omega
    exact fin none (by simp [execOp, Instr.sliceAt, Instr.slice, e1, run_underlying hu, hb, run_size hc]) (hz none 0 rfl fun _ => rfl)
  | some a =>
    by_cases hml : m' = l
    · refine fin (some a) (by simp [execOp, Instr.sliceAt, Instr.slice, e1, run_underlying hu, hb, run_size hc, hml]) (hz _ _ (by omega) fun h => by cases h)
    · refine fin (some (a.add (l * es))) (by simp [execOp, Instr.sliceAt, Instr.slice, e1, run_underlying hu, hb, run_size hc, hml]) ?_
      by_cases h0 : q - l = 0
      · exact hz _ _ h0 fun h => by cases h
      · rcases h5 with ⟨h5, _⟩ | ⟨β, base, us, ea, hs, hlen, _, g1, g2⟩
        · omega
        · injection ea with ea
          subst ea
          rw [add_off]
          have hmul : l * es + (q - l) * es = q * es := by rw [← Nat.add_mul]; congr 1; omega
          have hqn : q * es ≤ n * es := Nat.mul_le_mul_right _ (by omega)
          refine .fz es (q - l) (m' - l) β (base + l * es) _ (fun i => us (l * es + i)) hs (by rw [List.length_take, List.length_drop]; omega) (by omega) (fun i hi => ?_) (fun i y hy => ?_)
          · rw [List.length_take, List.length_drop] at hi
            rw [Nat.add_assoc]
            exact g1 _ (by omega)
          · rw [List.getElem?_take] at hy
            split at hy
            · rw [List.getElem?_drop] at hy
              exact g2 _ _ hy
            · simp at hy
theorem pg_slice {Kp : Value → Prop} {t : TypeId} {x : Operand} {lo hi mx : Option Operand} (h : sliceK P t H (e x) (lo.map e) (hi.map e) (mx.map e) Kp) : PGives P ⟨dst, .slice t x lo hi mx, ty, pos, af, g⟩ e H Kp := by
  have mem : ∀ {φ : Ren} {ρ : Operand → Value}, (∀ y ∈ (Op.slice t x lo hi mx).operands, R φ H.has (e y) (ρ y)) → R φ H.has (e x) (ρ x) ∧ (∀ y, lo = some y → R φ H.has (e y) (ρ y)) ∧ (∀ y, hi = some y → R φ H.has (e y) (ρ y)) ∧ (∀ y, mx = some y → R φ H.has (e y) (ρ y)) := by
    intro φ ρ hx
    refine ⟨hx x (by simp [Op.operands]), fun y e => ?_, fun y e => ?_, fun y e => ?_⟩ <;> subst e <;> exact hx y (by simp [Op.operands])
  have hns : ∀ {o : Option Operand} {ρ : Operand → Value}, ((o.map e).isSome = true) = ((o.map ρ).isSome = true) := by intro o ρ; cases o <;> rfl
  unfold sliceK at h
  split at h
  · rename_i s hel ex
    obtain ⟨l, hl, h⟩ := bnd_spec h
    obtain ⟨hh0, hhi, h⟩ := bnd_spec h
    obtain ⟨m, hm, rfl, rfl, rfl, h4, hK⟩ := bnd_spec h
    obtain ⟨et, hu, hc⟩ := el_slice hel
    refine .mk' _ hK fun φ ρ w hh hx => ?_
    obtain ⟨hr, r1, r2, r3⟩ := mem hx
    rw [ex] at hr
    obtain ⟨_, _, e1⟩ := hr.slice0_inv
    have hb := run_sliceBounds (P := P) (b := true) (hl.map r1) (hhi.map r2) (hm.map r3) (Nat.le_refl _) (Nat.le_refl _) (Nat.le_refl _) (by rw [← hns (o := mx), ← hns (o := hi)]; exact h4) w
    exact ⟨.slice none 0 0, by simp [execOp, Instr.sliceAt, Instr.slice, e1, run_underlying hu, hb, run_size hc], .slice0⟩
  · rename_i s a n c hel ex
    obtain ⟨hsp, h⟩ := h
    obtain ⟨l, hl, h⟩ := bnd_spec h
    obtain ⟨hh0, hhi, h⟩ := bnd_spec h
    obtain ⟨m, hm, h1, h2, h3, h4, hK⟩ := bnd_spec h
    obtain ⟨et, hu, hc⟩ := el_slice hel
    refine .mk' _ hK fun φ ρ w hh hx => ?_
    obtain ⟨hr, r1, r2, r3⟩ := mem hx
    rw [ex] at hr
    obtain ⟨_, hb0, c', e1, hc', hcap⟩ := hr.slice_inv (.inl hsp)
    have ec : c' = c := by rcases hcap with q | ⟨q, _⟩ <;> omega
    subst ec
    have hb := run_sliceBounds (P := P) (b := true) (hl.map r1) (hhi.map r2) (hm.map r3) h1 h2 h3 (by rw [← hns (o := mx), ← hns (o := hi)]; exact h4) w
    refine ⟨_, ?_, slx_mk hb0 (by omega) (o' := if m = l then (φ a.block).base + a.off else (φ a.block).base + a.off + l * s) (by split <;> omega)⟩
    by_cases q : m = l
    · simp [execOp, Instr.sliceAt, Instr.slice, e1, run_underlying hu, hb, run_size hc, q]
    · simp [execOp, Instr.sliceAt, Instr.slice, e1, run_underlying hu, hb, run_size hc, q, add_off]
  · rename_i s a n hel ex
    split at h
    · rename_i cs es ro eb
      obtain ⟨rfl, hsp, h⟩ := h
      obtain ⟨l, hl, h⟩ := bnd_spec h
      obtain ⟨hh0, hhi, h1, h2, h⟩ := bnd_spec h
      obtain ⟨et, hu, hc⟩ := el_slice hel
      have capOf : ∀ {φ : Ren} {w : World} {c' : Nat}, Holds φ H w → c' * (φ a.block).es + a.off = (φ a.block).ext → n ≤ c' → ∀ q, (q ≤ n ∨ (ro = false ∧ a.off + q * es ≤ cs.length)) → q ≤ c' := by
        intro φ w c' hh he hn q hq
        rcases hq with hq | ⟨rfl, hq⟩
        · omega
        · obtain ⟨he1, he2⟩ := hh.es _ _ _ _ eb
          obtain ⟨_, _, _, _, h6⟩ := hh.row _ _ _ eb
          rw [← he1] at he
          exact Nat.le_of_mul_le_mul_right (show q * es ≤ c' * es by omega) he2
      cases hmx : mx with
      | none =>
        rw [hmx] at h
        obtain ⟨h3, hK⟩ := h
        intro φ ρ w hh hx
        rw [hmx] at mem
        obtain ⟨hr, r1, r2, r3⟩ := mem hx
        rw [ex] at hr
        obtain ⟨_, hb0, c', e1, hc', hcap⟩ := hr.slice_inv (.inl hsp)
        have hcap' : c' * (φ a.block).es + a.off = (φ a.block).ext ∧ 0 < (φ a.block).es := by
          rcases hcap with q | ⟨_, q⟩
          · omega
          · exact q
        obtain ⟨he1, he2⟩ := hh.es _ _ _ _ eb
        have hq := capOf hh hcap'.1 hc' hh0 h2
        have hb := fun w2 : World => run_sliceBounds (P := P) (b := true) (mx := none) (cap := c') (hl.map r1) (hhi.map r2) (.inl ⟨rfl, rfl⟩) h1 hq (Nat.le_refl _) (by simp) w2
        by_cases q : c' = l ∧ l ≠ 0
        · obtain ⟨q, ql⟩ := q
          have hC : ¬ (l = 0 ∨ l < n ∨ (ro = false ∧ a.off + l * es < cs.length)) := by
            rintro (h4 | h4 | ⟨rfl, h4⟩)
            · exact ql h4
            · omega
            · obtain ⟨_, _, _, _, h6⟩ := hh.row _ _ _ eb
              have := hcap'.1
              rw [← he1, q] at this
              omega
          have hz : hh0 - l = 0 := by omega
          refine ⟨_, .slice (some ⟨(φ a.block).blk, (φ a.block).base + a.off, none⟩) 0 0, h3 hC, by rw [q] at hb; simp [execOp, Instr.sliceAt, Instr.slice, e1, run_underlying hu, hb w, run_size hc, q, hz], ?_⟩
          rw [hz]
          exact .slx _ _ _ 0 hb0 (Nat.le_refl _)
        · refine ⟨_, _, hK, by
            by_cases q2 : c' = l
            · have hl0 : l = 0 := Classical.byContradiction fun h => q ⟨q2, h⟩
              subst hl0
              rw [q2] at hb
              simp [execOp, Instr.sliceAt, Instr.slice, e1, run_underlying hu, hb w, run_size hc, q2]
            · simp [execOp, Instr.sliceAt, Instr.slice, e1, run_underlying hu, hb w, run_size hc, q2, add_off], sl_mk hb0 (c := c' - l) (o' := (φ a.block).base + a.off + l * es) (by omega) ?_ hcap'.2 (by omega)⟩
          have := hcap'.1
          rw [← he1] at this ⊢
          have h5 : (c' - l) * es + l * es = c' * es := by rw [← Nat.add_mul]; congr 1; omega
          omega
      | some mv =>
        rw [hmx] at h
        obtain ⟨m, hm, h3, h4, h5, hK⟩ := bnd_spec h
        refine .mk' _ hK fun φ ρ w hh hx => ?_
        rw [hmx] at mem
        obtain ⟨hr, r1, r2, r3⟩ := mem hx
        rw [ex] at hr
        obtain ⟨_, hb0, c', e1, hc', hcap⟩ := hr.slice_inv (.inl hsp)
        have hcap' : c' * (φ a.block).es + a.off = (φ a.block).ext ∧ 0 < (φ a.block).es := by
          rcases hcap with q | ⟨_, q⟩
          · omega
          · exact q
        have hq := capOf hh hcap'.1 hc' m h4
        have hm' : BV ((some mv : Option Operand).map e) c' m := by
          rcases hm with ⟨q, _⟩ | q
          · simp at q
          · exact .inr q
        have hb := run_sliceBounds (P := P) (b := true) (hl.map r1) (hhi.map r2) (hm'.map r3) h1 h3 hq (by rw [← hns (o := some mv), ← hns (o := hi)]; exact fun _ => h5) w
        refine ⟨_, ?_, slx_mk hb0 (by omega) (o' := if m = l then (φ a.block).base + a.off else (φ a.block).base + a.off + l * es) (by split <;> omega)⟩
        have hb' : (Instr.sliceBounds true n c' (Option.map ρ lo) (Option.map ρ hi) (some (ρ mv))).run P w = .ok (l, hh0, m) w := hb
        by_cases q : m = l
        · simp [execOp, Instr.sliceAt, Instr.slice, e1, run_underlying hu, hb', run_size hc, q]
        · simp [execOp, Instr.sliceAt, Instr.slice, e1, run_underlying hu, hb', run_size hc, q, add_off]
    · exact h.elim
  · rename_i len s a hel ex
    obtain ⟨l, hl, h⟩ := bnd_spec h
    obtain ⟨hh0, hhi, h⟩ := bnd_spec h
    obtain ⟨m, hm, h1, h2, h3, h4, hK⟩ := bnd_spec h
    obtain ⟨et, hu, hc⟩ := el_array hel
    refine .mk' _ hK fun φ ρ w hh hx => ?_
    obtain ⟨hr, r1, r2, r3⟩ := mem hx
    rw [ex] at hr
    obtain ⟨_, hb0, e1⟩ := hr.ptr_inv
    have hb := run_sliceBounds (P := P) (b := false) (hl.map r1) (hhi.map r2) (hm.map r3) h1 h2 h3 (by rw [← hns (o := mx), ← hns (o := hi)]; exact h4) w
    refine ⟨_, ?_, slx_mk hb0 (by omega) (o' := if m = l then (φ a.block).base + a.off else (φ a.block).base + a.off + l * s) (by split <;> omega)⟩
    by_cases q : m = l
    · simp [execOp, Instr.sliceAt, Instr.sureAddr, e1, run_underlying hu, hb, run_size hc, q]
    · simp [execOp, Instr.sliceAt, Instr.sureAddr, e1, run_underlying hu, hb, run_size hc, q, add_off]
  · rename_i s es n cs hel ex
    obtain ⟨rfl, h⟩ := h
    exact pg_slice_fz (fun φ ρ w hh hr => by rwa [ex] at hr) hel h
  · rename_i s tag es n cs hel ex
    obtain ⟨rfl, h⟩ := h
    exact pg_slice_fz (fun φ ρ w hh hr => by rw [ex] at hr; exact hr.gz_inv.1) hel h
  · rename_i len s o cs hel ex
    obtain ⟨hs0, hln, h⟩ := h
    obtain ⟨l, hl, h⟩ := bnd_spec h
    obtain ⟨hh0, hhi, h⟩ := bnd_spec h
    obtain ⟨m, hm, h1, h2, h3, h4, hK⟩ := bnd_spec h
    obtain ⟨et, hu, hc⟩ := el_array hel
    refine .mk' _ hK fun φ ρ w hh hx => ?_
    obtain ⟨hr, r1, r2, r3⟩ := mem hx
    rw [ex] at hr
    obtain ⟨β, base, us, e1, g1, g2⟩ := hr.pz_inv
    have hb := run_sliceBounds (P := P) (b := false) (hl.map r1) (hhi.map r2) (hm.map r3) h1 h2 h3 (by rw [← hns (o := mx), ← hns (o := hi)]; exact h4) w
    have hmul : l * s + (hh0 - l) * s = hh0 * s := by rw [← Nat.add_mul]; congr 1; omega
    have hqn : hh0 * s ≤ len * s := Nat.mul_le_mul_right _ (by omega)
    have hR : ∀ b' : Nat, (hh0 - l = 0 ∨ b' = base + o + l * s) → R φ H.has (FZ s (hh0 - l) ((cs.drop (o + l * s)).take ((hh0 - l) * s))) (.slice (some ⟨β, b', none⟩) (hh0 - l) (m - l)) := fun b' hb' => by
      by_cases h0 : hh0 - l = 0
      · rw [h0, Nat.zero_mul, List.take_zero]; exact .fz0 s _ _ fun h => by cases h
      · obtain rfl := hb'.resolve_left h0
        refine .fz s (hh0 - l) (m - l) β _ _ (fun i => us (o + l * s + i)) hs0 (by rw [List.length_take, List.length_drop]; omega) (by omega) (fun i hi => ?_) (fun i y hy => ?_)
        · rw [List.length_take, List.length_drop] at hi
          rw [show base + o + l * s + i = base + (o + l * s + i) by omega]
          exact g1 _ (by omega)
        · rw [List.getElem?_take] at hy
          split at hy
          · rw [List.getElem?_drop] at hy
            exact g2 _ _ hy
          · simp at hy
    by_cases q : m = l
    · exact ⟨.slice (some ⟨β, base + o, none⟩) (hh0 - l) (m - l), by simp [execOp, Instr.sliceAt, Instr.sureAddr, e1, run_underlying hu, hb, run_size hc, q], hR (base + o) (.inl (by omega))⟩
    · exact ⟨.slice (some ⟨β, base + o + l * s, none⟩) (hh0 - l) (m - l), by simp [execOp, Instr.sliceAt, Instr.sureAddr, e1, run_underlying hu, hb, run_size hc, q, add_off], hR _ (.inr rfl)⟩
  · rename_i s hel ex
    obtain ⟨hu, h0, h⟩ := h
    obtain ⟨l, hl, h⟩ := bnd_spec h
    obtain ⟨hh0, hhi, h1, h2, hK⟩ := bnd_spec h
    refine .mk' _ hK fun φ ρ w hh hx => ?_
    obtain ⟨hr, r1, r2, r3⟩ := mem hx
    rw [ex] at hr
    have hmx : mx = none := by cases mx with
      | none => rfl
      | some q => simp at h0
    subst hmx
    have hb := run_sliceBounds (P := P) (b := false) (mx := none) (cap := s.size) (hl.map r1) (hhi.map r2) (.inl ⟨rfl, rfl⟩) h1 h2 (Nat.le_refl _) (by simp) w
    exact ⟨_, by simp [execOp, Instr.sliceAt, Instr.slice, hr.string_inv, run_underlying hu, hb], .string _⟩
  · exact h.elim
end
section
variable {P : Program} {e : Operand → Value} {H : Heap} {K : Value → Heap → Prop} {dst : Option Nat} {ty : TypeId} {pos : String} {af : Array Edge} {g : Option (Nat × Bool)}
/-! composite literals -/
theorem RA.set {φ : Ren} {has : Nat → Prop} {cs cs' : Array Value} (h : RA φ has cs cs') (i : Nat) {v v' : Value} (hv : R φ has v v') : RA φ has (cs.setIfInBounds i v) (cs'.setIfInBounds i v') := by
  refine ⟨by simp [h.1], fun k x x' hx hx' => ?_⟩
  rw [Array.getElem?_setIfInBounds] at hx hx'
  split at hx
  · rename_i e
    rw [if_pos e] at hx'
    split at hx
    · rename_i hlt
      rw [if_pos (by rw [← h.1]; exact hlt)] at hx'
      injection hx with hx
      injection hx' with hx'
      subst hx hx'
      exact hv
    · simp at hx
  · rename_i e
    rw [if_neg e] at hx'
    exact h.2 k x x' hx hx'
theorem RA.splice {φ : Ren} {has : Nat → Prop} (off : Nat) : ∀ (l l' : List Value) (k : Nat) (cs cs' : Array Value), RL φ has l l' → RA φ has cs cs' →
    RA φ has ((l.zipIdx k).foldl (fun cs (c, j) => cs.setIfInBounds (off + j) c) cs) ((l'.zipIdx k).foldl (fun cs (c, j) => cs.setIfInBounds (off + j) c) cs')
  | [], l', k, cs, cs', hl, hc => by
    cases l' with
    | nil => exact hc
    | cons x l' => simpa using hl.1
  | x :: l, l', k, cs, cs', hl, hc => by
    obtain ⟨y, ys, rfl, hxy, hr⟩ := hl.inv_cons
    simp only [List.zipIdx_cons, List.foldl_cons]
    exact RA.splice off l ys (k + 1) _ _ hr (hc.set _ hxy)
theorem fill_rel {φ : Ren} {has : Nat → Prop} (place : Nat → Option (Nat × Nat)) : ∀ (ps : List (Nat × Operand)) (f f' : Operand → Value) (cs cs' : Array Value), RA φ has cs cs' → (∀ p ∈ ps, R φ has (f p.2) (f' p.2)) →
    ∀ out, Instr.fill place cs (ps.map fun (i, x) => (i, f x)) = some out → ∃ out', Instr.fill place cs' (ps.map fun (i, x) => (i, f' x)) = some out' ∧ RA φ has out out'
  | [], f, f', cs, cs', hc, hp, out, ho => by
    simp [Instr.fill] at ho ⊢
    subst ho
    exact hc
  | (i, x) :: ps, f, f', cs, cs', hc, hp, out, ho => by
    have hx := (hp (i, x) (by simp)).cells
    simp only [List.map_cons, Instr.fill] at ho ⊢
    cases hpl : place i with
    | none => rw [hpl] at ho; simp at ho
    | some q =>
      obtain ⟨off, size⟩ := q
      rw [hpl] at ho
      simp only at ho ⊢
      rw [← hx.1, ← hc.1]
      split at ho
      · simp at ho
      · rename_i hn
        rw [if_neg hn]
        refine fill_rel place ps f f' _ _ ?_ (fun p hp' => hp p (by simp [hp'])) out ho
        have h3 := RA.splice (φ := φ) (has := has) off (f x).cells.toList (f' x).cells.toList 0 cs cs' hx.toList hc
        rw [← Array.foldl_toList, ← Array.foldl_toList, Array.toList_zipIdx, Array.toList_zipIdx]
        exact h3
def placesOf (P : Program) (t : TypeId) : Option (Array (Nat × Nat)) :=
  match P.underlying t with
  | some (.struct fs) => fs.mapM fun f => (cz P f.type).map fun n => (f.offset, n)
  | _ => none
def buildK (P : Program) (t : TypeId) (parts : Array (Nat × Value)) (K : Value → Prop) : Prop :=
  match zr P t with
  | some z => constOk z = true ∧ match el P t with
    | some (some _, s) => match Instr.fill (fun i => some (i * s, s)) z.cells parts.toList with
      | some cs => K (.agg cs)
      | none => False
    | some (none, _) => False
    | none => match placesOf P t with
      | some pl => match Instr.fill (pl[·]?) z.cells parts.toList with
        | some cs => K (.agg cs)
        | none => False
      | none => False
  | none => False
theorem run_places (fs : List Field) (pl : List (Nat × Nat)) (h : fs.mapM (fun f => (cz P f.type).map fun n => (f.offset, n)) = some pl) (w : World) :
    (fs.mapM fun f => (do pure (f.offset, ← sizeOf f.type) : Sem (Nat × Nat))).run P w = .ok pl w := by
  induction fs generalizing pl with
  | nil => simp at h; subst h; simp
  | cons f fs ih =>
    rw [List.mapM_cons] at h
    cases hc : cz P f.type with
    | none => rw [hc] at h; simp at h
    | some n =>
      rw [hc] at h
      simp only [Option.map_some, bind, Option.bind_eq_some_iff, pure, Option.some.injEq] at h
      obtain ⟨_, rfl, r, hr, rfl⟩ := h
      simp only [List.mapM_cons, Sem.run_bind, run_size hc, Result.andThen_ok, Sem.run_pure, ih r hr]
theorem pg_build {Kp : Value → Prop} {t : TypeId} {parts : Array (Nat × Operand)} (h : buildK P t (parts.map fun (i, x) => (i, e x)) Kp) : PGives P ⟨dst, .build t parts, ty, pos, af, g⟩ e H Kp := by
  unfold buildK at h
  have fl : ∀ {φ : Ren} {ρ : Operand → Value} {pl : Nat → Option (Nat × Nat)} {z out : Array Value}, (∀ x ∈ (Op.build t parts).operands, R φ H.has (e x) (ρ x)) → RA φ H.has z z →
      Instr.fill pl z (parts.map fun (i, x) => (i, e x)).toList = some out → ∃ out', Instr.fill pl z (parts.map fun (i, x) => (i, ρ x)).toList = some out' ∧ RA φ H.has out out' := by
    intro φ ρ pl z out hx hz hf
    rw [Array.toList_map] at hf ⊢
    exact fill_rel pl parts.toList e ρ z z hz (fun p hp => hx p.2 (by simp only [Op.operands]; exact List.mem_toArray.2 (List.mem_map.2 ⟨p, hp, rfl⟩))) out hf
  split at h
  · rename_i z hz
    obtain ⟨hc, h⟩ := h
    split at h
    · rename_i len s hel
      obtain ⟨et, hu, hcz⟩ := el_array hel
      split at h
      · rename_i cs hf
        intro φ ρ w hh hx
        obtain ⟨out', h1, h2⟩ := fl hx (R.of_const (φ := φ) (has := H.has) hc).cells hf
        refine ⟨_, .agg out', h, ?_, R.agg_mk h2⟩
        have h1' : Instr.fill (fun i => some (i * s, s)) z.cells (parts.toList.map fun (i, x) => (i, ρ x)) = some out' := by rw [← h1, Array.toList_map]
        simp [execOp, Instr.build, run_zero hz, run_underlying hu, run_size hcz, h1']
      · exact h.elim
    · exact h.elim
    · split at h
      · rename_i pl hpl
        split at h
        · rename_i cs hf
          intro φ ρ w hh hx
          obtain ⟨out', h1, h2⟩ := fl hx (R.of_const (φ := φ) (has := H.has) hc).cells hf
          refine ⟨_, .agg out', h, ?_, R.agg_mk h2⟩
          unfold placesOf at hpl
          split at hpl
          · rename_i fs hu
            rw [Array.mapM_eq_mapM_toList] at hpl
            cases hm : fs.toList.mapM (fun f => (cz P f.type).map fun n => (f.offset, n)) with
            | none => rw [hm] at hpl; simp at hpl
            | some l =>
              rw [hm] at hpl
              simp at hpl
              have hrun := run_places (P := P) fs.toList l hm w
              have hrun' : (fs.mapM fun f => (do pure (f.offset, ← sizeOf f.type) : Sem (Nat × Nat))).run P w = .ok pl w := by
                rw [Array.mapM_eq_mapM_toList, Sem.run_map, hrun]
                simp [hpl]
              have h1' : Instr.fill (pl[·]?) z.cells (parts.toList.map fun (i, x) => (i, ρ x)) = some out' := by rw [← h1, Array.toList_map]
              show (do let v ← Instr.build t (parts.map fun (i, x) => (i, ρ x)); pure (Next.value v) : Sem Next).run P w = _
              unfold Instr.build
              simp only [Sem.run_bind, run_zero hz, Result.andThen_ok, run_underlying hu, hrun', Array.toList_map, h1', Sem.run_pure]
          · simp at hpl
        · exact h.elim
      · exact h.elim
  · exact h.elim
/-- A slice literal's cells before its parts. -/
def zcells (z : Array Value) (n : Nat) : Array Value := (Array.range n).map (z[· % z.size]!)
def buildSliceK (P : Program) (t : TypeId) (n : Nat) (parts : Array (Nat × Value)) (H : Heap) (K : Value → Heap → Prop) : Prop :=
  match P.underlying t with
  | some (.slice et) => match tk P et, zr P et with
    | some k, some z => constOk z = true ∧ 0 < k.getD 1 ∧ n * k.getD 1 ≤ 2 ^ 24 ∧
        match Instr.fill (fun i => some (i * k.getD 1, k.getD 1)) (zcells z.cells (n * k.getD 1)) parts.toList with
        | some cs => K (.slice (some ⟨H.size, 0, none⟩) n (n + 1)) (H.push (.cells cs.toList (k.getD 1) false))
        | none => False
    | _, _ => False
  | _ => False
theorem R.of_zcells {φ : Ren} {has : Nat → Prop} {z : Value} (hc : constOk z = true) (n : Nat) : RA φ has (zcells z.cells n) (zcells z.cells n) := by
  refine ⟨rfl, fun i x x' hx hx' => ?_⟩
  rw [hx] at hx'
  injection hx' with hx'
  subst hx'
  have h1 := (R.of_const (φ := φ) (has := has) hc).cells
  unfold zcells at hx
  rw [Array.getElem?_map] at hx
  cases hr : (Array.range n)[i]? with
  | none => rw [hr] at hx; simp at hx
  | some j =>
    rw [hr] at hx
    simp at hx
    subst hx
    by_cases hz : 0 < z.cells.size
    · have hlt : j % z.cells.size < z.cells.size := Nat.mod_lt _ hz
      rw [getElem!_pos z.cells _ hlt]
      exact h1.2 _ _ _ (Array.getElem?_eq_getElem hlt) (Array.getElem?_eq_getElem hlt)
    · rw [getElem!_neg z.cells _ (by omega)]
      show R φ has (default : Value) default
      exact .bool _
theorem ptr_new {φ : Ren} {H : Heap} {x : Blk} {i : Img} (hx : x ≠ .absent) (hb : i.base = 0) : R (upd φ H.size i) (H.push x).has (.pointer (some ⟨H.size, 0, none⟩)) (.pointer (some ⟨i.blk, 0, none⟩)) := by
  have := R.ptr (φ := upd φ H.size i) (has := (H.push x).has) H.size 0 (by unfold Heap.has; rw [Heap.get_push, if_pos rfl]; exact hx)
  simpa [upd, hb] using this
theorem slx_new {φ : Ren} {H : Heap} {x : Blk} {i : Img} (hx : x ≠ .absent) (hb : i.base = 0) {n c : Nat} (hc : n ≤ c) : R (upd φ H.size i) (H.push x).has (.slice (some ⟨H.size, 0, none⟩) n (c + 1)) (.slice (some ⟨i.blk, 0, none⟩) n c) := by
  have := R.slx (φ := upd φ H.size i) (has := (H.push x).has) H.size 0 n c (by unfold Heap.has; rw [Heap.get_push, if_pos rfl]; exact hx) hc
  simpa [upd, hb] using this
theorem sl_new {φ : Ren} {H : Heap} {x : Blk} {i : Img} (hx : x ≠ .absent) {n c : Nat} (hc : n ≤ c) (he : c * i.es = i.ext) (hs : 0 < i.es) : R (upd φ H.size i) (H.push x).has (.slice (some ⟨H.size, 0, none⟩) n 0) (.slice (some ⟨i.blk, i.base, none⟩) n c) := by
  have := R.sl (φ := upd φ H.size i) (has := (H.push x).has) H.size 0 n c (by unfold Heap.has; rw [Heap.get_push, if_pos rfl]; exact hx) hc (by simpa [upd] using he) (by simpa [upd] using hs)
  simpa [upd] using this
theorem gives_buildSlice {t : TypeId} {n : Nat} {parts : Array (Nat × Operand)} (h : buildSliceK P t n (parts.map fun (i, x) => (i, e x)) H K) : Gives P ⟨dst, .buildSlice t n parts, ty, pos, af, g⟩ e H K := by
  unfold buildSliceK at h
  split at h
  · rename_i et hu
    split at h
    · rename_i k z ht hz
      obtain ⟨hc, hs, hle, h⟩ := h
      split at h
      · rename_i cs hf
        intro φ ρ w hh hx
        have hsz := run_size (P := P) (w := w) (size_of_tk ht)
        generalize k.getD 1 = s at *
        have hrel : ∃ out', Instr.fill (fun i => some (i * s, s)) (zcells z.cells (n * s)) (parts.toList.map fun (i, x) => (i, ρ x)) = some out' ∧ RA φ H.has cs out' := by
          rw [Array.toList_map] at hf
          exact fill_rel _ parts.toList e ρ _ _ (R.of_zcells hc _) (fun p hp => hx p.2 (by simp only [Op.operands]; exact List.mem_toArray.2 (List.mem_map.2 ⟨p, hp, rfl⟩))) cs hf
        obtain ⟨out', h1, h2⟩ := hrel
        have ha := hh.alloc cs.toList out' et s hs (by simp [h2.1]) (fun j v hj => by
          have hlt : j < out'.size := by rw [← h2.1]; simpa using (List.getElem?_eq_some_iff.1 hj).1
          exact ⟨_, Array.getElem?_eq_getElem hlt, h2.2 j v _ (by simpa using hj) (Array.getElem?_eq_getElem hlt)⟩)
        refine ⟨_, _, .slice (some ⟨w.heap.size, 0, none⟩) n n, _, _, h, .inl ?_, slx_new (i := ⟨w.heap.size, 0, out'.size, s⟩) (by simp) rfl (Nat.le_refl _), ha.1, ha.2⟩
        have hle' : ¬ n * s > 2 ^ 24 := by omega
        show (do let v ← Instr.buildSlice t n (parts.map fun (i, x) => (i, ρ x)); pure (Next.value v) : Sem Next).run P w = _
        unfold Instr.buildSlice
        simp only [Sem.run_bind, run_underlying hu, Result.andThen_ok, hsz, if_neg hle', Sem.run_pure]
        by_cases h0 : n * s = 0
        · have h1' : ∀ f : Nat → Value, Instr.fill (fun i => some (i * s, s)) ((Array.range (n * s)).map f) (parts.toList.map fun (i, x) => (i, ρ x)) = some out' := by
            intro f
            rw [← h1]; unfold zcells; rw [h0]
            have h00 : ∀ f : Nat → Value, (Array.range 0).map f = #[] := fun f => by rw [show Array.range 0 = #[] from rfl]; simp
            rw [h00, h00]
          simp only [if_pos h0, Sem.run_pure, Result.andThen_ok, Array.toList_map, h1' _]
          simp [newRow]
        · have h1' : Instr.fill (fun i => some (i * s, s)) ((Array.range (n * s)).map (z.cells[· % z.cells.size]!)) (parts.toList.map fun (i, x) => (i, ρ x)) = some out' := h1
          simp only [if_neg h0, Sem.run_bind, run_zero hz, Sem.run_pure, Result.andThen_ok, Array.toList_map, h1']
          simp [newRow]
      · exact h.elim
    · exact h.elim
  · exact h.elim
end
end Go.Proofs.YtmoknllbpjpkmaaGreat.Zed
