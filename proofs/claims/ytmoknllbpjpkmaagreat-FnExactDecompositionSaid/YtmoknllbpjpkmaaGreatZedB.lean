/- A part of the walk: what functions of the program do, over an abstract heap. -/
import Derived.Test.YtmoknllbpjpkmaaGreatZedA
namespace Go.Proofs.YtmoknllbpjpkmaaGreat.Zed
open Go
set_option linter.unusedVariables false
set_option linter.unusedSimpArgs false
section
variable {φ : Ren} {H : Heap} {w w' : World}
/-- A block that may be written is turned into x, in the world too; nothing else turns. -/
theorem Holds.change (h : Holds φ H w) {b : Nat} (hwr : (H.get b).wr = true) (x : Blk) (hx : x ≠ .absent) (htk : x.isTok = false) (hxl : x.live = true → x.wr = true) (hos : w'.os = w.os) (htape : w'.tape = w.tape) (hout : w'.output = w.output) (hsz : w'.heap.size = w.heap.size)
    (hoth : ∀ β, β ≠ (φ b).blk → w'.heap[β]? = w.heap[β]?)
    (hcell : ∀ cs es ro, x = .cells cs es ro → ro = false ∧ es = (φ b).es ∧ 0 < es ∧ ∃ arr e, w'.heap[(φ b).blk]? = some (.cells arr e (0, 0)) ∧ (φ b).base + (φ b).ext = arr.size ∧ cs.length ≤ (φ b).ext ∧
      ∀ (j : Nat) (v : Value), cs[j]? = some v → ∃ u, arr[(φ b).base + j]? = some u ∧ R φ H.has v u)
    (hmap : ∀ es, x = .map es → ∃ en ck, w'.heap[(φ b).blk]? = some (.map en ck) ∧ MapR φ H.has es en) :
    Holds φ (H.set b x) w' ∧ Ok φ H w φ (H.set b x) w' := by
  have hm := Holds.set_mono (φ := φ) (H := H) x b hx
  have hself : (H.set b x).get b = x := by rw [Heap.get_set, if_pos rfl]
  have hne : ∀ c, c ≠ b → (H.set b x).get c = H.get c := fun c hc => by rw [Heap.get_set, if_neg hc]
  have hrow : ∀ c, c ≠ b → (H.get c).live = true → w'.heap[(φ c).blk]? = w.heap[(φ c).blk]? := fun c hc hl => hoth _ (h.apart c b hc hl hwr)
  have htok : ∀ c y, y.isTok = true → (H.set b x).get c = y → H.get c = y := fun c y hy hc => by
    by_cases ec : c = b
    · subst ec; rw [hself] at hc; subst hc; rw [hy] at htk; cases htk
    · rwa [hne c ec] at hc
  have hwr' : ∀ c, ((H.set b x).get c).wr = true → w.heap.size ≤ (φ c).blk ∨ ∃ d, (H.get d).wr = true ∧ (φ d).blk = (φ c).blk := fun c hc => by
    right
    refine ⟨c, ?_, rfl⟩
    by_cases ec : c = b
    · subst ec; exact hwr
    · rwa [hne c ec] at hc
  have hlv' : ∀ c, ((H.set b x).get c).live = true → w.heap.size ≤ (φ c).blk ∨ ∃ d, (H.get d).live = true ∧ (φ d).blk = (φ c).blk := fun c hc => by
    right
    refine ⟨c, ?_, rfl⟩
    by_cases ec : c = b
    · subst ec; exact Blk.live_of_wr hwr
    · rwa [hne c ec] at hc
  refine ⟨⟨?_, ?_, ?_, ?_, ?_, ?_, ?_, h.rest.step rfl rfl rfl (Nat.le_refl _) (fun b n es => htok b _ rfl) hlv' hwr' (fun β hβ hn => hoth β (fun e => hn b hwr e.symm))⟩, Ok.mk' (Nat.le_refl _) (fun _ _ => rfl) (fun c hc => (hm.img c hc).1) hos htape hout (by rw [hsz]; exact Nat.le_refl _) (fun β hβ hn => hoth β (fun e => hn b hwr e.symm)) hwr' rfl rfl rfl (fun b n es => htok b _ rfl)⟩
  · intro c hc
    have hbs := h.lt_size (Heap.has_of_wr hwr)
    rw [Heap.size_set] at hc
    rw [hne c (by omega)]
    exact h.wf c hc
  · intro c cs2 es2 ro hc j v hj
    by_cases ec : c = b
    · subst ec
      rw [hself] at hc
      obtain ⟨_, _, _, arr, e, h1, _, _, h4⟩ := hcell _ _ _ hc
      obtain ⟨u, hu1, hu2⟩ := h4 j v hj
      exact ⟨u, by rw [cell_at h1]; exact hu1, hu2.mono hm⟩
    · rw [hne c ec] at hc
      obtain ⟨u, hu1, hu2⟩ := h.cell c cs2 es2 ro hc j v hj
      exact ⟨u, by rw [cell_congr (hrow c ec (by rw [hc]; rfl))]; exact hu1, hu2.mono hm⟩
  · intro c cs2 es2 hc
    by_cases ec : c = b
    · subst ec
      rw [hself] at hc
      obtain ⟨_, _, _, arr, e, h1, h2, h3, _⟩ := hcell _ _ _ hc
      exact ⟨arr, e, h1, h2, h3⟩
    · rw [hne c ec] at hc
      obtain ⟨arr2, e2, h4, h5, h6⟩ := h.row c cs2 es2 hc
      exact ⟨arr2, e2, by rw [hrow c ec (by rw [hc]; rfl)]; exact h4, h5, h6⟩
  · intro c cs2 es2 ro hc
    by_cases ec : c = b
    · subst ec
      rw [hself] at hc
      obtain ⟨_, h1, h2, _⟩ := hcell _ _ _ hc
      exact ⟨h1, h2⟩
    · rw [hne c ec] at hc; exact h.es c cs2 es2 ro hc
  · intro c es2 hc
    by_cases ec : c = b
    · subst ec
      rw [hself] at hc
      obtain ⟨en, ck, h4, h5⟩ := hmap _ hc
      exact ⟨en, ck, h4, h5.1, fun j k v e h1 h2 => ⟨(h5.2 j k v e h1 h2).1, (h5.2 j k v e h1 h2).2.mono hm⟩⟩
    · rw [hne c ec] at hc
      obtain ⟨en, ck, h4, h5⟩ := h.map c es2 hc
      exact ⟨en, ck, by rw [hrow c ec (by rw [hc]; rfl)]; exact h4, h5.1, fun j k v e h1 h2 => ⟨(h5.2 j k v e h1 h2).1, (h5.2 j k v e h1 h2).2.mono hm⟩⟩
  · intro c hc
    rw [hsz]
    by_cases ec : c = b
    · subst ec; exact h.lt _ (Blk.live_of_wr hwr)
    · rw [hne c ec] at hc; exact h.lt c hc
  · intro c d hcd hc hd
    have h1 : (H.get c).live = true := by
      by_cases ec : c = b
      · subst ec; exact Blk.live_of_wr hwr
      · rwa [hne c ec] at hc
    have h2 : (H.get d).wr = true := by
      by_cases ec : d = b
      · subst ec; exact hwr
      · rwa [hne d ec] at hd
    exact h.apart c d hcd h1 h2
/-- A block is given up: nothing in the world turns. -/
theorem Holds.kill (h : Holds φ H w) {b : Nat} (hwr : (H.get b).wr = true) : Holds φ (H.set b .dead) w ∧ Ok φ H w φ (H.set b .dead) w :=
  h.change hwr .dead (by simp) rfl (by simp [Blk.live]) rfl rfl rfl rfl (fun _ _ => rfl) (fun _ _ _ e => by simp at e) (fun _ e => by simp at e)
end
section
variable {P : Program} {e : Operand → Value} {H : Heap} {K : Value → Heap → Prop} {dst : Option Nat} {ty : TypeId} {pos : String} {af : Array Edge} {g : Option (Nat × Bool)}
/-! make -/
def bz (P : Program) (t : TypeId) : Option Nat := (P.info? t).map (·.bytes)
theorem run_info {t : TypeId} {n : Nat} (h : bz P t = some n) (w : World) : ∃ i, (typeInfo t).run P w = .ok i w ∧ i.bytes = n := by
  unfold bz at h
  cases e : P.info? t with
  | none => rw [e] at h; simp at h
  | some i => rw [e] at h; simp at h; exact ⟨i, by simp [typeInfo, e], h⟩
def makeSliceK (P : Program) (t : TypeId) (l c : Value) (H : Heap) (K : Value → Heap → Prop) : Prop :=
  match P.underlying t with
  | some (.slice et) => match zr P et, bz P et, l, c with
    | some z, some b, .int .i64 l, .int .i64 c => constOk z = true ∧ 0 ≤ l ∧ l ≤ c ∧ c ≤ 9223372036854775807 ∧ (b : Int) * c ≤ 2 ^ 48 ∧
        match tk P et with
        | some none => z.oneCell' = true ∧ K (.slice (some ⟨H.size, 0, none⟩) l.toNat (c.toNat + 1)) (H.push (.cells (List.replicate c.toNat z) 1 false))
        | some (some n) => 0 < n ∧ K (.slice (some ⟨H.size, 0, none⟩) l.toNat (c.toNat + 1)) (H.push (.cells (zcells z.cells (c.toNat * n)).toList n false))
        | none => False
    | _, _, _, _ => False
  | _ => False
theorem wrap64_id {n : Int} (h0 : -9223372036854775808 ≤ n) (h1 : n ≤ 9223372036854775807) : IntKind.i64.wrap n = n := by
  simp only [IntKind.wrap, IntKind.bits, IntKind.signed]
  simp
  split <;> omega
theorem zcells_one {z : Value} (h : z.oneCell' = true) (n : Nat) : (zcells z.cells n).toList = List.replicate n z := by
  have h : z.cells = #[z] := by cases z <;> simp [Value.oneCell'] at h <;> rfl
  unfold zcells
  rw [h]
  apply List.ext_getElem?
  intro i
  simp [List.getElem?_replicate]
  by_cases hi : i < n
  · simp [hi, Nat.mod_one]
  · simp [hi]
theorem gives_makeSlice {t : TypeId} {l c : Operand} (h : makeSliceK P t (e l) (e c) H K) : Gives P ⟨dst, .makeSlice t l c, ty, pos, af, g⟩ e H K := by
  unfold makeSliceK at h
  split at h
  · rename_i et hu
    split at h
    · rename_i z b l' c' hz hb el' ec'
      obtain ⟨hc, h0, h1, h2, h3, hK⟩ := h
      obtain ⟨n, htk, hn, hK⟩ : ∃ k, tk P et = some k ∧ 0 < k.getD 1 ∧ K (.slice (some ⟨H.size, 0, none⟩) l'.toNat (c'.toNat + 1)) (H.push (.cells (zcells z.cells (c'.toNat * k.getD 1)).toList (k.getD 1) false)) := by
        split at hK
        · rename_i ht
          obtain ⟨q1, q2⟩ := hK
          exact ⟨none, ht, by simp, by simpa [zcells_one q1] using q2⟩
        · rename_i n ht
          obtain ⟨q1, q2⟩ := hK
          exact ⟨some n, ht, q1, q2⟩
        · exact hK.elim
      intro φ ρ w hh hx
      have hl := hx l (by simp [Op.operands])
      have hcc := hx c (by simp [Op.operands])
      rw [el'] at hl
      rw [ec'] at hcc
      have e1 := hl.int_inv
      have e2 := hcc.int_inv
      have hsz := run_size (P := P) (w := w) (size_of_tk htk)
      obtain ⟨i, hi, hib⟩ := run_info hb w
      generalize n.getD 1 = s at *
      have w1 : IntKind.i64.wrap l' = l' := wrap64_id (by omega) (by omega)
      have w2 : IntKind.i64.wrap c' = c' := wrap64_id (by omega) (by omega)
      have hrc := R.of_zcells (φ := φ) (has := H.has) hc (c'.toNat * s)
      have ha := hh.alloc (zcells z.cells (c'.toNat * s)).toList (zcells z.cells (c'.toNat * s)) et s hn (by simp) (fun j v hj => ⟨v, by simpa using hj, hrc.2 j v v (by simpa using hj) (by simpa using hj)⟩)
      refine ⟨_, _, .slice (some ⟨w.heap.size, 0, none⟩) l'.toNat c'.toNat, _, _, hK, .inl ?_, slx_new (i := ⟨w.heap.size, 0, (zcells z.cells (c'.toNat * s)).size, s⟩) (by simp) rfl (by omega), ha.1, ha.2⟩
      show (do let v ← Instr.makeSlice t (ρ l) (ρ c); pure (Next.value v) : Sem Next).run P w = _
      unfold Instr.makeSlice
      have q1 : ¬ c' < 0 := by omega
      have q2 : ¬ (b : Int) * c' > 2 ^ 48 := by omega
      have q3 : ¬ l' < 0 := by omega
      have q4 : ¬ l' > c' := by omega
      simp only [Sem.run_bind, run_underlying hu, Result.andThen_ok, e1, e2, asInt, asIntOf, Sem.run_pure, hi, hib, w1, w2, q1, q2, q3, q4, decide_false, Bool.or_self, Bool.false_eq_true, if_false, run_askRoom, hsz]
      by_cases hz0 : c'.toNat * s = 0
      · simp only [if_pos hz0, Sem.run_bind, Sem.run_pure, Result.andThen_ok]
        have hq : (Array.range (c'.toNat * s)).map ((#[] : Array Value)[· % (#[] : Array Value).size]!) = zcells z.cells (c'.toNat * s) := by
          unfold zcells; rw [hz0, show Array.range 0 = #[] from rfl]; simp
        rw [hq]
        simp [newRow]
      · simp only [if_neg hz0, Sem.run_bind, run_zero hz, Sem.run_pure, Result.andThen_ok]
        have hq : (Array.range (c'.toNat * s)).map (z.cells[· % z.cells.size]!) = zcells z.cells (c'.toNat * s) := rfl
        rw [hq]
        simp [newRow]
    · exact h.elim
  · exact h.elim
theorem gives_makeMap {t : TypeId} (h : K (.map (some H.size)) (H.push (.map []))) : Gives P ⟨dst, .makeMap t none, ty, pos, af, g⟩ e H K := by
  intro φ ρ w hh hx
  have ha := hh.alloc_any (.map []) (.map #[] 0) ⟨w.heap.size, 0, 0, 1⟩ rfl (fun _ _ _ e => by simp at e) (fun es e => by injection e with e; subst e; exact ⟨#[], 0, rfl, rfl, by simp⟩) (by simp) rfl
  refine ⟨_, _, .map (some w.heap.size), _, _, h, .inl (by simp [execOp, Instr.makeMap]), ?_, ha.1, ha.2⟩
  have := R.map (φ := upd φ H.size ⟨w.heap.size, 0, 0, 1⟩) (has := (H.push (.map [])).has) H.size (by unfold Heap.has; rw [Heap.get_push, if_pos rfl]; simp)
  simpa [upd] using this
/-! maps with whole numbers as keys -/
def mget (es : List (Int × Value)) (k : Int) : Option Value := (es.find? fun p => p.1 == k).map (·.2)
def mput (es : List (Int × Value)) (k : Int) (v : Value) : List (Int × Value) :=
  match es.findIdx? fun p => p.1 == k with
  | some i => es.set i (k, v)
  | none => es ++ [(k, v)]
/-- A map type with keys of kind int64. -/
def mk (P : Program) (t : TypeId) : Option TypeId :=
  match P.underlying t with
  | some (.map kt et) => if ik P kt = some .i64 then some et else none
  | _ => none
theorem mk_spec {t et : TypeId} (h : mk P t = some et) : ∃ kt, P.underlying t = some (.map kt et) ∧ P.underlying kt = some (.int .i64) := by
  unfold mk at h
  split at h
  · rename_i kt et' hu
    split at h
    · rename_i hk
      injection h with h
      subst h
      exact ⟨kt, hu, ik_und hk⟩
    · simp at h
  · simp at h
theorem MapR.cons {φ : Ren} {has : Nat → Prop} {p : Int × Value} {es : List (Int × Value)} {en : Array MapEntry} (h : MapR φ has (p :: es) en) : ∃ e en', en.toList = e :: en' ∧ e.key = .int .i64 p.1 ∧ R φ has p.2 e.val ∧ MapR φ has es en'.toArray := by
  obtain ⟨k, v⟩ := p
  obtain ⟨l⟩ := en
  cases l with
  | nil => simpa using h.1
  | cons e l =>
    have h0 := h.2 0 k v e rfl rfl
    exact ⟨e, l, rfl, h0.1, h0.2, by simpa using h.1, fun i k v e' h1 h2 => h.2 (i + 1) k v e' (by simpa using h1) (by simpa using h2)⟩
theorem findNow_rel {φ : Ren} {has : Nat → Prop} (k : Int) : ∀ (es : List (Int × Value)) (en : List MapEntry) (j : Nat), MapR φ has es en.toArray →
    ∃ r, Instr.findNow (.int .i64) (.int .i64 k) en j = some r ∧ (match r with
      | none => mget es k = none ∧ es.findIdx? (fun p => p.1 == k) = none
      | some (i, u) => ∃ v q, mget es k = some v ∧ R φ has v u ∧ es.findIdx? (fun p => p.1 == k) = some q ∧ i = j + q ∧ (en[q]?).map (·.key) = some (.int .i64 k))
  | [], en, j, h => by
    cases en with
    | nil => exact ⟨none, rfl, rfl, rfl⟩
    | cons e en => simpa using h.1
  | p :: es, en, j, h => by
    obtain ⟨e, en', h1, h2, h3, h4⟩ := h.cons
    simp at h1
    subst h1
    simp only [Instr.findNow, h2, Instr.sameNow, if_true]
    by_cases hk : k = p.1
    · subst hk
      simp only [beq_self_eq_true]
      refine ⟨_, rfl, p.2, 0, ?_, h3, ?_, rfl, by simp [h2]⟩
      · simp [mget]
      · simp [List.findIdx?_cons]
    · have hb : (k == p.1) = false := by simpa using hk
      have hb2 : (p.1 == k) = false := by simpa using fun q => hk q.symm
      rw [hb]
      obtain ⟨r, hr1, hr2⟩ := findNow_rel k es en' (j + 1) h4
      refine ⟨r, hr1, ?_⟩
      cases r with
      | none => exact ⟨by simpa [mget, hb2] using hr2.1, by simpa [List.findIdx?_cons, hb2] using hr2.2⟩
      | some q =>
        obtain ⟨i, u⟩ := q
        obtain ⟨v, q, g1, g2, g3, g4, g5⟩ := hr2
        exact ⟨v, q + 1, by simpa [mget, hb2] using g1, g2, by simp [List.findIdx?_cons, hb2, g3], by omega, by simpa using g5⟩
def mapOf (x : Value) (H : Heap) (K : List (Int × Value) → Prop) : Prop :=
  match x with
  | .map none => K []
  | .map (some b) => match H.get b with
    | .map es => K es
    | _ => False
  | _ => False
def lookupK (P : Program) (t : TypeId) (m k : Value) (ok : Bool) (H : Heap) (K : Value → Prop) : Prop :=
  match mk P t, k with
  | some et, .int .i64 k => mapOf m H fun es => match mget es k with
    | some v => K (if ok = true then .tuple #[v, .bool true] else v)
    | none => match zr P et with
      | some z => constOk z = true ∧ K (if ok = true then .tuple #[z, .bool false] else z)
      | none => False
  | _, _ => False
theorem mapOf_run {φ : Ren} {w : World} {x u : Value} {K : List (Int × Value) → Prop} (hh : Holds φ H w) (hr : R φ H.has x u) (h : mapOf x H K) :
    ∃ es en, K es ∧ MapR φ H.has es en ∧ ((u = .map none ∧ en = #[]) ∨ ∃ r ck, u = .map (some r) ∧ w.heap[r]? = some (.map en ck)) := by
  unfold mapOf at h
  split at h
  · exact ⟨[], #[], h, ⟨rfl, by simp⟩, .inl ⟨by cases hr; rfl, rfl⟩⟩
  · rename_i b
    split at h
    · rename_i es eb
      obtain ⟨_, e1⟩ := hr.map_inv
      obtain ⟨en, ck, h1, h2⟩ := hh.map _ _ eb
      exact ⟨es, en, h, h2, .inr ⟨_, ck, e1, h1⟩⟩
    · exact h.elim
  · exact h.elim
theorem run_checkKey' (d : Nat) {b : Bool} {kt : TypeId} {k : Int} (h : P.underlying kt = some (.int .i64)) (w : World) : (Instr.checkKey b (d + 1) kt (.int .i64 k)).run P w = .ok () w := by
  simp only [Instr.checkKey, Sem.run_bind, run_underlying h, Result.andThen_ok]
  rfl
theorem run_checkKey {b : Bool} {kt : TypeId} {k : Int} (h : P.underlying kt = some (.int .i64)) (w : World) : (Instr.checkKey b 10000 kt (.int .i64 k)).run P w = .ok () w := run_checkKey' 9999 h w
theorem run_getMap {r : Nat} {en : Array MapEntry} {ck : Nat} {w : World} (h : w.heap[r]? = some (.map en ck)) : (getObj r).run P w = .ok (.map en ck) w := by
  simp [getObj, Sem.run, h]
theorem gives_lookup {t : TypeId} {x i : Operand} {ok : Bool} (h : lookupK P t (e x) (e i) ok H fun v => K v H) : Gives P ⟨dst, .lookup t x i ok, ty, pos, af, g⟩ e H K := by
  unfold lookupK at h
  split at h
  · rename_i et k hm ek
    obtain ⟨kt, hu, huk⟩ := mk_spec hm
    intro φ ρ w hh hx
    have h1 := hx x (by simp [Op.operands])
    have h2 := hx i (by simp [Op.operands])
    rw [ek] at h2
    have e2 := h2.int_inv
    obtain ⟨es, en, hK, hmr, hcase⟩ := mapOf_run hh h1 h
    obtain ⟨r, hr1, hr2⟩ := findNow_rel (φ := φ) (has := H.has) k es en.toList 0 hmr
    have hfind : (Instr.findKey kt (.int .i64 k) en.toList).run P w = .ok r w := by
      unfold Instr.findKey
      simp only [Sem.run_bind, run_underlying huk, Result.andThen_ok, hr1, Sem.run_pure]
    have hrun : ∀ v' b, (match r with | some (_, v) => v' = v ∧ b = true | none => b = false ∧ (zeroValue et).run P w = .ok v' w) →
        (execOp ρ ⟨dst, .lookup t x i ok, ty, pos, af, g⟩).run P w = .ok (.value (if ok = true then .tuple #[v', .bool b] else v')) w := by
      intro v' b hq
      show (do let v ← Instr.lookup t (ρ x) (ρ i) ok; pure (Next.value v) : Sem Next).run P w = _
      unfold Instr.lookup
      rcases hcase with ⟨e1, rfl⟩ | ⟨rr, ck, e1, hg⟩
      · simp only [Sem.run_bind, run_underlying hu, Result.andThen_ok, e1, e2, Sem.run_pure, run_checkKey huk, hfind]
        cases r with
        | none =>
          obtain ⟨rfl, hz⟩ := hq
          simp only [Sem.run_bind, Result.andThen_ok, hz, Sem.run_pure]
        | some q =>
          obtain ⟨q1, q2⟩ := q
          obtain ⟨rfl, rfl⟩ := hq
          simp only [Sem.run_bind, Result.andThen_ok, Sem.run_pure]
      · simp only [Sem.run_bind, run_underlying hu, Result.andThen_ok, e1, e2, Sem.run_pure, run_getMap hg, run_checkKey huk, hfind]
        cases r with
        | none =>
          obtain ⟨rfl, hz⟩ := hq
          simp only [Sem.run_bind, Result.andThen_ok, hz, Sem.run_pure]
        | some q =>
          obtain ⟨q1, q2⟩ := q
          obtain ⟨rfl, rfl⟩ := hq
          simp only [Sem.run_bind, Result.andThen_ok, Sem.run_pure]
    cases r with
    | none =>
      obtain ⟨g1, g2⟩ := hr2
      rw [g1] at hK
      simp only at hK
      split at hK
      · rename_i z hz
        obtain ⟨hc, hK⟩ := hK
        refine ⟨φ, _, _, H, w, hK, .inl (hrun z false ⟨rfl, run_zero hz w⟩), ?_, hh, Ok.refl⟩
        split
        · exact R.tuple_mk (RL.cons (R.of_const hc) (RL.cons (.bool _) RL.nil)).toArray
        · exact R.of_const hc
      · exact hK.elim
    | some q =>
      obtain ⟨q1, u⟩ := q
      obtain ⟨v, q, g1, g2, g3⟩ := hr2
      rw [g1] at hK
      simp only at hK
      refine ⟨φ, _, _, H, w, hK, .inl (hrun u true ⟨rfl, rfl⟩), ?_, hh, Ok.refl⟩
      split
      · exact R.tuple_mk (RL.cons g2 (RL.cons (.bool _) RL.nil)).toArray
      · exact g2
  · exact h.elim
end
section
variable {P : Program} {e : Operand → Value} {H : Heap} {K : Value → Heap → Prop} {dst : Option Nat} {ty : TypeId} {pos : String} {af : Array Edge} {g : Option (Nat × Bool)}
def mapPutK (P : Program) (t : TypeId) (m k v : Value) (H : Heap) (K : Heap → Prop) : Prop :=
  match mk P t, m, k with
  | some _, .map (some b), .int .i64 k => match H.get b with
    | .map es => K (H.set b (.map (mput es k v)))
    | _ => False
  | _, _, _ => False
theorem run_setObj {r : Nat} {en en' : Array MapEntry} {ck ck' : Nat} {w : World} (h : w.heap[r]? = some (.map en ck)) : (setObj r (.map en' ck')).run P w = .ok () { w with heap := w.heap.setIfInBounds r (.map en' ck') } := by
  simp [setObj, Sem.run, h]
theorem MapR.mput {φ : Ren} {has : Nat → Prop} {es : List (Int × Value)} {en : Array MapEntry} (h : MapR φ has es en) {k : Int} {v u : Value} (hv : R φ has v u) {q : Nat} {ck : Nat} (key : Value) (hkey : key = .int .i64 k) :
    (es.findIdx? (fun p => p.1 == k) = some q → MapR φ has (mput es k v) (en.modify q fun e => { e with key := key, val := u })) ∧
    (es.findIdx? (fun p => p.1 == k) = none → MapR φ has (mput es k v) (en.push { key := key, val := u, born := ck })) := by
  subst hkey
  refine ⟨fun hq => ?_, fun hq => ?_⟩
  · unfold Zed.mput
    rw [hq]
    refine ⟨by simp [h.1], fun i k' v' e' h1 h2 => ?_⟩
    simp only [List.getElem?_set] at h1
    rw [Array.getElem?_modify] at h2
    split at h1
    · rename_i ei
      subst ei
      rw [if_pos rfl] at h2
      split at h1
      · injection h1 with h1
        injection h1 with h1 h1'
        subst h1 h1'
        cases hen : en[q]? with
        | none => rw [hen] at h2; simp at h2
        | some e0 => rw [hen] at h2; simp at h2; subst h2; exact ⟨rfl, hv⟩
      · simp at h1
    · rename_i ei
      rw [if_neg ei] at h2
      exact h.2 i k' v' e' h1 h2
  · unfold Zed.mput
    rw [hq]
    refine ⟨by simp [h.1], fun i k' v' e' h1 h2 => ?_⟩
    rw [Array.getElem?_push] at h2
    by_cases hi : i < es.length
    · rw [List.getElem?_append_left hi] at h1
      rw [if_neg (by have := h.1; omega)] at h2
      exact h.2 i k' v' e' h1 h2
    · rw [List.getElem?_append_right (by omega)] at h1
      have : i = es.length := by
        have := (List.getElem?_eq_some_iff.1 h1).1
        simp at this
        omega
      subst this
      simp at h1
      obtain ⟨rfl, rfl⟩ := h1
      rw [if_pos h.1] at h2
      injection h2 with h2
      subst h2
      exact ⟨rfl, hv⟩
theorem gives_mapPut {t : TypeId} {m k x : Operand} (h : mapPutK P t (e m) (e k) (e x) H fun H' => K undef H') : Gives P ⟨dst, .mapUpdate t m k x, ty, pos, af, g⟩ e H K := by
  unfold mapPutK at h
  split at h
  · rename_i et b kk hm em ek
    split at h
    · rename_i es eb
      obtain ⟨kt, hu, huk⟩ := mk_spec hm
      intro φ ρ w hh hx
      have h1 := hx m (by simp [Op.operands])
      have h2 := hx k (by simp [Op.operands])
      have h3 := hx x (by simp [Op.operands])
      rw [em] at h1
      rw [ek] at h2
      have e2 := h2.int_inv
      obtain ⟨_, e1⟩ := h1.map_inv
      obtain ⟨en, ck, hg, hmr⟩ := hh.map _ _ eb
      obtain ⟨r, hr1, hr2⟩ := findNow_rel (φ := φ) (has := H.has) kk es en.toList 0 hmr
      have hfind : (Instr.findKey kt (.int .i64 kk) en.toList).run P w = .ok r w := by
        unfold Instr.findKey
        simp only [Sem.run_bind, run_underlying huk, Result.andThen_ok, hr1, Sem.run_pure]
      have hlt : (φ b).blk < w.heap.size := (Array.getElem?_eq_some_iff.1 hg).1
      have fin : ∀ en' ck', MapR φ H.has (mput es kk (e x)) en' → (execOp ρ ⟨dst, .mapUpdate t m k x, ty, pos, af, g⟩).run P w = .ok .skip { w with heap := w.heap.setIfInBounds (φ b).blk (.map en' ck') } →
          ∃ φ' v v' H' w', K v H' ∧ ((execOp ρ ⟨dst, .mapUpdate t m k x, ty, pos, af, g⟩).run P w = .ok (.value v') w' ∨ ((execOp ρ ⟨dst, .mapUpdate t m k x, ty, pos, af, g⟩).run P w = .ok .skip w' ∧ v = undef ∧ v' = undef)) ∧ R φ' H'.has v v' ∧ Holds φ' H' w' ∧ Ok φ H w φ' H' w' := by
        intro en' ck' hmr' hrun
        have hc := hh.change (w' := { w with heap := w.heap.setIfInBounds (φ b).blk (.map en' ck') }) (b := b) (by rw [eb]; rfl) (.map (mput es kk (e x))) (by simp) rfl (fun _ => rfl) rfl rfl rfl (by simp)
          (fun β hβ => by simp [Array.getElem?_setIfInBounds_ne (fun q => hβ q.symm)]) (fun _ _ _ q => by simp at q) (fun es' q => by injection q with q; subst q; exact ⟨en', ck', by simp [hlt], hmr'⟩)
        exact ⟨φ, undef, undef, _, _, h, .inr ⟨hrun, rfl, rfl⟩, R.undef, hc.1, hc.2⟩
      cases r with
      | none =>
        obtain ⟨_, g2⟩ := hr2
        refine fin (en.push { key := .int .i64 kk, val := ρ x, born := ck }) (ck + 1) ((hmr.mput h3 (q := 0) (.int .i64 kk) rfl).2 g2) ?_
        show (do Instr.mapUpdate t (ρ m) (ρ k) (ρ x); pure Next.skip : Sem Next).run P w = _
        unfold Instr.mapUpdate
        simp only [Sem.run_bind, run_underlying hu, Result.andThen_ok, e1, e2, run_getMap hg, run_checkKey huk, hfind, run_setObj hg, Sem.run_pure]
      | some q =>
        obtain ⟨q1, u⟩ := q
        obtain ⟨v, q, _, _, g3, g4, g5⟩ := hr2
        have g4' : q1 = q := by omega
        subst g4'
        refine fin (en.modify q1 fun e => { e with key := .int .i64 kk, val := ρ x }) ck ((hmr.mput h3 (ck := 0) (.int .i64 kk) rfl).1 g3) ?_
        have hk : (((en[q1]?).map (·.key)).getD (.int .i64 kk)) = .int .i64 kk := by
          rw [← Array.getElem?_toList] at *
          rw [g5]; rfl
        have hstay : (Instr.keyThatStays (.int .i64 kk) (.int .i64 kk)).run P w = .ok (.int .i64 kk) w := by
          unfold Instr.keyThatStays
          have : Instr.sameBits 10000 (.int .i64 kk) (.int .i64 kk) = true := by simp [Instr.sameBits]
          simp [this]
        show (do Instr.mapUpdate t (ρ m) (ρ k) (ρ x); pure Next.skip : Sem Next).run P w = _
        unfold Instr.mapUpdate
        simp only [Sem.run_bind, run_underlying hu, Result.andThen_ok, e1, e2, run_getMap hg, run_checkKey huk, hfind, hk, hstay, run_setObj hg, Sem.run_pure]
    · exact h.elim
  · exact h.elim
/-! ### Builtins -/
theorem gives_builtin {b : Builtin} {args : Array Operand} {ats : Array TypeId}
    (h : ∀ (φ : Ren) (ρ : Operand → Value) (w : World), Holds φ H w → RA φ H.has (args.map e) (args.map ρ) → (∀ cs, ∃ φ' v v' H' w', K v H' ∧ (builtin b ats ty cs (args.map ρ)).run P w = .ok (.value v') w' ∧ R φ' H'.has v v' ∧ Holds φ' H' w' ∧ Ok φ H w φ' H' w')) :
    Gives P ⟨dst, .call ⟨.builtin b, args, ats⟩, ty, pos, af, g⟩ e H K := by
  intro φ ρ w hh hx
  have ha := RA.map (φ := φ) (has := H.has) args e ρ (fun x hm => hx x (by simp [Op.operands, Call.operands, hm]))
  obtain ⟨φ', v, v', H', w', hK, hr, h1, h2, h3⟩ := h φ ρ w hh ha (args.map fun | .const _ => true | _ => false)
  refine ⟨φ', v, v', H', w', hK, .inl ?_, h1, h2, h3⟩
  simp only [execOp, resolve, Sem.run_bind, Sem.run_pure, Result.andThen_ok, invoke]
  exact hr
theorem RA.two {φ : Ren} {has : Nat → Prop} {x y : Value} {zs : Array Value} (h : RA φ has #[x, y] zs) : ∃ x' y', zs = #[x', y'] ∧ R φ has x x' ∧ R φ has y y' := by
  obtain ⟨l⟩ := zs
  obtain ⟨x', l1, e1, h1, h2⟩ := (h.toList).inv_cons
  obtain ⟨y', l2, e2, h3, h4⟩ := h2.inv_cons
  have : l2 = [] := by have := h4.1; simpa using this.symm
  subst this
  refine ⟨x', y', ?_, h1, h3⟩
  have : l = [x', y'] := by rw [← e2, ← e1]
  rw [this]
theorem RA.one {φ : Ren} {has : Nat → Prop} {x : Value} {zs : Array Value} (h : RA φ has #[x] zs) : ∃ x', zs = #[x'] ∧ R φ has x x' := by
  obtain ⟨l⟩ := zs
  obtain ⟨x', l1, e1, h1, h2⟩ := (h.toList).inv_cons
  have : l1 = [] := by have := h2.1; simpa using this.symm
  subst this
  refine ⟨x', ?_, h1⟩
  have : l = [x'] := by rw [← e1]
  rw [this]
def lenK (P : Program) (t : TypeId) (x : Value) (H : Heap) (K : Value → Prop) : Prop :=
  match P.underlying t, x with
  | some (.slice _), .slice _ n _ => K (.int .i64 n)
  | some (.slice _), FZ _ n _ => K (.int .i64 n)
  | some (.slice _), GZ _ _ n _ => K (.int .i64 n)
  | some .string, .string s => K (.int .i64 s.size)
  | some (.array n _), _ => K (.int .i64 n)
  | some (.map _ _), m => mapOf m H fun es => K (.int .i64 es.length)
  | _, _ => False
theorem pg_builtin {Kp : Value → Prop} {b : Builtin} {args : Array Operand} {ats : Array TypeId}
    (h : ∀ (φ : Ren) (ρ : Operand → Value) (w : World), Holds φ H w → RA φ H.has (args.map e) (args.map ρ) → (∀ cs, ∃ v v', Kp v ∧ (builtin b ats ty cs (args.map ρ)).run P w = .ok (.value v') w ∧ R φ H.has v v')) :
    PGives P ⟨dst, .call ⟨.builtin b, args, ats⟩, ty, pos, af, g⟩ e H Kp := by
  intro φ ρ w hh hx
  have ha := RA.map (φ := φ) (has := H.has) args e ρ (fun x hm => hx x (by simp [Op.operands, Call.operands, hm]))
  obtain ⟨v, v', hK, hr, h1⟩ := h φ ρ w hh ha (args.map fun | .const _ => true | _ => false)
  refine ⟨v, v', hK, ?_, h1⟩
  simp only [execOp, resolve, Sem.run_bind, Sem.run_pure, Result.andThen_ok, invoke]
  exact hr
theorem pg_len {Kp : Value → Prop} {x : Operand} {t : TypeId} (h : lenK P t (e x) H Kp) : PGives P ⟨dst, .call ⟨.builtin .len, #[x], #[t]⟩, ty, pos, af, g⟩ e H Kp := by
  refine pg_builtin fun φ ρ w hh ha cs => ?_
  have ha' : RA φ H.has #[e x] #[ρ x] := by simpa using ha
  obtain ⟨x', hx', hr⟩ := ha'.one
  have hr : R φ H.has (e x) (ρ x) := by
    have : x' = ρ x := by simpa using hx'.symm
    rwa [this] at hr
  unfold lenK at h
  split at h
  · rename_i et s n c hu ex
    rw [ex] at hr
    have : ∃ a' c', ρ x = .slice a' n c' := by
      cases s with
      | none => obtain ⟨rfl, _, e1⟩ := hr.slice0_inv; exact ⟨_, _, e1⟩
      | some a => obtain ⟨_, c', e1⟩ := hr.slice_shape; exact ⟨_, _, e1⟩
    obtain ⟨a', c', e1⟩ := this
    exact ⟨_, _, h, by simp [builtin, Builtin.len_, e1, run_underlying hu, goInt], .int _ _⟩
  · rename_i et es n cs hu ex
    rw [ex] at hr
    obtain ⟨a', c', e1, _⟩ := hr.fz_inv
    exact ⟨_, _, h, by simp [builtin, Builtin.len_, e1, run_underlying hu, goInt], .int _ _⟩
  · rename_i et tag es n cs hu ex
    rw [ex] at hr
    obtain ⟨a', c', e1, _⟩ := hr.gz_inv.1.fz_inv
    exact ⟨_, _, h, by simp [builtin, Builtin.len_, e1, run_underlying hu, goInt], .int _ _⟩
  · rename_i s hu ex
    rw [ex] at hr
    exact ⟨_, _, h, by simp [builtin, Builtin.len_, hr.string_inv, run_underlying hu, goInt], .int _ _⟩
  · rename_i n et hu
    exact ⟨_, _, h, by simp [builtin, Builtin.len_, run_underlying hu, goInt], .int _ _⟩
  · rename_i kt et hu
    obtain ⟨es, en, hK, hmr, hcase⟩ := mapOf_run hh hr h
    rcases hcase with ⟨e1, rfl⟩ | ⟨rr, ck, e1, hg⟩
    · have : es = [] := by have := hmr.1; simpa using this
      subst this
      exact ⟨_, _, hK, by simp [builtin, Builtin.len_, e1, run_underlying hu, goInt], .int _ _⟩
    · refine ⟨_, .int .i64 (en.size : Nat), hK, by simp [builtin, Builtin.len_, e1, run_underlying hu, run_getMap hg, goInt], ?_⟩
      rw [hmr.1]
      exact .int _ _
  · exact h.elim
def mnmxK (mx : Bool) (args : List Value) (K : Value → Prop) : Prop :=
  match args with
  | [.int k x, .int k' y] => k = k' ∧ K (.int k (if (if mx then y > x else y < x) then y else x))
  | [.int k x, .int k' y, .int k'' z] => k = k' ∧ k = k'' ∧ K (.int k (let u := (if (if mx then y > x else y < x) then y else x); if (if mx then z > u else z < u) then z else u))
  | _ => False
theorem pg_min2 {Kp : Value → Prop} {x y : Operand} {ats : Array TypeId} {k : IntKind} {a b : Int} (ex : e x = .int k a) (ey : e y = .int k b) (h : Kp (.int k (if b < a then b else a))) : PGives P ⟨dst, .call ⟨.builtin .min, #[x, y], ats⟩, ty, pos, af, g⟩ e H Kp := by
  refine pg_builtin fun φ ρ w hh ha cs => ?_
  have ha' : RA φ H.has #[e x, e y] #[ρ x, ρ y] := by simpa using ha
  obtain ⟨x', y', hq, h1, h2⟩ := ha'.two
  simp at hq
  rw [← hq.1, ex] at h1
  rw [← hq.2, ey] at h2
  exact ⟨_, _, h, by simp [builtin, Builtin.min_, Builtin.min2, h1.int_inv, h2.int_inv], .int _ _⟩
theorem pg_max2 {Kp : Value → Prop} {x y : Operand} {ats : Array TypeId} {k : IntKind} {a b : Int} (ex : e x = .int k a) (ey : e y = .int k b) (h : Kp (.int k (if b > a then b else a))) : PGives P ⟨dst, .call ⟨.builtin .max, #[x, y], ats⟩, ty, pos, af, g⟩ e H Kp := by
  refine pg_builtin fun φ ρ w hh ha cs => ?_
  have ha' : RA φ H.has #[e x, e y] #[ρ x, ρ y] := by simpa using ha
  obtain ⟨x', y', hq, h1, h2⟩ := ha'.two
  simp at hq
  rw [← hq.1, ex] at h1
  rw [← hq.2, ey] at h2
  exact ⟨_, _, h, by simp [builtin, Builtin.max_, Builtin.max2, h1.int_inv, h2.int_inv], .int _ _⟩
end
/-- A growing list has grown. -/
def Ren.grow (φ : Ren) (tag len : Nat) (i : Img) (lo hi : Nat) (us : Nat → Value) : Ren :=
  { φ with fz := fun β k => if β = i.blk ∧ lo ≤ k ∧ k < hi then some (us k) else φ.fz β k, tl := fun b => if b = tag then len + 1 else φ.tl b, ti := fun b => if b = tag then i else φ.ti b }
theorem Holds.grow {φ : Ren} {H : Heap} {w w' : World} (h : Holds φ H w) {tag n es len lo hi : Nat} {i : Img} {us : Nat → Value} {arr : Array Value} {e : TypeId} (htag : H.get tag = .tok n es) (hlen : n < len) (hies : i.es = es)
    (hrow : w'.heap[i.blk]? = some (.cells arr e (0, 0))) (hsz : i.base + i.ext = arr.size) (hcap : ∃ c, len ≤ c ∧ c * es = i.ext) (hus : ∀ k, lo ≤ k → k < hi → arr[k]? = some (us k)) (hhi : hi ≤ i.base + len * es) (hlo : lo ≤ i.base + len * es)
    (hold : ∀ k u, φ.fz i.blk k = some u → k < lo ∧ arr[k]? = some u) (hfree : ∀ c, (H.get c).live = true → (φ c).blk ≠ i.blk) (hfree2 : ∀ c n' es', c ≠ tag → H.get c = .tok n' es' → (φ.ti c).es ≠ 0 → (φ.ti c).blk ≠ i.blk)
    (hoth : ∀ β, β < w.heap.size → β ≠ i.blk → w'.heap[β]? = w.heap[β]?) (hown : w.heap.size ≤ i.blk ∨ Owns φ H i.blk) (hos : w'.os = w.os) (htape : w'.tape = w.tape) (hout : w'.output = w.output) (hws : w.heap.size ≤ w'.heap.size) :
    Holds (φ.grow tag len i lo hi us) (H.set tag (.tok len es)) w' ∧ Ok φ H w (φ.grow tag len i lo hi us) (H.set tag (.tok len es)) w' := by
  have htl := (h.rest.tok _ _ _ htag)
  have hts : tag < H.size := h.lt_size (by unfold Heap.has; rw [htag]; simp)
  have hfz : ∀ β k u, φ.fz β k = some u → (φ.grow tag len i lo hi us).fz β k = some u := fun β k u hf => by
    show (if β = i.blk ∧ lo ≤ k ∧ k < hi then some (us k) else φ.fz β k) = some u
    rw [if_neg]
    · exact hf
    · rintro ⟨rfl, h1, _⟩
      have := (hold k u hf).1
      omega
  have hfz0 : ∀ β k, β ≠ i.blk → (φ.grow tag len i lo hi us).fz β k = φ.fz β k := fun β k hb => by
    show (if β = i.blk ∧ lo ≤ k ∧ k < hi then some (us k) else φ.fz β k) = _
    rw [if_neg (fun h => hb h.1)]
  have htle : ∀ b, b ≠ tag → (φ.grow tag len i lo hi us).tl b = φ.tl b ∧ (φ.grow tag len i lo hi us).ti b = φ.ti b := fun b hb => by
    refine ⟨?_, ?_⟩
    · show (if b = tag then len + 1 else φ.tl b) = _
      rw [if_neg hb]
    · show (if b = tag then i else φ.ti b) = _
      rw [if_neg hb]
  have htlt : (φ.grow tag len i lo hi us).tl tag = len + 1 ∧ (φ.grow tag len i lo hi us).ti tag = i := by
    refine ⟨?_, ?_⟩
    · show (if tag = tag then len + 1 else φ.tl tag) = _
      rw [if_pos rfl]
    · show (if tag = tag then i else φ.ti tag) = _
      rw [if_pos rfl]
  have hm : Le φ H.has (φ.grow tag len i lo hi us) (H.set tag (.tok len es)).has := by
    refine ⟨fun b hb => ⟨?_, rfl⟩, hfz, fun b hb => ?_⟩
    · unfold Heap.has
      rw [Heap.get_set]
      split
      · simp
      · exact hb
    · by_cases eb : b = tag
      · subst eb; right; rw [htlt.1, htl.1]; omega
      · left; exact htle b eb
  have hself : (H.set tag (.tok len es)).get tag = .tok len es := by rw [Heap.get_set, if_pos rfl]
  have hne : ∀ c, c ≠ tag → (H.set tag (.tok len es)).get c = H.get c := fun c hc => by rw [Heap.get_set, if_neg hc]
  have hc : ∀ c y, (H.set tag (.tok len es)).get c = y → y.isTok = false → H.get c = y := fun c y hy hk => by
    by_cases ec : c = tag
    · subst ec; rw [hself] at hy; subst hy; cases hk
    · rwa [hne c ec] at hy
  have hlv : ∀ c, ((H.set tag (.tok len es)).get c).live = true → (H.get c).live = true := fun c hl => by
    by_cases ec : c = tag
    · subst ec; rw [hself] at hl; cases hl
    · rwa [hne c ec] at hl
  have hwv : ∀ c, ((H.set tag (.tok len es)).get c).wr = true → (H.get c).wr = true := fun c hl => by
    by_cases ec : c = tag
    · subst ec; rw [hself] at hl; cases hl
    · rwa [hne c ec] at hl
  have hsame : ∀ c, (H.get c).live = true → w'.heap[(φ c).blk]? = w.heap[(φ c).blk]? := fun c hl => hoth _ (h.lt c hl) (hfree c hl)
  refine ⟨⟨?_, ?_, ?_, ?_, ?_, ?_, ?_, ⟨?_, ?_, ?_, ?_, ?_, ?_⟩⟩, ⟨Nat.le_refl _, fun _ _ => rfl, fun b hb => (hm.img b hb).1, hos, htape, hout, hws, ?_, ?_, hm.fz, hm.tl⟩⟩
  · intro b hb
    rw [Heap.size_set] at hb
    rw [hne b (by omega)]
    exact h.wf b hb
  · intro b cs es2 ro hb j v hj
    have hb := hc b _ hb rfl
    obtain ⟨u, hu1, hu2⟩ := h.cell b cs es2 ro hb j v hj
    exact ⟨u, by show w'.cell? ⟨(φ b).blk, (φ b).base + j, none⟩ = _; rw [cell_congr (hsame b (by rw [hb]; rfl))]; exact hu1, hu2.mono hm⟩
  · intro b cs es2 hb
    have hb := hc b _ hb rfl
    obtain ⟨arr2, e2, h4, h5, h6⟩ := h.row b cs es2 hb
    exact ⟨arr2, e2, by show w'.heap[(φ b).blk]? = _; rw [hsame b (by rw [hb]; rfl)]; exact h4, h5, h6⟩
  · intro b cs es2 ro hb
    exact h.es b cs es2 ro (hc b _ hb rfl)
  · intro b es2 hb
    have hb := hc b _ hb rfl
    obtain ⟨en, ck, h4, hr⟩ := h.map b es2 hb
    exact ⟨en, ck, by show w'.heap[(φ b).blk]? = _; rw [hsame b (by rw [hb]; rfl)]; exact h4, hr.1, fun j k v e h1 h2 => ⟨(hr.2 j k v e h1 h2).1, (hr.2 j k v e h1 h2).2.mono hm⟩⟩
  · intro b hb
    exact Nat.lt_of_lt_of_le (h.lt b (hlv b hb)) hws
  · intro b c hbc hb hc'
    exact h.apart b c hbc (hlv b hb) (hwv c hc')
  · intro β k u hf
    by_cases hr : β = i.blk ∧ lo ≤ k ∧ k < hi
    · have hf2 : (if β = i.blk ∧ lo ≤ k ∧ k < hi then some (us k) else φ.fz β k) = some u := hf
      rw [if_pos hr] at hf2
      obtain ⟨hb, h1, h2⟩ := hr
      rw [hb, cell_at hrow, hus k h1 h2]; exact hf2
    · have hf2 : (if β = i.blk ∧ lo ≤ k ∧ k < hi then some (us k) else φ.fz β k) = some u := hf
      rw [if_neg hr] at hf2
      replace hf := hf2
      by_cases hb : β = i.blk
      · subst hb; rw [cell_at hrow]; exact (hold k u hf).2
      · have hc2 := h.rest.froz β k u hf
        rw [cell_congr (hoth β (cell_lt hc2) hb)]; exact hc2
  · intro b hb k
    show (φ.grow tag len i lo hi us).fz (φ b).blk k = none
    rw [hfz0 _ _ (hfree b (Blk.live_of_wr (hwv b hb)))]
    exact h.rest.unf b (hwv b hb) k
  · intro b n2 es2 hb
    by_cases eb : b = tag
    · subst eb
      rw [hself] at hb
      injection hb with e1 e2
      subst e1 e2
      rw [htlt.1, htlt.2]
      refine ⟨rfl, htl.2.1, .inr ⟨hies, ⟨arr, e, hrow, hsz⟩, hcap, fun k hk => ?_⟩⟩
      show (if i.blk = i.blk ∧ lo ≤ k ∧ k < hi then some (us k) else φ.fz i.blk k) = none
      rw [if_neg (by omega)]
      cases hq : φ.fz i.blk k with
      | none => rfl
      | some u => have := (hold k u hq).1; omega
    · rw [hne b eb] at hb
      obtain ⟨h1, h2, h3⟩ := h.rest.tok b n2 es2 hb
      rw [(htle b eb).1, (htle b eb).2]
      refine ⟨h1, h2, h3.imp id ?_⟩
      rintro ⟨h3, ⟨arr2, e2, h4, h5⟩, h6, h7⟩
      have hnb := hfree2 b n2 es2 eb hb (by omega)
      exact ⟨h3, ⟨arr2, e2, by rw [hoth _ (Array.getElem?_eq_some_iff.1 h4).1 hnb]; exact h4, h5⟩, h6, fun k hk => by rw [hfz0 _ _ hnb]; exact h7 k hk⟩
  · intro b n2 es2 c hb he hc'
    by_cases eb : b = tag
    · subst eb
      rw [htlt.2]
      exact hfree c (hlv c hc')
    · rw [hne b eb] at hb
      rw [(htle b eb).2] at he ⊢
      exact h.rest.tap b n2 es2 c hb he (hlv c hc')
  · intro b c n2 es2 n3 es3 hbc hb hc' he he'
    by_cases eb : b = tag
    · subst eb
      have ec : c ≠ b := fun q => hbc q.symm
      rw [hne c ec] at hc'
      rw [(htle c ec).2] at he' ⊢
      rw [htlt.2]
      exact fun q => hfree2 c n3 es3 ec hc' he' q.symm
    · rw [hne b eb] at hb
      rw [(htle b eb).2] at he ⊢
      by_cases ec : c = tag
      · subst ec
        rw [htlt.2]
        exact hfree2 b n2 es2 eb hb he
      · rw [hne c ec] at hc'
        rw [(htle c ec).2] at he' ⊢
        exact h.rest.tap2 b c n2 es2 n3 es3 hbc hb hc' he he'
  · intro b hb
    rw [Heap.size_set] at hb
    rw [(htle b (by omega)).1]
    exact h.rest.tl0 b hb
  · intro β hβ hn
    refine hoth β hβ fun e => ?_
    subst e
    rcases hown with h1 | h1
    · omega
    · exact hn h1
  · intro β hβ
    rcases hβ with ⟨b, hb, rfl⟩ | ⟨b, n2, es2, hb, he, rfl⟩
    · exact .inr (.inl ⟨b, hwv b hb, rfl⟩)
    · by_cases eb : b = tag
      · subst eb; rw [htlt.2]; exact hown
      · rw [hne b eb] at hb
        rw [(htle b eb).2] at he ⊢
        exact .inr (.inr ⟨b, n2, es2, hb, he, rfl⟩)
/-- A value whose growing lists are told as frozen rows. -/
def frz (v : Value) : Value := match v with
  | GZ _ es n cs => FZ es n cs
  | v => v
theorem R.frz {φ : Ren} {has : Nat → Prop} {v u : Value} (h : R φ has v u) : R φ has (frz v) u := by
  unfold Zed.frz
  split
  · exact h.gz_inv.1
  · exact h
theorem RL.frz {φ : Ren} {has : Nat → Prop} {l l' : List Value} (h : RL φ has l l') : RL φ has (l.map Zed.frz) l' :=
  ⟨by simpa using h.1, fun i x x' hx hx' => by
    rw [List.getElem?_map] at hx
    cases e : l[i]? with
    | none => rw [e] at hx; cases hx
    | some y => rw [e] at hx; injection hx with hx; rw [← hx]; exact (h.2 i y x' e hx').frz⟩
/-- A new abstract block over cells of the world that no live block has. -/
theorem Holds.adopt {φ : Ren} {H : Heap} {w w' : World} (h : Holds φ H w) (β base ext es : Nat) (cs : List Value) {arr : Array Value} {e : TypeId} (hes : 0 < es) (hos : w'.os = w.os) (htape : w'.tape = w.tape) (hout : w'.output = w.output) (hsz : w'.heap.size = w.heap.size)
    (hoth : ∀ γ, γ ≠ β → w'.heap[γ]? = w.heap[γ]?) (hβ : w'.heap[β]? = some (.cells arr e (0, 0))) (hext : base + ext = arr.size) (hl : cs.length ≤ ext) (hfree : ∀ c, (H.get c).live = true → (φ c).blk ≠ β) (hrest : Rest (upd φ H.size ⟨β, base, ext, es⟩) (H.push (.cells cs es false)) w')
    (hr : ∀ (j : Nat) (v : Value), cs[j]? = some v → ∃ u, arr[base + j]? = some u ∧ R φ H.has v u) :
    Holds (upd φ H.size ⟨β, base, ext, es⟩) (H.push (.cells cs es false)) w' ∧ Le φ H.has (upd φ H.size ⟨β, base, ext, es⟩) (H.push (.cells cs es false)).has := by
  have hm := h.push_mono (.cells cs es false) ⟨β, base, ext, es⟩
  have hu : upd φ H.size ⟨β, base, ext, es⟩ H.size = ⟨β, base, ext, es⟩ := by rw [upd_at, if_pos rfl]
  have hself : (H.push (.cells cs es false)).get H.size = .cells cs es false := by rw [Heap.get_push, if_pos rfl]
  have hcase : ∀ b, (H.push (.cells cs es false)).has b → b = H.size ∨ (H.has b ∧ (H.push (.cells cs es false)).get b = H.get b ∧ upd φ H.size ⟨β, base, ext, es⟩ b = φ b) := by
    intro b hb
    by_cases eb : b = H.size
    · exact .inl eb
    · right
      unfold Heap.has at hb ⊢
      rw [Heap.get_push, if_neg eb] at hb
      exact ⟨hb, by rw [Heap.get_push, if_neg eb], by rw [upd_at, if_neg eb]⟩
  have hrow : ∀ b, (H.get b).live = true → w'.heap[(φ b).blk]? = w.heap[(φ b).blk]? := fun b hl => hoth _ (hfree b hl)
  have hlt : β < w.heap.size := by rw [← hsz]; exact (Array.getElem?_eq_some_iff.1 hβ).1
  refine ⟨⟨?_, ?_, ?_, ?_, ?_, ?_, ?_, hrest⟩, hm⟩
  · intro b hb
    rw [Heap.size_push] at hb
    rw [Heap.get_push, if_neg (by omega)]
    exact h.wf b (by omega)
  · intro b cs2 es2 ro hb j v hj
    rcases hcase b (Heap.has_of_cells hb) with rfl | ⟨h1, h2, h3⟩
    · rw [hself] at hb
      injection hb with e1 e2 e3
      subst e1
      obtain ⟨u, hu1, hu2⟩ := hr j v hj
      exact ⟨u, by rw [hu, cell_at hβ]; exact hu1, hu2.mono hm⟩
    · rw [h2] at hb
      obtain ⟨u, hu1, hu2⟩ := h.cell b cs2 es2 ro hb j v hj
      exact ⟨u, by rw [h3, cell_congr (hrow b (by rw [hb]; rfl))]; exact hu1, hu2.mono hm⟩
  · intro b cs2 es2 hb
    rcases hcase b (Heap.has_of_cells hb) with rfl | ⟨h1, h2, h3⟩
    · rw [hself] at hb
      injection hb with e1 e2 e3
      subst e1
      exact ⟨arr, e, by rw [hu]; exact hβ, by rw [hu]; exact hext, by rw [hu]; exact hl⟩
    · rw [h2] at hb
      obtain ⟨arr2, e2, h4, h5, h6⟩ := h.row b cs2 es2 hb
      exact ⟨arr2, e2, by rw [h3, hrow b (by rw [hb]; rfl)]; exact h4, by rw [h3]; exact h5, by rw [h3]; exact h6⟩
  · intro b cs2 es2 ro hb
    rcases hcase b (Heap.has_of_cells hb) with rfl | ⟨h1, h2, h3⟩
    · rw [hself] at hb
      injection hb with e1 e2 e3
      subst e2
      rw [hu]; exact ⟨rfl, hes⟩
    · rw [h2] at hb; rw [h3]; exact h.es b cs2 es2 ro hb
  · intro b es2 hb
    rcases hcase b (by unfold Heap.has; rw [hb]; simp) with rfl | ⟨h1, h2, h3⟩
    · rw [hself] at hb; simp at hb
    · rw [h2] at hb
      obtain ⟨en, ck, h4, hr2⟩ := h.map b es2 hb
      exact ⟨en, ck, by rw [h3, hrow b (by rw [hb]; rfl)]; exact h4, hr2.1, fun j k v e h1 h2 => ⟨(hr2.2 j k v e h1 h2).1, (hr2.2 j k v e h1 h2).2.mono hm⟩⟩
  · intro b hb
    rw [hsz]
    rcases hcase b (Heap.has_of_live hb) with rfl | ⟨h1, h2, h3⟩
    · rw [hu]; exact hlt
    · rw [h2] at hb; rw [h3]; exact h.lt b hb
  · intro b c hbc hb hc
    rcases hcase b (Heap.has_of_live hb) with rfl | ⟨h1, h2, h3⟩ <;> rcases hcase c (Heap.has_of_wr hc) with rfl | ⟨h4, h5, h6⟩
    · exact absurd rfl hbc
    · rw [h5] at hc; rw [hu, h6]; exact (hfree c (Blk.live_of_wr hc)).symm
    · rw [h2] at hb; rw [hu, h3]; exact hfree b hb
    · rw [h2] at hb; rw [h5] at hc; rw [h3, h6]; exact h.apart b c hbc hb hc
section
variable {P : Program} {e : Operand → Value} {H : Heap} {K : Value → Heap → Prop} {dst : Option Nat} {ty : TypeId} {pos : String} {af : Array Edge} {g : Option (Nat × Bool)}
/-- The cells that are appended. -/
def appsK (P : Program) (xt : TypeId) (x : Value) (sz : Nat) (H : Heap) (K : Nat → List Value → Prop) : Prop :=
  match el P xt, x with
  | some (none, _), .slice none 0 0 => K 0 []
  | some (none, _), FZ es n cs => es = sz ∧ cs.length = n * sz ∧ K n cs
  | some (none, _), GZ _ es n cs => es = sz ∧ cs.length = n * sz ∧ K n cs
  | some (none, _), .slice (some a) n _ => a.spot = none ∧ ∃ cs, H.range a.block a.off (n * sz) = some cs ∧ K n cs
  | _, _ => False
def oneCells (l : List Value) : Prop := ∀ v ∈ l, v.oneCell' = true
def appendK (P : Program) (st xt : TypeId) (s x : Value) (H : Heap) (K : Value → Heap → Prop) : Prop :=
  match P.underlying st with
  | some (.slice et) => match cz P et, bz P et, zr P et with
    | some sz, some bz, some z => 0 < sz ∧ 0 < bz ∧ constOk z = true ∧ z.cells.size = sz ∧ appsK P xt x sz H fun n new => oneCells new ∧
      match s with
      | .slice none 0 0 => n * bz ≤ 140737488355328 ∧ (n = 0 → K (.slice none 0 0) H) ∧ (n ≠ 0 → K (.slice (some ⟨H.size, 0, none⟩) n 0) (H.push (.cells new sz false)))
      | .slice (some a) len 0 => match H.get a.block with
        | .cells cs es false => es = sz ∧ a.spot = none ∧ (len + n) * bz ≤ 140737488355328 ∧ (n = 0 → K (.slice (some a) len 0) H) ∧
            (n ≠ 0 → a.off + len * sz ≤ cs.length ∧ K (.slice (some ⟨H.size, 0, none⟩) (len + n) 0) ((H.set a.block .dead).push (.cells ((cs.drop a.off).take (len * sz) ++ new) sz false)))
        | _ => False
      | .slice (some a) len (c + 1) => match H.get a.block with
        | .cells cs es ro => a.spot = none ∧ (len + n) * bz ≤ 140737488355328 ∧
            (len + n ≤ c → ro = false ∧ a.off + (len + n) * sz ≤ cs.length ∧ K (.slice (some a) (len + n) (c + 1)) (H.set a.block (.cells (cs.take (a.off + len * sz) ++ new ++ cs.drop (a.off + (len + n) * sz)) es false))) ∧
            (c < len + n → a.off + len * sz ≤ cs.length ∧ K (.slice (some ⟨H.size, 0, none⟩) (len + n) 0) (H.push (.cells ((cs.drop a.off).take (len * sz) ++ new) sz false)))
        | _ => False
      | GZ tag es len cs => match H.get tag with
        | .tok k es' => es = sz ∧ es' = sz ∧ k = len ∧ cs.length = len * sz ∧ (len + n) * bz ≤ 140737488355328 ∧ K (GZ tag es (len + n) (cs ++ new.map frz)) (H.set tag (.tok (len + n) es))
        | _ => False
      | KZ es len cs => es = sz ∧ cs.length = len * sz ∧ (len + n) * bz ≤ 140737488355328 ∧ (n = 0 → K (KZ es len cs) H) ∧ (n ≠ 0 → K (.slice (some ⟨H.size, 0, none⟩) (len + n) 0) (H.push (.cells (cs ++ new) sz false)))
      | _ => False
    | _, _, _ => False
  | _ => False
theorem cell_heap {w w1 : World} (h : w1.heap = w.heap) (a : Addr) : w1.cell? a = w.cell? a := by unfold World.cell?; rw [h]
theorem apps_fz {φ : Ren} {w : World} {u : Value} {es n : Nat} {cs : List Value} (hh : Holds φ H w) (hr : R φ H.has (FZ es n cs) u) (hl : cs.length = n * es) :
    ∃ us, RL φ H.has cs us ∧ (∀ w0, (Builtin.lenOf u).run P w0 = .ok n w0) ∧ (∀ w1 : World, w1.heap = w.heap → (Builtin.firstCells es n u).run P w1 = .ok us.toArray w1) := by
  obtain ⟨a, c, rfl, h3⟩ := hr.fz_inv
  rcases h3 with ⟨rfl, rfl, _⟩ | ⟨β, base, us, rfl, hs, hlen, hc, g1, g2⟩
  · refine ⟨[], RL.nil, fun w0 => by simp [Builtin.lenOf], fun w1 _ => ?_⟩
    cases a with
    | none => simp [Builtin.firstCells]
    | some a =>
      simp only [Builtin.firstCells]
      have := run_loadCells_list (P := P) w1 a [] (fun j v hj => by simp at hj)
      simpa using this
  · refine ⟨(List.range cs.length).map us, ⟨by simp, fun i y y' hy hy' => ?_⟩, fun w0 => by simp [Builtin.lenOf], fun w1 hw1 => ?_⟩
    · have hi := (List.getElem?_eq_some_iff.1 hy).1
      simp [hi] at hy'
      rw [← hy']; exact g2 i y hy
    · simp only [Builtin.firstCells]
      have hln : ((List.range cs.length).map us).length = n * es := by simp [hlen]
      rw [← hln]
      refine run_loadCells_list w1 _ _ (fun j v hj => ?_)
      have hj2 : j < cs.length := by have := (List.getElem?_eq_some_iff.1 hj).1; simpa using this
      simp [hj2] at hj
      rw [add_off, cell_heap hw1, ← hj]
      exact hh.rest.froz _ _ _ (g1 j hj2)
theorem apps_run {φ : Ren} {w : World} {xt : TypeId} {x u : Value} {sz : Nat} {Kn : Nat → List Value → Prop} (hh : Holds φ H w) (hr : R φ H.has x u) (h : appsK P xt x sz H Kn) :
    ∃ n new us xe, Kn n new ∧ P.underlying xt = some (.slice xe) ∧ RL φ H.has new us ∧ new.length = n * sz ∧ (∀ w0, (Builtin.lenOf u).run P w0 = .ok n w0) ∧ (∀ w1 : World, w1.heap = w.heap → (Builtin.firstCells sz n u).run P w1 = .ok us.toArray w1) := by
  unfold appsK at h
  split at h
  · rename_i q hel
    obtain ⟨xe, hu, _⟩ := el_slice hel
    obtain ⟨_, _, rfl⟩ := hr.slice0_inv
    exact ⟨0, [], [], xe, h, hu, RL.nil, by simp, fun w0 => by simp [Builtin.lenOf], fun w1 _ => by simp [Builtin.firstCells]⟩
  · rename_i q es n cs hel
    obtain ⟨xe, hu, _⟩ := el_slice hel
    obtain ⟨rfl, hl, hK⟩ := h
    obtain ⟨us, h1, h2, h3⟩ := apps_fz (P := P) hh hr hl
    exact ⟨n, cs, us, xe, hK, hu, h1, hl, h2, h3⟩
  · rename_i q tag es n cs hel
    obtain ⟨xe, hu, _⟩ := el_slice hel
    obtain ⟨rfl, hl, hK⟩ := h
    obtain ⟨us, h1, h2, h3⟩ := apps_fz (P := P) hh hr.gz_inv.1 hl
    exact ⟨n, cs, us, xe, hK, hu, h1, hl, h2, h3⟩
  · rename_i q a n c hel
    obtain ⟨xe, hu, _⟩ := el_slice hel
    obtain ⟨hsp, cs, hc, hK⟩ := h
    obtain ⟨_, _, c', rfl, _⟩ := hr.slice_inv (.inl hsp)
    obtain ⟨us, hl1, hl2, hrl, hcell⟩ := hh.range_get hc
    refine ⟨n, cs, us, xe, hK, hu, hrl, hl2, fun w0 => by simp [Builtin.lenOf], fun w1 hw1 => ?_⟩
    simp only [Builtin.firstCells]
    rw [← hl1]
    exact run_loadCells_list w1 _ us (fun j v hj => by rw [add_off, cell_heap hw1]; exact hcell j v hj)
  · exact h.elim
theorem RL.one {φ : Ren} {has : Nat → Prop} {l l' : List Value} (h : RL φ has l l') (h1 : oneCells l) : oneCells l' := by
  intro u hu
  obtain ⟨i, hi, rfl⟩ := List.getElem_of_mem hu
  have hi' : i < l.length := by rw [h.1]; exact hi
  have := h.2 i _ _ (List.getElem?_eq_getElem hi') (List.getElem?_eq_getElem hi)
  rw [this.oneCell]
  exact h1 _ (List.getElem_mem hi')
theorem RL.get {φ : Ren} {has : Nat → Prop} {l l' : List Value} (h : RL φ has l l') {j : Nat} {v : Value} (hj : l[j]? = some v) : ∃ u, l'[j]? = some u ∧ R φ has v u := by
  have hi : j < l'.length := by rw [← h.1]; exact (List.getElem?_eq_some_iff.1 hj).1
  exact ⟨_, List.getElem?_eq_getElem hi, h.2 j v _ hj (List.getElem?_eq_getElem hi)⟩
theorem run_info' {t : TypeId} {n : Nat} (h : bz P t = some n) : ∃ i : TypeInfo, (∀ w, (typeInfo t).run P w = .ok i w) ∧ i.bytes = n := by
  unfold bz at h
  cases e : P.info? t with
  | none => rw [e] at h; simp at h
  | some i => rw [e] at h; simp at h; exact ⟨i, fun w => by simp [typeInfo, e], h⟩
/-- What the model's append does where there is no room. -/
theorem run_append_grow {st xt et xe : TypeId} {sz b : Nat} {z : Value} (hu : P.underlying st = some (.slice et)) (hx : P.underlying xt = some (.slice xe)) (hsz : cz P et = some sz) (hb : bz P et = some b) (hz : zr P et = some z) (h0b : 0 < b)
    {base : Option Addr} {len cap n : Nat} {x : Value} {old new : List Value} {w : World} (hcl : cap < len + n) (hroom : (len + n) * b ≤ 140737488355328)
    (hl : ∀ w0, (Builtin.lenOf x).run P w0 = .ok n w0) (hold : (Builtin.firstCells sz len (.slice base len cap)).run P w.drew = .ok old.toArray w.drew)
    (hnew : (Builtin.firstCells sz n x).run P w.drew = .ok new.toArray w.drew) :
    ∃ q, len + n ≤ q ∧ (Builtin.append_ #[st, xt] ty #[.slice base len cap, x]).run P w =
      .ok (.slice (some ⟨w.heap.size, 0, none⟩) (len + n) q) (w.drew.alloc (.cells (old.toArray ++ (new.toArray ++ Builtin.zeroCells z.cells (q - (len + n)))) et)) := by
  obtain ⟨i, hi, hib⟩ := run_info' hb
  have hfit := growslice_fits (bytes := b) hcl hroom
  refine ⟨Question.cut (.appendCap (len + n) cap et) (w.tape w.drawn (.appendCap (len + n) cap et)), by simp [Question.cut], ?_⟩
  unfold Builtin.append_
  have hng : ¬ len + n ≤ cap := by omega
  have hb0 : ¬ b = 0 := by omega
  have hns : ¬ 281474976710656 < Builtin.nextslicecap (len + n) cap * b := by omega
  simp [run_underlying hu, run_underlying hx, run_size hsz, hl, hng, hi, hib, hb0, hns, Question.forced, hold, hnew, run_zero hz, newRow]
/-- .. and where there is room. -/
theorem run_append_room {st xt et xe : TypeId} {sz : Nat} (hu : P.underlying st = some (.slice et)) (hx : P.underlying xt = some (.slice xe)) (hsz : cz P et = some sz)
    {base : Option Addr} {len cap n : Nat} {x : Value} {new : List Value} {w : World} (hcl : len + n ≤ cap)
    (hl : ∀ w0, (Builtin.lenOf x).run P w0 = .ok n w0) (hnew : (Builtin.firstCells sz n x).run P w = .ok new.toArray w) :
    (Builtin.append_ #[st, xt] ty #[.slice base len cap, x]).run P w = (match base with
      | some a => (storeCells (a.add (len * sz)) new).run P w
      | none => .ok () w).andThen fun _ w' => .ok (.slice base (len + n) cap) w' := by
  unfold Builtin.append_
  cases base with
  | none => simp [run_underlying hu, run_underlying hx, run_size hsz, hl, hcl, hnew]
  | some a => simp [run_underlying hu, run_underlying hx, run_size hsz, hl, hcl, hnew]
/-- The row after the store of 'new' from place k on. -/
theorem splice_get {arr new : List Value} {k n : Nat} (hn : new.length = n) (hk : k + n ≤ arr.length) (j : Nat) :
    (arr.take k ++ new ++ arr.drop (k + n))[j]? = if j < k then arr[j]? else if j < k + n then new[j - k]? else arr[j]? := by
  by_cases c1 : j < k
  · rw [if_pos c1, List.append_assoc, List.getElem?_append_left (by simp; omega), List.getElem?_take, if_pos c1]
  · rw [if_neg c1]
    by_cases c2 : j < k + n
    · rw [if_pos c2, List.append_assoc, List.getElem?_append_right (by simp; omega), List.getElem?_append_left (by simp; omega)]
      congr 1
      simp; omega
    · rw [if_neg c2, List.append_assoc, List.getElem?_append_right (by simp; omega), List.getElem?_append_right (by simp; omega), List.getElem?_drop]
      congr 1
      simp; omega
theorem splice_length {arr new : List Value} {k n : Nat} (hn : new.length = n) (hk : k + n ≤ arr.length) : (arr.take k ++ new ++ arr.drop (k + n)).length = arr.length := by simp; omega
theorem RL.length {φ : Ren} {has : Nat → Prop} {l l' : List Value} (h : RL φ has l l') : l'.length = l.length := h.1.symm
theorem gives_append {s x : Operand} {st xt : TypeId} (h : appendK P st xt (e s) (e x) H K) : Gives P ⟨dst, .call ⟨.builtin .append, #[s, x], #[st, xt]⟩, ty, pos, af, g⟩ e H K := by
  refine gives_builtin fun φ ρ w hh ha cs0 => ?_
  have ha' : RA φ H.has #[e s, e x] #[ρ s, ρ x] := by simpa using ha
  obtain ⟨s', x', hq, rs, rx⟩ := ha'.two
  simp at hq
  obtain ⟨rfl, rfl⟩ := hq
  clear ha ha'
  have hargs : (#[s, x].map ρ) = #[ρ s, ρ x] := by simp
  rw [hargs]
  unfold appendK at h
  split at h
  · rename_i et hu
    split at h
    · rename_i sz b z hsz hb hz
      obtain ⟨h0, h0b, hc, hzs, h⟩ := h
      obtain ⟨n, new, us, xe, ⟨h1, h⟩, hux, hru, hln, hlo, hfc⟩ := apps_run hh rx h
      have hu1 := RL.one hru h1
      have blt : ∀ v' w', (Builtin.append_ #[st, xt] ty #[ρ s, ρ x]).run P w = .ok v' w' → (builtin .append #[st, xt] ty cs0 #[ρ s, ρ x]).run P w = .ok (.value v') w' := by
        intro v' w' hr
        simp only [builtin, Sem.run_bind, hr, Result.andThen_ok, Sem.run_pure]
      have hzc : ∀ k, (Builtin.zeroCells z.cells k).size = k * sz := fun k => by rw [size_zeroCells, hzs]
      have hlu : us.length = n * sz := by rw [hru.length]; exact hln
      -- a new block behind abstract heap H1, the old cells read
      have grown : ∀ (H1 : Heap) (base : Option Addr) (len cap : Nat) (old olds : List Value), Holds φ H1 w → Ok φ H w φ H1 w → cap < len + n → (len + n) * b ≤ 140737488355328 → ρ s = .slice base len cap →
          RL φ H.has old olds → old.length = len * sz → (Builtin.firstCells sz len (.slice base len cap)).run P w.drew = .ok olds.toArray w.drew → K (.slice (some ⟨H1.size, 0, none⟩) (len + n) 0) (H1.push (.cells (old ++ new) sz false)) →
          ∃ φ' v v' H' w', K v H' ∧ (builtin .append #[st, xt] ty cs0 #[ρ s, ρ x]).run P w = .ok (.value v') w' ∧ R φ' H'.has v v' ∧ Holds φ' H' w' ∧ Ok φ H w φ' H' w' := by
        intro H1 base len cap old olds hh1 ok1 hcl hroom es hro hlo' hfo hK
        obtain ⟨q, hq, hrun⟩ := run_append_grow (P := P) (ty := ty) hu hux hsz hb hz h0b hcl hroom hlo hfo (hfc w.drew rfl)
        rw [← es] at hrun
        have hall := ((hro.append hru).mono ok1.mono)
        have hsize : (olds.toArray ++ (us.toArray ++ Builtin.zeroCells z.cells (q - (len + n)))).size = q * sz := by
          simp only [Array.size_append, hzc, List.size_toArray, hlu, hro.length, hlo']
          rw [← Nat.add_mul, ← Nat.add_mul]; congr 1; omega
        have ha := (hh1.drew (w.drawn + 1)).alloc (old ++ new) (olds.toArray ++ (us.toArray ++ Builtin.zeroCells z.cells (q - (len + n)))) et sz h0 (by
          rw [hsize, List.length_append, hlo', hln, ← Nat.add_mul]; exact Nat.mul_le_mul_right _ hq) (fun j v hj => by
          obtain ⟨u, hu2, hr2⟩ := hall.get hj
          refine ⟨u, ?_, hr2⟩
          have hlt : j < (olds ++ us).length := (List.getElem?_eq_some_iff.1 hu2).1
          rw [← Array.append_assoc, Array.getElem?_append_left (by simpa using hlt)]
          simpa using hu2)
        refine ⟨_, _, _, _, _, hK, blt _ _ hrun, ?_, ha.1, ok1.trans (Ok.drew _ ha.2)⟩
        exact sl_new (i := ⟨w.heap.size, 0, _, sz⟩) (by simp) hq (by rw [hsize]) h0
      split at h
      · obtain ⟨hroom, hK0, hK1⟩ := h
        rename_i es
        rw [es] at rs
        obtain ⟨_, _, e1⟩ := rs.slice0_inv
        by_cases hn : n = 0
        · subst hn
          have hr := run_append_room (P := P) (ty := ty) hu hux hsz (base := none) (len := 0) (cap := 0) (Nat.le_refl _) hlo (hfc w rfl)
          rw [← e1] at hr
          exact ⟨φ, _, .slice none 0 0, H, w, hK0 rfl, blt _ _ (by rw [hr, e1]; rfl), .slice0, hh, Ok.refl⟩
        · exact grown H none 0 0 [] [] hh Ok.refl (by omega) (by simpa using hroom) e1 RL.nil (by simp) (by simp [Builtin.firstCells]) (by simpa using hK1 hn)
      · rename_i a len es
        split at h
        · rename_i cs es0 eb
          obtain ⟨rfl, hsp, hroom, hK0, hK1⟩ := h
          rw [es] at rs
          obtain ⟨_, hb0, c', e1, hc', hcap⟩ := rs.slice_inv (.inl hsp)
          have hcap' : c' * (φ a.block).es + a.off = (φ a.block).ext ∧ 0 < (φ a.block).es := by
            rcases hcap with q | ⟨_, q⟩
            · omega
            · exact q
          have hwr : (H.get a.block).wr = true := by rw [eb]; rfl
          by_cases hn : n = 0
          · subst hn
            have hus0 : us = [] := by simpa using hlu
            subst hus0
            have hr := run_append_room (P := P) (ty := ty) hu hux hsz (base := some ⟨(φ a.block).blk, (φ a.block).base + a.off, none⟩) (len := len) (cap := c') (by omega) hlo (hfc w rfl)
            rw [← e1] at hr
            refine ⟨φ, _, _, H, w, hK0 rfl, blt _ _ (by rw [hr]; rfl), ?_, hh, Ok.refl⟩
            have r0 := rs
            rw [e1] at r0
            exact r0
          · obtain ⟨hle, hK⟩ := hK1 hn
            have hrange : H.range a.block a.off (len * es0) = some ((cs.drop a.off).take (len * es0)) := by unfold Heap.range; rw [eb]; simp only [if_pos hle]
            obtain ⟨olds, ho1, ho2, ho3, ho4⟩ := hh.range_get hrange
            by_cases hrm : len + n ≤ c'
            · -- in place
              obtain ⟨arr, et', hg, hg2, hg3⟩ := hh.row _ _ _ eb
              obtain ⟨he1, he2⟩ := hh.es _ _ _ _ eb
              have hr := run_append_room (P := P) (ty := ty) hu hux hsz (base := some ⟨(φ a.block).blk, (φ a.block).base + a.off, none⟩) (len := len) (cap := c') hrm hlo (hfc w rfl)
              rw [← e1] at hr
              have hmul : (len + n) * es0 ≤ c' * es0 := Nat.mul_le_mul_right _ hrm
              rw [Nat.add_mul] at hmul
              have hext : c' * es0 + a.off = (φ a.block).ext := by rw [he1]; exact hcap'.1
              have hst := run_storeCells_at (P := P) (φ a.block).blk ((φ a.block).base + a.off + len * es0) et' us 0 arr w hg (by rw [hlu]; omega) hu1
              simp only [add_off, hst, Nat.add_zero] at hr
              rw [hlu] at hr
              simp only [Result.andThen_ok] at hr
              generalize harr : (arr.toList.take ((φ a.block).base + a.off + len * es0) ++ us ++ arr.toList.drop ((φ a.block).base + a.off + len * es0 + n * es0)).toArray = arr' at hr
              have hget : ∀ j : Nat, arr'[j]? = if j < (φ a.block).base + a.off + len * es0 then arr[j]? else if j < (φ a.block).base + a.off + len * es0 + n * es0 then us[j - ((φ a.block).base + a.off + len * es0)]? else arr[j]? := by
                intro j
                rw [← harr, List.getElem?_toArray, splice_get hlu (by simp; omega)]
                simp
              have hsize : arr'.size = arr.size := by
                rw [← harr, List.size_toArray, splice_length hlu (by simp; omega)]; simp
              have hsame := setRow_heap w (φ a.block).blk arr arr' et' (0, 0) hg
              have hk := hh.kill hwr
              have hm := (Holds.set_mono (φ := φ) (H := H) .dead a.block (by simp))
              have hd : (H.set a.block .dead).size = H.size := rfl
              have had := hk.1.adopt (w' := w.setRow (φ a.block).blk arr') (φ a.block).blk ((φ a.block).base + a.off) ((φ a.block).ext - a.off) es0 ((cs.drop a.off).take (len * es0) ++ new) (arr := arr') (e := et') h0 rfl rfl rfl (by simp [World.setRow])
                (fun β hβ => setRow_other w _ _ _ hβ) hsame (by rw [hsize]; omega) (by rw [List.length_append, ho2, hln]; omega)
                (fun c hc e => by
                  by_cases ec : c = a.block
                  · subst ec; rw [Heap.get_set, if_pos rfl] at hc; simp [Blk.live] at hc
                  · rw [Heap.get_set, if_neg ec] at hc; exact hh.apart c a.block ec hc hwr e)
                (by
                  have hback : ∀ c y, ((H.set a.block .dead).push (.cells ((cs.drop a.off).take (len * es0) ++ new) es0 false)).get c = y → y ≠ .dead → c ≠ H.size → H.get c = y := fun c y hc hy he => by
                    rw [Heap.get_push, if_neg (by rw [hd]; exact he), Heap.get_set] at hc
                    split at hc
                    · exact absurd hc.symm hy
                    · exact hc
                  have hlv : ∀ c, (((H.set a.block .dead).push (.cells ((cs.drop a.off).take (len * es0) ++ new) es0 false)).get c).wr = true → w.heap.size ≤ (upd φ (H.set a.block .dead).size ⟨(φ a.block).blk, (φ a.block).base + a.off, (φ a.block).ext - a.off, es0⟩ c).blk ∨ ∃ d, (H.get d).wr = true ∧ (φ d).blk = (upd φ (H.set a.block .dead).size ⟨(φ a.block).blk, (φ a.block).base + a.off, (φ a.block).ext - a.off, es0⟩ c).blk := fun c hc => by
                    right
                    by_cases ec : c = H.size
                    · subst ec; exact ⟨a.block, hwr, by rw [upd_at, if_pos hd.symm]⟩
                    · refine ⟨c, ?_, by rw [upd_at, if_neg (by rw [hd]; exact ec)]⟩
                      rw [hback c _ rfl (fun h => by rw [h] at hc; cases hc) ec]; exact hc
                  have hlv2 : ∀ c, (((H.set a.block .dead).push (.cells ((cs.drop a.off).take (len * es0) ++ new) es0 false)).get c).live = true → w.heap.size ≤ (upd φ (H.set a.block .dead).size ⟨(φ a.block).blk, (φ a.block).base + a.off, (φ a.block).ext - a.off, es0⟩ c).blk ∨ ∃ d, (H.get d).live = true ∧ (φ d).blk = (upd φ (H.set a.block .dead).size ⟨(φ a.block).blk, (φ a.block).base + a.off, (φ a.block).ext - a.off, es0⟩ c).blk := fun c hc => by
                    right
                    by_cases ec : c = H.size
                    · subst ec; exact ⟨a.block, Blk.live_of_wr hwr, by rw [upd_at, if_pos hd.symm]⟩
                    · refine ⟨c, ?_, by rw [upd_at, if_neg (by rw [hd]; exact ec)]⟩
                      rw [hback c _ rfl (fun h => by rw [h] at hc; cases hc) ec]; exact hc
                  refine hh.rest.step rfl rfl rfl (by rw [Heap.size_push, hd]; omega) (fun b n es hb => ?_) hlv2 hlv (fun β hβ hn => setRow_other w _ _ _ (fun q => hn a.block hwr q.symm))
                  refine hback b _ hb (by simp) (fun e => ?_)
                  rw [e, Heap.get_push, if_pos hd.symm] at hb; cases hb)
                (fun j v hj => by
                  have hall := ((ho3.append hru).mono hm)
                  obtain ⟨u, hu2, hr2⟩ := hall.get hj
                  refine ⟨u, ?_, hr2⟩
                  rw [hget]
                  by_cases cj : j < len * es0
                  · rw [if_pos (by omega)]
                    rw [List.getElem?_append_left (by omega)] at hu2
                    have := ho4 j u hu2
                    rw [cell_at hg] at this
                    exact this
                  · have hj2 : j < (olds ++ us).length := (List.getElem?_eq_some_iff.1 hu2).1
                    rw [List.length_append, ho1, hlu] at hj2
                    rw [if_neg (by omega), if_pos (by omega)]
                    rw [List.getElem?_append_right (by omega), ho1] at hu2
                    rw [show (φ a.block).base + a.off + j - ((φ a.block).base + a.off + len * es0) = j - len * es0 by omega]
                    exact hu2)
              refine ⟨_, _, _, _, _, hK, blt _ _ hr, ?_, had.1, ?_⟩
              · exact sl_new (i := ⟨(φ a.block).blk, (φ a.block).base + a.off, (φ a.block).ext - a.off, es0⟩) (by simp) hrm (by simp only; omega) h0
              · refine Ok.mk' (by rw [Heap.size_push, hd]; omega) (fun c hc => ?_) (fun c hc => (had.2.img c (hm.img c hc).1).1) rfl rfl rfl (by simp [World.setRow]) (fun β hβ hn => setRow_other w _ _ _ (fun q => hn a.block hwr q.symm)) (fun c hc => ?_) rfl rfl rfl (fun b n es hb => ?_)
                · have := hh.lt_size hc
                  rw [upd_at, if_neg (by rw [hd]; omega)]
                · right
                  by_cases ec : c = H.size
                  · subst ec
                    exact ⟨a.block, hwr, by rw [upd_at, if_pos hd.symm]⟩
                  · rw [Heap.get_push, if_neg (by rw [hd]; exact ec), Heap.get_set] at hc
                    split at hc
                    · simp [Blk.wr] at hc
                    · exact ⟨c, hc, by rw [upd_at, if_neg (by rw [hd]; exact ec)]⟩
                · by_cases ec : b = H.size
                  · rw [ec, Heap.get_push, if_pos hd.symm] at hb; cases hb
                  · rw [Heap.get_push, if_neg (by rw [hd]; exact ec), Heap.get_set] at hb
                    split at hb
                    · cases hb
                    · exact hb
            · have hk := hh.kill hwr
              exact grown (H.set a.block .dead) _ len c' _ olds hk.1 hk.2 (by omega) hroom e1 ho3 ho2 (by
                simp only [Builtin.firstCells]
                rw [← ho1]
                exact run_loadCells_list w.drew _ olds (fun j v hj => by rw [add_off]; exact ho4 j v hj)) (by rw [Heap.size_set]; exact hK)
        · exact h.elim
      · rename_i a len c es
        split at h
        · rename_i cs es0 ro eb
          obtain ⟨hsp, hroom, hK1, hK2⟩ := h
          rw [es] at rs
          obtain ⟨hspot, hb0, c', e1, hc', hcap⟩ := rs.slice_inv (.inl hsp)
          have ec : c' = c := by rcases hcap with q | ⟨q, _⟩ <;> omega
          subst ec
          by_cases hrm : len + n ≤ c'
          · obtain ⟨rfl, hle, hK⟩ := hK1 hrm
            obtain ⟨arr, et', hg, hg2, hg3⟩ := hh.row _ _ _ eb
            have hr := run_append_room (P := P) (ty := ty) hu hux hsz (base := some ⟨(φ a.block).blk, (φ a.block).base + a.off, none⟩) (len := len) (cap := c') hrm hlo (hfc w rfl)
            rw [← e1] at hr
            rw [Nat.add_mul] at hle hK
            have hst := run_storeCells_at (P := P) (φ a.block).blk ((φ a.block).base + a.off + len * sz) et' us 0 arr w hg (by rw [hlu]; omega) hu1
            simp only [add_off, hst, Nat.add_zero] at hr
            rw [hlu] at hr
            simp only [Result.andThen_ok] at hr
            generalize harr : (arr.toList.take ((φ a.block).base + a.off + len * sz) ++ us ++ arr.toList.drop ((φ a.block).base + a.off + len * sz + n * sz)).toArray = arr' at hr
            have hget : ∀ j : Nat, arr'[j]? = if j < (φ a.block).base + a.off + len * sz then arr[j]? else if j < (φ a.block).base + a.off + len * sz + n * sz then us[j - ((φ a.block).base + a.off + len * sz)]? else arr[j]? := by
              intro j
              rw [← harr, List.getElem?_toArray, splice_get hlu (by simp; omega)]
              simp
            have hsize : arr'.size = arr.size := by
              rw [← harr, List.size_toArray, splice_length hlu (by simp; omega)]; simp
            have hwr := hh.write eb hg (cs.take (a.off + len * sz) ++ new ++ cs.drop (a.off + len * sz + n * sz)) arr' hsize (by rw [splice_length hln (by omega)]; exact hg3) (fun j v hj => by
              rw [splice_get hln (by omega)] at hj
              rw [hget]
              by_cases c1 : j < a.off + len * sz
              · rw [if_pos c1] at hj
                rw [if_pos (by omega)]
                obtain ⟨u, hu2, hr2⟩ := hh.cell _ _ _ _ eb j v hj
                rw [cell_at hg] at hu2
                exact ⟨u, hu2, hr2⟩
              · rw [if_neg c1] at hj
                rw [if_neg (by omega)]
                by_cases c2 : j < a.off + len * sz + n * sz
                · rw [if_pos c2] at hj
                  rw [if_pos (by omega)]
                  obtain ⟨u, hu2, hr2⟩ := hru.get hj
                  exact ⟨u, by rw [show (φ a.block).base + j - ((φ a.block).base + a.off + len * sz) = j - (a.off + len * sz) by omega]; exact hu2, hr2⟩
                · rw [if_neg c2] at hj
                  rw [if_neg (by omega)]
                  obtain ⟨u, hu2, hr2⟩ := hh.cell _ _ _ _ eb j v hj
                  rw [cell_at hg] at hu2
                  exact ⟨u, hu2, hr2⟩)
            have hK' : K (.slice (some a) (len + n) (c' + 1)) (H.set a.block (.cells (cs.take (a.off + len * sz) ++ new ++ cs.drop (a.off + len * sz + n * sz)) es0 false)) := by
              rw [Nat.add_assoc]; exact hK
            refine ⟨_, _, _, _, _, hK', blt _ _ hr, ?_, hwr.1, hwr.2⟩
            have ha2 : (⟨a.block, a.off, none⟩ : Addr) = a := by
              cases a
              simp at hspot
              simp [hspot]
            rw [← ha2]
            exact slx_mk (by unfold Heap.has; rw [Heap.get_set, if_pos rfl]; simp) hrm rfl
          · obtain ⟨hle, hK⟩ := hK2 (by omega)
            have hrange : H.range a.block a.off (len * sz) = some ((cs.drop a.off).take (len * sz)) := by unfold Heap.range; rw [eb]; simp only [if_pos hle]
            obtain ⟨olds, ho1, ho2, ho3, ho4⟩ := hh.range_get hrange
            exact grown H _ len c' _ olds hh Ok.refl (by omega) hroom e1 ho3 ho2 (by
              simp only [Builtin.firstCells]
              rw [← ho1]
              exact run_loadCells_list w.drew _ olds (fun j v hj => by rw [add_off]; exact ho4 j v hj)) hK
        · exact h.elim
      · rename_i tag es len cs es1
        split at h
        · rename_i k es' et'
          obtain ⟨e01, e02, e03, hcl0, hroom, hK⟩ := h
          subst e03
          subst e01
          have e02 := e02.symm
          subst e02
          rw [es1] at rs
          obtain ⟨rf, htn, hcur⟩ := rs.gz_inv
          obtain ⟨ht1, ht2, ht3⟩ := hh.rest.tok _ _ _ et'
          have hcur := hcur ht1.symm
          have hru' := hru.frz
          by_cases hn : n = 0
          · subst hn
            have hnew0 : new = [] := by simpa using hln
            subst hnew0
            have hus0 : us = [] := by simpa using hlu
            subst hus0
            have hH : H.set tag (.tok (k + 0) es) = H := by
              unfold Heap.set
              cases H with
              | mk sz get =>
                congr 1
                funext c
                split
                · rename_i e; rw [e]; exact et'.symm
                · rfl
            rw [hH] at hK
            have hK' : K (GZ tag es k cs) H := by simpa using hK
            obtain ⟨a0, c0, eu, hu3⟩ := rf.fz_inv
            have hr := run_append_room (P := P) (ty := ty) hu hux hsz (base := a0) (len := k) (cap := c0) (n := 0) (by
              rcases hu3 with ⟨h, _⟩ | ⟨_, _, _, _, _, _, h, _⟩ <;> omega) hlo (hfc w rfl)
            rw [← eu] at hr
            refine ⟨φ, _, .slice a0 (k + 0) c0, H, w, hK', blt _ _ (by rw [hr]; cases a0 <;> rfl), ?_, hh, Ok.refl⟩
            show R φ H.has (GZ tag es k cs) (.slice a0 k c0)
            rw [← eu]; exact rs
          · -- what is at hand
            obtain ⟨olds, holds, holl, hlo2, hfc2⟩ : ∃ olds, RL φ H.has cs olds ∧ olds.length = k * es ∧ (∀ w0, (Builtin.lenOf (ρ s)).run P w0 = .ok k w0) ∧ (∀ w1 : World, w1.heap = w.heap → (Builtin.firstCells es k (ρ s)).run P w1 = .ok olds.toArray w1) := by
              obtain ⟨o, h1, h2, h3⟩ := apps_fz (P := P) hh rf hcl0
              exact ⟨o, h1, by rw [← h1.1]; exact hcl0, h2, h3⟩
            have fin : ∀ (i : Img) (lo : Nat) (us' : Nat → Value) (w' : World) (c2 : Nat), Holds (φ.grow tag (k + n) i lo (i.base + (k + n) * es) us') (H.set tag (.tok (k + n) es)) w' → Ok φ H w (φ.grow tag (k + n) i lo (i.base + (k + n) * es) us') (H.set tag (.tok (k + n) es)) w' →
                (Builtin.append_ #[st, xt] ty #[ρ s, ρ x]).run P w = .ok (.slice (some ⟨i.blk, i.base, none⟩) (k + n) c2) w' → i.es = es → k + n ≤ c2 → c2 * es = i.ext →
                (∀ j, j < (k + n) * es → ∃ u, (olds ++ us)[j]? = some u ∧ (φ.grow tag (k + n) i lo (i.base + (k + n) * es) us').fz i.blk (i.base + j) = some u) →
                ∃ φ' v v' H' w', K v H' ∧ (builtin .append #[st, xt] ty cs0 #[ρ s, ρ x]).run P w = .ok (.value v') w' ∧ R φ' H'.has v v' ∧ Holds φ' H' w' ∧ Ok φ H w φ' H' w' := by
              intro i lo us' w' c2 h1 h2 h3 h4 h5 h6 h7
              refine ⟨_, _, _, _, _, hK, blt _ _ h3, ?_, h1, h2⟩
              have hall := (holds.append hru').mono h2.mono
              have hlen : (cs ++ new.map frz).length = (k + n) * es := by rw [List.length_append, List.length_map, hcl0, hln, ← Nat.add_mul]
              refine .gz tag es (k + n) _ _ (.fz es (k + n) c2 i.blk i.base _ (fun j => ((olds ++ us)[j]?).getD undef) ht2 hlen h5 (fun j hj => ?_) (fun j y hy => ?_)) ?_ (fun _ => ?_)
              · obtain ⟨u, hu1, hu2⟩ := h7 j (by rw [← hlen]; exact hj)
                rw [hu2, hu1]; rfl
              · have hj : j < (olds ++ us).length := by rw [← hall.1]; exact (List.getElem?_eq_some_iff.1 hy).1
                rw [List.getElem?_eq_getElem hj]
                exact hall.2 j y _ hy (List.getElem?_eq_getElem hj)
              · show k + n + 1 ≤ (if tag = tag then k + n + 1 else φ.tl tag)
                rw [if_pos rfl]; exact Nat.le_refl _
              · right
                have e : (φ.grow tag (k + n) i lo (i.base + (k + n) * es) us').ti tag = i := by
                  show (if tag = tag then i else φ.ti tag) = i
                  rw [if_pos rfl]
                rw [e]
                exact ⟨ht2, h4, c2, rfl, h5, h6⟩
            -- a new block
            have fresh : ∀ (base : Option Addr) (cap : Nat), ρ s = .slice base k cap → cap < k + n → ∃ φ' v v' H' w', K v H' ∧ (builtin .append #[st, xt] ty cs0 #[ρ s, ρ x]).run P w = .ok (.value v') w' ∧ R φ' H'.has v v' ∧ Holds φ' H' w' ∧ Ok φ H w φ' H' w' := by
              intro base cap eb hlt
              have hfc3 := hfc2 w.drew rfl
              rw [eb] at hfc3
              obtain ⟨q, hq, hrun⟩ := run_append_grow (P := P) (ty := ty) hu hux hsz hb hz h0b hlt hroom hlo hfc3 (hfc w.drew rfl)
              rw [← eb] at hrun
              have hsize : (olds.toArray ++ (us.toArray ++ Builtin.zeroCells z.cells (q - (k + n)))).size = q * es := by
                simp only [Array.size_append, hzc, List.size_toArray, hlu, holl]
                rw [← Nat.add_mul, ← Nat.add_mul]; congr 1; omega
              have hget : ∀ j, j < (k + n) * es → (olds.toArray ++ (us.toArray ++ Builtin.zeroCells z.cells (q - (k + n))))[j]? = (olds ++ us)[j]? := fun j hj => by
                rw [← Array.append_assoc, Array.getElem?_append_left (by simp [holl, hlu]; rw [← Nat.add_mul]; exact hj)]
                simp
              have hlen2 : (olds ++ us).length = (k + n) * es := by rw [List.length_append, holl, hlu, ← Nat.add_mul]
              have hg := hh.grow (w' := w.drew.alloc (.cells (olds.toArray ++ (us.toArray ++ Builtin.zeroCells z.cells (q - (k + n)))) et)) (tag := tag) (len := k + n) (lo := 0) (hi := 0 + (k + n) * es) (i := ⟨w.heap.size, 0, q * es, es⟩) (us := fun j => ((olds ++ us)[j]?).getD undef) (arr := olds.toArray ++ (us.toArray ++ Builtin.zeroCells z.cells (q - (k + n)))) (e := et) et' (by omega) rfl
                (alloc_same w.drew _) (by rw [hsize]; simp) ⟨q, hq, rfl⟩ (fun j _ hj => by
                  rw [Nat.zero_add] at hj
                  rw [hget j hj, List.getElem?_eq_getElem (by rw [hlen2]; exact hj)]; rfl) (Nat.le_refl _) (Nat.zero_le _)
                (fun j u hf => by have := cell_lt (hh.rest.froz _ _ _ hf); simp at this) (fun c hc => by have := hh.lt c hc; show _ ≠ w.heap.size; omega)
                (fun c n' e' _ hc he => by
                  obtain ⟨_, _, h3⟩ := hh.rest.tok c n' e' hc
                  rcases h3 with ⟨_, h3⟩ | ⟨_, ⟨arr, e, h4, _⟩, _⟩
                  · exact absurd h3 he
                  · have := (Array.getElem?_eq_some_iff.1 h4).1; show _ ≠ w.heap.size; omega)
                (fun β hβ hne => alloc_other w.drew _ β hne) (.inl (Nat.le_refl _)) rfl rfl rfl (by show w.drew.heap.size ≤ (w.drew.alloc _).heap.size; simp)
              refine fin ⟨w.heap.size, 0, q * es, es⟩ 0 _ _ q hg.1 hg.2 hrun rfl hq rfl (fun j hj => ?_)
              have hjl : j < (olds ++ us).length := by rw [hlen2]; exact hj
              refine ⟨_, List.getElem?_eq_getElem hjl, ?_⟩
              show (if w.heap.size = w.heap.size ∧ 0 ≤ 0 + j ∧ 0 + j < 0 + (k + n) * es then some (((olds ++ us)[0 + j]?).getD undef) else _) = _
              rw [if_pos ⟨rfl, Nat.zero_le _, by omega⟩, Nat.zero_add, List.getElem?_eq_getElem hjl]
              rfl
            rcases hcur with ⟨hk0, _, a0, eu⟩ | ⟨_, hes, c0, eu, hkc, hcx⟩
            · subst hk0
              exact fresh a0 0 eu (by omega)
            · by_cases hrm : k + n ≤ c0
              · rcases ht3 with ⟨_, h3⟩ | ⟨h3, ⟨arr, et2, h4, h5⟩, ⟨c3, h6, h6'⟩, h7⟩
                · omega
                · have hr := run_append_room (P := P) (ty := ty) hu hux hsz (base := some ⟨(φ.ti tag).blk, (φ.ti tag).base, none⟩) (len := k) (cap := c0) hrm hlo (hfc w rfl)
                  rw [← eu] at hr
                  have hmul : (k + n) * es ≤ c0 * es := Nat.mul_le_mul_right _ hrm
                  rw [Nat.add_mul] at hmul
                  have hst := run_storeCells_at (P := P) (φ.ti tag).blk ((φ.ti tag).base + k * es) et2 us 0 arr w h4 (by rw [hlu]; omega) hu1
                  simp only [add_off, hst, Nat.add_zero] at hr
                  rw [hlu] at hr
                  simp only [Result.andThen_ok] at hr
                  generalize harr : (arr.toList.take ((φ.ti tag).base + k * es) ++ us ++ arr.toList.drop ((φ.ti tag).base + k * es + n * es)).toArray = arr' at hr
                  have hget : ∀ j : Nat, arr'[j]? = if j < (φ.ti tag).base + k * es then arr[j]? else if j < (φ.ti tag).base + k * es + n * es then us[j - ((φ.ti tag).base + k * es)]? else arr[j]? := by
                    intro j
                    rw [← harr, List.getElem?_toArray, splice_get hlu (by simp; omega)]
                    simp
                  have hsize : arr'.size = arr.size := by
                    rw [← harr, List.size_toArray, splice_length hlu (by simp; omega)]; simp
                  have hsame := setRow_heap w (φ.ti tag).blk arr arr' et2 (0, 0) h4
                  have hkn : (k + n) * es = k * es + n * es := Nat.add_mul ..
                  have hold : ∀ j u, φ.fz (φ.ti tag).blk j = some u → j < (φ.ti tag).base + k * es ∧ arr'[j]? = some u := fun j u hf => by
                    have hj : j < (φ.ti tag).base + k * es := by
                      rcases Nat.lt_or_ge j ((φ.ti tag).base + k * es) with h | h
                      · exact h
                      · rw [h7 j h] at hf; cases hf
                    refine ⟨hj, ?_⟩
                    rw [hget, if_pos hj]
                    have := hh.rest.froz _ _ _ hf
                    rwa [cell_at h4] at this
                  have hown : Owns φ H (φ.ti tag).blk := .inr ⟨tag, k, es, et', by omega, rfl⟩
                  have hg := hh.grow (w' := w.setRow (φ.ti tag).blk arr') (tag := tag) (len := k + n) (lo := (φ.ti tag).base + k * es) (hi := (φ.ti tag).base + (k + n) * es) (i := φ.ti tag) (us := fun j => (us[j - ((φ.ti tag).base + k * es)]?).getD undef) (arr := arr') (e := et2) et' (by omega) hes
                    hsame (by rw [hsize]; exact h5) ⟨c0, hrm, hcx⟩ (fun j hj1 hj2 => by
                      rw [hget, if_neg (by omega), if_pos (by omega), List.getElem?_eq_getElem (by omega)]; rfl) (Nat.le_refl _) (by omega) hold
                    (fun c hc => hh.rest.tap tag k es c et' (by omega) hc) (fun c n' e' hc hc2 he => hh.rest.tap2 c tag n' e' k es hc hc2 et' he (by omega))
                    (fun β _ hne => setRow_other w _ _ _ hne) (.inr hown) rfl rfl rfl (by simp [World.setRow])
                  refine fin (φ.ti tag) _ _ _ c0 hg.1 hg.2 hr hes hrm hcx (fun j hj => ?_)
                  have hjl : j < (olds ++ us).length := by rw [List.length_append, holl, hlu]; omega
                  refine ⟨_, List.getElem?_eq_getElem hjl, ?_⟩
                  show (if (φ.ti tag).blk = (φ.ti tag).blk ∧ (φ.ti tag).base + k * es ≤ (φ.ti tag).base + j ∧ (φ.ti tag).base + j < (φ.ti tag).base + (k + n) * es then some ((us[(φ.ti tag).base + j - ((φ.ti tag).base + k * es)]?).getD undef) else φ.fz (φ.ti tag).blk ((φ.ti tag).base + j)) = _
                  by_cases hjk : j < k * es
                  · rw [if_neg (by omega)]
                    -- an old cell: it is frozen already
                    have h8 := hfc2 w rfl
                    obtain ⟨a9, c9, e9, h9⟩ := rf.fz_inv
                    rw [eu] at e9
                    injection e9 with e91 e92 e93
                    rcases h9 with ⟨q0, _⟩ | ⟨β, base, us9, q1, _, q2, _, q3, q4⟩
                    · rw [q0, Nat.zero_mul] at hjk; omega
                    · rw [q1] at e91
                      injection e91 with e91
                      injection e91 with e91 e94
                      rw [e91, e94, q3 j (by omega)]
                      -- and the row tells the same
                      rw [eu] at h8
                      have hc3 := hh.rest.froz _ _ _ (q3 j (by omega))
                      have h10 : (Builtin.firstCells es k (.slice (some ⟨(φ.ti tag).blk, (φ.ti tag).base, none⟩) k c0)).run P w = .ok ((List.range (k * es)).map us9).toArray w := by
                        simp only [Builtin.firstCells]
                        have hln9 : ((List.range (k * es)).map us9).length = k * es := by simp
                        have := run_loadCells_list (P := P) w ⟨(φ.ti tag).blk, (φ.ti tag).base, none⟩ ((List.range (k * es)).map us9) (fun j v hj => by
                          have hj2 : j < k * es := by have := (List.getElem?_eq_some_iff.1 hj).1; simpa using this
                          simp [hj2] at hj
                          rw [add_off, e91, e94, ← hj]
                          exact hh.rest.froz _ _ _ (q3 j (by omega)))
                        rw [hln9] at this
                        exact this
                      rw [h8] at h10
                      injection h10 with h10
                      have h11 := congrArg Array.toList h10
                      simp only at h11
                      rw [← List.getElem?_eq_some_iff.2 ⟨hjl, rfl⟩, List.getElem?_append_left (by omega), h11]
                      simp [hjk]
                  · rw [if_pos ⟨rfl, by omega, by omega⟩]
                    have hju : j - k * es < us.length := by omega
                    rw [show (φ.ti tag).base + j - ((φ.ti tag).base + k * es) = j - k * es by omega, List.getElem?_eq_getElem hju]
                    congr 1
                    rw [List.getElem_append_right (by omega)]
                    simp only [holl]
                    rfl
              · exact fresh _ c0 eu (by omega)
        · exact h.elim
      · rename_i es len cs es1
        obtain ⟨e01, hcl0, hroom, hK0, hK1⟩ := h
        subst e01
        rw [es1] at rs
        obtain ⟨rf, a0, e1⟩ := rs.kz_inv
        by_cases hn : n = 0
        · subst hn
          have hus0 : us = [] := by simpa using hlu
          subst hus0
          have hr := run_append_room (P := P) (ty := ty) hu hux hsz (base := a0) (len := len) (cap := len) (n := 0) (Nat.le_refl _) hlo (hfc w rfl)
          rw [← e1] at hr
          refine ⟨φ, _, .slice a0 (len + 0) len, H, w, hK0 rfl, blt _ _ (by rw [hr]; cases a0 <;> rfl), ?_, hh, Ok.refl⟩
          show R φ H.has (KZ es len cs) (.slice a0 len len)
          rw [← e1]; exact rs
        obtain ⟨olds, h1, h2, h3⟩ := apps_fz (P := P) hh rf hcl0
        have h3' := h3 w.drew rfl
        rw [e1] at h3'
        exact grown H a0 len len cs olds hh Ok.refl (by omega) hroom e1 h1 hcl0 h3' (hK1 hn)
      · exact h.elim
    · exact h.elim
  · exact h.elim
end
section
variable {P : Program} {e : Operand → Value} {H : Heap} {K : Value → Heap → Prop} {dst : Option Nat} {ty : TypeId} {pos : String} {af : Array Edge} {g : Option (Nat × Bool)}
theorem Holds.splice {φ : Ren} {w : World} (hh : Holds φ H w) {b k : Nat} {cs : List Value} {es : Nat} (eb : H.get b = .cells cs es false) {new us : List Value} (hru : RL φ H.has new us) (h1 : oneCells new) (hk : k + new.length ≤ cs.length) :
    ∃ w', (storeCells ⟨(φ b).blk, (φ b).base + k, none⟩ us).run P w = .ok () w' ∧ Holds φ (H.set b (.cells (cs.take k ++ new ++ cs.drop (k + new.length)) es false)) w' ∧ Ok φ H w φ (H.set b (.cells (cs.take k ++ new ++ cs.drop (k + new.length)) es false)) w' := by
  obtain ⟨arr, et', hg, hg2, hg3⟩ := hh.row _ _ _ eb
  have hlu := hru.length
  have hst := run_storeCells_at (P := P) (φ b).blk ((φ b).base + k) et' us 0 arr w hg (by rw [hlu]; omega) (RL.one hru h1)
  simp only [Nat.add_zero] at hst
  rw [hlu] at hst
  generalize harr : (arr.toList.take ((φ b).base + k) ++ us ++ arr.toList.drop ((φ b).base + k + new.length)).toArray = arr' at hst
  have hget : ∀ j : Nat, arr'[j]? = if j < (φ b).base + k then arr[j]? else if j < (φ b).base + k + new.length then us[j - ((φ b).base + k)]? else arr[j]? := by
    intro j
    rw [← harr, List.getElem?_toArray, splice_get hlu (by simp; omega)]
    simp
  have hsize : arr'.size = arr.size := by
    rw [← harr, List.size_toArray, splice_length hlu (by simp; omega)]; simp
  have hwr := hh.write eb hg (cs.take k ++ new ++ cs.drop (k + new.length)) arr' hsize (by rw [splice_length rfl (by omega)]; exact hg3) (fun j v hj => by
    rw [splice_get rfl (by omega)] at hj
    rw [hget]
    by_cases c1 : j < k
    · rw [if_pos c1] at hj
      rw [if_pos (by omega)]
      obtain ⟨u, hu2, hr2⟩ := hh.cell _ _ _ _ eb j v hj
      rw [cell_at hg] at hu2
      exact ⟨u, hu2, hr2⟩
    · rw [if_neg c1] at hj
      rw [if_neg (by omega)]
      by_cases c2 : j < k + new.length
      · rw [if_pos c2] at hj
        rw [if_pos (by omega)]
        obtain ⟨u, hu2, hr2⟩ := hru.get hj
        exact ⟨u, by rw [show (φ b).base + j - ((φ b).base + k) = j - k by omega]; exact hu2, hr2⟩
      · rw [if_neg c2] at hj
        rw [if_neg (by omega)]
        obtain ⟨u, hu2, hr2⟩ := hh.cell _ _ _ _ eb j v hj
        rw [cell_at hg] at hu2
        exact ⟨u, hu2, hr2⟩)
  exact ⟨_, hst, hwr.1, hwr.2⟩
def copyK (P : Program) (dt : TypeId) (d s : Value) (H : Heap) (K : Value → Heap → Prop) : Prop :=
  match P.underlying dt with
  | some (.slice et) => match cz P et with
    | some sz => match d, s with
      | .slice (some a) dl _, .slice (some b) sl _ => match H.get a.block with
        | .cells cs es false => a.spot = none ∧ b.spot = none ∧ ∃ new, H.range b.block b.off (Nat.min sl dl * sz) = some new ∧ oneCells new ∧ a.off + Nat.min sl dl * sz ≤ cs.length ∧
            K (.int .i64 (Nat.min sl dl : Nat)) (H.set a.block (.cells (cs.take a.off ++ new ++ cs.drop (a.off + Nat.min sl dl * sz)) es false))
        | _ => False
      | .slice (some a) dl _, FZ es' sl ds => match H.get a.block with
        | .cells cs es false => a.spot = none ∧ es' = sz ∧ ds.length = sl * sz ∧ oneCells (ds.take (Nat.min sl dl * sz)) ∧ a.off + Nat.min sl dl * sz ≤ cs.length ∧
            K (.int .i64 (Nat.min sl dl : Nat)) (H.set a.block (.cells (cs.take a.off ++ ds.take (Nat.min sl dl * sz) ++ cs.drop (a.off + Nat.min sl dl * sz)) es false))
        | _ => False
      | .slice none 0 0, .slice none 0 0 => K (.int .i64 0) H
      | .slice none 0 0, .slice (some _) _ _ => K (.int .i64 0) H
      | .slice (some _) _ _, .slice none 0 0 => K (.int .i64 0) H
      | _, _ => False
    | none => False
  | _ => False
theorem gives_copy {d s : Operand} {dt st : TypeId} (h : copyK P dt (e d) (e s) H K) : Gives P ⟨dst, .call ⟨.builtin .copy, #[d, s], #[dt, st]⟩, ty, pos, af, g⟩ e H K := by
  refine gives_builtin fun φ ρ w hh ha cs0 => ?_
  have ha' : RA φ H.has #[e d, e s] #[ρ d, ρ s] := by simpa using ha
  obtain ⟨d', s', hq, rd, rs⟩ := ha'.two
  simp at hq
  obtain ⟨rfl, rfl⟩ := hq
  have hargs : (#[d, s].map ρ) = #[ρ d, ρ s] := by simp
  rw [hargs]
  have blt : ∀ v' w', (Builtin.copy_ #[dt, st] ty #[ρ d, ρ s]).run P w = .ok v' w' → (builtin .copy #[dt, st] ty cs0 #[ρ d, ρ s]).run P w = .ok (.value v') w' := by
    intro v' w' hr
    simp only [builtin, Sem.run_bind, hr, Result.andThen_ok, Sem.run_pure]
  unfold copyK at h
  split at h
  · rename_i et hu
    split at h
    · rename_i sz hsz
      split at h
      · rename_i a dl dc b sl sc ed es'
        split at h
        · rename_i cs es eb
          obtain ⟨hsp, hsp2, new, hr, h1, hle, hK⟩ := h
          rw [ed] at rd
          rw [es'] at rs
          obtain ⟨_, _, c1, e1, _⟩ := rd.slice_inv (.inl hsp)
          obtain ⟨_, _, c2, e2, _⟩ := rs.slice_inv (.inl hsp2)
          obtain ⟨us, hl1, hl2, hrl, hcell⟩ := hh.range_get hr
          have hfc : (Builtin.firstCells sz (Nat.min sl dl) (ρ s)).run P w = .ok us.toArray w := by
            rw [e2]
            simp only [Builtin.firstCells]
            rw [← hl1]
            exact run_loadCells_list w _ us (fun j v hj => by rw [add_off]; exact hcell j v hj)
          obtain ⟨w', hst, hh', ok'⟩ := hh.splice (P := P) (k := a.off) eb hrl h1 (by rw [hl2]; exact hle)
          rw [hl2] at hh' ok'
          refine ⟨φ, _, _, _, w', hK, blt _ _ ?_, .int _ _, hh', ok'⟩
          rw [e2] at hfc
          unfold Builtin.copy_
          simp [run_underlying hu, run_size hsz, e1, e2, Builtin.lenOf, hst, goInt]
          rw [show sl.min dl = Nat.min sl dl from rfl, hfc]
          simp [hst]
        · exact h.elim
      · rename_i a dl dc es2 sl ds ed es'
        split at h
        · rename_i cs es eb
          obtain ⟨hsp, rfl, hl, h1, hle, hK⟩ := h
          rw [ed] at rd
          rw [es'] at rs
          obtain ⟨_, _, c1, e1, _⟩ := rd.slice_inv (.inl hsp)
          obtain ⟨a2, c2, e2, h3⟩ := rs.fz_inv
          have hmn : Nat.min sl dl ≤ sl := Nat.min_le_left ..
          have hmm := Nat.mul_le_mul_right es2 hmn
          obtain ⟨us, hrl, hfc⟩ : ∃ us, RL φ H.has (ds.take (Nat.min sl dl * es2)) us ∧ (Builtin.firstCells es2 (Nat.min sl dl) (ρ s)).run P w = .ok us.toArray w := by
            have hr2 : R φ H.has (FZ es2 (Nat.min sl dl) (ds.take (Nat.min sl dl * es2))) (ρ s) ∨ True := .inr trivial
            rcases h3 with ⟨rfl, rfl, h4⟩ | ⟨β, base, us, rfl, hs, hlen, hc, g1, g2⟩
            · refine ⟨[], by simpa using RL.nil, ?_⟩
              rw [e2]
              have h0 : Nat.min 0 dl = 0 := by simp
              rw [h0]
              cases a2 with
              | none => simp [Builtin.firstCells]
              | some a2 =>
                simp only [Builtin.firstCells]
                have := run_loadCells_list (P := P) w a2 [] (fun j v hj => by simp at hj)
                simpa using this
            · refine ⟨(List.range (Nat.min sl dl * es2)).map us, ⟨by simp; omega, fun i y y' hy hy' => ?_⟩, ?_⟩
              · have hi : i < Nat.min sl dl * es2 := by have := (List.getElem?_eq_some_iff.1 hy').1; simpa using this
                simp [hi] at hy'
                rw [List.getElem?_take, if_pos hi] at hy
                rw [← hy']; exact g2 i y hy
              · rw [e2]
                simp only [Builtin.firstCells]
                have hln : ((List.range (Nat.min sl dl * es2)).map us).length = Nat.min sl dl * es2 := by simp
                have := run_loadCells_list (P := P) w ⟨β, base, none⟩ ((List.range (Nat.min sl dl * es2)).map us) (fun j v hj => by
                  have hj2 : j < Nat.min sl dl * es2 := by have := (List.getElem?_eq_some_iff.1 hj).1; simpa using this
                  simp [hj2] at hj
                  rw [add_off, ← hj]
                  exact hh.rest.froz _ _ _ (g1 j (by omega)))
                rw [hln] at this
                exact this
          have hlt : (ds.take (Nat.min sl dl * es2)).length = Nat.min sl dl * es2 := by rw [List.length_take]; omega
          obtain ⟨w', hst, hh', ok'⟩ := hh.splice (P := P) (k := a.off) eb hrl h1 (by rw [hlt]; exact hle)
          rw [hlt] at hh' ok'
          refine ⟨φ, _, _, _, w', hK, blt _ _ ?_, .int _ _, hh', ok'⟩
          rw [e2] at hfc
          unfold Builtin.copy_
          simp [run_underlying hu, run_size hsz, e1, e2, Builtin.lenOf, hst, goInt]
          rw [show sl.min dl = Nat.min sl dl from rfl, hfc]
          simp [hst]
        · exact h.elim
      · rename_i ed es'
        rw [ed] at rd
        rw [es'] at rs
        obtain ⟨_, _, e1⟩ := rd.slice0_inv
        obtain ⟨_, _, e2⟩ := rs.slice0_inv
        refine ⟨φ, _, .int .i64 0, H, w, h, blt _ _ ?_, .int _ _, hh, Ok.refl⟩
        unfold Builtin.copy_
        simp [run_underlying hu, run_size hsz, e1, e2, Builtin.lenOf, goInt, Builtin.firstCells]
      · rename_i b sl sc ed es'
        rw [ed] at rd
        rw [es'] at rs
        obtain ⟨_, _, e1⟩ := rd.slice0_inv
        obtain ⟨_, c2, e2⟩ := rs.slice_shape
        refine ⟨φ, _, .int .i64 0, H, w, h, blt _ _ ?_, .int _ _, hh, Ok.refl⟩
        unfold Builtin.copy_
        simp [run_underlying hu, run_size hsz, e1, e2, Builtin.lenOf, goInt, Builtin.firstCells, loadCells, loadCellsFrom]
      · rename_i a dl dc ed es'
        rw [ed] at rd
        rw [es'] at rs
        obtain ⟨_, _, e2⟩ := rs.slice0_inv
        obtain ⟨_, c2, e1⟩ := rd.slice_shape
        refine ⟨φ, _, .int .i64 0, H, w, h, blt _ _ ?_, .int _ _, hh, Ok.refl⟩
        unfold Builtin.copy_
        simp [run_underlying hu, run_size hsz, e1, e2, Builtin.lenOf, goInt, Builtin.firstCells, storeCells]
      · exact h.elim
    · exact h.elim
  · exact h.elim
def clearK (P : Program) (dt : TypeId) (d : Value) (H : Heap) (K : Value → Heap → Prop) : Prop :=
  match P.underlying dt with
  | some (.slice et) => match zr P et, d with
    | some z, .slice (some a) n _ => match H.get a.block with
      | .cells cs es false => a.spot = none ∧ constOk z = true ∧ oneCells z.cells.toList ∧ a.off + n * z.cells.size ≤ cs.length ∧
          (n = 0 → K undef H) ∧ (n ≠ 0 → K undef (H.set a.block (.cells (cs.take a.off ++ (Builtin.zeroCells z.cells n).toList ++ cs.drop (a.off + n * z.cells.size)) es false)))
      | _ => False
    | some _, .slice none 0 0 => K undef H
    | _, _ => False
  | _ => False
theorem zeroCells_get {z : Value} {n i : Nat} {v : Value} (h : (Builtin.zeroCells z.cells n)[i]? = some v) : ∃ j : Nat, z.cells[j]? = some v := by
  unfold Builtin.zeroCells at h
  rw [Array.getElem?_map] at h
  cases hr : (Array.range (n * z.cells.size))[i]? with
  | none => rw [hr] at h; simp at h
  | some k =>
    rw [hr] at h
    simp at h
    have hk : 0 < z.cells.size := by
      have h2 := (Array.getElem?_eq_some_iff.1 hr).1
      simp at h2
      rcases Nat.eq_zero_or_pos z.cells.size with q | q
      · rw [q] at h2; simp at h2
      · exact q
    have hlt : k % z.cells.size < z.cells.size := Nat.mod_lt _ hk
    rw [getElem!_pos z.cells _ hlt] at h
    exact ⟨_, by rw [Array.getElem?_eq_getElem hlt, h]⟩
theorem gives_clear {d : Operand} {dt : TypeId} (h : clearK P dt (e d) H K) : Gives P ⟨dst, .call ⟨.builtin .clear, #[d], #[dt]⟩, ty, pos, af, g⟩ e H K := by
  refine gives_builtin fun φ ρ w hh ha cs0 => ?_
  have ha' : RA φ H.has #[e d] #[ρ d] := by simpa using ha
  obtain ⟨d', hq, rd⟩ := ha'.one
  simp at hq
  subst hq
  have hargs : (#[d].map ρ) = #[ρ d] := by simp
  rw [hargs]
  have blt : ∀ v' w', (Builtin.clear_ #[dt] ty #[ρ d]).run P w = .ok v' w' → (builtin .clear #[dt] ty cs0 #[ρ d]).run P w = .ok (.value v') w' := by
    intro v' w' hr
    simp only [builtin, Sem.run_bind, hr, Result.andThen_ok, Sem.run_pure]
  unfold clearK at h
  split at h
  · rename_i et hu
    split at h
    · rename_i z a n c hz ed
      split at h
      · rename_i cs es eb
        obtain ⟨hsp, hc, h1, hle, hK0, hK1⟩ := h
        rw [ed] at rd
        obtain ⟨_, _, c1, e1, _⟩ := rd.slice_inv (.inl hsp)
        by_cases hn : n = 0
        · subst hn
          refine ⟨φ, _, .tuple #[], H, w, hK0 rfl, blt _ _ ?_, R.undef, hh, Ok.refl⟩
          unfold Builtin.clear_
          simp [run_underlying hu, e1]
        · have hrz := R.of_const (φ := φ) (has := H.has) hc
          have hru : RL φ H.has (Builtin.zeroCells z.cells n).toList (Builtin.zeroCells z.cells n).toList := ⟨rfl, fun i x x' hx hx' => by
            rw [hx] at hx'
            injection hx' with hx'
            subst hx'
            obtain ⟨j, hj⟩ := zeroCells_get (z := z) (n := n) (i := i) (by simpa using hx)
            exact hrz.cells.2 j x x hj hj⟩
          have hone : oneCells (Builtin.zeroCells z.cells n).toList := fun v hv => by
            obtain ⟨i, hi, rfl⟩ := List.getElem_of_mem hv
            obtain ⟨j, hj⟩ := zeroCells_get (z := z) (n := n) (i := i) (v := (Builtin.zeroCells z.cells n).toList[i]) (by rw [← Array.getElem?_toList, List.getElem?_eq_getElem hi])
            exact h1 _ (by rw [Array.mem_toList_iff]; exact Array.mem_of_getElem? hj)
          have hlen : (Builtin.zeroCells z.cells n).toList.length = n * z.cells.size := by rw [Array.length_toList, size_zeroCells]
          obtain ⟨w', hst, hh', ok'⟩ := hh.splice (P := P) (k := a.off) eb hru hone (by rw [hlen]; exact hle)
          rw [hlen] at hh' ok'
          refine ⟨φ, _, undef, _, w', hK1 hn, blt _ _ ?_, R.undef, hh', ok'⟩
          unfold Builtin.clear_
          obtain ⟨m, rfl⟩ : ∃ m, n = m + 1 := ⟨n - 1, by omega⟩
          simp [run_underlying hu, e1, run_zero hz, hst, undef]
      · exact h.elim
    · rename_i z hz ed
      rw [ed] at rd
      obtain ⟨_, _, e1⟩ := rd.slice0_inv
      refine ⟨φ, _, .tuple #[], H, w, h, blt _ _ ?_, R.undef, hh, Ok.refl⟩
      unfold Builtin.clear_
      simp [run_underlying hu, e1]
    · exact h.elim
  · exact h.elim
/-! ### Calls of functions -/
end
/-! ### A function's body -/
section
variable {P : Program}
def aresK (P : Program) : List ResultVar → Fr → Heap → (List Value → Prop) → Prop
  | [], A, H, K => K []
  | .tmp t :: rs, A, H, K => aresK P rs A H fun vs => K (A t :: vs)
  | .cell t ty :: rs, A, H, K => loadK P ty H (A t) fun v => aresK P rs A H fun vs => K (v :: vs)
def retv (vs : List Value) : Value :=
  match vs with
  | [v] => v
  | vs => .tuple vs.toArray
def aret (P : Program) (rs : List ResultVar) (Q : Value → Heap → Prop) : Exit → Fr → Heap → Prop
  | .normal, A, H => aresK P rs A H fun vs => Q (retv vs) H
  | .ret, A, H => aresK P rs A H fun vs => Q (retv vs) H
  | _, _, _ => False
theorem loadK_run {φ : Ren} {H : Heap} {w : World} (hh : Holds φ H w) {t : TypeId} {x u : Value} {K : Value → Prop} (hr : R φ H.has x u) (h : loadK P t H x K) : ∃ v v', K v ∧ (do loadVar t (← asAddr u) : Sem Value).run P w = .ok v' w ∧ R φ H.has v v' := by
  unfold loadK at h
  split at h
  · rename_i a
    obtain ⟨_, _, e1⟩ := hr.ptr_inv
    split at h
    · rename_i ht
      obtain ⟨v, hv, hK⟩ := h
      obtain ⟨u', hu1, hu2⟩ := hh.cell_get hv
      exact ⟨v, u', hK, by simp [e1, asAddr, run_loadVar1 ht hu1], hu2⟩
    · rename_i n ht
      obtain ⟨cs, hv, hK⟩ := h
      obtain ⟨us, hl, _, hr2, hc⟩ := hh.range_get hv
      have := run_loadVarN (w := w) ht (a := ⟨(φ a.block).blk, (φ a.block).base + a.off, none⟩) hl (fun j v hj => by rw [add_off]; exact hc j v hj)
      exact ⟨_, .agg us.toArray, hK, by simp [e1, asAddr, this], R.agg_mk hr2.toArray⟩
    · exact h.elim
  · rename_i o cs
    obtain ⟨a, v, v', e1, hK, hrun, hr2⟩ := pz_read (P := P) hh hr (t := t) (K := K) h
    exact ⟨v, v', hK, by simp [e1, asAddr, hrun], hr2⟩
  · exact h.elim
def resOf (tmps : Array Value) : ResultVar → Sem Value
  | .tmp t => pure (tmps.getD t undef)
  | .cell x t => do loadVar t (← asAddr (tmps.getD x undef))
theorem ares_run {m : Nat} {φ : Ren} {A : Fr} {H : Heap} {a : Act} {w : World} (hs : St m φ A H a w) : ∀ (rs : List ResultVar) (K : List Value → Prop), aresK P rs A H K →
    ∃ vs vs', K vs ∧ (rs.mapM (resOf a.tmps)).run P w = .ok vs' w ∧ RL φ H.has vs vs'
  | [], K, h => ⟨[], [], h, by simp, RL.nil⟩
  | .tmp t :: rs, K, h => by
    obtain ⟨vs, vs', h1, h2, h3⟩ := ares_run hs rs _ h
    refine ⟨_, a.tmps.getD t undef :: vs', h1, ?_, RL.cons (hs.get t) h3⟩
    rw [List.mapM_cons]
    have h0 : (resOf a.tmps (.tmp t)).run P w = .ok (a.tmps.getD t undef) w := rfl
    simp only [Sem.run_bind, Sem.run_pure, Result.andThen_ok, h0, h2]
  | .cell t ty :: rs, K, h => by
    obtain ⟨v, v', hK, hrun, hr⟩ := loadK_run hs.holds (hs.get t) h
    obtain ⟨vs, vs', h1, h2, h3⟩ := ares_run hs rs _ hK
    refine ⟨_, v' :: vs', h1, ?_, RL.cons hr h3⟩
    rw [List.mapM_cons]
    have h0 : (resOf a.tmps (.cell t ty)).run P w = .ok v' w := hrun
    simp only [Sem.run_bind, h0, Sem.run_pure, Result.andThen_ok, h2]
theorem aret_post {m : Nat} {fn : Func} {Q : Value → Heap → Prop} {R' : Ending → World → Prop} {φ : Ren} {A : Fr} {H : Heap} {a : Act} {w : World} (hs : St m φ A H a w) (h : aresK P fn.results.toList A H fun vs => Q (retv vs) H)
    (hR : ∀ v v', Q v H → R φ H.has v v' → R' (.returned v') w) : ∃ v, (results fn a.tmps).run P w = .ok v w ∧ R' (.returned v) w := by
  obtain ⟨vs, vs', h1, h2, h3⟩ := ares_run (P := P) hs _ _ h
  have hlen := h3.1
  refine ⟨retv vs', ?_, hR _ _ h1 ?_⟩
  · unfold results
    have h2' : (fn.results.mapM (resOf a.tmps)).run P w = .ok vs'.toArray w := by
      rw [Array.mapM_eq_mapM_toList, Sem.run_map, h2]
      rfl
    rw [Sem.run_bind]
    refine (congrArg (fun r => Result.andThen r _) h2').trans ?_
    simp only [Result.andThen_ok, Sem.run_pure]
    congr 1
    match vs' with
    | [] => rfl
    | [v] => rfl
    | v :: u :: l => simp [retv]
  · match vs, vs', h3 with
    | [], [], _ => exact R.undef
    | [v], [v'], h3 => exact h3.2 0 v v' rfl rfl
    | v :: u :: l, v' :: u' :: l', h3 => exact R.tuple_mk h3.toArray
theorem ACalls.body {f : FuncId} {fn : Func} {c : Code} {m : Nat} {rs : List ResultVar} {args : List Value} {H : Heap} {Q : Value → Heap → Prop} (hf : P.funcs[f]? = some fn) (hb : fn.body = some c) (hm : fn.ntmps = m) (hrs : fn.results.toList = rs) (hle : args.length ≤ m) (hn : (fn.name == "runtime.NumGoroutine") = false)
    (h' : ∀ Q' : Value → Heap → Prop, Cont (∀ v H', Q v H' → Q' v H') → ∀ A : Fr, (∀ (t : Nat) (v : Value) (r : List Value), args.drop t = v :: r → A t = v) → AWp P m c (aret P rs Q') A H) : ACalls P f args H Q := by
  have h := h' Q (fun _ _ h => h)
  refine ⟨fun args w => ?_, fun φ args' w hh ha => ?_⟩
  · have hn' : ¬ fn.name = "runtime.NumGoroutine" := by simpa using hn
    simp [callFunc, hf, hb, hn']
  refine calls_of_wp hf hb ?_
  have hsz : args.length = args'.size := by simpa using ha.1
  have hst : St m φ (fun t => args.getD t undef) H { tmps := args' ++ Array.replicate (fn.ntmps - args'.size) undef, defers := [] } w := by
    refine ⟨rfl, by simp [hm]; omega, fun t v' ht => ?_, fun t ht => ?_, hh⟩
    · by_cases hlt : t < args'.size
      · rw [Array.getElem?_append_left hlt] at ht
        have hlt2 : t < args.length := by omega
        have := ha.2 t args[t] v' (by simp [hlt2]) ht
        simpa [hlt2] using this
      · rw [Array.getElem?_append_right (by omega)] at ht
        have : v' = undef := by
          rw [Array.getElem?_replicate] at ht
          split at ht
          · injection ht with ht; exact ht.symm
          · simp at ht
        subst this
        have hge : args.length ≤ t := by omega
        simp [List.getElem?_eq_none hge]
        exact R.undef
    · have hge : args.length ≤ t := by omega
      simp [List.getElem?_eq_none hge]
  have hA : ∀ (t : Nat) (v : Value) (r : List Value), args.drop t = v :: r → (fun t => args.getD t undef) t = v := fun t v r ht => by
    have h1 : (args.drop t)[0]? = some v := by rw [ht]; rfl
    rw [List.getElem?_drop] at h1
    simp only [Nat.add_zero] at h1
    simp [h1]
  refine wp_mono (h _ hA φ _ w hst) ?_
  rintro e a' w' ⟨φ', A', H', hq, hs', ok'⟩
  have fin : aresK P fn.results.toList A' H' (fun vs => Q (retv vs) H') → ∃ v, (results fn a'.tmps).run P w' = .ok v w' ∧ (∃ φ' v0 v'' H'', Ending.returned v = .returned v'' ∧ Q v0 H'' ∧ R φ' H''.has v0 v'' ∧ Holds φ' H'' w' ∧ Ok φ H w φ' H'' w') := fun h0 =>
    aret_post (R' := fun e w' => ∃ φ' v v' H', e = .returned v' ∧ Q v H' ∧ R φ' H'.has v v' ∧ Holds φ' H' w' ∧ Ok φ H w φ' H' w') hs' h0 (fun v v' hQ hr => ⟨φ', v, v', H', rfl, hQ, hr, hs'.holds, ok'⟩)
  rw [hrs] at fin
  cases e with
  | normal => exact ⟨hs'.defers, fin hq⟩
  | ret => exact ⟨hs'.defers, fin hq⟩
  | exit id => exact hq.elim
  | goto l => exact hq.elim
  | panic c => exact hq.elim
  | outgrown => exact hq.elim
end
/-! ### A region that draws its order: floats may come whenever, effects come in their order -/
section
variable {P : Program} {m : Nat}
abbrev HeldL := List (Nat × Nat × Value)
def heldIn (held : HeldL) (H : Heap) : Prop := ∀ h ∈ held, H.cell h.1 h.2.1 = some h.2.2
/-- One operation by itself: e tells its operands. -/
def OpE (P : Program) (o : Oper) (e : Operand → Value) (H : Heap) (K : Value → Heap → Prop) : Prop :=
  ∀ (φ : Ren) (a : Act) (w : World) (Kc : Act → World → Prop) (Qc : Exit → Act → World → Prop), Holds φ H w → (∀ x ∈ o.op.operands, R φ H.has (e x) (a.eval x)) →
    (∀ φ' v u H' w', K v H' → R φ' H'.has v u → Holds φ' H' w' → Ok φ H w φ' H' w' → Kc (a.put o.dst u) w') → o.wp P a w Kc Qc
theorem OpE.congr {o : Oper} {e e' : Operand → Value} {H : Heap} {K : Value → Heap → Prop} (h : OpE P o e H K) (he : ∀ x ∈ o.op.operands, e x = e' x) : OpE P o e' H K :=
  fun φ a w Kc Qc hh hx hk => h φ a w Kc Qc hh (fun x hm => by rw [he x hm]; exact hx x hm) hk
def Flt (P : Program) (o : Oper) (e : Operand → Value) (hl : HeldL) (v : Value) : Prop := ∀ H, heldIn hl H → OpE P o e H fun u H' => u = v ∧ H' = H
def zdeps (l : List Oper) (i : Nat) : List Nat := match l[i]? with
  | some o => (o.after.toList.filter (Region.binds .any)).map (·.on)
  | none => []
def zuses (l : List Oper) (o : Oper) : List Nat := (o.op.operands.toList.filterMap fun x => match x with | .tmp t => some t | _ => none) ++ (match o.guard with
  | some (j, _) => ((l[j]?).bind (·.dst)).toList
  | none => [])
def zwant (l : List Oper) (o : Oper) (A : Fr) : Prop := match o.guard with
  | none => True
  | some (j, want) => ∃ t, (l[j]?).bind (·.dst) = some t ∧ A t = .bool want
def zskip (l : List Oper) (o : Oper) (A : Fr) : Prop := ∃ j want t, o.guard = some (j, want) ∧ (l[j]?).bind (·.dst) = some t ∧ (A t = .bool (!want) ∨ A t = undef)
structure ZOk (l : List Oper) (need : Nat → List Nat) : Prop where
  c2 : ∀ i j, i < l.length → j ∈ need i → j ∈ zdeps l i ∨ ∃ d ∈ zdeps l i, j ∈ need d
  c3 : ∀ (i j : Nat) (o oj : Oper) (t : Nat), l[i]? = some o → l[j]? = some oj → oj.dst = some t → t ∈ zuses l o → i = j ∨ j ∈ need i ∨ i ∈ need j
  c4 : ∀ (i j : Nat) (oi oj : Oper) (t : Nat), i ≠ j → l[i]? = some oi → l[j]? = some oj → oi.dst = some t → oj.dst ≠ some t
/-- What is held, by the operations that hold it. -/
abbrev HeldG := List (Nat × HeldL)
def heldG (held : HeldG) (H : Heap) : Prop := ∀ e ∈ held, heldIn e.2 H
def dropG (rel : List Nat) : HeldG → HeldG
  | [] => []
  | (i, l) :: r => if (rel.contains i) = true then dropG rel r else (i, l) :: dropG rel r
theorem mem_dropG {rel : List Nat} {e : Nat × HeldL} : ∀ {held : HeldG}, e ∈ held → rel.contains e.1 = false → e ∈ dropG rel held
  | (i, l) :: r, he, hr => by
    unfold dropG
    rcases List.mem_cons.1 he with rfl | he
    · rw [if_neg (by rw [hr]; simp)]; exact List.mem_cons_self ..
    · split
      · exact mem_dropG he hr
      · exact List.mem_cons_of_mem _ (mem_dropG he hr)
inductive AZ (P : Program) (l : List Oper) (K : Fr → Heap → Prop) : List (Nat × Option (List Nat)) → HeldG → Fr → Heap → Prop
  | nil {held : HeldG} {A : Fr} {H : Heap} (h : K A H) : AZ P l K [] held A H
  | flt {i : Nat} {b : Option (List Nat)} {plan : List (Nat × Option (List Nat))} {held : HeldG} {A : Fr} {H : Heap} {o : Oper} {v : Value} {hl : HeldL} (hi : l[i]? = some o) (hw : zwant l o A) (hf : Flt P o (ev A) hl v) (hh : heldIn hl H) (h : AZ P l K plan ((i, hl) :: held) (put A o.dst v) H) : AZ P l K ((i, b) :: plan) held A H
  | skip {i : Nat} {b : Option (List Nat)} {plan : List (Nat × Option (List Nat))} {held : HeldG} {A : Fr} {H : Heap} {o : Oper} (hi : l[i]? = some o) (hw : zskip l o A) (h : AZ P l K plan held (put A o.dst undef) H) : AZ P l K ((i, b) :: plan) held A H
  | eff {i : Nat} {rel : List Nat} {plan : List (Nat × Option (List Nat))} {held : HeldG} {A : Fr} {H : Heap} {o : Oper} (Kv : Value → Heap → Prop) (hi : l[i]? = some o) (hw : zwant l o A) (he : OpE P o (ev A) H Kv)
      (hh : ∀ v H', Kv v H' → heldG (dropG rel held) H') (h : ∀ v H', Kv v H' → AZ P l K plan (dropG rel held) (put A o.dst v) H') : AZ P l K ((i, some rel) :: plan) held A H
def ordOk (l : List Oper) (need : Nat → List Nat) : List Nat → List Nat → List (Nat × Option (List Nat)) → Prop
  | _, _, [] => True
  | pre, effs, (i, b) :: r => i < l.length ∧ i ∉ pre ∧ (∀ j ∈ need i, j ∈ pre) ∧ (∀ j ∈ zdeps l i, j ∈ pre) ∧ (∀ j ∈ effs, j ∈ need i) ∧ (∀ j ∈ b.getD [], j ∈ need i) ∧ ordOk l need (i :: pre) (if b.isSome = true then i :: effs else effs) r
theorem ordOk_eff {l : List Oper} {need : Nat → List Nat} : ∀ {plan : List (Nat × Option (List Nat))} {pre effs : List Nat} {e i : Nat}, ordOk l need pre effs plan → e ∈ effs → i ∈ plan.map (·.1) → e ∈ need i
  | (k, b) :: r, pre, effs, e, i, h, he, hi => by
    obtain ⟨h1, h2, h3, h4, h5, _, h6⟩ := h
    rcases List.mem_cons.1 hi with rfl | hi
    · exact h5 e he
    · refine ordOk_eff h6 ?_ hi
      split
      · exact List.mem_cons_of_mem _ he
      · exact he
theorem ordOk_new {l : List Oper} {need : Nat → List Nat} : ∀ {plan : List (Nat × Option (List Nat))} {pre effs : List Nat} {i : Nat}, ordOk l need pre effs plan → i ∈ plan.map (·.1) → i ∉ pre
  | (k, b) :: r, pre, effs, i, h, hi => by
    obtain ⟨h1, h2, h3, h4, h5, _, h6⟩ := h
    rcases List.mem_cons.1 hi with rfl | hi
    · exact h2
    · exact fun hp => ordOk_new h6 hi (List.mem_cons_of_mem _ hp)
def preOk (l : List Oper) (need : Nat → List Nat) : List Nat → Prop
  | [] => True
  | i :: p => i < l.length ∧ i ∉ p ∧ (∀ j ∈ need i, j ∈ p) ∧ (∀ j ∈ zdeps l i, j ∈ p) ∧ preOk l need p
theorem preOk.need {l : List Oper} {need : Nat → List Nat} : ∀ {p : List Nat}, preOk l need p → ∀ i ∈ p, ∀ j ∈ need i, j ∈ p
  | k :: p, h, i, hi, j, hj => by
    obtain ⟨h0, h1, h2, h3, h4⟩ := h
    rcases List.mem_cons.1 hi with rfl | hi
    · exact List.mem_cons_of_mem _ (h2 j hj)
    · exact List.mem_cons_of_mem _ (preOk.need h4 i hi j hj)
theorem preOk.first {l : List Oper} {need : Nat → List Nat} (S : Nat → Prop) [DecidablePred S] : ∀ {p : List Nat}, preOk l need p → (∃ i ∈ p, ¬ S i) → ∃ i ∈ p, ¬ S i ∧ i < l.length ∧ ∀ j ∈ zdeps l i, S j
  | k :: p, h, hex => by
    obtain ⟨h0, h1, h2, h3, h4⟩ := h
    by_cases hp : ∃ i ∈ p, ¬ S i
    · obtain ⟨i, h5, h6, h7, h8⟩ := preOk.first S h4 hp
      exact ⟨i, List.mem_cons_of_mem _ h5, h6, h7, h8⟩
    · obtain ⟨i, hi, hs⟩ := hex
      rcases List.mem_cons.1 hi with rfl | hi
      · refine ⟨i, List.mem_cons_self .., hs, h0, fun j hj => ?_⟩
        exact Classical.byContradiction fun hn => hp ⟨j, h3 j hj, hn⟩
      · exact absurd ⟨i, hi, hs⟩ hp
/-- One that is pending: its number, what it holds, its value, the frame that it is to see. -/
abbrev Pnd := Nat × HeldL × Value × Fr
structure UOk (P : Program) (l : List Oper) (held : HeldG) (A : Fr) (H : Heap) (x : Pnd) : Prop where
  h : ∃ o, l[x.1]? = some o ∧ (∀ t, o.dst = some t → A t = x.2.2.1) ∧ ((zwant l o x.2.2.2 ∧ Flt P o (ev x.2.2.2) x.2.1 x.2.2.1 ∧ heldIn x.2.1 H ∧ (x.1, x.2.1) ∈ held) ∨ (zskip l o x.2.2.2 ∧ x.2.2.1 = undef))
theorem ev_put {A : Fr} {d : Option Nat} {v : Value} {x : Operand} (h : ∀ t, x = .tmp t → d ≠ some t) : ev (put A d v) x = ev A x := by
  cases x with
  | tmp t =>
    cases d with
    | none => rfl
    | some d =>
      show (if t = d then v else A t) = A t
      rw [if_neg]
      intro e; exact h t rfl (by rw [e])
  | _ => rfl
theorem put_ne {A : Fr} {d : Option Nat} {v : Value} {t : Nat} (h : d ≠ some t) : put A d v t = A t := by
  cases d with
  | none => rfl
  | some d =>
    show (if t = d then v else A t) = A t
    rw [if_neg]
    intro e; exact h (by rw [e])
theorem uses_op {l : List Oper} {o : Oper} {t : Nat} (h : Operand.tmp t ∈ o.op.operands) : t ∈ zuses l o := by
  unfold zuses
  refine List.mem_append_left _ (List.mem_filterMap.2 ⟨.tmp t, Array.mem_toList_iff.2 h, rfl⟩)
theorem uses_g {l : List Oper} {o : Oper} {j : Nat} {want : Bool} {t : Nat} (hg : o.guard = some (j, want)) (ht : (l[j]?).bind (·.dst) = some t) : t ∈ zuses l o := by
  unfold zuses
  refine List.mem_append_right _ ?_
  rw [hg]
  simp [ht]
theorem zwant_congr {l : List Oper} {o : Oper} {A A' : Fr} (h : zwant l o A) (he : ∀ t ∈ zuses l o, A' t = A t) : zwant l o A' := by
  unfold zwant at *
  split
  · trivial
  · rename_i j want hg
    rw [hg] at h
    obtain ⟨t, ht, h⟩ := h
    exact ⟨t, ht, by rw [he t (uses_g hg ht)]; exact h⟩
theorem zskip_congr {l : List Oper} {o : Oper} {A A' : Fr} (h : zskip l o A) (he : ∀ t ∈ zuses l o, A' t = A t) : zskip l o A' := by
  obtain ⟨j, want, t, hg, ht, h⟩ := h
  exact ⟨j, want, t, hg, ht, by rw [he t (uses_g hg ht)]; exact h⟩
theorem UOk.put {l : List Oper} {need : Nat → List Nat} (z : ZOk l need) {held held' : HeldG} {A : Fr} {H : Heap} {x : Pnd} (h : UOk P l held A H x) {k : Nat} {ok : Oper} (hk : l[k]? = some ok) (hxk : x.1 ≠ k) (hhd : ∀ p ∈ held, p ∈ held') (v : Value) : UOk P l held' (Zed.put A ok.dst v) H x := by
  obtain ⟨o, ho, hd, h⟩ := h.h
  refine ⟨o, ho, fun t ht => ?_, h.imp (fun ⟨h1, h2, h3, h4⟩ => ⟨h1, h2, h3, hhd _ h4⟩) id⟩
  rw [put_ne (z.c4 x.1 k o ok t hxk ho hk ht)]; exact hd t ht
theorem tmp_is {φ : Ren} {A : Fr} {H : Heap} {a : Act} {w : World} (hs : St m φ A H a w) {t : Nat} (htm : t < m) {v : Value} (hA : A t = v) (hv : constOk v = true) : a.tmps[t]? = some v := by
  have hsz : t < a.tmps.size := by rw [hs.size]; exact htm
  have hr := hs.get t
  rw [hA] at hr
  have e1 : a.tmps.getD t undef = v := R.const_eq hv hr
  rw [Array.getElem?_eq_getElem hsz, ← e1]
  simp [hsz]
theorem zwanted {φ : Ren} {A : Fr} {H : Heap} {a : Act} {w : World} (hs : St m φ A H a w) {l : List Oper} (hm : ∀ o ∈ l, dstOk m o.dst = true) {o : Oper} (h : zwant l o A) : Region.wanted o (yielded l.toArray a.tmps) = true := by
  unfold Region.wanted
  unfold zwant at h
  split at h
  · rename_i hg; rw [hg]
  · rename_i j want hg
    obtain ⟨t, ht, hA⟩ := h
    have htm : t < m := by
      cases hj : l[j]? with
      | none => rw [hj] at ht; cases ht
      | some oj =>
        rw [hj] at ht
        have := hm oj (List.mem_of_getElem? hj)
        have e : oj.dst = some t := ht
        rw [e] at this
        simpa [dstOk] using this
    have e2 := tmp_is hs htm hA (by rfl)
    rw [hg]
    simp only [yielded, List.getElem?_toArray, ht, Option.bind_some, e2]
    cases want <;> rfl
theorem zskipped {φ : Ren} {A : Fr} {H : Heap} {a : Act} {w : World} (hs : St m φ A H a w) {l : List Oper} (hm : ∀ o ∈ l, dstOk m o.dst = true) {o : Oper} (h : zskip l o A) : Region.wanted o (yielded l.toArray a.tmps) = false := by
  obtain ⟨j, want, t, hg, ht, hA⟩ := h
  have htm : t < m := by
    cases hj : l[j]? with
    | none => rw [hj] at ht; cases ht
    | some oj =>
      rw [hj] at ht
      have := hm oj (List.mem_of_getElem? hj)
      have e : oj.dst = some t := ht
      rw [e] at this
      simpa [dstOk] using this
  unfold Region.wanted
  rw [hg]
  rcases hA with hA | hA
  · have e2 := tmp_is hs htm hA (by rfl)
    simp only [yielded, List.getElem?_toArray, ht, Option.bind_some, e2]
    cases want <;> rfl
  · have e2 := tmp_is hs htm hA (by simp [constOk, undef])
    simp only [yielded, List.getElem?_toArray, ht, Option.bind_some, e2]
    cases want <;> rfl
theorem set_getD {listed : Array Bool} {i j : Nat} (hi : i < listed.size) (d : Bool) : (listed.setIfInBounds i true).getD j d = if j = i then true else listed.getD j d := by
  by_cases e : j = i
  · subst e; simp [hi]
  · rw [if_neg e]
    simp only [Array.getD_eq_getD_getElem?]
    rw [Array.getElem?_setIfInBounds_ne (fun q => e q.symm)]
structure ZSt (P : Program) (l : List Oper) (need : Nat → List Nat) (pre : List Nat) (plan : List (Nat × Option (List Nat))) (held : List (Nat × HeldL)) (A : Fr) (H : Heap) (U : List Pnd) (listed : Array Bool) (Aa : Fr) : Prop where
  pr : preOk l need pre
  all : ∀ i, i < l.length → i ∈ pre ∨ i ∈ plan.map (·.1)
  u : ∀ x ∈ U, UOk P l held A H x ∧ x.1 ∈ pre
  size : listed.size = l.length
  lis : ∀ i d, i < l.length → (listed.getD i d = true ↔ i ∈ pre ∧ ∀ x ∈ U, x.1 ≠ i)
  cl : ∀ i, i < l.length → listed.getD i false = true → ∀ j ∈ need i, listed.getD j false = true
  ag : ∀ t, (∀ x ∈ U, ∀ o : Oper, l[x.1]? = some o → o.dst ≠ some t) → Aa t = A t
  us : ∀ x ∈ U, ∀ o : Oper, l[x.1]? = some o → ∀ t ∈ zuses l o, (∀ y ∈ U, y.1 ∈ need x.1 → ∀ oy : Oper, l[y.1]? = some oy → oy.dst ≠ some t) → Aa t = x.2.2.2 t
  uy : ∀ x ∈ U, ∀ y ∈ U, y.1 ∈ need x.1 → ∀ (o oy : Oper) (t : Nat), l[x.1]? = some o → l[y.1]? = some oy → oy.dst = some t → t ∈ zuses l o → x.2.2.2 t = y.2.2.1
section
variable {l : List Oper} {need : Nat → List Nat} {pre effs : List Nat} {plan : List (Nat × Option (List Nat))} {held : HeldG} {A : Fr} {H : Heap} {U : List Pnd} {listed : Array Bool} {Aa : Fr}
theorem zdeps_listed {i : Nat} {o : Oper} (ho : l[i]? = some o) : (∀ j ∈ zdeps l i, listed.getD j false = true) ↔ ∀ e ∈ o.after, Region.binds .any e = true → listed.getD e.on false = true := by
  unfold zdeps
  rw [ho]
  simp only [List.mem_map, List.mem_filter, Array.mem_toList_iff]
  constructor
  · exact fun h e he hb => h _ ⟨e, ⟨he, hb⟩, rfl⟩
  · rintro h j ⟨e, ⟨he, hb⟩, rfl⟩; exact h e he hb
theorem ZSt.unl (hS : ZSt P l need pre plan held A H U listed Aa) {i : Nat} (hi : i < l.length) (h : listed.getD i false = false) : listed.getD i true = false := by
  have hs : i < listed.size := by rw [hS.size]; exact hi
  simp [hs] at h ⊢
  exact h
theorem ZSt.ready (hS : ZSt P l need pre plan held A H U listed Aa) (ho : ordOk l need pre effs plan) (hne : U ≠ [] ∨ plan ≠ []) : ∃ i, i ∈ Region.ready .any l.toArray listed := by
  have fin : ∀ i, i < l.length → listed.getD i false = false → (∀ j ∈ zdeps l i, listed.getD j false = true) → i ∈ Region.ready .any l.toArray listed := fun i hi hu hd => by
    have hg : l[i]? = some l[i] := List.getElem?_eq_getElem hi
    exact mem_ready.2 ⟨hS.unl hi hu, l[i], by simp [hi], (zdeps_listed hg).1 hd⟩
  by_cases hex : ∃ i ∈ pre, ¬ (listed.getD i false = true)
  · obtain ⟨i, _, h2, h3, h4⟩ := preOk.first (fun i => listed.getD i false = true) hS.pr hex
    exact ⟨i, fin i h3 (by simpa using h2) h4⟩
  · have hall : ∀ i ∈ pre, listed.getD i false = true := fun i hi => Classical.byContradiction fun hn => hex ⟨i, hi, hn⟩
    have hU : U = [] := by
      cases U with
      | nil => rfl
      | cons x U =>
        have h1 := hS.u x (List.mem_cons_self ..)
        obtain ⟨o, ho, _⟩ := h1.1.h
        have h2 := (hS.lis x.1 false (List.getElem?_eq_some_iff.1 ho).1).1 (hall _ h1.2)
        exact absurd rfl (h2.2 x (List.mem_cons_self ..))
    cases plan with
    | nil => exact absurd rfl (hne.resolve_left (fun h => h hU))
    | cons ib plan =>
      obtain ⟨i, b⟩ := ib
      obtain ⟨h1, h2, h3, h4, _⟩ := ho
      refine ⟨i, fin i h1 ?_ fun j hj => hall j (h4 j hj)⟩
      cases hq : listed.getD i false with
      | false => rfl
      | true => exact absurd ((hS.lis i false h1).1 hq).1 h2
theorem ZSt.needs (z : ZOk l need) (hS : ZSt P l need pre plan held A H U listed Aa) {i : Nat} {o : Oper} (ho : l[i]? = some o) (hr : i ∈ Region.ready .any l.toArray listed) : (∀ j ∈ zdeps l i, listed.getD j false = true) ∧ ∀ j ∈ need i, listed.getD j false = true := by
  obtain ⟨_, o', ho', hd⟩ := mem_ready.1 hr
  have e : o' = o := by rw [List.getElem?_toArray, ho] at ho'; exact (Option.some.inj ho').symm
  subst e
  have hd := (zdeps_listed ho).2 hd
  refine ⟨hd, fun j hj => ?_⟩
  rcases z.c2 i j (List.getElem?_eq_some_iff.1 ho).1 hj with h | ⟨d, hd1, hd2⟩
  · exact hd j h
  · have h1 := hd d hd1
    have hlt : d < l.length := by
      rw [← hS.size]
      rcases Nat.lt_or_ge d listed.size with h | h
      · exact h
      · simp [Array.getElem?_eq_none h] at h1
    exact hS.cl d hlt h1 j hd2
/-- A pending one is not needed by one that may come. -/
theorem ZSt.pend (hS : ZSt P l need pre plan held A H U listed Aa) {i : Nat} (hn : ∀ j ∈ need i, listed.getD j false = true) {x : Pnd} (hx : x ∈ U) : x.1 ∉ need i := fun h => by
  have h1 := hn _ h
  obtain ⟨o, ho, _⟩ := (hS.u x hx).1.h
  exact ((hS.lis x.1 false (List.getElem?_eq_some_iff.1 ho).1).1 h1).2 x hx rfl
/-- What one that is not pending looks at stands in the frame. -/
theorem ZSt.same (z : ZOk l need) (hS : ZSt P l need pre plan held A H U listed Aa) {i : Nat} {o : Oper} (ho : l[i]? = some o) (hip : i ∉ pre) (hn : ∀ j ∈ need i, listed.getD j false = true) : ∀ t ∈ zuses l o, Aa t = A t := fun t ht =>
  hS.ag t fun x hx ox hox e => by
    rcases z.c3 i x.1 o ox t ho hox e ht with h | h | h
    · exact hip (h ▸ (hS.u x hx).2)
    · exact hS.pend hn hx h
    · exact hip (hS.pr.need x.1 (hS.u x hx).2 _ h)
/-- What a pending one that may come looks at. -/
theorem ZSt.sees (hS : ZSt P l need pre plan held A H U listed Aa) {x : Pnd} (hx : x ∈ U) {o : Oper} (ho : l[x.1]? = some o) (hn : ∀ j ∈ need x.1, listed.getD j false = true) : ∀ t ∈ zuses l o, Aa t = x.2.2.2 t := fun t ht =>
  hS.us x hx o ho t ht fun y hy hyn => absurd hyn (hS.pend hn hy)
theorem cl_set (hS : ZSt P l need pre plan held A H U listed Aa) {i : Nat} (hi : i < l.length) (hn : ∀ j ∈ need i, listed.getD j false = true) : ∀ k, k < l.length → (listed.setIfInBounds i true).getD k false = true → ∀ j ∈ need k, (listed.setIfInBounds i true).getD j false = true := by
  intro k hk hl j hj
  have hs : i < listed.size := by rw [hS.size]; exact hi
  rw [set_getD hs] at hl ⊢
  split
  · rfl
  · split at hl
    · rename_i e; subst e; exact hn j hj
    · exact hS.cl k hk hl j hj
theorem ZSt.runU (z : ZOk l need) (hm : ∀ o ∈ l, dstOk m o.dst = true) (hop : ∀ o ∈ l, ∀ x ∈ o.op.operands, opndOk x = true) (hS : ZSt P l need pre plan held A H U listed Aa) {x : Pnd} (hx : x ∈ U) (hr : x.1 ∈ Region.ready .any l.toArray listed) {φ : Ren} {a : Act} {w : World} (hs : St m φ Aa H a w) {Qc : Exit → Act → World → Prop} :
    wpOp P l.toArray Qc x.1 (fun a' w' => ∃ φ' Aa', St m φ' Aa' H a' w' ∧ Ok φ H w φ' H w' ∧ ZSt P l need pre plan held A H (U.filter fun y => y.1 != x.1) (listed.setIfInBounds x.1 true) Aa') a w := by
  obtain ⟨⟨o, ho, hd, hc⟩⟩ := (hS.u x hx).1
  have hpre := (hS.u x hx).2
  have hlt := (List.getElem?_eq_some_iff.1 ho).1
  have hmem := List.mem_of_getElem? ho
  obtain ⟨hn1, hn2⟩ := hS.needs z ho hr
  have hsame := hS.sees hx ho hn2
  have hsz : x.1 < listed.size := by rw [hS.size]; exact hlt
  have fin : ZSt P l need pre plan held A H (U.filter fun y => y.1 != x.1) (listed.setIfInBounds x.1 true) (put Aa o.dst x.2.2.1) := by
    refine ⟨hS.pr, hS.all, fun y hy => hS.u y (List.mem_filter.1 hy).1, by simp [hS.size], fun j d hj => ?_, cl_set hS hlt hn2, fun t ht => ?_, fun y hy oy hoy t ht hp => ?_, fun y hy y2 hy2 => hS.uy y (List.mem_filter.1 hy).1 y2 (List.mem_filter.1 hy2).1⟩
    · rw [set_getD hsz]
      by_cases e : j = x.1
      · rw [if_pos e]
        refine ⟨fun _ => ⟨e ▸ hpre, fun y hy => ?_⟩, fun _ => rfl⟩
        have := (List.mem_filter.1 hy).2
        rw [e]; simpa using this
      · rw [if_neg e, hS.lis j d hj]
        refine and_congr_right fun _ => ⟨fun h y hy => h y (List.mem_filter.1 hy).1, fun h y hy e2 => ?_⟩
        exact h y (List.mem_filter.2 ⟨hy, by simp; rw [e2]; exact e⟩) e2
    · by_cases e : o.dst = some t
      · rw [e, put_at, if_pos rfl]; exact (hd t e).symm
      · rw [put_ne e]
        refine hS.ag t fun y hy oy hoy => ?_
        by_cases ey : y.1 = x.1
        · rw [ey, ho] at hoy
          injection hoy with hoy
          rw [← hoy]; exact e
        · exact ht y (List.mem_filter.2 ⟨hy, by simpa using ey⟩) oy hoy
    · obtain ⟨hy1, hy2⟩ := List.mem_filter.1 hy
      have hyx : y.1 ≠ x.1 := by simpa using hy2
      by_cases e : o.dst = some t
      · rw [e, put_at, if_pos rfl]
        rcases z.c3 y.1 x.1 oy o t hoy ho e ht with h | h | h
        · exact absurd h hyx
        · exact (hS.uy y hy1 x hx h oy o t hoy ho e ht).symm
        · exact absurd h (hS.pend hn2 hy1)
      · rw [put_ne e]
        refine hS.us y hy1 oy hoy t ht fun q hq hqn oq hoq => ?_
        by_cases eq : q.1 = x.1
        · rw [eq, ho] at hoq
          injection hoq with hoq
          rw [← hoq]; exact e
        · exact hp q (List.mem_filter.2 ⟨hq, by simpa using eq⟩) hqn oq hoq
  unfold wpOp
  rw [List.getElem?_toArray, ho]
  simp only
  rcases hc with ⟨h1, h2, h3, h4⟩ | ⟨h1, h2⟩
  · rw [if_pos (zwanted hs hm (zwant_congr h1 hsame))]
    refine .inl (h2 H h3 φ a w _ _ hs.holds (fun y hy => ?_) ?_)
    · have e : ev x.2.2.2 y = ev Aa y := by
        cases y with
        | tmp t => exact (hsame t (uses_op hy)).symm
        | _ => rfl
      rw [e]; exact hs.ev (hop o hmem y hy)
    · rintro φ' v u H' w' ⟨rfl, rfl⟩ hr' hh' ok'
      exact ⟨φ', _, (hs.step ok' hh').put (hm o hmem) hr', ok', fin⟩
  · rw [if_neg (by rw [zskipped hs hm (zskip_congr h1 hsame)]; simp)]
    rw [h2] at fin
    exact ⟨φ, _, hs.put (hm o hmem) R.undef, Ok.refl, fin⟩
end
theorem AZ.sim {l : List Oper} {need : Nat → List Nat} (z : ZOk l need) (hm : ∀ o ∈ l, dstOk m o.dst = true) (hop : ∀ o ∈ l, ∀ x ∈ o.op.operands, opndOk x = true) {K : Fr → Heap → Prop} {Qc : Exit → Act → World → Prop} :
    ∀ (fuel : Nat) (plan : List (Nat × Option (List Nat))) (pre effs : List Nat) (held : List (Nat × HeldL)) (A : Fr) (H : Heap) (U : List Pnd) (listed : Array Bool) (Aa : Fr) (φ : Ren) (a : Act) (w : World),
      AZ P l K plan held A H → ordOk l need pre effs plan → ZSt P l need pre plan held A H U listed Aa → plan.length + U.length ≤ fuel → St m φ Aa H a w →
      (∀ φ' A' H' a' w', K A' H' → St m φ' A' H' a' w' → Ok φ H w φ' H' w' → Qc .normal a' w') → wpAny P .any l.toArray Qc fuel listed a w := by
  intro fuel
  induction fuel with
  | zero =>
    intro plan pre effs held A H U listed Aa φ a w hz ho hS hf hs hk
    have hp : plan = [] := List.eq_nil_of_length_eq_zero (by omega)
    have hU : U = [] := List.eq_nil_of_length_eq_zero (by omega)
    subst hp hU
    have hK : K A H := by cases hz; assumption
    have hAa : Aa = A := funext fun t => hS.ag t (fun x hx => by cases hx)
    subst hAa
    refine ⟨?_, hk φ Aa H a w hK hs Ok.refl⟩
    refine List.eq_nil_iff_forall_not_mem.2 fun i hi => ?_
    obtain ⟨h1, o, h2, _⟩ := mem_ready.1 hi
    have hlt : i < l.length := by have := (Array.getElem?_eq_some_iff.1 h2).1; simpa using this
    have := (hS.lis i true hlt).2 ⟨(hS.all i hlt).resolve_right (by simp), fun x hx => by cases hx⟩
    rw [this] at h1; cases h1
  | succ fuel ih =>
    -- a pending one comes
    have stepU : ∀ (plan : List (Nat × Option (List Nat))) (pre effs : List Nat) (held : List (Nat × HeldL)) (A : Fr) (H : Heap) (U : List Pnd) (listed : Array Bool) (Aa : Fr) (φ : Ren) (a : Act) (w : World),
      AZ P l K plan held A H → ordOk l need pre effs plan → ZSt P l need pre plan held A H U listed Aa → plan.length + U.length ≤ fuel + 1 → St m φ Aa H a w →
      (∀ φ' A' H' a' w', K A' H' → St m φ' A' H' a' w' → Ok φ H w φ' H' w' → Qc .normal a' w') → ∀ x ∈ U, x.1 ∈ Region.ready .any l.toArray listed → wpOp P l.toArray Qc x.1 (wpAny P .any l.toArray Qc fuel (listed.setIfInBounds x.1 true)) a w := by
      intro plan pre effs held A H U listed Aa φ a w hz ho hS hf hs hk x hx hr
      refine wpOp_mono ?_ (hS.runU z hm hop hx hr hs)
      rintro a' w' ⟨φ', Aa', hs', ok', hS'⟩
      have hlen : (U.filter fun y => y.1 != x.1).length < U.length := by
        refine List.length_filter_lt_length_iff_exists.2 ⟨x, hx, by simp⟩
      exact ih plan pre effs held A H _ _ Aa' φ' a' w' hz ho hS' (by omega) hs' (fun φ2 A2 H2 a2 w2 q s ok => hk φ2 A2 H2 a2 w2 q s (ok'.trans ok))
    intro plan
    induction plan with
    | nil =>
      intro pre effs held A H U listed Aa φ a w hz ho hS hf hs hk
      refine ⟨fun hr => ?_, fun i hi => ?_⟩
      · have hU : U = [] := Classical.byContradiction fun h => by
          obtain ⟨i, hi⟩ := hS.ready ho (.inl h)
          rw [hr] at hi; cases hi
        subst hU
        have hK : K A H := by cases hz; assumption
        have hAa : Aa = A := funext fun t => hS.ag t (fun x hx => by cases hx)
        subst hAa
        exact hk φ Aa H a w hK hs Ok.refl
      · obtain ⟨h1, o, h2, _⟩ := mem_ready.1 hi
        have hlt : i < l.length := by have := (Array.getElem?_eq_some_iff.1 h2).1; simpa using this
        have hex : ∃ x ∈ U, x.1 = i := Classical.byContradiction fun hn => by
          have := (hS.lis i true hlt).2 ⟨(hS.all i hlt).resolve_right (by simp), fun x hx e => hn ⟨x, hx, e⟩⟩
          rw [this] at h1; cases h1
        obtain ⟨x, hx, rfl⟩ := hex
        exact stepU [] pre effs held A H U listed Aa φ a w hz ho hS hf hs hk x hx hi
    | cons ib plan ihp =>
      intro pre effs held A H U listed Aa φ a w hz ho hS hf hs hk
      obtain ⟨h1, h2, h3, h4, h5, h56, h6⟩ := ho
      have ho' : ordOk l need pre effs (ib :: plan) := ⟨h1, h2, h3, h4, h5, h56, h6⟩
      have hpre' : preOk l need (ib.1 :: pre) := ⟨h1, h2, h3, h4, hS.pr⟩
      have hall' : ∀ i, i < l.length → i ∈ ib.1 :: pre ∨ i ∈ plan.map (·.1) := fun i hi => by
        rcases hS.all i hi with h | h
        · exact .inl (List.mem_cons_of_mem _ h)
        · rcases List.mem_cons.1 h with h | h
          · exact .inl (h ▸ List.mem_cons_self ..)
          · exact .inr h
      have hun : ∀ d, listed.getD ib.1 d = true → False := fun d h => h2 ((hS.lis ib.1 d h1).1 h).1
      have hnx : ∀ x ∈ U, x.1 ≠ ib.1 ∧ ib.1 ∉ need x.1 := fun x hx => ⟨fun e => h2 (e ▸ (hS.u x hx).2), fun h => h2 (hS.pr.need x.1 (hS.u x hx).2 _ h)⟩
      -- one that floats is pending from here on
      have pass : ∀ (o : Oper) (v : Value) (hl : HeldL) (held' : HeldG), l[ib.1]? = some o → (∀ p ∈ held, p ∈ held') → ((zwant l o A ∧ Flt P o (ev A) hl v ∧ heldIn hl H ∧ (ib.1, hl) ∈ held') ∨ (zskip l o A ∧ v = undef)) → ZSt P l need (ib.1 :: pre) plan held' (put A o.dst v) H ((ib.1, hl, v, A) :: U) listed Aa := by
        intro o v hl held' hio hhd hc
        refine ⟨hpre', hall', fun x hx => ?_, hS.size, fun j d hj => ?_, hS.cl, fun t ht => ?_, fun x hx ox hox t ht hp => ?_, fun x hx y hy hyn ox oy t hox hoy hd ht => ?_⟩
        · rcases List.mem_cons.1 hx with rfl | hx
          · exact ⟨⟨o, hio, fun t ht => by rw [ht, put_at, if_pos rfl], hc⟩, List.mem_cons_self ..⟩
          · exact ⟨(hS.u x hx).1.put z hio (hnx x hx).1 hhd v, List.mem_cons_of_mem _ (hS.u x hx).2⟩
        · by_cases e : j = ib.1
          · subst e
            refine ⟨fun h => (hun d h).elim, fun h => absurd rfl (h.2 (ib.1, hl, v, A) (List.mem_cons_self ..))⟩
          · rw [hS.lis j d hj]
            refine ⟨fun h => ⟨List.mem_cons_of_mem _ h.1, fun x hx => ?_⟩, fun h => ⟨(List.mem_cons.1 h.1).resolve_left e, fun x hx => h.2 x (List.mem_cons_of_mem _ hx)⟩⟩
            rcases List.mem_cons.1 hx with rfl | hx
            · exact fun q => e q.symm
            · exact h.2 x hx
        · rw [put_ne (ht (ib.1, hl, v, A) (List.mem_cons_self ..) o hio)]
          exact hS.ag t fun x hx => ht x (List.mem_cons_of_mem _ hx)
        · rcases List.mem_cons.1 hx with rfl | hx
          · have e : ox = o := by rw [hio] at hox; exact (Option.some.inj hox).symm
            subst e
            refine hS.ag t fun y hy oy hoy e => ?_
            rcases z.c3 ib.1 y.1 ox oy t hio hoy e ht with h | h | h
            · exact (hnx y hy).1 h.symm
            · exact hp y (List.mem_cons_of_mem _ hy) h oy hoy e
            · exact (hnx y hy).2 h
          · exact hS.us x hx ox hox t ht fun y hy => hp y (List.mem_cons_of_mem _ hy)
        · rcases List.mem_cons.1 hx with rfl | hx
          · rcases List.mem_cons.1 hy with rfl | hy
            · exact absurd (h3 _ hyn) h2
            · obtain ⟨oy', q1, q2, _⟩ := (hS.u y hy).1.h
              have e : oy' = oy := by rw [hoy] at q1; exact (Option.some.inj q1).symm
              subst e
              exact q2 t hd
          · rcases List.mem_cons.1 hy with rfl | hy
            · exact absurd hyn (hnx x hx).2
            · exact hS.uy x hx y hy hyn ox oy t hox hoy hd ht
      obtain ⟨i, b⟩ := ib
      cases hz with
      | flt hi hw hf' hh h =>
        refine ihp (i :: pre) _ _ _ H ((i, _, _, _) :: U) listed Aa φ a w h h6 (pass _ _ _ _ hi (fun p hp => List.mem_cons_of_mem _ hp) (.inl ⟨hw, hf', hh, List.mem_cons_self ..⟩)) ?_ hs hk
        simp only [List.length_cons] at hf ⊢; omega
      | skip hi hw h =>
        refine ihp (i :: pre) _ _ _ H ((i, [], undef, _) :: U) listed Aa φ a w h h6 (pass _ _ [] _ hi (fun p hp => hp) (.inr ⟨hw, rfl⟩)) ?_ hs hk
        simp only [List.length_cons] at hf ⊢; omega
      | @eff _ rel _ _ _ _ o Kv hi hw he hh h =>
        have hz' : AZ P l K ((i, some rel) :: plan) held A H := .eff Kv hi hw he hh h
        refine ⟨fun hr => ?_, fun j hj => ?_⟩
        · obtain ⟨k, hk2⟩ := hS.ready ho' (.inr (by simp))
          rw [hr] at hk2; cases hk2
        · obtain ⟨q1, oj, q2, _⟩ := mem_ready.1 hj
          have hlt : j < l.length := by have := (Array.getElem?_eq_some_iff.1 q2).1; simpa using this
          have q2' : l[j]? = some oj := by rw [← q2, List.getElem?_toArray]
          by_cases eji : j = i
          · subst eji
            obtain ⟨hn1, hn2⟩ := hS.needs z hi hj
            have hsame := hS.same z hi h2 hn2
            have hmem := List.mem_of_getElem? hi
            have hsz : j < listed.size := by rw [hS.size]; exact h1
            unfold wpOp
            rw [List.getElem?_toArray, hi]
            simp only
            rw [if_pos (zwanted hs hm (zwant_congr hw hsame))]
            refine .inl (he φ a w _ _ hs.holds (fun y hy => ?_) ?_)
            · have e : ev A y = ev Aa y := by
                cases y with
                | tmp t => exact (hsame t (uses_op hy)).symm
                | _ => rfl
              rw [e]; exact hs.ev (hop o hmem y hy)
            · intro φ' v u H' w' hKv hr' hh' ok'
              refine ih plan (j :: pre) (j :: effs) _ _ H' U _ (put Aa o.dst v) φ' _ w' (h v H' hKv) (by simpa using h6) ?_ (by simp only [List.length_cons] at hf; omega) ((hs.step ok' hh').put (hm o hmem) hr') (fun φ2 A2 H2 a2 w2 q s ok => hk φ2 A2 H2 a2 w2 q s (ok'.trans ok))
              refine ⟨hpre', hall', fun x hx => ⟨?_, List.mem_cons_of_mem _ (hS.u x hx).2⟩, by simp [hS.size], fun k d hk2 => ?_, cl_set hS h1 hn2, fun t ht => ?_, fun x hx ox hox t ht hp => ?_, hS.uy⟩
              · have hxn := hS.pend hn2 hx
                have hu := (hS.u x hx).1.put z hi (hnx x hx).1 (held' := held) (fun p hp => hp) v
                obtain ⟨o', r1, r2, r3⟩ := hu.h
                refine ⟨o', r1, r2, r3.imp ?_ id⟩
                rintro ⟨s1, s2, s3, s4⟩
                have hnr : rel.contains x.1 = false := by
                  cases hc : rel.contains x.1 with
                  | false => rfl
                  | true => exact absurd (h56 x.1 (List.contains_iff_mem.1 hc)) hxn
                have hin := mem_dropG s4 hnr
                exact ⟨s1, s2, hh v H' hKv _ hin, hin⟩
              · rw [set_getD hsz]
                by_cases e : k = j
                · rw [if_pos e]
                  exact ⟨fun _ => ⟨e ▸ List.mem_cons_self .., fun x hx => e ▸ (hnx x hx).1⟩, fun _ => rfl⟩
                · rw [if_neg e, hS.lis k d hk2]
                  exact and_congr_left fun _ => ⟨List.mem_cons_of_mem _, fun h => (List.mem_cons.1 h).resolve_left e⟩
              · by_cases e : o.dst = some t
                · rw [e, put_at, put_at, if_pos rfl, if_pos rfl]
                · rw [put_ne e, put_ne e]; exact hS.ag t ht
              · rw [put_ne fun e => ?_]
                · exact hS.us x hx ox hox t ht hp
                · rcases z.c3 x.1 j ox o t hox hi e ht with h | h | h
                  · exact (hnx x hx).1 h
                  · exact (hnx x hx).2 h
                  · exact hS.pend hn2 hx h
          · have hjp : j ∉ plan.map (·.1) := fun hjp => by
              have hne := ordOk_eff h6 (e := i) (by simp) hjp
              exact hun false ((hS.needs z q2' hj).2 i hne)
            have hex : ∃ x ∈ U, x.1 = j := Classical.byContradiction fun hn => by
              rcases hS.all j hlt with hjj | hjj
              · have := (hS.lis j true hlt).2 ⟨hjj, fun x hx e => hn ⟨x, hx, e⟩⟩
                rw [this] at q1; cases q1
              · rcases List.mem_cons.1 hjj with e | hjj
                · exact eji e
                · exact hjp hjj
            obtain ⟨x, hx, rfl⟩ := hex
            exact stepU ((i, some rel) :: plan) pre effs held A H U listed Aa φ a w hz' ho' hS hf hs hk x hx hj
/-- What an operation needs, by the edges. -/
def zneeds (l : List Oper) : List (List Nat) := (List.range l.length).foldl (fun acc i => acc ++ [((zdeps l i) ++ (zdeps l i).flatMap fun d => acc.getD d []).eraseDups]) []
def ordB (l : List Oper) (nd : List (List Nat)) : List Nat → List Nat → List (Nat × Option (List Nat)) → Bool
  | _, _, [] => true
  | pre, effs, (i, b) :: r => decide (i < l.length) && !pre.contains i && (nd.getD i []).all (pre.contains ·) && (zdeps l i).all (pre.contains ·) && effs.all ((nd.getD i []).contains ·) && (b.getD []).all ((nd.getD i []).contains ·) && ordB l nd (i :: pre) (if b.isSome = true then i :: effs else effs) r
def zchk (m : Nat) (l : List Oper) (plan : List (Nat × Option (List Nat))) (nd : List (List Nat)) : Bool :=
  (plan.length == l.length) && (List.range l.length).all (fun i => (plan.map (·.1)).contains i) && l.all (fun o => dstOk m o.dst && o.op.operands.toList.all opndOk) &&
  (List.range l.length).all (fun i => (nd.getD i []).all fun j => (zdeps l i).contains j || (zdeps l i).any fun d => (nd.getD d []).contains j) &&
  l.zipIdx.all (fun p => l.zipIdx.all fun q => match q.1.dst with
    | none => true
    | some t => (!(zuses l p.1).contains t || p.2 == q.2 || (nd.getD p.2 []).contains q.2 || (nd.getD q.2 []).contains p.2) && (p.2 == q.2 || p.1.dst != some t)) && ordB l nd [] [] plan
theorem ordB_ok {l : List Oper} {nd : List (List Nat)} : ∀ {plan : List (Nat × Option (List Nat))} {pre effs : List Nat}, ordB l nd pre effs plan = true → ordOk l (fun i => nd.getD i []) pre effs plan
  | [], _, _, _ => trivial
  | (i, b) :: r, pre, effs, h => by
    simp only [ordB, Bool.and_eq_true, decide_eq_true_eq, Bool.not_eq_true', List.all_eq_true, List.contains_iff_mem] at h
    obtain ⟨⟨⟨⟨⟨⟨h1, h2⟩, h3⟩, h4⟩, h5⟩, h56⟩, h6⟩ := h
    exact ⟨h1, fun hm => (by rw [List.contains_iff_mem.2 hm] at h2; cases h2), h3, h4, h5, h56, ordB_ok h6⟩
theorem AWp.zreg {id : Nat} {l : List Oper} {Q : Exit → Fr → Heap → Prop} {A : Fr} {H : Heap} (plan : List (Nat × Option (List Nat))) (hm : P.follows .mixedOrders = true) (hok : zchk m l plan (zneeds l) = true) (h : AZ P l (Q .normal) plan [] A H) : AWp P m (.region id l.toArray true) Q A H := by
  generalize zneeds l = nd at hok
  simp only [zchk, Bool.and_eq_true, beq_iff_eq, List.all_eq_true, List.mem_range, List.contains_iff_mem, List.any_eq_true, Bool.or_eq_true] at hok
  obtain ⟨⟨⟨⟨⟨k1, k2⟩, k3⟩, k4⟩, k5⟩, k6⟩ := hok
  have zz : ∀ (i j : Nat) (oi oj : Oper) (t : Nat), l[i]? = some oi → l[j]? = some oj → oj.dst = some t → (t ∉ zuses l oi ∨ i = j ∨ j ∈ nd.getD i [] ∨ i ∈ nd.getD j []) ∧ (i = j ∨ oi.dst ≠ some t) := by
    intro i j oi oj t hi hj ht
    have := k5 (oi, i) (List.mk_mem_zipIdx_iff_getElem?.2 hi) (oj, j) (List.mk_mem_zipIdx_iff_getElem?.2 hj)
    simp only [ht, Bool.and_eq_true, Bool.or_eq_true, Bool.not_eq_true', List.contains_iff_mem, beq_iff_eq, bne_iff_ne, ne_eq] at this
    refine ⟨?_, this.2⟩
    rcases this.1 with ((h | h) | h) | h
    · exact .inl fun hm => by rw [List.contains_iff_mem.2 hm] at h; cases h
    · exact .inr (.inl h)
    · exact .inr (.inr (.inl h))
    · exact .inr (.inr (.inr h))
  have z : ZOk l (fun i => nd.getD i []) := by
    refine ⟨fun i j hi hj => ?_, fun i j o oj t hi hj ht hu => ((zz i j o oj t hi hj ht).1).resolve_left (fun h => h hu), fun i j oi oj t hne hi hj ht e => ?_⟩
    · rcases k4 i hi j hj with h | ⟨d, h1, h2⟩
      · exact .inl h
      · exact .inr ⟨d, h1, h2⟩
    · exact ((zz i j oi oj t hi hj e).2).elim hne (fun h => h ht)
  intro φ a w hs
  have hs1 : St m φ A H a { w with drawn := w.drawn + 1 } := ⟨hs.defers, hs.size, hs.tmp, hs.out, hs.holds.drew _⟩
  refine wp_region_any hm ?_
  refine AZ.sim z (fun o ho => (k3 o ho).1) (fun o ho x hx => (k3 o ho).2 x (Array.mem_toList_iff.2 hx)) _ plan [] [] [] A H [] _ A φ a _ h (ordB_ok k6) ?_ (by simp [k1]) hs1 (fun φ' A' H' a' w' q s ok => ⟨φ', A', H', q, s, Ok.drew _ ok⟩)
  refine ⟨trivial, fun i hi => .inr (by simpa using k2 i hi), fun x hx => (by cases hx), by simp, fun i d hi => ?_, fun i hi h => ?_, fun t _ => rfl, fun x hx => (by cases hx), fun x hx => (by cases hx)⟩
  · refine ⟨fun h => ?_, fun h => by cases h.1⟩
    simp [hi] at h
  · simp [hi] at h
end
/-! ### One operation, whichever -/
section
variable {P : Program}
def pstep (P : Program) (o : Oper) (e : Operand → Value) (H : Heap) (K : Value → Prop) : Prop :=
  match o.op with
  | .move x => K (e x)
  | .assign x => K (e x)
  | .pick c x y => asBoolK (e c) fun b => K (if b = true then e x else e y)
  | .load t x => loadK P t H (e x) K
  | .binOp op t x y _ => binK P op t (e x) (e y) K
  | .unOp op _ x => unK op (e x) K
  | .convert s d x => convK P s d (e x) K
  | .makeFunc fn first cap => K (.func fn (first.map e) (cap.map e))
  | .fieldAddr s x f => fieldAddrK P s f (e x) K
  | .field s x f => fieldK P s f (e x) K
  | .indexAddr t x i => indexAddrK P t (e x) (e i) K
  | .index t x i => indexK P t (e x) (e i) K
  | .extract x i => extractK i (e x) K
  | .nilCheck x => nilK (e x) K
  | .slice t x lo hi mx => sliceK P t H (e x) (lo.map e) (hi.map e) (mx.map e) K
  | .build t parts => buildK P t (parts.map fun (i, x) => (i, e x)) K
  | .call c => match c.callee, c.args.toList, c.argTypes.toList with
    | .builtin .len, [x], [t] => lenK P t (e x) H K
    | .builtin .min, [x, y], _ => mnK (fun a b => if b < a then b else a) (e x) (e y) K
    | .builtin .max, [x, y], _ => mnK (fun a b => if b > a then b else a) (e x) (e y) K
    | _, _, _ => False
  | _ => False
where
  mnK (f : Int → Int → Int) (x y : Value) (K : Value → Prop) : Prop :=
    match x, y with
    | .int k a, .int k' b => k = k' ∧ K (.int k (f a b))
    | _, _ => False
theorem toList_one {α : Type} {xs : Array α} {x : α} (h : xs.toList = [x]) : xs = #[x] := by cases xs; simp at h; simp [h]
theorem toList_two {α : Type} {xs : Array α} {x y : α} (h : xs.toList = [x, y]) : xs = #[x, y] := by cases xs; simp at h; simp [h]
theorem pgives_step {o : Oper} {e : Operand → Value} {H : Heap} {K : Value → Prop} (h : pstep P o e H K) : PGives P o e H K := by
  obtain ⟨dst, op, ty, pos, af, g⟩ := o
  unfold pstep at h
  cases op with
  | move x => exact pg_move h
  | assign x => exact pg_assign h
  | pick c x y => exact pg_pick h
  | load t x => exact pg_load h
  | binOp op t x y yt => exact pg_bin h
  | unOp op t x => exact pg_un h
  | convert s d x => exact pg_conv h
  | makeFunc fn first cap => exact pg_func h
  | fieldAddr s x f => exact pg_fieldAddr h
  | field s x f => exact pg_field h
  | indexAddr t x i => exact pg_indexAddr h
  | index t x i => exact pg_index h
  | extract x i => exact pg_extract h
  | nilCheck x => exact pg_nil h
  | slice t x lo hi mx => exact pg_slice h
  | build t parts => exact pg_build h
  | call c =>
    obtain ⟨callee, args, ats⟩ := c
    simp only at h
    split at h
    · rename_i x t h1 h2
      rw [toList_one h1, toList_one h2]
      exact pg_len h
    · rename_i x y l h1
      rw [toList_two h1]
      unfold pstep.mnK at h
      split at h
      · rename_i k a k' b ex ey
        obtain ⟨rfl, hK⟩ := h
        exact pg_min2 ex ey hK
      · exact h.elim
    · rename_i x y l h1
      rw [toList_two h1]
      unfold pstep.mnK at h
      split at h
      · rename_i k a k' b ex ey
        obtain ⟨rfl, hK⟩ := h
        exact pg_max2 ex ey hK
      · exact h.elim
    · exact h.elim
  | _ => exact h.elim
def callK (P : Program) (f : Value) (args : List Value) (H : Heap) (K : Value → Heap → Prop) : Prop :=
  match f with
  | .func (.func f) xs ys => ACalls P f (xs.toList ++ args ++ ys.toList) H K
  | _ => False
def astep (P : Program) (o : Oper) (e : Operand → Value) (H : Heap) (K : Value → Heap → Prop) : Prop :=
  match o.op with
  | .box _ x => K (.pointer (some ⟨H.size, 0, none⟩)) (H.push (.cells (e x).cells.toList 1 false))
  | .alloc t => allocK P t H K
  | .store t x y => storeK P t H (e x) (e y) fun H' => K undef H'
  | .buildSlice t n parts => buildSliceK P t n (parts.map fun (i, x) => (i, e x)) H K
  | .makeSlice t l c => makeSliceK P t (e l) (e c) H K
  | .makeMap _ none => K (.map (some H.size)) (H.push (.map []))
  | .lookup t x i ok => lookupK P t (e x) (e i) ok H fun v => K v H
  | .mapUpdate t m k x => mapPutK P t (e m) (e k) (e x) H fun H' => K undef H'
  | .call c => match c.callee, c.args.toList, c.argTypes.toList with
    | .builtin .append, [s, x], [st, xt] => appendK P st xt (e s) (e x) H K
    | .builtin .copy, [s, x], [st, _] => copyK P st (e s) (e x) H K
    | .builtin .clear, [s], [st] => clearK P st (e s) H K
    | .value f, args, _ => callK P (e f) (args.map e) H K
    | _, _, _ => pstep P o e H fun v => K v H
  | _ => pstep P o e H fun v => K v H
theorem OpE.of_gives {o : Oper} {e : Operand → Value} {H : Heap} {K : Value → Heap → Prop} (h : Gives P o e H K) : OpE P o e H K := by
  intro φ a w Kc Qc hh hx hk
  obtain ⟨φ', v, v', H', w', hK, hrun, hr, hh', ok⟩ := h φ a.eval w hh hx
  unfold Oper.wp
  rcases hrun with e | ⟨e, e1, e2⟩
  · rw [e]; exact hk _ _ _ _ _ hK hr hh' ok
  · rw [e]; subst e1 e2; exact hk _ _ _ _ _ hK hr hh' ok
theorem OpE.call {dst : Option Nat} {ty : TypeId} {pos : String} {af : Array Edge} {g : Option (Nat × Bool)} {c : Operand} {args : Array Operand} {ats : Array TypeId} {e : Operand → Value} {H : Heap} {K : Value → Heap → Prop} {f : FuncId} {xs ys : Array Value} (hf : e c = .func (.func f) xs ys)
    (h : ACalls P f (xs.toList ++ args.toList.map e ++ ys.toList) H K) : OpE P ⟨dst, .call ⟨.value c, args, ats⟩, ty, pos, af, g⟩ e H K := by
  intro φ a w Kc Qc hh hx hk
  have hc := hx c (by simp [Op.operands, Call.operands])
  rw [hf] at hc
  obtain ⟨xs', ys', hc2, rx, ry⟩ : ∃ xs' ys', a.eval c = .func (.func f) xs' ys' ∧ RA φ H.has xs xs' ∧ RA φ H.has ys ys' := by
    generalize a.eval c = u at hc
    cases hc with
    | func _ _ _ xs' ys' h1 h2 hx hy => exact ⟨xs', ys', rfl, ⟨h1, hx⟩, ⟨h2, hy⟩⟩
  have hargs := RA.map (φ := φ) (has := H.has) args e a.eval (fun x hm => hx x (by simp [Op.operands, Call.operands, hm]))
  have hargs2 : RA φ H.has (xs.toList ++ args.toList.map e ++ ys.toList).toArray (xs' ++ args.map a.eval ++ ys') := by
    have := (rx.append hargs).append ry
    have e : (xs.toList ++ args.toList.map e ++ ys.toList).toArray = xs ++ args.map e ++ ys := by apply Array.toList_inj.1; simp
    rw [e]; exact this
  have hcall := h.2 φ (xs' ++ args.map a.eval ++ ys') w hh hargs2
  unfold Oper.wp
  have hrun : (execOp a.eval ⟨dst, .call ⟨.value c, args, ats⟩, ty, pos, af, g⟩).run P w = .ok (.enter f (xs' ++ args.map a.eval ++ ys')) w := by
    simp only [execOp, resolve, hc2, Deferred.ofValue, Sem.run_bind, Sem.run_pure, Result.andThen_ok, invoke]
    exact h.1 _ w
  rw [hrun]
  simp only [Oper.upon]
  refine hcall.mono ?_
  rintro e w' ⟨φ', v, v', H', rfl, hK, hr, hh', ok'⟩
  exact hk _ _ _ _ _ hK hr hh' ok'
theorem OpE.step {o : Oper} {e : Operand → Value} {H : Heap} {K : Value → Heap → Prop} (h : astep P o e H K) : OpE P o e H K := by
  have pg : Gives P o e H K → OpE P o e H K := OpE.of_gives
  obtain ⟨dst, op, ty, pos, af, g⟩ := o
  unfold astep at h
  cases op with
  | box t x => exact pg (gives_box h)
  | alloc t => exact pg (gives_alloc h)
  | store t x y => exact pg (gives_store h)
  | buildSlice t n parts => exact pg (gives_buildSlice h)
  | makeSlice t l c => exact pg (gives_makeSlice h)
  | makeMap t r => cases r with
    | none => exact pg (gives_makeMap h)
    | some r => exact pg (pgives_step h).gives
  | lookup t x i ok => exact pg (gives_lookup h)
  | mapUpdate t m k x => exact pg (gives_mapPut h)
  | call c =>
    obtain ⟨callee, args, ats⟩ := c
    simp only at h
    split at h
    · rename_i s x st xt h1 h2
      have e1 := toList_two h1
      have e2 := toList_two h2
      subst e1 e2
      exact pg (gives_append h)
    · rename_i s x st xt h1 h2
      have e1 := toList_two h1
      have e2 := toList_two h2
      subst e1 e2
      exact pg (gives_copy h)
    · rename_i s st h1 h2
      have e1 := toList_one h1
      have e2 := toList_one h2
      subst e1 e2
      exact pg (gives_clear h)
    · rename_i f l
      unfold callK at h
      split at h
      · rename_i fid xs ys ef
        exact OpE.call ef h
      · exact h.elim
    · exact pg (pgives_step h).gives
  | _ => exact pg (pgives_step h).gives
theorem AOp.step {m : Nat} {o : Oper} {K : Fr → Heap → Prop} {A : Fr} {H : Heap} (hd : dstOk m o.dst = true) (hx : o.op.operands.toList.all opndOk = true) (h : astep P o (ev A) H fun v H' => K (put A o.dst v) H') : AOp P m o K A H :=
  fun φ a w Kc Qc hs hk => OpE.step h φ a w Kc Qc hs.holds (fun x hm => hs.ev (List.all_eq_true.1 hx _ (Array.mem_toList_iff.2 hm))) fun φ' v u H' w' hK hr hh ok => hk _ _ _ _ _ hK ((hs.step ok hh).put hd hr) ok
theorem AOps.cons1 {m : Nat} {ops : Array Oper} {o : Oper} {rest : List Oper} {K : Fr → Heap → Prop} {A : Fr} {H : Heap} (hg : o.guard = none) (hd : dstOk m o.dst = true) (hx : o.op.operands.toList.all opndOk = true)
    (h : ∀ K' : Value → Heap → Prop, Cont (∀ v H', AOps P m ops rest K (put A o.dst v) H' → K' v H') → astep P o (ev A) H K') : AOps P m ops (o :: rest) K A H :=
  AOps.cons hg fun K' hK' => AOp.step hd hx (h _ fun v H' q => hK' _ _ q)
end
/-! ### A region that draws, by a plan: what is pure is taken as soon as it may come up -/
section
variable {P : Program}
/-- The operations that look at no memory. -/
def pure0 (o : Op) : Bool :=
  match o with
  | .move _ | .assign _ | .pick _ _ _ | .binOp _ _ _ _ _ | .unOp _ _ _ | .convert _ _ _ | .makeFunc _ _ _ | .fieldAddr _ _ _ | .field _ _ _ | .indexAddr _ _ _ | .index _ _ _ | .extract _ _ | .nilCheck _ | .build _ _ | .slice _ _ _ _ _ => true
  | .call c => match c.callee, c.args.toList, c.argTypes.toList with
    | .builtin .len, [_], [_] => true
    | .builtin .min, [_, _], _ => true
    | .builtin .max, [_, _], _ => true
    | _, _, _ => false
  | _ => false
def pstep0 (P : Program) (o : Oper) (e : Operand → Value) (K : Value → Prop) : Prop := pstep P o e ⟨0, fun _ => .absent⟩ K
theorem pstep0_any {o : Oper} {e : Operand → Value} {K : Value → Prop} (hp : pure0 o.op = true) (h : pstep0 P o e K) (H : Heap) : pstep P o e H K := by
  obtain ⟨dst, op, ty, pos, af, g⟩ := o
  unfold pstep0 pstep at h
  unfold pstep
  cases op with
  | call c =>
    obtain ⟨callee, args, ats⟩ := c
    simp only [pure0] at hp h ⊢
    revert h
    split at hp
    · rename_i x t h1 h2
      intro h
      simp only [lenK] at h ⊢
      split at h
      · exact h
      · exact h
      · exact h
      · exact h
      · exact h
      · unfold mapOf at h ⊢
        split at h
        · exact h
        · exact h.elim
        · exact h.elim
      · exact h.elim
    · rename_i x y l h1
      intro h
      exact h
    · rename_i x y l h1
      intro h
      exact h
    · simp at hp
  | load t x => simp [pure0] at hp
  | slice t x lo hi mx =>
    simp only [sliceK] at h ⊢
    split at h
    · exact h
    · exact h
    · exact h.elim
    · exact h
    · exact h
    · exact h
    · exact h
    · exact h
    · exact h.elim
  | _ => first | exact h | exact h.elim
theorem bnd_fix {v : Option Value} {d : Nat} {K : Nat → Prop} (h : bnd v d K) : ∃ n, K n ∧ ∀ K2 : Nat → Prop, K2 n → bnd v d K2 := by
  unfold bnd at h ⊢
  split at h
  · exact ⟨d, h, fun _ h => h⟩
  · exact ⟨_, h.2, fun _ h2 => ⟨h.1, h2⟩⟩
  · exact h.elim
/-- Which value it is. -/
theorem pstep0_det {o : Oper} {e : Operand → Value} {K : Value → Prop} (hp : pure0 o.op = true) (h : pstep0 P o e K) : ∃ v, K v ∧ pstep0 P o e (fun x => x = v) := by
  obtain ⟨dst, op, ty, pos, af, g⟩ := o
  unfold pstep0 pstep at h ⊢
  have pk : ∀ {k : Option Nat} {cs : Array Value} {off : Nat}, partK k cs off K → ∃ v, K v ∧ partK k cs off (fun x => x = v) := by
    intro k cs off h
    unfold partK at h ⊢
    cases k with
    | none => obtain ⟨v, hv, hK⟩ := h; exact ⟨v, hK, v, hv, rfl⟩
    | some n => exact ⟨_, h, rfl⟩
  cases op with
  | move x => exact ⟨_, h, rfl⟩
  | assign x => exact ⟨_, h, rfl⟩
  | pick c x y =>
    simp only [asBoolK] at h ⊢
    split at h
    · exact ⟨_, h, rfl⟩
    · exact h.elim
  | binOp op t x y yt =>
    simp only [binK] at h ⊢
    split at h
    · split at h <;> first | exact h.elim | exact ⟨_, h.2, h.1, rfl⟩ | exact ⟨_, h.2.2, h.1, h.2.1, rfl⟩
    · split at h <;> first | exact h.elim | exact ⟨_, h.2, h.1, rfl⟩
    · split at h <;> first | exact h.elim | exact ⟨_, h, rfl⟩ | exact ⟨_, h.2, h.1, rfl⟩
    · split at h
      · split at h <;> first | exact h.elim | exact ⟨_, h, rfl⟩
      · exact h.elim
    · obtain ⟨h0, h⟩ := h
      split at h
      · split at h <;> first | exact h.elim | exact ⟨_, h, h0, rfl⟩
      · exact h.elim
    · obtain ⟨h0, h⟩ := h
      split at h
      · split at h <;> first | exact h.elim | exact ⟨_, h, h0, rfl⟩
      · exact h.elim
    · obtain ⟨h1, h2, h3, h4⟩ := h
      split at h4
      · exact ⟨_, h4, h1, h2, h3, rfl⟩
      · exact ⟨_, h4, h1, h2, h3, rfl⟩
      · exact h4.elim
    · exact h.elim
  | unOp op t x =>
    simp only [unK] at h ⊢
    split at h <;> first | exact h.elim | exact ⟨_, h, rfl⟩
  | convert s d x =>
    simp only [convK] at h ⊢
    split at h <;> first | exact h.elim | exact ⟨_, h, rfl⟩
  | makeFunc fn first cap => exact ⟨_, h, rfl⟩
  | fieldAddr s x f =>
    simp only [fieldAddrK] at h ⊢
    split at h <;> first | exact h.elim | exact ⟨_, h.2, h.1, rfl⟩
  | field s x f =>
    simp only [fieldK] at h ⊢
    split at h <;> first | exact h.elim | exact pk h
  | indexAddr t x i =>
    simp only [indexAddrK] at h ⊢
    split at h
    case h_2 => exact h.elim
    simp only [ixK] at h ⊢
    split at h <;> first | exact h.elim | exact ⟨_, h.2.2, h.1, h.2.1, rfl⟩ | exact ⟨_, h.2.2.2, h.1, h.2.1, h.2.2.1, rfl⟩
  | index t x i =>
    simp only [indexK] at h ⊢
    split at h
    · split at h
      · split at h
        · obtain ⟨h0, h1, h2⟩ := h
          obtain ⟨v, hv, hp⟩ := pk h2
          exact ⟨v, hv, h0, h1, hp⟩
        · exact h.elim
      · exact h.elim
    · obtain ⟨h0, h1, b, h2, h3⟩ := h
      exact ⟨_, h3, h0, h1, b, h2, rfl⟩
    · exact h.elim
  | extract x i =>
    simp only [extractK] at h ⊢
    split at h
    · obtain ⟨v, hv, hK⟩ := h
      exact ⟨v, hK, v, hv, rfl⟩
    · exact h.elim
  | nilCheck x =>
    simp only [nilK] at h ⊢
    split at h <;> first | exact h.elim | exact ⟨_, h, rfl⟩
  | slice t x lo hi mx =>
    simp only [sliceK] at h ⊢
    split at h
    · obtain ⟨a, h1, f1⟩ := bnd_fix h
      obtain ⟨b, h2, f2⟩ := bnd_fix h1
      obtain ⟨c, h3, f3⟩ := bnd_fix h2
      exact ⟨_, h3.2.2.2.2, f1 _ (f2 _ (f3 _ ⟨h3.1, h3.2.1, h3.2.2.1, h3.2.2.2.1, rfl⟩))⟩
    · obtain ⟨h0, h⟩ := h
      obtain ⟨a, h1, f1⟩ := bnd_fix h
      obtain ⟨b, h2, f2⟩ := bnd_fix h1
      obtain ⟨c, h3, f3⟩ := bnd_fix h2
      exact ⟨_, h3.2.2.2.2, h0, f1 _ (f2 _ (f3 _ ⟨h3.1, h3.2.1, h3.2.2.1, h3.2.2.2.1, rfl⟩))⟩
    · exact h.elim
    · obtain ⟨a, h1, f1⟩ := bnd_fix h
      obtain ⟨b, h2, f2⟩ := bnd_fix h1
      obtain ⟨c, h3, f3⟩ := bnd_fix h2
      exact ⟨_, h3.2.2.2.2, f1 _ (f2 _ (f3 _ ⟨h3.1, h3.2.1, h3.2.2.1, h3.2.2.2.1, rfl⟩))⟩
    · obtain ⟨h0, h⟩ := h
      obtain ⟨a, h1, f1⟩ := bnd_fix h
      obtain ⟨b, h2, f2⟩ := bnd_fix h1
      obtain ⟨c, h3, f3⟩ := bnd_fix h2
      exact ⟨_, h3.2.2.2.2, h0, f1 _ (f2 _ (f3 _ ⟨h3.1, h3.2.1, h3.2.2.1, h3.2.2.2.1, rfl⟩))⟩
    · obtain ⟨h0, h⟩ := h
      obtain ⟨a, h1, f1⟩ := bnd_fix h
      obtain ⟨b, h2, f2⟩ := bnd_fix h1
      obtain ⟨c, h3, f3⟩ := bnd_fix h2
      exact ⟨_, h3.2.2.2.2, h0, f1 _ (f2 _ (f3 _ ⟨h3.1, h3.2.1, h3.2.2.1, h3.2.2.2.1, rfl⟩))⟩
    · obtain ⟨h0, h00, h⟩ := h
      obtain ⟨a, h1, f1⟩ := bnd_fix h
      obtain ⟨b, h2, f2⟩ := bnd_fix h1
      obtain ⟨c, h3, f3⟩ := bnd_fix h2
      exact ⟨_, h3.2.2.2.2, h0, h00, f1 _ (f2 _ (f3 _ ⟨h3.1, h3.2.1, h3.2.2.1, h3.2.2.2.1, rfl⟩))⟩
    · obtain ⟨h0, h00, h⟩ := h
      obtain ⟨a, h1, f1⟩ := bnd_fix h
      obtain ⟨b, h2, f2⟩ := bnd_fix h1
      exact ⟨_, h2.2.2, h0, h00, f1 _ (f2 _ ⟨h2.1, h2.2.1, rfl⟩)⟩
    · exact h.elim
  | build t parts =>
    simp only [buildK] at h ⊢
    split at h
    · obtain ⟨h0, h⟩ := h
      split at h
      · split at h
        · exact ⟨_, h, h0, rfl⟩
        · exact h.elim
      · exact h.elim
      · split at h
        · split at h
          · exact ⟨_, h, h0, rfl⟩
          · exact h.elim
        · exact h.elim
    · exact h.elim
  | call c =>
    obtain ⟨callee, args, ats⟩ := c
    simp only [pure0] at hp h ⊢
    revert h
    split at hp
    · rename_i x t h1 h2
      intro h
      simp only [lenK] at h ⊢
      split at h
      · exact ⟨_, h, rfl⟩
      · exact ⟨_, h, rfl⟩
      · exact ⟨_, h, rfl⟩
      · exact ⟨_, h, rfl⟩
      · exact ⟨_, h, rfl⟩
      · unfold mapOf at h ⊢
        split at h
        · exact ⟨_, h, rfl⟩
        · exact h.elim
        · exact h.elim
      · exact h.elim
    · rename_i x y l h1
      intro h
      simp only [pstep.mnK] at h ⊢
      split at h <;> first | exact h.elim | exact ⟨_, h.2, h.1, rfl⟩
    · rename_i x y l h1
      intro h
      simp only [pstep.mnK] at h ⊢
      split at h <;> first | exact h.elim | exact ⟨_, h.2, h.1, rfl⟩
    · simp at hp
  | _ => simp [pure0] at hp
theorem at_drop {l r : List Oper} {i : Nat} {o : Oper} (h : l.drop i = o :: r) : l.toArray[i]? = some o := by
  have : (l.drop i)[0]? = some o := by rw [h]; rfl
  rw [List.getElem?_drop] at this
  simpa using this
variable {H : Heap}
/-- A load, its cells held from here on. -/
def loadHK (P : Program) (t : TypeId) (H : Heap) (x : Value) (K : Value → HeldL → Prop) : Prop :=
  match x with
  | .pointer (some a) => match tk P t with
    | some none => ∃ v, H.cell a.block a.off = some v ∧ K v [(a.block, a.off, v)]
    | some (some n) => 0 < n ∧ ∃ cs, H.range a.block a.off n = some cs ∧ K (.agg cs.toArray) (cs.zipIdx.map fun p => (a.block, a.off + p.2, p.1))
    | none => False
  | PZ cs o => match tk P t with
    | some none => ∃ v, cs[o]? = some v ∧ K v []
    | some (some n) => o + n ≤ cs.length ∧ K (.agg ((cs.drop o).take n).toArray) []
    | none => False
  | _ => False
theorem Heap.cell_of_range {b o n : Nat} {cs : List Value} (h : H.range b o n = some cs) {i : Nat} {v : Value} (hv : cs[i]? = some v) : H.cell b (o + i) = some v := by
  unfold Heap.range at h
  unfold Heap.cell
  split at h
  · split at h
    · injection h with h
      subst h
      rw [List.getElem?_take] at hv
      split at hv
      · rwa [List.getElem?_drop] at hv
      · simp at hv
    · simp at h
  · simp at h
theorem loadHK_spec {t : TypeId} {x : Operand} {e : Operand → Value} {K : Value → HeldL → Prop} (h : loadHK P t H (e x) K) : ∃ v l, K v l ∧ heldIn l H ∧
    ∀ H', heldIn l H' → loadK P t H' (e x) (fun y => y = v) := by
  unfold loadHK at h
  unfold loadK
  split at h
  · rename_i a ea
    split at h
    · rename_i ht
      obtain ⟨v, hv, hK⟩ := h
      refine ⟨v, _, hK, by intro y hy; simp at hy; subst hy; exact hv, fun H' hl => ?_⟩
      rw [ea, ht]
      show ∃ y, H'.cell a.block a.off = some y ∧ y = v
      exact ⟨v, hl (a.block, a.off, v) (by simp), rfl⟩
    · rename_i n ht
      obtain ⟨hn0, cs, hc, hK⟩ := h
      have hlen : cs.length = n := by
        unfold Heap.range at hc
        split at hc
        · split at hc
          · injection hc with hc; subst hc; simp; omega
          · simp at hc
        · simp at hc
      have hmem : ∀ (i : Nat) v, cs[i]? = some v → (a.block, a.off + i, v) ∈ cs.zipIdx.map fun p => (a.block, a.off + p.2, p.1) := by
        intro i v hv
        refine List.mem_map.2 ⟨(v, i), ?_, rfl⟩
        exact List.mk_mem_zipIdx_iff_getElem?.2 hv
      refine ⟨_, _, hK, ?_, fun H' hl => ?_⟩
      · intro y hy
        obtain ⟨⟨v, i⟩, hm, rfl⟩ := List.mem_map.1 hy
        exact H.cell_of_range hc (List.mk_mem_zipIdx_iff_getElem?.1 hm)
      · rw [ea, ht]
        have hr : H'.range a.block a.off n = some cs := by
          have hcell : ∀ (i : Nat) v, cs[i]? = some v → H'.cell a.block (a.off + i) = some v := fun i v hv => hl _ (hmem i v hv)
          unfold Heap.cell at hcell
          unfold Heap.range
          cases n with
          | zero => omega
          | succ n =>
            cases hg : H'.get a.block with
            | cells ds es ro =>
              rw [hg] at hcell
              simp only at hcell ⊢
              have hle : a.off + (n + 1) ≤ ds.length := by
                have h1 := hcell n cs[n] (List.getElem?_eq_getElem (by omega))
                have := (List.getElem?_eq_some_iff.1 h1).1
                omega
              rw [if_pos hle]
              congr 1
              apply List.ext_getElem?
              intro i
              rw [List.getElem?_take, List.getElem?_drop]
              by_cases hi : i < n + 1
              · rw [if_pos hi, hcell i cs[i] (List.getElem?_eq_getElem (by omega)), List.getElem?_eq_getElem (by omega)]
              · rw [if_neg hi, List.getElem?_eq_none (by omega)]
            | _ =>
              rw [hg] at hcell
              have := hcell 0 cs[0] (List.getElem?_eq_getElem (by omega))
              simp at this
        show ∃ y, H'.range a.block a.off n = some y ∧ Value.agg y.toArray = Value.agg cs.toArray
        exact ⟨cs, hr, rfl⟩
    · exact h.elim
  · rename_i o cs ex
    split at h
    · rename_i ht
      obtain ⟨v, hv, hK⟩ := h
      refine ⟨v, _, hK, (by intro y hy; cases hy), fun H' _ => ?_⟩
      rw [ex]
      simp only [ht]
      exact ⟨v, hv, rfl⟩
    · rename_i n ht
      obtain ⟨hl, hK⟩ := h
      refine ⟨_, _, hK, (by intro y hy; cases hy), fun H' _ => ?_⟩
      rw [ex]
      simp only [ht]
      exact ⟨hl, trivial⟩
    · exact h.elim
  · exact h.elim
/-! ### Literals and boxes that nobody writes -/
def Ren.new (φ : Ren) (β : Nat) (arr : Array Value) : Ren := { φ with fz := fun γ i => if γ = β then arr[i]? else φ.fz γ i }
theorem Holds.allocZ {φ : Ren} {H : Heap} {w : World} (h : Holds φ H w) (arr : Array Value) (e : TypeId) : Holds (φ.new w.heap.size arr) H (w.alloc (.cells arr e)) ∧ Ok φ H w (φ.new w.heap.size arr) H (w.alloc (.cells arr e)) := by
  have hfz : ∀ β i u, φ.fz β i = some u → (φ.new w.heap.size arr).fz β i = some u := fun β i u hf => by
    show (if β = w.heap.size then arr[i]? else φ.fz β i) = some u
    rw [if_neg (by have := cell_lt (h.rest.froz β i u hf); omega)]; exact hf
  have hne : ∀ β i, β ≠ w.heap.size → (φ.new w.heap.size arr).fz β i = φ.fz β i := fun β i hb => if_neg hb
  have hm : Le φ H.has (φ.new w.heap.size arr) H.has := ⟨fun b hb => ⟨hb, rfl⟩, hfz, fun _ _ => .inl ⟨rfl, rfl⟩⟩
  have ho : ∀ β, β < w.heap.size → (w.alloc (.cells arr e)).heap[β]? = w.heap[β]? := fun β hβ => alloc_other w _ β (by omega)
  have hl : ∀ b, (H.get b).live = true → (w.alloc (.cells arr e)).heap[(φ b).blk]? = w.heap[(φ b).blk]? := fun b hb => ho _ (h.lt b hb)
  have tlt : ∀ b n es, H.get b = .tok n es → (φ.ti b).es ≠ 0 → (φ.ti b).blk < w.heap.size := fun b n es hb he => by
    obtain ⟨_, _, q3⟩ := h.rest.tok b n es hb
    rcases q3 with ⟨_, q⟩ | ⟨_, ⟨a, e, q, _⟩, _⟩
    · exact absurd q he
    · exact (Array.getElem?_eq_some_iff.1 q).1
  refine ⟨⟨h.wf, ?_, ?_, h.es, ?_, ?_, h.apart, ⟨?_, ?_, ?_, h.rest.tap, h.rest.tap2, h.rest.tl0⟩⟩, ⟨Nat.le_refl _, fun _ _ => rfl, fun _ h => h, rfl, rfl, rfl, by simp, fun β hβ _ => ho β hβ, fun β hβ => .inr hβ, hfz, fun _ _ => .inl ⟨rfl, rfl⟩⟩⟩
  · intro b cs es ro hb j v hj
    obtain ⟨u, hu1, hu2⟩ := h.cell b cs es ro hb j v hj
    exact ⟨u, by show (w.alloc _).cell? ⟨(φ b).blk, (φ b).base + j, none⟩ = _; rw [cell_congr (hl b (by rw [hb]; rfl))]; exact hu1, hu2.mono hm⟩
  · intro b cs es hb
    obtain ⟨a2, e2, q1, q2, q3⟩ := h.row b cs es hb
    exact ⟨a2, e2, by show (w.alloc _).heap[(φ b).blk]? = _; rw [hl b (by rw [hb]; rfl)]; exact q1, q2, q3⟩
  · intro b es hb
    obtain ⟨en, ck, h4, hr⟩ := h.map b es hb
    exact ⟨en, ck, by show (w.alloc _).heap[(φ b).blk]? = _; rw [hl b (by rw [hb]; rfl)]; exact h4, hr.1, fun j k v e h1 h2 => ⟨(hr.2 j k v e h1 h2).1, (hr.2 j k v e h1 h2).2.mono hm⟩⟩
  · intro b hb; have := h.lt b hb; show (φ b).blk < _; simp; omega
  · intro β i u hf
    by_cases hb : β = w.heap.size
    · subst hb
      have hf : (if w.heap.size = w.heap.size then arr[i]? else φ.fz w.heap.size i) = some u := hf
      rw [if_pos rfl] at hf
      rw [cell_at (alloc_same w _)]; exact hf
    · rw [hne β i hb] at hf
      have := h.rest.froz β i u hf
      rw [cell_congr (ho β (cell_lt this))]; exact this
  · intro b hb i
    show (φ.new w.heap.size arr).fz (φ b).blk i = none
    rw [hne _ _ (by have := h.lt b (Blk.live_of_wr hb); omega)]; exact h.rest.unf b hb i
  · intro b n es hb
    obtain ⟨q1, q2, q3⟩ := h.rest.tok b n es hb
    refine ⟨q1, q2, q3.imp id ?_⟩
    rintro ⟨q3, ⟨a2, e2, q4, q5⟩, q6, q7⟩
    have hlt := tlt b n es hb (by omega)
    refine ⟨q3, ⟨a2, e2, by show (w.alloc _).heap[(φ.ti b).blk]? = _; rw [ho _ hlt]; exact q4, q5⟩, q6, fun i hi => ?_⟩
    show (φ.new w.heap.size arr).fz (φ.ti b).blk i = none
    rw [hne _ _ (by omega)]; exact q7 i hi
theorem Holds.newZ {φ : Ren} {H : Heap} {w : World} (h : Holds φ H w) {cs : List Value} {arr : Array Value} (e : TypeId) (hr : RA φ H.has cs.toArray arr) :
    ∃ us : Nat → Value, (∀ i, i < (cs.map frz).length → (φ.new w.heap.size arr).fz w.heap.size (0 + i) = some (us i)) ∧ ∀ (i : Nat) (x : Value), (cs.map frz)[i]? = some x → R (φ.new w.heap.size arr) H.has x (us i) := by
  have hm := (h.allocZ arr e).2.mono
  have hs : cs.length = arr.size := by simpa using hr.1
  refine ⟨fun i => (arr[i]?).getD undef, fun i hi => ?_, fun i x hx => ?_⟩
  · have hi2 : i < arr.size := by rw [← hs]; simpa using hi
    show (if w.heap.size = w.heap.size then arr[0 + i]? else _) = _
    rw [if_pos rfl, Nat.zero_add]
    show _ = some ((arr[i]?).getD undef)
    rw [Array.getElem?_eq_getElem hi2]; rfl
  · rw [List.getElem?_map] at hx
    cases hc : cs[i]? with
    | none => rw [hc] at hx; cases hx
    | some y =>
      rw [hc] at hx
      injection hx with hx
      have hi2 : i < arr.size := by rw [← hs]; exact (List.getElem?_eq_some_iff.1 hc).1
      have := hr.2 i y arr[i] (by simpa using hc) (Array.getElem?_eq_getElem hi2)
      show R _ _ x ((arr[i]?).getD undef)
      rw [Array.getElem?_eq_getElem hi2, ← hx]
      exact (this.frz).mono hm
def litK (P : Program) (t : TypeId) (n : Nat) (parts : Array (Nat × Value)) (K : Value → Prop) : Prop :=
  match P.underlying t with
  | some (.slice et) => match tk P et, zr P et with
    | some k, some z => constOk z = true ∧ 0 < k.getD 1 ∧ n * k.getD 1 ≤ 2 ^ 24 ∧ z.cells.size = k.getD 1 ∧
        match Instr.fill (fun i => some (i * k.getD 1, k.getD 1)) (zcells z.cells (n * k.getD 1)) parts.toList with
        | some cs => K (FZ (k.getD 1) n (cs.toList.map frz))
        | none => False
    | _, _ => False
  | _ => False
theorem fill_size (place : Nat → Option (Nat × Nat)) : ∀ (parts : List (Nat × Value)) (cs out : Array Value), Instr.fill place cs parts = some out → out.size = cs.size
  | [], cs, out, h => by simp [Instr.fill] at h; rw [h]
  | (i, v) :: r, cs, out, h => by
    simp only [Instr.fill] at h
    split at h
    · cases h
    · split at h
      · cases h
      · rw [fill_size place r _ out h]
        rename_i off size _ _
        have : ∀ (vs : List (Value × Nat)) (cs : Array Value), (vs.foldl (fun cs (x : Value × Nat) => cs.setIfInBounds (off + x.2) x.1) cs).size = cs.size := by
          intro vs
          induction vs with
          | nil => intro cs; rfl
          | cons a vs ih => intro cs; rw [List.foldl_cons, ih]; simp
        rw [← Array.foldl_toList]
        exact this _ _
theorem OpE.lit {P : Program} {dst : Option Nat} {ty : TypeId} {pos : String} {af : Array Edge} {g : Option (Nat × Bool)} {t : TypeId} {n : Nat} {parts : Array (Nat × Operand)} {e : Operand → Value} {H : Heap} {K : Value → Heap → Prop} (h : litK P t n (parts.map fun (i, x) => (i, e x)) fun v => K v H) : OpE P ⟨dst, .buildSlice t n parts, ty, pos, af, g⟩ e H K := by
  refine OpE.of_gives ?_
  unfold litK at h
  split at h
  · rename_i et hu
    split at h
    · rename_i k z ht hz
      obtain ⟨hc, hs, hle, hzs, h⟩ := h
      split at h
      · rename_i cs hf
        intro φ ρ w hh hx
        have hsz := run_size (P := P) (w := w) (size_of_tk ht)
        generalize k.getD 1 = s at *
        have hrel : ∃ out', Instr.fill (fun i => some (i * s, s)) (zcells z.cells (n * s)) (parts.toList.map fun (i, x) => (i, ρ x)) = some out' ∧ RA φ H.has cs out' := by
          rw [Array.toList_map] at hf
          exact fill_rel _ parts.toList e ρ _ _ (R.of_zcells hc _) (fun p hp => hx p.2 (by simp only [Op.operands]; exact List.mem_toArray.2 (List.mem_map.2 ⟨p, hp, rfl⟩))) cs hf
        obtain ⟨out', h1, h2⟩ := hrel
        have ha := hh.allocZ out' et
        obtain ⟨us, k1, k2⟩ := hh.newZ (cs := cs.toList) (arr := out') et (by simpa using h2)
        have hlen : (cs.toList.map frz).length = n * s := by
          rw [List.length_map, Array.length_toList, fill_size _ _ _ _ hf]
          unfold zcells; simp
        refine ⟨_, _, .slice (some ⟨w.heap.size, 0, none⟩) n n, _, _, h, .inl ?_, .fz s n n w.heap.size 0 _ us hs hlen (Nat.le_refl _) k1 k2, ha.1, ha.2⟩
        have hle' : ¬ n * s > 2 ^ 24 := by omega
        show (do let v ← Instr.buildSlice t n (parts.map fun (i, x) => (i, ρ x)); pure (Next.value v) : Sem Next).run P w = _
        unfold Instr.buildSlice
        simp only [Sem.run_bind, run_underlying hu, Result.andThen_ok, hsz, if_neg hle', Sem.run_pure]
        by_cases h0 : n * s = 0
        · have h1' : ∀ f : Nat → Value, Instr.fill (fun i => some (i * s, s)) ((Array.range (n * s)).map f) (parts.toList.map fun (i, x) => (i, ρ x)) = some out' := by
            intro f
            rw [← h1]; unfold zcells; rw [h0]
            have h00 : ∀ f : Nat → Value, (Array.range 0).map f = #[] := fun f => by rw [show Array.range 0 = #[] from rfl]; simp
            rw [h00, h00]
          simp only [if_pos h0, Sem.run_pure, Result.andThen_ok, Array.toList_map, h1' _]
          simp [newRow]
        · have h1' : Instr.fill (fun i => some (i * s, s)) ((Array.range (n * s)).map (z.cells[· % z.cells.size]!)) (parts.toList.map fun (i, x) => (i, ρ x)) = some out' := h1
          simp only [if_neg h0, Sem.run_bind, run_zero hz, Sem.run_pure, Result.andThen_ok, Array.toList_map, h1']
          simp [newRow]
      · exact h.elim
    · exact h.elim
  · exact h.elim
theorem OpE.boxz {P : Program} {dst : Option Nat} {ty : TypeId} {pos : String} {af : Array Edge} {g : Option (Nat × Bool)} {t : TypeId} {x : Operand} {e : Operand → Value} {H : Heap} {K : Value → Heap → Prop} (h : K (PZ ((e x).cells.toList.map frz) 0) H) : OpE P ⟨dst, .box t x, ty, pos, af, g⟩ e H K := by
  refine OpE.of_gives ?_
  intro φ ρ w hh hx
  have h1 := (hx x (by simp [Op.operands])).cells
  have ha := hh.allocZ (ρ x).cells t
  obtain ⟨us, k1, k2⟩ := hh.newZ (cs := (e x).cells.toList) (arr := (ρ x).cells) t (by simpa using h1)
  refine ⟨_, _, .pointer (some ⟨w.heap.size, 0, none⟩), _, _, h, .inl ?_, .pz w.heap.size 0 0 _ us k1 k2, ha.1, ha.2⟩
  simp [execOp, Instr.box, newVar, newRow]
theorem AOps.lit {P : Program} {m : Nat} {ops : Array Oper} {rest : List Oper} {K : Fr → Heap → Prop} {A : Fr} {H : Heap} {dst : Option Nat} {ty : TypeId} {pos : String} {af : Array Edge} {t : TypeId} {n : Nat} {parts : Array (Nat × Operand)} (hd : dstOk m dst = true) (hx : (Op.buildSlice t n parts).operands.toList.all opndOk = true) (hn0 : (n != 0) = true)
    (h : ∀ K' : Value → Heap → Prop, Cont (∀ v H', AOps P m ops rest K (put A dst v) H' → K' v H') → litK P t n (parts.map fun (i, x) => (i, ev A x)) fun v => K' v H) : AOps P m ops (⟨dst, .buildSlice t n parts, ty, pos, af, none⟩ :: rest) K A H :=
  AOps.cons rfl fun K' hK' => fun φ a w Kc Qc hs hk => OpE.lit (h (fun v H' => K' (put A dst v) H') fun v H' q => hK' _ _ q) φ a w Kc Qc hs.holds (fun x hm => hs.ev (List.all_eq_true.1 hx _ (Array.mem_toList_iff.2 hm))) fun φ' v u H' w' hK hr hh ok => hk _ _ _ _ _ hK ((hs.step ok hh).put hd hr) ok
theorem AOps.boxz {P : Program} {m : Nat} {ops : Array Oper} {rest : List Oper} {K : Fr → Heap → Prop} {A : Fr} {H : Heap} {dst : Option Nat} {ty : TypeId} {pos : String} {af : Array Edge} {t : TypeId} {x : Operand} (hd : dstOk m dst = true) (hx : (Op.box t x).operands.toList.all opndOk = true)
    (h : ∀ K' : Value → Heap → Prop, Cont (∀ v H', AOps P m ops rest K (put A dst v) H' → K' v H') → K' (PZ ((ev A x).cells.toList.map frz) 0) H) : AOps P m ops (⟨dst, .box t x, ty, pos, af, none⟩ :: rest) K A H :=
  AOps.cons rfl fun K' hK' => fun φ a w Kc Qc hs hk => OpE.boxz (h (fun v H' => K' (put A dst v) H') fun v H' q => hK' _ _ q) φ a w Kc Qc hs.holds (fun x hm => hs.ev (List.all_eq_true.1 hx _ (Array.mem_toList_iff.2 hm))) fun φ' v u H' w' hK hr hh ok => hk _ _ _ _ _ hK ((hs.step ok hh).put hd hr) ok
theorem litK_det {P : Program} {t : TypeId} {n : Nat} {parts : Array (Nat × Value)} {K : Value → Prop} (h : litK P t n parts K) : ∃ v, K v ∧ litK P t n parts (fun x => x = v) := by
  unfold litK at *
  split at h
  · split at h
    · obtain ⟨h1, h2, h3, h4, h5⟩ := h
      split at h5
      · exact ⟨_, h5, h1, h2, h3, h4, rfl⟩
      · exact h5.elim
    · exact h.elim
  · exact h.elim
/-- A function that reads frozen values and gives one. -/
def ZCalls (P : Program) (f : FuncId) (args : List Value) (v : Value) : Prop := ∀ H, ACalls P f args H fun u H' => u = v ∧ H' = H
def fcallK (P : Program) (f : Value) (args : List Value) (K : Value → Prop) : Prop :=
  match f with
  | .func (.func f) xs ys => ∃ v, ZCalls P f (xs.toList ++ args ++ ys.toList) v ∧ K v
  | _ => False
/-- What may come whenever. -/
def fstep (P : Program) (o : Oper) (e : Operand → Value) (H : Heap) (K : Value → HeldL → Prop) : Prop :=
  match o.op with
  | .load t x => loadHK P t H (e x) K
  | .buildSlice t n parts => litK P t n (parts.map fun (i, x) => (i, e x)) fun v => K v []
  | .box _ x => K (PZ ((e x).cells.toList.map frz) 0) []
  | .call c => match c.callee with
    | .value f => fcallK P (e f) (c.args.toList.map e) fun v => K v []
    | _ => pure0 o.op = true ∧ pstep0 P o e fun v => K v []
  | _ => pure0 o.op = true ∧ pstep0 P o e fun v => K v []
theorem pure_flt {o : Oper} {e : Operand → Value} {H : Heap} {K : Value → HeldL → Prop} (hp : pure0 o.op = true) (h : pstep0 P o e fun v => K v []) : ∃ v hl, K v hl ∧ heldIn hl H ∧ Flt P o e hl v := by
  obtain ⟨v, hK, hd⟩ := pstep0_det hp h
  exact ⟨v, [], hK, (by intro y hy; cases hy), fun H' _ => OpE.of_gives (PGives.gives (K := fun u H'' => u = v ∧ H'' = H') (by
    have := pgives_step (pstep0_any hp hd H')
    exact fun φ ρ w hh hx => let ⟨a, b, c, d⟩ := this φ ρ w hh hx; ⟨a, b, ⟨c, rfl⟩, d⟩))⟩
theorem fstep_flt {o : Oper} {e : Operand → Value} {H : Heap} {K : Value → HeldL → Prop} (h : fstep P o e H K) : ∃ v hl, K v hl ∧ heldIn hl H ∧ Flt P o e hl v := by
  obtain ⟨dst, op, ty, pos, af, g⟩ := o
  unfold fstep at h
  cases op with
  | load t x =>
    obtain ⟨v, hl, hK, hh, hall⟩ := loadHK_spec h
    exact ⟨v, hl, hK, hh, fun H' hl' => OpE.of_gives (PGives.gives (K := fun u H'' => u = v ∧ H'' = H') (by
      have := pg_load (dst := dst) (ty := ty) (pos := pos) (af := af) (g := g) (hall H' hl')
      exact fun φ ρ w hh hx => let ⟨a, b, c, d⟩ := this φ ρ w hh hx; ⟨a, b, ⟨c, rfl⟩, d⟩))⟩
  | buildSlice t n parts =>
    obtain ⟨v, hK, hd⟩ := litK_det h
    refine ⟨v, [], hK, (by intro y hy; cases hy), fun H' _ => OpE.lit ?_⟩
    unfold litK at hd ⊢
    split at hd
    · split at hd
      · obtain ⟨h1, h2, h3, h4, h5⟩ := hd
        refine ⟨h1, h2, h3, h4, ?_⟩
        split at h5
        · exact ⟨h5, rfl⟩
        · exact h5
      · exact hd
    · exact hd
  | box t x => exact ⟨_, [], h, (by intro y hy; cases hy), fun H' _ => OpE.boxz ⟨rfl, rfl⟩⟩
  | call c =>
    obtain ⟨callee, args, ats⟩ := c
    simp only at h
    split at h
    · unfold fcallK at h
      split at h
      · rename_i ef
        obtain ⟨v, hz, hK⟩ := h
        exact ⟨v, [], hK, (by intro y hy; cases hy), fun H' _ => OpE.call ef (hz H')⟩
      · exact h.elim
    · exact pure_flt h.1 h.2
  | _ => exact pure_flt h.1 h.2
section
variable {m : Nat} {l : List Oper} {i : Nat} {plan : List (Nat × Option (List Nat))} {held : HeldG} {K : Fr → Heap → Prop} {A : Fr} {dst : Option Nat} {op : Op} {ty : TypeId} {pos : String} {af : Array Edge} {r : List Oper}
theorem at_drop' {o : Oper} (h : l.drop i = o :: r) : l[i]? = some o := by have := at_drop h; rwa [List.getElem?_toArray] at this
theorem AZ.fl (hi : l.drop i = ⟨dst, op, ty, pos, af, none⟩ :: r)
    (h : ∀ Kx : Value → HeldL → Prop, Cont (∀ v hl, AZ P l K plan ((i, hl) :: held) (put A dst v) H → Kx v hl) → fstep P ⟨dst, op, ty, pos, af, none⟩ (ev A) H Kx) : AZ P l K ((i, none) :: plan) held A H := by
  obtain ⟨v, hl, hK, hh, hf⟩ := fstep_flt (h _ fun v hl q => q)
  exact .flt (at_drop' hi) trivial hf hh hK
theorem AZ.flg {j : Nat} {want : Bool} {t : Nat} (hi : l.drop i = ⟨dst, op, ty, pos, af, some (j, want)⟩ :: r) (ht : (l[j]?).bind (·.dst) = some t) (hA : A t = .bool want)
    (h : ∀ Kx : Value → HeldL → Prop, Cont (∀ v hl, AZ P l K plan ((i, hl) :: held) (put A dst v) H → Kx v hl) → fstep P ⟨dst, op, ty, pos, af, some (j, want)⟩ (ev A) H Kx) : AZ P l K ((i, none) :: plan) held A H := by
  obtain ⟨v, hl, hK, hh, hf⟩ := fstep_flt (h _ fun v hl q => q)
  exact .flt (at_drop' hi) ⟨t, ht, hA⟩ hf hh hK
theorem AZ.pass {b : Option (List Nat)} {j : Nat} {want : Bool} {t : Nat} (hi : l.drop i = ⟨dst, op, ty, pos, af, some (j, want)⟩ :: r) (ht : (l[j]?).bind (·.dst) = some t) (hA : A t = .bool (!want) ∨ A t = undef)
    (h : AZ P l K plan held (put A dst undef) H) : AZ P l K ((i, b) :: plan) held A H :=
  .skip (at_drop' hi) ⟨j, want, t, rfl, ht, hA⟩ h
theorem AZ.ef {rel : List Nat} (hi : l.drop i = ⟨dst, op, ty, pos, af, none⟩ :: r)
    (h : ∀ Kx : Value → Heap → Prop, Cont (∀ v H', heldG (dropG rel held) H' → AZ P l K plan (dropG rel held) (put A dst v) H' → Kx v H') → astep P ⟨dst, op, ty, pos, af, none⟩ (ev A) H Kx) : AZ P l K ((i, some rel) :: plan) held A H := by
  have := OpE.step (h (fun v H' => heldG (dropG rel held) H' ∧ AZ P l K plan (dropG rel held) (put A dst v) H') fun v H' q1 q2 => ⟨q1, q2⟩)
  exact .eff _ (at_drop' hi) trivial this (fun v H' q => q.1) (fun v H' q => q.2)
theorem AZ.efg {rel : List Nat} {j : Nat} {want : Bool} {t : Nat} (hi : l.drop i = ⟨dst, op, ty, pos, af, some (j, want)⟩ :: r) (ht : (l[j]?).bind (·.dst) = some t) (hA : A t = .bool want)
    (h : ∀ Kx : Value → Heap → Prop, Cont (∀ v H', heldG (dropG rel held) H' → AZ P l K plan (dropG rel held) (put A dst v) H' → Kx v H') → astep P ⟨dst, op, ty, pos, af, some (j, want)⟩ (ev A) H Kx) : AZ P l K ((i, some rel) :: plan) held A H := by
  have := OpE.step (h (fun v H' => heldG (dropG rel held) H' ∧ AZ P l K plan (dropG rel held) (put A dst v) H') fun v H' q1 q2 => ⟨q1, q2⟩)
  exact .eff _ (at_drop' hi) ⟨t, ht, hA⟩ this (fun v H' q => q.1) (fun v H' q => q.2)
end
theorem heldG_iff : (∀ H, heldG [] H = True) ∧ (∀ H i l r, heldG ((i, l) :: r) H = (heldIn l H ∧ heldG r H)) ∧ (∀ rel, dropG rel [] = []) ∧ (∀ rel i l r, dropG rel ((i, l) :: r) = if (rel.contains i) = true then dropG rel r else (i, l) :: dropG rel r) ∧
    (∀ i : Nat, ([] : List Nat).contains i = false) ∧ (∀ (a : Nat) (l : List Nat) (i : Nat), (a :: l).contains i = (i == a || l.contains i)) := by
  refine ⟨fun H => eq_true (by intro e he; cases he), fun H i l r => propext ⟨fun h => ⟨h _ (List.mem_cons_self ..), fun e he => h e (List.mem_cons_of_mem _ he)⟩, fun h e he => ?_⟩, fun _ => rfl, fun _ _ _ _ => rfl, fun _ => rfl, fun a l i => List.contains_cons⟩
  rcases List.mem_cons.1 he with rfl | he
  · exact h.1
  · exact h.2 e he
theorem heldIn_nil : heldIn [] H := by intro h hh; simp at hh
theorem heldIn_cons {b o : Nat} {v : Value} {l : HeldL} (h1 : H.cell b o = some v) (h2 : heldIn l H) : heldIn ((b, o, v) :: l) H := by
  intro h hh
  rcases List.mem_cons.1 hh with rfl | hh
  · exact h1
  · exact h2 h hh
end
/-! ### Words for the run -/
section
variable {P : Program} {K : Fr → Heap → Prop} {Q : Exit → Fr → Heap → Prop} {A : Fr} {H : Heap}
theorem athen_n (h : K A H) : athen K Q .normal A H := h
theorem athen_r (h : Q .ret A H) : athen K Q .ret A H := h
theorem athen_e {i : Nat} (h : Q (.exit i) A H) : athen K Q (.exit i) A H := h
theorem ablock_n {i : Nat} (h : Q .normal A H) : ablock i Q .normal A H := h
theorem ablock_r {i : Nat} (h : Q .ret A H) : ablock i Q .ret A H := h
theorem ablock_s {i : Nat} (h : Q .normal A H) : ablock i Q (.exit i) A H := by show if i = i then _ else _; rw [if_pos rfl]; exact h
theorem ablock_e {i j : Nat} (hne : (j == i) = false) (h : Q (.exit j) A H) : ablock i Q (.exit j) A H := by show if j = i then _ else _; rw [if_neg (by simpa using hne)]; exact h
theorem aret_n {rs : List ResultVar} {Q : Value → Heap → Prop} (h : aresK P rs A H fun vs => Q (retv vs) H) : aret P rs Q .normal A H := h
theorem aret_r {rs : List ResultVar} {Q : Value → Heap → Prop} (h : aresK P rs A H fun vs => Q (retv vs) H) : aret P rs Q .ret A H := h
theorem get_push_lt {x : Blk} {b : Nat} (h : b < H.size) : (H.push x).get b = H.get b := by rw [Heap.get_push, if_neg (by omega)]
theorem get_push_eq {x : Blk} {b : Nat} (h : b = H.size) : (H.push x).get b = x := by rw [Heap.get_push, if_pos h]
theorem get_set_ne {x : Blk} {b c : Nat} (h : c ≠ b) : (H.set b x).get c = H.get c := by rw [Heap.get_set, if_neg h]
theorem get_set_eq {x : Blk} {b : Nat} : (H.set b x).get b = x := by rw [Heap.get_set, if_pos rfl]
/-- The operations, as the run's simp tells them. -/
theorem sx :
    (∀ (A : Fr) (t : Nat), ev A (.tmp t) = A t) ∧ (∀ (A : Fr) (v : Value), ev A (.const v) = v) ∧ (∀ (A : Fr) (f : FuncId), ev A (.func f) = .func (.func f) #[] #[]) ∧
    (∀ (A : Fr) (d : Nat) (v : Value) (t : Nat), put A (some d) v t = if t = d then v else A t) ∧ (∀ (A : Fr) (v : Value), put A none v = A) ∧
    (∀ (P : Program) (o : Oper) (e : Operand → Value) (K : Value → Prop), pstep0 P o e K = pstep P o e ⟨0, fun _ => .absent⟩ K) := ⟨fun _ _ => rfl, fun _ _ => rfl, fun _ _ => rfl, fun _ _ _ _ => rfl, fun _ _ => rfl, fun _ _ _ _ => rfl⟩
theorem px (P : Program) (d : Option Nat) (ty : TypeId) (pos : String) (af : Array Edge) (g : Option (Nat × Bool)) (e : Operand → Value) (H : Heap) (K : Value → Prop) :
    (∀ x, pstep P ⟨d, .move x, ty, pos, af, g⟩ e H K = K (e x)) ∧ (∀ x, pstep P ⟨d, .assign x, ty, pos, af, g⟩ e H K = K (e x)) ∧
    (∀ c x y, pstep P ⟨d, .pick c x y, ty, pos, af, g⟩ e H K = asBoolK (e c) fun b => K (if b = true then e x else e y)) ∧
    (∀ t x, pstep P ⟨d, .load t x, ty, pos, af, g⟩ e H K = loadK P t H (e x) K) ∧
    (∀ op t x y u, pstep P ⟨d, .binOp op t x y u, ty, pos, af, g⟩ e H K = binK P op t (e x) (e y) K) ∧
    (∀ op t x, pstep P ⟨d, .unOp op t x, ty, pos, af, g⟩ e H K = unK op (e x) K) ∧
    (∀ s t x, pstep P ⟨d, .convert s t x, ty, pos, af, g⟩ e H K = convK P s t (e x) K) ∧
    (∀ fn x y, pstep P ⟨d, .makeFunc fn x y, ty, pos, af, g⟩ e H K = K (.func fn (x.map e) (y.map e))) ∧
    (∀ s x f, pstep P ⟨d, .fieldAddr s x f, ty, pos, af, g⟩ e H K = fieldAddrK P s f (e x) K) ∧
    (∀ s x f, pstep P ⟨d, .field s x f, ty, pos, af, g⟩ e H K = fieldK P s f (e x) K) ∧
    (∀ t x i, pstep P ⟨d, .indexAddr t x i, ty, pos, af, g⟩ e H K = indexAddrK P t (e x) (e i) K) ∧
    (∀ t x i, pstep P ⟨d, .index t x i, ty, pos, af, g⟩ e H K = indexK P t (e x) (e i) K) ∧
    (∀ x i, pstep P ⟨d, .extract x i, ty, pos, af, g⟩ e H K = extractK i (e x) K) ∧
    (∀ x, pstep P ⟨d, .nilCheck x, ty, pos, af, g⟩ e H K = nilK (e x) K) ∧
    (∀ t x lo hi mx, pstep P ⟨d, .slice t x lo hi mx, ty, pos, af, g⟩ e H K = sliceK P t H (e x) (lo.map e) (hi.map e) (mx.map e) K) ∧
    (∀ t ps, pstep P ⟨d, .build t ps, ty, pos, af, g⟩ e H K = buildK P t (ps.map fun (i, x) => (i, e x)) K) ∧
    (∀ x t, pstep P ⟨d, .call ⟨.builtin .len, #[x], #[t]⟩, ty, pos, af, g⟩ e H K = lenK P t (e x) H K) ∧
    (∀ x y t, pstep P ⟨d, .call ⟨.builtin .min, #[x, y], t⟩, ty, pos, af, g⟩ e H K = pstep.mnK (fun a b => if b < a then b else a) (e x) (e y) K) ∧
    (∀ x y t, pstep P ⟨d, .call ⟨.builtin .max, #[x, y], t⟩, ty, pos, af, g⟩ e H K = pstep.mnK (fun a b => if b > a then b else a) (e x) (e y) K) := by
  refine ⟨?_, ?_, ?_, ?_, ?_, ?_, ?_, ?_, ?_, ?_, ?_, ?_, ?_, ?_, ?_, ?_, ?_, ?_, ?_⟩ <;> intros <;> rfl
theorem ax (P : Program) (d : Option Nat) (ty : TypeId) (pos : String) (af : Array Edge) (g : Option (Nat × Bool)) (e : Operand → Value) (H : Heap) (K : Value → Heap → Prop) :
    (∀ x, astep P ⟨d, .move x, ty, pos, af, g⟩ e H K = K (e x) H) ∧ (∀ x, astep P ⟨d, .assign x, ty, pos, af, g⟩ e H K = K (e x) H) ∧
    (∀ c x y, astep P ⟨d, .pick c x y, ty, pos, af, g⟩ e H K = asBoolK (e c) fun b => K (if b = true then e x else e y) H) ∧
    (∀ t x, astep P ⟨d, .load t x, ty, pos, af, g⟩ e H K = loadK P t H (e x) fun v => K v H) ∧
    (∀ op t x y u, astep P ⟨d, .binOp op t x y u, ty, pos, af, g⟩ e H K = binK P op t (e x) (e y) fun v => K v H) ∧
    (∀ op t x, astep P ⟨d, .unOp op t x, ty, pos, af, g⟩ e H K = unK op (e x) fun v => K v H) ∧
    (∀ s t x, astep P ⟨d, .convert s t x, ty, pos, af, g⟩ e H K = convK P s t (e x) fun v => K v H) ∧
    (∀ fn x y, astep P ⟨d, .makeFunc fn x y, ty, pos, af, g⟩ e H K = K (.func fn (x.map e) (y.map e)) H) ∧
    (∀ s x f, astep P ⟨d, .fieldAddr s x f, ty, pos, af, g⟩ e H K = fieldAddrK P s f (e x) fun v => K v H) ∧
    (∀ s x f, astep P ⟨d, .field s x f, ty, pos, af, g⟩ e H K = fieldK P s f (e x) fun v => K v H) ∧
    (∀ t x i, astep P ⟨d, .indexAddr t x i, ty, pos, af, g⟩ e H K = indexAddrK P t (e x) (e i) fun v => K v H) ∧
    (∀ t x i, astep P ⟨d, .index t x i, ty, pos, af, g⟩ e H K = indexK P t (e x) (e i) fun v => K v H) ∧
    (∀ x i, astep P ⟨d, .extract x i, ty, pos, af, g⟩ e H K = extractK i (e x) fun v => K v H) ∧
    (∀ x, astep P ⟨d, .nilCheck x, ty, pos, af, g⟩ e H K = nilK (e x) fun v => K v H) ∧
    (∀ t x lo hi mx, astep P ⟨d, .slice t x lo hi mx, ty, pos, af, g⟩ e H K = sliceK P t H (e x) (lo.map e) (hi.map e) (mx.map e) fun v => K v H) ∧
    (∀ t ps, astep P ⟨d, .build t ps, ty, pos, af, g⟩ e H K = buildK P t (ps.map fun (i, x) => (i, e x)) fun v => K v H) ∧
    (∀ x t, astep P ⟨d, .call ⟨.builtin .len, #[x], #[t]⟩, ty, pos, af, g⟩ e H K = lenK P t (e x) H fun v => K v H) ∧
    (∀ x y t, astep P ⟨d, .call ⟨.builtin .min, #[x, y], t⟩, ty, pos, af, g⟩ e H K = pstep.mnK (fun a b => if b < a then b else a) (e x) (e y) fun v => K v H) ∧
    (∀ x y t, astep P ⟨d, .call ⟨.builtin .max, #[x, y], t⟩, ty, pos, af, g⟩ e H K = pstep.mnK (fun a b => if b > a then b else a) (e x) (e y) fun v => K v H) ∧
    (∀ t x, astep P ⟨d, .box t x, ty, pos, af, g⟩ e H K = K (.pointer (some ⟨H.size, 0, none⟩)) (H.push (.cells (e x).cells.toList 1 false))) ∧
    (∀ t, astep P ⟨d, .alloc t, ty, pos, af, g⟩ e H K = allocK P t H K) ∧
    (∀ t x y, astep P ⟨d, .store t x y, ty, pos, af, g⟩ e H K = storeK P t H (e x) (e y) fun H' => K undef H') ∧
    (∀ t n ps, astep P ⟨d, .buildSlice t n ps, ty, pos, af, g⟩ e H K = buildSliceK P t n (ps.map fun (i, x) => (i, e x)) H K) ∧
    (∀ t l c, astep P ⟨d, .makeSlice t l c, ty, pos, af, g⟩ e H K = makeSliceK P t (e l) (e c) H K) ∧
    (∀ t, astep P ⟨d, .makeMap t none, ty, pos, af, g⟩ e H K = K (.map (some H.size)) (H.push (.map []))) ∧
    (∀ t x i ok, astep P ⟨d, .lookup t x i ok, ty, pos, af, g⟩ e H K = lookupK P t (e x) (e i) ok H fun v => K v H) ∧
    (∀ t m k x, astep P ⟨d, .mapUpdate t m k x, ty, pos, af, g⟩ e H K = mapPutK P t (e m) (e k) (e x) H fun H' => K undef H') ∧
    (∀ s x st xt, astep P ⟨d, .call ⟨.builtin .append, #[s, x], #[st, xt]⟩, ty, pos, af, g⟩ e H K = appendK P st xt (e s) (e x) H K) ∧
    (∀ s x st xt, astep P ⟨d, .call ⟨.builtin .copy, #[s, x], #[st, xt]⟩, ty, pos, af, g⟩ e H K = copyK P st (e s) (e x) H K) ∧
    (∀ s st, astep P ⟨d, .call ⟨.builtin .clear, #[s], #[st]⟩, ty, pos, af, g⟩ e H K = clearK P st (e s) H K) ∧
    (∀ f l ts, astep P ⟨d, .call ⟨.value f, l, ts⟩, ty, pos, af, g⟩ e H K = callK P (e f) (l.toList.map e) H K) := by
  refine ⟨?_, ?_, ?_, ?_, ?_, ?_, ?_, ?_, ?_, ?_, ?_, ?_, ?_, ?_, ?_, ?_, ?_, ?_, ?_, ?_, ?_, ?_, ?_, ?_, ?_, ?_, ?_, ?_, ?_, ?_, ?_⟩ <;> intros <;> rfl
end
theorem heldIn_iff {H : Heap} : (heldIn [] H = True) ∧ (∀ b o v l, heldIn ((b, o, v) :: l) H = (H.cell b o = some v ∧ heldIn l H)) ∧ (∀ l, ([] : HeldL) ++ l = l) ∧ (∀ a l l', (a :: l : HeldL) ++ l' = a :: (l ++ l')) :=
  ⟨eq_true heldIn_nil, fun b o v l => propext ⟨fun h => ⟨h _ (List.mem_cons_self ..), fun x hx => h x (List.mem_cons_of_mem _ hx)⟩, fun h => heldIn_cons h.1 h.2⟩, fun _ => rfl, fun _ _ _ => rfl⟩
theorem set_self {H : Heap} {b : Nat} {x : Blk} (h : H.get b = x) : H.set b x = H := by
  cases H with
  | mk n f =>
    simp only [Heap.set]
    congr 1
    funext c
    split
    · rename_i e; subst e; exact h.symm
    · rfl
theorem set_set {H : Heap} {b : Nat} {x y : Blk} : (H.set b x).set b y = H.set b y := by
  cases H with
  | mk n f =>
    simp only [Heap.set]
    congr 1
    funext c
    split <;> simp_all
theorem set_comm {H : Heap} {b c : Nat} {x y : Blk} (h : b ≠ c) : (H.set b x).set c y = (H.set c y).set b x := by
  cases H with
  | mk n f =>
    simp only [Heap.set]
    congr 1
    funext d
    split <;> split <;> simp_all
theorem push_set {H : Heap} {b : Nat} {x y : Blk} (h : b < H.size) : (H.push y).set b x = (H.set b x).push y := by
  cases H with
  | mk n f =>
    simp only [Heap.set, Heap.push]
    congr 1
    funext d
    have : b < n := h
    split <;> split <;> simp_all <;> omega
def intV : Value → Int
  | .int _ n => n
  | _ => 0
theorem intV_int (k : IntKind) (n : Int) : intV (.int k n) = n := rfl
/-! ### What an operation asks, in direct forms -/
section
variable {P : Program}
def ldK (k : Option (Option Nat)) (H : Heap) (a : Addr) (K : Value → Prop) : Prop :=
  match k with
  | some none => ∃ v, H.cell a.block a.off = some v ∧ K v
  | some (some n) => ∃ cs, H.range a.block a.off n = some cs ∧ K (.agg cs.toArray)
  | none => False
def ldHK (k : Option (Option Nat)) (H : Heap) (a : Addr) (K : Value → HeldL → Prop) : Prop :=
  match k with
  | some none => ∃ v, H.cell a.block a.off = some v ∧ K v [(a.block, a.off, v)]
  | some (some n) => 0 < n ∧ ∃ cs, H.range a.block a.off n = some cs ∧ K (.agg cs.toArray) (cs.zipIdx.map fun p => (a.block, a.off + p.2, p.1))
  | none => False
def stK (k : Option (Option Nat)) (x : Blk) (H : Heap) (a : Addr) (y : Value) (K : Heap → Prop) : Prop :=
  match x with
  | .cells cs es false => match k with
    | some none => y.oneCell' = true ∧ a.off < cs.length ∧ K (H.set a.block (.cells (cs.set a.off y) es false))
    | some (some n) => match y with
      | .agg vs => vs.size = n ∧ (∀ v ∈ vs.toList, v.oneCell' = true) ∧ a.off + n ≤ cs.length ∧ K (H.set a.block (.cells (cs.take a.off ++ vs.toList ++ cs.drop (a.off + n)) es false))
      | _ => False
    | none => False
  | _ => False
def bcell (x : Blk) (o : Nat) : Option Value :=
  match x with
  | .cells cs _ _ => cs[o]?
  | _ => none
def brange (x : Blk) (o n : Nat) : Option (List Value) :=
  match x with
  | .cells cs _ _ => if o + n ≤ cs.length then some ((cs.drop o).take n) else none
  | _ => none
def foK (f : Option (Nat × Option Nat)) (a : Addr) (K : Value → Prop) : Prop :=
  match f with
  | some (off, k) => k ≠ some 0 ∧ K (.pointer (some ⟨a.block, a.off + off, none⟩))
  | none => False
def fvK (f : Option (Nat × Option Nat)) (cs : Array Value) (K : Value → Prop) : Prop :=
  match f with
  | some (off, k) => partK k cs off K
  | none => False
def lnK (d : Option TypeDesc) (x : Value) (H : Heap) (K : Value → Prop) : Prop :=
  match d, x with
  | some (.slice _), .slice _ n _ => K (.int .i64 n)
  | some (.slice _), FZ _ n _ => K (.int .i64 n)
  | some (.slice _), GZ _ _ n _ => K (.int .i64 n)
  | some .string, .string s => K (.int .i64 s.size)
  | some (.array n _), _ => K (.int .i64 n)
  | some (.map _ _), m => mapOf m H fun es => K (.int .i64 es.length)
  | _, _ => False
theorem kx1 :
    (∀ (b : Bool) (KB : Bool → Prop), asBoolK (.bool b) KB = KB b) ∧
    (∀ (P : Program) (t : TypeId) (H : Heap) (a : Addr) (K : Value → Prop), loadK P t H (.pointer (some a)) K = ldK (tk P t) H a K) ∧
    (∀ (P : Program) (t : TypeId) (H : Heap) (a : Addr) (K2 : Value → HeldL → Prop), loadHK P t H (.pointer (some a)) K2 = ldHK (tk P t) H a K2) ∧
    (∀ (P : Program) (t : TypeId) (H : Heap) (a : Addr) (y : Value) (K3 : Heap → Prop), storeK P t H (.pointer (some a)) y K3 = stK (tk P t) (H.get a.block) H a y K3) ∧
    (∀ (k : IntKind) (n : Int) (K : Value → Prop), unK .neg (.int k n) K = K (.int k (k.wrap (0 - n)))) ∧
    (∀ (b : Bool) (K : Value → Prop), unK .not (.bool b) K = K (.bool !b)) ∧
    (∀ (P : Program) (t : TypeId) (f : Nat) (a : Addr) (K : Value → Prop), fieldAddrK P t f (.pointer (some a)) K = foK (fo P t f) a K) ∧
    (∀ (P : Program) (t : TypeId) (f : Nat) (cs : Array Value) (K : Value → Prop), fieldK P t f (.agg cs) K = fvK (fo P t f) cs K) ∧
    (∀ (P : Program) (t : TypeId) (x : Value) (k : IntKind) (n : Int) (K : Value → Prop), indexAddrK P t x (.int k n) K = ixK (el P t) n x K) ∧
    (∀ (i : Nat) (vs : Array Value) (K : Value → Prop), extractK i (.tuple vs) K = (∃ v, vs[i]? = some v ∧ K v)) ∧
    (∀ (a : Addr) (K : Value → Prop), nilK (.pointer (some a)) K = K (.pointer (some a))) ∧
    (∀ (g : FuncId) (l : Array Value) (l2 : Array Value) (K : Value → Prop), nilK (.func (.func g) l l2) K = K (.func (.func g) l l2)) ∧
    (∀ (P : Program) (t : TypeId) (x : Value) (H : Heap) (K : Value → Prop), lenK P t x H K = lnK (P.underlying t) x H K) ∧
    (∀ (F : Int → Int → Int) (k : IntKind) (n : Int) (m : Int) (K : Value → Prop), pstep.mnK F (.int k n) (.int k m) K = K (.int k (F n m))) ∧
    (∀ (P : Program) (g : FuncId) (l : Array Value) (l2 : Array Value) (args : List Value) (H : Heap) (K4 : Value → Heap → Prop), callK P (.func (.func g) l l2) args H K4 = ACalls P g (l.toList ++ args ++ l2.toList) H K4) ∧
    (∀ (P : Program) (t : TypeId) (k : IntKind) (n : Int) (m : Int) (K : Value → Prop), binK P .add t (.int k n) (.int k m) K = K (.int k (k.wrap (n + m)))) ∧
    (∀ (P : Program) (t : TypeId) (k : IntKind) (n : Int) (m : Int) (K : Value → Prop), binK P .sub t (.int k n) (.int k m) K = K (.int k (k.wrap (n - m)))) ∧
    (∀ (P : Program) (t : TypeId) (k : IntKind) (n : Int) (m : Int) (K : Value → Prop), binK P .mul t (.int k n) (.int k m) K = K (.int k (k.wrap (n * m)))) ∧
    (∀ (P : Program) (t : TypeId) (k : IntKind) (n : Int) (m : Int) (K : Value → Prop), binK P .quo t (.int k n) (.int k m) K = (m ≠ 0 ∧ K (.int k (k.wrap (n.tdiv m))))) ∧
    (∀ (P : Program) (t : TypeId) (k : IntKind) (n : Int) (m : Int) (K : Value → Prop), binK P .rem t (.int k n) (.int k m) K = (m ≠ 0 ∧ K (.int k (n.tmod m)))) ∧
    (∀ (P : Program) (t : TypeId) (k : IntKind) (n : Int) (m : Int) (K : Value → Prop), binK P .eql t (.int k n) (.int k m) K = K (.bool (n == m))) ∧
    (∀ (P : Program) (t : TypeId) (k : IntKind) (n : Int) (m : Int) (K : Value → Prop), binK P .neq t (.int k n) (.int k m) K = K (.bool (n != m))) ∧
    (∀ (P : Program) (t : TypeId) (k : IntKind) (n : Int) (m : Int) (K : Value → Prop), binK P .lss t (.int k n) (.int k m) K = K (.bool (n < m))) ∧
    (∀ (P : Program) (t : TypeId) (k : IntKind) (n : Int) (m : Int) (K : Value → Prop), binK P .leq t (.int k n) (.int k m) K = K (.bool (n ≤ m))) ∧
    (∀ (P : Program) (t : TypeId) (k : IntKind) (n : Int) (m : Int) (K : Value → Prop), binK P .gtr t (.int k n) (.int k m) K = K (.bool (n > m))) ∧
    (∀ (P : Program) (t : TypeId) (k : IntKind) (n : Int) (m : Int) (K : Value → Prop), binK P .geq t (.int k n) (.int k m) K = K (.bool (n ≥ m))) := by
  refine ⟨?_, ?_, ?_, ?_, ?_, ?_, ?_, ?_, ?_, ?_, ?_, ?_, ?_, ?_, ?_, ?_, ?_, ?_, ?_, ?_, ?_, ?_, ?_, ?_, ?_, ?_⟩
  · intro b KB
    rfl
  · intro P t H a K
    simp only [loadK]; generalize tk P t = q; cases q with
    | none => rfl
    | some q => cases q <;> rfl
  · intro P t H a K2
    simp only [loadHK]; generalize tk P t = q; cases q with
    | none => rfl
    | some q => cases q <;> rfl
  · intro P t H a y K3
    simp only [storeK]; generalize H.get a.block = u; generalize tk P t = q; cases u with
    | cells cs es ro => cases ro with
      | true => rfl
      | false => cases q with
        | none => rfl
        | some q => cases q with
          | none => rfl
          | some n => cases y <;> rfl
    | _ => rfl
  · intro k n K
    rfl
  · intro b K
    rfl
  · intro P t f a K
    unfold fieldAddrK; generalize fo P t f = q; cases q <;> rfl
  · intro P t f cs K
    unfold fieldK; generalize fo P t f = q; cases q <;> rfl
  · intro P t x k n K
    rfl
  · intro i vs K
    rfl
  · intro a K
    rfl
  · intro g l l2 K
    rfl
  · intro P t x H K
    unfold lenK lnK; rfl
  · intro F k n m K
    simp [pstep.mnK]
  · intro P g l l2 args H K4
    rfl
  · intro P t k n m K
    simp [binK]
  · intro P t k n m K
    simp [binK]
  · intro P t k n m K
    simp [binK]
  · intro P t k n m K
    simp [binK]
  · intro P t k n m K
    simp [binK]
  · intro P t k n m K
    simp [binK]
  · intro P t k n m K
    simp [binK]
  · intro P t k n m K
    simp [binK]
  · intro P t k n m K
    simp [binK]
  · intro P t k n m K
    simp [binK]
  · intro P t k n m K
    simp [binK]
theorem kx2 :
    (∀ (H : Heap) (a : Addr) (K : Value → Prop), ldK (some none) H a K = (∃ v, H.cell a.block a.off = some v ∧ K v)) ∧
    (∀ (N : Nat) (H : Heap) (a : Addr) (K : Value → Prop), ldK (some (some N)) H a K = (∃ cs, H.range a.block a.off N = some cs ∧ K (.agg cs.toArray))) ∧
    (∀ (H : Heap) (a : Addr) (K2 : Value → HeldL → Prop), ldHK (some none) H a K2 = (∃ v, H.cell a.block a.off = some v ∧ K2 v [(a.block, a.off, v)])) ∧
    (∀ (N : Nat) (H : Heap) (a : Addr) (K2 : Value → HeldL → Prop), ldHK (some (some N)) H a K2 = (0 < N ∧ ∃ cs, H.range a.block a.off N = some cs ∧ K2 (.agg cs.toArray) (cs.zipIdx.map fun p => (a.block, a.off + p.2, p.1)))) ∧
    (∀ (ls : List Value) (es : Nat) (H : Heap) (a : Addr) (y : Value) (K3 : Heap → Prop), stK (some none) (.cells ls es false) H a y K3 = (y.oneCell' = true ∧ a.off < ls.length ∧ K3 (H.set a.block (.cells (ls.set a.off y) es false)))) ∧
    (∀ (N : Nat) (ls : List Value) (es : Nat) (H : Heap) (a : Addr) (vs : Array Value) (K3 : Heap → Prop), stK (some (some N)) (.cells ls es false) H a (.agg vs) K3 = (vs.size = N ∧ (∀ v ∈ vs.toList, v.oneCell' = true) ∧ a.off + N ≤ ls.length ∧ K3 (H.set a.block (.cells (ls.take a.off ++ vs.toList ++ ls.drop (a.off + N)) es false)))) ∧
    (∀ (H : Heap) (B : Nat) (o : Nat), H.cell B o = bcell (H.get B) o) ∧
    (∀ (ls : List Value) (es : Nat) (ro : Bool) (o : Nat), bcell (.cells ls es ro) o = ls[o]?) ∧
    (∀ (H : Heap) (B : Nat) (o : Nat) (N : Nat), H.range B o N = brange (H.get B) o N) ∧
    (∀ (ls : List Value) (es : Nat) (ro : Bool) (o : Nat) (N : Nat), brange (.cells ls es ro) o N = (if o + N ≤ ls.length then some ((ls.drop o).take N) else none)) ∧
    (∀ (s : Nat) (j : Int) (a : Addr) (M : Nat) (c : Nat) (K : Value → Prop), ixK (some (none, s)) j (.slice (some a) M c) K = (0 ≤ j ∧ j < M ∧ K (.pointer (some ⟨a.block, a.off + j.toNat * s, none⟩)))) ∧
    (∀ (M : Nat) (s : Nat) (j : Int) (a : Addr) (K : Value → Prop), ixK (some (some M, s)) j (.pointer (some a)) K = (0 ≤ j ∧ j < M ∧ K (.pointer (some ⟨a.block, a.off + j.toNat * s, none⟩)))) ∧
    (∀ (o : Nat) (a : Addr) (K : Value → Prop), foK (some (o, none)) a K = K (.pointer (some ⟨a.block, a.off + o, none⟩))) ∧
    (∀ (o : Nat) (N : Nat) (a : Addr) (K : Value → Prop), foK (some (o, some N)) a K = (some N ≠ some 0 ∧ K (.pointer (some ⟨a.block, a.off + o, none⟩)))) ∧
    (∀ (o : Nat) (vs : Array Value) (K : Value → Prop), fvK (some (o, none)) vs K = (∃ v, vs[o]? = some v ∧ K v)) ∧
    (∀ (o : Nat) (N : Nat) (vs : Array Value) (K : Value → Prop), fvK (some (o, some N)) vs K = K (.agg (vs.extract o (o + N)))) ∧
    (∀ (e : TypeId) (X : Option Addr) (M : Nat) (c : Nat) (H : Heap) (K : Value → Prop), lnK (some (.slice e)) (.slice X M c) H K = K (.int .i64 M)) ∧
    (∀ (S : ByteArray) (H : Heap) (K : Value → Prop), lnK (some .string) (.string S) H K = K (.int .i64 S.size)) ∧
    (∀ (N : Nat) (e : TypeId) (x : Value) (H : Heap) (K : Value → Prop), lnK (some (.array N e)) x H K = K (.int .i64 N)) ∧
    (∀ (T : TypeId) (e : TypeId) (x : Value) (H : Heap) (K : Value → Prop), lnK (some (.map T e)) x H K = mapOf x H fun es => K (.int .i64 es.length)) := by
  refine ⟨?_, ?_, ?_, ?_, ?_, ?_, ?_, ?_, ?_, ?_, ?_, ?_, ?_, ?_, ?_, ?_, ?_, ?_, ?_, ?_⟩
  · intro H a K
    rfl
  · intro N H a K
    rfl
  · intro H a K2
    rfl
  · intro N H a K2
    rfl
  · intro ls es H a y K3
    rfl
  · intro N ls es H a vs K3
    rfl
  · intro H B o
    unfold Heap.cell bcell; generalize H.get B = q; cases q <;> rfl
  · intro ls es ro o
    rfl
  · intro H B o N
    unfold Heap.range brange; generalize H.get B = q; cases q <;> rfl
  · intro ls es ro o N
    rfl
  · intro s j a M c K
    rfl
  · intro M s j a K
    rfl
  · intro o a K
    simp [foK]
  · intro o N a K
    simp [foK]
  · intro o vs K
    rfl
  · intro o N vs K
    rfl
  · intro e X M c H K
    rfl
  · intro S H K
    rfl
  · intro N e x H K
    rfl
  · intro T e x H K
    rfl
theorem bitx :
    (∀ (P : Program) (t : TypeId) (k : IntKind) (n : Int) (m : Int) (K : Value → Prop), binK P .and t (.int k n) (.int k m) K = K (.int k (andI k n m))) ∧
    (∀ (P : Program) (t : TypeId) (k k' : IntKind) (n : Int) (m : Int) (K : Value → Prop), binK P .shr t (.int k n) (.int k' m) K = (0 ≤ m ∧ K (.int k (n.fdiv (2 ^ (min m.toNat k.bits)))))) ∧
    (∀ (P : Program) (t : TypeId) (k k' : IntKind) (n : Int) (m : Int) (K : Value → Prop), binK P .shl t (.int k n) (.int k' m) K = (0 ≤ m ∧ K (.int k (k.wrap (n * 2 ^ (min m.toNat k.bits)))))) ∧
    (∀ (P : Program) (t : TypeId) (a b : Bool) (K : Value → Prop), binK P .eql t (.bool a) (.bool b) K = (P.underlying t = some .bool ∧ K (.bool (a == b)))) ∧
    (∀ (P : Program) (t : TypeId) (a b : Bool) (K : Value → Prop), binK P .neq t (.bool a) (.bool b) K = (P.underlying t = some .bool ∧ K (.bool !(a == b)))) := by
  refine ⟨fun P t k n m K => propext ⟨fun h => h.2, fun h => ⟨rfl, h⟩⟩, fun P t k k' n m K => rfl, fun P t k k' n m K => rfl, fun P t a b K => rfl, fun P t a b K => rfl⟩
theorem nx : (∀ h : Decidable True, @decide True h = true) ∧ (∀ h : Decidable False, @decide False h = false) ∧ (∀ n : Nat, ((n : Int)).toNat = n) ∧ (∀ n : Nat, n * 1 = n) ∧ (∀ n : Nat, 1 * n = n) ∧ (∀ n : Nat, 0 + n = n) ∧ (∀ n : Nat, n + 0 = n) ∧ (∀ n : Nat, n - 0 = n) ∧
    (∀ (H : Heap) (x : Blk), (H.push x).size = H.size + 1) ∧ (∀ (H : Heap) (b : Nat) (x : Blk), (H.set b x).size = H.size) ∧ (∀ (H : Heap) (b : Nat) (x : Blk), (H.set b x).get b = x) ∧
    (∀ (α : Type) (a b : α), (some a = some b) = (a = b)) ∧ (∀ (α : Type) (a : α) (p : α → Prop), (∃ x, a = x ∧ p x) = p a) ∧ (∀ (α : Type) (a : α) (p : α → Prop), (∃ x, x = a ∧ p x) = p a) ∧
    (∀ (α β : Type) (f : α → β) (a : α), (some a).map f = some (f a)) ∧ (∀ (α β : Type) (f : α → β), (none : Option α).map f = none) ∧ (∀ (α : Type) (a : α), (some a).isSome = true) ∧ (∀ (α : Type), (none : Option α).isSome = false) ∧
    (∀ p : Prop, (True ∧ p) = p) ∧ (∀ p : Prop, (p ∧ True) = p) ∧ (∀ p : Prop, (True → p) = p) ∧ (∀ p : Prop, (False → p) = True) ∧ ((true = false) = False) ∧ ((false = true) = False) ∧ ((true = true) = True) ∧ ((false = false) = True) ∧
    ((!true) = false) ∧ ((!false) = true) ∧ (∀ (α β : Type) (f : α → β), [].map f = []) ∧ (∀ (α β : Type) (f : α → β) (a : α) (l : List α), (a :: l).map f = f a :: l.map f) ∧
    (∀ (α β : Type) (f : α → β) (l : List α), l.toArray.map f = (l.map f).toArray) ∧ (∀ (α : Type) (l : List α), l.toArray.toList = l) ∧ (∀ (α : Type) (l : List α), [] ++ l = l) ∧ (∀ (α : Type) (l : List α), l ++ [] = l) ∧
    (∀ (α : Type) (a : α) (l l' : List α), (a :: l) ++ l' = a :: (l ++ l')) ∧ (∀ (p : Prop) [Decidable p] (x y : Bool), (if p then Value.bool x else Value.bool y) = Value.bool (if p then x else y)) ∧
    (∀ (α : Type) (x y : α), (if true = true then x else y) = x) ∧ (∀ (α : Type) (x y : α), (if false = true then x else y) = y) ∧ (∀ k n, (Value.int k n).cells = #[.int k n]) ∧ (∀ b, (Value.bool b).cells = #[.bool b]) ∧ (∀ l, (Value.agg l).cells = l) ∧ (∀ a n c, (Value.slice a n c).cells = #[.slice a n c]) ∧ (∀ a, (Value.pointer a).cells = #[.pointer a]) ∧ (∀ a, (Value.map a).cells = #[.map a]) ∧ (∀ f l l', (Value.func f l l').cells = #[.func f l l']) ∧ (∀ s, (Value.string s).cells = #[.string s]) ∧
    (∀ k n, (Value.int k n).oneCell' = true) ∧ (∀ b, (Value.bool b).oneCell' = true) ∧ (∀ a n c, (Value.slice a n c).oneCell' = true) ∧ (∀ a, (Value.pointer a).oneCell' = true) ∧ (∀ a, (Value.map a).oneCell' = true) ∧ (∀ f l l', (Value.func f l l').oneCell' = true) ∧ (∀ s, (Value.string s).oneCell' = true) := by
  refine ⟨fun _ => by simp, fun _ => by simp, Int.toNat_natCast, Nat.mul_one, Nat.one_mul, Nat.zero_add, Nat.add_zero, Nat.sub_zero, fun _ _ => rfl, fun _ _ _ => rfl, fun _ _ _ => get_set_eq, fun _ _ _ => by simp, fun _ _ _ => by simp, fun _ _ _ => by simp, fun _ _ _ _ => rfl, fun _ _ _ => rfl, fun _ _ => rfl, fun _ => rfl, fun _ => by simp, fun _ => by simp, fun _ => by simp, fun _ => by simp, by simp, by simp, by simp, by simp, rfl, rfl, fun _ _ _ => rfl, fun _ _ _ _ _ => rfl, fun _ _ _ _ => by simp, fun _ _ => rfl, fun _ _ => rfl, fun _ _ => by simp, fun _ _ _ _ => rfl, fun p _ x y => by split <;> rfl, fun _ _ _ => by simp, fun _ _ _ => by simp, fun _ _ => rfl, fun _ => rfl, fun _ => rfl, fun _ _ _ => rfl, fun _ => rfl, fun _ => rfl, fun _ _ _ => rfl, fun _ => rfl, fun _ _ => rfl, fun _ => rfl, fun _ _ _ => rfl, fun _ => rfl, fun _ => rfl, fun _ _ _ => rfl, fun _ => rfl⟩
/-- .. under conditions on numbers. -/
theorem cx : (∀ {n : Int}, -9223372036854775808 ≤ n → n ≤ 9223372036854775807 → IntKind.i64.wrap n = n) ∧ (∀ {a b : Int}, 0 ≤ a → a.tdiv b = a / b) ∧ (∀ {a b : Int}, 0 ≤ a → a.tmod b = a % b) ∧
    (∀ {H : Heap} {x : Blk} {b : Nat}, b < H.size → (H.push x).get b = H.get b) ∧ (∀ {H : Heap} {x : Blk} {b : Nat}, b = H.size → (H.push x).get b = x) ∧ (∀ {H : Heap} {x : Blk} {b c : Nat}, c ≠ b → (H.set b x).get c = H.get c) :=
  ⟨wrap64_id, fun h => Int.tdiv_eq_ediv_of_nonneg h, fun h => Int.tmod_eq_emod_of_nonneg h, get_push_lt, get_push_eq, get_set_ne⟩
theorem dx : (∀ (p : Prop) [Decidable p], (decide p = true) = p) ∧ (∀ (p : Prop) [Decidable p], (decide p = false) = ¬ p) ∧ (∀ n m : Int, ((n == m) = true) = (n = m)) ∧ (∀ n m : Int, ((n == m) = false) = ¬ (n = m)) ∧ (∀ n m : Int, ((n != m) = true) = ¬ (n = m)) ∧ (∀ n m : Int, ((n != m) = false) = (n = m)) ∧
    (∀ b : Bool, ((!b) = true) = (b = false)) ∧ (∀ b : Bool, ((!b) = false) = (b = true)) := by
  refine ⟨fun p _ => by simp, fun p _ => by simp, fun _ _ => by simp, fun _ _ => by simp, fun _ _ => by simp, fun _ _ => by simp, fun b => by cases b <;> simp, fun b => by cases b <;> simp⟩
end
theorem ex_ite {α : Type} {p : Prop} [Decidable p] {a : α} {q : α → Prop} : (∃ c, (if p then some a else none) = some c ∧ q c) ↔ p ∧ q a := by
  constructor
  · rintro ⟨c, h, hq⟩
    by_cases hp : p
    · rw [if_pos hp] at h; cases h; exact ⟨hp, hq⟩
    · rw [if_neg hp] at h; cases h
  · rintro ⟨hp, hq⟩; exact ⟨a, if_pos hp, hq⟩
theorem ex_some {α : Type} {a : α} {q : α → Prop} : (∃ c, some a = some c ∧ q c) ↔ q a := by simp
theorem one_app {l m : List Value} (h : oneCells l) (g : oneCells m) : oneCells (l ++ m) := by
  intro v hv; rcases List.mem_append.1 hv with h1 | h1
  · exact h v h1
  · exact g v h1
theorem one_map {α : Type} {l : List α} {f : α → Value} (h : ∀ x, (f x).oneCell' = true) : oneCells (l.map f) := by
  intro v hv; obtain ⟨x, _, rfl⟩ := List.mem_map.1 hv; exact h x
theorem one_nil : oneCells [] := by intro v hv; cases hv
theorem one_cons {v : Value} {l : List Value} (h : v.oneCell' = true) (g : oneCells l) : oneCells (v :: l) := by
  intro u hu; cases hu with
  | head => exact h
  | tail _ h1 => exact g u h1
theorem ex_and {α : Type} {p : Prop} {r q : α → Prop} : (∃ c, (p ∧ r c) ∧ q c) ↔ p ∧ ∃ c, r c ∧ q c := by
  constructor
  · rintro ⟨c, ⟨hp, hr⟩, hq⟩; exact ⟨hp, c, hr, hq⟩
  · rintro ⟨hp, c, hr, hq⟩; exact ⟨c, ⟨hp, hr⟩, hq⟩
theorem zero1 (x : Value) (k : Nat) : (Builtin.zeroCells #[x] k).toList = List.replicate k x := by
  unfold Builtin.zeroCells
  rw [Array.toList_map]
  apply List.ext_getElem
  · simp
  · intro i h1 h2
    simp [Nat.mod_one]
abbrev I (n : Int) : Value := .int .i64 n
abbrev B (b : Bool) : Value := .bool b
def ints (l : List Int) : List Value := l.map (Value.int .i64)
theorem ints_len (l : List Int) : (ints l).length = l.length := by simp [ints]
theorem ints_get {l : List Int} {i : Nat} (h : i < l.length) : (ints l)[i]? = some (.int .i64 (l.getD i 0)) := by simp [ints, h]
theorem ints_set (l : List Int) (i : Nat) (x : Int) : (ints l).set i (.int .i64 x) = ints (l.set i x) := by simp [ints]
theorem take_ints (l : List Int) (n : Nat) : (ints l).take n = ints (l.take n) := by simp [ints, List.map_take]
theorem drop_ints (l : List Int) (n : Nat) : (ints l).drop n = ints (l.drop n) := by simp [ints, List.map_drop]
theorem app_ints (l m : List Int) : ints l ++ ints m = ints (l ++ m) := by simp [ints]
theorem one_ints (l : List Int) : oneCells (ints l) := by intro v hv; obtain ⟨x, _, rfl⟩ := List.mem_map.1 hv; rfl
theorem rep_ints (k : Nat) (x : Int) : List.replicate k (Value.int .i64 x) = ints (List.replicate k x) := by simp [ints]
theorem cons_ints (l : List Int) (x : Int) : ints l ++ [.int .i64 x] = ints (l ++ [x]) := by simp [ints]
theorem one_int (x : Int) : [Value.int .i64 x] = ints [x] := rfl
theorem ib :
    (∀ l : List Int, (ints l).length = l.length) ∧ (∀ (l : List Int) (i : Nat), i < l.length → (ints l)[i]? = some (.int .i64 (l.getD i 0))) ∧ (∀ (l : List Int) (i : Nat) (x : Int), (ints l).set i (.int .i64 x) = ints (l.set i x)) ∧
    (∀ (l : List Int) (n : Nat), (ints l).take n = ints (l.take n)) ∧ (∀ (l : List Int) (n : Nat), (ints l).drop n = ints (l.drop n)) ∧ (∀ l m : List Int, ints l ++ ints m = ints (l ++ m)) ∧
    (∀ (k : Nat) (x : Int), List.replicate k (Value.int .i64 x) = ints (List.replicate k x)) ∧ (∀ (l : List Int) (x : Int), ints l ++ [.int .i64 x] = ints (l ++ [x])) :=
  ⟨ints_len, fun _ _ h => ints_get h, ints_set, take_ints, drop_ints, app_ints, rep_ints, cons_ints⟩
structure Ext (H H' : Heap) : Prop where
  size : H.size ≤ H'.size
  get : ∀ b, b < H.size → H'.get b = H.get b
theorem Ext.refl (H : Heap) : Ext H H := ⟨Nat.le_refl _, fun _ _ => rfl⟩
theorem Ext.trans {H H1 H2 : Heap} (h : Ext H H1) (g : Ext H1 H2) : Ext H H2 := ⟨Nat.le_trans h.size g.size, fun b hb => (g.get b (Nat.lt_of_lt_of_le hb h.size)).trans (h.get b hb)⟩
theorem Ext.push {H H1 : Heap} (h : Ext H H1) (x : Blk) : Ext H (H1.push x) := h.trans ⟨by rw [Heap.size_push]; omega, fun b hb => get_push_lt hb⟩
theorem Ext.set {H H1 : Heap} (h : Ext H H1) {b : Nat} (x : Blk) (hb : H.size ≤ b) : Ext H (H1.set b x) := ⟨h.size, fun c hc => by rw [get_set_ne (by omega)]; exact h.get c hc⟩
theorem cok (l : List Value) (h : l.all flat = true) : constOk (.agg l.toArray) = true := by
  unfold constOk
  simpa using h
theorem Ext.up {H Ha H1 : Heap} (h : Ext Ha H1) (g : Ext H Ha) : Ext H H1 := g.trans h
theorem Ext.pop {H H1 : Heap} {x : Blk} (h : Ext (H.push x) H1) : Ext H H1 := ((Ext.refl H).push x).trans h
theorem i2x :
    (∀ (P : Program) (t : TypeId) (k k2 k' k2' : IntKind) (a b c d : Int) (K : Value → Prop), binK P .eql t (.agg #[.int k a, .int k2 b]) (.agg #[.int k' c, .int k2' d]) K = (i2 P t = true ∧ k' = k ∧ k2' = k2 ∧ K (.bool (a == c && b == d)))) ∧
    (∀ (P : Program) (t : TypeId) (k k2 k' k2' : IntKind) (a b c d : Int) (K : Value → Prop), binK P .neq t (.agg #[.int k a, .int k2 b]) (.agg #[.int k' c, .int k2' d]) K = (i2 P t = true ∧ k' = k ∧ k2' = k2 ∧ K (.bool (!(a == c && b == d))))) :=
  ⟨fun _ _ _ _ _ _ _ _ _ _ _ => rfl, fun _ _ _ _ _ _ _ _ _ _ _ => rfl⟩
def setAll (cs : List Value) (off : Nat) (vs : List Value) : List Value := cs.take off ++ vs ++ cs.drop (off + vs.length)
def fillL (place : Nat → Option (Nat × Nat)) : List Value → List (Nat × Value) → Option (List Value)
  | cs, [] => some cs
  | cs, (i, v) :: r => match place i with
    | none => none
    | some (off, size) => if v.cells.size = size ∧ off + size ≤ cs.length then fillL place (setAll cs off v.cells.toList) r else none
theorem fold_setAll : ∀ (vs : List Value) (k off : Nat) (cs : Array Value), off + k + vs.length ≤ cs.size → ((vs.zipIdx k).foldl (fun cs (x : Value × Nat) => cs.setIfInBounds (off + x.2) x.1) cs).toList = setAll cs.toList (off + k) vs
  | [], k, off, cs, h => by simp [setAll]
  | v :: vs, k, off, cs, h => by
    rw [List.zipIdx_cons, List.foldl_cons, fold_setAll vs (k + 1) off _ (by simp at h ⊢; omega)]
    simp only [setAll, Array.toList_setIfInBounds]
    apply List.ext_getElem?
    intro i
    simp only [List.length_cons] at h
    have hs : cs.toList.length = cs.size := by simp
    simp only [List.getElem?_append, List.length_append, List.length_take, List.length_set, List.getElem?_drop, List.getElem?_take, List.getElem?_set, List.length_cons, List.getElem?_cons, hs]
    have m1 : min (off + (k + 1)) cs.size = off + k + 1 := by omega
    have m2 : min (off + k) cs.size = off + k := by omega
    rw [m1, m2]
    by_cases c1 : i < off + k
    · simp [show i < off + k + 1 by omega, show i < off + k + 1 + vs.length by omega, show i < off + k + (vs.length + 1) by omega, c1, show ¬ off + k = i by omega, show i < off + (k + 1) by omega]
    · by_cases c2 : i = off + k
      · subst c2
        simp [show off + k < off + (k + 1) by omega, show off + k < cs.size by omega, show off + k < off + k + 1 + vs.length by omega]
      · by_cases c3 : i < off + k + 1 + vs.length
        · simp [show ¬ i < off + k + 1 by omega, c3, c1, show i < off + k + (vs.length + 1) by omega, show ¬ i - (off + k) = 0 by omega, show i - (off + k) - 1 = i - (off + k + 1) by omega]
        · simp [show ¬ i < off + k + 1 by omega, c3, c1, show ¬ i < off + k + (vs.length + 1) by omega, show off + (k + 1) + vs.length + (i - (off + k + 1 + vs.length)) = off + k + (vs.length + 1) + (i - (off + k + (vs.length + 1))) by omega, show ¬ off + k = off + k + (vs.length + 1) + (i - (off + k + (vs.length + 1))) by omega]
theorem fill_eq (place : Nat → Option (Nat × Nat)) : ∀ (parts : List (Nat × Value)) (cs : Array Value), Instr.fill place cs parts = (fillL place cs.toList parts).map List.toArray
  | [], cs => by simp [Instr.fill, fillL]
  | (i, v) :: r, cs => by
    unfold Instr.fill fillL
    split
    · rename_i h; rw [h]; rfl
    · rename_i off size h
      rw [h]
      by_cases hc : v.cells.size = size ∧ off + size ≤ cs.toList.length
      · obtain ⟨hc1, hc2⟩ := hc
        have hc3 : cs.toList.length = cs.size := by simp
        rw [if_neg (by simp [hc1]; omega), fill_eq place r]
        dsimp only
        rw [if_pos ⟨hc1, hc2⟩]
        congr 2
        have := fold_setAll v.cells.toList 0 off cs (by simp; omega)
        rw [Nat.add_zero] at this
        rw [← this, ← Array.foldl_toList, Array.toList_zipIdx]
      · rw [if_pos]
        · dsimp only
          rw [if_neg hc]; rfl
        · have hc3 : cs.toList.length = cs.size := by simp
          by_cases h1 : v.cells.size = size
          · have : ¬ off + size ≤ cs.toList.length := fun h => hc ⟨h1, h⟩
            rw [Bool.or_eq_true]; right; rw [decide_eq_true_eq]; omega
          · rw [Bool.or_eq_true]; left; rw [decide_eq_true_eq]; exact h1
theorem zcells_eq (z : List Value) (m : Nat) (hz : 0 < z.length) : (zcells z.toArray (m * z.length)).toList = (List.replicate m z).flatten := by
  unfold zcells
  rw [Array.toList_map]
  induction m with
  | zero => simp
  | succ m ih =>
    rw [List.replicate_succ', List.flatten_append, ← ih]
    have : (m + 1) * z.length = m * z.length + z.length := by rw [Nat.add_mul, Nat.one_mul]
    rw [this]
    simp only [Array.toList_range, List.range_add, List.map_append, List.map_map, List.flatten_cons, List.flatten_nil, List.append_nil]
    congr 1
    apply List.ext_getElem
    · simp
    · intro i h1 h2
      simp only [List.length_map, List.length_range] at h1
      simp [Nat.mul_add_mod', Nat.mod_eq_of_lt h1, h1]
def zz (z z2 : Value) : Nat → List Value
  | 0 => []
  | 1 => [z]
  | n + 2 => z :: z2 :: zz z z2 n
theorem zz_get (z z2 : Value) : ∀ n i, i < n → (zz z z2 n)[i]? = some (if i % 2 = 0 then z else z2)
  | 0, i, h => by omega
  | 1, i, h => by obtain rfl : i = 0 := by omega
                  rfl
  | n + 2, 0, h => rfl
  | n + 2, 1, h => rfl
  | n + 2, i + 2, h => by
    rw [zz, List.getElem?_cons_succ, List.getElem?_cons_succ, zz_get z z2 n i (by omega), Nat.add_mod_right]
theorem zz_len (z z2 : Value) : ∀ n, (zz z z2 n).length = n
  | 0 => rfl
  | 1 => rfl
  | n + 2 => by simp [zz, zz_len z z2 n]
theorem zcells_uno (z : Value) (m : Nat) : zcells #[z] m = (List.replicate m z).toArray := by
  apply Array.ext'
  have := zcells_eq [z] m (by simp)
  simp only [List.length_cons, List.length_nil, Nat.zero_add, Nat.mul_one] at this
  rw [this]; simp
theorem zcells_two (z z2 : Value) (m : Nat) : zcells #[z, z2] m = (zz z z2 m).toArray := by
  apply Array.ext'
  unfold zcells
  rw [Array.toList_map]
  apply List.ext_getElem?
  intro i
  by_cases hi : i < m
  · rw [zz_get _ _ _ _ hi]
    simp only [List.getElem?_map, Array.toList_range]
    rw [List.getElem?_range hi]
    rcases Nat.mod_two_eq_zero_or_one i with h | h <;> simp [h]
  · rw [List.getElem?_eq_none (by simp; omega), List.getElem?_eq_none (by rw [zz_len]; omega)]
theorem fx :
    (∀ (place : Nat → Option (Nat × Nat)) (l : List Value) (parts : List (Nat × Value)), Instr.fill place l.toArray parts = (fillL place l parts).map List.toArray) ∧
    (∀ (place : Nat → Option (Nat × Nat)) (cs : List Value), fillL place cs [] = some cs) ∧
    (∀ (place : Nat → Option (Nat × Nat)) (cs : List Value) (i : Nat) (v : Value) (r : List (Nat × Value)), fillL place cs ((i, v) :: r) = (match place i with | none => none | some (off, size) => if v.cells.size = size ∧ off + size ≤ cs.length then fillL place (setAll cs off v.cells.toList) r else none)) ∧
    (∀ (z : Value) (m : Nat), zcells #[z] m = (List.replicate m z).toArray) ∧ (∀ (z z2 : Value) (m : Nat), zcells #[z, z2] m = (zz z z2 m).toArray) ∧ (∀ z z2 : Value, zz z z2 0 = []) ∧ (∀ (z z2 : Value) (n : Nat), zz z z2 (n + 2) = z :: z2 :: zz z z2 n) ∧
    (∀ (cs vs : List Value) (off : Nat), setAll cs off vs = cs.take off ++ vs ++ cs.drop (off + vs.length)) ∧
    (∀ (k : IntKind) (n : Int), (Value.int k n).cells = #[.int k n]) ∧ (∀ b : Bool, (Value.bool b).cells = #[.bool b]) ∧ (∀ a n c, (Value.slice a n c).cells = #[.slice a n c]) ∧ (∀ a, (Value.pointer a).cells = #[.pointer a]) ∧
    (∀ cs : Array Value, (Value.agg cs).cells = cs) ∧ (∀ s, (Value.string s).cells = #[.string s]) ∧
    (∀ (α : Type) (l : List α), (some l).map List.toArray = some l.toArray) ∧
    (∀ (α : Type) (a : α), (none : Option α).getD a = a) ∧ (∀ (α : Type) (a b : α), (some b).getD a = b) :=
  ⟨fun place l parts => by rw [fill_eq], fun _ _ => rfl, fun _ _ _ _ _ => by rw [fillL], zcells_uno, zcells_two, fun _ _ => rfl, fun _ _ _ => rfl, fun _ _ _ => rfl, fun _ _ => rfl, fun _ => rfl, fun _ _ _ => rfl, fun _ => rfl, fun _ => rfl, fun _ => rfl, fun _ _ => rfl, fun _ _ => rfl, fun _ _ _ => rfl⟩
/-! ### The rules of a run in few words -/
theorem xxq : type_of% (And.intro sx (And.intro px (And.intro ax (And.intro kx1 (And.intro kx2 (And.intro nx (And.intro cx (And.intro dx (And.intro i2x (And.intro ib (And.intro bitx fx))))))))))) := And.intro sx (And.intro px (And.intro ax (And.intro kx1 (And.intro kx2 (And.intro nx (And.intro cx (And.intro dx (And.intro i2x (And.intro ib (And.intro bitx fx))))))))))
theorem xxa : type_of% (And.intro Nat.le_refl (And.intro or_true (And.intro true_or (And.intro @List.getElem?_toArray.{0} (And.intro Bool.and_true (And.intro Bool.true_and (And.intro Bool.and_false (And.intro Bool.false_and (And.intro @beq_self_eq_true.{0} (And.intro Bool.not_true (And.intro Bool.not_false (And.intro not_true_eq_false (And.intro false_implies (And.intro @true_implies (And.intro and_true true_and))))))))))))))) := And.intro Nat.le_refl (And.intro or_true (And.intro true_or (And.intro @List.getElem?_toArray.{0} (And.intro Bool.and_true (And.intro Bool.true_and (And.intro Bool.and_false (And.intro Bool.false_and (And.intro @beq_self_eq_true.{0} (And.intro Bool.not_true (And.intro Bool.not_false (And.intro not_true_eq_false (And.intro false_implies (And.intro @true_implies (And.intro and_true true_and))))))))))))))
theorem xxb : type_of% (And.intro @List.take_of_length_le.{0} (And.intro @List.replicate_succ.{0} (And.intro @List.replicate_zero.{0} (And.intro @List.flatten_cons.{0} (And.intro @List.flatten_nil.{0} (And.intro @List.cons_append.{0} (And.intro @List.take_succ_cons.{0} (And.intro @List.drop_succ_cons.{0} (And.intro @ex_ite (And.intro @ex_some (And.intro @ite_self.{1} (And.intro Nat.sub_self (And.intro Nat.add_zero (And.intro Nat.zero_add (And.intro Nat.add_sub_cancel_left @Nat.add_sub_cancel))))))))))))))) := And.intro @List.take_of_length_le.{0} (And.intro @List.replicate_succ.{0} (And.intro @List.replicate_zero.{0} (And.intro @List.flatten_cons.{0} (And.intro @List.flatten_nil.{0} (And.intro @List.cons_append.{0} (And.intro @List.take_succ_cons.{0} (And.intro @List.drop_succ_cons.{0} (And.intro @ex_ite (And.intro @ex_some (And.intro @ite_self.{1} (And.intro Nat.sub_self (And.intro Nat.add_zero (And.intro Nat.zero_add (And.intro Nat.add_sub_cancel_left @Nat.add_sub_cancel))))))))))))))
theorem xxc : type_of% (And.intro @List.size_toArray.{0} (And.intro @List.drop_zero.{0} (And.intro @List.take_zero.{0} (And.intro @List.append_nil.{0} (And.intro @List.nil_append.{0} (And.intro @List.length_append.{0} (And.intro @List.length_take.{0} (And.intro @List.length_drop.{0} (And.intro @List.length_set.{0} (And.intro @List.length_map.{0,0} (And.intro @List.length_replicate.{0} (And.intro @List.getElem?_cons_zero.{0} (And.intro @List.getElem?_cons_succ.{0} (And.intro @List.length_cons.{0} (And.intro @List.length_nil.{0} (And.intro @List.set_cons_zero.{0} (And.intro @List.set_cons_succ.{0} not_false_eq_true))))))))))))))))) := And.intro @List.size_toArray.{0} (And.intro @List.drop_zero.{0} (And.intro @List.take_zero.{0} (And.intro @List.append_nil.{0} (And.intro @List.nil_append.{0} (And.intro @List.length_append.{0} (And.intro @List.length_take.{0} (And.intro @List.length_drop.{0} (And.intro @List.length_set.{0} (And.intro @List.length_map.{0,0} (And.intro @List.length_replicate.{0} (And.intro @List.getElem?_cons_zero.{0} (And.intro @List.getElem?_cons_succ.{0} (And.intro @List.length_cons.{0} (And.intro @List.length_nil.{0} (And.intro @List.set_cons_zero.{0} (And.intro @List.set_cons_succ.{0} not_false_eq_true))))))))))))))))
/-- A goal that is left for later. -/
structure Later (p : Prop) : Prop where
  out : p
theorem ACalls.hk {P : Program} {f : FuncId} {args : List Value} {H : Heap} {K K' : Value → Heap → Prop} (hK : Cont (∀ v H', K v H' → K' v H')) (h : ACalls P f args H K) : ACalls P f args H K' := h.mono hK.out
theorem ACalls.hkx {P : Program} {f : FuncId} {args : List Value} {H : Heap} {p : Heap → Prop} {K K' : Value → Heap → Prop} (hK : Cont (∀ v H', p H' → K v H' → K' v H')) (h : ACalls P f args H fun v H' => p H' ∧ K v H') : ACalls P f args H K' := h.mono fun v H' q => hK.out v H' q.1 q.2
theorem ex1 {p : Prop} (h : p := by ((repeat first | exact Ext.refl _ | assumption | refine Ext.push ?_ _ | refine Ext.set ?_ _ (by first | omega | (simp only [nx, *]; omega)) | (apply Ext.up; focus (assumption; done))); (first | done | fail))) : p := h
section
variable {P : Program} {m : Nat} {K : Fr → Heap → Prop} {A : Fr} {H : Heap} {dst : Option Nat} {op : Op} {ty : TypeId} {pos : String} {af : Array Edge}
theorem AOps.cons2 {ops : Array Oper} {rest : List Oper} (hd : dstOk m dst = true) (hx : op.operands.toList.all opndOk = true)
    (h : ∀ K' : Value → Heap → Prop, Cont (∀ v H', AOps P m ops rest K (put A dst v) H' → K' v H') → astep P ⟨dst, op, ty, pos, af, none⟩ (ev A) H K') : AOps P m ops (⟨dst, op, ty, pos, af, none⟩ :: rest) K A H := AOps.cons1 rfl hd hx h
end
structure ExtR (lo hi : Nat) (H H' : Heap) : Prop where
  size : H.size ≤ H'.size
  get : ∀ b, b < H.size → (b < lo ∨ hi ≤ b) → H'.get b = H.get b
theorem ExtR.refl {lo hi : Nat} (H : Heap) : ExtR lo hi H H := ⟨Nat.le_refl _, fun _ _ _ => rfl⟩
theorem Ext.r {H H' : Heap} (h : Ext H H') (lo hi : Nat) : ExtR lo hi H H' := ⟨h.size, fun b hb _ => h.get b hb⟩
theorem ExtR.trans {lo hi : Nat} {H H1 H2 : Heap} (h : ExtR lo hi H H1) (k : ExtR lo hi H1 H2) : ExtR lo hi H H2 := ⟨Nat.le_trans h.size k.size, fun b hb hn => (k.get b (Nat.lt_of_lt_of_le hb h.size) hn).trans (h.get b hb hn)⟩
theorem ExtR.set {lo hi g : Nat} {H H1 : Heap} (h : ExtR lo hi H H1) (x : Blk) (h1 : lo ≤ g) (h2 : g < hi) : ExtR lo hi H (H1.set g x) := ⟨h.size, fun b hb hn => (get_set_ne (by omega)).trans (h.get b hb hn)⟩
theorem ExtR.push {lo hi : Nat} {H H1 : Heap} (h : ExtR lo hi H H1) (x : Blk) : ExtR lo hi H (H1.push x) := ⟨by rw [Heap.size_push]; exact Nat.le_succ_of_le h.size, fun b hb hn => (get_push_lt (Nat.lt_of_lt_of_le hb h.size)).trans (h.get b hb hn)⟩
theorem Ext.upr {lo hi : Nat} {H Ha H1 : Heap} (h : Ext Ha H1) (g : ExtR lo hi H Ha) : ExtR lo hi H H1 := g.trans (h.r lo hi)
theorem exr {p : Prop} (h : p := by ((repeat first | exact ExtR.refl _ | assumption | refine ExtR.push ?_ _ | refine ExtR.set ?_ _ (by omega) (by omega) | (apply Ext.upr; focus (assumption; done))); (first | done | fail))) : p := h
/-! ### Frames that agree outside a list of places -/
structure Ag (D : List Nat) (A F : Fr) : Prop where
  h : ∀ t, D.contains t = false → A t = F t
theorem Ag.refl (D : List Nat) (A : Fr) : Ag D A A := ⟨fun _ _ => rfl⟩
theorem Ag.nop {D : List Nat} {A F : Fr} {v : Value} (h : Ag D A F) : Ag D (put A none v) F := h
theorem Ag.dead {D : List Nat} {A F : Fr} {d : Nat} {v : Value} (hd : D.contains d = true) (h : Ag D A F) : Ag D (put A (some d) v) F := by
  refine ⟨fun t ht => ?_⟩
  rw [put_at, if_neg (fun e => by rw [e, hd] at ht; cases ht)]
  exact h.h t ht
theorem cons_false {D : List Nat} {d t : Nat} (h : D.contains t = false) (e : t ≠ d) : (d :: D).contains t = false := by
  rw [List.contains_cons, h, Bool.or_false]
  simpa using e
theorem Ag.live {D : List Nat} {A F : Fr} {d : Nat} {v : Value} (hv : v = F d) (h : Ag (d :: D) A F) : Ag D (put A (some d) v) F := by
  refine ⟨fun t ht => ?_⟩
  rw [put_at]
  split
  · rename_i e; rw [e]; exact hv
  · rename_i e; exact h.h t (cons_false ht e)
theorem Ag.up {D E : List Nat} {A F G : Fr} (h : Ag D A F) (hs : D.all (E.contains ·) = true) (g : Ag E F G) : Ag E A G := ⟨fun t ht => by
  rw [h.h t (by
    cases e : D.contains t
    · rfl
    · have := List.all_eq_true.1 hs t (by simpa using e)
      rw [this] at ht; cases ht)]
  exact g.h t ht⟩
theorem Ag.dr {D : List Nat} {A F : Fr} {d : Nat} {v : Value} (hd : D.contains d = true) (h : Ag D A F) : Ag D A (put F (some d) v) := by
  refine ⟨fun t ht => ?_⟩
  rw [put_at, if_neg (fun e => by rw [e, hd] at ht; cases ht)]
  exact h.h t ht
theorem Ag.lr {D : List Nat} {A F : Fr} {d : Nat} {v : Value} (hv : A d = v) (h : Ag (d :: D) A F) : Ag D A (put F (some d) v) := by
  refine ⟨fun t ht => ?_⟩
  rw [put_at]
  split
  · rename_i e; rw [e]; exact hv
  · rename_i e; exact h.h t (cons_false ht e)
theorem AWp.cut {P : Program} {m : Nat} {c : Code} {Q : Exit → Fr → Heap → Prop} {A : Fr} {H : Heap} (h : ∀ A', Ag [] A' A → AWp P m c Q A' H) : AWp P m c Q A H := h A (Ag.refl _ _)
/-- A loop with a state of its own. -/
theorem AWp.loopx {P : Program} {m : Nat} {Q : Exit → Fr → Heap → Prop} {A : Fr} {H : Heap} {c : Code} {σ : Type} (I : σ → Fr → Heap → Prop) (μ : σ → Nat) (s : σ) (h0 : I s A H)
    (round : ∀ s A H, I s A H → AWp P m c (athen (fun A' H' => ∃ s', I s' A' H' ∧ μ s' < μ s) Q) A H) : AWp P m (.loop c) Q A H := by
  intro φ a w hs b k cs
  have key : ∀ n s1 A1 H1 φ1 a1 w1, μ s1 = n → I s1 A1 H1 → St m φ1 A1 H1 a1 w1 → Ok φ H w φ1 H1 w1 →
      ∃ e a' w', (∃ φ' A' H', Q e A' H' ∧ St m φ' A' H' a' w' ∧ Ok φ H w φ' H' w') ∧ Arrives P (lone (b.at a1 (.code c :: .inLoop c :: k)) cs w1) b k cs e a' w' := by
    intro n
    induction n using Nat.strongRecOn with
    | _ n ih =>
      intro s1 A1 H1 φ1 a1 w1 hn hI hs1 ok1
      obtain ⟨e, a2, w2, ⟨φ2, A2, H2, hq, hs2, ok2⟩, harr⟩ := round s1 A1 H1 hI φ1 a1 w1 hs1 b (.inLoop c :: k) cs
      cases e with
      | normal =>
        obtain ⟨s2, hI2, hlt⟩ := hq
        obtain ⟨e3, a3, w3, hq3, harr3⟩ := ih (μ s2) (hn ▸ hlt) s2 A2 H2 φ2 a2 w2 rfl hI2 hs2 (ok1.trans ok2)
        exact ⟨e3, a3, w3, hq3, .of_steps (Steps.trans harr (.one step_inLoop)) harr3⟩
      | exit id => exact ⟨_, a2, w2, ⟨φ2, A2, H2, hq, hs2, ok1.trans ok2⟩, .pass (x := .inLoop c) rfl (fun _ _ => .inl (by simp)) harr⟩
      | goto l => exact ⟨_, a2, w2, ⟨φ2, A2, H2, hq, hs2, ok1.trans ok2⟩, .pass (x := .inLoop c) rfl (fun _ _ => .inl (by simp)) harr⟩
      | ret => exact ⟨_, a2, w2, ⟨φ2, A2, H2, hq, hs2, ok1.trans ok2⟩, .pass (x := .inLoop c) rfl (fun _ _ => .inl (by simp)) harr⟩
      | panic ch => exact ⟨_, a2, w2, ⟨φ2, A2, H2, hq, hs2, ok1.trans ok2⟩, .pass (x := .inLoop c) rfl (fun _ _ => .inl (by simp)) harr⟩
      | outgrown => exact ⟨_, a2, w2, ⟨φ2, A2, H2, hq, hs2, ok1.trans ok2⟩, .pass (x := .inLoop c) rfl (fun _ _ => .inl (by simp)) harr⟩
  obtain ⟨e, a', w', hq, harr⟩ := key _ s A H φ a w rfl h0 hs Ok.refl
  exact ⟨e, a', w', hq, .of_steps (.one step_loop) harr⟩
theorem appsK.mono {P : Program} {xt : TypeId} {x : Value} {sz : Nat} {H : Heap} {K K' : Nat → List Value → Prop} (hk : ∀ n l, K n l → K' n l) (h : appsK P xt x sz H K) : appsK P xt x sz H K' := by
  unfold appsK at *
  split at h
  · exact hk _ _ h
  · exact ⟨h.1, h.2.1, hk _ _ h.2.2⟩
  · exact ⟨h.1, h.2.1, hk _ _ h.2.2⟩
  · obtain ⟨h1, cs, h2, h3⟩ := h
    exact ⟨h1, cs, h2, hk _ _ h3⟩
  · exact h.elim
theorem appendK.mono {P : Program} {st xt : TypeId} {s x : Value} {H : Heap} {K K' : Value → Heap → Prop} (hK : ∀ v H', K v H' → K' v H') (h : appendK P st xt s x H K) : appendK P st xt s x H K' := by
  unfold appendK at *
  split at h
  · split at h
    · obtain ⟨h1, h2, h3, h4, h5⟩ := h
      refine ⟨h1, h2, h3, h4, appsK.mono ?_ h5⟩
      rintro n l ⟨h6, h7⟩
      refine ⟨h6, ?_⟩
      split at h7
      · exact ⟨h7.1, fun h => hK _ _ (h7.2.1 h), fun h => hK _ _ (h7.2.2 h)⟩
      · split at h7
        · exact ⟨h7.1, h7.2.1, h7.2.2.1, fun h => hK _ _ (h7.2.2.2.1 h), fun h => ⟨(h7.2.2.2.2 h).1, hK _ _ (h7.2.2.2.2 h).2⟩⟩
        · exact h7
      · split at h7
        · exact ⟨h7.1, h7.2.1, fun h => ⟨(h7.2.2.1 h).1, (h7.2.2.1 h).2.1, hK _ _ (h7.2.2.1 h).2.2⟩, fun h => ⟨(h7.2.2.2 h).1, hK _ _ (h7.2.2.2 h).2⟩⟩
        · exact h7
      · split at h7
        · exact ⟨h7.1, h7.2.1, h7.2.2.1, h7.2.2.2.1, h7.2.2.2.2.1, hK _ _ h7.2.2.2.2.2⟩
        · exact h7
      · exact ⟨h7.1, h7.2.1, h7.2.2.1, fun h => hK _ _ (h7.2.2.2.1 h), fun h => hK _ _ (h7.2.2.2.2 h)⟩
      · exact h7
    · exact h
  · exact h
theorem appendK.hk {P : Program} {st xt : TypeId} {s x : Value} {H : Heap} {K K' : Value → Heap → Prop} (hK : Cont (∀ v H', K v H' → K' v H')) (h : appendK P st xt s x H K) : appendK P st xt s x H K' := h.mono hK.out
/-! ### Words for frozen rows -/
section
def ldZ (k : Option (Option Nat)) (cs : List Value) (o : Nat) (K : Value → Prop) : Prop :=
  match k with
  | some none => ∃ v, cs[o]? = some v ∧ K v
  | some (some n) => o + n ≤ cs.length ∧ K (.agg ((cs.drop o).take n).toArray)
  | none => False
def ldHZ (k : Option (Option Nat)) (cs : List Value) (o : Nat) (K : Value → HeldL → Prop) : Prop :=
  match k with
  | some none => ∃ v, cs[o]? = some v ∧ K v []
  | some (some n) => o + n ≤ cs.length ∧ K (.agg ((cs.drop o).take n).toArray) []
  | none => False
def foZ (f : Option (Nat × Option Nat)) (cs : List Value) (o : Nat) (K : Value → Prop) : Prop :=
  match f with
  | some (off, k) => k ≠ some 0 ∧ K (PZ cs (o + off))
  | none => False
def nlZ (l : Option (Option Nat × Nat)) (p : Prop) : Prop :=
  match l with
  | some (none, _) => p
  | _ => False
def slZ (l : Option (Option Nat × Nat)) (es n : Nat) (cs : List Value) (lo hi mx : Option Value) (K : Value → Prop) : Prop :=
  match l with
  | some (none, s) => es = s ∧ bnd lo 0 fun l => bnd hi n fun h => bnd mx n fun m => l ≤ h ∧ h ≤ m ∧ m ≤ n ∧ (mx.isSome = true → hi.isSome = true) ∧ K (if mx.isSome = true ∧ m = h then KZ es (h - l) ((cs.drop (l * s)).take ((h - l) * s)) else FZ es (h - l) ((cs.drop (l * s)).take ((h - l) * s)))
  | _ => False
def apZ (l : Option (Option Nat × Nat)) (es n : Nat) (cs : List Value) (sz : Nat) (K : Nat → List Value → Prop) : Prop :=
  match l with
  | some (none, _) => es = sz ∧ cs.length = n * sz ∧ K n cs
  | _ => False
def tkZ (x : Blk) (len es : Nat) (p : Prop) : Prop :=
  match x with
  | .tok k es' => es' = es ∧ k = len ∧ p
  | _ => False
def agZ (P : Program) (d : Option TypeDesc) (xt : TypeId) (tag es len : Nat) (cs : List Value) (x : Value) (H : Heap) (K : Value → Heap → Prop) : Prop :=
  match d with
  | some (.slice et) => match cz P et, bz P et, zr P et with
    | some sz, some bz, some z => 0 < sz ∧ 0 < bz ∧ constOk z = true ∧ z.cells.size = sz ∧ es = sz ∧ cs.length = len * sz ∧ appsK P xt x sz H fun n new => oneCells new ∧
        tkZ (H.get tag) len es ((len + n) * bz ≤ 140737488355328 ∧ K (GZ tag es (len + n) (cs ++ new.map frz)) (H.set tag (.tok (len + n) es)))
    | _, _, _ => False
  | _ => False
def apO (l : Option (Option Nat × Nat)) (a : Addr) (N : Nat) (H : Heap) (K : List Value → Prop) : Prop :=
  match l with
  | some (none, _) => a.spot = none ∧ ∃ cs, H.range a.block a.off N = some cs ∧ K cs
  | _ => False
theorem appendK.ofZ {P : Program} {st xt : TypeId} {tag es len : Nat} {cs : List Value} {x : Value} {H : Heap} {K : Value → Heap → Prop} (h : agZ P (P.underlying st) xt tag es len cs x H K) : appendK P st xt (GZ tag es len cs) x H K := by
  unfold agZ at h
  unfold appendK
  split at h
  · rename_i et hu
    split at h
    · rename_i sz b z h1 h2 h3
      obtain ⟨g1, g2, g3, g4, g5, g6, g7⟩ := h
      try simp only [hu, h1, h2, h3]
      refine ⟨g1, g2, g3, g4, appsK.mono ?_ g7⟩
      rintro n l ⟨q1, q2⟩
      refine ⟨q1, ?_⟩
      unfold tkZ at q2
      split at q2
      · rename_i k es' hk
        obtain ⟨rfl, rfl, q3, q4⟩ := q2
        try simp only [GZ, hk]
        exact ⟨g5, g5, trivial, by rw [g6], q3, q4⟩
      · exact q2.elim
    · exact h.elim
  · exact h.elim
theorem zx :
    (∀ (P : Program) (t : TypeId) (H : Heap) (cs : List Value) (o : Nat) (K : Value → Prop), loadK P t H (PZ cs o) K = ldZ (tk P t) cs o K) ∧
    (∀ (P : Program) (t : TypeId) (H : Heap) (cs : List Value) (o : Nat) (K : Value → HeldL → Prop), loadHK P t H (PZ cs o) K = ldHZ (tk P t) cs o K) ∧
    (∀ (cs : List Value) (o : Nat) (K : Value → Prop), ldZ (some none) cs o K = ∃ v, cs[o]? = some v ∧ K v) ∧
    (∀ (n : Nat) (cs : List Value) (o : Nat) (K : Value → Prop), ldZ (some (some n)) cs o K = (o + n ≤ cs.length ∧ K (.agg ((cs.drop o).take n).toArray))) ∧
    (∀ (cs : List Value) (o : Nat) (K : Value → HeldL → Prop), ldHZ (some none) cs o K = ∃ v, cs[o]? = some v ∧ K v []) ∧
    (∀ (n : Nat) (cs : List Value) (o : Nat) (K : Value → HeldL → Prop), ldHZ (some (some n)) cs o K = (o + n ≤ cs.length ∧ K (.agg ((cs.drop o).take n).toArray) [])) ∧
    (∀ (P : Program) (t : TypeId) (f : Nat) (cs : List Value) (o : Nat) (K : Value → Prop), fieldAddrK P t f (PZ cs o) K = foZ (fo P t f) cs o K) ∧
    (∀ (q : Nat) (cs : List Value) (o : Nat) (K : Value → Prop), foZ (some (q, none)) cs o K = K (PZ cs (o + q))) ∧
    (∀ (q n : Nat) (cs : List Value) (o : Nat) (K : Value → Prop), foZ (some (q, some n)) cs o K = (some n ≠ some 0 ∧ K (PZ cs (o + q)))) ∧
    (∀ (s : Nat) (j : Int) (es M : Nat) (cs : List Value) (K : Value → Prop), ixK (some (none, s)) j (FZ es M cs) K = (es = s ∧ 0 ≤ j ∧ j < M ∧ K (PZ cs (j.toNat * s)))) ∧
    (∀ (s : Nat) (j : Int) (tag es M : Nat) (cs : List Value) (K : Value → Prop), ixK (some (none, s)) j (GZ tag es M cs) K = (es = s ∧ 0 ≤ j ∧ j < M ∧ K (PZ cs (j.toNat * s)))) ∧
    (∀ (M s : Nat) (j : Int) (cs : List Value) (o : Nat) (K : Value → Prop), ixK (some (some M, s)) j (PZ cs o) K = (0 ≤ j ∧ j < M ∧ K (PZ cs (o + j.toNat * s)))) ∧
    (∀ (e : TypeId) (es M : Nat) (cs : List Value) (H : Heap) (K : Value → Prop), lnK (some (.slice e)) (FZ es M cs) H K = K (.int .i64 M)) ∧
    (∀ (e : TypeId) (tag es M : Nat) (cs : List Value) (H : Heap) (K : Value → Prop), lnK (some (.slice e)) (GZ tag es M cs) H K = K (.int .i64 M)) ∧
    (∀ (cs : List Value) (o : Nat) (K : Value → Prop), nilK (PZ cs o) K = K (PZ cs o)) ∧
    (∀ (P : Program) (t : TypeId) (es n : Nat) (cs : List Value) (K : Value → Prop), binK P .eql t (FZ es n cs) (.slice none 0 0) K = (n ≠ 0 ∧ nlZ (el P t) (K (.bool false)))) ∧
    (∀ (P : Program) (t : TypeId) (es n : Nat) (cs : List Value) (K : Value → Prop), binK P .neq t (FZ es n cs) (.slice none 0 0) K = (n ≠ 0 ∧ nlZ (el P t) (K (.bool true)))) ∧
    (∀ (P : Program) (t : TypeId) (tag es n : Nat) (cs : List Value) (K : Value → Prop), binK P .eql t (GZ tag es n cs) (.slice none 0 0) K = (n ≠ 0 ∧ nlZ (el P t) (K (.bool false)))) ∧
    (∀ (P : Program) (t : TypeId) (tag es n : Nat) (cs : List Value) (K : Value → Prop), binK P .neq t (GZ tag es n cs) (.slice none 0 0) K = (n ≠ 0 ∧ nlZ (el P t) (K (.bool true)))) ∧
    (∀ (s : Nat) (p : Prop), nlZ (some (none, s)) p = p) := by
  refine ⟨?_, ?_, ?_, ?_, ?_, ?_, ?_, ?_, ?_, ?_, ?_, ?_, ?_, ?_, ?_, ?_, ?_, ?_, ?_, ?_⟩
  · intro P t H cs o K; unfold loadK ldZ; rfl
  · intro P t H cs o K; unfold loadHK ldHZ; rfl
  · intros; rfl
  · intros; rfl
  · intros; rfl
  · intros; rfl
  · intro P t f cs o K
    unfold fieldAddrK foZ
    generalize fo P t f = q
    cases q <;> rfl
  · intro q cs o K; simp [foZ]
  · intro q n cs o K; simp [foZ]
  · intros; rfl
  · intros; rfl
  · intros; rfl
  · intros; rfl
  · intros; rfl
  · intros; rfl
  · intro P t es n cs K; unfold nlZ; show (n ≠ 0 ∧ _) = _; generalize el P t = q; rcases q with _ | ⟨q | q, r⟩ <;> rfl
  · intro P t es n cs K; unfold nlZ; show (n ≠ 0 ∧ _) = _; generalize el P t = q; rcases q with _ | ⟨q | q, r⟩ <;> rfl
  · intro P t tag es n cs K; unfold nlZ; show (n ≠ 0 ∧ _) = _; generalize el P t = q; rcases q with _ | ⟨q | q, r⟩ <;> rfl
  · intro P t tag es n cs K; unfold nlZ; show (n ≠ 0 ∧ _) = _; generalize el P t = q; rcases q with _ | ⟨q | q, r⟩ <;> rfl
  · intros; rfl
theorem zx2 :
    (∀ (P : Program) (t : TypeId) (H : Heap) (es n : Nat) (cs : List Value) (lo hi mx : Option Value) (K : Value → Prop), sliceK P t H (FZ es n cs) lo hi mx K = slZ (el P t) es n cs lo hi mx K) ∧
    (∀ (P : Program) (t : TypeId) (H : Heap) (tag es n : Nat) (cs : List Value) (lo hi mx : Option Value) (K : Value → Prop), sliceK P t H (GZ tag es n cs) lo hi mx K = slZ (el P t) es n cs lo hi mx K) ∧
    (∀ (s es n : Nat) (cs : List Value) (lo hi : Option Value) (K : Value → Prop), slZ (some (none, s)) es n cs lo hi none K = (es = s ∧ bnd lo 0 fun l => bnd hi n fun h => l ≤ h ∧ h ≤ n ∧ K (FZ es (h - l) ((cs.drop (l * s)).take ((h - l) * s))))) ∧
    (∀ (s es n : Nat) (cs : List Value) (lo hi : Option Value) (mx : Value) (K : Value → Prop), slZ (some (none, s)) es n cs lo hi (some mx) K = (es = s ∧ bnd lo 0 fun l => bnd hi n fun h => bnd (some mx) n fun m => l ≤ h ∧ h ≤ m ∧ m ≤ n ∧ hi.isSome = true ∧ K (if m = h then KZ es (h - l) ((cs.drop (l * s)).take ((h - l) * s)) else FZ es (h - l) ((cs.drop (l * s)).take ((h - l) * s))))) ∧
    (∀ (d : Nat) (K : Nat → Prop), bnd none d K = K d) ∧ (∀ (k : IntKind) (n : Int) (d : Nat) (K : Nat → Prop), bnd (some (.int k n)) d K = (0 ≤ n ∧ K n.toNat)) ∧
    (∀ (P : Program) (t : TypeId) (H : Heap) (s : ByteArray) (lo hi mx : Option Value) (K : Value → Prop), sliceK P t H (.string s) lo hi mx K = (el P t = none ∧ P.underlying t = some .string ∧ mx.isSome = false ∧ bnd lo 0 fun l => bnd hi s.size fun h => l ≤ h ∧ h ≤ s.size ∧ K (.string (s.extract l h)))) := by
  refine ⟨?_, ?_, ?_, ?_, ?_, ?_, ?_⟩
  · intro P t H es n cs lo hi mx K
    unfold sliceK slZ
    generalize el P t = q
    rcases q with _ | ⟨q | q, r⟩ <;> rfl
  · intro P t H tag es n cs lo hi mx K
    unfold sliceK slZ
    generalize el P t = q
    rcases q with _ | ⟨q | q, r⟩ <;> rfl
  · intro s es n cs lo hi K
    simp only [slZ, bnd, Option.isSome_none, Bool.false_eq_true, false_and, if_false, false_implies, true_and, Nat.le_refl, and_self_left]
  · intro s es n cs lo hi mx K
    simp only [slZ, Option.isSome_some, true_and, true_implies]
  · intros; rfl
  · intros; rfl
  · intro P t H s lo hi mx K
    unfold sliceK
    generalize el P t = q
    rcases q with _ | ⟨q | q, r⟩ <;> simp
theorem zx3 :
    (∀ (P : Program) (xt : TypeId) (es n : Nat) (cs : List Value) (sz : Nat) (H : Heap) (K : Nat → List Value → Prop), appsK P xt (FZ es n cs) sz H K = apZ (el P xt) es n cs sz K) ∧
    (∀ (P : Program) (xt : TypeId) (tag es n : Nat) (cs : List Value) (sz : Nat) (H : Heap) (K : Nat → List Value → Prop), appsK P xt (GZ tag es n cs) sz H K = apZ (el P xt) es n cs sz K) ∧
    (∀ (q es n : Nat) (cs : List Value) (sz : Nat) (K : Nat → List Value → Prop), apZ (some (none, q)) es n cs sz K = (es = sz ∧ cs.length = n * sz ∧ K n cs)) ∧
    (∀ (k es' len es : Nat) (p : Prop), tkZ (.tok k es') len es p = (es' = es ∧ k = len ∧ p)) ∧
    (∀ (P : Program) (et xt : TypeId) (tag es len : Nat) (cs : List Value) (x : Value) (H : Heap) (K : Value → Heap → Prop), agZ P (some (.slice et)) xt tag es len cs x H K = (match cz P et, bz P et, zr P et with
      | some sz, some bz, some z => 0 < sz ∧ 0 < bz ∧ constOk z = true ∧ z.cells.size = sz ∧ es = sz ∧ cs.length = len * sz ∧ appsK P xt x sz H fun n new => oneCells new ∧
        tkZ (H.get tag) len es ((len + n) * bz ≤ 140737488355328 ∧ K (GZ tag es (len + n) (cs ++ new.map frz)) (H.set tag (.tok (len + n) es)))
      | _, _, _ => False)) ∧
    (∀ (P : Program) (xt : TypeId) (sz : Nat) (H : Heap) (K : Nat → List Value → Prop) (a : Addr) (n c : Nat), appsK P xt (.slice (some a) n c) sz H K = apO (el P xt) a (n * sz) H (fun cs => K n cs)) ∧
    (∀ (q : Nat) (a : Addr) (N : Nat) (H : Heap) (K : List Value → Prop), apO (some (none, q)) a N H K = (a.spot = none ∧ ∃ cs, H.range a.block a.off N = some cs ∧ K cs)) ∧
    (∀ (k : IntKind) (n : Int), frz (.int k n) = .int k n) ∧ (∀ b, frz (.bool b) = .bool b) ∧ (∀ s, frz (.string s) = .string s) ∧ (∀ es n cs, frz (FZ es n cs) = FZ es n cs) ∧ (∀ tag es n cs, frz (GZ tag es n cs) = FZ es n cs) ∧ (∀ a n c, frz (.slice a n c) = .slice a n c) ∧ (∀ l, frz (.agg l) = .agg l) ∧ (∀ a, frz (.pointer a) = .pointer a) ∧ (∀ f a b, frz (.func f a b) = .func f a b) ∧
    (∀ l : List Int, (ints l).map frz = ints l) ∧ (∀ es n cs, (FZ es n cs).oneCell' = true) ∧ (∀ tag es n cs, (GZ tag es n cs).oneCell' = true) ∧ (∀ cs o, (PZ cs o).oneCell' = true) ∧ (∀ es n cs, (FZ es n cs).cells = #[FZ es n cs]) ∧ (∀ tag es n cs, (GZ tag es n cs).cells = #[GZ tag es n cs]) ∧ (∀ cs o, (PZ cs o).cells = #[PZ cs o]) := by
  refine ⟨?_, ?_, ?_, ?_, ?_, ?_, ?_, fun _ _ => rfl, fun _ => rfl, fun _ => rfl, fun _ _ _ => rfl, fun _ _ _ _ => rfl, fun _ _ _ => rfl, fun _ => rfl, fun _ => rfl, fun _ _ _ => rfl, ?_, fun _ _ _ => rfl, fun _ _ _ _ => rfl, fun _ _ => rfl, fun _ _ _ => rfl, fun _ _ _ _ => rfl, fun _ _ => rfl⟩
  · intro P xt es n cs sz H K
    unfold appsK apZ
    generalize el P xt = q
    rcases q with _ | ⟨q | q, r⟩ <;> rfl
  · intro P xt tag es n cs sz H K
    unfold appsK apZ
    generalize el P xt = q
    rcases q with _ | ⟨q | q, r⟩ <;> rfl
  · intros; rfl
  · intros; rfl
  · intros; rfl
  · intro P xt sz H K a n c
    unfold appsK apO
    generalize el P xt = q
    rcases q with _ | ⟨q | q, r⟩ <;> rfl
  · intros; rfl
  · intro l
    unfold ints
    rw [List.map_map]
    rfl
end
end Go.Proofs.YtmoknllbpjpkmaaGreat.Zed
