/- A part of the walk: what functions of the program do, over an abstract heap. -/
import Derived.Test.YtpbbfephfmdgmaaRaiA
namespace Go.Proofs.Ytpbbfephfmdgmaa.Rai
open Go
set_option linter.unusedVariables false
set_option linter.unusedSimpArgs false
section
variable {φ : Nat → Img} {H : Heap} {w w' : World}
/-- A block that may be written is turned into x, in the world too; nothing else turns. -/
theorem Holds.change (h : Holds φ H w) {b : Nat} (hwr : (H.get b).wr = true) (x : Blk) (hx : x ≠ .absent) (hos : w'.os = w.os) (htape : w'.tape = w.tape) (hout : w'.output = w.output) (hsz : w'.heap.size = w.heap.size)
    (hoth : ∀ β, β ≠ (φ b).blk → w'.heap[β]? = w.heap[β]?)
    (hcell : ∀ cs es ro, x = .cells cs es ro → ro = false ∧ es = (φ b).es ∧ 0 < es ∧ ∃ arr e, w'.heap[(φ b).blk]? = some (.cells arr e (0, 0)) ∧ (φ b).base + (φ b).ext = arr.size ∧ cs.length ≤ (φ b).ext ∧
      ∀ (j : Nat) (v : Value), cs[j]? = some v → ∃ u, arr[(φ b).base + j]? = some u ∧ R φ H.has v u)
    (hmap : ∀ es, x = .map es → ∃ en ck, w'.heap[(φ b).blk]? = some (.map en ck) ∧ MapR φ H.has es en) :
    Holds φ (H.set b x) w' ∧ Ok φ H w φ (H.set b x) w' := by
  have hm := Holds.set_mono (φ := φ) (H := H) x b hx
  have hself : (H.set b x).get b = x := by rw [Heap.get_set, if_pos rfl]
  have hne : ∀ c, c ≠ b → (H.set b x).get c = H.get c := fun c hc => by rw [Heap.get_set, if_neg hc]
  have hrow : ∀ c, c ≠ b → (H.get c).live = true → w'.heap[(φ c).blk]? = w.heap[(φ c).blk]? := fun c hc hl => hoth _ (h.apart c b hc hl hwr)
  refine ⟨⟨?_, ?_, ?_, ?_, ?_, ?_, ?_⟩, ⟨Nat.le_refl _, fun _ _ => rfl, fun c hc => (hm c hc).1, hos, htape, hout, by rw [hsz]; exact Nat.le_refl _, fun β hβ hn => hoth β (fun e => hn b hwr e.symm), ?_⟩⟩
  · intro c hc
    have hbs := h.lt_size (Heap.has_of_wr hwr)
    rw [Heap.size_set] at hc
    rw [hne c (by omega)]
    exact h.wf c hc
  · intro c cs2 es2 ro hc j v hj
    by_cases ec : c = b
    · subst ec
      rw [hself] at hc
      obtain ⟨_, _, _, arr, e, h1, _, _, h4⟩ := hcell _ _ _ hc
      obtain ⟨u, hu1, hu2⟩ := h4 j v hj
      exact ⟨u, by rw [cell_at h1]; exact hu1, hu2.mono hm⟩
    · rw [hne c ec] at hc
      obtain ⟨u, hu1, hu2⟩ := h.cell c cs2 es2 ro hc j v hj
      exact ⟨u, by rw [cell_congr (hrow c ec (by rw [hc]; rfl))]; exact hu1, hu2.mono hm⟩
  · intro c cs2 es2 hc
    by_cases ec : c = b
    · subst ec
      rw [hself] at hc
      obtain ⟨_, _, _, arr, e, h1, h2, h3, _⟩ := hcell _ _ _ hc
      exact ⟨arr, e, h1, h2, h3⟩
    · rw [hne c ec] at hc
      obtain ⟨arr2, e2, h4, h5, h6⟩ := h.row c cs2 es2 hc
      exact ⟨arr2, e2, by rw [hrow c ec (by rw [hc]; rfl)]; exact h4, h5, h6⟩
  · intro c cs2 es2 ro hc
    by_cases ec : c = b
    · subst ec
      rw [hself] at hc
      obtain ⟨_, h1, h2, _⟩ := hcell _ _ _ hc
      exact ⟨h1, h2⟩
    · rw [hne c ec] at hc; exact h.es c cs2 es2 ro hc
  · intro c es2 hc
    by_cases ec : c = b
    · subst ec
      rw [hself] at hc
      obtain ⟨en, ck, h4, h5⟩ := hmap _ hc
      exact ⟨en, ck, h4, h5.1, fun j k v e h1 h2 => ⟨(h5.2 j k v e h1 h2).1, (h5.2 j k v e h1 h2).2.mono hm⟩⟩
    · rw [hne c ec] at hc
      obtain ⟨en, ck, h4, h5⟩ := h.map c es2 hc
      exact ⟨en, ck, by rw [hrow c ec (by rw [hc]; rfl)]; exact h4, h5.1, fun j k v e h1 h2 => ⟨(h5.2 j k v e h1 h2).1, (h5.2 j k v e h1 h2).2.mono hm⟩⟩
  · intro c hc
    rw [hsz]
    by_cases ec : c = b
    · subst ec; exact h.lt _ (Blk.live_of_wr hwr)
    · rw [hne c ec] at hc; exact h.lt c hc
  · intro c d hcd hc hd
    have h1 : (H.get c).live = true := by
      by_cases ec : c = b
      · subst ec; exact Blk.live_of_wr hwr
      · rwa [hne c ec] at hc
    have h2 : (H.get d).wr = true := by
      by_cases ec : d = b
      · subst ec; exact hwr
      · rwa [hne d ec] at hd
    exact h.apart c d hcd h1 h2
  · intro c hc
    right
    refine ⟨c, ?_, rfl⟩
    by_cases ec : c = b
    · subst ec; exact hwr
    · rwa [hne c ec] at hc
/-- A block is given up: nothing in the world turns. -/
theorem Holds.kill (h : Holds φ H w) {b : Nat} (hwr : (H.get b).wr = true) : Holds φ (H.set b .dead) w ∧ Ok φ H w φ (H.set b .dead) w :=
  h.change hwr .dead (by simp) rfl rfl rfl rfl (fun _ _ => rfl) (fun _ _ _ e => by simp at e) (fun _ e => by simp at e)
end
section
variable {P : Program} {e : Operand → Value} {H : Heap} {K : Value → Heap → Prop} {dst : Option Nat} {ty : TypeId} {pos : String} {af : Array Edge} {g : Option (Nat × Bool)}
/-! make -/
def bz (P : Program) (t : TypeId) : Option Nat := (P.info? t).map (·.bytes)
theorem run_info {t : TypeId} {n : Nat} (h : bz P t = some n) (w : World) : ∃ i, (typeInfo t).run P w = .ok i w ∧ i.bytes = n := by
  unfold bz at h
  cases e : P.info? t with
  | none => rw [e] at h; simp at h
  | some i => rw [e] at h; simp at h; exact ⟨i, by simp [typeInfo, e], h⟩
def makeSliceK (P : Program) (t : TypeId) (l c : Value) (H : Heap) (K : Value → Heap → Prop) : Prop :=
  match P.underlying t with
  | some (.slice et) => match zr P et, bz P et, l, c with
    | some z, some b, .int .i64 l, .int .i64 c => constOk z = true ∧ 0 ≤ l ∧ l ≤ c ∧ c ≤ 9223372036854775807 ∧ (b : Int) * c ≤ 2 ^ 48 ∧
        match tk P et with
        | some none => z.oneCell' = true ∧ K (.slice (some ⟨H.size, 0, none⟩) l.toNat (c.toNat + 1)) (H.push (.cells (List.replicate c.toNat z) 1 false))
        | some (some n) => 0 < n ∧ K (.slice (some ⟨H.size, 0, none⟩) l.toNat (c.toNat + 1)) (H.push (.cells (zcells z.cells (c.toNat * n)).toList n false))
        | none => False
    | _, _, _, _ => False
  | _ => False
theorem wrap64_id {n : Int} (h0 : -9223372036854775808 ≤ n) (h1 : n ≤ 9223372036854775807) : IntKind.i64.wrap n = n := by
  simp only [IntKind.wrap, IntKind.bits, IntKind.signed]
  simp
  split <;> omega
theorem zcells_one {z : Value} (h : z.oneCell' = true) (n : Nat) : (zcells z.cells n).toList = List.replicate n z := by
  have h : z.cells = #[z] := by cases z <;> simp [Value.oneCell'] at h <;> rfl
  unfold zcells
  rw [h]
  apply List.ext_getElem?
  intro i
  simp [List.getElem?_replicate]
  by_cases hi : i < n
  · simp [hi, Nat.mod_one]
  · simp [hi]
theorem gives_makeSlice {t : TypeId} {l c : Operand} (h : makeSliceK P t (e l) (e c) H K) : Gives P ⟨dst, .makeSlice t l c, ty, pos, af, g⟩ e H K := by
  unfold makeSliceK at h
  split at h
  · rename_i et hu
    split at h
    · rename_i z b l' c' hz hb el' ec'
      obtain ⟨hc, h0, h1, h2, h3, hK⟩ := h
      obtain ⟨n, htk, hn, hK⟩ : ∃ k, tk P et = some k ∧ 0 < k.getD 1 ∧ K (.slice (some ⟨H.size, 0, none⟩) l'.toNat (c'.toNat + 1)) (H.push (.cells (zcells z.cells (c'.toNat * k.getD 1)).toList (k.getD 1) false)) := by
        split at hK
        · rename_i ht
          obtain ⟨q1, q2⟩ := hK
          exact ⟨none, ht, by simp, by simpa [zcells_one q1] using q2⟩
        · rename_i n ht
          obtain ⟨q1, q2⟩ := hK
          exact ⟨some n, ht, q1, q2⟩
        · exact hK.elim
      intro φ ρ w hh hx
      have hl := hx l (by simp [Op.operands])
      have hcc := hx c (by simp [Op.operands])
      rw [el'] at hl
      rw [ec'] at hcc
      have e1 := hl.int_inv
      have e2 := hcc.int_inv
      have hsz := run_size (P := P) (w := w) (size_of_tk htk)
      obtain ⟨i, hi, hib⟩ := run_info hb w
      generalize n.getD 1 = s at *
      have w1 : IntKind.i64.wrap l' = l' := wrap64_id (by omega) (by omega)
      have w2 : IntKind.i64.wrap c' = c' := wrap64_id (by omega) (by omega)
      have hrc := R.of_zcells (φ := φ) (has := H.has) hc (c'.toNat * s)
      have ha := hh.alloc (zcells z.cells (c'.toNat * s)).toList (zcells z.cells (c'.toNat * s)) et s hn (by simp) (fun j v hj => ⟨v, by simpa using hj, hrc.2 j v v (by simpa using hj) (by simpa using hj)⟩)
      refine ⟨_, _, .slice (some ⟨w.heap.size, 0, none⟩) l'.toNat c'.toNat, _, _, hK, .inl ?_, slx_new (i := ⟨w.heap.size, 0, (zcells z.cells (c'.toNat * s)).size, s⟩) (by simp) rfl (by omega), ha.1, ha.2⟩
      show (do let v ← Instr.makeSlice t (ρ l) (ρ c); pure (Next.value v) : Sem Next).run P w = _
      unfold Instr.makeSlice
      have q1 : ¬ c' < 0 := by omega
      have q2 : ¬ (b : Int) * c' > 2 ^ 48 := by omega
      have q3 : ¬ l' < 0 := by omega
      have q4 : ¬ l' > c' := by omega
      simp only [Sem.run_bind, run_underlying hu, Result.andThen_ok, e1, e2, asInt, asIntOf, Sem.run_pure, hi, hib, w1, w2, q1, q2, q3, q4, decide_false, Bool.or_self, Bool.false_eq_true, if_false, run_askRoom, hsz]
      by_cases hz0 : c'.toNat * s = 0
      · simp only [if_pos hz0, Sem.run_bind, Sem.run_pure, Result.andThen_ok]
        have hq : (Array.range (c'.toNat * s)).map ((#[] : Array Value)[· % (#[] : Array Value).size]!) = zcells z.cells (c'.toNat * s) := by
          unfold zcells; rw [hz0, show Array.range 0 = #[] from rfl]; simp
        rw [hq]
        simp [newRow]
      · simp only [if_neg hz0, Sem.run_bind, run_zero hz, Sem.run_pure, Result.andThen_ok]
        have hq : (Array.range (c'.toNat * s)).map (z.cells[· % z.cells.size]!) = zcells z.cells (c'.toNat * s) := rfl
        rw [hq]
        simp [newRow]
    · exact h.elim
  · exact h.elim
theorem gives_makeMap {t : TypeId} (h : K (.map (some H.size)) (H.push (.map []))) : Gives P ⟨dst, .makeMap t none, ty, pos, af, g⟩ e H K := by
  intro φ ρ w hh hx
  have ha := hh.alloc_any (.map []) (.map #[] 0) ⟨w.heap.size, 0, 0, 1⟩ rfl (fun _ _ _ e => by simp at e) (fun es e => by injection e with e; subst e; exact ⟨#[], 0, rfl, rfl, by simp⟩) (by simp)
  refine ⟨_, _, .map (some w.heap.size), _, _, h, .inl (by simp [execOp, Instr.makeMap]), ?_, ha.1, ha.2⟩
  have := R.map (φ := upd φ H.size ⟨w.heap.size, 0, 0, 1⟩) (has := (H.push (.map [])).has) H.size (by unfold Heap.has; rw [Heap.get_push, if_pos rfl]; simp)
  simpa [upd] using this
/-! maps with whole numbers as keys -/
def mget (es : List (Int × Value)) (k : Int) : Option Value := (es.find? fun p => p.1 == k).map (·.2)
def mput (es : List (Int × Value)) (k : Int) (v : Value) : List (Int × Value) :=
  match es.findIdx? fun p => p.1 == k with
  | some i => es.set i (k, v)
  | none => es ++ [(k, v)]
/-- A map type with keys of kind int64. -/
def mk (P : Program) (t : TypeId) : Option TypeId :=
  match P.underlying t with
  | some (.map kt et) => if ik P kt = some .i64 then some et else none
  | _ => none
theorem mk_spec {t et : TypeId} (h : mk P t = some et) : ∃ kt, P.underlying t = some (.map kt et) ∧ P.underlying kt = some (.int .i64) := by
  unfold mk at h
  split at h
  · rename_i kt et' hu
    split at h
    · rename_i hk
      injection h with h
      subst h
      exact ⟨kt, hu, ik_und hk⟩
    · simp at h
  · simp at h
theorem MapR.cons {φ : Nat → Img} {has : Nat → Prop} {p : Int × Value} {es : List (Int × Value)} {en : Array MapEntry} (h : MapR φ has (p :: es) en) : ∃ e en', en.toList = e :: en' ∧ e.key = .int .i64 p.1 ∧ R φ has p.2 e.val ∧ MapR φ has es en'.toArray := by
  obtain ⟨k, v⟩ := p
  obtain ⟨l⟩ := en
  cases l with
  | nil => simpa using h.1
  | cons e l =>
    have h0 := h.2 0 k v e rfl rfl
    exact ⟨e, l, rfl, h0.1, h0.2, by simpa using h.1, fun i k v e' h1 h2 => h.2 (i + 1) k v e' (by simpa using h1) (by simpa using h2)⟩
theorem findNow_rel {φ : Nat → Img} {has : Nat → Prop} (k : Int) : ∀ (es : List (Int × Value)) (en : List MapEntry) (j : Nat), MapR φ has es en.toArray →
    ∃ r, Instr.findNow (.int .i64) (.int .i64 k) en j = some r ∧ (match r with
      | none => mget es k = none ∧ es.findIdx? (fun p => p.1 == k) = none
      | some (i, u) => ∃ v q, mget es k = some v ∧ R φ has v u ∧ es.findIdx? (fun p => p.1 == k) = some q ∧ i = j + q ∧ (en[q]?).map (·.key) = some (.int .i64 k))
  | [], en, j, h => by
    cases en with
    | nil => exact ⟨none, rfl, rfl, rfl⟩
    | cons e en => simpa using h.1
  | p :: es, en, j, h => by
    obtain ⟨e, en', h1, h2, h3, h4⟩ := h.cons
    simp at h1
    subst h1
    simp only [Instr.findNow, h2, Instr.sameNow, if_true]
    by_cases hk : k = p.1
    · subst hk
      simp only [beq_self_eq_true]
      refine ⟨_, rfl, p.2, 0, ?_, h3, ?_, rfl, by simp [h2]⟩
      · simp [mget]
      · simp [List.findIdx?_cons]
    · have hb : (k == p.1) = false := by simpa using hk
      have hb2 : (p.1 == k) = false := by simpa using fun q => hk q.symm
      rw [hb]
      obtain ⟨r, hr1, hr2⟩ := findNow_rel k es en' (j + 1) h4
      refine ⟨r, hr1, ?_⟩
      cases r with
      | none => exact ⟨by simpa [mget, hb2] using hr2.1, by simpa [List.findIdx?_cons, hb2] using hr2.2⟩
      | some q =>
        obtain ⟨i, u⟩ := q
        obtain ⟨v, q, g1, g2, g3, g4, g5⟩ := hr2
        exact ⟨v, q + 1, by simpa [mget, hb2] using g1, g2, by simp [List.findIdx?_cons, hb2, g3], by omega, by simpa using g5⟩
def mapOf (x : Value) (H : Heap) (K : List (Int × Value) → Prop) : Prop :=
  match x with
  | .map none => K []
  | .map (some b) => match H.get b with
    | .map es => K es
    | _ => False
  | _ => False
def lookupK (P : Program) (t : TypeId) (m k : Value) (ok : Bool) (H : Heap) (K : Value → Prop) : Prop :=
  match mk P t, k with
  | some et, .int .i64 k => mapOf m H fun es => match mget es k with
    | some v => K (if ok = true then .tuple #[v, .bool true] else v)
    | none => match zr P et with
      | some z => constOk z = true ∧ K (if ok = true then .tuple #[z, .bool false] else z)
      | none => False
  | _, _ => False
theorem mapOf_run {φ : Nat → Img} {w : World} {x u : Value} {K : List (Int × Value) → Prop} (hh : Holds φ H w) (hr : R φ H.has x u) (h : mapOf x H K) :
    ∃ es en, K es ∧ MapR φ H.has es en ∧ ((u = .map none ∧ en = #[]) ∨ ∃ r ck, u = .map (some r) ∧ w.heap[r]? = some (.map en ck)) := by
  unfold mapOf at h
  split at h
  · exact ⟨[], #[], h, ⟨rfl, by simp⟩, .inl ⟨by cases hr; rfl, rfl⟩⟩
  · rename_i b
    split at h
    · rename_i es eb
      obtain ⟨_, e1⟩ := hr.map_inv
      obtain ⟨en, ck, h1, h2⟩ := hh.map _ _ eb
      exact ⟨es, en, h, h2, .inr ⟨_, ck, e1, h1⟩⟩
    · exact h.elim
  · exact h.elim
theorem run_checkKey' (d : Nat) {b : Bool} {kt : TypeId} {k : Int} (h : P.underlying kt = some (.int .i64)) (w : World) : (Instr.checkKey b (d + 1) kt (.int .i64 k)).run P w = .ok () w := by
  simp only [Instr.checkKey, Sem.run_bind, run_underlying h, Result.andThen_ok]
  rfl
theorem run_checkKey {b : Bool} {kt : TypeId} {k : Int} (h : P.underlying kt = some (.int .i64)) (w : World) : (Instr.checkKey b 10000 kt (.int .i64 k)).run P w = .ok () w := run_checkKey' 9999 h w
theorem run_getMap {r : Nat} {en : Array MapEntry} {ck : Nat} {w : World} (h : w.heap[r]? = some (.map en ck)) : (getObj r).run P w = .ok (.map en ck) w := by
  simp [getObj, Sem.run, h]
theorem gives_lookup {t : TypeId} {x i : Operand} {ok : Bool} (h : lookupK P t (e x) (e i) ok H fun v => K v H) : Gives P ⟨dst, .lookup t x i ok, ty, pos, af, g⟩ e H K := by
  unfold lookupK at h
  split at h
  · rename_i et k hm ek
    obtain ⟨kt, hu, huk⟩ := mk_spec hm
    intro φ ρ w hh hx
    have h1 := hx x (by simp [Op.operands])
    have h2 := hx i (by simp [Op.operands])
    rw [ek] at h2
    have e2 := h2.int_inv
    obtain ⟨es, en, hK, hmr, hcase⟩ := mapOf_run hh h1 h
    obtain ⟨r, hr1, hr2⟩ := findNow_rel (φ := φ) (has := H.has) k es en.toList 0 hmr
    have hfind : (Instr.findKey kt (.int .i64 k) en.toList).run P w = .ok r w := by
      unfold Instr.findKey
      simp only [Sem.run_bind, run_underlying huk, Result.andThen_ok, hr1, Sem.run_pure]
    have hrun : ∀ v' b, (match r with | some (_, v) => v' = v ∧ b = true | none => b = false ∧ (zeroValue et).run P w = .ok v' w) →
        (execOp ρ ⟨dst, .lookup t x i ok, ty, pos, af, g⟩).run P w = .ok (.value (if ok = true then .tuple #[v', .bool b] else v')) w := by
      intro v' b hq
      show (do let v ← Instr.lookup t (ρ x) (ρ i) ok; pure (Next.value v) : Sem Next).run P w = _
      unfold Instr.lookup
      rcases hcase with ⟨e1, rfl⟩ | ⟨rr, ck, e1, hg⟩
      · simp only [Sem.run_bind, run_underlying hu, Result.andThen_ok, e1, e2, Sem.run_pure, run_checkKey huk, hfind]
        cases r with
        | none =>
          obtain ⟨rfl, hz⟩ := hq
          simp only [Sem.run_bind, Result.andThen_ok, hz, Sem.run_pure]
        | some q =>
          obtain ⟨q1, q2⟩ := q
          obtain ⟨rfl, rfl⟩ := hq
          simp only [Sem.run_bind, Result.andThen_ok, Sem.run_pure]
      · simp only [Sem.run_bind, run_underlying hu, Result.andThen_ok, e1, e2, Sem.run_pure, run_getMap hg, run_checkKey huk, hfind]
        cases r with
        | none =>
          obtain ⟨rfl, hz⟩ := hq
          simp only [Sem.run_bind, Result.andThen_ok, hz, Sem.run_pure]
        | some q =>
          obtain ⟨q1, q2⟩ := q
          obtain ⟨rfl, rfl⟩ := hq
          simp only [Sem.run_bind, Result.andThen_ok, Sem.run_pure]
    cases r with
    | none =>
      obtain ⟨g1, g2⟩ := hr2
      rw [g1] at hK
      simp only at hK
      split at hK
      · rename_i z hz
        obtain ⟨hc, hK⟩ := hK
        refine ⟨φ, _, _, H, w, hK, .inl (hrun z false ⟨rfl, run_zero hz w⟩), ?_, hh, Ok.refl⟩
        split
        · exact R.tuple_mk (RL.cons (R.of_const hc) (RL.cons (.bool _) RL.nil)).toArray
        · exact R.of_const hc
      · exact hK.elim
    | some q =>
      obtain ⟨q1, u⟩ := q
      obtain ⟨v, q, g1, g2, g3⟩ := hr2
      rw [g1] at hK
      simp only at hK
      refine ⟨φ, _, _, H, w, hK, .inl (hrun u true ⟨rfl, rfl⟩), ?_, hh, Ok.refl⟩
      split
      · exact R.tuple_mk (RL.cons g2 (RL.cons (.bool _) RL.nil)).toArray
      · exact g2
  · exact h.elim
end
section
variable {P : Program} {e : Operand → Value} {H : Heap} {K : Value → Heap → Prop} {dst : Option Nat} {ty : TypeId} {pos : String} {af : Array Edge} {g : Option (Nat × Bool)}
def mapPutK (P : Program) (t : TypeId) (m k v : Value) (H : Heap) (K : Heap → Prop) : Prop :=
  match mk P t, m, k with
  | some _, .map (some b), .int .i64 k => match H.get b with
    | .map es => K (H.set b (.map (mput es k v)))
    | _ => False
  | _, _, _ => False
theorem run_setObj {r : Nat} {en en' : Array MapEntry} {ck ck' : Nat} {w : World} (h : w.heap[r]? = some (.map en ck)) : (setObj r (.map en' ck')).run P w = .ok () { w with heap := w.heap.setIfInBounds r (.map en' ck') } := by
  simp [setObj, Sem.run, h]
theorem MapR.mput {φ : Nat → Img} {has : Nat → Prop} {es : List (Int × Value)} {en : Array MapEntry} (h : MapR φ has es en) {k : Int} {v u : Value} (hv : R φ has v u) {q : Nat} {ck : Nat} (key : Value) (hkey : key = .int .i64 k) :
    (es.findIdx? (fun p => p.1 == k) = some q → MapR φ has (mput es k v) (en.modify q fun e => { e with key := key, val := u })) ∧
    (es.findIdx? (fun p => p.1 == k) = none → MapR φ has (mput es k v) (en.push { key := key, val := u, born := ck })) := by
  subst hkey
  refine ⟨fun hq => ?_, fun hq => ?_⟩
  · unfold Rai.mput
    rw [hq]
    refine ⟨by simp [h.1], fun i k' v' e' h1 h2 => ?_⟩
    simp only [List.getElem?_set] at h1
    rw [Array.getElem?_modify] at h2
    split at h1
    · rename_i ei
      subst ei
      rw [if_pos rfl] at h2
      split at h1
      · injection h1 with h1
        injection h1 with h1 h1'
        subst h1 h1'
        cases hen : en[q]? with
        | none => rw [hen] at h2; simp at h2
        | some e0 => rw [hen] at h2; simp at h2; subst h2; exact ⟨rfl, hv⟩
      · simp at h1
    · rename_i ei
      rw [if_neg ei] at h2
      exact h.2 i k' v' e' h1 h2
  · unfold Rai.mput
    rw [hq]
    refine ⟨by simp [h.1], fun i k' v' e' h1 h2 => ?_⟩
    rw [Array.getElem?_push] at h2
    by_cases hi : i < es.length
    · rw [List.getElem?_append_left hi] at h1
      rw [if_neg (by have := h.1; omega)] at h2
      exact h.2 i k' v' e' h1 h2
    · rw [List.getElem?_append_right (by omega)] at h1
      have : i = es.length := by
        have := (List.getElem?_eq_some_iff.1 h1).1
        simp at this
        omega
      subst this
      simp at h1
      obtain ⟨rfl, rfl⟩ := h1
      rw [if_pos h.1] at h2
      injection h2 with h2
      subst h2
      exact ⟨rfl, hv⟩
theorem gives_mapPut {t : TypeId} {m k x : Operand} (h : mapPutK P t (e m) (e k) (e x) H fun H' => K undef H') : Gives P ⟨dst, .mapUpdate t m k x, ty, pos, af, g⟩ e H K := by
  unfold mapPutK at h
  split at h
  · rename_i et b kk hm em ek
    split at h
    · rename_i es eb
      obtain ⟨kt, hu, huk⟩ := mk_spec hm
      intro φ ρ w hh hx
      have h1 := hx m (by simp [Op.operands])
      have h2 := hx k (by simp [Op.operands])
      have h3 := hx x (by simp [Op.operands])
      rw [em] at h1
      rw [ek] at h2
      have e2 := h2.int_inv
      obtain ⟨_, e1⟩ := h1.map_inv
      obtain ⟨en, ck, hg, hmr⟩ := hh.map _ _ eb
      obtain ⟨r, hr1, hr2⟩ := findNow_rel (φ := φ) (has := H.has) kk es en.toList 0 hmr
      have hfind : (Instr.findKey kt (.int .i64 kk) en.toList).run P w = .ok r w := by
        unfold Instr.findKey
        simp only [Sem.run_bind, run_underlying huk, Result.andThen_ok, hr1, Sem.run_pure]
      have hlt : (φ b).blk < w.heap.size := (Array.getElem?_eq_some_iff.1 hg).1
      have fin : ∀ en' ck', MapR φ H.has (mput es kk (e x)) en' → (execOp ρ ⟨dst, .mapUpdate t m k x, ty, pos, af, g⟩).run P w = .ok .skip { w with heap := w.heap.setIfInBounds (φ b).blk (.map en' ck') } →
          ∃ φ' v v' H' w', K v H' ∧ ((execOp ρ ⟨dst, .mapUpdate t m k x, ty, pos, af, g⟩).run P w = .ok (.value v') w' ∨ ((execOp ρ ⟨dst, .mapUpdate t m k x, ty, pos, af, g⟩).run P w = .ok .skip w' ∧ v = undef ∧ v' = undef)) ∧ R φ' H'.has v v' ∧ Holds φ' H' w' ∧ Ok φ H w φ' H' w' := by
        intro en' ck' hmr' hrun
        have hc := hh.change (w' := { w with heap := w.heap.setIfInBounds (φ b).blk (.map en' ck') }) (b := b) (by rw [eb]; rfl) (.map (mput es kk (e x))) (by simp) rfl rfl rfl (by simp)
          (fun β hβ => by simp [Array.getElem?_setIfInBounds_ne (fun q => hβ q.symm)]) (fun _ _ _ q => by simp at q) (fun es' q => by injection q with q; subst q; exact ⟨en', ck', by simp [hlt], hmr'⟩)
        exact ⟨φ, undef, undef, _, _, h, .inr ⟨hrun, rfl, rfl⟩, R.undef, hc.1, hc.2⟩
      cases r with
      | none =>
        obtain ⟨_, g2⟩ := hr2
        refine fin (en.push { key := .int .i64 kk, val := ρ x, born := ck }) (ck + 1) ((hmr.mput h3 (q := 0) (.int .i64 kk) rfl).2 g2) ?_
        show (do Instr.mapUpdate t (ρ m) (ρ k) (ρ x); pure Next.skip : Sem Next).run P w = _
        unfold Instr.mapUpdate
        simp only [Sem.run_bind, run_underlying hu, Result.andThen_ok, e1, e2, run_getMap hg, run_checkKey huk, hfind, run_setObj hg, Sem.run_pure]
      | some q =>
        obtain ⟨q1, u⟩ := q
        obtain ⟨v, q, _, _, g3, g4, g5⟩ := hr2
        have g4' : q1 = q := by omega
        subst g4'
        refine fin (en.modify q1 fun e => { e with key := .int .i64 kk, val := ρ x }) ck ((hmr.mput h3 (ck := 0) (.int .i64 kk) rfl).1 g3) ?_
        have hk : (((en[q1]?).map (·.key)).getD (.int .i64 kk)) = .int .i64 kk := by
          rw [← Array.getElem?_toList] at *
          rw [g5]; rfl
        have hstay : (Instr.keyThatStays (.int .i64 kk) (.int .i64 kk)).run P w = .ok (.int .i64 kk) w := by
          unfold Instr.keyThatStays
          have : Instr.sameBits 10000 (.int .i64 kk) (.int .i64 kk) = true := by simp [Instr.sameBits]
          simp [this]
        show (do Instr.mapUpdate t (ρ m) (ρ k) (ρ x); pure Next.skip : Sem Next).run P w = _
        unfold Instr.mapUpdate
        simp only [Sem.run_bind, run_underlying hu, Result.andThen_ok, e1, e2, run_getMap hg, run_checkKey huk, hfind, hk, hstay, run_setObj hg, Sem.run_pure]
    · exact h.elim
  · exact h.elim
/-! ### Builtins -/
theorem gives_builtin {b : Builtin} {args : Array Operand} {ats : Array TypeId}
    (h : ∀ (φ : Nat → Img) (ρ : Operand → Value) (w : World), Holds φ H w → RA φ H.has (args.map e) (args.map ρ) → (∀ cs, ∃ φ' v v' H' w', K v H' ∧ (builtin b ats ty cs (args.map ρ)).run P w = .ok (.value v') w' ∧ R φ' H'.has v v' ∧ Holds φ' H' w' ∧ Ok φ H w φ' H' w')) :
    Gives P ⟨dst, .call ⟨.builtin b, args, ats⟩, ty, pos, af, g⟩ e H K := by
  intro φ ρ w hh hx
  have ha := RA.map (φ := φ) (has := H.has) args e ρ (fun x hm => hx x (by simp [Op.operands, Call.operands, hm]))
  obtain ⟨φ', v, v', H', w', hK, hr, h1, h2, h3⟩ := h φ ρ w hh ha (args.map fun | .const _ => true | _ => false)
  refine ⟨φ', v, v', H', w', hK, .inl ?_, h1, h2, h3⟩
  simp only [execOp, resolve, Sem.run_bind, Sem.run_pure, Result.andThen_ok, invoke]
  exact hr
theorem RA.two {φ : Nat → Img} {has : Nat → Prop} {x y : Value} {zs : Array Value} (h : RA φ has #[x, y] zs) : ∃ x' y', zs = #[x', y'] ∧ R φ has x x' ∧ R φ has y y' := by
  obtain ⟨l⟩ := zs
  obtain ⟨x', l1, e1, h1, h2⟩ := (h.toList).inv_cons
  obtain ⟨y', l2, e2, h3, h4⟩ := h2.inv_cons
  have : l2 = [] := by have := h4.1; simpa using this.symm
  subst this
  refine ⟨x', y', ?_, h1, h3⟩
  have : l = [x', y'] := by rw [← e2, ← e1]
  rw [this]
theorem RA.one {φ : Nat → Img} {has : Nat → Prop} {x : Value} {zs : Array Value} (h : RA φ has #[x] zs) : ∃ x', zs = #[x'] ∧ R φ has x x' := by
  obtain ⟨l⟩ := zs
  obtain ⟨x', l1, e1, h1, h2⟩ := (h.toList).inv_cons
  have : l1 = [] := by have := h2.1; simpa using this.symm
  subst this
  refine ⟨x', ?_, h1⟩
  have : l = [x'] := by rw [← e1]
  rw [this]
def lenK (P : Program) (t : TypeId) (x : Value) (H : Heap) (K : Value → Prop) : Prop :=
  match P.underlying t, x with
  | some (.slice _), .slice _ n _ => K (.int .i64 n)
  | some .string, .string s => K (.int .i64 s.size)
  | some (.array n _), _ => K (.int .i64 n)
  | some (.map _ _), m => mapOf m H fun es => K (.int .i64 es.length)
  | _, _ => False
theorem pg_builtin {Kp : Value → Prop} {b : Builtin} {args : Array Operand} {ats : Array TypeId}
    (h : ∀ (φ : Nat → Img) (ρ : Operand → Value) (w : World), Holds φ H w → RA φ H.has (args.map e) (args.map ρ) → (∀ cs, ∃ v v', Kp v ∧ (builtin b ats ty cs (args.map ρ)).run P w = .ok (.value v') w ∧ R φ H.has v v')) :
    PGives P ⟨dst, .call ⟨.builtin b, args, ats⟩, ty, pos, af, g⟩ e H Kp := by
  intro φ ρ w hh hx
  have ha := RA.map (φ := φ) (has := H.has) args e ρ (fun x hm => hx x (by simp [Op.operands, Call.operands, hm]))
  obtain ⟨v, v', hK, hr, h1⟩ := h φ ρ w hh ha (args.map fun | .const _ => true | _ => false)
  refine ⟨v, v', hK, ?_, h1⟩
  simp only [execOp, resolve, Sem.run_bind, Sem.run_pure, Result.andThen_ok, invoke]
  exact hr
theorem pg_len {Kp : Value → Prop} {x : Operand} {t : TypeId} (h : lenK P t (e x) H Kp) : PGives P ⟨dst, .call ⟨.builtin .len, #[x], #[t]⟩, ty, pos, af, g⟩ e H Kp := by
  refine pg_builtin fun φ ρ w hh ha cs => ?_
  have ha' : RA φ H.has #[e x] #[ρ x] := by simpa using ha
  obtain ⟨x', hx', hr⟩ := ha'.one
  have hr : R φ H.has (e x) (ρ x) := by
    have : x' = ρ x := by simpa using hx'.symm
    rwa [this] at hr
  unfold lenK at h
  split at h
  · rename_i et s n c hu ex
    rw [ex] at hr
    have : ∃ a' c', ρ x = .slice a' n c' := by
      cases s with
      | none => obtain ⟨rfl, _, e1⟩ := hr.slice0_inv; exact ⟨_, _, e1⟩
      | some a => obtain ⟨_, c', e1⟩ := hr.slice_shape; exact ⟨_, _, e1⟩
    obtain ⟨a', c', e1⟩ := this
    exact ⟨_, _, h, by simp [builtin, Builtin.len_, e1, run_underlying hu, goInt], .int _ _⟩
  · rename_i s hu ex
    rw [ex] at hr
    exact ⟨_, _, h, by simp [builtin, Builtin.len_, hr.string_inv, run_underlying hu, goInt], .int _ _⟩
  · rename_i n et hu
    exact ⟨_, _, h, by simp [builtin, Builtin.len_, run_underlying hu, goInt], .int _ _⟩
  · rename_i kt et hu
    obtain ⟨es, en, hK, hmr, hcase⟩ := mapOf_run hh hr h
    rcases hcase with ⟨e1, rfl⟩ | ⟨rr, ck, e1, hg⟩
    · have : es = [] := by have := hmr.1; simpa using this
      subst this
      exact ⟨_, _, hK, by simp [builtin, Builtin.len_, e1, run_underlying hu, goInt], .int _ _⟩
    · refine ⟨_, .int .i64 (en.size : Nat), hK, by simp [builtin, Builtin.len_, e1, run_underlying hu, run_getMap hg, goInt], ?_⟩
      rw [hmr.1]
      exact .int _ _
  · exact h.elim
def mnmxK (mx : Bool) (args : List Value) (K : Value → Prop) : Prop :=
  match args with
  | [.int k x, .int k' y] => k = k' ∧ K (.int k (if (if mx then y > x else y < x) then y else x))
  | [.int k x, .int k' y, .int k'' z] => k = k' ∧ k = k'' ∧ K (.int k (let u := (if (if mx then y > x else y < x) then y else x); if (if mx then z > u else z < u) then z else u))
  | _ => False
theorem pg_min2 {Kp : Value → Prop} {x y : Operand} {ats : Array TypeId} {k : IntKind} {a b : Int} (ex : e x = .int k a) (ey : e y = .int k b) (h : Kp (.int k (if b < a then b else a))) : PGives P ⟨dst, .call ⟨.builtin .min, #[x, y], ats⟩, ty, pos, af, g⟩ e H Kp := by
  refine pg_builtin fun φ ρ w hh ha cs => ?_
  have ha' : RA φ H.has #[e x, e y] #[ρ x, ρ y] := by simpa using ha
  obtain ⟨x', y', hq, h1, h2⟩ := ha'.two
  simp at hq
  rw [← hq.1, ex] at h1
  rw [← hq.2, ey] at h2
  exact ⟨_, _, h, by simp [builtin, Builtin.min_, Builtin.min2, h1.int_inv, h2.int_inv], .int _ _⟩
theorem pg_max2 {Kp : Value → Prop} {x y : Operand} {ats : Array TypeId} {k : IntKind} {a b : Int} (ex : e x = .int k a) (ey : e y = .int k b) (h : Kp (.int k (if b > a then b else a))) : PGives P ⟨dst, .call ⟨.builtin .max, #[x, y], ats⟩, ty, pos, af, g⟩ e H Kp := by
  refine pg_builtin fun φ ρ w hh ha cs => ?_
  have ha' : RA φ H.has #[e x, e y] #[ρ x, ρ y] := by simpa using ha
  obtain ⟨x', y', hq, h1, h2⟩ := ha'.two
  simp at hq
  rw [← hq.1, ex] at h1
  rw [← hq.2, ey] at h2
  exact ⟨_, _, h, by simp [builtin, Builtin.max_, Builtin.max2, h1.int_inv, h2.int_inv], .int _ _⟩
end
/-- A new abstract block over cells of the world that no live block has. -/
theorem Holds.adopt {φ : Nat → Img} {H : Heap} {w w' : World} (h : Holds φ H w) (β base ext es : Nat) (cs : List Value) {arr : Array Value} {e : TypeId} (hes : 0 < es) (hos : w'.os = w.os) (htape : w'.tape = w.tape) (hout : w'.output = w.output) (hsz : w'.heap.size = w.heap.size)
    (hoth : ∀ γ, γ ≠ β → w'.heap[γ]? = w.heap[γ]?) (hβ : w'.heap[β]? = some (.cells arr e (0, 0))) (hext : base + ext = arr.size) (hl : cs.length ≤ ext) (hfree : ∀ c, (H.get c).live = true → (φ c).blk ≠ β)
    (hr : ∀ (j : Nat) (v : Value), cs[j]? = some v → ∃ u, arr[base + j]? = some u ∧ R φ H.has v u) :
    Holds (upd φ H.size ⟨β, base, ext, es⟩) (H.push (.cells cs es false)) w' ∧ ∀ b, H.has b → (H.push (.cells cs es false)).has b ∧ upd φ H.size ⟨β, base, ext, es⟩ b = φ b := by
  have hm := h.push_mono (.cells cs es false) ⟨β, base, ext, es⟩
  have hu : upd φ H.size ⟨β, base, ext, es⟩ H.size = ⟨β, base, ext, es⟩ := by unfold upd; rw [if_pos rfl]
  have hself : (H.push (.cells cs es false)).get H.size = .cells cs es false := by rw [Heap.get_push, if_pos rfl]
  have hcase : ∀ b, (H.push (.cells cs es false)).has b → b = H.size ∨ (H.has b ∧ (H.push (.cells cs es false)).get b = H.get b ∧ upd φ H.size ⟨β, base, ext, es⟩ b = φ b) := by
    intro b hb
    by_cases eb : b = H.size
    · exact .inl eb
    · right
      unfold Heap.has at hb ⊢
      rw [Heap.get_push, if_neg eb] at hb
      exact ⟨hb, by rw [Heap.get_push, if_neg eb], by unfold upd; rw [if_neg eb]⟩
  have hrow : ∀ b, (H.get b).live = true → w'.heap[(φ b).blk]? = w.heap[(φ b).blk]? := fun b hl => hoth _ (hfree b hl)
  have hlt : β < w.heap.size := by rw [← hsz]; exact (Array.getElem?_eq_some_iff.1 hβ).1
  refine ⟨⟨?_, ?_, ?_, ?_, ?_, ?_, ?_⟩, hm⟩
  · intro b hb
    rw [Heap.size_push] at hb
    rw [Heap.get_push, if_neg (by omega)]
    exact h.wf b (by omega)
  · intro b cs2 es2 ro hb j v hj
    rcases hcase b (Heap.has_of_cells hb) with rfl | ⟨h1, h2, h3⟩
    · rw [hself] at hb
      injection hb with e1 e2 e3
      subst e1
      obtain ⟨u, hu1, hu2⟩ := hr j v hj
      exact ⟨u, by rw [hu, cell_at hβ]; exact hu1, hu2.mono hm⟩
    · rw [h2] at hb
      obtain ⟨u, hu1, hu2⟩ := h.cell b cs2 es2 ro hb j v hj
      exact ⟨u, by rw [h3, cell_congr (hrow b (by rw [hb]; rfl))]; exact hu1, hu2.mono hm⟩
  · intro b cs2 es2 hb
    rcases hcase b (Heap.has_of_cells hb) with rfl | ⟨h1, h2, h3⟩
    · rw [hself] at hb
      injection hb with e1 e2 e3
      subst e1
      exact ⟨arr, e, by rw [hu]; exact hβ, by rw [hu]; exact hext, by rw [hu]; exact hl⟩
    · rw [h2] at hb
      obtain ⟨arr2, e2, h4, h5, h6⟩ := h.row b cs2 es2 hb
      exact ⟨arr2, e2, by rw [h3, hrow b (by rw [hb]; rfl)]; exact h4, by rw [h3]; exact h5, by rw [h3]; exact h6⟩
  · intro b cs2 es2 ro hb
    rcases hcase b (Heap.has_of_cells hb) with rfl | ⟨h1, h2, h3⟩
    · rw [hself] at hb
      injection hb with e1 e2 e3
      subst e2
      rw [hu]; exact ⟨rfl, hes⟩
    · rw [h2] at hb; rw [h3]; exact h.es b cs2 es2 ro hb
  · intro b es2 hb
    rcases hcase b (by unfold Heap.has; rw [hb]; simp) with rfl | ⟨h1, h2, h3⟩
    · rw [hself] at hb; simp at hb
    · rw [h2] at hb
      obtain ⟨en, ck, h4, hr2⟩ := h.map b es2 hb
      exact ⟨en, ck, by rw [h3, hrow b (by rw [hb]; rfl)]; exact h4, hr2.1, fun j k v e h1 h2 => ⟨(hr2.2 j k v e h1 h2).1, (hr2.2 j k v e h1 h2).2.mono hm⟩⟩
  · intro b hb
    rw [hsz]
    rcases hcase b (Heap.has_of_live hb) with rfl | ⟨h1, h2, h3⟩
    · rw [hu]; exact hlt
    · rw [h2] at hb; rw [h3]; exact h.lt b hb
  · intro b c hbc hb hc
    rcases hcase b (Heap.has_of_live hb) with rfl | ⟨h1, h2, h3⟩ <;> rcases hcase c (Heap.has_of_wr hc) with rfl | ⟨h4, h5, h6⟩
    · exact absurd rfl hbc
    · rw [h5] at hc; rw [hu, h6]; exact (hfree c (Blk.live_of_wr hc)).symm
    · rw [h2] at hb; rw [hu, h3]; exact hfree b hb
    · rw [h2] at hb; rw [h5] at hc; rw [h3, h6]; exact h.apart b c hbc hb hc
section
variable {P : Program} {e : Operand → Value} {H : Heap} {K : Value → Heap → Prop} {dst : Option Nat} {ty : TypeId} {pos : String} {af : Array Edge} {g : Option (Nat × Bool)}
/-- The cells that are appended. -/
def appsK (P : Program) (xt : TypeId) (x : Value) (sz : Nat) (H : Heap) (K : Nat → List Value → Prop) : Prop :=
  match el P xt, x with
  | some (none, _), .slice none 0 0 => K 0 []
  | some (none, _), .slice (some a) n _ => a.spot = none ∧ ∃ cs, H.range a.block a.off (n * sz) = some cs ∧ K n cs
  | _, _ => False
def oneCells (l : List Value) : Prop := ∀ v ∈ l, v.oneCell' = true
def appendK (P : Program) (st xt : TypeId) (s x : Value) (H : Heap) (K : Value → Heap → Prop) : Prop :=
  match P.underlying st with
  | some (.slice et) => match cz P et, bz P et, zr P et with
    | some sz, some bz, some z => 0 < sz ∧ 0 < bz ∧ constOk z = true ∧ z.cells.size = sz ∧ appsK P xt x sz H fun n new => oneCells new ∧
      match s with
      | .slice none 0 0 => n * bz ≤ 140737488355328 ∧ (n = 0 → K (.slice none 0 0) H) ∧ (n ≠ 0 → K (.slice (some ⟨H.size, 0, none⟩) n 0) (H.push (.cells new sz false)))
      | .slice (some a) len 0 => match H.get a.block with
        | .cells cs es false => es = sz ∧ a.spot = none ∧ (len + n) * bz ≤ 140737488355328 ∧ (n = 0 → K (.slice (some a) len 0) H) ∧
            (n ≠ 0 → a.off + len * sz ≤ cs.length ∧ K (.slice (some ⟨H.size, 0, none⟩) (len + n) 0) ((H.set a.block .dead).push (.cells ((cs.drop a.off).take (len * sz) ++ new) sz false)))
        | _ => False
      | .slice (some a) len (c + 1) => match H.get a.block with
        | .cells cs es ro => a.spot = none ∧ (len + n) * bz ≤ 140737488355328 ∧
            (len + n ≤ c → ro = false ∧ a.off + (len + n) * sz ≤ cs.length ∧ K (.slice (some a) (len + n) (c + 1)) (H.set a.block (.cells (cs.take (a.off + len * sz) ++ new ++ cs.drop (a.off + (len + n) * sz)) es false))) ∧
            (c < len + n → a.off + len * sz ≤ cs.length ∧ K (.slice (some ⟨H.size, 0, none⟩) (len + n) 0) (H.push (.cells ((cs.drop a.off).take (len * sz) ++ new) sz false)))
        | _ => False
      | _ => False
    | _, _, _ => False
  | _ => False
theorem cell_heap {w w1 : World} (h : w1.heap = w.heap) (a : Addr) : w1.cell? a = w.cell? a := by unfold World.cell?; rw [h]
theorem apps_run {φ : Nat → Img} {w : World} {xt : TypeId} {x u : Value} {sz : Nat} {Kn : Nat → List Value → Prop} (hh : Holds φ H w) (hr : R φ H.has x u) (h : appsK P xt x sz H Kn) :
    ∃ n new us xe, Kn n new ∧ P.underlying xt = some (.slice xe) ∧ RL φ H.has new us ∧ new.length = n * sz ∧ (∀ w0, (Builtin.lenOf u).run P w0 = .ok n w0) ∧ (∀ w1 : World, w1.heap = w.heap → (Builtin.firstCells sz n u).run P w1 = .ok us.toArray w1) := by
  unfold appsK at h
  split at h
  · rename_i q hel
    obtain ⟨xe, hu, _⟩ := el_slice hel
    obtain ⟨_, _, rfl⟩ := hr.slice0_inv
    exact ⟨0, [], [], xe, h, hu, RL.nil, by simp, fun w0 => by simp [Builtin.lenOf], fun w1 _ => by simp [Builtin.firstCells]⟩
  · rename_i q a n c hel
    obtain ⟨xe, hu, _⟩ := el_slice hel
    obtain ⟨hsp, cs, hc, hK⟩ := h
    obtain ⟨_, _, c', rfl, _⟩ := hr.slice_inv (.inl hsp)
    obtain ⟨us, hl1, hl2, hrl, hcell⟩ := hh.range_get hc
    refine ⟨n, cs, us, xe, hK, hu, hrl, hl2, fun w0 => by simp [Builtin.lenOf], fun w1 hw1 => ?_⟩
    simp only [Builtin.firstCells]
    rw [← hl1]
    exact run_loadCells_list w1 _ us (fun j v hj => by rw [add_off, cell_heap hw1]; exact hcell j v hj)
  · exact h.elim
theorem RL.one {φ : Nat → Img} {has : Nat → Prop} {l l' : List Value} (h : RL φ has l l') (h1 : oneCells l) : oneCells l' := by
  intro u hu
  obtain ⟨i, hi, rfl⟩ := List.getElem_of_mem hu
  have hi' : i < l.length := by rw [h.1]; exact hi
  have := h.2 i _ _ (List.getElem?_eq_getElem hi') (List.getElem?_eq_getElem hi)
  rw [this.oneCell]
  exact h1 _ (List.getElem_mem hi')
theorem RL.get {φ : Nat → Img} {has : Nat → Prop} {l l' : List Value} (h : RL φ has l l') {j : Nat} {v : Value} (hj : l[j]? = some v) : ∃ u, l'[j]? = some u ∧ R φ has v u := by
  have hi : j < l'.length := by rw [← h.1]; exact (List.getElem?_eq_some_iff.1 hj).1
  exact ⟨_, List.getElem?_eq_getElem hi, h.2 j v _ hj (List.getElem?_eq_getElem hi)⟩
theorem run_info' {t : TypeId} {n : Nat} (h : bz P t = some n) : ∃ i : TypeInfo, (∀ w, (typeInfo t).run P w = .ok i w) ∧ i.bytes = n := by
  unfold bz at h
  cases e : P.info? t with
  | none => rw [e] at h; simp at h
  | some i => rw [e] at h; simp at h; exact ⟨i, fun w => by simp [typeInfo, e], h⟩
/-- What the model's append does where there is no room. -/
theorem run_append_grow {st xt et xe : TypeId} {sz b : Nat} {z : Value} (hu : P.underlying st = some (.slice et)) (hx : P.underlying xt = some (.slice xe)) (hsz : cz P et = some sz) (hb : bz P et = some b) (hz : zr P et = some z) (h0b : 0 < b)
    {base : Option Addr} {len cap n : Nat} {x : Value} {old new : List Value} {w : World} (hcl : cap < len + n) (hroom : (len + n) * b ≤ 140737488355328)
    (hl : ∀ w0, (Builtin.lenOf x).run P w0 = .ok n w0) (hold : (Builtin.firstCells sz len (.slice base len cap)).run P w.drew = .ok old.toArray w.drew)
    (hnew : (Builtin.firstCells sz n x).run P w.drew = .ok new.toArray w.drew) :
    ∃ q, len + n ≤ q ∧ (Builtin.append_ #[st, xt] ty #[.slice base len cap, x]).run P w =
      .ok (.slice (some ⟨w.heap.size, 0, none⟩) (len + n) q) (w.drew.alloc (.cells (old.toArray ++ (new.toArray ++ Builtin.zeroCells z.cells (q - (len + n)))) et)) := by
  obtain ⟨i, hi, hib⟩ := run_info' hb
  have hfit := growslice_fits (bytes := b) hcl hroom
  refine ⟨Question.cut (.appendCap (len + n) cap et) (w.tape w.drawn (.appendCap (len + n) cap et)), by simp [Question.cut], ?_⟩
  unfold Builtin.append_
  have hng : ¬ len + n ≤ cap := by omega
  have hb0 : ¬ b = 0 := by omega
  have hns : ¬ 281474976710656 < Builtin.nextslicecap (len + n) cap * b := by omega
  simp [run_underlying hu, run_underlying hx, run_size hsz, hl, hng, hi, hib, hb0, hns, Question.forced, hold, hnew, run_zero hz, newRow]
/-- .. and where there is room. -/
theorem run_append_room {st xt et xe : TypeId} {sz : Nat} (hu : P.underlying st = some (.slice et)) (hx : P.underlying xt = some (.slice xe)) (hsz : cz P et = some sz)
    {base : Option Addr} {len cap n : Nat} {x : Value} {new : List Value} {w : World} (hcl : len + n ≤ cap)
    (hl : ∀ w0, (Builtin.lenOf x).run P w0 = .ok n w0) (hnew : (Builtin.firstCells sz n x).run P w = .ok new.toArray w) :
    (Builtin.append_ #[st, xt] ty #[.slice base len cap, x]).run P w = (match base with
      | some a => (storeCells (a.add (len * sz)) new).run P w
      | none => .ok () w).andThen fun _ w' => .ok (.slice base (len + n) cap) w' := by
  unfold Builtin.append_
  cases base with
  | none => simp [run_underlying hu, run_underlying hx, run_size hsz, hl, hcl, hnew]
  | some a => simp [run_underlying hu, run_underlying hx, run_size hsz, hl, hcl, hnew]
/-- The row after the store of 'new' from place k on. -/
theorem splice_get {arr new : List Value} {k n : Nat} (hn : new.length = n) (hk : k + n ≤ arr.length) (j : Nat) :
    (arr.take k ++ new ++ arr.drop (k + n))[j]? = if j < k then arr[j]? else if j < k + n then new[j - k]? else arr[j]? := by
  by_cases c1 : j < k
  · rw [if_pos c1, List.append_assoc, List.getElem?_append_left (by simp; omega), List.getElem?_take, if_pos c1]
  · rw [if_neg c1]
    by_cases c2 : j < k + n
    · rw [if_pos c2, List.append_assoc, List.getElem?_append_right (by simp; omega), List.getElem?_append_left (by simp; omega)]
      congr 1
      simp; omega
    · rw [if_neg c2, List.append_assoc, List.getElem?_append_right (by simp; omega), List.getElem?_append_right (by simp; omega), List.getElem?_drop]
      congr 1
      simp; omega
theorem splice_length {arr new : List Value} {k n : Nat} (hn : new.length = n) (hk : k + n ≤ arr.length) : (arr.take k ++ new ++ arr.drop (k + n)).length = arr.length := by simp; omega
theorem RL.length {φ : Nat → Img} {has : Nat → Prop} {l l' : List Value} (h : RL φ has l l') : l'.length = l.length := h.1.symm
theorem gives_append {s x : Operand} {st xt : TypeId} (h : appendK P st xt (e s) (e x) H K) : Gives P ⟨dst, .call ⟨.builtin .append, #[s, x], #[st, xt]⟩, ty, pos, af, g⟩ e H K := by
  refine gives_builtin fun φ ρ w hh ha cs0 => ?_
  have ha' : RA φ H.has #[e s, e x] #[ρ s, ρ x] := by simpa using ha
  obtain ⟨s', x', hq, rs, rx⟩ := ha'.two
  simp at hq
  obtain ⟨rfl, rfl⟩ := hq
  clear ha ha'
  have hargs : (#[s, x].map ρ) = #[ρ s, ρ x] := by simp
  rw [hargs]
  unfold appendK at h
  split at h
  · rename_i et hu
    split at h
    · rename_i sz b z hsz hb hz
      obtain ⟨h0, h0b, hc, hzs, h⟩ := h
      obtain ⟨n, new, us, xe, ⟨h1, h⟩, hux, hru, hln, hlo, hfc⟩ := apps_run hh rx h
      have hu1 := RL.one hru h1
      have blt : ∀ v' w', (Builtin.append_ #[st, xt] ty #[ρ s, ρ x]).run P w = .ok v' w' → (builtin .append #[st, xt] ty cs0 #[ρ s, ρ x]).run P w = .ok (.value v') w' := by
        intro v' w' hr
        simp only [builtin, Sem.run_bind, hr, Result.andThen_ok, Sem.run_pure]
      have hzc : ∀ k, (Builtin.zeroCells z.cells k).size = k * sz := fun k => by rw [size_zeroCells, hzs]
      have hlu : us.length = n * sz := by rw [hru.length]; exact hln
      -- a new block behind abstract heap H1, the old cells read
      have grown : ∀ (H1 : Heap) (base : Option Addr) (len cap : Nat) (old olds : List Value), Holds φ H1 w → Ok φ H w φ H1 w → cap < len + n → (len + n) * b ≤ 140737488355328 → ρ s = .slice base len cap →
          RL φ H.has old olds → old.length = len * sz → (Builtin.firstCells sz len (.slice base len cap)).run P w.drew = .ok olds.toArray w.drew → K (.slice (some ⟨H1.size, 0, none⟩) (len + n) 0) (H1.push (.cells (old ++ new) sz false)) →
          ∃ φ' v v' H' w', K v H' ∧ (builtin .append #[st, xt] ty cs0 #[ρ s, ρ x]).run P w = .ok (.value v') w' ∧ R φ' H'.has v v' ∧ Holds φ' H' w' ∧ Ok φ H w φ' H' w' := by
        intro H1 base len cap old olds hh1 ok1 hcl hroom es hro hlo' hfo hK
        obtain ⟨q, hq, hrun⟩ := run_append_grow (P := P) (ty := ty) hu hux hsz hb hz h0b hcl hroom hlo hfo (hfc w.drew rfl)
        rw [← es] at hrun
        have hall := ((hro.append hru).mono ok1.mono)
        have hsize : (olds.toArray ++ (us.toArray ++ Builtin.zeroCells z.cells (q - (len + n)))).size = q * sz := by
          simp only [Array.size_append, hzc, List.size_toArray, hlu, hro.length, hlo']
          rw [← Nat.add_mul, ← Nat.add_mul]; congr 1; omega
        have ha := (hh1.drew (w.drawn + 1)).alloc (old ++ new) (olds.toArray ++ (us.toArray ++ Builtin.zeroCells z.cells (q - (len + n)))) et sz h0 (by
          rw [hsize, List.length_append, hlo', hln, ← Nat.add_mul]; exact Nat.mul_le_mul_right _ hq) (fun j v hj => by
          obtain ⟨u, hu2, hr2⟩ := hall.get hj
          refine ⟨u, ?_, hr2⟩
          have hlt : j < (olds ++ us).length := (List.getElem?_eq_some_iff.1 hu2).1
          rw [← Array.append_assoc, Array.getElem?_append_left (by simpa using hlt)]
          simpa using hu2)
        refine ⟨_, _, _, _, _, hK, blt _ _ hrun, ?_, ha.1, ok1.trans (Ok.drew _ ha.2)⟩
        exact sl_new (i := ⟨w.heap.size, 0, _, sz⟩) (by simp) hq (by rw [hsize]) h0
      split at h
      · obtain ⟨hroom, hK0, hK1⟩ := h
        rename_i es
        rw [es] at rs
        obtain ⟨_, _, e1⟩ := rs.slice0_inv
        by_cases hn : n = 0
        · subst hn
          have hr := run_append_room (P := P) (ty := ty) hu hux hsz (base := none) (len := 0) (cap := 0) (Nat.le_refl _) hlo (hfc w rfl)
          rw [← e1] at hr
          exact ⟨φ, _, .slice none 0 0, H, w, hK0 rfl, blt _ _ (by rw [hr, e1]; rfl), .slice0, hh, Ok.refl⟩
        · exact grown H none 0 0 [] [] hh Ok.refl (by omega) (by simpa using hroom) e1 RL.nil (by simp) (by simp [Builtin.firstCells]) (by simpa using hK1 hn)
      · rename_i a len es
        split at h
        · rename_i cs es0 eb
          obtain ⟨rfl, hsp, hroom, hK0, hK1⟩ := h
          rw [es] at rs
          obtain ⟨_, hb0, c', e1, hc', hcap⟩ := rs.slice_inv (.inl hsp)
          have hcap' : c' * (φ a.block).es + a.off = (φ a.block).ext ∧ 0 < (φ a.block).es := by
            rcases hcap with q | ⟨_, q⟩
            · omega
            · exact q
          have hwr : (H.get a.block).wr = true := by rw [eb]; rfl
          by_cases hn : n = 0
          · subst hn
            have hus0 : us = [] := by simpa using hlu
            subst hus0
            have hr := run_append_room (P := P) (ty := ty) hu hux hsz (base := some ⟨(φ a.block).blk, (φ a.block).base + a.off, none⟩) (len := len) (cap := c') (by omega) hlo (hfc w rfl)
            rw [← e1] at hr
            refine ⟨φ, _, _, H, w, hK0 rfl, blt _ _ (by rw [hr]; rfl), ?_, hh, Ok.refl⟩
            have r0 := rs
            rw [e1] at r0
            exact r0
          · obtain ⟨hle, hK⟩ := hK1 hn
            have hrange : H.range a.block a.off (len * es0) = some ((cs.drop a.off).take (len * es0)) := by unfold Heap.range; rw [eb]; simp only [if_pos hle]
            obtain ⟨olds, ho1, ho2, ho3, ho4⟩ := hh.range_get hrange
            by_cases hrm : len + n ≤ c'
            · -- in place
              obtain ⟨arr, et', hg, hg2, hg3⟩ := hh.row _ _ _ eb
              obtain ⟨he1, he2⟩ := hh.es _ _ _ _ eb
              have hr := run_append_room (P := P) (ty := ty) hu hux hsz (base := some ⟨(φ a.block).blk, (φ a.block).base + a.off, none⟩) (len := len) (cap := c') hrm hlo (hfc w rfl)
              rw [← e1] at hr
              have hmul : (len + n) * es0 ≤ c' * es0 := Nat.mul_le_mul_right _ hrm
              rw [Nat.add_mul] at hmul
              have hext : c' * es0 + a.off = (φ a.block).ext := by rw [he1]; exact hcap'.1
              have hst := run_storeCells_at (P := P) (φ a.block).blk ((φ a.block).base + a.off + len * es0) et' us 0 arr w hg (by rw [hlu]; omega) hu1
              simp only [add_off, hst, Nat.add_zero] at hr
              rw [hlu] at hr
              simp only [Result.andThen_ok] at hr
              generalize harr : (arr.toList.take ((φ a.block).base + a.off + len * es0) ++ us ++ arr.toList.drop ((φ a.block).base + a.off + len * es0 + n * es0)).toArray = arr' at hr
              have hget : ∀ j : Nat, arr'[j]? = if j < (φ a.block).base + a.off + len * es0 then arr[j]? else if j < (φ a.block).base + a.off + len * es0 + n * es0 then us[j - ((φ a.block).base + a.off + len * es0)]? else arr[j]? := by
                intro j
                rw [← harr, List.getElem?_toArray, splice_get hlu (by simp; omega)]
                simp
              have hsize : arr'.size = arr.size := by
                rw [← harr, List.size_toArray, splice_length hlu (by simp; omega)]; simp
              have hsame := setRow_heap w (φ a.block).blk arr arr' et' (0, 0) hg
              have hk := hh.kill hwr
              have hm := (Holds.set_mono (φ := φ) (H := H) .dead a.block (by simp))
              have hd : (H.set a.block .dead).size = H.size := rfl
              have had := hk.1.adopt (w' := w.setRow (φ a.block).blk arr') (φ a.block).blk ((φ a.block).base + a.off) ((φ a.block).ext - a.off) es0 ((cs.drop a.off).take (len * es0) ++ new) (arr := arr') (e := et') h0 rfl rfl rfl (by simp [World.setRow])
                (fun β hβ => setRow_other w _ _ _ hβ) hsame (by rw [hsize]; omega) (by rw [List.length_append, ho2, hln]; omega)
                (fun c hc e => by
                  by_cases ec : c = a.block
                  · subst ec; rw [Heap.get_set, if_pos rfl] at hc; simp [Blk.live] at hc
                  · rw [Heap.get_set, if_neg ec] at hc; exact hh.apart c a.block ec hc hwr e)
                (fun j v hj => by
                  have hall := ((ho3.append hru).mono hm)
                  obtain ⟨u, hu2, hr2⟩ := hall.get hj
                  refine ⟨u, ?_, hr2⟩
                  rw [hget]
                  by_cases cj : j < len * es0
                  · rw [if_pos (by omega)]
                    rw [List.getElem?_append_left (by omega)] at hu2
                    have := ho4 j u hu2
                    rw [cell_at hg] at this
                    exact this
                  · have hj2 : j < (olds ++ us).length := (List.getElem?_eq_some_iff.1 hu2).1
                    rw [List.length_append, ho1, hlu] at hj2
                    rw [if_neg (by omega), if_pos (by omega)]
                    rw [List.getElem?_append_right (by omega), ho1] at hu2
                    rw [show (φ a.block).base + a.off + j - ((φ a.block).base + a.off + len * es0) = j - len * es0 by omega]
                    exact hu2)
              refine ⟨_, _, _, _, _, hK, blt _ _ hr, ?_, had.1, ?_⟩
              · exact sl_new (i := ⟨(φ a.block).blk, (φ a.block).base + a.off, (φ a.block).ext - a.off, es0⟩) (by simp) hrm (by simp only; omega) h0
              · refine ⟨by rw [Heap.size_push, hd]; omega, fun c hc => ?_, fun c hc => (had.2 c (hm c hc).1).1, rfl, rfl, rfl, by simp [World.setRow], fun β hβ hn => setRow_other w _ _ _ (fun q => hn a.block hwr q.symm), fun c hc => ?_⟩
                · have := hh.lt_size hc
                  unfold upd
                  rw [if_neg (by rw [hd]; omega)]
                · right
                  by_cases ec : c = H.size
                  · subst ec
                    exact ⟨a.block, hwr, by unfold upd; rw [if_pos hd.symm]⟩
                  · rw [Heap.get_push, if_neg (by rw [hd]; exact ec), Heap.get_set] at hc
                    split at hc
                    · simp [Blk.wr] at hc
                    · exact ⟨c, hc, by unfold upd; rw [if_neg (by rw [hd]; exact ec)]⟩
            · have hk := hh.kill hwr
              exact grown (H.set a.block .dead) _ len c' _ olds hk.1 hk.2 (by omega) hroom e1 ho3 ho2 (by
                simp only [Builtin.firstCells]
                rw [← ho1]
                exact run_loadCells_list w.drew _ olds (fun j v hj => by rw [add_off]; exact ho4 j v hj)) (by rw [Heap.size_set]; exact hK)
        · exact h.elim
      · rename_i a len c es
        split at h
        · rename_i cs es0 ro eb
          obtain ⟨hsp, hroom, hK1, hK2⟩ := h
          rw [es] at rs
          obtain ⟨hspot, hb0, c', e1, hc', hcap⟩ := rs.slice_inv (.inl hsp)
          have ec : c' = c := by rcases hcap with q | ⟨q, _⟩ <;> omega
          subst ec
          by_cases hrm : len + n ≤ c'
          · obtain ⟨rfl, hle, hK⟩ := hK1 hrm
            obtain ⟨arr, et', hg, hg2, hg3⟩ := hh.row _ _ _ eb
            have hr := run_append_room (P := P) (ty := ty) hu hux hsz (base := some ⟨(φ a.block).blk, (φ a.block).base + a.off, none⟩) (len := len) (cap := c') hrm hlo (hfc w rfl)
            rw [← e1] at hr
            rw [Nat.add_mul] at hle hK
            have hst := run_storeCells_at (P := P) (φ a.block).blk ((φ a.block).base + a.off + len * sz) et' us 0 arr w hg (by rw [hlu]; omega) hu1
            simp only [add_off, hst, Nat.add_zero] at hr
            rw [hlu] at hr
            simp only [Result.andThen_ok] at hr
            generalize harr : (arr.toList.take ((φ a.block).base + a.off + len * sz) ++ us ++ arr.toList.drop ((φ a.block).base + a.off + len * sz + n * sz)).toArray = arr' at hr
            have hget : ∀ j : Nat, arr'[j]? = if j < (φ a.block).base + a.off + len * sz then arr[j]? else if j < (φ a.block).base + a.off + len * sz + n * sz then us[j - ((φ a.block).base + a.off + len * sz)]? else arr[j]? := by
              intro j
              rw [← harr, List.getElem?_toArray, splice_get hlu (by simp; omega)]
              simp
            have hsize : arr'.size = arr.size := by
              rw [← harr, List.size_toArray, splice_length hlu (by simp; omega)]; simp
            have hwr := hh.write eb hg (cs.take (a.off + len * sz) ++ new ++ cs.drop (a.off + len * sz + n * sz)) arr' hsize (by rw [splice_length hln (by omega)]; exact hg3) (fun j v hj => by
              rw [splice_get hln (by omega)] at hj
              rw [hget]
              by_cases c1 : j < a.off + len * sz
              · rw [if_pos c1] at hj
                rw [if_pos (by omega)]
                obtain ⟨u, hu2, hr2⟩ := hh.cell _ _ _ _ eb j v hj
                rw [cell_at hg] at hu2
                exact ⟨u, hu2, hr2⟩
              · rw [if_neg c1] at hj
                rw [if_neg (by omega)]
                by_cases c2 : j < a.off + len * sz + n * sz
                · rw [if_pos c2] at hj
                  rw [if_pos (by omega)]
                  obtain ⟨u, hu2, hr2⟩ := hru.get hj
                  exact ⟨u, by rw [show (φ a.block).base + j - ((φ a.block).base + a.off + len * sz) = j - (a.off + len * sz) by omega]; exact hu2, hr2⟩
                · rw [if_neg c2] at hj
                  rw [if_neg (by omega)]
                  obtain ⟨u, hu2, hr2⟩ := hh.cell _ _ _ _ eb j v hj
                  rw [cell_at hg] at hu2
                  exact ⟨u, hu2, hr2⟩)
            have hK' : K (.slice (some a) (len + n) (c' + 1)) (H.set a.block (.cells (cs.take (a.off + len * sz) ++ new ++ cs.drop (a.off + len * sz + n * sz)) es0 false)) := by
              rw [Nat.add_assoc]; exact hK
            refine ⟨_, _, _, _, _, hK', blt _ _ hr, ?_, hwr.1, hwr.2⟩
            have ha2 : (⟨a.block, a.off, none⟩ : Addr) = a := by
              cases a
              simp at hspot
              simp [hspot]
            rw [← ha2]
            exact slx_mk (by unfold Heap.has; rw [Heap.get_set, if_pos rfl]; simp) hrm rfl
          · obtain ⟨hle, hK⟩ := hK2 (by omega)
            have hrange : H.range a.block a.off (len * sz) = some ((cs.drop a.off).take (len * sz)) := by unfold Heap.range; rw [eb]; simp only [if_pos hle]
            obtain ⟨olds, ho1, ho2, ho3, ho4⟩ := hh.range_get hrange
            exact grown H _ len c' _ olds hh Ok.refl (by omega) hroom e1 ho3 ho2 (by
              simp only [Builtin.firstCells]
              rw [← ho1]
              exact run_loadCells_list w.drew _ olds (fun j v hj => by rw [add_off]; exact ho4 j v hj)) hK
        · exact h.elim
      · exact h.elim
    · exact h.elim
  · exact h.elim
end
section
variable {P : Program} {e : Operand → Value} {H : Heap} {K : Value → Heap → Prop} {dst : Option Nat} {ty : TypeId} {pos : String} {af : Array Edge} {g : Option (Nat × Bool)}
theorem Holds.splice {φ : Nat → Img} {w : World} (hh : Holds φ H w) {b k : Nat} {cs : List Value} {es : Nat} (eb : H.get b = .cells cs es false) {new us : List Value} (hru : RL φ H.has new us) (h1 : oneCells new) (hk : k + new.length ≤ cs.length) :
    ∃ w', (storeCells ⟨(φ b).blk, (φ b).base + k, none⟩ us).run P w = .ok () w' ∧ Holds φ (H.set b (.cells (cs.take k ++ new ++ cs.drop (k + new.length)) es false)) w' ∧ Ok φ H w φ (H.set b (.cells (cs.take k ++ new ++ cs.drop (k + new.length)) es false)) w' := by
  obtain ⟨arr, et', hg, hg2, hg3⟩ := hh.row _ _ _ eb
  have hlu := hru.length
  have hst := run_storeCells_at (P := P) (φ b).blk ((φ b).base + k) et' us 0 arr w hg (by rw [hlu]; omega) (RL.one hru h1)
  simp only [Nat.add_zero] at hst
  rw [hlu] at hst
  generalize harr : (arr.toList.take ((φ b).base + k) ++ us ++ arr.toList.drop ((φ b).base + k + new.length)).toArray = arr' at hst
  have hget : ∀ j : Nat, arr'[j]? = if j < (φ b).base + k then arr[j]? else if j < (φ b).base + k + new.length then us[j - ((φ b).base + k)]? else arr[j]? := by
    intro j
    rw [← harr, List.getElem?_toArray, splice_get hlu (by simp; omega)]
    simp
  have hsize : arr'.size = arr.size := by
    rw [← harr, List.size_toArray, splice_length hlu (by simp; omega)]; simp
  have hwr := hh.write eb hg (cs.take k ++ new ++ cs.drop (k + new.length)) arr' hsize (by rw [splice_length rfl (by omega)]; exact hg3) (fun j v hj => by
    rw [splice_get rfl (by omega)] at hj
    rw [hget]
    by_cases c1 : j < k
    · rw [if_pos c1] at hj
      rw [if_pos (by omega)]
      obtain ⟨u, hu2, hr2⟩ := hh.cell _ _ _ _ eb j v hj
      rw [cell_at hg] at hu2
      exact ⟨u, hu2, hr2⟩
    · rw [if_neg c1] at hj
      rw [if_neg (by omega)]
      by_cases c2 : j < k + new.length
      · rw [if_pos c2] at hj
        rw [if_pos (by omega)]
        obtain ⟨u, hu2, hr2⟩ := hru.get hj
        exact ⟨u, by rw [show (φ b).base + j - ((φ b).base + k) = j - k by omega]; exact hu2, hr2⟩
      · rw [if_neg c2] at hj
        rw [if_neg (by omega)]
        obtain ⟨u, hu2, hr2⟩ := hh.cell _ _ _ _ eb j v hj
        rw [cell_at hg] at hu2
        exact ⟨u, hu2, hr2⟩)
  exact ⟨_, hst, hwr.1, hwr.2⟩
def copyK (P : Program) (dt : TypeId) (d s : Value) (H : Heap) (K : Value → Heap → Prop) : Prop :=
  match P.underlying dt with
  | some (.slice et) => match cz P et with
    | some sz => match d, s with
      | .slice (some a) dl _, .slice (some b) sl _ => match H.get a.block with
        | .cells cs es false => a.spot = none ∧ b.spot = none ∧ ∃ new, H.range b.block b.off (Nat.min sl dl * sz) = some new ∧ oneCells new ∧ a.off + Nat.min sl dl * sz ≤ cs.length ∧
            K (.int .i64 (Nat.min sl dl : Nat)) (H.set a.block (.cells (cs.take a.off ++ new ++ cs.drop (a.off + Nat.min sl dl * sz)) es false))
        | _ => False
      | .slice none 0 0, .slice none 0 0 => K (.int .i64 0) H
      | .slice none 0 0, .slice (some _) _ _ => K (.int .i64 0) H
      | .slice (some _) _ _, .slice none 0 0 => K (.int .i64 0) H
      | _, _ => False
    | none => False
  | _ => False
theorem gives_copy {d s : Operand} {dt st : TypeId} (h : copyK P dt (e d) (e s) H K) : Gives P ⟨dst, .call ⟨.builtin .copy, #[d, s], #[dt, st]⟩, ty, pos, af, g⟩ e H K := by
  refine gives_builtin fun φ ρ w hh ha cs0 => ?_
  have ha' : RA φ H.has #[e d, e s] #[ρ d, ρ s] := by simpa using ha
  obtain ⟨d', s', hq, rd, rs⟩ := ha'.two
  simp at hq
  obtain ⟨rfl, rfl⟩ := hq
  have hargs : (#[d, s].map ρ) = #[ρ d, ρ s] := by simp
  rw [hargs]
  have blt : ∀ v' w', (Builtin.copy_ #[dt, st] ty #[ρ d, ρ s]).run P w = .ok v' w' → (builtin .copy #[dt, st] ty cs0 #[ρ d, ρ s]).run P w = .ok (.value v') w' := by
    intro v' w' hr
    simp only [builtin, Sem.run_bind, hr, Result.andThen_ok, Sem.run_pure]
  unfold copyK at h
  split at h
  · rename_i et hu
    split at h
    · rename_i sz hsz
      split at h
      · rename_i a dl dc b sl sc ed es'
        split at h
        · rename_i cs es eb
          obtain ⟨hsp, hsp2, new, hr, h1, hle, hK⟩ := h
          rw [ed] at rd
          rw [es'] at rs
          obtain ⟨_, _, c1, e1, _⟩ := rd.slice_inv (.inl hsp)
          obtain ⟨_, _, c2, e2, _⟩ := rs.slice_inv (.inl hsp2)
          obtain ⟨us, hl1, hl2, hrl, hcell⟩ := hh.range_get hr
          have hfc : (Builtin.firstCells sz (Nat.min sl dl) (ρ s)).run P w = .ok us.toArray w := by
            rw [e2]
            simp only [Builtin.firstCells]
            rw [← hl1]
            exact run_loadCells_list w _ us (fun j v hj => by rw [add_off]; exact hcell j v hj)
          obtain ⟨w', hst, hh', ok'⟩ := hh.splice (P := P) (k := a.off) eb hrl h1 (by rw [hl2]; exact hle)
          rw [hl2] at hh' ok'
          refine ⟨φ, _, _, _, w', hK, blt _ _ ?_, .int _ _, hh', ok'⟩
          rw [e2] at hfc
          unfold Builtin.copy_
          simp [run_underlying hu, run_size hsz, e1, e2, Builtin.lenOf, hst, goInt]
          rw [show sl.min dl = Nat.min sl dl from rfl, hfc]
          simp [hst]
        · exact h.elim
      · rename_i ed es'
        rw [ed] at rd
        rw [es'] at rs
        obtain ⟨_, _, e1⟩ := rd.slice0_inv
        obtain ⟨_, _, e2⟩ := rs.slice0_inv
        refine ⟨φ, _, .int .i64 0, H, w, h, blt _ _ ?_, .int _ _, hh, Ok.refl⟩
        unfold Builtin.copy_
        simp [run_underlying hu, run_size hsz, e1, e2, Builtin.lenOf, goInt, Builtin.firstCells]
      · rename_i b sl sc ed es'
        rw [ed] at rd
        rw [es'] at rs
        obtain ⟨_, _, e1⟩ := rd.slice0_inv
        obtain ⟨_, c2, e2⟩ := rs.slice_shape
        refine ⟨φ, _, .int .i64 0, H, w, h, blt _ _ ?_, .int _ _, hh, Ok.refl⟩
        unfold Builtin.copy_
        simp [run_underlying hu, run_size hsz, e1, e2, Builtin.lenOf, goInt, Builtin.firstCells, loadCells, loadCellsFrom]
      · rename_i a dl dc ed es'
        rw [ed] at rd
        rw [es'] at rs
        obtain ⟨_, _, e2⟩ := rs.slice0_inv
        obtain ⟨_, c2, e1⟩ := rd.slice_shape
        refine ⟨φ, _, .int .i64 0, H, w, h, blt _ _ ?_, .int _ _, hh, Ok.refl⟩
        unfold Builtin.copy_
        simp [run_underlying hu, run_size hsz, e1, e2, Builtin.lenOf, goInt, Builtin.firstCells, storeCells]
      · exact h.elim
    · exact h.elim
  · exact h.elim
def clearK (P : Program) (dt : TypeId) (d : Value) (H : Heap) (K : Value → Heap → Prop) : Prop :=
  match P.underlying dt with
  | some (.slice et) => match zr P et, d with
    | some z, .slice (some a) n _ => match H.get a.block with
      | .cells cs es false => a.spot = none ∧ constOk z = true ∧ oneCells z.cells.toList ∧ a.off + n * z.cells.size ≤ cs.length ∧
          (n = 0 → K undef H) ∧ (n ≠ 0 → K undef (H.set a.block (.cells (cs.take a.off ++ (Builtin.zeroCells z.cells n).toList ++ cs.drop (a.off + n * z.cells.size)) es false)))
      | _ => False
    | some _, .slice none 0 0 => K undef H
    | _, _ => False
  | _ => False
theorem zeroCells_get {z : Value} {n i : Nat} {v : Value} (h : (Builtin.zeroCells z.cells n)[i]? = some v) : ∃ j : Nat, z.cells[j]? = some v := by
  unfold Builtin.zeroCells at h
  rw [Array.getElem?_map] at h
  cases hr : (Array.range (n * z.cells.size))[i]? with
  | none => rw [hr] at h; simp at h
  | some k =>
    rw [hr] at h
    simp at h
    have hk : 0 < z.cells.size := by
      have h2 := (Array.getElem?_eq_some_iff.1 hr).1
      simp at h2
      rcases Nat.eq_zero_or_pos z.cells.size with q | q
      · rw [q] at h2; simp at h2
      · exact q
    have hlt : k % z.cells.size < z.cells.size := Nat.mod_lt _ hk
    rw [getElem!_pos z.cells _ hlt] at h
    exact ⟨_, by rw [Array.getElem?_eq_getElem hlt, h]⟩
theorem gives_clear {d : Operand} {dt : TypeId} (h : clearK P dt (e d) H K) : Gives P ⟨dst, .call ⟨.builtin .clear, #[d], #[dt]⟩, ty, pos, af, g⟩ e H K := by
  refine gives_builtin fun φ ρ w hh ha cs0 => ?_
  have ha' : RA φ H.has #[e d] #[ρ d] := by simpa using ha
  obtain ⟨d', hq, rd⟩ := ha'.one
  simp at hq
  subst hq
  have hargs : (#[d].map ρ) = #[ρ d] := by simp
  rw [hargs]
  have blt : ∀ v' w', (Builtin.clear_ #[dt] ty #[ρ d]).run P w = .ok v' w' → (builtin .clear #[dt] ty cs0 #[ρ d]).run P w = .ok (.value v') w' := by
    intro v' w' hr
    simp only [builtin, Sem.run_bind, hr, Result.andThen_ok, Sem.run_pure]
  unfold clearK at h
  split at h
  · rename_i et hu
    split at h
    · rename_i z a n c hz ed
      split at h
      · rename_i cs es eb
        obtain ⟨hsp, hc, h1, hle, hK0, hK1⟩ := h
        rw [ed] at rd
        obtain ⟨_, _, c1, e1, _⟩ := rd.slice_inv (.inl hsp)
        by_cases hn : n = 0
        · subst hn
          refine ⟨φ, _, .tuple #[], H, w, hK0 rfl, blt _ _ ?_, R.undef, hh, Ok.refl⟩
          unfold Builtin.clear_
          simp [run_underlying hu, e1]
        · have hrz := R.of_const (φ := φ) (has := H.has) hc
          have hru : RL φ H.has (Builtin.zeroCells z.cells n).toList (Builtin.zeroCells z.cells n).toList := ⟨rfl, fun i x x' hx hx' => by
            rw [hx] at hx'
            injection hx' with hx'
            subst hx'
            obtain ⟨j, hj⟩ := zeroCells_get (z := z) (n := n) (i := i) (by simpa using hx)
            exact hrz.cells.2 j x x hj hj⟩
          have hone : oneCells (Builtin.zeroCells z.cells n).toList := fun v hv => by
            obtain ⟨i, hi, rfl⟩ := List.getElem_of_mem hv
            obtain ⟨j, hj⟩ := zeroCells_get (z := z) (n := n) (i := i) (v := (Builtin.zeroCells z.cells n).toList[i]) (by rw [← Array.getElem?_toList, List.getElem?_eq_getElem hi])
            exact h1 _ (by rw [Array.mem_toList_iff]; exact Array.mem_of_getElem? hj)
          have hlen : (Builtin.zeroCells z.cells n).toList.length = n * z.cells.size := by rw [Array.length_toList, size_zeroCells]
          obtain ⟨w', hst, hh', ok'⟩ := hh.splice (P := P) (k := a.off) eb hru hone (by rw [hlen]; exact hle)
          rw [hlen] at hh' ok'
          refine ⟨φ, _, undef, _, w', hK1 hn, blt _ _ ?_, R.undef, hh', ok'⟩
          unfold Builtin.clear_
          obtain ⟨m, rfl⟩ : ∃ m, n = m + 1 := ⟨n - 1, by omega⟩
          simp [run_underlying hu, e1, run_zero hz, hst, undef]
      · exact h.elim
    · rename_i z hz ed
      rw [ed] at rd
      obtain ⟨_, _, e1⟩ := rd.slice0_inv
      refine ⟨φ, _, .tuple #[], H, w, h, blt _ _ ?_, R.undef, hh, Ok.refl⟩
      unfold Builtin.clear_
      simp [run_underlying hu, e1]
    · exact h.elim
  · exact h.elim
/-! ### Calls of functions -/
theorem AOp.call {P : Program} {m : Nat} {c : Operand} {args : Array Operand} {ats : Array TypeId} {K : Fr → Heap → Prop} {A : Fr} (hd : dstOk m dst = true) (hx : (c :: args.toList).all opndOk = true)
    {f : FuncId} {xs ys : Array Value} (hf : ev A c = .func (.func f) xs ys) (h : ACalls P f (xs.toList ++ args.toList.map (ev A) ++ ys.toList) H fun v H' => K (put A dst v) H') : AOp P m ⟨dst, .call ⟨.value c, args, ats⟩, ty, pos, af, g⟩ K A H := by
  intro φ a w Kc Qc hs hk
  have hall : ∀ x ∈ #[c] ++ args, opndOk x = true := by
    intro x hm
    refine List.all_eq_true.1 hx x ?_
    simpa using hm
  have hc := hs.ev (hall c (by simp))
  rw [hf] at hc
  obtain ⟨xs', ys', hc2, rx, ry⟩ : ∃ xs' ys', a.eval c = .func (.func f) xs' ys' ∧ RA φ H.has xs xs' ∧ RA φ H.has ys ys' := by
    generalize a.eval c = u at hc
    cases hc with
    | func _ _ _ xs' ys' h1 h2 hx hy => exact ⟨xs', ys', rfl, ⟨h1, hx⟩, ⟨h2, hy⟩⟩
  have hargs := RA.map (φ := φ) (has := H.has) args (ev A) a.eval (fun x hm => hs.ev (hall x (by simp [hm])))
  have hargs2 : RA φ H.has (xs.toList ++ args.toList.map (ev A) ++ ys.toList).toArray (xs' ++ args.map a.eval ++ ys') := by
    have := (rx.append hargs).append ry
    have e : (xs.toList ++ args.toList.map (ev A) ++ ys.toList).toArray = xs ++ args.map (ev A) ++ ys := by apply Array.toList_inj.1; simp
    rw [e]; exact this
  have hcall := h.2 φ (xs' ++ args.map a.eval ++ ys') w hs.holds hargs2
  unfold Oper.wp
  have hrun : (execOp a.eval ⟨dst, .call ⟨.value c, args, ats⟩, ty, pos, af, g⟩).run P w = .ok (.enter f (xs' ++ args.map a.eval ++ ys')) w := by
    simp only [execOp, resolve, hc2, Deferred.ofValue, Sem.run_bind, Sem.run_pure, Result.andThen_ok, invoke]
    exact h.1 _ w
  rw [hrun]
  simp only [Oper.upon]
  refine hcall.mono ?_
  rintro e w' ⟨φ', v, v', H', rfl, hK, hr, hh', ok'⟩
  exact hk _ _ _ _ _ hK ((hs.step ok' hh').put hd hr) ok'
end
/-! ### A function's body -/
section
variable {P : Program}
def aresK (P : Program) : List ResultVar → Fr → Heap → (List Value → Prop) → Prop
  | [], A, H, K => K []
  | .tmp t :: rs, A, H, K => aresK P rs A H fun vs => K (A t :: vs)
  | .cell t ty :: rs, A, H, K => loadK P ty H (A t) fun v => aresK P rs A H fun vs => K (v :: vs)
def retv (vs : List Value) : Value :=
  match vs with
  | [v] => v
  | vs => .tuple vs.toArray
def aret (P : Program) (rs : List ResultVar) (Q : Value → Heap → Prop) : Exit → Fr → Heap → Prop
  | .normal, A, H => aresK P rs A H fun vs => Q (retv vs) H
  | .ret, A, H => aresK P rs A H fun vs => Q (retv vs) H
  | _, _, _ => False
theorem loadK_run {φ : Nat → Img} {H : Heap} {w : World} (hh : Holds φ H w) {t : TypeId} {x u : Value} {K : Value → Prop} (hr : R φ H.has x u) (h : loadK P t H x K) : ∃ v v', K v ∧ (do loadVar t (← asAddr u) : Sem Value).run P w = .ok v' w ∧ R φ H.has v v' := by
  unfold loadK at h
  split at h
  · rename_i a
    obtain ⟨_, _, e1⟩ := hr.ptr_inv
    split at h
    · rename_i ht
      obtain ⟨v, hv, hK⟩ := h
      obtain ⟨u', hu1, hu2⟩ := hh.cell_get hv
      exact ⟨v, u', hK, by simp [e1, asAddr, run_loadVar1 ht hu1], hu2⟩
    · rename_i n ht
      obtain ⟨cs, hv, hK⟩ := h
      obtain ⟨us, hl, _, hr2, hc⟩ := hh.range_get hv
      have := run_loadVarN (w := w) ht (a := ⟨(φ a.block).blk, (φ a.block).base + a.off, none⟩) hl (fun j v hj => by rw [add_off]; exact hc j v hj)
      exact ⟨_, .agg us.toArray, hK, by simp [e1, asAddr, this], R.agg_mk hr2.toArray⟩
    · exact h.elim
  · exact h.elim
def resOf (tmps : Array Value) : ResultVar → Sem Value
  | .tmp t => pure (tmps.getD t undef)
  | .cell x t => do loadVar t (← asAddr (tmps.getD x undef))
theorem ares_run {m : Nat} {φ : Nat → Img} {A : Fr} {H : Heap} {a : Act} {w : World} (hs : St m φ A H a w) : ∀ (rs : List ResultVar) (K : List Value → Prop), aresK P rs A H K →
    ∃ vs vs', K vs ∧ (rs.mapM (resOf a.tmps)).run P w = .ok vs' w ∧ RL φ H.has vs vs'
  | [], K, h => ⟨[], [], h, by simp, RL.nil⟩
  | .tmp t :: rs, K, h => by
    obtain ⟨vs, vs', h1, h2, h3⟩ := ares_run hs rs _ h
    refine ⟨_, a.tmps.getD t undef :: vs', h1, ?_, RL.cons (hs.get t) h3⟩
    rw [List.mapM_cons]
    have h0 : (resOf a.tmps (.tmp t)).run P w = .ok (a.tmps.getD t undef) w := rfl
    simp only [Sem.run_bind, Sem.run_pure, Result.andThen_ok, h0, h2]
  | .cell t ty :: rs, K, h => by
    obtain ⟨v, v', hK, hrun, hr⟩ := loadK_run hs.holds (hs.get t) h
    obtain ⟨vs, vs', h1, h2, h3⟩ := ares_run hs rs _ hK
    refine ⟨_, v' :: vs', h1, ?_, RL.cons hr h3⟩
    rw [List.mapM_cons]
    have h0 : (resOf a.tmps (.cell t ty)).run P w = .ok v' w := hrun
    simp only [Sem.run_bind, h0, Sem.run_pure, Result.andThen_ok, h2]
theorem aret_post {m : Nat} {fn : Func} {Q : Value → Heap → Prop} {R' : Ending → World → Prop} {φ : Nat → Img} {A : Fr} {H : Heap} {a : Act} {w : World} (hs : St m φ A H a w) (h : aresK P fn.results.toList A H fun vs => Q (retv vs) H)
    (hR : ∀ v v', Q v H → R φ H.has v v' → R' (.returned v') w) : ∃ v, (results fn a.tmps).run P w = .ok v w ∧ R' (.returned v) w := by
  obtain ⟨vs, vs', h1, h2, h3⟩ := ares_run (P := P) hs _ _ h
  have hlen := h3.1
  refine ⟨retv vs', ?_, hR _ _ h1 ?_⟩
  · unfold results
    have h2' : (fn.results.mapM (resOf a.tmps)).run P w = .ok vs'.toArray w := by
      rw [Array.mapM_eq_mapM_toList, Sem.run_map, h2]
      rfl
    rw [Sem.run_bind]
    refine (congrArg (fun r => Result.andThen r _) h2').trans ?_
    simp only [Result.andThen_ok, Sem.run_pure]
    congr 1
    match vs' with
    | [] => rfl
    | [v] => rfl
    | v :: u :: l => simp [retv]
  · match vs, vs', h3 with
    | [], [], _ => exact R.undef
    | [v], [v'], h3 => exact h3.2 0 v v' rfl rfl
    | v :: u :: l, v' :: u' :: l', h3 => exact R.tuple_mk h3.toArray
theorem ACalls.body {f : FuncId} {fn : Func} {c : Code} {m : Nat} {rs : List ResultVar} {args : List Value} {H : Heap} {Q : Value → Heap → Prop} (hf : P.funcs[f]? = some fn) (hb : fn.body = some c) (hm : fn.ntmps = m) (hrs : fn.results.toList = rs) (hle : args.length ≤ m) (hn : (fn.name == "runtime.NumGoroutine") = false)
    (h' : ∀ Q' : Value → Heap → Prop, Cont (∀ v H', Q v H' → Q' v H') → ∀ A : Fr, (∀ (t : Nat) (v : Value) (r : List Value), args.drop t = v :: r → A t = v) → AWp P m c (aret P rs Q') A H) : ACalls P f args H Q := by
  have h := h' Q (fun _ _ h => h)
  refine ⟨fun args w => ?_, fun φ args' w hh ha => ?_⟩
  · have hn' : ¬ fn.name = "runtime.NumGoroutine" := by simpa using hn
    simp [callFunc, hf, hb, hn']
  refine calls_of_wp hf hb ?_
  have hsz : args.length = args'.size := by simpa using ha.1
  have hst : St m φ (fun t => args.getD t undef) H { tmps := args' ++ Array.replicate (fn.ntmps - args'.size) undef, defers := [] } w := by
    refine ⟨rfl, by simp [hm]; omega, fun t v' ht => ?_, fun t ht => ?_, hh⟩
    · by_cases hlt : t < args'.size
      · rw [Array.getElem?_append_left hlt] at ht
        have hlt2 : t < args.length := by omega
        have := ha.2 t args[t] v' (by simp [hlt2]) ht
        simpa [hlt2] using this
      · rw [Array.getElem?_append_right (by omega)] at ht
        have : v' = undef := by
          rw [Array.getElem?_replicate] at ht
          split at ht
          · injection ht with ht; exact ht.symm
          · simp at ht
        subst this
        have hge : args.length ≤ t := by omega
        simp [List.getElem?_eq_none hge]
        exact R.undef
    · have hge : args.length ≤ t := by omega
      simp [List.getElem?_eq_none hge]
  have hA : ∀ (t : Nat) (v : Value) (r : List Value), args.drop t = v :: r → (fun t => args.getD t undef) t = v := fun t v r ht => by
    have h1 : (args.drop t)[0]? = some v := by rw [ht]; rfl
    rw [List.getElem?_drop] at h1
    simp only [Nat.add_zero] at h1
    simp [h1]
  refine wp_mono (h _ hA φ _ w hst) ?_
  rintro e a' w' ⟨φ', A', H', hq, hs', ok'⟩
  have fin : aresK P fn.results.toList A' H' (fun vs => Q (retv vs) H') → ∃ v, (results fn a'.tmps).run P w' = .ok v w' ∧ (∃ φ' v0 v'' H'', Ending.returned v = .returned v'' ∧ Q v0 H'' ∧ R φ' H''.has v0 v'' ∧ Holds φ' H'' w' ∧ Ok φ H w φ' H'' w') := fun h0 =>
    aret_post (R' := fun e w' => ∃ φ' v v' H', e = .returned v' ∧ Q v H' ∧ R φ' H'.has v v' ∧ Holds φ' H' w' ∧ Ok φ H w φ' H' w') hs' h0 (fun v v' hQ hr => ⟨φ', v, v', H', rfl, hQ, hr, hs'.holds, ok'⟩)
  rw [hrs] at fin
  cases e with
  | normal => exact ⟨hs'.defers, fin hq⟩
  | ret => exact ⟨hs'.defers, fin hq⟩
  | exit id => exact hq.elim
  | goto l => exact hq.elim
  | panic c => exact hq.elim
  | outgrown => exact hq.elim
end
/-! ### Regions that draw their order -/
section
variable {P : Program} {m : Nat} {ops : Array Oper}
abbrev HeldL := List (Nat × Nat × Value)
def heldIn (held : HeldL) (H : Heap) : Prop := ∀ h ∈ held, H.cell h.1 h.2.1 = some h.2.2
/-- The worlds in which the cells that are held are as they were. -/
def SH (φ : Nat → Img) (H : Heap) (held : HeldL) (w : World) : Prop := ∃ φ' H', Holds φ' H' w ∧ (∀ b, H.has b → H'.has b ∧ φ' b = φ b) ∧ heldIn held H'
theorem wpAnyH_mono {md : Region.Mode} {Q : Exit → Act → World → Prop} {S S' : World → Prop} (hS : ∀ w, S' w → S w) : ∀ (fuel : Nat) (listed : Array Bool) (a : Act) (w : World), wpAnyH P md ops Q S' fuel listed a w → wpAnyH P md ops Q S fuel listed a w
  | 0, _, _, _, h => h
  | fuel + 1, listed, a, w, h => ⟨h.1, fun i hi => wpOp_mono (fun a' w' h' => ⟨hS _ h'.1, wpAnyH_mono hS fuel _ a' w' h'.2⟩) (h.2 i hi)⟩
def ADr (P : Program) (m : Nat) (ops : Array Oper) (fuel : Nat) (listed : Array Bool) (held : HeldL) (K : Fr → Heap → Prop) (A : Fr) (H : Heap) : Prop :=
  ∀ (φ : Nat → Img) (a : Act) (w : World) (Qc : Exit → Act → World → Prop), St m φ A H a w → heldIn held H → (∀ c a w, ¬ Qc (.panic c) a w) →
    (∀ φ' A' H' a' w', K A' H' → St m φ' A' H' a' w' → Ok φ H w φ' H' w' → Qc .normal a' w') → wpAnyH P .any ops Qc (SH φ H held) fuel listed a w
variable {fuel : Nat} {listed : Array Bool} {held : HeldL} {K : Fr → Heap → Prop} {A : Fr} {H : Heap}
theorem SH.self {φ : Nat → Img} {w : World} (hh : Holds φ H w) (hl : heldIn held H) : SH φ H held w := ⟨φ, H, hh, fun b hb => ⟨hb, rfl⟩, hl⟩
theorem AWp.draw {id : Nat} {l : List Oper} {n : Nat} {ls : Array Bool} {Q : Exit → Fr → Heap → Prop} (hm : P.follows .mixedOrders = true) (hn : l.length = n) (hls : Array.replicate n false = ls) (h : ADr P m l.toArray n ls [] (Q .normal) A H) : AWp P m (.region id l.toArray true) Q A H := by
  intro φ a w hs
  subst hn hls
  have hs1 : St m φ A H a { w with drawn := w.drawn + 1 } := ⟨hs.defers, hs.size, hs.tmp, hs.out, hs.holds.drew _⟩
  have hw : (Code.region id l.toArray true).wp P (fun e a' w' => match e with | .normal => ∃ φ' A' H', Q .normal A' H' ∧ St m φ' A' H' a' w' ∧ Ok φ H w φ' H' w' | _ => False) a w := by
    refine wp_region_held (S := SH φ H []) hm ?_
    have := h φ a { w with drawn := w.drawn + 1 } (fun e a' w' => match e with | .normal => ∃ φ' A' H', Q .normal A' H' ∧ St m φ' A' H' a' w' ∧ Ok φ H w φ' H' w' | _ => False) hs1 (by intro h hh; simp at hh) (fun _ _ _ h => h)
      (fun φ' A' H' a' w' q s ok => ⟨φ', A', H', q, s, Ok.drew _ ok⟩)
    simpa using this
  refine wp_mono hw ?_
  intro e a' w' hq
  cases e with
  | normal => exact hq
  | _ => exact hq.elim
theorem ADr.done (hr : Region.ready .any ops listed = []) (h : K A H) : ADr P m ops fuel listed held K A H :=
  fun φ a w Qc hs hl hp hk => wpAnyH_done hr (hk φ A H a w h hs Ok.refl) _
/-- A cell that nobody in this region writes. -/
theorem ADr.hold (b o : Nat) (v : Value) (hc : H.cell b o = some v) (h : ADr P m ops fuel listed ((b, o, v) :: held) K A H) : ADr P m ops fuel listed held K A H := by
  intro φ a w Qc hs hl hp hk
  have hl' : heldIn ((b, o, v) :: held) H := by
    intro x hx
    rcases List.mem_cons.1 hx with rfl | hx
    · exact hc
    · exact hl x hx
  refine wpAnyH_mono ?_ _ _ _ _ (h φ a w Qc hs hl' hp hk)
  rintro w' ⟨φ', H', h1, h2, h3⟩
  exact ⟨φ', H', h1, h2, fun x hx => h3 x (List.mem_cons_of_mem _ hx)⟩
theorem ADr.take (i : Nat) {o : Oper} (hi : ops[i]? = some o) (hsel : Region.noSelect ops = true) (hfree : Region.free .any ops listed i = true) (hrdy : (Region.ready .any ops listed).contains i = true)
    (hd : dstOk m o.dst = true) (hx : o.op.operands.toList.all opndOk = true) (hg : o.guard = none) (v : Value) (hv : ∀ H', heldIn held H' → (∀ b, H.has b → H'.has b) → PGives P o (ev A) H' (fun x => x = v))
    (h : ADr P m ops fuel (listed.setIfInBounds i true) held K (put A o.dst v) H) : ADr P m ops (fuel + 1) listed held K A H := by
  intro φ a w Qc hs hl hp hk
  have hall : ∀ x ∈ o.op.operands, R φ H.has (ev A x) (a.eval x) := fun x hm => hs.ev (by
    exact List.all_eq_true.1 hx _ (Array.mem_toList_iff.2 hm))
  obtain ⟨v0, v', rfl, hrun, hr⟩ := hv H hl (fun _ h => h) φ a.eval w hs.holds hall
  refine wpAnyH_take (v := v') hi hsel hfree hrdy (fun c a w q => (hp c _ _ q).elim) (.inl ⟨by simp [Region.wanted, hg], ?_⟩) (SH.self hs.holds hl) ?_
  · rintro w' ⟨φ', H', h1, h2, h3⟩
    obtain ⟨v1, v1', e1, hrun1, hr1⟩ := hv H' h3 (fun b hb => (h2 b hb).1) φ' a.eval w' h1 (fun x hm => (hall x hm).mono h2)
    rw [hrun1]
    have := (hr.mono h2).det (e1 ▸ hr1)
    rw [this]
  · exact h φ (a.put o.dst v') w Qc (hs.put hd hr) hl hp hk
theorem ADr.takeB (i : Nat) {o : Oper} (hi : ops[i]? = some o) (hsel : Region.noSelect ops = true) (hfree : Region.free .any ops listed i = true) (hrdy : (Region.ready .any ops listed).contains i = true)
    (hd : dstOk m o.dst = true) (hx : o.op.operands.toList.all opndOk = true) (hg : o.guard = none) (h : PGivesB P o (ev A) H (fun v => ADr P m ops fuel (listed.setIfInBounds i true) held K (put A o.dst v) H)) : ADr P m ops (fuel + 1) listed held K A H := by
  intro φ a w Qc hs hl hp hk
  have hall : ∀ x ∈ o.op.operands, R φ H.has (ev A x) (a.eval x) := fun x hm => hs.ev (by
    exact List.all_eq_true.1 hx _ (Array.mem_toList_iff.2 hm))
  obtain ⟨v0, v', hK, hrun, hr⟩ := h φ a.eval w hs.holds hall
  refine wpAnyH_take (v := v') hi hsel hfree hrdy (fun c a w q => (hp c _ _ q).elim) (.inl ⟨by simp [Region.wanted, hg], fun w' _ => hrun w'⟩) (SH.self hs.holds hl) ?_
  exact hK φ (a.put o.dst v') w Qc (hs.put hd hr) hl hp hk
/-- A guarded operation that does not come up. -/
theorem ADr.pass (i : Nat) {o : Oper} (hi : ops[i]? = some o) (hsel : Region.noSelect ops = true) (hfree : Region.free .any ops listed i = true) (hrdy : (Region.ready .any ops listed).contains i = true)
    (hd : dstOk m o.dst = true) {j : Nat} {want : Bool} {t : Nat} (hg : o.guard = some (j, want)) (ht : (ops[j]?).bind (·.dst) = some t) (htm : decide (t < m) = true) (hA : A t = .bool (!want) ∨ A t = undef)
    (h : ADr P m ops fuel (listed.setIfInBounds i true) held K (put A o.dst undef) H) : ADr P m ops (fuel + 1) listed held K A H := by
  intro φ a w Qc hs hl hp hk
  have hsz : t < a.tmps.size := by rw [hs.size]; exact of_decide_eq_true htm
  have hr := hs.get t
  have e1 : a.tmps.getD t undef = A t := by
    rcases hA with hA | hA
    · rw [hA] at hr ⊢; exact hr.bool_inv
    · rw [hA] at hr ⊢; exact R.undef.det hr |>.symm
  have e2 : a.tmps[t]? = some (A t) := by
    rw [Array.getElem?_eq_getElem hsz, ← e1]
    simp [hsz]
  have hw : Region.wanted o (yielded ops a.tmps) = false := by
    unfold Region.wanted
    rw [hg]
    simp only [yielded, ht, Option.bind_some, e2]
    rcases hA with hA | hA
    · rw [hA]; cases want <;> rfl
    · rw [hA]; cases want <;> rfl
  refine wpAnyH_take (v := undef) hi hsel hfree hrdy (fun c a w q => (hp c _ _ q).elim) (.inr ⟨hw, rfl⟩) (SH.self hs.holds hl) ?_
  exact h φ (a.put o.dst undef) w Qc (hs.put hd R.undef) hl hp hk
theorem ADr.takeg (i : Nat) {o : Oper} (hi : ops[i]? = some o) (hsel : Region.noSelect ops = true) (hfree : Region.free .any ops listed i = true) (hrdy : (Region.ready .any ops listed).contains i = true)
    (hd : dstOk m o.dst = true) (hx : o.op.operands.toList.all opndOk = true) {j : Nat} {want : Bool} {t : Nat} (hg : o.guard = some (j, want)) (ht : (ops[j]?).bind (·.dst) = some t) (htm : decide (t < m) = true) (hA : A t = .bool want)
    (v : Value) (hv : ∀ H', heldIn held H' → (∀ b, H.has b → H'.has b) → PGives P o (ev A) H' (fun x => x = v))
    (h : ADr P m ops fuel (listed.setIfInBounds i true) held K (put A o.dst v) H) : ADr P m ops (fuel + 1) listed held K A H := by
  intro φ a w Qc hs hl hp hk
  have hsz : t < a.tmps.size := by rw [hs.size]; exact of_decide_eq_true htm
  have hrb := hs.get t
  rw [hA] at hrb
  have e2 : a.tmps[t]? = some (.bool want) := by
    rw [Array.getElem?_eq_getElem hsz]
    have : a.tmps.getD t undef = a.tmps[t] := by simp [hsz]
    rw [this] at hrb
    rw [hrb.bool_inv]
  have hw : Region.wanted o (yielded ops a.tmps) = true := by
    unfold Region.wanted
    rw [hg]
    simp only [yielded, ht, Option.bind_some, e2]
    cases want <;> rfl
  have hall : ∀ x ∈ o.op.operands, R φ H.has (ev A x) (a.eval x) := fun x hm => hs.ev (by
    exact List.all_eq_true.1 hx _ (Array.mem_toList_iff.2 hm))
  obtain ⟨v0, v', rfl, hrun, hr⟩ := hv H hl (fun _ h => h) φ a.eval w hs.holds hall
  refine wpAnyH_take (v := v') hi hsel hfree hrdy (fun c a w q => (hp c _ _ q).elim) (.inl ⟨hw, ?_⟩) (SH.self hs.holds hl) ?_
  · rintro w' ⟨φ', H', h1, h2, h3⟩
    obtain ⟨v1, v1', e1, hrun1, hr1⟩ := hv H' h3 (fun b hb => (h2 b hb).1) φ' a.eval w' h1 (fun x hm => (hall x hm).mono h2)
    rw [hrun1]
    have := (hr.mono h2).det (e1 ▸ hr1)
    rw [this]
  · exact h φ (a.put o.dst v') w Qc (hs.put hd hr) hl hp hk
/-- The one operation that may come up: it may act; the cells that are held are to be shown anew. -/
theorem ADr.act (i : Nat) {o : Oper} (hi : ops[i]? = some o) (hrdy : Region.ready .any ops listed = [i]) (hg : o.guard = none)
    (h : AOp P m o (fun A' H' => heldIn held H' ∧ ADr P m ops fuel (listed.setIfInBounds i true) held K A' H') A H) : ADr P m ops (fuel + 1) listed held K A H := by
  intro φ a w Qc hs hl hp hk
  refine wpAnyH_all hrdy (by simp) ?_
  intro j hj
  have : j = i := by simpa using hj
  subst this
  unfold wpOp
  rw [hi]
  simp only
  rw [if_pos (by simp [Region.wanted, hg])]
  refine .inl (h φ a w _ _ hs ?_)
  rintro φ' A' H' a' w' ⟨hl', hA'⟩ hs' ok'
  refine ⟨⟨φ', H', hs'.holds, ok'.mono, hl'⟩, wpAnyH_mono ?_ _ _ _ _ (hA' φ' a' w' Qc hs' hl' hp (fun φ2 A2 H2 a2 w2 q2 s2 ok2 => hk φ2 A2 H2 a2 w2 q2 s2 (ok'.trans ok2)))⟩
  rintro w2 ⟨φ2, H2, h1, h2, h3⟩
  exact ⟨φ2, H2, h1, fun b hb => ⟨(h2 b (ok'.has b hb)).1, (h2 b (ok'.has b hb)).2.trans (ok'.img b hb)⟩, h3⟩
end
/-! ### One operation, whichever -/
section
variable {P : Program}
def pstep (P : Program) (o : Oper) (e : Operand → Value) (H : Heap) (K : Value → Prop) : Prop :=
  match o.op with
  | .move x => K (e x)
  | .assign x => K (e x)
  | .pick c x y => asBoolK (e c) fun b => K (if b = true then e x else e y)
  | .load t x => loadK P t H (e x) K
  | .binOp op t x y _ => binK P op t (e x) (e y) K
  | .unOp op _ x => unK op (e x) K
  | .convert s d x => convK P s d (e x) K
  | .makeFunc fn first cap => K (.func fn (first.map e) (cap.map e))
  | .fieldAddr s x f => fieldAddrK P s f (e x) K
  | .field s x f => fieldK P s f (e x) K
  | .indexAddr t x i => indexAddrK P t (e x) (e i) K
  | .index t x i => indexK P t (e x) (e i) K
  | .extract x i => extractK i (e x) K
  | .nilCheck x => nilK (e x) K
  | .slice t x lo hi mx => sliceK P t H (e x) (lo.map e) (hi.map e) (mx.map e) K
  | .build t parts => buildK P t (parts.map fun (i, x) => (i, e x)) K
  | .call c => match c.callee, c.args.toList, c.argTypes.toList with
    | .builtin .len, [x], [t] => lenK P t (e x) H K
    | .builtin .min, [x, y], _ => mnK (fun a b => if b < a then b else a) (e x) (e y) K
    | .builtin .max, [x, y], _ => mnK (fun a b => if b > a then b else a) (e x) (e y) K
    | _, _, _ => False
  | _ => False
where
  mnK (f : Int → Int → Int) (x y : Value) (K : Value → Prop) : Prop :=
    match x, y with
    | .int k a, .int k' b => k = k' ∧ K (.int k (f a b))
    | _, _ => False
theorem toList_one {α : Type} {xs : Array α} {x : α} (h : xs.toList = [x]) : xs = #[x] := by cases xs; simp at h; simp [h]
theorem toList_two {α : Type} {xs : Array α} {x y : α} (h : xs.toList = [x, y]) : xs = #[x, y] := by cases xs; simp at h; simp [h]
theorem pgives_step {o : Oper} {e : Operand → Value} {H : Heap} {K : Value → Prop} (h : pstep P o e H K) : PGives P o e H K := by
  obtain ⟨dst, op, ty, pos, af, g⟩ := o
  unfold pstep at h
  cases op with
  | move x => exact pg_move h
  | assign x => exact pg_assign h
  | pick c x y => exact pg_pick h
  | load t x => exact pg_load h
  | binOp op t x y yt => exact pg_bin h
  | unOp op t x => exact pg_un h
  | convert s d x => exact pg_conv h
  | makeFunc fn first cap => exact pg_func h
  | fieldAddr s x f => exact pg_fieldAddr h
  | field s x f => exact pg_field h
  | indexAddr t x i => exact pg_indexAddr h
  | index t x i => exact pg_index h
  | extract x i => exact pg_extract h
  | nilCheck x => exact pg_nil h
  | slice t x lo hi mx => exact pg_slice h
  | build t parts => exact pg_build h
  | call c =>
    obtain ⟨callee, args, ats⟩ := c
    simp only at h
    split at h
    · rename_i x t h1 h2
      rw [toList_one h1, toList_one h2]
      exact pg_len h
    · rename_i x y l h1
      rw [toList_two h1]
      unfold pstep.mnK at h
      split at h
      · rename_i k a k' b ex ey
        obtain ⟨rfl, hK⟩ := h
        exact pg_min2 ex ey hK
      · exact h.elim
    · rename_i x y l h1
      rw [toList_two h1]
      unfold pstep.mnK at h
      split at h
      · rename_i k a k' b ex ey
        obtain ⟨rfl, hK⟩ := h
        exact pg_max2 ex ey hK
      · exact h.elim
    · exact h.elim
  | _ => exact h.elim
def callK (P : Program) (f : Value) (args : List Value) (H : Heap) (K : Value → Heap → Prop) : Prop :=
  match f with
  | .func (.func f) xs ys => ACalls P f (xs.toList ++ args ++ ys.toList) H K
  | _ => False
def astep (P : Program) (o : Oper) (e : Operand → Value) (H : Heap) (K : Value → Heap → Prop) : Prop :=
  match o.op with
  | .box _ x => K (.pointer (some ⟨H.size, 0, none⟩)) (H.push (.cells (e x).cells.toList 1 false))
  | .alloc t => allocK P t H K
  | .store t x y => storeK P t H (e x) (e y) fun H' => K undef H'
  | .buildSlice t n parts => buildSliceK P t n (parts.map fun (i, x) => (i, e x)) H K
  | .makeSlice t l c => makeSliceK P t (e l) (e c) H K
  | .makeMap _ none => K (.map (some H.size)) (H.push (.map []))
  | .lookup t x i ok => lookupK P t (e x) (e i) ok H fun v => K v H
  | .mapUpdate t m k x => mapPutK P t (e m) (e k) (e x) H fun H' => K undef H'
  | .call c => match c.callee, c.args.toList, c.argTypes.toList with
    | .builtin .append, [s, x], [st, xt] => appendK P st xt (e s) (e x) H K
    | .builtin .copy, [s, x], [st, _] => copyK P st (e s) (e x) H K
    | .builtin .clear, [s], [st] => clearK P st (e s) H K
    | .value f, args, _ => callK P (e f) (args.map e) H K
    | _, _, _ => pstep P o e H fun v => K v H
  | _ => pstep P o e H fun v => K v H
theorem AOp.step {m : Nat} {o : Oper} {K : Fr → Heap → Prop} {A : Fr} {H : Heap} (hd : dstOk m o.dst = true) (hx : o.op.operands.toList.all opndOk = true) (h : astep P o (ev A) H fun v H' => K (put A o.dst v) H') : AOp P m o K A H := by
  have pg : Gives P o (ev A) H (fun v H' => K (put A o.dst v) H') → AOp P m o K A H := AOp.of_gives hd hx
  obtain ⟨dst, op, ty, pos, af, g⟩ := o
  unfold astep at h
  cases op with
  | box t x => exact pg (gives_box h)
  | alloc t => exact pg (gives_alloc h)
  | store t x y => exact pg (gives_store h)
  | buildSlice t n parts => exact pg (gives_buildSlice h)
  | makeSlice t l c => exact pg (gives_makeSlice h)
  | makeMap t r => cases r with
    | none => exact pg (gives_makeMap h)
    | some r => exact pg (pgives_step h).gives
  | lookup t x i ok => exact pg (gives_lookup h)
  | mapUpdate t m k x => exact pg (gives_mapPut h)
  | call c =>
    obtain ⟨callee, args, ats⟩ := c
    simp only at h
    split at h
    · rename_i s x st xt h1 h2
      have e1 := toList_two h1
      have e2 := toList_two h2
      subst e1 e2
      exact pg (gives_append h)
    · rename_i s x st xt h1 h2
      have e1 := toList_two h1
      have e2 := toList_two h2
      subst e1 e2
      exact pg (gives_copy h)
    · rename_i s st h1 h2
      have e1 := toList_one h1
      have e2 := toList_one h2
      subst e1 e2
      exact pg (gives_clear h)
    · rename_i f l
      unfold callK at h
      split at h
      · rename_i fid xs ys ef
        refine AOp.call hd ?_ ef h
        simp only [Op.operands, Call.operands, Array.toList_append] at hx
        simpa using hx
      · exact h.elim
    · exact pg (pgives_step h).gives
  | _ => exact pg (pgives_step h).gives
theorem AOps.cons1 {m : Nat} {ops : Array Oper} {o : Oper} {rest : List Oper} {K : Fr → Heap → Prop} {A : Fr} {H : Heap} (hg : o.guard = none) (hd : dstOk m o.dst = true) (hx : o.op.operands.toList.all opndOk = true)
    (h : ∀ K' : Value → Heap → Prop, Cont (∀ v H', AOps P m ops rest K (put A o.dst v) H' → K' v H') → astep P o (ev A) H K') : AOps P m ops (o :: rest) K A H :=
  AOps.cons hg fun K' hK' => AOp.step hd hx (h _ fun v H' q => hK' _ _ q)
end
/-! ### A region that draws, by a plan: what is pure is taken as soon as it may come up -/
section
variable {P : Program}
/-- The operations that look at no memory. -/
def pure0 (o : Op) : Bool :=
  match o with
  | .move _ | .assign _ | .pick _ _ _ | .binOp _ _ _ _ _ | .unOp _ _ _ | .convert _ _ _ | .makeFunc _ _ _ | .fieldAddr _ _ _ | .field _ _ _ | .indexAddr _ _ _ | .index _ _ _ | .extract _ _ | .nilCheck _ | .build _ _ => true
  | .call c => match c.callee, c.args.toList, c.argTypes.toList with
    | .builtin .len, [_], [_] => true
    | .builtin .min, [_, _], _ => true
    | .builtin .max, [_, _], _ => true
    | _, _, _ => false
  | _ => false
def isLoad (o : Op) : Bool :=
  match o with
  | .load _ _ => true
  | .slice _ _ _ _ _ => true
  | _ => false
def pstep0 (P : Program) (o : Oper) (e : Operand → Value) (K : Value → Prop) : Prop := pstep P o e ⟨0, fun _ => .absent⟩ K
theorem pstep0_any {o : Oper} {e : Operand → Value} {K : Value → Prop} (hp : pure0 o.op = true) (h : pstep0 P o e K) (H : Heap) : pstep P o e H K := by
  obtain ⟨dst, op, ty, pos, af, g⟩ := o
  unfold pstep0 pstep at h
  unfold pstep
  cases op with
  | call c =>
    obtain ⟨callee, args, ats⟩ := c
    simp only [pure0] at hp h ⊢
    revert h
    split at hp
    · rename_i x t h1 h2
      intro h
      simp only [lenK] at h ⊢
      split at h
      · exact h
      · exact h
      · exact h
      · unfold mapOf at h ⊢
        split at h
        · exact h
        · exact h.elim
        · exact h.elim
      · exact h.elim
    · rename_i x y l h1
      intro h
      exact h
    · rename_i x y l h1
      intro h
      exact h
    · simp at hp
  | load t x => simp [pure0] at hp
  | slice t x lo hi mx => simp [pure0] at hp
  | _ => first | exact h | exact h.elim
/-- Which value it is. -/
theorem pstep0_det {o : Oper} {e : Operand → Value} {K : Value → Prop} (hp : pure0 o.op = true) (h : pstep0 P o e K) : ∃ v, K v ∧ pstep0 P o e (fun x => x = v) := by
  obtain ⟨dst, op, ty, pos, af, g⟩ := o
  unfold pstep0 pstep at h ⊢
  have pk : ∀ {k : Option Nat} {cs : Array Value} {off : Nat}, partK k cs off K → ∃ v, K v ∧ partK k cs off (fun x => x = v) := by
    intro k cs off h
    unfold partK at h ⊢
    cases k with
    | none => obtain ⟨v, hv, hK⟩ := h; exact ⟨v, hK, v, hv, rfl⟩
    | some n => exact ⟨_, h, rfl⟩
  cases op with
  | move x => exact ⟨_, h, rfl⟩
  | assign x => exact ⟨_, h, rfl⟩
  | pick c x y =>
    simp only [asBoolK] at h ⊢
    split at h
    · exact ⟨_, h, rfl⟩
    · exact h.elim
  | binOp op t x y yt =>
    simp only [binK] at h ⊢
    split at h
    · split at h <;> first | exact h.elim | exact ⟨_, h.2, h.1, rfl⟩ | exact ⟨_, h.2.2, h.1, h.2.1, rfl⟩
    · split at h <;> first | exact h.elim | exact ⟨_, h.2, h.1, rfl⟩
    · split at h <;> first | exact h.elim | exact ⟨_, h, rfl⟩ | exact ⟨_, h.2, h.1, rfl⟩
    · split at h
      · split at h <;> first | exact h.elim | exact ⟨_, h, rfl⟩
      · exact h.elim
    · obtain ⟨h1, h2, h3, h4⟩ := h
      split at h4
      · exact ⟨_, h4, h1, h2, h3, rfl⟩
      · exact ⟨_, h4, h1, h2, h3, rfl⟩
      · exact h4.elim
    · exact h.elim
  | unOp op t x =>
    simp only [unK] at h ⊢
    split at h <;> first | exact h.elim | exact ⟨_, h, rfl⟩
  | convert s d x =>
    simp only [convK] at h ⊢
    split at h <;> first | exact h.elim | exact ⟨_, h, rfl⟩
  | makeFunc fn first cap => exact ⟨_, h, rfl⟩
  | fieldAddr s x f =>
    simp only [fieldAddrK] at h ⊢
    split at h <;> first | exact h.elim | exact ⟨_, h.2, h.1, rfl⟩
  | field s x f =>
    simp only [fieldK] at h ⊢
    split at h <;> first | exact h.elim | exact pk h
  | indexAddr t x i =>
    simp only [indexAddrK] at h ⊢
    split at h <;> first | exact h.elim | exact ⟨_, h.2.2, h.1, h.2.1, rfl⟩
  | index t x i =>
    simp only [indexK] at h ⊢
    split at h
    · split at h
      · split at h
        · obtain ⟨h0, h1, h2⟩ := h
          obtain ⟨v, hv, hp⟩ := pk h2
          exact ⟨v, hv, h0, h1, hp⟩
        · exact h.elim
      · exact h.elim
    · obtain ⟨h0, h1, b, h2, h3⟩ := h
      exact ⟨_, h3, h0, h1, b, h2, rfl⟩
    · exact h.elim
  | extract x i =>
    simp only [extractK] at h ⊢
    split at h
    · obtain ⟨v, hv, hK⟩ := h
      exact ⟨v, hK, v, hv, rfl⟩
    · exact h.elim
  | nilCheck x =>
    simp only [nilK] at h ⊢
    split at h <;> first | exact h.elim | exact ⟨_, h, rfl⟩
  | build t parts =>
    simp only [buildK] at h ⊢
    split at h
    · obtain ⟨h0, h⟩ := h
      split at h
      · split at h
        · exact ⟨_, h, h0, rfl⟩
        · exact h.elim
      · exact h.elim
      · split at h
        · split at h
          · exact ⟨_, h, h0, rfl⟩
          · exact h.elim
        · exact h.elim
    · exact h.elim
  | call c =>
    obtain ⟨callee, args, ats⟩ := c
    simp only [pure0] at hp h ⊢
    revert h
    split at hp
    · rename_i x t h1 h2
      intro h
      simp only [lenK] at h ⊢
      split at h
      · exact ⟨_, h, rfl⟩
      · exact ⟨_, h, rfl⟩
      · exact ⟨_, h, rfl⟩
      · unfold mapOf at h ⊢
        split at h
        · exact ⟨_, h, rfl⟩
        · exact h.elim
        · exact h.elim
      · exact h.elim
    · rename_i x y l h1
      intro h
      simp only [pstep.mnK] at h ⊢
      split at h <;> first | exact h.elim | exact ⟨_, h.2, h.1, rfl⟩
    · rename_i x y l h1
      intro h
      simp only [pstep.mnK] at h ⊢
      split at h <;> first | exact h.elim | exact ⟨_, h.2, h.1, rfl⟩
    · simp at hp
  | _ => simp [pure0] at hp
/-- Does the plan hold? -/
def planOk (ops : Array Oper) : Array Bool → List Nat → Bool
  | listed, [] => Region.ready .any ops listed == []
  | listed, i :: plan => (match ops[i]? with
      | some o => if pure0 o.op || isLoad o.op then Region.free .any ops listed i && (Region.ready .any ops listed).contains i else Region.ready .any ops listed == [i]
      | none => false) && planOk ops (listed.setIfInBounds i true) plan
def APl (P : Program) (m : Nat) (l : List Oper) (plan : List Nat) (held : HeldL) (K : Fr → Heap → Prop) (A : Fr) (H : Heap) : Prop :=
  ∀ listed, Region.noSelect l.toArray = true → planOk l.toArray listed plan = true → ADr P m l.toArray plan.length listed held K A H
theorem at_drop {l r : List Oper} {i : Nat} {o : Oper} (h : l.drop i = o :: r) : l.toArray[i]? = some o := by
  have : (l.drop i)[0]? = some o := by rw [h]; rfl
  rw [List.getElem?_drop] at this
  simpa using this
variable {m : Nat} {ops : List Oper} {plan : List Nat} {held : HeldL} {K : Fr → Heap → Prop} {A : Fr} {H : Heap}
theorem AWp.planned {id : Nat} {l : List Oper} {Q : Exit → Fr → Heap → Prop} (plan : List Nat) (hm : P.follows .mixedOrders = true) (hok : (Region.noSelect l.toArray && planOk l.toArray (Array.replicate l.length false) plan && (plan.length == l.length)) = true)
    (h : APl P m l plan [] (Q .normal) A H) : AWp P m (.region id l.toArray true) Q A H := by
  simp only [Bool.and_eq_true, beq_iff_eq] at hok
  exact AWp.draw hm hok.2.symm (by rw [hok.2]) (h _ hok.1.1 hok.1.2)
theorem APl.nil (h : K A H) : APl P m ops [] held K A H := fun listed _ hp => ADr.done (by simpa [planOk] using hp) h
theorem APl.pure {i : Nat} {o : Oper} {r : List Oper} (hi' : ops.drop i = o :: r) (h0 : pure0 o.op = true) (hd : dstOk m o.dst = true) (hx : o.op.operands.toList.all opndOk = true) (hg : o.guard = none)
    (h : ∀ Kx : Value → Prop, Cont (∀ v, APl P m ops plan held K (put A o.dst v) H → Kx v) → pstep0 P o (ev A) Kx) : APl P m ops (i :: plan) held K A H := by
  have hi := at_drop hi'
  intro listed hs hp
  simp only [planOk, hi, h0, Bool.true_or, if_true, Bool.and_eq_true] at hp
  obtain ⟨v, hv, hq⟩ := pstep0_det h0 (h _ fun v h => h)
  exact ADr.take i hi hs hp.1.1 hp.1.2 hd hx hg v (fun H' _ _ => pgives_step (pstep0_any h0 hq H')) (hv _ hs hp.2)
theorem APl.pureg {i : Nat} {o : Oper} {r : List Oper} (hi' : ops.drop i = o :: r) (h0 : pure0 o.op = true) (hd : dstOk m o.dst = true) (hx : o.op.operands.toList.all opndOk = true) {j : Nat} {want : Bool} {t : Nat} (hg : o.guard = some (j, want)) (ht : ops.toArray[j]?.bind (·.dst) = some t) (htm : decide (t < m) = true) (hA : A t = .bool want)
    (h : ∀ Kx : Value → Prop, Cont (∀ v, APl P m ops plan held K (put A o.dst v) H → Kx v) → pstep0 P o (ev A) Kx) : APl P m ops (i :: plan) held K A H := by
  have hi := at_drop hi'
  intro listed hs hp
  simp only [planOk, hi, h0, Bool.true_or, if_true, Bool.and_eq_true] at hp
  obtain ⟨v, hv, hq⟩ := pstep0_det h0 (h _ fun v h => h)
  exact ADr.takeg i hi hs hp.1.1 hp.1.2 hd hx hg ht htm hA v (fun H' _ _ => pgives_step (pstep0_any h0 hq H')) (hv _ hs hp.2)
theorem APl.passg {i : Nat} {o : Oper} {r : List Oper} (hi' : ops.drop i = o :: r) (h0 : (pure0 o.op || isLoad o.op) = true) (hd : dstOk m o.dst = true) {j : Nat} {want : Bool} {t : Nat} (hg : o.guard = some (j, want)) (ht : ops.toArray[j]?.bind (·.dst) = some t) (htm : decide (t < m) = true) (hA : A t = .bool (!want) ∨ A t = undef)
    (h : APl P m ops plan held K (put A o.dst undef) H) : APl P m ops (i :: plan) held K A H := by
  have hi := at_drop hi'
  intro listed hs hp
  simp only [planOk, hi, h0, if_true, Bool.and_eq_true] at hp
  exact ADr.pass i hi hs hp.1.1 hp.1.2 hd hg ht htm hA (h _ hs hp.2)
/-- A load, its cells held from here on. -/
def loadHK (P : Program) (t : TypeId) (H : Heap) (x : Value) (K : Value → HeldL → Prop) : Prop :=
  match x with
  | .pointer (some a) => match tk P t with
    | some none => ∃ v, H.cell a.block a.off = some v ∧ K v [(a.block, a.off, v)]
    | some (some n) => 0 < n ∧ ∃ cs, H.range a.block a.off n = some cs ∧ K (.agg cs.toArray) (cs.zipIdx.map fun p => (a.block, a.off + p.2, p.1))
    | none => False
  | _ => False
theorem Heap.cell_of_range {b o n : Nat} {cs : List Value} (h : H.range b o n = some cs) {i : Nat} {v : Value} (hv : cs[i]? = some v) : H.cell b (o + i) = some v := by
  unfold Heap.range at h
  unfold Heap.cell
  split at h
  · split at h
    · injection h with h
      subst h
      rw [List.getElem?_take] at hv
      split at hv
      · rwa [List.getElem?_drop] at hv
      · simp at hv
    · simp at h
  · simp at h
theorem ADr.holds {fuel : Nat} {listed : Array Bool} : ∀ (l : HeldL), heldIn l H → ADr P m ops.toArray fuel listed (l ++ held) K A H → ADr P m ops.toArray fuel listed held K A H
  | [], _, h => h
  | (b, o, v) :: l, hl, h => ADr.holds l (fun x hx => hl x (List.mem_cons_of_mem _ hx)) (ADr.hold b o v (hl _ (List.mem_cons_self ..)) h)
theorem loadHK_spec {t : TypeId} {x : Operand} {e : Operand → Value} {K : Value → HeldL → Prop} (h : loadHK P t H (e x) K) : ∃ v l, K v l ∧ heldIn l H ∧
    ∀ H', heldIn l H' → (∀ b, H.has b → H'.has b) → loadK P t H' (e x) (fun y => y = v) := by
  unfold loadHK at h
  unfold loadK
  split at h
  · rename_i a ea
    split at h
    · rename_i ht
      obtain ⟨v, hv, hK⟩ := h
      refine ⟨v, _, hK, by intro y hy; simp at hy; subst hy; exact hv, fun H' hl _ => ?_⟩
      rw [ea, ht]
      show ∃ y, H'.cell a.block a.off = some y ∧ y = v
      exact ⟨v, hl (a.block, a.off, v) (by simp), rfl⟩
    · rename_i n ht
      obtain ⟨hn0, cs, hc, hK⟩ := h
      have hlen : cs.length = n := by
        unfold Heap.range at hc
        split at hc
        · split at hc
          · injection hc with hc; subst hc; simp; omega
          · simp at hc
        · simp at hc
      have hmem : ∀ (i : Nat) v, cs[i]? = some v → (a.block, a.off + i, v) ∈ cs.zipIdx.map fun p => (a.block, a.off + p.2, p.1) := by
        intro i v hv
        refine List.mem_map.2 ⟨(v, i), ?_, rfl⟩
        exact List.mk_mem_zipIdx_iff_getElem?.2 hv
      refine ⟨_, _, hK, ?_, fun H' hl _ => ?_⟩
      · intro y hy
        obtain ⟨⟨v, i⟩, hm, rfl⟩ := List.mem_map.1 hy
        exact H.cell_of_range hc (List.mk_mem_zipIdx_iff_getElem?.1 hm)
      · rw [ea, ht]
        have hr : H'.range a.block a.off n = some cs := by
          have hcell : ∀ (i : Nat) v, cs[i]? = some v → H'.cell a.block (a.off + i) = some v := fun i v hv => hl _ (hmem i v hv)
          unfold Heap.cell at hcell
          unfold Heap.range
          cases n with
          | zero => omega
          | succ n =>
            cases hg : H'.get a.block with
            | cells ds es ro =>
              rw [hg] at hcell
              simp only at hcell ⊢
              have hle : a.off + (n + 1) ≤ ds.length := by
                have h1 := hcell n cs[n] (List.getElem?_eq_getElem (by omega))
                have := (List.getElem?_eq_some_iff.1 h1).1
                omega
              rw [if_pos hle]
              congr 1
              apply List.ext_getElem?
              intro i
              rw [List.getElem?_take, List.getElem?_drop]
              by_cases hi : i < n + 1
              · rw [if_pos hi, hcell i cs[i] (List.getElem?_eq_getElem (by omega)), List.getElem?_eq_getElem (by omega)]
              · rw [if_neg hi, List.getElem?_eq_none (by omega)]
            | _ =>
              rw [hg] at hcell
              have := hcell 0 cs[0] (List.getElem?_eq_getElem (by omega))
              simp at this
        show ∃ y, H'.range a.block a.off n = some y ∧ Value.agg y.toArray = Value.agg cs.toArray
        exact ⟨cs, hr, rfl⟩
    · exact h.elim
  · exact h.elim
theorem APl.load {i : Nat} {dst : Option Nat} {t : TypeId} {x : Operand} {ty : TypeId} {pos : String} {af : Array Edge} {r : List Oper} (hi' : ops.drop i = ⟨dst, .load t x, ty, pos, af, none⟩ :: r) (hd : dstOk m dst = true) (hx : opndOk x = true)
    (h : ∀ Kx : Value → HeldL → Prop, Cont (∀ v l, APl P m ops plan (l ++ held) K (put A dst v) H → Kx v l) → loadHK P t H (ev A x) Kx) : APl P m ops (i :: plan) held K A H := by
  have hi := at_drop hi'
  intro listed hs hp
  simp only [planOk, hi, isLoad, Bool.or_true, if_true, Bool.and_eq_true] at hp
  obtain ⟨v, l, hK, hl, hall⟩ := loadHK_spec (h _ fun v l h => h)
  refine ADr.holds l hl (ADr.take i hi hs hp.1.1 hp.1.2 hd (by simp [Op.operands, hx]) rfl v (fun H' hl' hh => ?_) (hK _ hs hp.2))
  exact pg_load (hall H' (fun y hy => hl' y (List.mem_append_left _ hy)) hh)
theorem APl.loadg {i : Nat} {dst : Option Nat} {t : TypeId} {x : Operand} {ty : TypeId} {pos : String} {af : Array Edge} {j : Nat} {want : Bool} {r : List Oper} (hi' : ops.drop i = ⟨dst, .load t x, ty, pos, af, some (j, want)⟩ :: r) (hd : dstOk m dst = true) (hx : opndOk x = true)
    {q : Nat} (ht : ops.toArray[j]?.bind (·.dst) = some q) (htm : decide (q < m) = true) (hA : A q = .bool want)
    (h : ∀ Kx : Value → HeldL → Prop, Cont (∀ v l, APl P m ops plan (l ++ held) K (put A dst v) H → Kx v l) → loadHK P t H (ev A x) Kx) : APl P m ops (i :: plan) held K A H := by
  have hi := at_drop hi'
  intro listed hs hp
  simp only [planOk, hi, isLoad, Bool.or_true, if_true, Bool.and_eq_true] at hp
  obtain ⟨v, l, hK, hl, hall⟩ := loadHK_spec (h _ fun v l h => h)
  refine ADr.holds l hl (ADr.takeg i hi hs hp.1.1 hp.1.2 hd (by simp [Op.operands, hx]) rfl ht htm hA v (fun H' hl' hh => ?_) (hK _ hs hp.2))
  exact pg_load (hall H' (fun y hy => hl' y (List.mem_append_left _ hy)) hh)
theorem APl.slice {i : Nat} {dst : Option Nat} {t : TypeId} {x : Operand} {lo hi mx : Option Operand} {ty : TypeId} {pos : String} {af : Array Edge} {r : List Oper} (hi' : ops.drop i = ⟨dst, .slice t x lo hi mx, ty, pos, af, none⟩ :: r) (hd : dstOk m dst = true) (hx : (Op.slice t x lo hi mx).operands.toList.all opndOk = true)
    (h : ∀ Kx : Value → Prop, Cont (∀ v, APl P m ops plan held K (put A dst v) H → Kx v) → sliceK P t H (ev A x) (lo.map (ev A)) (hi.map (ev A)) (mx.map (ev A)) Kx) : APl P m ops (i :: plan) held K A H := by
  have hi0 := at_drop hi'
  intro listed hs hp
  simp only [planOk, hi0, isLoad, Bool.or_true, if_true, Bool.and_eq_true] at hp
  refine ADr.takeB i hi0 hs hp.1.1 hp.1.2 hd hx rfl ?_
  have h1 := pgb_slice (dst := dst) (ty := ty) (pos := pos) (af := af) (g := none) (h _ fun v h => h)
  intro φ ρ w hh hr
  obtain ⟨v, v', hK, h2, h3⟩ := h1 φ ρ w hh hr
  exact ⟨v, v', hK _ hs hp.2, h2, h3⟩
theorem APl.act {i : Nat} {o : Oper} {r : List Oper} (hi' : ops.drop i = o :: r) (h0 : (pure0 o.op || isLoad o.op) = false) (hg : o.guard = none)
    (h : ∀ Kx : Fr → Heap → Prop, (∀ A' H', heldIn held H' → APl P m ops plan held K A' H' → Kx A' H') → AOp P m o Kx A H) : APl P m ops (i :: plan) held K A H := by
  have hi := at_drop hi'
  intro listed hs hp
  simp only [planOk, hi, h0, Bool.false_eq_true, if_false, Bool.and_eq_true, beq_iff_eq] at hp
  exact ADr.act i hi hp.1 hg (h _ fun A' H' hl hA => ⟨hl, hA _ hs hp.2⟩)
theorem APl.act1 {i : Nat} {o : Oper} {r : List Oper} (hi' : ops.drop i = o :: r) (h0 : (pure0 o.op || isLoad o.op) = false) (hg : o.guard = none) (hd : dstOk m o.dst = true) (hx : o.op.operands.toList.all opndOk = true)
    (h : ∀ Kx : Value → Heap → Prop, Cont (∀ v H', heldIn held H' → APl P m ops plan held K (put A o.dst v) H' → Kx v H') → astep P o (ev A) H Kx) : APl P m ops (i :: plan) held K A H :=
  APl.act hi' h0 hg fun Kx hKx => AOp.step hd hx (h _ fun v H' q1 q2 => hKx _ _ q1 q2)
theorem heldIn_nil : heldIn [] H := by intro h hh; simp at hh
theorem heldIn_cons {b o : Nat} {v : Value} {l : HeldL} (h1 : H.cell b o = some v) (h2 : heldIn l H) : heldIn ((b, o, v) :: l) H := by
  intro h hh
  rcases List.mem_cons.1 hh with rfl | hh
  · exact h1
  · exact h2 h hh
end
/-! ### Words for the run -/
section
variable {P : Program} {K : Fr → Heap → Prop} {Q : Exit → Fr → Heap → Prop} {A : Fr} {H : Heap}
theorem athen_n (h : K A H) : athen K Q .normal A H := h
theorem athen_r (h : Q .ret A H) : athen K Q .ret A H := h
theorem athen_e {i : Nat} (h : Q (.exit i) A H) : athen K Q (.exit i) A H := h
theorem ablock_n {i : Nat} (h : Q .normal A H) : ablock i Q .normal A H := h
theorem ablock_r {i : Nat} (h : Q .ret A H) : ablock i Q .ret A H := h
theorem ablock_s {i : Nat} (h : Q .normal A H) : ablock i Q (.exit i) A H := by show if i = i then _ else _; rw [if_pos rfl]; exact h
theorem ablock_e {i j : Nat} (hne : (j == i) = false) (h : Q (.exit j) A H) : ablock i Q (.exit j) A H := by show if j = i then _ else _; rw [if_neg (by simpa using hne)]; exact h
theorem aret_n {rs : List ResultVar} {Q : Value → Heap → Prop} (h : aresK P rs A H fun vs => Q (retv vs) H) : aret P rs Q .normal A H := h
theorem aret_r {rs : List ResultVar} {Q : Value → Heap → Prop} (h : aresK P rs A H fun vs => Q (retv vs) H) : aret P rs Q .ret A H := h
theorem get_push_lt {x : Blk} {b : Nat} (h : b < H.size) : (H.push x).get b = H.get b := by rw [Heap.get_push, if_neg (by omega)]
theorem get_push_eq {x : Blk} {b : Nat} (h : b = H.size) : (H.push x).get b = x := by rw [Heap.get_push, if_pos h]
theorem get_set_ne {x : Blk} {b c : Nat} (h : c ≠ b) : (H.set b x).get c = H.get c := by rw [Heap.get_set, if_neg h]
theorem get_set_eq {x : Blk} {b : Nat} : (H.set b x).get b = x := by rw [Heap.get_set, if_pos rfl]
/-- The operations, as the run's simp tells them. -/
theorem sx :
    (∀ (A : Fr) (t : Nat), ev A (.tmp t) = A t) ∧ (∀ (A : Fr) (v : Value), ev A (.const v) = v) ∧ (∀ (A : Fr) (f : FuncId), ev A (.func f) = .func (.func f) #[] #[]) ∧
    (∀ (A : Fr) (d : Nat) (v : Value) (t : Nat), put A (some d) v t = if t = d then v else A t) ∧ (∀ (A : Fr) (v : Value), put A none v = A) ∧
    (∀ (P : Program) (o : Oper) (e : Operand → Value) (K : Value → Prop), pstep0 P o e K = pstep P o e ⟨0, fun _ => .absent⟩ K) := ⟨fun _ _ => rfl, fun _ _ => rfl, fun _ _ => rfl, fun _ _ _ _ => rfl, fun _ _ => rfl, fun _ _ _ _ => rfl⟩
theorem px (P : Program) (d : Option Nat) (ty : TypeId) (pos : String) (af : Array Edge) (g : Option (Nat × Bool)) (e : Operand → Value) (H : Heap) (K : Value → Prop) :
    (∀ x, pstep P ⟨d, .move x, ty, pos, af, g⟩ e H K = K (e x)) ∧ (∀ x, pstep P ⟨d, .assign x, ty, pos, af, g⟩ e H K = K (e x)) ∧
    (∀ c x y, pstep P ⟨d, .pick c x y, ty, pos, af, g⟩ e H K = asBoolK (e c) fun b => K (if b = true then e x else e y)) ∧
    (∀ t x, pstep P ⟨d, .load t x, ty, pos, af, g⟩ e H K = loadK P t H (e x) K) ∧
    (∀ op t x y u, pstep P ⟨d, .binOp op t x y u, ty, pos, af, g⟩ e H K = binK P op t (e x) (e y) K) ∧
    (∀ op t x, pstep P ⟨d, .unOp op t x, ty, pos, af, g⟩ e H K = unK op (e x) K) ∧
    (∀ s t x, pstep P ⟨d, .convert s t x, ty, pos, af, g⟩ e H K = convK P s t (e x) K) ∧
    (∀ fn x y, pstep P ⟨d, .makeFunc fn x y, ty, pos, af, g⟩ e H K = K (.func fn (x.map e) (y.map e))) ∧
    (∀ s x f, pstep P ⟨d, .fieldAddr s x f, ty, pos, af, g⟩ e H K = fieldAddrK P s f (e x) K) ∧
    (∀ s x f, pstep P ⟨d, .field s x f, ty, pos, af, g⟩ e H K = fieldK P s f (e x) K) ∧
    (∀ t x i, pstep P ⟨d, .indexAddr t x i, ty, pos, af, g⟩ e H K = indexAddrK P t (e x) (e i) K) ∧
    (∀ t x i, pstep P ⟨d, .index t x i, ty, pos, af, g⟩ e H K = indexK P t (e x) (e i) K) ∧
    (∀ x i, pstep P ⟨d, .extract x i, ty, pos, af, g⟩ e H K = extractK i (e x) K) ∧
    (∀ x, pstep P ⟨d, .nilCheck x, ty, pos, af, g⟩ e H K = nilK (e x) K) ∧
    (∀ t x lo hi mx, pstep P ⟨d, .slice t x lo hi mx, ty, pos, af, g⟩ e H K = sliceK P t H (e x) (lo.map e) (hi.map e) (mx.map e) K) ∧
    (∀ t ps, pstep P ⟨d, .build t ps, ty, pos, af, g⟩ e H K = buildK P t (ps.map fun (i, x) => (i, e x)) K) ∧
    (∀ x t, pstep P ⟨d, .call ⟨.builtin .len, #[x], #[t]⟩, ty, pos, af, g⟩ e H K = lenK P t (e x) H K) ∧
    (∀ x y t, pstep P ⟨d, .call ⟨.builtin .min, #[x, y], t⟩, ty, pos, af, g⟩ e H K = pstep.mnK (fun a b => if b < a then b else a) (e x) (e y) K) ∧
    (∀ x y t, pstep P ⟨d, .call ⟨.builtin .max, #[x, y], t⟩, ty, pos, af, g⟩ e H K = pstep.mnK (fun a b => if b > a then b else a) (e x) (e y) K) := by
  refine ⟨?_, ?_, ?_, ?_, ?_, ?_, ?_, ?_, ?_, ?_, ?_, ?_, ?_, ?_, ?_, ?_, ?_, ?_, ?_⟩ <;> intros <;> rfl
theorem ax (P : Program) (d : Option Nat) (ty : TypeId) (pos : String) (af : Array Edge) (g : Option (Nat × Bool)) (e : Operand → Value) (H : Heap) (K : Value → Heap → Prop) :
    (∀ x, astep P ⟨d, .move x, ty, pos, af, g⟩ e H K = K (e x) H) ∧ (∀ x, astep P ⟨d, .assign x, ty, pos, af, g⟩ e H K = K (e x) H) ∧
    (∀ c x y, astep P ⟨d, .pick c x y, ty, pos, af, g⟩ e H K = asBoolK (e c) fun b => K (if b = true then e x else e y) H) ∧
    (∀ t x, astep P ⟨d, .load t x, ty, pos, af, g⟩ e H K = loadK P t H (e x) fun v => K v H) ∧
    (∀ op t x y u, astep P ⟨d, .binOp op t x y u, ty, pos, af, g⟩ e H K = binK P op t (e x) (e y) fun v => K v H) ∧
    (∀ op t x, astep P ⟨d, .unOp op t x, ty, pos, af, g⟩ e H K = unK op (e x) fun v => K v H) ∧
    (∀ s t x, astep P ⟨d, .convert s t x, ty, pos, af, g⟩ e H K = convK P s t (e x) fun v => K v H) ∧
    (∀ fn x y, astep P ⟨d, .makeFunc fn x y, ty, pos, af, g⟩ e H K = K (.func fn (x.map e) (y.map e)) H) ∧
    (∀ s x f, astep P ⟨d, .fieldAddr s x f, ty, pos, af, g⟩ e H K = fieldAddrK P s f (e x) fun v => K v H) ∧
    (∀ s x f, astep P ⟨d, .field s x f, ty, pos, af, g⟩ e H K = fieldK P s f (e x) fun v => K v H) ∧
    (∀ t x i, astep P ⟨d, .indexAddr t x i, ty, pos, af, g⟩ e H K = indexAddrK P t (e x) (e i) fun v => K v H) ∧
    (∀ t x i, astep P ⟨d, .index t x i, ty, pos, af, g⟩ e H K = indexK P t (e x) (e i) fun v => K v H) ∧
    (∀ x i, astep P ⟨d, .extract x i, ty, pos, af, g⟩ e H K = extractK i (e x) fun v => K v H) ∧
    (∀ x, astep P ⟨d, .nilCheck x, ty, pos, af, g⟩ e H K = nilK (e x) fun v => K v H) ∧
    (∀ t x lo hi mx, astep P ⟨d, .slice t x lo hi mx, ty, pos, af, g⟩ e H K = sliceK P t H (e x) (lo.map e) (hi.map e) (mx.map e) fun v => K v H) ∧
    (∀ t ps, astep P ⟨d, .build t ps, ty, pos, af, g⟩ e H K = buildK P t (ps.map fun (i, x) => (i, e x)) fun v => K v H) ∧
    (∀ x t, astep P ⟨d, .call ⟨.builtin .len, #[x], #[t]⟩, ty, pos, af, g⟩ e H K = lenK P t (e x) H fun v => K v H) ∧
    (∀ x y t, astep P ⟨d, .call ⟨.builtin .min, #[x, y], t⟩, ty, pos, af, g⟩ e H K = pstep.mnK (fun a b => if b < a then b else a) (e x) (e y) fun v => K v H) ∧
    (∀ x y t, astep P ⟨d, .call ⟨.builtin .max, #[x, y], t⟩, ty, pos, af, g⟩ e H K = pstep.mnK (fun a b => if b > a then b else a) (e x) (e y) fun v => K v H) ∧
    (∀ t x, astep P ⟨d, .box t x, ty, pos, af, g⟩ e H K = K (.pointer (some ⟨H.size, 0, none⟩)) (H.push (.cells (e x).cells.toList 1 false))) ∧
    (∀ t, astep P ⟨d, .alloc t, ty, pos, af, g⟩ e H K = allocK P t H K) ∧
    (∀ t x y, astep P ⟨d, .store t x y, ty, pos, af, g⟩ e H K = storeK P t H (e x) (e y) fun H' => K undef H') ∧
    (∀ t n ps, astep P ⟨d, .buildSlice t n ps, ty, pos, af, g⟩ e H K = buildSliceK P t n (ps.map fun (i, x) => (i, e x)) H K) ∧
    (∀ t l c, astep P ⟨d, .makeSlice t l c, ty, pos, af, g⟩ e H K = makeSliceK P t (e l) (e c) H K) ∧
    (∀ t, astep P ⟨d, .makeMap t none, ty, pos, af, g⟩ e H K = K (.map (some H.size)) (H.push (.map []))) ∧
    (∀ t x i ok, astep P ⟨d, .lookup t x i ok, ty, pos, af, g⟩ e H K = lookupK P t (e x) (e i) ok H fun v => K v H) ∧
    (∀ t m k x, astep P ⟨d, .mapUpdate t m k x, ty, pos, af, g⟩ e H K = mapPutK P t (e m) (e k) (e x) H fun H' => K undef H') ∧
    (∀ s x st xt, astep P ⟨d, .call ⟨.builtin .append, #[s, x], #[st, xt]⟩, ty, pos, af, g⟩ e H K = appendK P st xt (e s) (e x) H K) ∧
    (∀ s x st xt, astep P ⟨d, .call ⟨.builtin .copy, #[s, x], #[st, xt]⟩, ty, pos, af, g⟩ e H K = copyK P st (e s) (e x) H K) ∧
    (∀ s st, astep P ⟨d, .call ⟨.builtin .clear, #[s], #[st]⟩, ty, pos, af, g⟩ e H K = clearK P st (e s) H K) ∧
    (∀ f l ts, astep P ⟨d, .call ⟨.value f, l, ts⟩, ty, pos, af, g⟩ e H K = callK P (e f) (l.toList.map e) H K) := by
  refine ⟨?_, ?_, ?_, ?_, ?_, ?_, ?_, ?_, ?_, ?_, ?_, ?_, ?_, ?_, ?_, ?_, ?_, ?_, ?_, ?_, ?_, ?_, ?_, ?_, ?_, ?_, ?_, ?_, ?_, ?_, ?_⟩ <;> intros <;> rfl
end
theorem heldIn_iff {H : Heap} : (heldIn [] H = True) ∧ (∀ b o v l, heldIn ((b, o, v) :: l) H = (H.cell b o = some v ∧ heldIn l H)) ∧ (∀ l, ([] : HeldL) ++ l = l) ∧ (∀ a l l', (a :: l : HeldL) ++ l' = a :: (l ++ l')) :=
  ⟨eq_true heldIn_nil, fun b o v l => propext ⟨fun h => ⟨h _ (List.mem_cons_self ..), fun x hx => h x (List.mem_cons_of_mem _ hx)⟩, fun h => heldIn_cons h.1 h.2⟩, fun _ => rfl, fun _ _ _ => rfl⟩
theorem set_self {H : Heap} {b : Nat} {x : Blk} (h : H.get b = x) : H.set b x = H := by
  cases H with
  | mk n f =>
    simp only [Heap.set]
    congr 1
    funext c
    split
    · rename_i e; subst e; exact h.symm
    · rfl
theorem set_set {H : Heap} {b : Nat} {x y : Blk} : (H.set b x).set b y = H.set b y := by
  cases H with
  | mk n f =>
    simp only [Heap.set]
    congr 1
    funext c
    split <;> simp_all
theorem set_comm {H : Heap} {b c : Nat} {x y : Blk} (h : b ≠ c) : (H.set b x).set c y = (H.set c y).set b x := by
  cases H with
  | mk n f =>
    simp only [Heap.set]
    congr 1
    funext d
    split <;> split <;> simp_all
theorem push_set {H : Heap} {b : Nat} {x y : Blk} (h : b < H.size) : (H.push y).set b x = (H.set b x).push y := by
  cases H with
  | mk n f =>
    simp only [Heap.set, Heap.push]
    congr 1
    funext d
    have : b < n := h
    split <;> split <;> simp_all <;> omega
def intV : Value → Int
  | .int _ n => n
  | _ => 0
theorem intV_int (k : IntKind) (n : Int) : intV (.int k n) = n := rfl
/-! ### What an operation asks, in direct forms -/
section
variable {P : Program}
def ldK (k : Option (Option Nat)) (H : Heap) (a : Addr) (K : Value → Prop) : Prop :=
  match k with
  | some none => ∃ v, H.cell a.block a.off = some v ∧ K v
  | some (some n) => ∃ cs, H.range a.block a.off n = some cs ∧ K (.agg cs.toArray)
  | none => False
def ldHK (k : Option (Option Nat)) (H : Heap) (a : Addr) (K : Value → HeldL → Prop) : Prop :=
  match k with
  | some none => ∃ v, H.cell a.block a.off = some v ∧ K v [(a.block, a.off, v)]
  | some (some n) => 0 < n ∧ ∃ cs, H.range a.block a.off n = some cs ∧ K (.agg cs.toArray) (cs.zipIdx.map fun p => (a.block, a.off + p.2, p.1))
  | none => False
def stK (k : Option (Option Nat)) (x : Blk) (H : Heap) (a : Addr) (y : Value) (K : Heap → Prop) : Prop :=
  match x with
  | .cells cs es false => match k with
    | some none => y.oneCell' = true ∧ a.off < cs.length ∧ K (H.set a.block (.cells (cs.set a.off y) es false))
    | some (some n) => match y with
      | .agg vs => vs.size = n ∧ (∀ v ∈ vs.toList, v.oneCell' = true) ∧ a.off + n ≤ cs.length ∧ K (H.set a.block (.cells (cs.take a.off ++ vs.toList ++ cs.drop (a.off + n)) es false))
      | _ => False
    | none => False
  | _ => False
def bcell (x : Blk) (o : Nat) : Option Value :=
  match x with
  | .cells cs _ _ => cs[o]?
  | _ => none
def brange (x : Blk) (o n : Nat) : Option (List Value) :=
  match x with
  | .cells cs _ _ => if o + n ≤ cs.length then some ((cs.drop o).take n) else none
  | _ => none
def ixK (l : Option (Option Nat × Nat)) (n : Int) (x : Value) (K : Value → Prop) : Prop :=
  match l, x with
  | some (none, s), .slice (some a) len _ => 0 ≤ n ∧ n < len ∧ K (.pointer (some ⟨a.block, a.off + n.toNat * s, none⟩))
  | some (some len, s), .pointer (some a) => 0 ≤ n ∧ n < len ∧ K (.pointer (some ⟨a.block, a.off + n.toNat * s, none⟩))
  | _, _ => False
def foK (f : Option (Nat × Option Nat)) (a : Addr) (K : Value → Prop) : Prop :=
  match f with
  | some (off, k) => k ≠ some 0 ∧ K (.pointer (some ⟨a.block, a.off + off, none⟩))
  | none => False
def fvK (f : Option (Nat × Option Nat)) (cs : Array Value) (K : Value → Prop) : Prop :=
  match f with
  | some (off, k) => partK k cs off K
  | none => False
def lnK (d : Option TypeDesc) (x : Value) (H : Heap) (K : Value → Prop) : Prop :=
  match d, x with
  | some (.slice _), .slice _ n _ => K (.int .i64 n)
  | some .string, .string s => K (.int .i64 s.size)
  | some (.array n _), _ => K (.int .i64 n)
  | some (.map _ _), m => mapOf m H fun es => K (.int .i64 es.length)
  | _, _ => False
theorem kx1 :
    (∀ (b : Bool) (KB : Bool → Prop), asBoolK (.bool b) KB = KB b) ∧
    (∀ (P : Program) (t : TypeId) (H : Heap) (a : Addr) (K : Value → Prop), loadK P t H (.pointer (some a)) K = ldK (tk P t) H a K) ∧
    (∀ (P : Program) (t : TypeId) (H : Heap) (a : Addr) (K2 : Value → HeldL → Prop), loadHK P t H (.pointer (some a)) K2 = ldHK (tk P t) H a K2) ∧
    (∀ (P : Program) (t : TypeId) (H : Heap) (a : Addr) (y : Value) (K3 : Heap → Prop), storeK P t H (.pointer (some a)) y K3 = stK (tk P t) (H.get a.block) H a y K3) ∧
    (∀ (k : IntKind) (n : Int) (K : Value → Prop), unK .neg (.int k n) K = K (.int k (k.wrap (0 - n)))) ∧
    (∀ (b : Bool) (K : Value → Prop), unK .not (.bool b) K = K (.bool !b)) ∧
    (∀ (P : Program) (t : TypeId) (f : Nat) (a : Addr) (K : Value → Prop), fieldAddrK P t f (.pointer (some a)) K = foK (fo P t f) a K) ∧
    (∀ (P : Program) (t : TypeId) (f : Nat) (cs : Array Value) (K : Value → Prop), fieldK P t f (.agg cs) K = fvK (fo P t f) cs K) ∧
    (∀ (P : Program) (t : TypeId) (x : Value) (k : IntKind) (n : Int) (K : Value → Prop), indexAddrK P t x (.int k n) K = ixK (el P t) n x K) ∧
    (∀ (i : Nat) (vs : Array Value) (K : Value → Prop), extractK i (.tuple vs) K = (∃ v, vs[i]? = some v ∧ K v)) ∧
    (∀ (a : Addr) (K : Value → Prop), nilK (.pointer (some a)) K = K (.pointer (some a))) ∧
    (∀ (g : FuncId) (l : Array Value) (l2 : Array Value) (K : Value → Prop), nilK (.func (.func g) l l2) K = K (.func (.func g) l l2)) ∧
    (∀ (P : Program) (t : TypeId) (x : Value) (H : Heap) (K : Value → Prop), lenK P t x H K = lnK (P.underlying t) x H K) ∧
    (∀ (F : Int → Int → Int) (k : IntKind) (n : Int) (m : Int) (K : Value → Prop), pstep.mnK F (.int k n) (.int k m) K = K (.int k (F n m))) ∧
    (∀ (P : Program) (g : FuncId) (l : Array Value) (l2 : Array Value) (args : List Value) (H : Heap) (K4 : Value → Heap → Prop), callK P (.func (.func g) l l2) args H K4 = ACalls P g (l.toList ++ args ++ l2.toList) H K4) ∧
    (∀ (P : Program) (t : TypeId) (k : IntKind) (n : Int) (m : Int) (K : Value → Prop), binK P .add t (.int k n) (.int k m) K = K (.int k (k.wrap (n + m)))) ∧
    (∀ (P : Program) (t : TypeId) (k : IntKind) (n : Int) (m : Int) (K : Value → Prop), binK P .sub t (.int k n) (.int k m) K = K (.int k (k.wrap (n - m)))) ∧
    (∀ (P : Program) (t : TypeId) (k : IntKind) (n : Int) (m : Int) (K : Value → Prop), binK P .mul t (.int k n) (.int k m) K = K (.int k (k.wrap (n * m)))) ∧
    (∀ (P : Program) (t : TypeId) (k : IntKind) (n : Int) (m : Int) (K : Value → Prop), binK P .quo t (.int k n) (.int k m) K = (m ≠ 0 ∧ K (.int k (k.wrap (n.tdiv m))))) ∧
    (∀ (P : Program) (t : TypeId) (k : IntKind) (n : Int) (m : Int) (K : Value → Prop), binK P .rem t (.int k n) (.int k m) K = (m ≠ 0 ∧ K (.int k (n.tmod m)))) ∧
    (∀ (P : Program) (t : TypeId) (k : IntKind) (n : Int) (m : Int) (K : Value → Prop), binK P .eql t (.int k n) (.int k m) K = K (.bool (n == m))) ∧
    (∀ (P : Program) (t : TypeId) (k : IntKind) (n : Int) (m : Int) (K : Value → Prop), binK P .neq t (.int k n) (.int k m) K = K (.bool (n != m))) ∧
    (∀ (P : Program) (t : TypeId) (k : IntKind) (n : Int) (m : Int) (K : Value → Prop), binK P .lss t (.int k n) (.int k m) K = K (.bool (n < m))) ∧
    (∀ (P : Program) (t : TypeId) (k : IntKind) (n : Int) (m : Int) (K : Value → Prop), binK P .leq t (.int k n) (.int k m) K = K (.bool (n ≤ m))) ∧
    (∀ (P : Program) (t : TypeId) (k : IntKind) (n : Int) (m : Int) (K : Value → Prop), binK P .gtr t (.int k n) (.int k m) K = K (.bool (n > m))) ∧
    (∀ (P : Program) (t : TypeId) (k : IntKind) (n : Int) (m : Int) (K : Value → Prop), binK P .geq t (.int k n) (.int k m) K = K (.bool (n ≥ m))) := by
  refine ⟨?_, ?_, ?_, ?_, ?_, ?_, ?_, ?_, ?_, ?_, ?_, ?_, ?_, ?_, ?_, ?_, ?_, ?_, ?_, ?_, ?_, ?_, ?_, ?_, ?_, ?_⟩
  · intro b KB
    rfl
  · intro P t H a K
    simp only [loadK]; generalize tk P t = q; cases q with
    | none => rfl
    | some q => cases q <;> rfl
  · intro P t H a K2
    simp only [loadHK]; generalize tk P t = q; cases q with
    | none => rfl
    | some q => cases q <;> rfl
  · intro P t H a y K3
    simp only [storeK]; generalize H.get a.block = u; generalize tk P t = q; cases u with
    | cells cs es ro => cases ro with
      | true => rfl
      | false => cases q with
        | none => rfl
        | some q => cases q with
          | none => rfl
          | some n => cases y <;> rfl
    | _ => rfl
  · intro k n K
    rfl
  · intro b K
    rfl
  · intro P t f a K
    unfold fieldAddrK; generalize fo P t f = q; cases q <;> rfl
  · intro P t f cs K
    unfold fieldK; generalize fo P t f = q; cases q <;> rfl
  · intro P t x k n K
    unfold indexAddrK ixK; generalize el P t = q; rcases q with _ | ⟨q | q, r⟩ <;> cases x <;> first | rfl | (rename_i z _ _; cases z <;> rfl) | (rename_i z; cases z <;> rfl)
  · intro i vs K
    rfl
  · intro a K
    rfl
  · intro g l l2 K
    rfl
  · intro P t x H K
    unfold lenK lnK; rfl
  · intro F k n m K
    simp [pstep.mnK]
  · intro P g l l2 args H K4
    rfl
  · intro P t k n m K
    simp [binK]
  · intro P t k n m K
    simp [binK]
  · intro P t k n m K
    simp [binK]
  · intro P t k n m K
    simp [binK]
  · intro P t k n m K
    simp [binK]
  · intro P t k n m K
    simp [binK]
  · intro P t k n m K
    simp [binK]
  · intro P t k n m K
    simp [binK]
  · intro P t k n m K
    simp [binK]
  · intro P t k n m K
    simp [binK]
  · intro P t k n m K
    simp [binK]
theorem kx2 :
    (∀ (H : Heap) (a : Addr) (K : Value → Prop), ldK (some none) H a K = (∃ v, H.cell a.block a.off = some v ∧ K v)) ∧
    (∀ (N : Nat) (H : Heap) (a : Addr) (K : Value → Prop), ldK (some (some N)) H a K = (∃ cs, H.range a.block a.off N = some cs ∧ K (.agg cs.toArray))) ∧
    (∀ (H : Heap) (a : Addr) (K2 : Value → HeldL → Prop), ldHK (some none) H a K2 = (∃ v, H.cell a.block a.off = some v ∧ K2 v [(a.block, a.off, v)])) ∧
    (∀ (N : Nat) (H : Heap) (a : Addr) (K2 : Value → HeldL → Prop), ldHK (some (some N)) H a K2 = (0 < N ∧ ∃ cs, H.range a.block a.off N = some cs ∧ K2 (.agg cs.toArray) (cs.zipIdx.map fun p => (a.block, a.off + p.2, p.1)))) ∧
    (∀ (ls : List Value) (es : Nat) (H : Heap) (a : Addr) (y : Value) (K3 : Heap → Prop), stK (some none) (.cells ls es false) H a y K3 = (y.oneCell' = true ∧ a.off < ls.length ∧ K3 (H.set a.block (.cells (ls.set a.off y) es false)))) ∧
    (∀ (N : Nat) (ls : List Value) (es : Nat) (H : Heap) (a : Addr) (vs : Array Value) (K3 : Heap → Prop), stK (some (some N)) (.cells ls es false) H a (.agg vs) K3 = (vs.size = N ∧ (∀ v ∈ vs.toList, v.oneCell' = true) ∧ a.off + N ≤ ls.length ∧ K3 (H.set a.block (.cells (ls.take a.off ++ vs.toList ++ ls.drop (a.off + N)) es false)))) ∧
    (∀ (H : Heap) (B : Nat) (o : Nat), H.cell B o = bcell (H.get B) o) ∧
    (∀ (ls : List Value) (es : Nat) (ro : Bool) (o : Nat), bcell (.cells ls es ro) o = ls[o]?) ∧
    (∀ (H : Heap) (B : Nat) (o : Nat) (N : Nat), H.range B o N = brange (H.get B) o N) ∧
    (∀ (ls : List Value) (es : Nat) (ro : Bool) (o : Nat) (N : Nat), brange (.cells ls es ro) o N = (if o + N ≤ ls.length then some ((ls.drop o).take N) else none)) ∧
    (∀ (s : Nat) (j : Int) (a : Addr) (M : Nat) (c : Nat) (K : Value → Prop), ixK (some (none, s)) j (.slice (some a) M c) K = (0 ≤ j ∧ j < M ∧ K (.pointer (some ⟨a.block, a.off + j.toNat * s, none⟩)))) ∧
    (∀ (M : Nat) (s : Nat) (j : Int) (a : Addr) (K : Value → Prop), ixK (some (some M, s)) j (.pointer (some a)) K = (0 ≤ j ∧ j < M ∧ K (.pointer (some ⟨a.block, a.off + j.toNat * s, none⟩)))) ∧
    (∀ (o : Nat) (a : Addr) (K : Value → Prop), foK (some (o, none)) a K = K (.pointer (some ⟨a.block, a.off + o, none⟩))) ∧
    (∀ (o : Nat) (N : Nat) (a : Addr) (K : Value → Prop), foK (some (o, some N)) a K = (some N ≠ some 0 ∧ K (.pointer (some ⟨a.block, a.off + o, none⟩)))) ∧
    (∀ (o : Nat) (vs : Array Value) (K : Value → Prop), fvK (some (o, none)) vs K = (∃ v, vs[o]? = some v ∧ K v)) ∧
    (∀ (o : Nat) (N : Nat) (vs : Array Value) (K : Value → Prop), fvK (some (o, some N)) vs K = K (.agg (vs.extract o (o + N)))) ∧
    (∀ (e : TypeId) (X : Option Addr) (M : Nat) (c : Nat) (H : Heap) (K : Value → Prop), lnK (some (.slice e)) (.slice X M c) H K = K (.int .i64 M)) ∧
    (∀ (S : ByteArray) (H : Heap) (K : Value → Prop), lnK (some .string) (.string S) H K = K (.int .i64 S.size)) ∧
    (∀ (N : Nat) (e : TypeId) (x : Value) (H : Heap) (K : Value → Prop), lnK (some (.array N e)) x H K = K (.int .i64 N)) ∧
    (∀ (T : TypeId) (e : TypeId) (x : Value) (H : Heap) (K : Value → Prop), lnK (some (.map T e)) x H K = mapOf x H fun es => K (.int .i64 es.length)) := by
  refine ⟨?_, ?_, ?_, ?_, ?_, ?_, ?_, ?_, ?_, ?_, ?_, ?_, ?_, ?_, ?_, ?_, ?_, ?_, ?_, ?_⟩
  · intro H a K
    rfl
  · intro N H a K
    rfl
  · intro H a K2
    rfl
  · intro N H a K2
    rfl
  · intro ls es H a y K3
    rfl
  · intro N ls es H a vs K3
    rfl
  · intro H B o
    unfold Heap.cell bcell; generalize H.get B = q; cases q <;> rfl
  · intro ls es ro o
    rfl
  · intro H B o N
    unfold Heap.range brange; generalize H.get B = q; cases q <;> rfl
  · intro ls es ro o N
    rfl
  · intro s j a M c K
    rfl
  · intro M s j a K
    rfl
  · intro o a K
    simp [foK]
  · intro o N a K
    simp [foK]
  · intro o vs K
    rfl
  · intro o N vs K
    rfl
  · intro e X M c H K
    rfl
  · intro S H K
    rfl
  · intro N e x H K
    rfl
  · intro T e x H K
    rfl
theorem bitx :
    (∀ (P : Program) (t : TypeId) (k : IntKind) (n : Int) (m : Int) (K : Value → Prop), binK P .and t (.int k n) (.int k m) K = K (.int k (andI k n m))) ∧
    (∀ (P : Program) (t : TypeId) (k k' : IntKind) (n : Int) (m : Int) (K : Value → Prop), binK P .shr t (.int k n) (.int k' m) K = (0 ≤ m ∧ K (.int k (n.fdiv (2 ^ (min m.toNat k.bits)))))) ∧
    (∀ (P : Program) (t : TypeId) (k k' : IntKind) (n : Int) (m : Int) (K : Value → Prop), binK P .shl t (.int k n) (.int k' m) K = (0 ≤ m ∧ K (.int k (k.wrap (n * 2 ^ (min m.toNat k.bits)))))) ∧
    (∀ (P : Program) (t : TypeId) (a b : Bool) (K : Value → Prop), binK P .eql t (.bool a) (.bool b) K = (P.underlying t = some .bool ∧ K (.bool (a == b)))) ∧
    (∀ (P : Program) (t : TypeId) (a b : Bool) (K : Value → Prop), binK P .neq t (.bool a) (.bool b) K = (P.underlying t = some .bool ∧ K (.bool !(a == b)))) := by
  refine ⟨fun P t k n m K => propext ⟨fun h => h.2, fun h => ⟨rfl, h⟩⟩, fun P t k k' n m K => rfl, fun P t k k' n m K => rfl, fun P t a b K => rfl, fun P t a b K => rfl⟩
theorem nx : (∀ h : Decidable True, @decide True h = true) ∧ (∀ h : Decidable False, @decide False h = false) ∧ (∀ n : Nat, ((n : Int)).toNat = n) ∧ (∀ n : Nat, n * 1 = n) ∧ (∀ n : Nat, 1 * n = n) ∧ (∀ n : Nat, 0 + n = n) ∧ (∀ n : Nat, n + 0 = n) ∧ (∀ n : Nat, n - 0 = n) ∧
    (∀ (H : Heap) (x : Blk), (H.push x).size = H.size + 1) ∧ (∀ (H : Heap) (b : Nat) (x : Blk), (H.set b x).size = H.size) ∧ (∀ (H : Heap) (b : Nat) (x : Blk), (H.set b x).get b = x) ∧
    (∀ (α : Type) (a b : α), (some a = some b) = (a = b)) ∧ (∀ (α : Type) (a : α) (p : α → Prop), (∃ x, a = x ∧ p x) = p a) ∧ (∀ (α : Type) (a : α) (p : α → Prop), (∃ x, x = a ∧ p x) = p a) ∧
    (∀ (α β : Type) (f : α → β) (a : α), (some a).map f = some (f a)) ∧ (∀ (α β : Type) (f : α → β), (none : Option α).map f = none) ∧ (∀ (α : Type) (a : α), (some a).isSome = true) ∧ (∀ (α : Type), (none : Option α).isSome = false) ∧
    (∀ p : Prop, (True ∧ p) = p) ∧ (∀ p : Prop, (p ∧ True) = p) ∧ (∀ p : Prop, (True → p) = p) ∧ (∀ p : Prop, (False → p) = True) ∧ ((true = false) = False) ∧ ((false = true) = False) ∧ ((true = true) = True) ∧ ((false = false) = True) ∧
    ((!true) = false) ∧ ((!false) = true) ∧ (∀ (α β : Type) (f : α → β), [].map f = []) ∧ (∀ (α β : Type) (f : α → β) (a : α) (l : List α), (a :: l).map f = f a :: l.map f) ∧
    (∀ (α β : Type) (f : α → β) (l : List α), l.toArray.map f = (l.map f).toArray) ∧ (∀ (α : Type) (l : List α), l.toArray.toList = l) ∧ (∀ (α : Type) (l : List α), [] ++ l = l) ∧ (∀ (α : Type) (l : List α), l ++ [] = l) ∧
    (∀ (α : Type) (a : α) (l l' : List α), (a :: l) ++ l' = a :: (l ++ l')) ∧ (∀ (p : Prop) [Decidable p] (x y : Bool), (if p then Value.bool x else Value.bool y) = Value.bool (if p then x else y)) ∧
    (∀ (α : Type) (x y : α), (if true = true then x else y) = x) ∧ (∀ (α : Type) (x y : α), (if false = true then x else y) = y) ∧ (∀ k n, (Value.int k n).cells = #[.int k n]) ∧ (∀ b, (Value.bool b).cells = #[.bool b]) ∧ (∀ l, (Value.agg l).cells = l) ∧ (∀ a n c, (Value.slice a n c).cells = #[.slice a n c]) ∧ (∀ a, (Value.pointer a).cells = #[.pointer a]) ∧ (∀ a, (Value.map a).cells = #[.map a]) ∧ (∀ f l l', (Value.func f l l').cells = #[.func f l l']) ∧ (∀ s, (Value.string s).cells = #[.string s]) ∧
    (∀ k n, (Value.int k n).oneCell' = true) ∧ (∀ b, (Value.bool b).oneCell' = true) ∧ (∀ a n c, (Value.slice a n c).oneCell' = true) ∧ (∀ a, (Value.pointer a).oneCell' = true) ∧ (∀ a, (Value.map a).oneCell' = true) ∧ (∀ f l l', (Value.func f l l').oneCell' = true) ∧ (∀ s, (Value.string s).oneCell' = true) := by
  refine ⟨fun _ => by simp, fun _ => by simp, Int.toNat_natCast, Nat.mul_one, Nat.one_mul, Nat.zero_add, Nat.add_zero, Nat.sub_zero, fun _ _ => rfl, fun _ _ _ => rfl, fun _ _ _ => get_set_eq, fun _ _ _ => by simp, fun _ _ _ => by simp, fun _ _ _ => by simp, fun _ _ _ _ => rfl, fun _ _ _ => rfl, fun _ _ => rfl, fun _ => rfl, fun _ => by simp, fun _ => by simp, fun _ => by simp, fun _ => by simp, by simp, by simp, by simp, by simp, rfl, rfl, fun _ _ _ => rfl, fun _ _ _ _ _ => rfl, fun _ _ _ _ => by simp, fun _ _ => rfl, fun _ _ => rfl, fun _ _ => by simp, fun _ _ _ _ => rfl, fun p _ x y => by split <;> rfl, fun _ _ _ => by simp, fun _ _ _ => by simp, fun _ _ => rfl, fun _ => rfl, fun _ => rfl, fun _ _ _ => rfl, fun _ => rfl, fun _ => rfl, fun _ _ _ => rfl, fun _ => rfl, fun _ _ => rfl, fun _ => rfl, fun _ _ _ => rfl, fun _ => rfl, fun _ => rfl, fun _ _ _ => rfl, fun _ => rfl⟩
/-- .. under conditions on numbers. -/
theorem cx : (∀ {n : Int}, -9223372036854775808 ≤ n → n ≤ 9223372036854775807 → IntKind.i64.wrap n = n) ∧ (∀ {a b : Int}, 0 ≤ a → a.tdiv b = a / b) ∧ (∀ {a b : Int}, 0 ≤ a → a.tmod b = a % b) ∧
    (∀ {H : Heap} {x : Blk} {b : Nat}, b < H.size → (H.push x).get b = H.get b) ∧ (∀ {H : Heap} {x : Blk} {b : Nat}, b = H.size → (H.push x).get b = x) ∧ (∀ {H : Heap} {x : Blk} {b c : Nat}, c ≠ b → (H.set b x).get c = H.get c) :=
  ⟨wrap64_id, fun h => Int.tdiv_eq_ediv_of_nonneg h, fun h => Int.tmod_eq_emod_of_nonneg h, get_push_lt, get_push_eq, get_set_ne⟩
theorem dx : (∀ (p : Prop) [Decidable p], (decide p = true) = p) ∧ (∀ (p : Prop) [Decidable p], (decide p = false) = ¬ p) ∧ (∀ n m : Int, ((n == m) = true) = (n = m)) ∧ (∀ n m : Int, ((n == m) = false) = ¬ (n = m)) ∧ (∀ n m : Int, ((n != m) = true) = ¬ (n = m)) ∧ (∀ n m : Int, ((n != m) = false) = (n = m)) ∧
    (∀ b : Bool, ((!b) = true) = (b = false)) ∧ (∀ b : Bool, ((!b) = false) = (b = true)) := by
  refine ⟨fun p _ => by simp, fun p _ => by simp, fun _ _ => by simp, fun _ _ => by simp, fun _ _ => by simp, fun _ _ => by simp, fun b => by cases b <;> simp, fun b => by cases b <;> simp⟩
end
theorem ex_ite {α : Type} {p : Prop} [Decidable p] {a : α} {q : α → Prop} : (∃ c, (if p then some a else none) = some c ∧ q c) ↔ p ∧ q a := by
  constructor
  · rintro ⟨c, h, hq⟩
    by_cases hp : p
    · rw [if_pos hp] at h; cases h; exact ⟨hp, hq⟩
    · rw [if_neg hp] at h; cases h
  · rintro ⟨hp, hq⟩; exact ⟨a, if_pos hp, hq⟩
theorem ex_some {α : Type} {a : α} {q : α → Prop} : (∃ c, some a = some c ∧ q c) ↔ q a := by simp
theorem one_app {l m : List Value} (h : oneCells l) (g : oneCells m) : oneCells (l ++ m) := by
  intro v hv; rcases List.mem_append.1 hv with h1 | h1
  · exact h v h1
  · exact g v h1
theorem one_map {α : Type} {l : List α} {f : α → Value} (h : ∀ x, (f x).oneCell' = true) : oneCells (l.map f) := by
  intro v hv; obtain ⟨x, _, rfl⟩ := List.mem_map.1 hv; exact h x
theorem one_nil : oneCells [] := by intro v hv; cases hv
theorem one_cons {v : Value} {l : List Value} (h : v.oneCell' = true) (g : oneCells l) : oneCells (v :: l) := by
  intro u hu; cases hu with
  | head => exact h
  | tail _ h1 => exact g u h1
theorem ex_and {α : Type} {p : Prop} {r q : α → Prop} : (∃ c, (p ∧ r c) ∧ q c) ↔ p ∧ ∃ c, r c ∧ q c := by
  constructor
  · rintro ⟨c, ⟨hp, hr⟩, hq⟩; exact ⟨hp, c, hr, hq⟩
  · rintro ⟨hp, c, hr, hq⟩; exact ⟨c, ⟨hp, hr⟩, hq⟩
theorem zero1 (x : Value) (k : Nat) : (Builtin.zeroCells #[x] k).toList = List.replicate k x := by
  unfold Builtin.zeroCells
  rw [Array.toList_map]
  apply List.ext_getElem
  · simp
  · intro i h1 h2
    simp [Nat.mod_one]
abbrev I (n : Int) : Value := .int .i64 n
abbrev B (b : Bool) : Value := .bool b
def ints (l : List Int) : List Value := l.map (Value.int .i64)
theorem ints_len (l : List Int) : (ints l).length = l.length := by simp [ints]
theorem ints_get {l : List Int} {i : Nat} (h : i < l.length) : (ints l)[i]? = some (.int .i64 (l.getD i 0)) := by simp [ints, h]
theorem ints_set (l : List Int) (i : Nat) (x : Int) : (ints l).set i (.int .i64 x) = ints (l.set i x) := by simp [ints]
theorem take_ints (l : List Int) (n : Nat) : (ints l).take n = ints (l.take n) := by simp [ints, List.map_take]
theorem drop_ints (l : List Int) (n : Nat) : (ints l).drop n = ints (l.drop n) := by simp [ints, List.map_drop]
theorem app_ints (l m : List Int) : ints l ++ ints m = ints (l ++ m) := by simp [ints]
theorem one_ints (l : List Int) : oneCells (ints l) := by intro v hv; obtain ⟨x, _, rfl⟩ := List.mem_map.1 hv; rfl
theorem rep_ints (k : Nat) (x : Int) : List.replicate k (Value.int .i64 x) = ints (List.replicate k x) := by simp [ints]
theorem cons_ints (l : List Int) (x : Int) : ints l ++ [.int .i64 x] = ints (l ++ [x]) := by simp [ints]
theorem one_int (x : Int) : [Value.int .i64 x] = ints [x] := rfl
theorem ib :
    (∀ l : List Int, (ints l).length = l.length) ∧ (∀ (l : List Int) (i : Nat), i < l.length → (ints l)[i]? = some (.int .i64 (l.getD i 0))) ∧ (∀ (l : List Int) (i : Nat) (x : Int), (ints l).set i (.int .i64 x) = ints (l.set i x)) ∧
    (∀ (l : List Int) (n : Nat), (ints l).take n = ints (l.take n)) ∧ (∀ (l : List Int) (n : Nat), (ints l).drop n = ints (l.drop n)) ∧ (∀ l m : List Int, ints l ++ ints m = ints (l ++ m)) ∧
    (∀ (k : Nat) (x : Int), List.replicate k (Value.int .i64 x) = ints (List.replicate k x)) ∧ (∀ (l : List Int) (x : Int), ints l ++ [.int .i64 x] = ints (l ++ [x])) :=
  ⟨ints_len, fun _ _ h => ints_get h, ints_set, take_ints, drop_ints, app_ints, rep_ints, cons_ints⟩
structure Ext (H H' : Heap) : Prop where
  size : H.size ≤ H'.size
  get : ∀ b, b < H.size → H'.get b = H.get b
theorem Ext.refl (H : Heap) : Ext H H := ⟨Nat.le_refl _, fun _ _ => rfl⟩
theorem Ext.trans {H H1 H2 : Heap} (h : Ext H H1) (g : Ext H1 H2) : Ext H H2 := ⟨Nat.le_trans h.size g.size, fun b hb => (g.get b (Nat.lt_of_lt_of_le hb h.size)).trans (h.get b hb)⟩
theorem Ext.push {H H1 : Heap} (h : Ext H H1) (x : Blk) : Ext H (H1.push x) := h.trans ⟨by rw [Heap.size_push]; omega, fun b hb => get_push_lt hb⟩
theorem Ext.set {H H1 : Heap} (h : Ext H H1) {b : Nat} (x : Blk) (hb : H.size ≤ b) : Ext H (H1.set b x) := ⟨h.size, fun c hc => by rw [get_set_ne (by omega)]; exact h.get c hc⟩
theorem cok (l : List Value) (h : l.all flat = true) : constOk (.agg l.toArray) = true := by
  unfold constOk
  simpa using h
theorem Ext.up {H Ha H1 : Heap} (h : Ext Ha H1) (g : Ext H Ha) : Ext H H1 := g.trans h
theorem Ext.pop {H H1 : Heap} {x : Blk} (h : Ext (H.push x) H1) : Ext H H1 := ((Ext.refl H).push x).trans h
theorem i2x :
    (∀ (P : Program) (t : TypeId) (k k2 k' k2' : IntKind) (a b c d : Int) (K : Value → Prop), binK P .eql t (.agg #[.int k a, .int k2 b]) (.agg #[.int k' c, .int k2' d]) K = (i2 P t = true ∧ k' = k ∧ k2' = k2 ∧ K (.bool (a == c && b == d)))) ∧
    (∀ (P : Program) (t : TypeId) (k k2 k' k2' : IntKind) (a b c d : Int) (K : Value → Prop), binK P .neq t (.agg #[.int k a, .int k2 b]) (.agg #[.int k' c, .int k2' d]) K = (i2 P t = true ∧ k' = k ∧ k2' = k2 ∧ K (.bool (!(a == c && b == d))))) :=
  ⟨fun _ _ _ _ _ _ _ _ _ _ _ => rfl, fun _ _ _ _ _ _ _ _ _ _ _ => rfl⟩
def setAll (cs : List Value) (off : Nat) (vs : List Value) : List Value := cs.take off ++ vs ++ cs.drop (off + vs.length)
def fillL (place : Nat → Option (Nat × Nat)) : List Value → List (Nat × Value) → Option (List Value)
  | cs, [] => some cs
  | cs, (i, v) :: r => match place i with
    | none => none
    | some (off, size) => if v.cells.size = size ∧ off + size ≤ cs.length then fillL place (setAll cs off v.cells.toList) r else none
theorem fold_setAll : ∀ (vs : List Value) (k off : Nat) (cs : Array Value), off + k + vs.length ≤ cs.size → ((vs.zipIdx k).foldl (fun cs (x : Value × Nat) => cs.setIfInBounds (off + x.2) x.1) cs).toList = setAll cs.toList (off + k) vs
  | [], k, off, cs, h => by simp [setAll]
  | v :: vs, k, off, cs, h => by
    rw [List.zipIdx_cons, List.foldl_cons, fold_setAll vs (k + 1) off _ (by simp at h ⊢; omega)]
    simp only [setAll, Array.toList_setIfInBounds]
    apply List.ext_getElem?
    intro i
    simp only [List.length_cons] at h
    have hs : cs.toList.length = cs.size := by simp
    simp only [List.getElem?_append, List.length_append, List.length_take, List.length_set, List.getElem?_drop, List.getElem?_take, List.getElem?_set, List.length_cons, List.getElem?_cons, hs]
    have m1 : min (off + (k + 1)) cs.size = off + k + 1 := by omega
    have m2 : min (off + k) cs.size = off + k := by omega
    rw [m1, m2]
    by_cases c1 : i < off + k
    · simp [show i < off + k + 1 by omega, show i < off + k + 1 + vs.length by omega, show i < off + k + (vs.length + 1) by omega, c1, show ¬ off + k = i by omega, show i < off + (k + 1) by omega]
    · by_cases c2 : i = off + k
      · subst c2
        simp [show off + k < off + (k + 1) by omega, show off + k < cs.size by omega, show off + k < off + k + 1 + vs.length by omega]
      · by_cases c3 : i < off + k + 1 + vs.length
        · simp [show ¬ i < off + k + 1 by omega, c3, c1, show i < off + k + (vs.length + 1) by omega, show ¬ i - (off + k) = 0 by omega, show i - (off + k) - 1 = i - (off + k + 1) by omega]
        · simp [show ¬ i < off + k + 1 by omega, c3, c1, show ¬ i < off + k + (vs.length + 1) by omega, show off + (k + 1) + vs.length + (i - (off + k + 1 + vs.length)) = off + k + (vs.length + 1) + (i - (off + k + (vs.length + 1))) by omega, show ¬ off + k = off + k + (vs.length + 1) + (i - (off + k + (vs.length + 1))) by omega]
theorem fill_eq (place : Nat → Option (Nat × Nat)) : ∀ (parts : List (Nat × Value)) (cs : Array Value), Instr.fill place cs parts = (fillL place cs.toList parts).map List.toArray
  | [], cs => by simp [Instr.fill, fillL]
  | (i, v) :: r, cs => by
    unfold Instr.fill fillL
    split
    · rename_i h; rw [h]; rfl
    · rename_i off size h
      rw [h]
      by_cases hc : v.cells.size = size ∧ off + size ≤ cs.toList.length
      · obtain ⟨hc1, hc2⟩ := hc
        have hc3 : cs.toList.length = cs.size := by simp
        rw [if_neg (by simp [hc1]; omega), fill_eq place r]
        dsimp only
        rw [if_pos ⟨hc1, hc2⟩]
        congr 2
        have := fold_setAll v.cells.toList 0 off cs (by simp; omega)
        rw [Nat.add_zero] at this
        rw [← this, ← Array.foldl_toList, Array.toList_zipIdx]
      · rw [if_pos]
        · dsimp only
          rw [if_neg hc]; rfl
        · have hc3 : cs.toList.length = cs.size := by simp
          by_cases h1 : v.cells.size = size
          · have : ¬ off + size ≤ cs.toList.length := fun h => hc ⟨h1, h⟩
            rw [Bool.or_eq_true]; right; rw [decide_eq_true_eq]; omega
          · rw [Bool.or_eq_true]; left; rw [decide_eq_true_eq]; exact h1
theorem zcells_eq (z : List Value) (m : Nat) (hz : 0 < z.length) : (zcells z.toArray (m * z.length)).toList = (List.replicate m z).flatten := by
  unfold zcells
  rw [Array.toList_map]
  induction m with
  | zero => simp
  | succ m ih =>
    rw [List.replicate_succ', List.flatten_append, ← ih]
    have : (m + 1) * z.length = m * z.length + z.length := by rw [Nat.add_mul, Nat.one_mul]
    rw [this]
    simp only [Array.toList_range, List.range_add, List.map_append, List.map_map, List.flatten_cons, List.flatten_nil, List.append_nil]
    congr 1
    apply List.ext_getElem
    · simp
    · intro i h1 h2
      simp only [List.length_map, List.length_range] at h1
      simp [Nat.mul_add_mod', Nat.mod_eq_of_lt h1, h1]
def zz (z z2 : Value) : Nat → List Value
  | 0 => []
  | 1 => [z]
  | n + 2 => z :: z2 :: zz z z2 n
theorem zz_get (z z2 : Value) : ∀ n i, i < n → (zz z z2 n)[i]? = some (if i % 2 = 0 then z else z2)
  | 0, i, h => by omega
  | 1, i, h => by obtain rfl : i = 0 := by omega
                  rfl
  | n + 2, 0, h => rfl
  | n + 2, 1, h => rfl
  | n + 2, i + 2, h => by
    rw [zz, List.getElem?_cons_succ, List.getElem?_cons_succ, zz_get z z2 n i (by omega), Nat.add_mod_right]
theorem zz_len (z z2 : Value) : ∀ n, (zz z z2 n).length = n
  | 0 => rfl
  | 1 => rfl
  | n + 2 => by simp [zz, zz_len z z2 n]
theorem zcells_uno (z : Value) (m : Nat) : zcells #[z] m = (List.replicate m z).toArray := by
  apply Array.ext'
  have := zcells_eq [z] m (by simp)
  simp only [List.length_cons, List.length_nil, Nat.zero_add, Nat.mul_one] at this
  rw [this]; simp
theorem zcells_two (z z2 : Value) (m : Nat) : zcells #[z, z2] m = (zz z z2 m).toArray := by
  apply Array.ext'
  unfold zcells
  rw [Array.toList_map]
  apply List.ext_getElem?
  intro i
  by_cases hi : i < m
  · rw [zz_get _ _ _ _ hi]
    simp only [List.getElem?_map, Array.toList_range]
    rw [List.getElem?_range hi]
    rcases Nat.mod_two_eq_zero_or_one i with h | h <;> simp [h]
  · rw [List.getElem?_eq_none (by simp; omega), List.getElem?_eq_none (by rw [zz_len]; omega)]
theorem fx :
    (∀ (place : Nat → Option (Nat × Nat)) (l : List Value) (parts : List (Nat × Value)), Instr.fill place l.toArray parts = (fillL place l parts).map List.toArray) ∧
    (∀ (place : Nat → Option (Nat × Nat)) (cs : List Value), fillL place cs [] = some cs) ∧
    (∀ (place : Nat → Option (Nat × Nat)) (cs : List Value) (i : Nat) (v : Value) (r : List (Nat × Value)), fillL place cs ((i, v) :: r) = (match place i with | none => none | some (off, size) => if v.cells.size = size ∧ off + size ≤ cs.length then fillL place (setAll cs off v.cells.toList) r else none)) ∧
    (∀ (z : Value) (m : Nat), zcells #[z] m = (List.replicate m z).toArray) ∧ (∀ (z z2 : Value) (m : Nat), zcells #[z, z2] m = (zz z z2 m).toArray) ∧ (∀ z z2 : Value, zz z z2 0 = []) ∧ (∀ (z z2 : Value) (n : Nat), zz z z2 (n + 2) = z :: z2 :: zz z z2 n) ∧
    (∀ (cs vs : List Value) (off : Nat), setAll cs off vs = cs.take off ++ vs ++ cs.drop (off + vs.length)) ∧
    (∀ (k : IntKind) (n : Int), (Value.int k n).cells = #[.int k n]) ∧ (∀ b : Bool, (Value.bool b).cells = #[.bool b]) ∧ (∀ a n c, (Value.slice a n c).cells = #[.slice a n c]) ∧ (∀ a, (Value.pointer a).cells = #[.pointer a]) ∧
    (∀ cs : Array Value, (Value.agg cs).cells = cs) ∧ (∀ s, (Value.string s).cells = #[.string s]) ∧
    (∀ (α : Type) (l : List α), (some l).map List.toArray = some l.toArray) ∧
    (∀ (α : Type) (a : α), (none : Option α).getD a = a) ∧ (∀ (α : Type) (a b : α), (some b).getD a = b) :=
  ⟨fun place l parts => by rw [fill_eq], fun _ _ => rfl, fun _ _ _ _ _ => by rw [fillL], zcells_uno, zcells_two, fun _ _ => rfl, fun _ _ _ => rfl, fun _ _ _ => rfl, fun _ _ => rfl, fun _ => rfl, fun _ _ _ => rfl, fun _ => rfl, fun _ => rfl, fun _ => rfl, fun _ _ => rfl, fun _ _ => rfl, fun _ _ _ => rfl⟩
/-! ### The rules of a run in few words -/
theorem xxq : type_of% (And.intro sx (And.intro px (And.intro ax (And.intro kx1 (And.intro kx2 (And.intro nx (And.intro cx (And.intro dx (And.intro i2x (And.intro ib (And.intro bitx fx))))))))))) := And.intro sx (And.intro px (And.intro ax (And.intro kx1 (And.intro kx2 (And.intro nx (And.intro cx (And.intro dx (And.intro i2x (And.intro ib (And.intro bitx fx))))))))))
theorem xxa : type_of% (And.intro Nat.le_refl (And.intro or_true (And.intro true_or (And.intro @List.getElem?_toArray.{0} (And.intro Bool.and_true (And.intro Bool.true_and (And.intro Bool.and_false (And.intro Bool.false_and (And.intro @beq_self_eq_true.{0} (And.intro Bool.not_true (And.intro Bool.not_false (And.intro not_true_eq_false (And.intro false_implies (And.intro @true_implies (And.intro and_true true_and))))))))))))))) := And.intro Nat.le_refl (And.intro or_true (And.intro true_or (And.intro @List.getElem?_toArray.{0} (And.intro Bool.and_true (And.intro Bool.true_and (And.intro Bool.and_false (And.intro Bool.false_and (And.intro @beq_self_eq_true.{0} (And.intro Bool.not_true (And.intro Bool.not_false (And.intro not_true_eq_false (And.intro false_implies (And.intro @true_implies (And.intro and_true true_and))))))))))))))
theorem xxb : type_of% (And.intro @List.take_of_length_le.{0} (And.intro @List.replicate_succ.{0} (And.intro @List.replicate_zero.{0} (And.intro @List.flatten_cons.{0} (And.intro @List.flatten_nil.{0} (And.intro @List.cons_append.{0} (And.intro @List.take_succ_cons.{0} (And.intro @List.drop_succ_cons.{0} (And.intro @ex_ite (And.intro @ex_some (And.intro @ite_self.{1} (And.intro Nat.sub_self (And.intro Nat.add_zero (And.intro Nat.zero_add (And.intro Nat.add_sub_cancel_left @Nat.add_sub_cancel))))))))))))))) := And.intro @List.take_of_length_le.{0} (And.intro @List.replicate_succ.{0} (And.intro @List.replicate_zero.{0} (And.intro @List.flatten_cons.{0} (And.intro @List.flatten_nil.{0} (And.intro @List.cons_append.{0} (And.intro @List.take_succ_cons.{0} (And.intro @List.drop_succ_cons.{0} (And.intro @ex_ite (And.intro @ex_some (And.intro @ite_self.{1} (And.intro Nat.sub_self (And.intro Nat.add_zero (And.intro Nat.zero_add (And.intro Nat.add_sub_cancel_left @Nat.add_sub_cancel))))))))))))))
theorem xxc : type_of% (And.intro @List.size_toArray.{0} (And.intro @List.drop_zero.{0} (And.intro @List.take_zero.{0} (And.intro @List.append_nil.{0} (And.intro @List.nil_append.{0} (And.intro @List.length_append.{0} (And.intro @List.length_take.{0} (And.intro @List.length_drop.{0} (And.intro @List.length_set.{0} (And.intro @List.length_map.{0,0} (And.intro @List.length_replicate.{0} (And.intro @List.getElem?_cons_zero.{0} (And.intro @List.getElem?_cons_succ.{0} (And.intro @List.length_cons.{0} (And.intro @List.length_nil.{0} (And.intro @List.set_cons_zero.{0} (And.intro @List.set_cons_succ.{0} not_false_eq_true))))))))))))))))) := And.intro @List.size_toArray.{0} (And.intro @List.drop_zero.{0} (And.intro @List.take_zero.{0} (And.intro @List.append_nil.{0} (And.intro @List.nil_append.{0} (And.intro @List.length_append.{0} (And.intro @List.length_take.{0} (And.intro @List.length_drop.{0} (And.intro @List.length_set.{0} (And.intro @List.length_map.{0,0} (And.intro @List.length_replicate.{0} (And.intro @List.getElem?_cons_zero.{0} (And.intro @List.getElem?_cons_succ.{0} (And.intro @List.length_cons.{0} (And.intro @List.length_nil.{0} (And.intro @List.set_cons_zero.{0} (And.intro @List.set_cons_succ.{0} not_false_eq_true))))))))))))))))
/-! ### Two operations of which either may come first -/
section
variable {P : Program} {m : Nat} {ops : List Oper} {held : HeldL} {K : Fr → Heap → Prop} {A : Fr} {H : Heap}
/-- .. behind a prefix of pure ones. -/
def forkOk (ops : Array Oper) (i : Nat) (p : List Nat) (j : Nat) (q : List Nat) : Array Bool → List Nat → Bool
  | listed, [] => (Region.ready .any ops listed == [i, j]) && planOk ops (listed.setIfInBounds i true) p && planOk ops (listed.setIfInBounds j true) q
  | listed, k :: pre => (match ops[k]? with
      | some o => pure0 o.op && Region.free .any ops listed k && (Region.ready .any ops listed).contains k
      | none => false) && forkOk ops i p j q (listed.setIfInBounds k true) pre
def APf (P : Program) (m : Nat) (l : List Oper) (pre : List Nat) (i : Nat) (p : List Nat) (j : Nat) (q : List Nat) (held : HeldL) (K : Fr → Heap → Prop) (A : Fr) (H : Heap) : Prop :=
  ∀ listed, Region.noSelect l.toArray = true → forkOk l.toArray i p j q listed pre = true → ADr P m l.toArray (pre.length + (p.length + 1)) listed held K A H
theorem AWp.forked {id : Nat} {l : List Oper} {Q : Exit → Fr → Heap → Prop} (pre : List Nat) (i : Nat) (p : List Nat) (j : Nat) (q : List Nat) (hm : P.follows .mixedOrders = true)
    (hok : (Region.noSelect l.toArray && forkOk l.toArray i p j q (Array.replicate l.length false) pre && (pre.length + (p.length + 1) == l.length)) = true)
    (h : APf P m l pre i p j q [] (Q .normal) A H) : AWp P m (.region id l.toArray true) Q A H := by
  simp only [Bool.and_eq_true, beq_iff_eq] at hok
  exact AWp.draw hm hok.2.symm (by rw [hok.2]) (h _ hok.1.1 hok.1.2)
theorem APf.pure {i j k : Nat} {p q pre : List Nat} {o : Oper} {r : List Oper} (hi' : ops.drop k = o :: r) (h0 : pure0 o.op = true) (hd : dstOk m o.dst = true) (hx : o.op.operands.toList.all opndOk = true) (hg : o.guard = none)
    (h : ∀ Kx : Value → Prop, Cont (∀ v, APf P m ops pre i p j q held K (put A o.dst v) H → Kx v) → pstep0 P o (ev A) Kx) : APf P m ops (k :: pre) i p j q held K A H := by
  have hi := at_drop hi'
  intro listed hs hp
  simp only [forkOk, hi, h0, Bool.true_and, Bool.and_eq_true] at hp
  obtain ⟨v, hv, hq⟩ := pstep0_det h0 (h _ fun v h => h)
  have e : (k :: pre).length + (p.length + 1) = (pre.length + (p.length + 1)) + 1 := by simp only [List.length_cons]; omega
  rw [e]
  exact ADr.take k hi hs hp.1.1 hp.1.2 hd hx hg v (fun H' _ _ => pgives_step (pstep0_any h0 hq H')) (hv _ hs hp.2)
theorem APf.fork {i j : Nat} {p q : List Nat} {o o2 : Oper} {r r2 : List Oper} (hi' : ops.drop i = o :: r) (hj' : ops.drop j = o2 :: r2) (hlen : p.length = q.length)
    (hg : o.guard = none) (hd : dstOk m o.dst = true) (hx : o.op.operands.toList.all opndOk = true) (hg2 : o2.guard = none) (hd2 : dstOk m o2.dst = true) (hx2 : o2.op.operands.toList.all opndOk = true)
    (h : ∀ Kx : Value → Heap → Prop, Cont (∀ v H', heldIn held H' → APl P m ops p held K (put A o.dst v) H' → Kx v H') → astep P o (ev A) H Kx)
    (h2 : ∀ Kx : Value → Heap → Prop, Cont (∀ v H', heldIn held H' → APl P m ops q held K (put A o2.dst v) H' → Kx v H') → astep P o2 (ev A) H Kx) : APf P m ops [] i p j q held K A H := by
  have hi := at_drop hi'
  have hj := at_drop hj'
  intro listed hs hp
  simp only [forkOk, Bool.and_eq_true, beq_iff_eq] at hp
  obtain ⟨⟨hrdy, hp1⟩, hp2⟩ := hp
  have e : ([] : List Nat).length + (p.length + 1) = p.length + 1 := by simp only [List.length_nil]; omega
  rw [e]
  have a1 : AOp P m o (fun A' H' => heldIn held H' ∧ APl P m ops p held K A' H') A H := AOp.step hd hx (h _ fun v H' q1 q2 => ⟨q1, q2⟩)
  have a2 : AOp P m o2 (fun A' H' => heldIn held H' ∧ APl P m ops q held K A' H') A H := AOp.step hd2 hx2 (h2 _ fun v H' q1 q2 => ⟨q1, q2⟩)
  intro φ a w Qc hst hl hpn hk
  refine wpAnyH_all hrdy (by simp) ?_
  intro x hx
  have key : ∀ (o : Oper) (p : List Nat) (x : Nat), ops.toArray[x]? = some o → o.guard = none → planOk ops.toArray (listed.setIfInBounds x true) p = true → AOp P m o (fun A' H' => heldIn held H' ∧ APl P m ops p held K A' H') A H →
      wpOp P ops.toArray Qc x (fun a' w' => SH φ H held w' ∧ wpAnyH P .any ops.toArray Qc (SH φ H held) p.length (listed.setIfInBounds x true) a' w') a w := by
    intro o p x hi hg hp h
    unfold wpOp
    rw [hi]
    simp only
    rw [if_pos (by simp [Region.wanted, hg])]
    refine .inl (h φ a w _ _ hst ?_)
    rintro φ' A' H' a' w' ⟨hl', hA'⟩ hs' ok'
    refine ⟨⟨φ', H', hs'.holds, ok'.mono, hl'⟩, wpAnyH_mono ?_ _ _ _ _ (hA' _ hs hp φ' a' w' Qc hs' hl' hpn (fun φ2 A2 H2 a2 w2 q2 s2 ok2 => hk φ2 A2 H2 a2 w2 q2 s2 (ok'.trans ok2)))⟩
    rintro w2 ⟨φ2, H2, h1, h2, h3⟩
    exact ⟨φ2, H2, h1, fun b hb => ⟨(h2 b (ok'.has b hb)).1, (h2 b (ok'.has b hb)).2.trans (ok'.img b hb)⟩, h3⟩
  rcases (by simpa using hx : x = i ∨ x = j) with rfl | rfl
  · exact key o p x hi hg hp1 a1
  · rw [hlen]; exact key o2 q x hj hg2 hp2 a2
end
/-! ### Guarded operations that act, in a region that draws -/
section
variable {P : Program} {m : Nat} {ops : List Oper} {plan : List Nat} {held : HeldL} {K : Fr → Heap → Prop} {A : Fr} {H : Heap}
theorem tmp_of {φ : Nat → Img} {a : Act} {w : World} (hs : St m φ A H a w) {t : Nat} (htm : decide (t < m) = true) {v : Value} (hA : A t = v) (hv : flat v = true ∨ v = undef) : a.tmps[t]? = some v := by
  have hsz : t < a.tmps.size := by rw [hs.size]; exact of_decide_eq_true htm
  have hr := hs.get t
  rw [hA] at hr
  have e1 : a.tmps.getD t undef = v := by
    rcases hv with hv | hv
    · exact R.flat_eq hv hr
    · subst hv; exact (R.undef.det hr).symm
  rw [Array.getElem?_eq_getElem hsz, ← e1]
  simp [hsz]
theorem want_b {φ : Nat → Img} {a : Act} {w : World} {ops : Array Oper} (hs : St m φ A H a w) {o : Oper} {j : Nat} {want : Bool} {t : Nat} (hg : o.guard = some (j, want)) (ht : (ops[j]?).bind (·.dst) = some t) (htm : decide (t < m) = true) {b : Bool} (hA : A t = .bool b) :
    Region.wanted o (yielded ops a.tmps) = (b == want) := by
  have e2 := tmp_of hs htm hA (.inl rfl)
  unfold Region.wanted
  rw [hg]
  simp only [yielded, ht, Option.bind_some, e2]
  cases b <;> cases want <;> rfl
theorem want_u {φ : Nat → Img} {a : Act} {w : World} {ops : Array Oper} (hs : St m φ A H a w) {o : Oper} {j : Nat} {want : Bool} {t : Nat} (hg : o.guard = some (j, want)) (ht : (ops[j]?).bind (·.dst) = some t) (htm : decide (t < m) = true) (hA : A t = undef) :
    Region.wanted o (yielded ops a.tmps) = false := by
  have e2 := tmp_of hs htm hA (.inr rfl)
  unfold Region.wanted
  rw [hg]
  simp only [yielded, ht, Option.bind_some, e2]
  cases want <;> rfl
theorem APl.actg {i : Nat} {o : Oper} {r : List Oper} (hi' : ops.drop i = o :: r) (h0 : (pure0 o.op || isLoad o.op) = false) (hd : dstOk m o.dst = true) (hx : o.op.operands.toList.all opndOk = true) {j : Nat} {want : Bool} {t : Nat} (hg : o.guard = some (j, want)) (ht : ops.toArray[j]?.bind (·.dst) = some t) (htm : decide (t < m) = true) (hA : A t = .bool want)
    (h : ∀ Kx : Value → Heap → Prop, Cont (∀ v H', heldIn held H' → APl P m ops plan held K (put A o.dst v) H' → Kx v H') → astep P o (ev A) H Kx) : APl P m ops (i :: plan) held K A H := by
  have hi := at_drop hi'
  intro listed hs hp
  simp only [planOk, hi, h0, Bool.false_eq_true, if_false, Bool.and_eq_true, beq_iff_eq] at hp
  have a1 : AOp P m o (fun A' H' => heldIn held H' ∧ APl P m ops plan held K A' H') A H := AOp.step hd hx (h _ fun v H' q1 q2 => ⟨q1, q2⟩)
  intro φ a w Qc hst hl hpn hk
  refine wpAnyH_all hp.1 (by simp) ?_
  intro x hx
  have : x = i := by simpa using hx
  subst this
  unfold wpOp
  rw [hi]
  simp only
  rw [if_pos (by rw [want_b hst hg ht htm hA]; cases want <;> rfl)]
  refine .inl (a1 φ a w _ _ hst ?_)
  rintro φ' A' H' a' w' ⟨hl', hA'⟩ hs' ok'
  refine ⟨⟨φ', H', hs'.holds, ok'.mono, hl'⟩, wpAnyH_mono ?_ _ _ _ _ (hA' _ hs hp.2 φ' a' w' Qc hs' hl' hpn (fun φ2 A2 H2 a2 w2 q2 s2 ok2 => hk φ2 A2 H2 a2 w2 q2 s2 (ok'.trans ok2)))⟩
  rintro w2 ⟨φ2, H2, h1, h2, h3⟩
  exact ⟨φ2, H2, h1, fun b hb => ⟨(h2 b (ok'.has b hb)).1, (h2 b (ok'.has b hb)).2.trans (ok'.img b hb)⟩, h3⟩
theorem APl.actp {i : Nat} {o : Oper} {r : List Oper} (hi' : ops.drop i = o :: r) (h0 : (pure0 o.op || isLoad o.op) = false) (hd : dstOk m o.dst = true) {j : Nat} {want : Bool} {t : Nat} (hg : o.guard = some (j, want)) (ht : ops.toArray[j]?.bind (·.dst) = some t) (htm : decide (t < m) = true) (hA : A t = .bool (!want) ∨ A t = undef)
    (h : APl P m ops plan held K (put A o.dst undef) H) : APl P m ops (i :: plan) held K A H := by
  have hi := at_drop hi'
  intro listed hs hp
  simp only [planOk, hi, h0, Bool.false_eq_true, if_false, Bool.and_eq_true, beq_iff_eq] at hp
  intro φ a w Qc hst hl hpn hk
  refine wpAnyH_all hp.1 (by simp) ?_
  intro x hx
  have : x = i := by simpa using hx
  subst this
  unfold wpOp
  rw [hi]
  simp only
  have hw : Region.wanted o (yielded ops.toArray a.tmps) = false := by
    rcases hA with hA | hA
    · rw [want_b hst hg ht htm hA]; cases want <;> rfl
    · rw [want_u hst hg ht htm hA]
  rw [if_neg (by rw [hw]; simp)]
  exact ⟨SH.self hst.holds hl, h _ hs hp.2 φ _ w Qc (hst.put hd R.undef) hl hpn hk⟩
end
/-! ### Plans with forks -/
inductive PT where
  | done
  | one (i : Nat) (r : PT)
  | two (i : Nat) (p : PT) (j : Nat) (q : PT)
def PT.len : PT → Nat
  | .done => 0
  | .one _ r => r.len + 1
  | .two _ p _ _ => p.len + 1
section
variable {P : Program} {m : Nat} {ops : List Oper} {r : PT} {held : HeldL} {K : Fr → Heap → Prop} {A : Fr} {H : Heap}
def treeOk (ops : Array Oper) : PT → Array Bool → Bool
  | .done, listed => Region.ready .any ops listed == []
  | .one i r, listed => (match ops[i]? with
      | some o => if pure0 o.op || isLoad o.op then Region.free .any ops listed i && (Region.ready .any ops listed).contains i else Region.ready .any ops listed == [i]
      | none => false) && treeOk ops r (listed.setIfInBounds i true)
  | .two i p j q, listed => (Region.ready .any ops listed == [i, j]) && treeOk ops p (listed.setIfInBounds i true) && treeOk ops q (listed.setIfInBounds j true) && (p.len == q.len)
def APt (P : Program) (m : Nat) (l : List Oper) (t : PT) (held : HeldL) (K : Fr → Heap → Prop) (A : Fr) (H : Heap) : Prop :=
  ∀ listed, Region.noSelect l.toArray = true → treeOk l.toArray t listed = true → ADr P m l.toArray t.len listed held K A H
theorem AWp.treed {id : Nat} {l : List Oper} {Q : Exit → Fr → Heap → Prop} (t : PT) (hm : P.follows .mixedOrders = true) (hok : (Region.noSelect l.toArray && treeOk l.toArray t (Array.replicate l.length false) && (t.len == l.length)) = true)
    (h : APt P m l t [] (Q .normal) A H) : AWp P m (.region id l.toArray true) Q A H := by
  simp only [Bool.and_eq_true, beq_iff_eq] at hok
  exact AWp.draw hm hok.2.symm (by rw [hok.2]) (h _ hok.1.1 hok.1.2)
theorem APt.done (h : K A H) : APt P m ops .done held K A H := fun listed _ hp => ADr.done (by simpa [treeOk] using hp) h
theorem APt.pure {i : Nat} {o : Oper} {l : List Oper} (hi' : ops.drop i = o :: l) (h0 : pure0 o.op = true) (hd : dstOk m o.dst = true) (hx : o.op.operands.toList.all opndOk = true) (hg : o.guard = none)
    (h : ∀ Kx : Value → Prop, Cont (∀ v, APt P m ops r held K (put A o.dst v) H → Kx v) → pstep0 P o (ev A) Kx) : APt P m ops (.one i r) held K A H := by
  have hi := at_drop hi'
  intro listed hs hp
  simp only [treeOk, hi, h0, Bool.true_or, if_true, Bool.and_eq_true] at hp
  obtain ⟨v, hv, hq⟩ := pstep0_det h0 (h _ fun v h => h)
  exact ADr.take i hi hs hp.1.1 hp.1.2 hd hx hg v (fun H' _ _ => pgives_step (pstep0_any h0 hq H')) (hv _ hs hp.2)
theorem APt.load {i : Nat} {dst : Option Nat} {t : TypeId} {x : Operand} {ty : TypeId} {pos : String} {af : Array Edge} {l : List Oper} (hi' : ops.drop i = ⟨dst, .load t x, ty, pos, af, none⟩ :: l) (hd : dstOk m dst = true) (hx : opndOk x = true)
    (h : ∀ Kx : Value → HeldL → Prop, Cont (∀ v q, APt P m ops r (q ++ held) K (put A dst v) H → Kx v q) → loadHK P t H (ev A x) Kx) : APt P m ops (.one i r) held K A H := by
  have hi := at_drop hi'
  intro listed hs hp
  simp only [treeOk, hi, isLoad, Bool.or_true, if_true, Bool.and_eq_true] at hp
  obtain ⟨v, q, hK, hl, hall⟩ := loadHK_spec (h _ fun v q h => h)
  refine ADr.holds q hl (ADr.take i hi hs hp.1.1 hp.1.2 hd (by simp [Op.operands, hx]) rfl v (fun H' hl' hh => ?_) (hK _ hs hp.2))
  exact pg_load (hall H' (fun y hy => hl' y (List.mem_append_left _ hy)) hh)
theorem act_core {i : Nat} {o : Oper} {n : Nat} {listed : Array Bool} {φ : Nat → Img} {a : Act} {w : World} {Qc : Exit → Act → World → Prop} (hst : St m φ A H a w) (hl : heldIn held H) (hpn : ∀ c a w, ¬ Qc (.panic c) a w)
    (hk : ∀ φ' A' H' a' w', K A' H' → St m φ' A' H' a' w' → Ok φ H w φ' H' w' → Qc .normal a' w') (hi : ops.toArray[i]? = some o) (hg : o.guard = none)
    (h : AOp P m o (fun A' H' => heldIn held H' ∧ ADr P m ops.toArray n (listed.setIfInBounds i true) held K A' H') A H) :
    wpOp P ops.toArray Qc i (fun a' w' => SH φ H held w' ∧ wpAnyH P .any ops.toArray Qc (SH φ H held) n (listed.setIfInBounds i true) a' w') a w := by
  unfold wpOp
  rw [hi]
  simp only
  rw [if_pos (by simp [Region.wanted, hg])]
  refine .inl (h φ a w _ _ hst ?_)
  rintro φ' A' H' a' w' ⟨hl', hA'⟩ hs' ok'
  refine ⟨⟨φ', H', hs'.holds, ok'.mono, hl'⟩, wpAnyH_mono ?_ _ _ _ _ (hA' φ' a' w' Qc hs' hl' hpn (fun φ2 A2 H2 a2 w2 q2 s2 ok2 => hk φ2 A2 H2 a2 w2 q2 s2 (ok'.trans ok2)))⟩
  rintro w2 ⟨φ2, H2, h1, h2, h3⟩
  exact ⟨φ2, H2, h1, fun b hb => ⟨(h2 b (ok'.has b hb)).1, (h2 b (ok'.has b hb)).2.trans (ok'.img b hb)⟩, h3⟩
theorem APt.act1 {i : Nat} {o : Oper} {l : List Oper} (hi' : ops.drop i = o :: l) (h0 : (pure0 o.op || isLoad o.op) = false) (hg : o.guard = none) (hd : dstOk m o.dst = true) (hx : o.op.operands.toList.all opndOk = true)
    (h : ∀ Kx : Value → Heap → Prop, Cont (∀ v H', heldIn held H' → APt P m ops r held K (put A o.dst v) H' → Kx v H') → astep P o (ev A) H Kx) : APt P m ops (.one i r) held K A H := by
  have hi := at_drop hi'
  intro listed hs hp
  simp only [treeOk, hi, h0, Bool.false_eq_true, if_false, Bool.and_eq_true, beq_iff_eq] at hp
  have a1 : AOp P m o (fun A' H' => heldIn held H' ∧ ADr P m ops.toArray r.len (listed.setIfInBounds i true) held K A' H') A H := AOp.step hd hx (h _ fun v H' q1 q2 => ⟨q1, q2 _ hs hp.2⟩)
  intro φ a w Qc hst hl hpn hk
  refine wpAnyH_all hp.1 (by simp) ?_
  intro x hx
  obtain rfl : x = i := by simpa using hx
  exact act_core hst hl hpn hk hi hg a1
theorem APt.two {i j : Nat} {p q : PT} {o o2 : Oper} {l l2 : List Oper} (hi' : ops.drop i = o :: l) (hj' : ops.drop j = o2 :: l2)
    (hg : o.guard = none) (hd : dstOk m o.dst = true) (hx : o.op.operands.toList.all opndOk = true) (hg2 : o2.guard = none) (hd2 : dstOk m o2.dst = true) (hx2 : o2.op.operands.toList.all opndOk = true)
    (h : ∀ Kx : Value → Heap → Prop, Cont (∀ v H', heldIn held H' → APt P m ops p held K (put A o.dst v) H' → Kx v H') → astep P o (ev A) H Kx)
    (h2 : ∀ Kx : Value → Heap → Prop, Cont (∀ v H', heldIn held H' → APt P m ops q held K (put A o2.dst v) H' → Kx v H') → astep P o2 (ev A) H Kx) : APt P m ops (.two i p j q) held K A H := by
  have hi := at_drop hi'
  have hj := at_drop hj'
  intro listed hs hp
  simp only [treeOk, Bool.and_eq_true, beq_iff_eq] at hp
  obtain ⟨⟨⟨hrdy, hp1⟩, hp2⟩, hlen⟩ := hp
  have a1 : AOp P m o (fun A' H' => heldIn held H' ∧ ADr P m ops.toArray p.len (listed.setIfInBounds i true) held K A' H') A H := AOp.step hd hx (h _ fun v H' q1 q2 => ⟨q1, q2 _ hs hp1⟩)
  have a2 : AOp P m o2 (fun A' H' => heldIn held H' ∧ ADr P m ops.toArray q.len (listed.setIfInBounds j true) held K A' H') A H := AOp.step hd2 hx2 (h2 _ fun v H' q1 q2 => ⟨q1, q2 _ hs hp2⟩)
  intro φ a w Qc hst hl hpn hk
  refine wpAnyH_all hrdy (by simp) ?_
  intro x hx
  rcases (by simpa using hx : x = i ∨ x = j) with rfl | rfl
  · exact act_core hst hl hpn hk hi hg a1
  · rw [hlen]; exact act_core hst hl hpn hk hj hg2 a2
end
/-- A goal that is left for later. -/
structure Later (p : Prop) : Prop where
  out : p
theorem ACalls.hk {P : Program} {f : FuncId} {args : List Value} {H : Heap} {K K' : Value → Heap → Prop} (hK : Cont (∀ v H', K v H' → K' v H')) (h : ACalls P f args H K) : ACalls P f args H K' := h.mono hK.out
theorem ACalls.hkx {P : Program} {f : FuncId} {args : List Value} {H : Heap} {p : Heap → Prop} {K K' : Value → Heap → Prop} (hK : Cont (∀ v H', p H' → K v H' → K' v H')) (h : ACalls P f args H fun v H' => p H' ∧ K v H') : ACalls P f args H K' := h.mono fun v H' q => hK.out v H' q.1 q.2
theorem ex1 {p : Prop} (h : p := by ((repeat first | exact Ext.refl _ | assumption | refine Ext.push ?_ _ | refine Ext.set ?_ _ (by first | omega | (simp only [nx, *]; omega)) | (apply Ext.up; focus (assumption; done))); (first | done | fail))) : p := h
section
variable {P : Program} {m : Nat} {K : Fr → Heap → Prop} {A : Fr} {H : Heap} {dst : Option Nat} {op : Op} {ty : TypeId} {pos : String} {af : Array Edge}
theorem AOps.cons2 {ops : Array Oper} {rest : List Oper} (hd : dstOk m dst = true) (hx : op.operands.toList.all opndOk = true)
    (h : ∀ K' : Value → Heap → Prop, Cont (∀ v H', AOps P m ops rest K (put A dst v) H' → K' v H') → astep P ⟨dst, op, ty, pos, af, none⟩ (ev A) H K') : AOps P m ops (⟨dst, op, ty, pos, af, none⟩ :: rest) K A H := AOps.cons1 rfl hd hx h
variable {ops : List Oper} {plan : List Nat} {held : HeldL} {i : Nat} {r : List Oper}
theorem APl.pure2 (hi' : ops.drop i = ⟨dst, op, ty, pos, af, none⟩ :: r) (h0 : pure0 op = true) (hd : dstOk m dst = true) (hx : op.operands.toList.all opndOk = true)
    (h : ∀ Kx : Value → Prop, Cont (∀ v, APl P m ops plan held K (put A dst v) H → Kx v) → pstep0 P ⟨dst, op, ty, pos, af, none⟩ (ev A) Kx) : APl P m ops (i :: plan) held K A H := APl.pure hi' h0 hd hx rfl h
theorem APl.act2 (hi' : ops.drop i = ⟨dst, op, ty, pos, af, none⟩ :: r) (h0 : (pure0 op || isLoad op) = false) (hd : dstOk m dst = true) (hx : op.operands.toList.all opndOk = true)
    (h : ∀ Kx : Value → Heap → Prop, Cont (∀ v H', heldIn held H' → APl P m ops plan held K (put A dst v) H' → Kx v H') → astep P ⟨dst, op, ty, pos, af, none⟩ (ev A) H Kx) : APl P m ops (i :: plan) held K A H := APl.act1 hi' h0 rfl hd hx h
end
structure ExtR (lo hi : Nat) (H H' : Heap) : Prop where
  size : H.size ≤ H'.size
  get : ∀ b, b < H.size → (b < lo ∨ hi ≤ b) → H'.get b = H.get b
theorem ExtR.refl {lo hi : Nat} (H : Heap) : ExtR lo hi H H := ⟨Nat.le_refl _, fun _ _ _ => rfl⟩
theorem Ext.r {H H' : Heap} (h : Ext H H') (lo hi : Nat) : ExtR lo hi H H' := ⟨h.size, fun b hb _ => h.get b hb⟩
theorem ExtR.trans {lo hi : Nat} {H H1 H2 : Heap} (h : ExtR lo hi H H1) (k : ExtR lo hi H1 H2) : ExtR lo hi H H2 := ⟨Nat.le_trans h.size k.size, fun b hb hn => (k.get b (Nat.lt_of_lt_of_le hb h.size) hn).trans (h.get b hb hn)⟩
theorem ExtR.set {lo hi g : Nat} {H H1 : Heap} (h : ExtR lo hi H H1) (x : Blk) (h1 : lo ≤ g) (h2 : g < hi) : ExtR lo hi H (H1.set g x) := ⟨h.size, fun b hb hn => (get_set_ne (by omega)).trans (h.get b hb hn)⟩
theorem ExtR.push {lo hi : Nat} {H H1 : Heap} (h : ExtR lo hi H H1) (x : Blk) : ExtR lo hi H (H1.push x) := ⟨by rw [Heap.size_push]; exact Nat.le_succ_of_le h.size, fun b hb hn => (get_push_lt (Nat.lt_of_lt_of_le hb h.size)).trans (h.get b hb hn)⟩
theorem Ext.upr {lo hi : Nat} {H Ha H1 : Heap} (h : Ext Ha H1) (g : ExtR lo hi H Ha) : ExtR lo hi H H1 := g.trans (h.r lo hi)
theorem exr {p : Prop} (h : p := by ((repeat first | exact ExtR.refl _ | assumption | refine ExtR.push ?_ _ | refine ExtR.set ?_ _ (by omega) (by omega) | (apply Ext.upr; focus (assumption; done))); (first | done | fail))) : p := h
/-! ### Frames that agree outside a list of places -/
structure Ag (D : List Nat) (A F : Fr) : Prop where
  h : ∀ t, D.contains t = false → A t = F t
theorem Ag.refl (D : List Nat) (A : Fr) : Ag D A A := ⟨fun _ _ => rfl⟩
theorem Ag.nop {D : List Nat} {A F : Fr} {v : Value} (h : Ag D A F) : Ag D (put A none v) F := h
theorem Ag.dead {D : List Nat} {A F : Fr} {d : Nat} {v : Value} (hd : D.contains d = true) (h : Ag D A F) : Ag D (put A (some d) v) F := by
  refine ⟨fun t ht => ?_⟩
  rw [put_at, if_neg (fun e => by rw [e, hd] at ht; cases ht)]
  exact h.h t ht
theorem cons_false {D : List Nat} {d t : Nat} (h : D.contains t = false) (e : t ≠ d) : (d :: D).contains t = false := by
  rw [List.contains_cons, h, Bool.or_false]
  simpa using e
theorem Ag.live {D : List Nat} {A F : Fr} {d : Nat} {v : Value} (hv : v = F d) (h : Ag (d :: D) A F) : Ag D (put A (some d) v) F := by
  refine ⟨fun t ht => ?_⟩
  rw [put_at]
  split
  · rename_i e; rw [e]; exact hv
  · rename_i e; exact h.h t (cons_false ht e)
theorem Ag.up {D E : List Nat} {A F G : Fr} (h : Ag D A F) (hs : D.all (E.contains ·) = true) (g : Ag E F G) : Ag E A G := ⟨fun t ht => by
  rw [h.h t (by
    cases e : D.contains t
    · rfl
    · have := List.all_eq_true.1 hs t (by simpa using e)
      rw [this] at ht; cases ht)]
  exact g.h t ht⟩
theorem Ag.dr {D : List Nat} {A F : Fr} {d : Nat} {v : Value} (hd : D.contains d = true) (h : Ag D A F) : Ag D A (put F (some d) v) := by
  refine ⟨fun t ht => ?_⟩
  rw [put_at, if_neg (fun e => by rw [e, hd] at ht; cases ht)]
  exact h.h t ht
theorem Ag.lr {D : List Nat} {A F : Fr} {d : Nat} {v : Value} (hv : A d = v) (h : Ag (d :: D) A F) : Ag D A (put F (some d) v) := by
  refine ⟨fun t ht => ?_⟩
  rw [put_at]
  split
  · rename_i e; rw [e]; exact hv
  · rename_i e; exact h.h t (cons_false ht e)
theorem AWp.cut {P : Program} {m : Nat} {c : Code} {Q : Exit → Fr → Heap → Prop} {A : Fr} {H : Heap} (h : ∀ A', Ag [] A' A → AWp P m c Q A' H) : AWp P m c Q A H := h A (Ag.refl _ _)
/-- A loop with a state of its own. -/
theorem AWp.loopx {P : Program} {m : Nat} {Q : Exit → Fr → Heap → Prop} {A : Fr} {H : Heap} {c : Code} {σ : Type} (I : σ → Fr → Heap → Prop) (μ : σ → Nat) (s : σ) (h0 : I s A H)
    (round : ∀ s A H, I s A H → AWp P m c (athen (fun A' H' => ∃ s', I s' A' H' ∧ μ s' < μ s) Q) A H) : AWp P m (.loop c) Q A H := by
  intro φ a w hs b k cs
  have key : ∀ n s1 A1 H1 φ1 a1 w1, μ s1 = n → I s1 A1 H1 → St m φ1 A1 H1 a1 w1 → Ok φ H w φ1 H1 w1 →
      ∃ e a' w', (∃ φ' A' H', Q e A' H' ∧ St m φ' A' H' a' w' ∧ Ok φ H w φ' H' w') ∧ Arrives P (lone (b.at a1 (.code c :: .inLoop c :: k)) cs w1) b k cs e a' w' := by
    intro n
    induction n using Nat.strongRecOn with
    | _ n ih =>
      intro s1 A1 H1 φ1 a1 w1 hn hI hs1 ok1
      obtain ⟨e, a2, w2, ⟨φ2, A2, H2, hq, hs2, ok2⟩, harr⟩ := round s1 A1 H1 hI φ1 a1 w1 hs1 b (.inLoop c :: k) cs
      cases e with
      | normal =>
        obtain ⟨s2, hI2, hlt⟩ := hq
        obtain ⟨e3, a3, w3, hq3, harr3⟩ := ih (μ s2) (hn ▸ hlt) s2 A2 H2 φ2 a2 w2 rfl hI2 hs2 (ok1.trans ok2)
        exact ⟨e3, a3, w3, hq3, .of_steps (Steps.trans harr (.one step_inLoop)) harr3⟩
      | exit id => exact ⟨_, a2, w2, ⟨φ2, A2, H2, hq, hs2, ok1.trans ok2⟩, .pass (x := .inLoop c) rfl (fun _ _ => .inl (by simp)) harr⟩
      | goto l => exact ⟨_, a2, w2, ⟨φ2, A2, H2, hq, hs2, ok1.trans ok2⟩, .pass (x := .inLoop c) rfl (fun _ _ => .inl (by simp)) harr⟩
      | ret => exact ⟨_, a2, w2, ⟨φ2, A2, H2, hq, hs2, ok1.trans ok2⟩, .pass (x := .inLoop c) rfl (fun _ _ => .inl (by simp)) harr⟩
      | panic ch => exact ⟨_, a2, w2, ⟨φ2, A2, H2, hq, hs2, ok1.trans ok2⟩, .pass (x := .inLoop c) rfl (fun _ _ => .inl (by simp)) harr⟩
      | outgrown => exact ⟨_, a2, w2, ⟨φ2, A2, H2, hq, hs2, ok1.trans ok2⟩, .pass (x := .inLoop c) rfl (fun _ _ => .inl (by simp)) harr⟩
  obtain ⟨e, a', w', hq, harr⟩ := key _ s A H φ a w rfl h0 hs Ok.refl
  exact ⟨e, a', w', hq, .of_steps (.one step_loop) harr⟩
theorem appendK.hk {P : Program} {st xt : TypeId} {s x : Value} {H : Heap} {K K' : Value → Heap → Prop} (hK : Cont (∀ v H', K v H' → K' v H')) (h : appendK P st xt s x H K) : appendK P st xt s x H K' := by
  unfold appendK at *
  split at h
  · split at h
    · obtain ⟨h1, h2, h3, h4, h5⟩ := h
      refine ⟨h1, h2, h3, h4, ?_⟩
      unfold appsK at *
      split at h5
      · obtain ⟨h6, h7⟩ := h5
        refine ⟨h6, ?_⟩
        split at h7
        · exact ⟨h7.1, fun h => hK.out _ _ (h7.2.1 h), fun h => hK.out _ _ (h7.2.2 h)⟩
        · split at h7
          · exact ⟨h7.1, h7.2.1, h7.2.2.1, fun h => hK.out _ _ (h7.2.2.2.1 h), fun h => ⟨(h7.2.2.2.2 h).1, hK.out _ _ (h7.2.2.2.2 h).2⟩⟩
          · exact h7
        · split at h7
          · exact ⟨h7.1, h7.2.1, fun h => ⟨(h7.2.2.1 h).1, (h7.2.2.1 h).2.1, hK.out _ _ (h7.2.2.1 h).2.2⟩, fun h => ⟨(h7.2.2.2 h).1, hK.out _ _ (h7.2.2.2 h).2⟩⟩
          · exact h7
        · exact h7
      · obtain ⟨h0, cs, hc, h6, h7⟩ := h5
        refine ⟨h0, cs, hc, h6, ?_⟩
        split at h7
        · exact ⟨h7.1, fun h => hK.out _ _ (h7.2.1 h), fun h => hK.out _ _ (h7.2.2 h)⟩
        · split at h7
          · exact ⟨h7.1, h7.2.1, h7.2.2.1, fun h => hK.out _ _ (h7.2.2.2.1 h), fun h => ⟨(h7.2.2.2.2 h).1, hK.out _ _ (h7.2.2.2.2 h).2⟩⟩
          · exact h7
        · split at h7
          · exact ⟨h7.1, h7.2.1, fun h => ⟨(h7.2.2.1 h).1, (h7.2.2.1 h).2.1, hK.out _ _ (h7.2.2.1 h).2.2⟩, fun h => ⟨(h7.2.2.2 h).1, hK.out _ _ (h7.2.2.2 h).2⟩⟩
          · exact h7
        · exact h7
      · exact h5
    · exact h
  · exact h
end Go.Proofs.Ytpbbfephfmdgmaa.Rai
