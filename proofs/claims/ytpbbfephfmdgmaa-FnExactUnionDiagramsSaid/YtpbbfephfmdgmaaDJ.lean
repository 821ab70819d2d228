/- A part of the walk: what functions of the program do, over an abstract heap. -/
import Derived.Test.YtpbbfephfmdgmaaDI
import Derived.Test.YtpbbfephfmdgmaaDU2
import Derived.Test.YtpbbfephfmdgmaaRaiO
namespace Go.Proofs.Ytpbbfephfmdgmaa.Rai
open Go TP
set_option linter.unusedVariables false
set_option linter.unusedSimpArgs false
set_option maxRecDepth 20000
theorem tfDJ : True := trivial
theorem rnDJ {a b : Prop} (hb : b) (h : Later b → a := by
  intro hb
  first
  | ((with_reducible first | refine AOps.nil ?_ | refine athen_n ?_ | refine athen_r ?_ | refine athen_e ?_ | refine ablock_n ?_ | refine ablock_r ?_ | refine ablock_s ?_ | refine AWp.seq' ?_ | refine AWp.block ?_ | refine AWp.skip ?_ | refine AWp.exit ?_ | refine AWp.ret ?_ | refine AWp.region ?_ | (refine ablock_e ?_ ?_; focus rfl)); repeat (with_reducible first | refine AOps.nil ?_ | refine athen_n ?_ | refine athen_r ?_ | refine athen_e ?_ | refine ablock_n ?_ | refine ablock_r ?_ | refine ablock_s ?_ | refine AWp.seq' ?_ | refine AWp.block ?_ | refine AWp.skip ?_ | refine AWp.exit ?_ | refine AWp.ret ?_ | refine AWp.region ?_ | (refine ablock_e ?_ ?_; focus rfl)))
  | (refine AOps.guardu rfl rfl rfl ?_ ?_; focus (simp (disch := (first | omega | (simp only [nx]; first | done | omega))) only [Value.bool.injEq, Bool.and_true, Bool.true_and, Bool.and_false, Bool.false_and, beq_self_eq_true, bne, Bool.not_true, Bool.not_false, sx, nx, dx, ↓reduceIte, reduceCtorEq, Nat.reduceEqDiff, ne_eq, not_false_eq_true, *]; done))
  | ((first | refine AOps.cons2 rfl rfl fun K hK => ?_ | refine AWp.cond rfl fun X Y hX hY => ?_ | refine AOps.guard rfl rfl rfl fun X Y hX hY => ?_ | refine aret_r ?_ | refine aret_n ?_); simp (disch := (first | omega | (simp only [nx]; first | done | omega))) only [acond_bool, aresK, retv, xxq, tfDJ, sliceK, bnd, appendK, appsK, copyK, clearK, makeSliceK, buildSliceK, buildK, lookupK, mapPutK, mapOf, convK, allocK, indexK, partK, xxa, xxb, xxc, bne, Int.reduceEq, Int.reduceBEq, Int.reduceNe, Int.reduceBNe, Int.reduceLE, Int.reduceGT, Int.reduceGE, Int.reduceNeg, ↓reduceIte, reduceCtorEq, Nat.reduceEqDiff, Nat.reduceAdd, Nat.reduceMul, Nat.reduceSub, Nat.reduceLT, Int.reduceAdd, Int.reduceSub, Int.reduceMul, Int.reduceLT, Int.reduceToNat, ne_eq, *]; (repeat first | ((with_reducible refine And.intro (fun hc => ?_) (fun hc => absurd hc (by omega))); clear hc) | ((with_reducible refine And.intro (fun hc => absurd hc (by omega)) (fun hc => ?_)); clear hc) | ((with_reducible refine And.intro ?_ ?_); focus ((first | omega | assumption | exact cok _ rfl | exact one_ints _ | exact one_map fun _ => rfl | ((repeat refine one_cons (by first | rfl | assumption) ?_); exact one_nil) | rfl | decide | (intro u hu; cases hu)); done)) | (with_reducible refine (fun hc => ?_ : _ → _); clear hc)); (first | refine hK.out _ _ ?_ | refine ACalls.hk hK ?_ | refine appendK.hk hK ?_ | refine (fun (q : _ ∧ _) => And.intro (hK.out _ _ q.1) (hK.out _ _ q.2)) ?_ | refine hX.out ?_ | refine hY.out ?_ | refine (fun (q : (_ → _) ∧ (_ → _)) => And.intro (fun hc => hX.out (q.1 hc)) (fun hc => hY.out (q.2 hc))) ?_ | refine (fun (q : (_ → _) ∧ (_ → _)) => And.intro (fun hc => hY.out (q.1 hc)) (fun hc => hX.out (q.2 hc))) ?_ | skip))
  exact hb.out) : a := h ⟨hb⟩
theorem hlDJ {p b : Prop} (hb : b) (h : p := by simp (disch := (first | omega | (simp only [nx]; first | done | omega))) only [heldIn_iff, List.zipIdx_cons, List.zipIdx_nil, List.map_cons, List.map_nil, xxq, tfDJ, sliceK, bnd, appendK, appsK, copyK, clearK, makeSliceK, buildSliceK, buildK, lookupK, mapPutK, mapOf, convK, allocK, indexK, partK, xxa, xxb, xxc, bne, Int.reduceEq, Int.reduceBEq, Int.reduceNe, Int.reduceBNe, Int.reduceLE, Int.reduceGT, Int.reduceGE, Int.reduceNeg, ↓reduceIte, reduceCtorEq, Nat.reduceEqDiff, Nat.reduceAdd, Nat.reduceMul, Nat.reduceSub, Nat.reduceLT, Int.reduceAdd, Int.reduceSub, Int.reduceMul, Int.reduceLT, Int.reduceToNat, ne_eq, *]; first | done | trivial) : p ∧ b := ⟨h, hb⟩
theorem ivDJ {p : Prop} (h : p := by first | omega | ((repeat first | exact Ext.refl _ | assumption | refine Ext.push ?_ _ | refine Ext.set ?_ _ (by first | omega | (simp only [nx, *]; omega)) | (apply Ext.up; focus (assumption; done))); done) | (simp (disch := (first | omega | (simp only [nx]; first | done | omega))) only [xxq, xxa, xxb, xxc, bne, Int.reduceEq, Int.reduceBEq, Int.reduceNe, Int.reduceBNe, Int.reduceLE, Int.reduceGT, Int.reduceGE, Int.reduceNeg, ↓reduceIte, reduceCtorEq, Nat.reduceEqDiff, Nat.reduceAdd, Nat.reduceMul, Nat.reduceSub, Nat.reduceLT, Int.reduceAdd, Int.reduceSub, Int.reduceMul, Int.reduceLT, Int.reduceToNat, ne_eq, *, intV_int]; first | done | omega | rfl | exact congrArg (Value.int .i64) (by omega) | ((repeat first | exact Ext.refl _ | assumption | refine Ext.push ?_ _ | refine Ext.set ?_ _ (by first | omega | (simp only [nx, *]; omega)) | (apply Ext.up; focus (assumption; done))); done)) | rfl) : p := h
theorem smDJ {a b : Prop} (hb : b) (h : Later b → a := by intro hb; simp (disch := (first | omega | (simp only [nx]; first | done | omega))) only [xxq, xxa, xxb, xxc, bne, Int.reduceEq, Int.reduceBEq, Int.reduceNe, Int.reduceBNe, Int.reduceLE, Int.reduceGT, Int.reduceGE, Int.reduceNeg, ↓reduceIte, reduceCtorEq, Nat.reduceEqDiff, Nat.reduceAdd, Nat.reduceMul, Nat.reduceSub, Nat.reduceLT, Int.reduceAdd, Int.reduceSub, Int.reduceMul, Int.reduceLT, Int.reduceToNat, ne_eq, *, intV_int]; exact hb.out) : a := h ⟨hb⟩
theorem gtDJ {A F : Fr} {t : Nat} {v : Value} (h : Ag [] A F) (e : F t = v := by simp (disch := (first | omega | (simp only [nx]; first | done | omega))) only [xxq, xxa, xxb, xxc, bne, Int.reduceEq, Int.reduceBEq, Int.reduceNe, Int.reduceBNe, Int.reduceLE, Int.reduceGT, Int.reduceGE, Int.reduceNeg, ↓reduceIte, reduceCtorEq, Nat.reduceEqDiff, Nat.reduceAdd, Nat.reduceMul, Nat.reduceSub, Nat.reduceLT, Int.reduceAdd, Int.reduceSub, Int.reduceMul, Int.reduceLT, Int.reduceToNat, ne_eq, *, intV_int]; exact rfl) : A t = v := (h.h t rfl).trans e
theorem agDJ {D : List Nat} {A F : Fr} (h : Ag D A F := by
  repeat (with_reducible first | exact Ag.refl _ _ | refine Ag.nop ?_ | refine Ag.dead rfl ?_ | (refine Ag.live ?_ ?_; focus exact ivDJ) | refine Ag.dr rfl ?_ | (refine Ag.lr ?_ ?_; focus exact ivDJ) | refine Ag.up (by assumption) rfl ?_)) : Ag D A F := h
theorem sdDJ {p : Prop} (h : p := by first | omega | assumption | (simp (disch := (first | omega | (simp only [nx]; first | done | omega))) only [xxq, tfDJ, sliceK, bnd, appendK, appsK, copyK, clearK, makeSliceK, buildSliceK, buildK, lookupK, mapPutK, mapOf, convK, allocK, indexK, partK, xxa, xxb, xxc, bne, Int.reduceEq, Int.reduceBEq, Int.reduceNe, Int.reduceBNe, Int.reduceLE, Int.reduceGT, Int.reduceGE, Int.reduceNeg, ↓reduceIte, reduceCtorEq, Nat.reduceEqDiff, Nat.reduceAdd, Nat.reduceMul, Nat.reduceSub, Nat.reduceLT, Int.reduceAdd, Int.reduceSub, Int.reduceMul, Int.reduceLT, Int.reduceToNat, ne_eq, *]; first | done | omega | rfl)) : p := h
/-- From a place on, until a place that was met. -/
def walk (s : Nat → Nat) : Nat → List Bool → Nat → List Int → List Bool × List Int
  | 0, d, _, l => (d, l)
  | f + 1, d, a, l => if d.getD a false = true then (d, l) else walk s f (d.set a true) (s a) (l ++ [(a : Int)])
def regs (s : Nat → Nat) (N : Nat) : Nat → List Bool × List (List Int)
  | 0 => (List.replicate N false, [])
  | k + 1 => if (regs s N k).1.getD k false = true then regs s N k else
    ((walk s (N + 1) (regs s N k).1 k []).1, (regs s N k).2 ++ [(walk s (N + 1) (regs s N k).1 k []).2])
theorem walk_len (s : Nat → Nat) : ∀ f d a l, (walk s f d a l).1.length = d.length
  | 0, d, a, l => rfl
  | f + 1, d, a, l => by
    unfold walk; split
    · rfl
    · rw [walk_len s f]; simp
theorem regs_len (s : Nat → Nat) (N : Nat) : ∀ k, (regs s N k).1.length = N
  | 0 => by simp [regs]
  | k + 1 => by
    unfold regs; split
    · exact regs_len s N k
    · rw [walk_len]; exact regs_len s N k
theorem count_set_true {d : List Bool} {a : Nat} (h : d.getD a false = false) (ha : a < d.length) : (d.set a true).count false + 1 = d.count false := by
  have hg : d[a] = false := by simpa [ha] using h
  have := List.count_set (a := true) (b := false) (l := d) (i := a) ha
  have h1 : 0 < d.count false := List.count_pos_iff.2 (hg ▸ List.getElem_mem ha)
  simp [hg] at this
  omega
theorem walk_short {s : Nat → Nat} {N : Nat} (hs : ∀ x, x < N → s x < N) : ∀ f d a l, d.length = N → a < N → (walk s f d a l).2.length + (walk s f d a l).1.count false ≤ l.length + d.count false
  | 0, d, a, l, _, _ => Nat.le_refl _
  | f + 1, d, a, l, hd, ha => by
    unfold walk; split
    · exact Nat.le_refl _
    · rename_i h
      have h2 := count_set_true (by simpa using h) (by omega)
      have h1 := walk_short hs f (d.set a true) (s a) (l ++ [(a : Int)]) (by simpa using hd) (hs a ha)
      rw [List.length_append, List.length_singleton] at h1; omega
theorem regs_short {s : Nat → Nat} {N : Nat} (hs : ∀ x, x < N → s x < N) : ∀ k, k ≤ N → (regs s N k).2.length ≤ k ∧ ∀ a, a < (regs s N k).2.length → ((regs s N k).2.getD a []).length ≤ N
  | 0, _ => ⟨by simp [regs], fun a ha => by simp [regs] at ha⟩
  | k + 1, hk => by
    obtain ⟨h1, h2⟩ := regs_short hs k (by omega)
    unfold regs; split
    · exact ⟨by omega, h2⟩
    · refine ⟨by simp; omega, fun a ha => ?_⟩
      by_cases e : a < (regs s N k).2.length
      · rw [List.getD_eq_getElem?_getD, List.getElem?_append_left e, ← List.getD_eq_getElem?_getD]; exact h2 a e
      · obtain rfl : a = (regs s N k).2.length := by simp at ha; omega
        have h3 := walk_short hs (N + 1) (regs s N k).1 k [] (regs_len s N k) (by omega)
        have h4 : (regs s N k).1.count false ≤ N := by have := List.count_le_length (a := false) (l := (regs s N k).1); rw [regs_len] at this; exact this
        rw [List.getD_eq_getElem?_getD, List.getElem?_append_right (Nat.le_refl _), Nat.sub_self]
        simp only [List.getElem?_cons_zero, Option.getD_some, List.length_nil] at h3 ⊢
        omega
/-- Rows that grow, each in a block of its own. -/
def OLL (lo hi : Nat) (H : Heap) (v : Value) (g : Nat) (R : List (List Int)) : Prop := ∃ (L : List Value) (bs : Nat → Nat), OL H v g L ∧ L.length = R.length ∧ hi ≤ H.size ∧ (∀ a, a < R.length → ∃ c', L[a]? = some (.slice (some ⟨bs a, 0, none⟩) (R.getD a []).length c') ∧ lo ≤ bs a ∧ bs a < hi ∧ bs a ≠ g ∧ H.get (bs a) = .cells (ints (R.getD a [])) 1 false) ∧ ∀ a a', a < R.length → a' < R.length → a ≠ a' → bs a ≠ bs a'
theorem OLL.nil {lo hi g : Nat} {H : Heap} {v : Value} (h : OL H v g []) (hh : hi ≤ H.size) : OLL lo hi H v g [] := ⟨[], fun _ => 0, h, rfl, hh, fun a ha => by simp at ha, fun a a' ha => by simp at ha⟩
theorem OLL.keep {lo hi hi' g : Nat} {H H' : Heap} {v : Value} {R : List (List Int)} (h : OLL lo hi H v g R) (hs : H.size ≤ H'.size) (hk : ∀ b, lo ≤ b → b < hi → H'.get b = H.get b) (hg : v = .slice none 0 0 ∨ (g < H.size → H'.get g = H.get g)) (hh : hi ≤ hi') (hh' : hi' ≤ H'.size) : OLL lo hi' H' v g R := by
  obtain ⟨L, bs, h1, h2, h3, h4, h5⟩ := h
  refine ⟨L, bs, h1.keep hs hg, h2, hh', fun a ha => ?_, h5⟩
  obtain ⟨c', k1, k2, k3, k4, k5⟩ := h4 a ha
  exact ⟨c', k1, k2, by omega, k4, (hk _ k2 k3).trans k5⟩
theorem OLL.one {lo hi g : Nat} {H : Heap} {v : Value} {R : List (List Int)} (h : OLL lo hi H v g R) : v.oneCell' = true := by obtain ⟨L, bs, h1, _⟩ := h; exact h1.one
theorem OLL.len {lo hi g : Nat} {H : Heap} {v : Value} {R : List (List Int)} (h : OLL lo hi H v g R) : ∃ p c, v = .slice p R.length c := by
  obtain ⟨L, bs, h1, h2, _⟩ := h
  rcases h1 with ⟨rfl, rfl⟩ | ⟨c, rfl, _⟩
  · exact ⟨none, 0, by rw [← h2]; rfl⟩
  · exact ⟨_, c, by rw [h2]⟩
theorem OLL.append {P : Program} {st xt et z : Nat} {zv : Value} (ht : P.underlying st = some (.slice et) ∧ cz P et = some 1 ∧ bz P et = some z ∧ zr P et = some zv ∧ el P xt = some (none, 1)) (hz : 0 < z ∧ z ≤ 64 ∧ constOk zv = true ∧ zv.cells.size = 1)
    {lo hi g gx b n c' k : Nat} {H : Heap} {v : Value} {R : List (List Int)} {row : List Int} {K : Value → Heap → Prop} (hO : OLL lo hi H v g R) (hx : H.get gx = .cells [.slice (some ⟨b, 0, none⟩) n c'] 1 false) (hgx : R ≠ [] → gx ≠ g) (hn : row.length = n) (hb1 : hi ≤ b) (hlo : lo ≤ b) (hb2 : b < H.size) (hbg : R ≠ [] → b ≠ g) (hb3 : H.get b = .cells (ints row) 1 false) (hR : R.length ≤ 1000000)
    (h : ∀ v' g' H', OLL lo H.size H' v' g' (R ++ [row]) → H.size ≤ g' → H.size ≤ H'.size → (∀ b, b < H.size → (R ≠ [] → b ≠ g) → H'.get b = H.get b) → K v' H') : appendK P st xt v (.slice (some ⟨gx, 0, none⟩) 1 k) H K := by
  obtain ⟨L, bs, h1, h2, h3, h4, h5⟩ := hO
  have hLR : L ≠ [] ↔ R ≠ [] := by
    rw [← List.length_pos_iff, ← List.length_pos_iff, h2]
  refine OL.append ht hz h1 hx rfl (by omega) (fun h => hgx (hLR.1 h)) (fun v hv => by simp at hv; subst hv; rfl) (by omega) ?_
  intro v' g' H' o1 o2 o3 o4
  refine h v' g' H' ⟨_, fun a => if a < R.length then bs a else b, o1, by simp [h2], o3, fun a ha => ?_, fun a a' ha ha' hne => ?_⟩ o2 o3 (fun b hb hh => o4 b hb fun h => hh (hLR.1 h))
  · rw [List.length_append, List.length_singleton] at ha
    by_cases e : a < R.length
    · obtain ⟨c1, k1, k2, k3, k4, k5⟩ := h4 a e
      have e1 : (R ++ [row]).getD a [] = R.getD a [] := by rw [List.getD_eq_getElem?_getD, List.getElem?_append_left e, ← List.getD_eq_getElem?_getD]
      rw [e1]
      dsimp only
      rw [if_pos e]
      exact ⟨c1, by rw [List.getElem?_append_left (by omega), k1], k2, by omega, by omega, by rw [o4 _ (by omega) (fun _ => k4), k5]⟩
    · obtain rfl : a = R.length := by omega
      have e1 : (R ++ [row]).getD R.length [] = row := by rw [List.getD_eq_getElem?_getD, List.getElem?_append_right (Nat.le_refl _)]; simp
      rw [e1]
      dsimp only
      rw [if_neg e]
      exact ⟨c', by rw [List.getElem?_append_right (by omega), h2, Nat.sub_self, hn]; rfl, hlo, hb2, by omega, by rw [o4 _ hb2 (fun h => hbg (hLR.1 h)), hb3]⟩
  · rw [List.length_append, List.length_singleton] at ha ha'
    dsimp only
    split <;> split
    · exact h5 a a' (by omega) (by omega) hne
    · rename_i q1 q2
      obtain ⟨_, _, _, k3, _⟩ := h4 a q1
      omega
    · rename_i q1 q2
      obtain ⟨_, _, _, k3, _⟩ := h4 a' q2
      omega
    · omega
theorem OLL.own {lo hi g : Nat} {H : Heap} {v : Value} {R : List (List Int)} (h : OLL lo hi H v g R) {lo' : Nat} (h1 : lo' ≤ lo) (h4 : v = .slice none 0 0 ∨ lo' ≤ g) : OwnRR lo' H.size H v R := by
  obtain ⟨L, bs, k1, k2, k3, k4, k5⟩ := h
  rcases k1 with ⟨rfl, rfl⟩ | ⟨c, rfl, q1, q2, q3⟩
  · exact .inl ⟨rfl, List.eq_nil_of_length_eq_zero k2.symm⟩
  · refine .inr ⟨g, c, L, bs, by rw [k2], by rcases h4 with h | h; cases h; exact h, q1, Nat.le_refl _, q2, fun a ha => ?_, k5⟩
    obtain ⟨c', w1, w2, w3, w4, w5⟩ := k4 a ha
    exact ⟨c', w1, by omega, by omega, w4, w5⟩
theorem OLL.lt {lo hi g : Nat} {H : Heap} {v : Value} {R : List (List Int)} (h : OLL lo hi H v g R) (hl : R ≠ []) : g < H.size := by
  obtain ⟨L, bs, h1, h2, _⟩ := h
  exact h1.lt (by rw [← List.length_pos_iff, h2]; exact List.length_pos_iff.2 hl)
end Go.Proofs.Ytpbbfephfmdgmaa.Rai
