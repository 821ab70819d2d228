/- A part of the walk: what functions of the program do, over an abstract heap. -/
import Derived.Test.YtpbbfephfmdgmaaEB
namespace Go.Proofs.Ytpbbfephfmdgmaa.Rai
open Go TP
set_option linter.unusedVariables false
set_option linter.unusedSimpArgs false
set_option maxRecDepth 20000
theorem tfEG : (Try.prog.underlying 27 = some (.slice 54)) ∧ (el Try.prog 27 = some (none, 5)) ∧ (tk Try.prog 54 = some (some 5)) ∧ (cz Try.prog 54 = some 5) ∧ (bz Try.prog 54 = some 40) ∧ (zr Try.prog 54 = some (.agg #[.int .i64 0, .int .i64 0, .int .i64 0, .int .i64 0, .int .i64 0])) := by
  refine ⟨?_, ?_, ?_, ?_, ?_, ?_⟩ <;> kernel_rfl
theorem rnEG {a b : Prop} (hb : b) (h : Later b → a := by
  intro hb
  first
  | ((with_reducible first | refine AOps.nil ?_ | refine athen_n ?_ | refine athen_r ?_ | refine athen_e ?_ | refine ablock_n ?_ | refine ablock_r ?_ | refine ablock_s ?_ | refine AWp.seq' ?_ | refine AWp.block ?_ | refine AWp.skip ?_ | refine AWp.exit ?_ | refine AWp.ret ?_ | refine AWp.region ?_ | (refine ablock_e ?_ ?_; focus rfl)); repeat (with_reducible first | refine AOps.nil ?_ | refine athen_n ?_ | refine athen_r ?_ | refine athen_e ?_ | refine ablock_n ?_ | refine ablock_r ?_ | refine ablock_s ?_ | refine AWp.seq' ?_ | refine AWp.block ?_ | refine AWp.skip ?_ | refine AWp.exit ?_ | refine AWp.ret ?_ | refine AWp.region ?_ | (refine ablock_e ?_ ?_; focus rfl)))
  | (refine AOps.guardu rfl rfl rfl ?_ ?_; focus (simp (disch := (first | omega | (simp only [nx]; first | done | omega))) only [Value.bool.injEq, Bool.and_true, Bool.true_and, Bool.and_false, Bool.false_and, beq_self_eq_true, bne, Bool.not_true, Bool.not_false, sx, nx, dx, ↓reduceIte, reduceCtorEq, Nat.reduceEqDiff, ne_eq, not_false_eq_true, *]; done))
  | ((first | refine AOps.cons2 rfl rfl fun K hK => ?_ | refine AWp.cond rfl fun X Y hX hY => ?_ | refine AOps.guard rfl rfl rfl fun X Y hX hY => ?_ | refine aret_r ?_ | refine aret_n ?_); simp (disch := (first | omega | (simp only [nx]; first | done | omega))) only [acond_bool, aresK, retv, xxq, tfEG, sliceK, bnd, copyK, clearK, makeSliceK, buildSliceK, buildK, lookupK, mapPutK, mapOf, convK, allocK, indexK, partK, xxa, xxb, xxc, bne, Int.reduceEq, Int.reduceBEq, Int.reduceNe, Int.reduceBNe, Int.reduceLE, Int.reduceGT, Int.reduceGE, Int.reduceNeg, ↓reduceIte, reduceCtorEq, Nat.reduceEqDiff, Nat.reduceAdd, Nat.reduceMul, Nat.reduceSub, Nat.reduceLT, Int.reduceAdd, Int.reduceSub, Int.reduceMul, Int.reduceLT, Int.reduceToNat, ne_eq, *]; (repeat first | ((with_reducible refine And.intro (fun hc => ?_) (fun hc => absurd hc (by omega))); clear hc) | ((with_reducible refine And.intro (fun hc => absurd hc (by omega)) (fun hc => ?_)); clear hc) | ((with_reducible refine And.intro ?_ ?_); focus ((first | omega | assumption | exact cok _ rfl | exact one_ints _ | exact one_map fun _ => rfl | ((repeat refine one_cons (by first | rfl | assumption) ?_); exact one_nil) | rfl | decide | (intro u hu; cases hu)); done)) | (with_reducible refine (fun hc => ?_ : _ → _); clear hc)); (first | refine hK.out _ _ ?_ | refine ACalls.hk hK ?_ | refine appendK.hk hK ?_ | refine (fun (q : _ ∧ _) => And.intro (hK.out _ _ q.1) (hK.out _ _ q.2)) ?_ | refine hX.out ?_ | refine hY.out ?_ | refine (fun (q : (_ → _) ∧ (_ → _)) => And.intro (fun hc => hX.out (q.1 hc)) (fun hc => hY.out (q.2 hc))) ?_ | refine (fun (q : (_ → _) ∧ (_ → _)) => And.intro (fun hc => hY.out (q.1 hc)) (fun hc => hX.out (q.2 hc))) ?_ | skip))
  exact hb.out) : a := h ⟨hb⟩
theorem hlEG {p b : Prop} (hb : b) (h : p := by simp (disch := (first | omega | (simp only [nx]; first | done | omega))) only [heldIn_iff, List.zipIdx_cons, List.zipIdx_nil, List.map_cons, List.map_nil, xxq, tfEG, sliceK, bnd, copyK, clearK, makeSliceK, buildSliceK, buildK, lookupK, mapPutK, mapOf, convK, allocK, indexK, partK, xxa, xxb, xxc, bne, Int.reduceEq, Int.reduceBEq, Int.reduceNe, Int.reduceBNe, Int.reduceLE, Int.reduceGT, Int.reduceGE, Int.reduceNeg, ↓reduceIte, reduceCtorEq, Nat.reduceEqDiff, Nat.reduceAdd, Nat.reduceMul, Nat.reduceSub, Nat.reduceLT, Int.reduceAdd, Int.reduceSub, Int.reduceMul, Int.reduceLT, Int.reduceToNat, ne_eq, *]; first | done | trivial) : p ∧ b := ⟨h, hb⟩
theorem ivEG {p : Prop} (h : p := by first | omega | ((repeat first | exact Ext.refl _ | assumption | refine Ext.push ?_ _ | refine Ext.set ?_ _ (by first | omega | (simp only [nx, *]; omega)) | (apply Ext.up; focus (assumption; done))); done) | (simp (disch := (first | omega | (simp only [nx]; first | done | omega))) only [xxq, xxa, xxb, xxc, bne, Int.reduceEq, Int.reduceBEq, Int.reduceNe, Int.reduceBNe, Int.reduceLE, Int.reduceGT, Int.reduceGE, Int.reduceNeg, ↓reduceIte, reduceCtorEq, Nat.reduceEqDiff, Nat.reduceAdd, Nat.reduceMul, Nat.reduceSub, Nat.reduceLT, Int.reduceAdd, Int.reduceSub, Int.reduceMul, Int.reduceLT, Int.reduceToNat, ne_eq, *, intV_int]; first | done | omega | rfl | exact congrArg (Value.int .i64) (by omega) | ((repeat first | exact Ext.refl _ | assumption | refine Ext.push ?_ _ | refine Ext.set ?_ _ (by first | omega | (simp only [nx, *]; omega)) | (apply Ext.up; focus (assumption; done))); done)) | rfl) : p := h
theorem smEG {a b : Prop} (hb : b) (h : Later b → a := by intro hb; simp (disch := (first | omega | (simp only [nx]; first | done | omega))) only [xxq, xxa, xxb, xxc, bne, Int.reduceEq, Int.reduceBEq, Int.reduceNe, Int.reduceBNe, Int.reduceLE, Int.reduceGT, Int.reduceGE, Int.reduceNeg, ↓reduceIte, reduceCtorEq, Nat.reduceEqDiff, Nat.reduceAdd, Nat.reduceMul, Nat.reduceSub, Nat.reduceLT, Int.reduceAdd, Int.reduceSub, Int.reduceMul, Int.reduceLT, Int.reduceToNat, ne_eq, *, intV_int]; exact hb.out) : a := h ⟨hb⟩
theorem gtEG {A F : Fr} {t : Nat} {v : Value} (h : Ag [] A F) (e : F t = v := by simp (disch := (first | omega | (simp only [nx]; first | done | omega))) only [xxq, xxa, xxb, xxc, bne, Int.reduceEq, Int.reduceBEq, Int.reduceNe, Int.reduceBNe, Int.reduceLE, Int.reduceGT, Int.reduceGE, Int.reduceNeg, ↓reduceIte, reduceCtorEq, Nat.reduceEqDiff, Nat.reduceAdd, Nat.reduceMul, Nat.reduceSub, Nat.reduceLT, Int.reduceAdd, Int.reduceSub, Int.reduceMul, Int.reduceLT, Int.reduceToNat, ne_eq, *, intV_int]; exact rfl) : A t = v := (h.h t rfl).trans e
theorem agEG {D : List Nat} {A F : Fr} (h : Ag D A F := by
  repeat (with_reducible first | exact Ag.refl _ _ | refine Ag.nop ?_ | refine Ag.dead rfl ?_ | (refine Ag.live ?_ ?_; focus exact ivEG) | refine Ag.dr rfl ?_ | (refine Ag.lr ?_ ?_; focus exact ivEG) | refine Ag.up (by assumption) rfl ?_)) : Ag D A F := h
theorem sdEG {p : Prop} (h : p := by first | omega | assumption | (simp (disch := (first | omega | (simp only [nx]; first | done | omega))) only [xxq, tfEG, sliceK, bnd, copyK, clearK, makeSliceK, buildSliceK, buildK, lookupK, mapPutK, mapOf, convK, allocK, indexK, partK, xxa, xxb, xxc, bne, Int.reduceEq, Int.reduceBEq, Int.reduceNe, Int.reduceBNe, Int.reduceLE, Int.reduceGT, Int.reduceGE, Int.reduceNeg, ↓reduceIte, reduceCtorEq, Nat.reduceEqDiff, Nat.reduceAdd, Nat.reduceMul, Nat.reduceSub, Nat.reduceLT, Int.reduceAdd, Int.reduceSub, Int.reduceMul, Int.reduceLT, Int.reduceToNat, ne_eq, *]; first | done | omega | rfl)) : p := h
/-- A whole row appended to a row just made. -/
theorem lit_append {P : Program} {st xt et sz z : Nat} {zv : Value} (ht : P.underlying st = some (.slice et) ∧ cz P et = some sz ∧ bz P et = some z ∧ zr P et = some zv ∧ el P xt = some (none, sz)) (hz : 0 < z ∧ z ≤ 64 ∧ constOk zv = true ∧ zv.cells.size = sz ∧ 0 < sz)
    {H : Heap} {g gx k m : Nat} {ro : Bool} {new : List Value} {K : Value → Heap → Prop} (h0 : H.get g = .cells [] sz false) (hg : g < H.size) (hx : H.get gx = .cells new sz ro) (hnl : new.length = m * sz) (h1 : oneCells new) (hL : m ≤ 1000000000)
    (h : ∀ v' g' H', OG sz H' v' g' m new → g ≤ g' → H.size ≤ H'.size → (∀ b, b < H.size → H'.get b = H.get b) → K v' H') : appendK P st xt (.slice (some ⟨g, 0, none⟩) 0 1) (.slice (some ⟨gx, 0, none⟩) m k) H K := by
  by_cases hm : m = 0
  · subst hm
    have hn : new = [] := List.eq_nil_of_length_eq_zero (by omega)
    subst hn
    obtain ⟨t1, t2, t3, t4, t5⟩ := ht
    obtain ⟨z1, z2, z3, z4, z5⟩ := hz
    have hr : H.range gx 0 (0 * sz) = some [] := by
      simp only [Heap.range, hx]
      rw [if_pos (by omega)]
      simp
    have hgg : (H.set g (.cells [] sz false)).get g = .cells [] sz false := by
      rw [Heap.get_set]
      simp [hg]
    unfold appendK appsK
    simp only [t1, t2, t3, t4, t5]
    refine ⟨z5, z1, z3, z4, by trivial, [], hr, h1, ?_⟩
    simp only [h0]
    refine ⟨trivial, by simp, fun _ => ⟨trivial, by simp, ?_⟩, fun e => absurd e (by omega)⟩
    have e1 : ([] : List Value).take (0 + 0 * sz) ++ [] ++ ([] : List Value).drop (0 + (0 + 0) * sz) = [] := by simp
    rw [e1]
    refine h _ g _ (.inr ⟨1, rfl, by rw [Heap.size_set]; exact hg, hgg, by simp, .inr ⟨rfl, rfl⟩⟩) (Nat.le_refl _) (by rw [Heap.size_set]; omega) (fun b hb => ?_)
    by_cases e : b = g
    · subst e; rw [hgg, h0]
    · rw [get_set_ne e]
  · refine OG.append (n := 0) (L := []) ht hz (.inr ⟨1, rfl, hg, h0, by simp, .inr ⟨rfl, rfl⟩⟩) hx hnl hm h1 (by omega) fun v' g' H' hO a b c => h v' g' H' ?_ (by omega) b (fun b hb => c b hb (fun q => absurd rfl q))
    rw [Nat.zero_add, List.nil_append] at hO
    exact hO
/-- The arcs of a crossing behind m arcs of another diagram. -/
def shC (m : Int) (x : Cr) : Cr := ⟨x.a + m, x.b + m, x.c + m, x.d + m, x.s⟩
theorem arcs4 {C : List Cr} (h : Cnt C) {k : Nat} (hk : k < C.length) : (0 ≤ (C.getD k cr0).a ∧ (C.getD k cr0).a ≤ 2 * C.length) ∧ (0 ≤ (C.getD k cr0).b ∧ (C.getD k cr0).b ≤ 2 * C.length) ∧ (0 ≤ (C.getD k cr0).c ∧ (C.getD k cr0).c ≤ 2 * C.length) ∧ (0 ≤ (C.getD k cr0).d ∧ (C.getD k cr0).d ≤ 2 * C.length) := by
  have h0 := h.2 (4 * k) (by omega)
  have h1 := h.2 (4 * k + 1) (by omega)
  have h2 := h.2 (4 * k + 2) (by omega)
  have h3 := h.2 (4 * k + 3) (by omega)
  unfold ok1 eAt at h0 h1 h2 h3
  rw [show 4 * k / 4 = k by omega, show 4 * k % 4 = 0 by omega] at h0
  rw [show (4 * k + 1) / 4 = k by omega, show (4 * k + 1) % 4 = 1 by omega] at h1
  rw [show (4 * k + 2) / 4 = k by omega, show (4 * k + 2) % 4 = 2 by omega] at h2
  rw [show (4 * k + 3) / 4 = k by omega, show (4 * k + 3) % 4 = 3 by omega] at h3
  have a1 : 0 ≤ (C.getD k cr0).a := h0.1
  have a2 : (C.getD k cr0).a ≤ ((2 * C.length : Nat) : Int) - 1 := h0.2.1
  have b1 : 0 ≤ (C.getD k cr0).b := h1.1
  have b2 : (C.getD k cr0).b ≤ ((2 * C.length : Nat) : Int) - 1 := h1.2.1
  have c1 : 0 ≤ (C.getD k cr0).c := h2.1
  have c2 : (C.getD k cr0).c ≤ ((2 * C.length : Nat) : Int) - 1 := h2.2.1
  have d1 : 0 ≤ (C.getD k cr0).d := h3.1
  have d2 : (C.getD k cr0).d ≤ ((2 * C.length : Nat) : Int) - 1 := h3.2.1
  omega
theorem crs_one (C : List Cr) : oneCells (crs C) := by
  intro v hv
  obtain ⟨x, _, hx⟩ := List.mem_flatMap.1 hv
  simp only [cr5, List.mem_cons, List.not_mem_nil, or_false] at hx
  rcases hx with rfl | rfl | rfl | rfl | rfl <;> rfl
theorem Clone_c {H : Heap} {v : Value} {g : Nat} {C : List Cr} (hO : OwC H v g C) (hn : C.length ≤ 1000000) : ACalls Try.prog 81 [v] H fun u H' => (∃ g', OG 5 H' u g' C.length (crs C) ∧ H.size ≤ g') ∧ Ext H H' := by
  have hone := hO.rd.one
  obtain ⟨k, rfl, hg, hgg⟩ := hO
  have hcl := crs_len C
  have hcn : (some (⟨g, 0, none⟩ : Addr)).isNone = false := rfl
  refine ACalls.body Try.func81 rfl Try.ntmps81 (rs := [.tmp 2]) rfl (by simp) rfl fun Q hQ A hA => ?_
  have a0 := hA 0 _ _ rfl
  clear hA
  repeat' first | refine rnEG ?_ | with_reducible refine And.intro (fun hc => ?_) (fun hc => ?_) | fail
  refine lit_append (z := 40) (new := crs C) (ro := false) apC ⟨by decide, by decide, ck5, rfl, by decide⟩ (by rw [get_push_eq rfl]; simp [zcells]) (by simp only [nx]; omega) (by exact ivEG) hcl (crs_one C) (by omega) ?_
  rintro w4 g4 H4 hO4 hg4 hs4 hk4
  simp only [nx] at hs4 hk4
  have hw4 := hO4.one
  repeat' first | refine rnEG ?_ | with_reducible refine And.intro (fun hc => ?_) (fun hc => ?_) | fail
  exact hQ.out _ _ ⟨⟨g4, hO4, hg4⟩, by omega, fun b hb => by rw [hk4 b (by omega), get_push_lt hb]⟩
end Go.Proofs.Ytpbbfephfmdgmaa.Rai
