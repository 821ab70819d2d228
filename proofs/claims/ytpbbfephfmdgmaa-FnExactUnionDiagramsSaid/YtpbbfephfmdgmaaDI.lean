/- A part of the walk: what functions of the program do, over an abstract heap. -/
import Derived.Test.YtpbbfephfmdgmaaDH
namespace Go.Proofs.Ytpbbfephfmdgmaa.Rai
open Go TP
set_option linter.unusedVariables false
set_option linter.unusedSimpArgs false
set_option maxRecDepth 20000
theorem tfDI : (Try.prog.underlying 27 = some (.slice 54)) ∧ (el Try.prog 27 = some (none, 5)) ∧ (Try.prog.underlying 58 = some (.slice 87)) ∧ (el Try.prog 58 = some (none, 2)) ∧ (Try.prog.underlying 94 = some (.array 4 2)) ∧ (el Try.prog 94 = some (some 4, 1)) ∧ (tk Try.prog 2 = some none) ∧ (tk Try.prog 27 = some none) ∧ (tk Try.prog 54 = some (some 5)) ∧ (tk Try.prog 58 = some none) ∧ (tk Try.prog 60 = some (some 2)) ∧ (tk Try.prog 87 = some (some 2)) ∧ (cz Try.prog 2 = some 1) ∧ (bz Try.prog 2 = some 8) ∧ (cz Try.prog 54 = some 5) ∧ (bz Try.prog 54 = some 40) ∧ (cz Try.prog 87 = some 2) ∧ (bz Try.prog 87 = some 16) ∧ (zr Try.prog 2 = some (.int .i64 0)) ∧ (zr Try.prog 54 = some (.agg #[.int .i64 0, .int .i64 0, .int .i64 0, .int .i64 0, .int .i64 0])) ∧ (zr Try.prog 60 = some (.agg #[.slice none 0 0, .slice none 0 0])) ∧ (zr Try.prog 87 = some (.agg #[.int .i64 0, .int .i64 0])) ∧ (fo Try.prog 29 0 = some (0, none)) ∧ (fo Try.prog 60 0 = some (0, none)) ∧ (fo Try.prog 60 1 = some (1, none)) ∧ (fo Try.prog 87 0 = some (0, none)) ∧ (el Try.prog 60 = none) ∧ (placesOf Try.prog 60 = some #[(0, 1), (1, 1)]) ∧ (el Try.prog 87 = none) ∧ (placesOf Try.prog 87 = some #[(0, 1), (1, 1)]) := by
  refine ⟨?_, ?_, ?_, ?_, ?_, ?_, ?_, ?_, ?_, ?_, ?_, ?_, ?_, ?_, ?_, ?_, ?_, ?_, ?_, ?_, ?_, ?_, ?_, ?_, ?_, ?_, ?_, ?_, ?_, ?_⟩ <;> kernel_rfl
theorem rnDI {a b : Prop} (hb : b) (h : Later b → a := by
  intro hb
  first
  | ((with_reducible first | refine AOps.nil ?_ | refine athen_n ?_ | refine athen_r ?_ | refine athen_e ?_ | refine ablock_n ?_ | refine ablock_r ?_ | refine ablock_s ?_ | refine AWp.seq' ?_ | refine AWp.block ?_ | refine AWp.skip ?_ | refine AWp.exit ?_ | refine AWp.ret ?_ | refine AWp.region ?_ | (refine ablock_e ?_ ?_; focus rfl)); repeat (with_reducible first | refine AOps.nil ?_ | refine athen_n ?_ | refine athen_r ?_ | refine athen_e ?_ | refine ablock_n ?_ | refine ablock_r ?_ | refine ablock_s ?_ | refine AWp.seq' ?_ | refine AWp.block ?_ | refine AWp.skip ?_ | refine AWp.exit ?_ | refine AWp.ret ?_ | refine AWp.region ?_ | (refine ablock_e ?_ ?_; focus rfl)))
  | (refine AOps.guardu rfl rfl rfl ?_ ?_; focus (simp (disch := (first | omega | (simp only [nx]; first | done | omega))) only [Value.bool.injEq, Bool.and_true, Bool.true_and, Bool.and_false, Bool.false_and, beq_self_eq_true, bne, Bool.not_true, Bool.not_false, sx, nx, dx, ↓reduceIte, reduceCtorEq, Nat.reduceEqDiff, ne_eq, not_false_eq_true, *]; done))
  | ((first | refine AOps.cons2 rfl rfl fun K hK => ?_ | refine AWp.cond rfl fun X Y hX hY => ?_ | refine AOps.guard rfl rfl rfl fun X Y hX hY => ?_ | refine aret_r ?_ | refine aret_n ?_); simp (disch := (first | omega | (simp only [nx]; first | done | omega))) only [acond_bool, aresK, retv, xxq, tfDI, sliceK, bnd, appendK, appsK, copyK, clearK, makeSliceK, buildSliceK, buildK, lookupK, mapPutK, mapOf, convK, allocK, indexK, partK, xxa, xxb, xxc, bne, Int.reduceEq, Int.reduceBEq, Int.reduceNe, Int.reduceBNe, Int.reduceLE, Int.reduceGT, Int.reduceGE, Int.reduceNeg, ↓reduceIte, reduceCtorEq, Nat.reduceEqDiff, Nat.reduceAdd, Nat.reduceMul, Nat.reduceSub, Nat.reduceLT, Int.reduceAdd, Int.reduceSub, Int.reduceMul, Int.reduceLT, Int.reduceToNat, ne_eq, *]; (repeat first | ((with_reducible refine And.intro (fun hc => ?_) (fun hc => absurd hc (by omega))); clear hc) | ((with_reducible refine And.intro (fun hc => absurd hc (by omega)) (fun hc => ?_)); clear hc) | ((with_reducible refine And.intro ?_ ?_); focus ((first | omega | assumption | exact cok _ rfl | exact one_ints _ | exact one_map fun _ => rfl | ((repeat refine one_cons (by first | rfl | assumption) ?_); exact one_nil) | rfl | decide | (intro u hu; cases hu)); done)) | (with_reducible refine (fun hc => ?_ : _ → _); clear hc)); (first | refine hK.out _ _ ?_ | refine ACalls.hk hK ?_ | refine appendK.hk hK ?_ | refine (fun (q : _ ∧ _) => And.intro (hK.out _ _ q.1) (hK.out _ _ q.2)) ?_ | refine hX.out ?_ | refine hY.out ?_ | refine (fun (q : (_ → _) ∧ (_ → _)) => And.intro (fun hc => hX.out (q.1 hc)) (fun hc => hY.out (q.2 hc))) ?_ | refine (fun (q : (_ → _) ∧ (_ → _)) => And.intro (fun hc => hY.out (q.1 hc)) (fun hc => hX.out (q.2 hc))) ?_ | skip))
  exact hb.out) : a := h ⟨hb⟩
theorem hlDI {p b : Prop} (hb : b) (h : p := by simp (disch := (first | omega | (simp only [nx]; first | done | omega))) only [heldIn_iff, List.zipIdx_cons, List.zipIdx_nil, List.map_cons, List.map_nil, xxq, tfDI, sliceK, bnd, appendK, appsK, copyK, clearK, makeSliceK, buildSliceK, buildK, lookupK, mapPutK, mapOf, convK, allocK, indexK, partK, xxa, xxb, xxc, bne, Int.reduceEq, Int.reduceBEq, Int.reduceNe, Int.reduceBNe, Int.reduceLE, Int.reduceGT, Int.reduceGE, Int.reduceNeg, ↓reduceIte, reduceCtorEq, Nat.reduceEqDiff, Nat.reduceAdd, Nat.reduceMul, Nat.reduceSub, Nat.reduceLT, Int.reduceAdd, Int.reduceSub, Int.reduceMul, Int.reduceLT, Int.reduceToNat, ne_eq, *]; first | done | trivial) : p ∧ b := ⟨h, hb⟩
theorem ivDI {p : Prop} (h : p := by first | omega | ((repeat first | exact Ext.refl _ | assumption | refine Ext.push ?_ _ | refine Ext.set ?_ _ (by first | omega | (simp only [nx, *]; omega)) | (apply Ext.up; focus (assumption; done))); done) | (simp (disch := (first | omega | (simp only [nx]; first | done | omega))) only [xxq, xxa, xxb, xxc, bne, Int.reduceEq, Int.reduceBEq, Int.reduceNe, Int.reduceBNe, Int.reduceLE, Int.reduceGT, Int.reduceGE, Int.reduceNeg, ↓reduceIte, reduceCtorEq, Nat.reduceEqDiff, Nat.reduceAdd, Nat.reduceMul, Nat.reduceSub, Nat.reduceLT, Int.reduceAdd, Int.reduceSub, Int.reduceMul, Int.reduceLT, Int.reduceToNat, ne_eq, *, intV_int]; first | done | omega | rfl | exact congrArg (Value.int .i64) (by omega) | ((repeat first | exact Ext.refl _ | assumption | refine Ext.push ?_ _ | refine Ext.set ?_ _ (by first | omega | (simp only [nx, *]; omega)) | (apply Ext.up; focus (assumption; done))); done)) | rfl) : p := h
theorem smDI {a b : Prop} (hb : b) (h : Later b → a := by intro hb; simp (disch := (first | omega | (simp only [nx]; first | done | omega))) only [xxq, xxa, xxb, xxc, bne, Int.reduceEq, Int.reduceBEq, Int.reduceNe, Int.reduceBNe, Int.reduceLE, Int.reduceGT, Int.reduceGE, Int.reduceNeg, ↓reduceIte, reduceCtorEq, Nat.reduceEqDiff, Nat.reduceAdd, Nat.reduceMul, Nat.reduceSub, Nat.reduceLT, Int.reduceAdd, Int.reduceSub, Int.reduceMul, Int.reduceLT, Int.reduceToNat, ne_eq, *, intV_int]; exact hb.out) : a := h ⟨hb⟩
theorem gtDI {A F : Fr} {t : Nat} {v : Value} (h : Ag [] A F) (e : F t = v := by simp (disch := (first | omega | (simp only [nx]; first | done | omega))) only [xxq, xxa, xxb, xxc, bne, Int.reduceEq, Int.reduceBEq, Int.reduceNe, Int.reduceBNe, Int.reduceLE, Int.reduceGT, Int.reduceGE, Int.reduceNeg, ↓reduceIte, reduceCtorEq, Nat.reduceEqDiff, Nat.reduceAdd, Nat.reduceMul, Nat.reduceSub, Nat.reduceLT, Int.reduceAdd, Int.reduceSub, Int.reduceMul, Int.reduceLT, Int.reduceToNat, ne_eq, *, intV_int]; exact rfl) : A t = v := (h.h t rfl).trans e
theorem agDI {D : List Nat} {A F : Fr} (h : Ag D A F := by
  repeat (with_reducible first | exact Ag.refl _ _ | refine Ag.nop ?_ | refine Ag.dead rfl ?_ | (refine Ag.live ?_ ?_; focus exact ivDI) | refine Ag.dr rfl ?_ | (refine Ag.lr ?_ ?_; focus exact ivDI) | refine Ag.up (by assumption) rfl ?_)) : Ag D A F := h
theorem sdDI {p : Prop} (h : p := by first | omega | assumption | (simp (disch := (first | omega | (simp only [nx]; first | done | omega))) only [xxq, tfDI, sliceK, bnd, appendK, appsK, copyK, clearK, makeSliceK, buildSliceK, buildK, lookupK, mapPutK, mapOf, convK, allocK, indexK, partK, xxa, xxb, xxc, bne, Int.reduceEq, Int.reduceBEq, Int.reduceNe, Int.reduceBNe, Int.reduceLE, Int.reduceGT, Int.reduceGE, Int.reduceNeg, ↓reduceIte, reduceCtorEq, Nat.reduceEqDiff, Nat.reduceAdd, Nat.reduceMul, Nat.reduceSub, Nat.reduceLT, Int.reduceAdd, Int.reduceSub, Int.reduceMul, Int.reduceLT, Int.reduceToNat, ne_eq, *]; first | done | omega | rfl)) : p := h
def endP (o : Option Nat) : Int × Int := match o with
  | some j => ((j / 4 : Nat), (j % 4 : Nat))
  | none => (-1, 0)
def endsL (C : List Cr) (b : Bool) (N k : Nat) : List (Int × Int) := (List.range N).map fun (a : Nat) => endP (fnd C a b k)
theorem endsL_len (C : List Cr) (b : Bool) (N k : Nat) : (endsL C b N k).length = N := by simp [endsL]
theorem endsL_get {C : List Cr} {b : Bool} {N k a : Nat} (h : a < N) : (endsL C b N k).getD a (0, 0) = endP (fnd C a b k) := by simp [endsL, h]
theorem endsL_zero (C : List Cr) (b : Bool) (N : Nat) : endsL C b N 0 = List.replicate N (-1, 0) := by
  apply List.ext_getElem
  · simp [endsL]
  · intro i h1 h2; simp [endsL, fnd, endP]
theorem endsL_set {C : List Cr} {N k a : Nat} {b : Bool} (ha : eAt C k = a) (hb : nAt C k = b) (h0 : fnd C a b k = none) : (endsL C b N k).set a ((k / 4 : Nat), (k % 4 : Nat)) = endsL C b N (k + 1) := by
  apply List.ext_getElem
  · simp [endsL]
  · intro i h1 h2
    rw [List.getElem_set]
    split
    · rename_i e; subst e; simp [endsL, fnd_here ⟨ha, hb⟩ h0, endP]
    · rename_i e
      simp only [endsL, List.getElem_map, List.getElem_range]
      rw [fnd_succ (fun h => e (by have := ha.symm.trans h.1; omega))]
theorem endsL_other {C : List Cr} {N k : Nat} {b : Bool} (hb : nAt C k ≠ b) : endsL C b N k = endsL C b N (k + 1) := by
  unfold endsL
  apply List.map_congr_left
  intro a _
  rw [fnd_succ (fun h => hb h.2)]
/-- A row of ends that can be read. -/
def RdE (H : Heap) (v : Value) (L : List (Int × Int)) : Prop := ∃ g k, v = .slice (some ⟨g, 0, none⟩) L.length k ∧ g < H.size ∧ ∃ ro, H.get g = .cells (prs L) 2 ro
theorem RdE.ext {H H' : Heap} {v : Value} {L : List (Int × Int)} (h : RdE H v L) (x : Ext H H') : RdE H' v L := by
  obtain ⟨g, k, rfl, h1, ro, h2⟩ := h
  exact ⟨g, k, rfl, Nat.lt_of_lt_of_le h1 x.size, ro, (x.get g h1).trans h2⟩
/-- .. its block from lo on. -/
def RdEL (lo : Nat) (H : Heap) (v : Value) (L : List (Int × Int)) : Prop := ∃ g k, v = .slice (some ⟨g, 0, none⟩) L.length k ∧ lo ≤ g ∧ g < H.size ∧ ∃ ro, H.get g = .cells (prs L) 2 ro
theorem RdEL.rd {lo : Nat} {H : Heap} {v : Value} {L : List (Int × Int)} (h : RdEL lo H v L) : RdE H v L := by
  obtain ⟨g, k, h0, _, h1⟩ := h
  exact ⟨g, k, h0, h1⟩
theorem RdEL.keep {lo : Nat} {H H' : Heap} {v : Value} {L : List (Int × Int)} (h : RdEL lo H v L) (hs : H.size ≤ H'.size) (hk : ∀ b, lo ≤ b → b < H.size → H'.get b = H.get b) : RdEL lo H' v L := by
  obtain ⟨g, k, h0, h1, h2, ro, h3⟩ := h
  exact ⟨g, k, h0, h1, Nat.lt_of_lt_of_le h2 hs, ro, (hk g h1 h2).trans h3⟩
theorem RdE.one {H : Heap} {v : Value} {L : List (Int × Int)} (h : RdE H v L) : v.oneCell' = true := by obtain ⟨g, k, rfl, _⟩ := h; rfl
theorem prs_at {L : List (Int × Int)} {a : Nat} (h : a < L.length) : (prs L)[a * 2]? = some (I (L.getD a (0, 0)).1) ∧ (prs L)[a * 2 + 1]? = some (I (L.getD a (0, 0)).2) := by
  have e := prs_get h
  have k : ∀ i, i < 2 → (prs L)[a * 2 + i]? = (pr2 (L.getD a (0, 0)))[i]? := fun i hi => by rw [← e, List.getElem?_take, if_pos hi, List.getElem?_drop]
  exact ⟨k 0 (by omega), k 1 (by omega)⟩
set_option maxHeartbeats 4000000 in
theorem arrows_c {H : Heap} {v : Value} {C : List Cr} (z : Int) (hC : RdC H v C) (hn : C.length ≤ 10) (hS : ∀ i, i < C.length → sgn C i) : ACalls Try.prog 74 [.agg #[v, I z]] H fun u H' => (∃ vf vt, u = .tuple #[.agg #[vf, vt], B (decide (Cnt C))] ∧ vf.oneCell' = true ∧ vt.oneCell' = true ∧ (Cnt C → RdEL H.size H' vf (endsL C false (2 * C.length) (4 * C.length)) ∧ RdEL H.size H' vt (endsL C true (2 * C.length) (4 * C.length)))) ∧ Ext H H' := by
  have hone := hC.one
  obtain ⟨p, k, rfl, hp, hh⟩ := hC
  clear hone
  have hN : (2 * (C.length : Int)) = ((2 * C.length : Nat) : Int) := by omega
  refine ACalls.body Try.func74 rfl Try.ntmps74 (rs := [.cell 2 60, .tmp 3]) rfl (by simp) rfl fun Q hQ A hA => ?_
  have a0 := hA 0 _ _ rfl
  clear hA
  repeat' first | refine rnDI ?_ | with_reducible refine And.intro (fun hc => ?_) (fun hc => ?_) | fail
  refine (Repeat_c _ _ (2 * C.length) (by exact sdDI) (by exact sdDI) (by omega)).mono ?_
  rintro v H1 ⟨rfl, hr1, hr2, hr3⟩
  have hr3g := hr3.get; have hr3s := hr3.size; (try simp only [nx] at hr3s)
  simp only [nx] at hr1 hr2
  repeat' first | refine rnDI ?_ | with_reducible refine And.intro (fun hc => ?_) (fun hc => ?_) | fail
  refine (Repeat_c _ _ (2 * C.length) (by exact sdDI) (by exact sdDI) (by omega)).mono ?_
  rintro v H2 ⟨rfl, qr1, qr2, qr3⟩
  have qr3g := qr3.get; have qr3s := qr3.size; (try simp only [nx] at qr3s)
  simp only [nx] at qr1 qr2
  repeat' first | refine rnDI ?_ | with_reducible refine And.intro (fun hc => ?_) (fun hc => ?_) | fail
  obtain ⟨Hb, hHb⟩ : ∃ X, X = (H2.push (.cells [.slice none 0 0, .slice none 0 0] 1 false)).set H2.size (.cells [.slice (some ⟨H.size + 1 + 1 + 1, 0, none⟩) (2 * C.length) (2 * C.length + 1), .slice (some ⟨H1.size + 1, 0, none⟩) (2 * C.length) (2 * C.length + 1)] 1 false) := ⟨_, rfl⟩
  rw [← endsL_zero C false] at hr1
  rw [← endsL_zero C true] at qr1
  have f1 : Hb.get (H.size + 1) = .cells [.slice none 0 0, .slice none 0 0] 1 false := by rw [hHb]; exact ivDI
  have f2 : Hb.get H2.size = .cells [.slice (some ⟨H.size + 1 + 1 + 1, 0, none⟩) (2 * C.length) (2 * C.length + 1), .slice (some ⟨H1.size + 1, 0, none⟩) (2 * C.length) (2 * C.length + 1)] 1 false := by rw [hHb]; exact ivDI
  have f3 : Hb.get (H.size + 1 + 1 + 1) = .cells (prs (endsL C false (2 * C.length) 0)) 2 false := by rw [hHb]; exact ivDI
  have f4 : Hb.get (H1.size + 1) = .cells (prs (endsL C true (2 * C.length) 0)) 2 false := by rw [hHb]; exact ivDI
  have f5 : Ext H Hb := by rw [hHb]; exact (((hr3.pop.pop.pop).trans (qr3.pop)).push _).set _ (by omega)
  have f6 : Hb.size = H2.size + 1 := by rw [hHb]; rfl
  rw [← hHb]
  refine AWp.cut (fun Ac hAc => ?_)
  have c2 := gtDI (t := 2) hAc
  have c5 := gtDI (t := 5) hAc
  have c25 := gtDI (t := 25) hAc
  have c26 := gtDI (t := 26) hAc
  have c27 := gtDI (t := 27) hAc
  clear hr3g qr3g hr1 qr1 hHb hr3 qr3
  obtain ⟨vf, hvf⟩ : ∃ v, v = Value.slice (some ⟨H.size + 1 + 1 + 1, 0, none⟩) (2 * C.length) (2 * C.length + 1) := ⟨_, rfl⟩
  obtain ⟨vt, hvt⟩ : ∃ v, v = Value.slice (some ⟨H1.size + 1, 0, none⟩) (2 * C.length) (2 * C.length + 1) := ⟨_, rfl⟩
  refine AWp.loop (fun A' H' => ∃ (c : Nat), Ag [6, 7, 8, 9, 10, 28, 29, 30, 31, 32, 33, 34, 35, 36, 37, 38, 39, 40, 41, 42, 43, 44, 45, 46, 47, 48, 49, 50, 51, 52, 53, 54, 55, 56, 57, 58, 59, 60, 61, 62, 63, 64, 65] A' (put Ac (some 27) (I c)) ∧ c ≤ C.length ∧ (∀ j, j < 4 * c → ok1 C (2 * C.length) j) ∧ H'.get (H.size + 1 + 1 + 1) = .cells (prs (endsL C false (2 * C.length) (4 * c))) 2 false ∧ H'.get (H1.size + 1) = .cells (prs (endsL C true (2 * C.length) (4 * c))) 2 false ∧ H'.get H2.size = .cells [.slice (some ⟨H.size + 1 + 1 + 1, 0, none⟩) (2 * C.length) (2 * C.length + 1), .slice (some ⟨H1.size + 1, 0, none⟩) (2 * C.length) (2 * C.length + 1)] 1 false ∧ H'.get (H.size + 1) = .cells [.slice none 0 0, .slice none 0 0] 1 false ∧ Ext H H' ∧ Hb.size ≤ H'.size) (fun A' _ => C.length - (intV (A' 27)).toNat) ?_ ?_
  · exact ⟨0, agDI, by omega, fun j hj => by omega, f3, f4, f2, f1, f5, Nat.le_refl _⟩
  · clear f1 f2 f3 f4 f5
    rintro A1 H3 ⟨c, hA, hc, hok, g1, g2, g3, g4, g5, g6⟩
    have d2 := hA.h 2 rfl
    have d5 := hA.h 5 rfl
    have d25 := hA.h 25 rfl
    have d26 := hA.h 26 rfl
    have d27 := hA.h 27 rfl
    by_cases hlt : c < C.length
    · obtain ⟨b1, cs, ro, rfl, hb, hg, hl, hcc⟩ := hh c hlt
      have hgb := (g5.get b1 hb).trans hg
      have hxs := g5.size
      have he := fun q hq => eAt_at C c q hq
      have hn2 := fun q hq => nAt_at C c q hq
      have hsx : (C.getD c cr0).s = 1 ∨ (C.getD c cr0).s = -1 := hS c hlt
      obtain ⟨x, hxx⟩ : ∃ x, C.getD c cr0 = x := ⟨_, rfl⟩
      rw [hxx] at hcc he hn2 hsx
      rw [cr5] at hcc
      repeat' first | refine rnDI ?_ | (refine (ends_c x).mono ?_; rintro v H4 ⟨rfl, hx4⟩; have hx4g := hx4.get; have hx4s := hx4.size; (try simp only [nx] at hx4s)) | with_reducible refine And.intro (fun hc => ?_) (fun hc => ?_) | fail
      have k1 : H4.get (H.size + 1 + 1 + 1) = .cells (prs (endsL C false (2 * C.length) (4 * c))) 2 false := by exact ivDI
      have k2 : H4.get (H1.size + 1) = .cells (prs (endsL C true (2 * C.length) (4 * c))) 2 false := by exact ivDI
      have k3 : H4.get H2.size = .cells [.slice (some ⟨H.size + 1 + 1 + 1, 0, none⟩) (2 * C.length) (2 * C.length + 1), .slice (some ⟨H1.size + 1, 0, none⟩) (2 * C.length) (2 * C.length + 1)] 1 false := by exact ivDI
      have k4 : H4.get (H.size + 1) = .cells [.slice none 0 0, .slice none 0 0] 1 false := by exact ivDI
      have k5 : Ext H H4 := by exact ex1
      have k6 : H4.get H3.size = .cells [I x.a, I x.b, I x.c, I x.d, I x.s] 1 false := by exact ivDI
      have k7 : H3.size < H4.size := by omega
      refine AWp.cut (fun Ae hAe => ?_)
      have e2 := gtDI (t := 2) hAe
      have e5 := gtDI (t := 5) hAe
      have e6 := gtDI (t := 6) hAe
      have e7 := gtDI (t := 7) hAe
      have e25 := gtDI (t := 25) hAe
      have e26 := gtDI (t := 26) hAe
      have e27 := gtDI (t := 27) hAe
      have e33 := gtDI (t := 33) hAe
      have e34 := gtDI (t := 34) hAe
      clear hx4g hx4s g1 g2 g3 g4 hgb hx4
      refine AWp.loop (fun A' H' => ∃ (q : Nat), Ag [8, 9, 10, 35, 36, 37, 38, 39, 40, 41, 42, 43, 44, 45, 46, 47, 48, 49, 50, 51, 52, 53, 54, 55, 56, 57, 58, 59, 60, 61, 62, 63, 64] A' (put Ae (some 34) (I q)) ∧ q ≤ 4 ∧ (∀ j, j < 4 * c + q → ok1 C (2 * C.length) j) ∧ H'.get (H.size + 1 + 1 + 1) = .cells (prs (endsL C false (2 * C.length) (4 * c + q))) 2 false ∧ H'.get (H1.size + 1) = .cells (prs (endsL C true (2 * C.length) (4 * c + q))) 2 false ∧ H'.get H2.size = .cells [.slice (some ⟨H.size + 1 + 1 + 1, 0, none⟩) (2 * C.length) (2 * C.length + 1), .slice (some ⟨H1.size + 1, 0, none⟩) (2 * C.length) (2 * C.length + 1)] 1 false ∧ H'.get (H.size + 1) = .cells [.slice none 0 0, .slice none 0 0] 1 false ∧ Ext H H' ∧ H'.get H3.size = .cells [I x.a, I x.b, I x.c, I x.d, I x.s] 1 false ∧ H3.size < H'.size) (fun A' _ => 4 - (intV (A' 34)).toNat) ?_ ?_
      · exact ⟨0, agDI, by omega, hok, k1, k2, k3, k4, k5, k6, k7⟩
      · clear k1 k2 k3 k4 k5 k6 k7
        rintro A2 H5 ⟨q, hA2, hq, hok3, k1, k2, k3, k4, k5, k6, k7⟩
        have f2 := hA2.h 2 rfl
        have f5 := hA2.h 5 rfl
        have f6 := hA2.h 6 rfl
        have f7 := hA2.h 7 rfl
        have f25 := hA2.h 25 rfl
        have f26 := hA2.h 26 rfl
        have f27 := hA2.h 27 rfl
        have f33 := hA2.h 33 rfl
        have f34 := hA2.h 34 rfl
        by_cases hq4 : q < 4
        · have he := he q hq4
          have hn2 := hn2 q hq4
          have hbad : ¬ ok1 C (2 * C.length) (4 * c + q) → ¬ Cnt C := fun h hC => h (hC.2 _ (by omega))
          have hokd : ok1 C (2 * C.length) (4 * c + q) ↔ 0 ≤ endC x q ∧ endC x q ≤ ((2 * C.length : Nat) : Int) - 1 ∧ fnd C (endC x q) (entC x q) (4 * c + q) = none := by unfold ok1; rw [he, hn2]
          have hnx : ok1 C (2 * C.length) (4 * c + q) → ∀ j, j < 4 * c + (q + 1) → ok1 C (2 * C.length) j := fun h j hj => by
            by_cases e : j < 4 * c + q
            · exact hok3 j e
            · obtain rfl : j = 4 * c + q := by omega
              exact h
          have hend : [I (endC x 0), I (endC x 1), I (endC x 2), I (endC x 3)][q]? = some (I (endC x q)) := by
            have : q = 0 ∨ q = 1 ∨ q = 2 ∨ q = 3 := by omega
            rcases this with rfl | rfl | rfl | rfl <;> rfl
          have hq1 : (4 * c + q) / 4 = c := by omega
          have hq2 : (4 * c + q) % 4 = q := by omega
          by_cases hr : 0 ≤ endC x q ∧ endC x q ≤ ((2 * C.length : Nat) : Int) - 1
          · obtain ⟨a, ha⟩ : ∃ a : Nat, endC x q = a := ⟨(endC x q).toNat, by omega⟩
            rw [ha] at he hokd hr
            obtain ⟨hr1, hr2⟩ := hr
            have haN : a < 2 * C.length := by omega
            rcases hen : entC x q with _ | _
            · rw [hen] at hn2 hokd
              have hoth := endsL_other (C := C) (N := 2 * C.length) (k := 4 * c + q) (b := true) (by rw [hn2]; simp)
              obtain ⟨w1, w2⟩ := prs_at (L := endsL C false (2 * C.length) (4 * c + q)) (a := a) (by rw [endsL_len]; exact haN)
              rw [endsL_get haN] at w1 w2
              have hlen := prs_len (endsL C false (2 * C.length) (4 * c + q))
              rw [endsL_len] at hlen
              rcases hf : fnd C a false (4 * c + q) with _ | j
              · rw [hf] at w1
                have hset := prs_set (C := endsL C false (2 * C.length) (4 * c + q)) (i := a) (by rw [endsL_len]; exact haN) (c, q)
                have hs2 := endsL_set (N := 2 * C.length) he hn2 hf
                rw [hq1, hq2] at hs2
                rw [hs2, pr2] at hset
                have hnx := hnx (hokd.2 ⟨by omega, by omega, hf⟩)
                rw [hoth] at k2
                clear hbad hokd hoth he hn2 w2 hs2
                simp only [endP] at w1
                repeat' first | refine rnDI ?_ | (refine (enters_c x hsx q hq4).mono ?_; rintro v H6 ⟨rfl, hx6⟩; have hx6g := hx6.get; have hx6s := hx6.size; (try simp only [nx] at hx6s)) | (refine (hasIndexE_c _ _ _ (by omega) _).mono ?_; rintro v H7 ⟨rfl, rfl⟩) | with_reducible refine And.intro (fun hc => ?_) (fun hc => ?_) | fail
                refine ⟨⟨q + 1, agDI, by omega, hnx, ?_, ?_, ?_, ?_, ?_, ?_, ?_⟩, ?_⟩
                all_goals first | exact ivDI | refine smDI ?_ | skip
              · rw [hf] at w1
                have hbad := hbad fun h => by have := (hokd.1 h).2.2; rw [hf] at this; cases this
                clear hnx hokd hoth he hn2 w2
                simp only [endP] at w1
                have hj0 : (0 : Int) ≤ ((j / 4 : Nat) : Int) := by omega
                generalize j / 4 = jj at *
                repeat' first | refine rnDI ?_ | (refine (enters_c x hsx q hq4).mono ?_; rintro v H6 ⟨rfl, hx6⟩; have hx6g := hx6.get; have hx6s := hx6.size; (try simp only [nx] at hx6s)) | (refine (hasIndexE_c _ _ _ (by omega) _).mono ?_; rintro v H7 ⟨rfl, rfl⟩) | with_reducible refine And.intro (fun hc => ?_) (fun hc => ?_) | fail
                exact hQ.out _ _ ⟨⟨_, _, by rw [decide_eq_false hbad], rfl, rfl, fun h => absurd h hbad⟩, by exact ex1⟩
            · rw [hen] at hn2 hokd
              have hoth := endsL_other (C := C) (N := 2 * C.length) (k := 4 * c + q) (b := false) (by rw [hn2]; simp)
              obtain ⟨w1, w2⟩ := prs_at (L := endsL C true (2 * C.length) (4 * c + q)) (a := a) (by rw [endsL_len]; exact haN)
              rw [endsL_get haN] at w1 w2
              have hlen := prs_len (endsL C true (2 * C.length) (4 * c + q))
              rw [endsL_len] at hlen
              rcases hf : fnd C a true (4 * c + q) with _ | j
              · rw [hf] at w1
                have hset := prs_set (C := endsL C true (2 * C.length) (4 * c + q)) (i := a) (by rw [endsL_len]; exact haN) (c, q)
                have hs2 := endsL_set (N := 2 * C.length) he hn2 hf
                rw [hq1, hq2] at hs2
                rw [hs2, pr2] at hset
                have hnx := hnx (hokd.2 ⟨by omega, by omega, hf⟩)
                rw [hoth] at k1
                clear hbad hokd hoth he hn2 w2 hs2
                simp only [endP] at w1
                repeat' first | refine rnDI ?_ | (refine (enters_c x hsx q hq4).mono ?_; rintro v H6 ⟨rfl, hx6⟩; have hx6g := hx6.get; have hx6s := hx6.size; (try simp only [nx] at hx6s)) | (refine (hasIndexE_c _ _ _ (by omega) _).mono ?_; rintro v H7 ⟨rfl, rfl⟩) | with_reducible refine And.intro (fun hc => ?_) (fun hc => ?_) | fail
                refine ⟨⟨q + 1, agDI, by omega, hnx, ?_, ?_, ?_, ?_, ?_, ?_, ?_⟩, ?_⟩
                all_goals first | exact ivDI | refine smDI ?_ | skip
              · rw [hf] at w1
                have hbad := hbad fun h => by have := (hokd.1 h).2.2; rw [hf] at this; cases this
                clear hnx hokd hoth he hn2 w2
                simp only [endP] at w1
                have hj0 : (0 : Int) ≤ ((j / 4 : Nat) : Int) := by omega
                generalize j / 4 = jj at *
                repeat' first | refine rnDI ?_ | (refine (enters_c x hsx q hq4).mono ?_; rintro v H6 ⟨rfl, hx6⟩; have hx6g := hx6.get; have hx6s := hx6.size; (try simp only [nx] at hx6s)) | (refine (hasIndexE_c _ _ _ (by omega) _).mono ?_; rintro v H7 ⟨rfl, rfl⟩) | with_reducible refine And.intro (fun hc => ?_) (fun hc => ?_) | fail
                exact hQ.out _ _ ⟨⟨_, _, by rw [decide_eq_false hbad], rfl, rfl, fun h => absurd h hbad⟩, by exact ex1⟩
          · have hbad := hbad fun h => hr (hokd.1 h |> fun h => ⟨h.1, h.2.1⟩)
            clear hnx hokd he hn2
            rcases hen : entC x q with _ | _
            · repeat' first | refine rnDI ?_ | (refine (enters_c x hsx q hq4).mono ?_; rintro v H6 ⟨rfl, hx6⟩; have hx6g := hx6.get; have hx6s := hx6.size; (try simp only [nx] at hx6s)) | (refine (hasIndexE_c _ _ _ (by omega) _).mono ?_; rintro v H7 ⟨rfl, rfl⟩) | with_reducible refine And.intro (fun hc => ?_) (fun hc => ?_) | fail
              exact hQ.out _ _ ⟨⟨_, _, by rw [decide_eq_false hbad], rfl, rfl, fun h => absurd h hbad⟩, by exact ex1⟩
            · repeat' first | refine rnDI ?_ | (refine (enters_c x hsx q hq4).mono ?_; rintro v H6 ⟨rfl, hx6⟩; have hx6g := hx6.get; have hx6s := hx6.size; (try simp only [nx] at hx6s)) | (refine (hasIndexE_c _ _ _ (by omega) _).mono ?_; rintro v H7 ⟨rfl, rfl⟩) | with_reducible refine And.intro (fun hc => ?_) (fun hc => ?_) | fail
              exact hQ.out _ _ ⟨⟨_, _, by rw [decide_eq_false hbad], rfl, rfl, fun h => absurd h hbad⟩, by exact ex1⟩
        · obtain rfl : q = 4 := by omega
          have e4 : 4 * c + 4 = 4 * (c + 1) := by omega
          rw [e4] at hok3 k1 k2
          repeat' first | refine rnDI ?_ | with_reducible refine And.intro (fun hc => ?_) (fun hc => ?_) | fail
          refine ⟨⟨c + 1, agDI, by omega, hok3, k1, k2, k3, k4, k5, by omega⟩, ?_⟩
          all_goals first | exact ivDI | refine smDI ?_ | skip
    · obtain rfl : c = C.length := by omega
      have hcnt : Cnt C := ⟨hS, hok⟩
      repeat' first | refine rnDI ?_ | with_reducible refine And.intro (fun hc => ?_) (fun hc => ?_) | fail
      refine hQ.out _ _ ⟨⟨_, _, by rw [decide_eq_true hcnt], rfl, rfl, fun _ => ⟨⟨_, _, by rw [endsL_len], by omega, ?_, false, ?_⟩, ⟨_, _, by rw [endsL_len], by omega, ?_, false, ?_⟩⟩⟩, by exact ex1⟩
      all_goals first | exact ivDI | refine smDI ?_ | skip
end Go.Proofs.Ytpbbfephfmdgmaa.Rai
