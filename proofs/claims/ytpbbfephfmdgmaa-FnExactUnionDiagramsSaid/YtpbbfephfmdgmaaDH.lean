/- A part of the walk: what functions of the program do, over an abstract heap. -/
import Derived.Test.YtpbbfephfmdgmaaDG
namespace Go.Proofs.Ytpbbfephfmdgmaa.Rai
open Go TP
set_option linter.unusedVariables false
set_option linter.unusedSimpArgs false
set_option maxRecDepth 20000
theorem tfDH : (Try.prog.underlying 58 = some (.slice 87)) ∧ (el Try.prog 58 = some (none, 2)) ∧ (tk Try.prog 87 = some (some 2)) ∧ (cz Try.prog 87 = some 2) ∧ (bz Try.prog 87 = some 16) ∧ (zr Try.prog 87 = some (.agg #[.int .i64 0, .int .i64 0])) ∧ (ik Try.prog 3 = some .i64) ∧ (ik Try.prog 101 = some .u64) ∧ (ik Try.prog 106 = some .u32) := by
  refine ⟨?_, ?_, ?_, ?_, ?_, ?_, ?_, ?_, ?_⟩ <;> kernel_rfl
theorem rnDH {a b : Prop} (hb : b) (h : Later b → a := by
  intro hb
  first
  | ((with_reducible first | refine AOps.nil ?_ | refine athen_n ?_ | refine athen_r ?_ | refine athen_e ?_ | refine ablock_n ?_ | refine ablock_r ?_ | refine ablock_s ?_ | refine AWp.seq' ?_ | refine AWp.block ?_ | refine AWp.skip ?_ | refine AWp.exit ?_ | refine AWp.ret ?_ | refine AWp.region ?_ | (refine ablock_e ?_ ?_; focus rfl)); repeat (with_reducible first | refine AOps.nil ?_ | refine athen_n ?_ | refine athen_r ?_ | refine athen_e ?_ | refine ablock_n ?_ | refine ablock_r ?_ | refine ablock_s ?_ | refine AWp.seq' ?_ | refine AWp.block ?_ | refine AWp.skip ?_ | refine AWp.exit ?_ | refine AWp.ret ?_ | refine AWp.region ?_ | (refine ablock_e ?_ ?_; focus rfl)))
  | (refine AOps.guardu rfl rfl rfl ?_ ?_; focus (simp (disch := (first | omega | (simp only [nx]; first | done | omega))) only [Value.bool.injEq, Bool.and_true, Bool.true_and, Bool.and_false, Bool.false_and, beq_self_eq_true, bne, Bool.not_true, Bool.not_false, sx, nx, dx, ↓reduceIte, reduceCtorEq, Nat.reduceEqDiff, ne_eq, not_false_eq_true, *]; done))
  | ((first | refine AOps.cons2 rfl rfl fun K hK => ?_ | refine AWp.cond rfl fun X Y hX hY => ?_ | refine AOps.guard rfl rfl rfl fun X Y hX hY => ?_ | refine aret_r ?_ | refine aret_n ?_); simp (disch := (first | omega | (simp only [nx]; first | done | omega))) only [acond_bool, aresK, retv, xxq, tfDH, sliceK, bnd, appendK, appsK, copyK, clearK, makeSliceK, buildSliceK, buildK, lookupK, mapPutK, mapOf, convK, allocK, indexK, partK, xxa, xxb, xxc, bne, Int.reduceEq, Int.reduceBEq, Int.reduceNe, Int.reduceBNe, Int.reduceLE, Int.reduceGT, Int.reduceGE, Int.reduceNeg, ↓reduceIte, reduceCtorEq, Nat.reduceEqDiff, Nat.reduceAdd, Nat.reduceMul, Nat.reduceSub, Nat.reduceLT, Int.reduceAdd, Int.reduceSub, Int.reduceMul, Int.reduceLT, Int.reduceToNat, ne_eq, *]; (repeat first | ((with_reducible refine And.intro (fun hc => ?_) (fun hc => absurd hc (by omega))); clear hc) | ((with_reducible refine And.intro (fun hc => absurd hc (by omega)) (fun hc => ?_)); clear hc) | ((with_reducible refine And.intro ?_ ?_); focus ((first | omega | assumption | exact cok _ rfl | exact one_ints _ | exact one_map fun _ => rfl | ((repeat refine one_cons (by first | rfl | assumption) ?_); exact one_nil) | rfl | decide | (intro u hu; cases hu)); done)) | (with_reducible refine (fun hc => ?_ : _ → _); clear hc)); (first | refine hK.out _ _ ?_ | refine ACalls.hk hK ?_ | refine appendK.hk hK ?_ | refine (fun (q : _ ∧ _) => And.intro (hK.out _ _ q.1) (hK.out _ _ q.2)) ?_ | refine hX.out ?_ | refine hY.out ?_ | refine (fun (q : (_ → _) ∧ (_ → _)) => And.intro (fun hc => hX.out (q.1 hc)) (fun hc => hY.out (q.2 hc))) ?_ | refine (fun (q : (_ → _) ∧ (_ → _)) => And.intro (fun hc => hY.out (q.1 hc)) (fun hc => hX.out (q.2 hc))) ?_ | skip))
  exact hb.out) : a := h ⟨hb⟩
theorem rdDH {a b : Prop} (hb : b) (h : Later b → a := by
  intro hb
  first
  | with_reducible refine APl.nil ?_
  | ((first | refine APl.pure2 rfl rfl rfl rfl fun Kx hKx => ?_ | refine APl.load rfl rfl rfl fun Kx hKx => ?_ | refine APl.slice rfl rfl rfl fun Kx hKx => ?_ | refine APl.act2 rfl rfl rfl rfl fun Kx hKx => ?_); simp (disch := (first | omega | (simp only [nx]; first | done | omega))) only [heldIn_iff, List.zipIdx_cons, List.zipIdx_nil, List.map_cons, List.map_nil, xxq, tfDH, sliceK, bnd, appendK, appsK, copyK, clearK, makeSliceK, buildSliceK, buildK, lookupK, mapPutK, mapOf, convK, allocK, indexK, partK, xxa, xxb, xxc, bne, Int.reduceEq, Int.reduceBEq, Int.reduceNe, Int.reduceBNe, Int.reduceLE, Int.reduceGT, Int.reduceGE, Int.reduceNeg, ↓reduceIte, reduceCtorEq, Nat.reduceEqDiff, Nat.reduceAdd, Nat.reduceMul, Nat.reduceSub, Nat.reduceLT, Int.reduceAdd, Int.reduceSub, Int.reduceMul, Int.reduceLT, Int.reduceToNat, ne_eq, *]; (repeat first | ((with_reducible refine And.intro (fun hc => ?_) (fun hc => absurd hc (by omega))); clear hc) | ((with_reducible refine And.intro (fun hc => absurd hc (by omega)) (fun hc => ?_)); clear hc) | ((with_reducible refine And.intro ?_ ?_); focus ((first | omega | assumption | exact cok _ rfl | exact one_ints _ | exact one_map fun _ => rfl | ((repeat refine one_cons (by first | rfl | assumption) ?_); exact one_nil) | rfl | decide | (intro u hu; cases hu)); done)) | (with_reducible refine (fun hc => ?_ : _ → _); clear hc)); (first | refine hKx.out _ ?_ | refine hKx.out _ _ ?_ | refine ACalls.hkx hKx ?_ | refine (fun (q : _ ∧ _) => And.intro (hKx.out _ q.1) (hKx.out _ q.2)) ?_ | refine (fun (q : (_ → _) ∧ _) => And.intro (fun hc => hKx.out _ (q.1 hc)) (hKx.out _ q.2)) ?_ | (refine hKx.out _ _ ?_ ?_; focus (simp (disch := (first | omega | (simp only [nx]; first | done | omega))) only [heldIn_iff, List.zipIdx_cons, List.zipIdx_nil, List.map_cons, List.map_nil, xxq, tfDH, sliceK, bnd, appendK, appsK, copyK, clearK, makeSliceK, buildSliceK, buildK, lookupK, mapPutK, mapOf, convK, allocK, indexK, partK, xxa, xxb, xxc, bne, Int.reduceEq, Int.reduceBEq, Int.reduceNe, Int.reduceBNe, Int.reduceLE, Int.reduceGT, Int.reduceGE, Int.reduceNeg, ↓reduceIte, reduceCtorEq, Nat.reduceEqDiff, Nat.reduceAdd, Nat.reduceMul, Nat.reduceSub, Nat.reduceLT, Int.reduceAdd, Int.reduceSub, Int.reduceMul, Int.reduceLT, Int.reduceToNat, ne_eq, *]; first | done | trivial))))
  exact hb.out) : a := h ⟨hb⟩
theorem hlDH {p b : Prop} (hb : b) (h : p := by simp (disch := (first | omega | (simp only [nx]; first | done | omega))) only [heldIn_iff, List.zipIdx_cons, List.zipIdx_nil, List.map_cons, List.map_nil, xxq, tfDH, sliceK, bnd, appendK, appsK, copyK, clearK, makeSliceK, buildSliceK, buildK, lookupK, mapPutK, mapOf, convK, allocK, indexK, partK, xxa, xxb, xxc, bne, Int.reduceEq, Int.reduceBEq, Int.reduceNe, Int.reduceBNe, Int.reduceLE, Int.reduceGT, Int.reduceGE, Int.reduceNeg, ↓reduceIte, reduceCtorEq, Nat.reduceEqDiff, Nat.reduceAdd, Nat.reduceMul, Nat.reduceSub, Nat.reduceLT, Int.reduceAdd, Int.reduceSub, Int.reduceMul, Int.reduceLT, Int.reduceToNat, ne_eq, *]; first | done | trivial) : p ∧ b := ⟨h, hb⟩
theorem ivDH {p : Prop} (h : p := by first | omega | ((repeat first | exact Ext.refl _ | assumption | refine Ext.push ?_ _ | refine Ext.set ?_ _ (by first | omega | (simp only [nx, *]; omega)) | (apply Ext.up; focus (assumption; done))); done) | (simp (disch := (first | omega | (simp only [nx]; first | done | omega))) only [xxq, xxa, xxb, xxc, bne, Int.reduceEq, Int.reduceBEq, Int.reduceNe, Int.reduceBNe, Int.reduceLE, Int.reduceGT, Int.reduceGE, Int.reduceNeg, ↓reduceIte, reduceCtorEq, Nat.reduceEqDiff, Nat.reduceAdd, Nat.reduceMul, Nat.reduceSub, Nat.reduceLT, Int.reduceAdd, Int.reduceSub, Int.reduceMul, Int.reduceLT, Int.reduceToNat, ne_eq, *, intV_int]; first | done | omega | rfl | exact congrArg (Value.int .i64) (by omega) | ((repeat first | exact Ext.refl _ | assumption | refine Ext.push ?_ _ | refine Ext.set ?_ _ (by first | omega | (simp only [nx, *]; omega)) | (apply Ext.up; focus (assumption; done))); done)) | rfl) : p := h
theorem smDH {a b : Prop} (hb : b) (h : Later b → a := by intro hb; simp (disch := (first | omega | (simp only [nx]; first | done | omega))) only [xxq, xxa, xxb, xxc, bne, Int.reduceEq, Int.reduceBEq, Int.reduceNe, Int.reduceBNe, Int.reduceLE, Int.reduceGT, Int.reduceGE, Int.reduceNeg, ↓reduceIte, reduceCtorEq, Nat.reduceEqDiff, Nat.reduceAdd, Nat.reduceMul, Nat.reduceSub, Nat.reduceLT, Int.reduceAdd, Int.reduceSub, Int.reduceMul, Int.reduceLT, Int.reduceToNat, ne_eq, *, intV_int]; exact hb.out) : a := h ⟨hb⟩
theorem gtDH {A F : Fr} {t : Nat} {v : Value} (h : Ag [] A F) (e : F t = v := by simp (disch := (first | omega | (simp only [nx]; first | done | omega))) only [xxq, xxa, xxb, xxc, bne, Int.reduceEq, Int.reduceBEq, Int.reduceNe, Int.reduceBNe, Int.reduceLE, Int.reduceGT, Int.reduceGE, Int.reduceNeg, ↓reduceIte, reduceCtorEq, Nat.reduceEqDiff, Nat.reduceAdd, Nat.reduceMul, Nat.reduceSub, Nat.reduceLT, Int.reduceAdd, Int.reduceSub, Int.reduceMul, Int.reduceLT, Int.reduceToNat, ne_eq, *, intV_int]; exact rfl) : A t = v := (h.h t rfl).trans e
theorem agDH {D : List Nat} {A F : Fr} (h : Ag D A F := by
  repeat (with_reducible first | exact Ag.refl _ _ | refine Ag.nop ?_ | refine Ag.dead rfl ?_ | (refine Ag.live ?_ ?_; focus exact ivDH) | refine Ag.dr rfl ?_ | (refine Ag.lr ?_ ?_; focus exact ivDH) | refine Ag.up (by assumption) rfl ?_)) : Ag D A F := h
theorem sdDH {p : Prop} (h : p := by first | omega | assumption | (simp (disch := (first | omega | (simp only [nx]; first | done | omega))) only [xxq, tfDH, sliceK, bnd, appendK, appsK, copyK, clearK, makeSliceK, buildSliceK, buildK, lookupK, mapPutK, mapOf, convK, allocK, indexK, partK, xxa, xxb, xxc, bne, Int.reduceEq, Int.reduceBEq, Int.reduceNe, Int.reduceBNe, Int.reduceLE, Int.reduceGT, Int.reduceGE, Int.reduceNeg, ↓reduceIte, reduceCtorEq, Nat.reduceEqDiff, Nat.reduceAdd, Nat.reduceMul, Nat.reduceSub, Nat.reduceLT, Int.reduceAdd, Int.reduceSub, Int.reduceMul, Int.reduceLT, Int.reduceToNat, ne_eq, *]; first | done | omega | rfl)) : p := h
theorem wrapu (a : Int) (h0 : 0 ≤ a) (h1 : a ≤ 4294967295) : IntKind.u64.wrap a = a := by
  simp [IntKind.wrap, IntKind.bits, IntKind.signed]; omega
theorem andI_low (a : Int) (h0 : 0 ≤ a) (h1 : a ≤ 4294967295) : andI .u64 a 4294967295 = a := by
  obtain ⟨n, rfl⟩ : ∃ n : Nat, a = n := ⟨a.toNat, by omega⟩
  have hn : n < 2 ^ 32 := by omega
  have e : BitVec.ofInt 64 (n : Int) &&& BitVec.ofInt 64 4294967295 = BitVec.ofNat 64 n := by
    apply BitVec.eq_of_toNat_eq
    rw [BitVec.toNat_and]
    have e1 : (BitVec.ofInt 64 (n : Int)).toNat = n := by simp [BitVec.toNat_ofInt]; omega
    have e2 : (BitVec.ofInt 64 (4294967295 : Int)).toNat = 2 ^ 32 - 1 := by decide
    have e3 : (BitVec.ofNat 64 n).toNat = n := by simp; omega
    rw [e1, e2, e3, Nat.and_two_pow_sub_one_eq_mod]
    exact Nat.mod_eq_of_lt hn
  unfold andI
  show IntKind.u64.wrap (((BitVec.ofInt 64 (n : Int) &&& BitVec.ofInt 64 4294967295)).toNat : Int) = _
  rw [e]
  have := wrapu n (by omega) (by omega)
  simpa [Nat.mod_eq_of_lt (show n < 18446744073709551616 by omega)] using this
theorem shr_low (a : Int) (h0 : 0 ≤ a) (h1 : a ≤ 4294967295) : a.fdiv (2 ^ 32) = 0 := by
  rw [Int.fdiv_eq_ediv_of_nonneg _ (by decide)]
  exact Int.ediv_eq_zero_of_lt h0 (by omega)
theorem Mul64_c {H : Heap} (n : Nat) (hn : n ≤ 1000) : ACalls Try.prog 95 [.int .u64 1, .int .u64 n] H fun v H' => v = .tuple #[.int .u64 0, .int .u64 n] ∧ H' = H := by
  refine ACalls.body Try.func95 rfl Try.ntmps95 (rs := [.tmp 4, .tmp 5]) rfl (by simp) rfl fun Q hQ A hA => ?_
  have a0 := hA 0 _ _ rfl
  have a1 := hA 1 _ _ rfl
  clear hA
  repeat' first | refine rnDH ?_ | with_reducible refine And.intro (fun hc => ?_) (fun hc => ?_) | fail
  have hb : min 32 IntKind.u64.bits = 32 := rfl
  refine hQ.out _ _ ⟨?_, rfl⟩
  simp (disch := omega) only [hb, Int.one_mul, shr_low, wrapu, andI_low, Int.zero_mul, Int.zero_add, Int.mul_zero, Int.add_zero]
theorem Mul_c {H : Heap} (n : Nat) (hn : n ≤ 1000) : ACalls Try.prog 92 [.int .u64 1, .int .u64 n] H fun v H' => v = .tuple #[.int .u64 0, .int .u64 n] ∧ H' = H := by
  refine ACalls.body Try.func92 rfl Try.ntmps92 (rs := [.tmp 4, .tmp 5]) rfl (by simp) rfl fun Q hQ A hA => ?_
  have a0 := hA 0 _ _ rfl
  have a1 := hA 1 _ _ rfl
  clear hA
  repeat' first | refine rnDH ?_ | (refine (Mul64_c n hn).mono ?_; rintro v H' ⟨rfl, rfl⟩) | with_reducible refine And.intro (fun hc => ?_) (fun hc => ?_) | fail
  exact hQ.out _ _ ⟨rfl, rfl⟩
def pr2 (x : Int × Int) : List Value := [I x.1, I x.2]
def prs (L : List (Int × Int)) : List Value := L.flatMap pr2
theorem prs_cons (x : Int × Int) (L : List (Int × Int)) : prs (x :: L) = pr2 x ++ prs L := rfl
theorem prs_len (L : List (Int × Int)) : (prs L).length = L.length * 2 := by
  induction L with
  | nil => rfl
  | cons x C ih => rw [prs_cons, List.length_append, ih, List.length_cons]; simp [pr2]; omega
theorem prs_drop (C : List (Int × Int)) (i : Nat) : (prs C).drop (i * 2) = prs (C.drop i) := by
  induction C generalizing i with
  | nil => simp [prs]
  | cons x C ih =>
    cases i with
    | zero => simp
    | succ i =>
      rw [prs_cons, show (i + 1) * 2 = i * 2 + 1 + 1 by omega]
      simp only [pr2, List.cons_append, List.nil_append, List.drop_succ_cons]
      exact ih i
theorem prs_take (C : List (Int × Int)) (i : Nat) : (prs C).take (i * 2) = prs (C.take i) := by
  induction C generalizing i with
  | nil => simp [prs]
  | cons x C ih =>
    cases i with
    | zero => simp [prs]
    | succ i =>
      rw [prs_cons, show (i + 1) * 2 = i * 2 + 1 + 1 by omega]
      simp only [pr2, List.cons_append, List.nil_append, List.take_succ_cons]
      rw [ih i]
      rfl
theorem prs_app (C E : List (Int × Int)) : prs (C ++ E) = prs C ++ prs E := by simp [prs]
theorem prs_get {C : List (Int × Int)} {i : Nat} (h : i < C.length) : ((prs C).drop (i * 2)).take 2 = pr2 (C.getD i (0, 0)) := by
  rw [prs_drop, List.drop_eq_getElem_cons h, prs_cons]
  simp [pr2, h]
theorem prs_set {C : List (Int × Int)} {i : Nat} (h : i < C.length) (x : Int × Int) : (prs C).take (i * 2) ++ pr2 x ++ (prs C).drop (i * 2 + 2) = prs (C.set i x) := by
  rw [show i * 2 + 2 = (i + 1) * 2 by omega, prs_take, prs_drop, List.set_eq_take_append_cons_drop, if_pos h, prs_app, prs_cons]
  simp
theorem prs_rep (n : Nat) : (List.replicate n (pr2 (0, 0))).flatten = prs (List.replicate n (0, 0)) := by
  induction n with
  | zero => rfl
  | succ n ih => rw [List.replicate_succ, List.replicate_succ, List.flatten_cons, ih]; rfl
theorem zc2 (n : Nat) : (zcells #[I 0, I 0] (n * 2)).toList = prs (List.replicate n (0, 0)) := (zcells_eq [I 0, I 0] n (by decide)).trans (prs_rep n)
theorem zz_prs (n : Nat) : zz (I 0) (I 0) (n * 2) = prs (List.replicate n (0, 0)) := by
  induction n with
  | zero => rfl
  | succ n ih => rw [show (n + 1) * 2 = n * 2 + 1 + 1 by omega]; show I 0 :: I 0 :: zz (I 0) (I 0) (n * 2) = _; rw [ih]; rfl
def rz (m n : Nat) : List (Int × Int) := List.replicate m (-1, 0) ++ List.replicate (n - m) (0, 0)
theorem rz_len {m n : Nat} (h : m ≤ n) : (rz m n).length = n := by simp [rz]; omega
theorem rz_next {m n q : Nat} (h : m + q ≤ n) (hq : q ≤ m) : (prs (rz m n)).take (m * 2) ++ (prs (rz m n)).take (q * 2) ++ (prs (rz m n)).drop (m * 2 + q * 2) = prs (rz (m + q) n) := by
  rw [show m * 2 + q * 2 = (m + q) * 2 by omega, prs_take, prs_take, prs_drop, ← prs_app, ← prs_app]
  congr 1
  unfold rz
  rw [List.take_append_of_le_length (by simp), List.take_append_of_le_length (by simp; omega), List.drop_append, List.take_of_length_le (by simp), List.take_replicate, List.drop_replicate, List.drop_replicate]
  rw [show min q m = q by omega, show m - (m + q) = 0 by omega, List.length_replicate, show m + q - m = q by omega, show n - m - q = n - (m + q) by omega, List.replicate_zero, List.nil_append]
  congr 1
  rw [List.replicate_append_replicate]
theorem prs_one (L : List (Int × Int)) : oneCells (prs L) := by
  intro v hv
  obtain ⟨x, _, hx⟩ := List.mem_flatMap.1 hv
  simp only [pr2, List.mem_cons, List.not_mem_nil, or_false] at hx
  rcases hx with rfl | rfl <;> rfl
theorem Repeat_c {H : Heap} (b k n : Nat) (hb : b < H.size) (hg : H.get b = .cells [I (-1), I 0] 2 false) (hn : n ≤ 1000) : ACalls Try.prog 84 [.slice (some ⟨b, 0, none⟩) 1 k, I n] H fun v H' => v = .slice (some ⟨H.size, 0, none⟩) n (n + 1) ∧ H'.get H.size = .cells (prs (List.replicate n (-1, 0))) 2 false ∧ H.size < H'.size ∧ Ext H H' := by
  have w1 : IntKind.u64.wrap 1 = 1 := rfl
  have w2 : IntKind.u64.wrap n = n := wrapu _ (by omega) (by omega)
  have w3 : ((n : Int) > 9223372036854775807) = False := eq_false (by omega)
  have w4 := zz_prs n
  have w5 := prs_len (List.replicate n (0, 0))
  rw [List.length_replicate] at w5
  refine ACalls.body Try.func84 rfl Try.ntmps84 (rs := [.tmp 4]) rfl (by simp) rfl fun Q hQ A hA => ?_
  have a0 := hA 0 _ _ rfl
  have a1 := hA 1 _ _ rfl
  clear hA
  by_cases h0 : n = 0
  · subst h0
    have w6 : Nat.min 1 0 = 0 := rfl
    have w7 : prs [] = [] := rfl
    repeat' first | refine rnDH ?_ | (refine (Mul_c 0 hn).mono ?_; rintro v H' ⟨rfl, rfl⟩) | with_reducible refine And.intro (fun hc => ?_) (fun hc => ?_) | fail
    refine AWp.loop (fun A' H'' => A' 8 = I 0 ∧ A' 7 = .slice (some ⟨H'.size, 0, none⟩) 0 1 ∧ H''.get H'.size = .cells [] 2 false ∧ H'.size < H''.size ∧ Ext H' H'') (fun _ _ => 0) ⟨?_, ?_, ?_, ?_, ?_⟩ ?_
    · exact ivDH
    · exact ivDH
    · exact ivDH
    · exact ivDH
    · exact ivDH
    · rintro A1 H1 ⟨b8, b7, h1, h2, h3⟩
      repeat' first | refine rnDH ?_ | with_reducible refine And.intro (fun hc => ?_) (fun hc => ?_) | fail
      exact hQ.out _ _ ⟨rfl, by exact ivDH, h2, h3⟩
  · have w6 : Nat.min 1 n = 1 := Nat.min_eq_left (by omega)
    have w9 : (prs (List.replicate n (0, 0))).drop 2 = prs (List.replicate (n - 1) (0, 0)) := by
      have := prs_drop (List.replicate n (0, 0)) 1
      rw [Nat.one_mul, List.drop_replicate] at this; exact this
    repeat' first | refine rnDH ?_ | (refine (Mul_c n hn).mono ?_; rintro v H0 ⟨rfl, rfl⟩) | with_reducible refine And.intro (fun hc => ?_) (fun hc => ?_) | fail
    refine AWp.cut (fun Ac hAc => ?_)
    have c7 := gtDH (t := 7) hAc
    have c8 := gtDH (t := 8) hAc
    refine AWp.loop (fun A' H' => ∃ (m : Nat), Ag [34, 35, 36, 37, 38, 39, 40, 41, 42, 43, 44, 45, 46] A' (put Ac (some 8) (I m)) ∧ 1 ≤ m ∧ m ≤ n ∧ H'.get H0.size = .cells (prs (rz m n)) 2 false ∧ H0.size < H'.size ∧ Ext H0 H') (fun A' _ => n - (intV (A' 8)).toNat) ?_ ?_
    · refine ⟨1, agDH, by omega, by omega, ?_, ?_, ?_⟩
      all_goals first | exact ivDH | refine smDH ?_ | skip
    · rintro A1 H1 ⟨m, hA, hm1, hm2, h1, h2, h3⟩
      have d7 := hA.h 7 rfl
      have d8 := hA.h 8 rfl
      by_cases hlt : m < n
      · obtain ⟨q, hq⟩ : ∃ q, Nat.min m (n - m) = q := ⟨_, rfl⟩
        have hq1 : q ≤ m ∧ m + q ≤ n ∧ 1 ≤ q := by have : min m (n - m) = q := hq; omega
        obtain ⟨hq1, hq2, hq3⟩ := hq1
        have hnm : (n = m) = False := eq_false (by omega)
        have hlz := prs_len (rz m n)
        rw [rz_len hm2] at hlz
        have hnx := rz_next hq2 hq1
        have hone : oneCells (List.take (q * 2) (prs (rz m n))) := fun v hv => prs_one _ v (List.mem_of_mem_take hv)
        repeat' first | refine rnDH ?_ | with_reducible refine And.intro (fun hc => ?_) (fun hc => ?_) | fail
        refine AWp.planned [0,1,2,3,4,5,6,7,8,9] mixed (by kernel_rfl) ?_
        repeat' first | refine rdDH ?_ | with_reducible refine And.intro (fun hc => ?_) ?_ | with_reducible refine And.intro ?_ ?_ | fail
        refine ⟨⟨m + q, agDH, by omega, by omega, ?_, ?_, ?_⟩, ?_⟩
        all_goals first | exact ivDH | refine smDH ?_ | skip
      · obtain rfl : m = n := by omega
        repeat' first | refine rnDH ?_ | with_reducible refine And.intro (fun hc => ?_) (fun hc => ?_) | fail
        exact hQ.out _ _ ⟨rfl, by rw [h1]; simp [rz], h2, h3⟩
end Go.Proofs.Ytpbbfephfmdgmaa.Rai
