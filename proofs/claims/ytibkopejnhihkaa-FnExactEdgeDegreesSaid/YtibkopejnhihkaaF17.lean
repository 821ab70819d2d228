/- A part of the walk: what functions of the program do, over an abstract heap. -/
import Derived.Test.YtibkopejnhihkaaF15
namespace Go.Proofs.Ytibkopejnhihkaa.Rai
open Go TP
set_option linter.unusedVariables false
set_option linter.unusedSimpArgs false
set_option maxRecDepth 20000
theorem tfF17 : (Try.prog.underlying 36 = some (.slice 2)) ∧ (el Try.prog 36 = some (none, 1)) ∧ (Try.prog.underlying 44 = some (.slice 36)) ∧ (el Try.prog 44 = some (none, 1)) ∧ (tk Try.prog 2 = some none) ∧ (tk Try.prog 36 = some none) ∧ (cz Try.prog 2 = some 1) ∧ (bz Try.prog 2 = some 8) ∧ (cz Try.prog 36 = some 1) ∧ (bz Try.prog 36 = some 24) ∧ (zr Try.prog 2 = some (.int .i64 0)) ∧ (zr Try.prog 36 = some (.slice none 0 0)) := by
  refine ⟨?_, ?_, ?_, ?_, ?_, ?_, ?_, ?_, ?_, ?_, ?_, ?_⟩ <;> kernel_rfl
/-- All blocks but those from lo to hi stay. -/
structure ExtR (lo hi : Nat) (H H' : Heap) : Prop where
  size : H.size ≤ H'.size
  get : ∀ b, b < H.size → (b < lo ∨ hi ≤ b) → H'.get b = H.get b
theorem ExtR.refl {lo hi : Nat} (H : Heap) : ExtR lo hi H H := ⟨Nat.le_refl _, fun _ _ _ => rfl⟩
theorem Ext.r {H H' : Heap} (h : Ext H H') (lo hi : Nat) : ExtR lo hi H H' := ⟨h.size, fun b hb _ => h.get b hb⟩
theorem ExtR.trans {lo hi : Nat} {H H1 H2 : Heap} (h : ExtR lo hi H H1) (k : ExtR lo hi H1 H2) : ExtR lo hi H H2 := ⟨Nat.le_trans h.size k.size, fun b hb hn => (k.get b (Nat.lt_of_lt_of_le hb h.size) hn).trans (h.get b hb hn)⟩
theorem ExtR.set {lo hi g : Nat} {H H1 : Heap} (h : ExtR lo hi H H1) (x : Blk) (h1 : lo ≤ g) (h2 : g < hi) : ExtR lo hi H (H1.set g x) := ⟨h.size, fun b hb hn => (get_set_ne (by omega)).trans (h.get b hb hn)⟩
theorem ExtR.push {lo hi : Nat} {H H1 : Heap} (h : ExtR lo hi H H1) (x : Blk) : ExtR lo hi H (H1.push x) := ⟨by rw [Heap.size_push]; exact Nat.le_succ_of_le h.size, fun b hb hn => (get_push_lt (Nat.lt_of_lt_of_le hb h.size)).trans (h.get b hb hn)⟩
theorem Ext.upr {lo hi : Nat} {H Ha H1 : Heap} (h : Ext Ha H1) (g : ExtR lo hi H Ha) : ExtR lo hi H H1 := g.trans (h.r lo hi)
def numTo (m : List Int) : Nat → List Int
  | 0 => List.replicate m.length 0
  | j + 1 => if m.getD j 0 = j then (numTo m j).set j (rank m j) else numTo m j
theorem numTo_len (m : List Int) (j : Nat) : (numTo m j).length = m.length := by
  induction j with
  | zero => simp [numTo]
  | succ j ih => unfold numTo; split <;> simp [ih]
theorem rank_succ (m : List Int) (j : Nat) : rank m (j + 1) = if m.getD j 0 = j then rank m j + 1 else rank m j := by
  unfold rank; rw [roots_succ]; split <;> simp
theorem rank_le (m : List Int) (j : Nat) : rank m j ≤ j := by
  induction j with
  | zero => simp [rank, roots]
  | succ j ih => rw [rank_succ]; split <;> omega
theorem numTo_get (m : List Int) : ∀ j, j ≤ m.length → ∀ x, x < j → m.getD x 0 = x → (numTo m j).getD x 0 = rank m x
  | 0, _, x, h, _ => by omega
  | j + 1, hj, x, h, hx => by
    unfold numTo
    by_cases e : x = j
    · subst e
      rw [if_pos hx, List.getD_eq_getElem?_getD, List.getElem?_set_self (by rw [numTo_len]; omega)]
      rfl
    · have := numTo_get m j (by omega) x (by omega) hx
      split
      · rw [List.getD_eq_getElem?_getD, List.getElem?_set_ne (by omega), ← List.getD_eq_getElem?_getD, this]
      · exact this
theorem numbers_len (m : List Int) : (numbers m).length = m.length := by simp [numbers]
theorem numbers_get (m : List Int) (k : Nat) (h : k < m.length) : (numbers m).getD k 0 = rank m (m.getD k 0).toNat := by simp [numbers, h]
def chunkR (w q : Nat) (l : List Int) : List (List Int) := (List.range q).map fun a => (l.drop (a * w)).take w
theorem chunkR_len (w q : Nat) (l : List Int) : (chunkR w q l).length = q := by simp [chunkR]
theorem chunkR_get (w q : Nat) (l : List Int) (a : Nat) (h : a < q) : (chunkR w q l).getD a [] = (l.drop (a * w)).take w := by simp [chunkR, h]
theorem drop_take_snoc (l : List Int) (i j : Nat) (h : i + j < l.length) : (l.drop i).take (j + 1) = (l.drop i).take j ++ [l.getD (i + j) 0] := by
  rw [List.take_succ_eq_append_getElem (by rw [List.length_drop]; omega)]
  simp [h]
/-- Rows of whole numbers, to be read. -/
def RowsI (H : Heap) (v : Value) (R : List (List Int)) : Prop := ∃ p k, v = .slice p R.length k ∧ (p = none → k = 0) ∧ ∀ a, a < R.length → ∃ b cs ro r, p = some ⟨b, 0, none⟩ ∧ b < H.size ∧ H.get b = .cells cs 1 ro ∧ cs[a]? = some r ∧ RowI H r (R.getD a [])
theorem RowsI.ext {H H' : Heap} {v : Value} {R : List (List Int)} (h : RowsI H v R) (g : Ext H H') : RowsI H' v R := by
  obtain ⟨p, k, rfl, hp, hh⟩ := h
  refine ⟨p, k, rfl, hp, fun j hj => ?_⟩
  obtain ⟨b, cs, ro, r, rfl, hb, hg, hc, hr⟩ := hh j hj
  exact ⟨b, cs, ro, r, rfl, Nat.lt_of_lt_of_le hb g.size, by rw [g.get b hb, hg], hc, hr.ext g⟩
theorem RowsI.one {H : Heap} {v : Value} {R : List (List Int)} (h : RowsI H v R) : v.oneCell' = true := by obtain ⟨p, k, rfl, _⟩ := h; rfl
/-- .. whose blocks lie from lo on. -/
def RowL (lo : Nat) (H : Heap) (v : Value) (l : List Int) : Prop := ∃ p k, v = .slice p l.length k ∧ (p = none → k = 0) ∧ ∀ j, j < l.length → ∃ b cs ro, p = some ⟨b, 0, none⟩ ∧ lo ≤ b ∧ b < H.size ∧ H.get b = .cells cs 1 ro ∧ cs[j]? = some (I (l.getD j 0))
theorem RowL.row {lo : Nat} {H : Heap} {v : Value} {l : List Int} (h : RowL lo H v l) : RowI H v l := by
  obtain ⟨p, k, rfl, hp, hh⟩ := h
  refine ⟨p, k, rfl, hp, fun j hj => ?_⟩
  obtain ⟨b, cs, ro, h1, h2, h3, h4, h5⟩ := hh j hj
  exact ⟨b, cs, ro, h1, h3, h4, h5⟩
theorem RowL.keep {lo hi : Nat} {H H' : Heap} {v : Value} {l : List Int} (h : RowL lo H v l) (k : ExtR 0 hi H H') (hh : hi ≤ lo) : RowL lo H' v l := by
  obtain ⟨p, c, rfl, hp, hh⟩ := h
  refine ⟨p, c, rfl, hp, fun j hj => ?_⟩
  obtain ⟨b, cs, ro, h1, h2, h3, h4, h5⟩ := hh j hj
  exact ⟨b, cs, ro, h1, h2, Nat.lt_of_lt_of_le h3 k.size, by rw [k.get b h3 (by omega), h4], h5⟩
def RowsL (lo : Nat) (H : Heap) (v : Value) (R : List (List Int)) : Prop := ∃ p k, v = .slice p R.length k ∧ (p = none → k = 0) ∧ ∀ a, a < R.length → ∃ b cs ro r, p = some ⟨b, 0, none⟩ ∧ lo ≤ b ∧ b < H.size ∧ H.get b = .cells cs 1 ro ∧ cs[a]? = some r ∧ RowL lo H r (R.getD a [])
theorem RowsL.rows {lo : Nat} {H : Heap} {v : Value} {R : List (List Int)} (h : RowsL lo H v R) : RowsI H v R := by
  obtain ⟨p, k, rfl, hp, hh⟩ := h
  refine ⟨p, k, rfl, hp, fun j hj => ?_⟩
  obtain ⟨b, cs, ro, r, h1, h2, h3, h4, h5, h6⟩ := hh j hj
  exact ⟨b, cs, ro, r, h1, h3, h4, h5, h6.row⟩
theorem RowsL.keep {lo hi : Nat} {H H' : Heap} {v : Value} {R : List (List Int)} (h : RowsL lo H v R) (k : ExtR 0 hi H H') (hh : hi ≤ lo) : RowsL lo H' v R := by
  obtain ⟨p, c, rfl, hp, hh'⟩ := h
  refine ⟨p, c, rfl, hp, fun j hj => ?_⟩
  obtain ⟨b, cs, ro, r, h1, h2, h3, h4, h5, h6⟩ := hh' j hj
  exact ⟨b, cs, ro, r, h1, h2, Nat.lt_of_lt_of_le h3 k.size, by rw [k.get b h3 (by omega), h4], h5, h6.keep k hh⟩
theorem RowsL.one {lo : Nat} {H : Heap} {v : Value} {R : List (List Int)} (h : RowsL lo H v R) : v.oneCell' = true := by obtain ⟨p, k, rfl, _⟩ := h; rfl
set_option maxHeartbeats 4000000 in
theorem l08Rows_c {H : Heap} {v : Value} {m : List Int} {w q : Nat} (hV : RowI H v m) (hC : Canon m) (hw0 : 0 < w) (hw6 : w ≤ 6) (hN : m.length = q * w) (hl : m.length ≤ 1000) :
    ACalls Try.prog 111 [v, I w] H fun u H' => ∃ v', u = .tuple #[v', I (rank m m.length)] ∧ RowsL H.size H' v' (chunkR w q (numbers m)) ∧ Ext H H' := by
  obtain ⟨p, k, rfl, hp, hh⟩ := hV
  have hrl : ∀ j, rank m j ≤ j := rank_le m
  refine ACalls.body Try.func111 rfl Try.ntmps111 (rs := [.tmp 4, .tmp 5]) rfl (by simp) rfl fun Q hQ A hA => ?_
  have a0 := hA 0 _ _ rfl
  have a1 := hA 1 _ _ rfl
  clear hA
  repeat' first
   | (with_reducible first | refine AOps.nil ?_ | refine athen_n ?_ | refine athen_r ?_ | refine athen_e ?_ | refine ablock_n ?_ | refine ablock_r ?_ | refine ablock_s ?_ | refine AWp.seq' ?_ | refine AWp.block ?_ | refine AWp.skip ?_ | refine AWp.exit ?_ | refine AWp.ret ?_ | refine AWp.region ?_) | (with_reducible refine ablock_e ?_ ?_; focus rfl)
   | ((first | refine AOps.cons1 rfl rfl rfl fun K hK => ?_ | refine AWp.cond rfl fun X Y hX hY => ?_ | refine aret_r ?_ | refine aret_n ?_); simp (disch := (first | omega | (simp only [nx]; first | done | omega))) only [acond_bool, aresK, retv, xxq, tfF17, appendK, appsK, makeSliceK, buildSliceK, mapOf, xxa, xxb, xxc, bne, ↓reduceIte, reduceCtorEq, Nat.reduceEqDiff, Nat.reduceAdd, Nat.reduceMul, Nat.reduceSub, Nat.reduceLT, Int.reduceAdd, Int.reduceSub, Int.reduceMul, Int.reduceLT, Int.reduceToNat, ne_eq, *]; (repeat first | ((with_reducible refine And.intro (fun hc => ?_) (fun hc => absurd hc (by omega))); clear hc) | ((with_reducible refine And.intro (fun hc => absurd hc (by omega)) (fun hc => ?_)); clear hc) | ((with_reducible refine And.intro ?_ ?_); focus ((first | omega | assumption | exact cok _ rfl | exact one_ints _ | exact one_map fun _ => rfl | ((repeat refine one_cons (by first | rfl | assumption) ?_); exact one_nil) | rfl | decide | (intro u hu; cases hu)); done)) | (with_reducible refine (fun hc => ?_ : _ → _); clear hc)); (first | (refine hK.out _ _ ?_; clear hK K) | (refine And.intro (hK.out _ _ ?_) (hK.out _ _ ?_) <;> clear hK K) | (refine hX.out ?_; try clear hX hY X Y) | (refine hY.out ?_; try clear hX hY X Y) | (refine And.intro (fun hc => ?_) (fun hc => ?_) <;> first | (exfalso; omega) | (refine hX.out ?_; try clear hX hY X Y) | (refine hY.out ?_; try clear hX hY X Y)) | skip))
  refine AWp.loop (fun A H' => ∃ j : Nat, j ≤ m.length ∧ A 0 = .slice p m.length k ∧ A 1 = I w ∧ A 6 = .slice (some ⟨H.size, 0, none⟩) m.length (m.length + 1) ∧ A 8 = .slice (some ⟨H.size + 1, 0, none⟩) 0 1 ∧ A 7 = I (rank m j) ∧ A 9 = I j ∧
    H'.get H.size = .cells (ints (numTo m j)) 1 false ∧ H'.get (H.size + 1) = .cells [] 1 false ∧ H'.size = H.size + 1 + 1 ∧ Ext H H') (fun A _ => m.length - (intV (A 9)).toNat) ?_ ?_
  · refine ⟨0, by omega, ?_, ?_, ?_, ?_, ?_, ?_, ?_, ?_, ?_, ?_⟩
    all_goals first | omega | ((repeat first | exact Ext.refl _ | assumption | refine Ext.push ?_ _ | refine Ext.set ?_ _ (by first | omega | (simp only [nx, *]; omega)) | (apply Ext.up; focus (assumption; done))); done) | (simp (disch := (first | omega | (simp only [nx]; first | done | omega))) only [xxq, xxa, xxb, xxc, bne, ↓reduceIte, reduceCtorEq, Nat.reduceEqDiff, Nat.reduceAdd, Nat.reduceMul, Nat.reduceSub, Nat.reduceLT, Int.reduceAdd, Int.reduceSub, Int.reduceMul, Int.reduceLT, Int.reduceToNat, ne_eq, *, numTo, rep_ints, intV_int]; first | done | omega | rfl | exact congrArg (Value.int .i64) (by omega) | ((repeat first | exact Ext.refl _ | assumption | refine Ext.push ?_ _ | refine Ext.set ?_ _ (by first | omega | (simp only [nx, *]; omega)) | (apply Ext.up; focus (assumption; done))); done) | skip) | rfl | skip
  · rintro A H' ⟨j, hj, b0, b1, b6, b8, b7, b9, hg, hg2, hs, hx⟩
    by_cases hlt : j < m.length
    · obtain ⟨b, cs, ro, hpb, hbs, hgb, hc⟩ := hh j hlt
      have hg1 := (hx.get b hbs).trans hgb
      have hne : b ≠ H.size := by omega
      have hrj := hrl j
      have hrs := rank_succ m j
      have hnl := numTo_len m j
      have hil := ints_len (numTo m j)
      have hst : numTo m (j + 1) = if m.getD j 0 = j then (numTo m j).set j (rank m j) else numTo m j := rfl
      have hset := ints_set (numTo m j) j (rank m j)
      clear hh hrl
      by_cases hr : m.getD j 0 = j
      · have hrb : (m.getD j 0 == (j : Int)) = true := by rw [beq_iff_eq]; exact hr
        rw [if_pos hr] at hrs hst
        clear hr
        generalize m.getD j 0 = x at hc hrb
        repeat' first
         | (with_reducible first | refine AOps.nil ?_ | refine athen_n ?_ | refine athen_r ?_ | refine athen_e ?_ | refine ablock_n ?_ | refine ablock_r ?_ | refine ablock_s ?_ | refine AWp.seq' ?_ | refine AWp.block ?_ | refine AWp.skip ?_ | refine AWp.exit ?_ | refine AWp.ret ?_ | refine AWp.region ?_) | (with_reducible refine ablock_e ?_ ?_; focus rfl)
         | ((first | refine AOps.cons1 rfl rfl rfl fun K hK => ?_ | refine AWp.cond rfl fun X Y hX hY => ?_ | refine aret_r ?_ | refine aret_n ?_); simp (disch := (first | omega | (simp only [nx]; first | done | omega))) only [acond_bool, aresK, retv, xxq, tfF17, appendK, appsK, makeSliceK, buildSliceK, mapOf, xxa, xxb, xxc, bne, ↓reduceIte, reduceCtorEq, Nat.reduceEqDiff, Nat.reduceAdd, Nat.reduceMul, Nat.reduceSub, Nat.reduceLT, Int.reduceAdd, Int.reduceSub, Int.reduceMul, Int.reduceLT, Int.reduceToNat, ne_eq, *]; (repeat first | ((with_reducible refine And.intro (fun hc => ?_) (fun hc => absurd hc (by omega))); clear hc) | ((with_reducible refine And.intro (fun hc => absurd hc (by omega)) (fun hc => ?_)); clear hc) | ((with_reducible refine And.intro ?_ ?_); focus ((first | omega | assumption | exact cok _ rfl | exact one_ints _ | exact one_map fun _ => rfl | ((repeat refine one_cons (by first | rfl | assumption) ?_); exact one_nil) | rfl | decide | (intro u hu; cases hu)); done)) | (with_reducible refine (fun hc => ?_ : _ → _); clear hc)); (first | (refine hK.out _ _ ?_; clear hK K) | (refine And.intro (hK.out _ _ ?_) (hK.out _ _ ?_) <;> clear hK K) | (refine hX.out ?_; try clear hX hY X Y) | (refine hY.out ?_; try clear hX hY X Y) | (refine And.intro (fun hc => ?_) (fun hc => ?_) <;> first | (exfalso; omega) | (refine hX.out ?_; try clear hX hY X Y) | (refine hY.out ?_; try clear hX hY X Y)) | skip))
        refine ⟨⟨j + 1, by omega, ?_, ?_, ?_, ?_, ?_, ?_, ?_, ?_, ?_, ?_⟩, ?_⟩
        all_goals first | omega | ((repeat first | exact Ext.refl _ | assumption | refine Ext.push ?_ _ | refine Ext.set ?_ _ (by first | omega | (simp only [nx, *]; omega)) | (apply Ext.up; focus (assumption; done))); done) | (simp (disch := (first | omega | (simp only [nx]; first | done | omega))) only [xxq, xxa, xxb, xxc, bne, ↓reduceIte, reduceCtorEq, Nat.reduceEqDiff, Nat.reduceAdd, Nat.reduceMul, Nat.reduceSub, Nat.reduceLT, Int.reduceAdd, Int.reduceSub, Int.reduceMul, Int.reduceLT, Int.reduceToNat, ne_eq, *, hst, hset, intV_int]; first | done | omega | rfl | exact congrArg (Value.int .i64) (by omega) | ((repeat first | exact Ext.refl _ | assumption | refine Ext.push ?_ _ | refine Ext.set ?_ _ (by first | omega | (simp only [nx, *]; omega)) | (apply Ext.up; focus (assumption; done))); done) | skip) | rfl | skip
      · have hrb : (m.getD j 0 == (j : Int)) = false := by rw [beq_eq_false_iff_ne]; exact hr
        rw [if_neg hr] at hrs hst
        clear hr
        generalize m.getD j 0 = x at hc hrb
        repeat' first
         | (with_reducible first | refine AOps.nil ?_ | refine athen_n ?_ | refine athen_r ?_ | refine athen_e ?_ | refine ablock_n ?_ | refine ablock_r ?_ | refine ablock_s ?_ | refine AWp.seq' ?_ | refine AWp.block ?_ | refine AWp.skip ?_ | refine AWp.exit ?_ | refine AWp.ret ?_ | refine AWp.region ?_) | (with_reducible refine ablock_e ?_ ?_; focus rfl)
         | ((first | refine AOps.cons1 rfl rfl rfl fun K hK => ?_ | refine AWp.cond rfl fun X Y hX hY => ?_ | refine aret_r ?_ | refine aret_n ?_); simp (disch := (first | omega | (simp only [nx]; first | done | omega))) only [acond_bool, aresK, retv, xxq, tfF17, appendK, appsK, makeSliceK, buildSliceK, mapOf, xxa, xxb, xxc, bne, ↓reduceIte, reduceCtorEq, Nat.reduceEqDiff, Nat.reduceAdd, Nat.reduceMul, Nat.reduceSub, Nat.reduceLT, Int.reduceAdd, Int.reduceSub, Int.reduceMul, Int.reduceLT, Int.reduceToNat, ne_eq, *]; (repeat first | ((with_reducible refine And.intro (fun hc => ?_) (fun hc => absurd hc (by omega))); clear hc) | ((with_reducible refine And.intro (fun hc => absurd hc (by omega)) (fun hc => ?_)); clear hc) | ((with_reducible refine And.intro ?_ ?_); focus ((first | omega | assumption | exact cok _ rfl | exact one_ints _ | exact one_map fun _ => rfl | ((repeat refine one_cons (by first | rfl | assumption) ?_); exact one_nil) | rfl | decide | (intro u hu; cases hu)); done)) | (with_reducible refine (fun hc => ?_ : _ → _); clear hc)); (first | (refine hK.out _ _ ?_; clear hK K) | (refine And.intro (hK.out _ _ ?_) (hK.out _ _ ?_) <;> clear hK K) | (refine hX.out ?_; try clear hX hY X Y) | (refine hY.out ?_; try clear hX hY X Y) | (refine And.intro (fun hc => ?_) (fun hc => ?_) <;> first | (exfalso; omega) | (refine hX.out ?_; try clear hX hY X Y) | (refine hY.out ?_; try clear hX hY X Y)) | skip))
        refine ⟨⟨j + 1, by omega, ?_, ?_, ?_, ?_, ?_, ?_, ?_, ?_, ?_, ?_⟩, ?_⟩
        all_goals first | omega | ((repeat first | exact Ext.refl _ | assumption | refine Ext.push ?_ _ | refine Ext.set ?_ _ (by first | omega | (simp only [nx, *]; omega)) | (apply Ext.up; focus (assumption; done))); done) | (simp (disch := (first | omega | (simp only [nx]; first | done | omega))) only [xxq, xxa, xxb, xxc, bne, ↓reduceIte, reduceCtorEq, Nat.reduceEqDiff, Nat.reduceAdd, Nat.reduceMul, Nat.reduceSub, Nat.reduceLT, Int.reduceAdd, Int.reduceSub, Int.reduceMul, Int.reduceLT, Int.reduceToNat, ne_eq, *, hst, hset, intV_int]; first | done | omega | rfl | exact congrArg (Value.int .i64) (by omega) | ((repeat first | exact Ext.refl _ | assumption | refine Ext.push ?_ _ | refine Ext.set ?_ _ (by first | omega | (simp only [nx, *]; omega)) | (apply Ext.up; focus (assumption; done))); done) | skip) | rfl | skip
    · obtain rfl : j = m.length := by omega
      have hnl := numTo_len m m.length
      have hil := ints_len (numTo m m.length)
      have hng := numTo_get m m.length (Nat.le_refl _)
      have hbl := numbers_len m
      have hnb := numbers_get m
      generalize numTo m m.length = nt at *
      generalize numbers m = nb at *
      have hrN := hrl m.length
      generalize hrk : rank m m.length = rk at *
      repeat' first
       | (with_reducible first | refine AOps.nil ?_ | refine athen_n ?_ | refine athen_r ?_ | refine athen_e ?_ | refine ablock_n ?_ | refine ablock_r ?_ | refine ablock_s ?_ | refine AWp.seq' ?_ | refine AWp.block ?_ | refine AWp.skip ?_ | refine AWp.exit ?_ | refine AWp.ret ?_ | refine AWp.region ?_) | (with_reducible refine ablock_e ?_ ?_; focus rfl)
       | ((first | refine AOps.cons1 rfl rfl rfl fun K hK => ?_ | refine AWp.cond rfl fun X Y hX hY => ?_ | refine aret_r ?_ | refine aret_n ?_); simp (disch := (first | omega | (simp only [nx]; first | done | omega))) only [acond_bool, aresK, retv, xxq, tfF17, appendK, appsK, makeSliceK, buildSliceK, mapOf, xxa, xxb, xxc, bne, ↓reduceIte, reduceCtorEq, Nat.reduceEqDiff, Nat.reduceAdd, Nat.reduceMul, Nat.reduceSub, Nat.reduceLT, Int.reduceAdd, Int.reduceSub, Int.reduceMul, Int.reduceLT, Int.reduceToNat, ne_eq, *]; (repeat first | ((with_reducible refine And.intro (fun hc => ?_) (fun hc => absurd hc (by omega))); clear hc) | ((with_reducible refine And.intro (fun hc => absurd hc (by omega)) (fun hc => ?_)); clear hc) | ((with_reducible refine And.intro ?_ ?_); focus ((first | omega | assumption | exact cok _ rfl | exact one_ints _ | exact one_map fun _ => rfl | ((repeat refine one_cons (by first | rfl | assumption) ?_); exact one_nil) | rfl | decide | (intro u hu; cases hu)); done)) | (with_reducible refine (fun hc => ?_ : _ → _); clear hc)); (first | (refine hK.out _ _ ?_; clear hK K) | (refine And.intro (hK.out _ _ ?_) (hK.out _ _ ?_) <;> clear hK K) | (refine hX.out ?_; try clear hX hY X Y) | (refine hY.out ?_; try clear hX hY X Y) | (refine And.intro (fun hc => ?_) (fun hc => ?_) <;> first | (exfalso; omega) | (refine hX.out ?_; try clear hX hY X Y) | (refine hY.out ?_; try clear hX hY X Y)) | skip))
      refine AWp.loop (fun A H' => ∃ (a i g c : Nat) (cs : List Value), a ≤ q ∧ a * w = i ∧ A 0 = .slice p m.length k ∧ A 1 = I w ∧ A 6 = .slice (some ⟨H.size, 0, none⟩) m.length (m.length + 1) ∧ A 7 = I rk ∧ A 8 = .slice (some ⟨g, 0, none⟩) a c ∧ A 10 = I i ∧
        H'.get H.size = .cells (ints nt) 1 false ∧ H'.get g = .cells cs 1 false ∧ cs.length = a ∧ H.size < g ∧ g < H'.size ∧ (c = 0 ∨ (c = 1 ∧ a = 0)) ∧
        (∀ a', a' < a → ∃ b c', cs[a']? = some (.slice (some ⟨b, 0, none⟩) w c') ∧ H.size < b ∧ b < H'.size ∧ b ≠ g ∧ H'.get b = .cells (ints ((nb.drop (a' * w)).take w)) 1 false) ∧ Ext H H') (fun A _ => m.length - (intV (A 10)).toNat) ?_ ?_
      · refine ⟨0, 0, H.size + 1, 1, [], by omega, by omega, ?_, ?_, ?_, ?_, ?_, ?_, hg, hg2, rfl, by omega, by omega, by omega, fun a ha => by omega, hx⟩
        all_goals first | omega | ((repeat first | exact Ext.refl _ | assumption | refine Ext.push ?_ _ | refine Ext.set ?_ _ (by first | omega | (simp only [nx, *]; omega)) | (apply Ext.up; focus (assumption; done))); done) | (simp (disch := (first | omega | (simp only [nx]; first | done | omega))) only [xxq, xxa, xxb, xxc, bne, ↓reduceIte, reduceCtorEq, Nat.reduceEqDiff, Nat.reduceAdd, Nat.reduceMul, Nat.reduceSub, Nat.reduceLT, Int.reduceAdd, Int.reduceSub, Int.reduceMul, Int.reduceLT, Int.reduceToNat, ne_eq, *, intV_int]; first | done | omega | rfl | exact congrArg (Value.int .i64) (by omega) | ((repeat first | exact Ext.refl _ | assumption | refine Ext.push ?_ _ | refine Ext.set ?_ _ (by first | omega | (simp only [nx, *]; omega)) | (apply Ext.up; focus (assumption; done))); done) | skip) | rfl | skip
      · clear b0 b1 b6 b8 b7 b9 hg hg2 hs hx
        rintro A1 H1 ⟨a, i, g, c, cs, ha, hi, b0, b1, b6, b7, b8, b10, hg, hg2, hcl, hgl, hgs, hcc, hrows, hx⟩
        have hxs := hx.size
        by_cases hlt : a < q
        · have hiw : i + w ≤ m.length := by
            have := Nat.mul_le_mul_right w (show a + 1 ≤ q by omega)
            rw [Nat.succ_mul] at this; omega
          have hi' : (a + 1) * w = i + w := by rw [Nat.succ_mul]; omega
          have haB : a ≤ i := by rw [← hi]; exact Nat.le_mul_of_pos_right a hw0
          repeat' first
           | (with_reducible first | refine AOps.nil ?_ | refine athen_n ?_ | refine athen_r ?_ | refine athen_e ?_ | refine ablock_n ?_ | refine ablock_r ?_ | refine ablock_s ?_ | refine AWp.seq' ?_ | refine AWp.block ?_ | refine AWp.skip ?_ | refine AWp.exit ?_ | refine AWp.ret ?_ | refine AWp.region ?_) | (with_reducible refine ablock_e ?_ ?_; focus rfl)
           | ((first | refine AOps.cons1 rfl rfl rfl fun K hK => ?_ | refine AWp.cond rfl fun X Y hX hY => ?_ | refine aret_r ?_ | refine aret_n ?_); simp (disch := (first | omega | (simp only [nx]; first | done | omega))) only [acond_bool, aresK, retv, xxq, tfF17, appendK, appsK, makeSliceK, buildSliceK, mapOf, xxa, xxb, xxc, bne, ↓reduceIte, reduceCtorEq, Nat.reduceEqDiff, Nat.reduceAdd, Nat.reduceMul, Nat.reduceSub, Nat.reduceLT, Int.reduceAdd, Int.reduceSub, Int.reduceMul, Int.reduceLT, Int.reduceToNat, ne_eq, *]; (repeat first | ((with_reducible refine And.intro (fun hc => ?_) (fun hc => absurd hc (by omega))); clear hc) | ((with_reducible refine And.intro (fun hc => absurd hc (by omega)) (fun hc => ?_)); clear hc) | ((with_reducible refine And.intro ?_ ?_); focus ((first | omega | assumption | exact cok _ rfl | exact one_ints _ | exact one_map fun _ => rfl | ((repeat refine one_cons (by first | rfl | assumption) ?_); exact one_nil) | rfl | decide | (intro u hu; cases hu)); done)) | (with_reducible refine (fun hc => ?_ : _ → _); clear hc)); (first | (refine hK.out _ _ ?_; clear hK K) | (refine And.intro (hK.out _ _ ?_) (hK.out _ _ ?_) <;> clear hK K) | (refine hX.out ?_; try clear hX hY X Y) | (refine hY.out ?_; try clear hX hY X Y) | (refine And.intro (fun hc => ?_) (fun hc => ?_) <;> first | (exfalso; omega) | (refine hX.out ?_; try clear hX hY X Y) | (refine hY.out ?_; try clear hX hY X Y)) | skip))
          refine AWp.loop (fun A H' => ∃ j gr cr : Nat, j ≤ w ∧ A 0 = .slice p m.length k ∧ A 1 = I w ∧ A 6 = .slice (some ⟨H.size, 0, none⟩) m.length (m.length + 1) ∧ A 7 = I rk ∧ A 8 = .slice (some ⟨g, 0, none⟩) a c ∧ A 10 = I i ∧ A 11 = .slice (some ⟨gr, 0, none⟩) j cr ∧ A 12 = I (i + j : Nat) ∧
            H1.size ≤ gr ∧ gr < H'.size ∧ H'.get gr = .cells (ints ((nb.drop i).take j)) 1 false ∧ (cr = 0 ∨ (cr = 1 ∧ j = 0)) ∧ Ext H1 H') (fun A _ => i + w - (intV (A 12)).toNat) ?_ ?_
          · refine ⟨0, H1.size, 1, by omega, ?_, ?_, ?_, ?_, ?_, ?_, ?_, ?_, by omega, ?_, ?_, by omega, ?_⟩
            all_goals first | omega | ((repeat first | exact Ext.refl _ | assumption | refine Ext.push ?_ _ | refine Ext.set ?_ _ (by first | omega | (simp only [nx, *]; omega)) | (apply Ext.up; focus (assumption; done))); done) | (simp (disch := (first | omega | (simp only [nx]; first | done | omega))) only [xxq, xxa, xxb, xxc, bne, ↓reduceIte, reduceCtorEq, Nat.reduceEqDiff, Nat.reduceAdd, Nat.reduceMul, Nat.reduceSub, Nat.reduceLT, Int.reduceAdd, Int.reduceSub, Int.reduceMul, Int.reduceLT, Int.reduceToNat, ne_eq, *, intV_int]; first | done | omega | rfl | exact congrArg (Value.int .i64) (by omega) | ((repeat first | exact Ext.refl _ | assumption | refine Ext.push ?_ _ | refine Ext.set ?_ _ (by first | omega | (simp only [nx, *]; omega)) | (apply Ext.up; focus (assumption; done))); done) | skip) | rfl | skip
          · clear b0 b1 b6 b7 b8
            rintro A2 H2 ⟨j, gr, cr, hj, b0, b1, b6, b7, b8, c10, b11, b12, hgr, hgrs, hgg, hcr, hx2⟩
            have hx2s := hx2.size
            have hgn := (hx2.get _ (by omega)).trans hg
            have hgc := (hx2.get _ hgs).trans hg2
            by_cases hjw : j < w
            · obtain ⟨b, ds, ro, hpb, hbs, hgb, hc⟩ := hh (i + j) (by omega)
              have hg1 := (hx2.get b (by omega)).trans ((hx.get b hbs).trans hgb)
              obtain ⟨c1, c2, c3⟩ := hC (i + j) (by omega)
              obtain ⟨z, hz⟩ : ∃ z : Nat, m.getD (i + j) 0 = (z : Int) := ⟨(m.getD (i + j) 0).toNat, by omega⟩
              rw [hz, Int.toNat_natCast] at c3
              have hv := hng z (by omega) c3
              have hvn := hnb (i + j) (by omega)
              rw [hz, Int.toNat_natCast] at hvn
              have hgz := ints_get (l := nt) (i := z) (by omega)
              rw [hv] at hgz
              have hsn := drop_take_snoc nb i j (by omega)
              rw [hvn] at hsn
              rw [hz] at hc c2
              have hrz := hrl z
              have hlen : ((nb.drop i).take j).length = j := by rw [List.length_take, List.length_drop]; omega
              generalize rank m z = r at hgz hsn hrz
              generalize hrow : (nb.drop i).take j = row at *
              clear hh hrl hng hnb hrows hv hvn hz c1 c3
              rcases hcr with rfl | ⟨rfl, rfl⟩
              · repeat' first
                 | (with_reducible first | refine AOps.nil ?_ | refine athen_n ?_ | refine athen_r ?_ | refine athen_e ?_ | refine ablock_n ?_ | refine ablock_r ?_ | refine ablock_s ?_ | refine AWp.seq' ?_ | refine AWp.block ?_ | refine AWp.skip ?_ | refine AWp.exit ?_ | refine AWp.ret ?_ | refine AWp.region ?_) | (with_reducible refine ablock_e ?_ ?_; focus rfl)
                 | ((first | refine AOps.cons1 rfl rfl rfl fun K hK => ?_ | refine AWp.cond rfl fun X Y hX hY => ?_ | refine aret_r ?_ | refine aret_n ?_); simp (disch := (first | omega | (simp only [nx]; first | done | omega))) only [acond_bool, aresK, retv, xxq, tfF17, appendK, appsK, makeSliceK, buildSliceK, mapOf, xxa, xxb, xxc, bne, ↓reduceIte, reduceCtorEq, Nat.reduceEqDiff, Nat.reduceAdd, Nat.reduceMul, Nat.reduceSub, Nat.reduceLT, Int.reduceAdd, Int.reduceSub, Int.reduceMul, Int.reduceLT, Int.reduceToNat, ne_eq, *]; (repeat first | ((with_reducible refine And.intro (fun hc => ?_) (fun hc => absurd hc (by omega))); clear hc) | ((with_reducible refine And.intro (fun hc => absurd hc (by omega)) (fun hc => ?_)); clear hc) | ((with_reducible refine And.intro ?_ ?_); focus ((first | omega | assumption | exact cok _ rfl | exact one_ints _ | exact one_map fun _ => rfl | ((repeat refine one_cons (by first | rfl | assumption) ?_); exact one_nil) | rfl | decide | (intro u hu; cases hu)); done)) | (with_reducible refine (fun hc => ?_ : _ → _); clear hc)); (first | (refine hK.out _ _ ?_; clear hK K) | (refine And.intro (hK.out _ _ ?_) (hK.out _ _ ?_) <;> clear hK K) | (refine hX.out ?_; try clear hX hY X Y) | (refine hY.out ?_; try clear hX hY X Y) | (refine And.intro (fun hc => ?_) (fun hc => ?_) <;> first | (exfalso; omega) | (refine hX.out ?_; try clear hX hY X Y) | (refine hY.out ?_; try clear hX hY X Y)) | skip))
                refine ⟨⟨j + 1, H2.size + 1, 0, by omega, ?_, ?_, ?_, ?_, ?_, ?_, ?_, ?_, by omega, ?_, ?_, by omega, ?_⟩, ?_⟩
                all_goals first | omega | ((repeat first | exact Ext.refl _ | assumption | refine Ext.push ?_ _ | refine Ext.set ?_ _ (by first | omega | (simp only [nx, *]; omega)) | (apply Ext.up; focus (assumption; done))); done) | (simp (disch := (first | omega | (simp only [nx]; first | done | omega))) only [xxq, xxa, xxb, xxc, bne, ↓reduceIte, reduceCtorEq, Nat.reduceEqDiff, Nat.reduceAdd, Nat.reduceMul, Nat.reduceSub, Nat.reduceLT, Int.reduceAdd, Int.reduceSub, Int.reduceMul, Int.reduceLT, Int.reduceToNat, ne_eq, *, hsn, intV_int]; first | done | omega | rfl | exact congrArg (Value.int .i64) (by omega) | ((repeat first | exact Ext.refl _ | assumption | refine Ext.push ?_ _ | refine Ext.set ?_ _ (by first | omega | (simp only [nx, *]; omega)) | (apply Ext.up; focus (assumption; done))); done) | skip) | rfl | skip
              · simp only [Nat.add_zero] at hc
                obtain rfl : row = [] := List.eq_nil_of_length_eq_zero hlen
                repeat' first
                 | (with_reducible first | refine AOps.nil ?_ | refine athen_n ?_ | refine athen_r ?_ | refine athen_e ?_ | refine ablock_n ?_ | refine ablock_r ?_ | refine ablock_s ?_ | refine AWp.seq' ?_ | refine AWp.block ?_ | refine AWp.skip ?_ | refine AWp.exit ?_ | refine AWp.ret ?_ | refine AWp.region ?_) | (with_reducible refine ablock_e ?_ ?_; focus rfl)
                 | ((first | refine AOps.cons1 rfl rfl rfl fun K hK => ?_ | refine AWp.cond rfl fun X Y hX hY => ?_ | refine aret_r ?_ | refine aret_n ?_); simp (disch := (first | omega | (simp only [nx]; first | done | omega))) only [acond_bool, aresK, retv, xxq, tfF17, appendK, appsK, makeSliceK, buildSliceK, mapOf, xxa, xxb, xxc, bne, ↓reduceIte, reduceCtorEq, Nat.reduceEqDiff, Nat.reduceAdd, Nat.reduceMul, Nat.reduceSub, Nat.reduceLT, Int.reduceAdd, Int.reduceSub, Int.reduceMul, Int.reduceLT, Int.reduceToNat, ne_eq, *]; (repeat first | ((with_reducible refine And.intro (fun hc => ?_) (fun hc => absurd hc (by omega))); clear hc) | ((with_reducible refine And.intro (fun hc => absurd hc (by omega)) (fun hc => ?_)); clear hc) | ((with_reducible refine And.intro ?_ ?_); focus ((first | omega | assumption | exact cok _ rfl | exact one_ints _ | exact one_map fun _ => rfl | ((repeat refine one_cons (by first | rfl | assumption) ?_); exact one_nil) | rfl | decide | (intro u hu; cases hu)); done)) | (with_reducible refine (fun hc => ?_ : _ → _); clear hc)); (first | (refine hK.out _ _ ?_; clear hK K) | (refine And.intro (hK.out _ _ ?_) (hK.out _ _ ?_) <;> clear hK K) | (refine hX.out ?_; try clear hX hY X Y) | (refine hY.out ?_; try clear hX hY X Y) | (refine And.intro (fun hc => ?_) (fun hc => ?_) <;> first | (exfalso; omega) | (refine hX.out ?_; try clear hX hY X Y) | (refine hY.out ?_; try clear hX hY X Y)) | skip))
                refine ⟨⟨0 + 1, H2.size + 1, 0, by omega, ?_, ?_, ?_, ?_, ?_, ?_, ?_, ?_, by omega, ?_, ?_, by omega, ?_⟩, ?_⟩
                all_goals first | omega | ((repeat first | exact Ext.refl _ | assumption | refine Ext.push ?_ _ | refine Ext.set ?_ _ (by first | omega | (simp only [nx, *]; omega)) | (apply Ext.up; focus (assumption; done))); done) | (simp (disch := (first | omega | (simp only [nx]; first | done | omega))) only [xxq, xxa, xxb, xxc, bne, ↓reduceIte, reduceCtorEq, Nat.reduceEqDiff, Nat.reduceAdd, Nat.reduceMul, Nat.reduceSub, Nat.reduceLT, Int.reduceAdd, Int.reduceSub, Int.reduceMul, Int.reduceLT, Int.reduceToNat, ne_eq, *, hsn, intV_int]; first | done | omega | rfl | exact congrArg (Value.int .i64) (by omega) | ((repeat first | exact Ext.refl _ | assumption | refine Ext.push ?_ _ | refine Ext.set ?_ _ (by first | omega | (simp only [nx, *]; omega)) | (apply Ext.up; focus (assumption; done))); done) | skip) | rfl | skip
            · obtain rfl : j = w := by omega
              clear hh hrl hng hnb
              have hne : g ≠ gr := by omega
              have hnext : ∀ (g' : Nat) (cs' : List Value) (H3 : Heap), (∀ x, x < H2.size → x ≠ g → H3.get x = H2.get x) → H2.size ≤ g' → H2.size < H3.size → cs' = cs ++ [.slice (some ⟨gr, 0, none⟩) j cr] →
                  ∀ a', a' < a + 1 → ∃ b c', cs'[a']? = some (.slice (some ⟨b, 0, none⟩) j c') ∧ H.size < b ∧ b < H3.size ∧ b ≠ g' ∧ H3.get b = .cells (ints ((nb.drop (a' * j)).take j)) 1 false := by
                intro g' cs' H3 h1 h2 h3 h4 a' ha'
                subst h4
                rcases Nat.lt_succ_iff_lt_or_eq.1 ha' with h | rfl
                · obtain ⟨b, c', k1, k2, k3, k4, k5⟩ := hrows a' h
                  exact ⟨b, c', by rw [List.getElem?_append_left (by omega), k1], k2, by omega, by omega, by rw [h1 b (by omega) k4, hx2.get b k3, k5]⟩
                · exact ⟨gr, cr, by rw [List.getElem?_append_right (by omega), hcl, Nat.sub_self]; rfl, by omega, by omega, by omega, by rw [h1 gr hgrs (Ne.symm hne), hgg, ← hi]⟩
              have hcT : cs.take a = cs := List.take_of_length_le (by omega)
              clear hrows hN
              rcases hcc with rfl | ⟨rfl, rfl⟩
              · repeat' first
                 | (with_reducible first | refine AOps.nil ?_ | refine athen_n ?_ | refine athen_r ?_ | refine athen_e ?_ | refine ablock_n ?_ | refine ablock_r ?_ | refine ablock_s ?_ | refine AWp.seq' ?_ | refine AWp.block ?_ | refine AWp.skip ?_ | refine AWp.exit ?_ | refine AWp.ret ?_ | refine AWp.region ?_) | (with_reducible refine ablock_e ?_ ?_; focus rfl)
                 | ((first | refine AOps.cons1 rfl rfl rfl fun K hK => ?_ | refine AWp.cond rfl fun X Y hX hY => ?_ | refine aret_r ?_ | refine aret_n ?_); simp (disch := (first | omega | (simp only [nx]; first | done | omega))) only [acond_bool, aresK, retv, xxq, tfF17, appendK, appsK, makeSliceK, buildSliceK, mapOf, xxa, xxb, xxc, bne, ↓reduceIte, reduceCtorEq, Nat.reduceEqDiff, Nat.reduceAdd, Nat.reduceMul, Nat.reduceSub, Nat.reduceLT, Int.reduceAdd, Int.reduceSub, Int.reduceMul, Int.reduceLT, Int.reduceToNat, ne_eq, *]; (repeat first | ((with_reducible refine And.intro (fun hc => ?_) (fun hc => absurd hc (by omega))); clear hc) | ((with_reducible refine And.intro (fun hc => absurd hc (by omega)) (fun hc => ?_)); clear hc) | ((with_reducible refine And.intro ?_ ?_); focus ((first | omega | assumption | exact cok _ rfl | exact one_ints _ | exact one_map fun _ => rfl | ((repeat refine one_cons (by first | rfl | assumption) ?_); exact one_nil) | rfl | decide | (intro u hu; cases hu)); done)) | (with_reducible refine (fun hc => ?_ : _ → _); clear hc)); (first | (refine hK.out _ _ ?_; clear hK K) | (refine And.intro (hK.out _ _ ?_) (hK.out _ _ ?_) <;> clear hK K) | (refine hX.out ?_; try clear hX hY X Y) | (refine hY.out ?_; try clear hX hY X Y) | (refine And.intro (fun hc => ?_) (fun hc => ?_) <;> first | (exfalso; omega) | (refine hX.out ?_; try clear hX hY X Y) | (refine hY.out ?_; try clear hX hY X Y)) | skip))
                refine ⟨⟨a + 1, i + j, H2.size + 1, 0, cs ++ [.slice (some ⟨gr, 0, none⟩) j cr], by omega, hi', ?_, ?_, ?_, ?_, ?_, ?_, ?_, ?_, ?_, ?_, ?_, by omega, hnext _ _ _ ?_ ?_ ?_ rfl, ?_⟩, ?_⟩
                rotate_left 11
                · intro x h1 h2
                  first | rw [get_push_lt (by simp only [nx]; omega), get_set_ne h2, get_push_lt h1] | rw [get_push_lt (by simp only [nx]; omega), get_push_lt h1]
                all_goals first | omega | ((repeat first | exact Ext.refl _ | assumption | refine Ext.push ?_ _ | refine Ext.set ?_ _ (by first | omega | (simp only [nx, *]; omega)) | (apply Ext.up; focus (assumption; done))); done) | (simp (disch := (first | omega | (simp only [nx]; first | done | omega))) only [xxq, xxa, xxb, xxc, bne, ↓reduceIte, reduceCtorEq, Nat.reduceEqDiff, Nat.reduceAdd, Nat.reduceMul, Nat.reduceSub, Nat.reduceLT, Int.reduceAdd, Int.reduceSub, Int.reduceMul, Int.reduceLT, Int.reduceToNat, ne_eq, *, intV_int]; first | done | omega | rfl | exact congrArg (Value.int .i64) (by omega) | ((repeat first | exact Ext.refl _ | assumption | refine Ext.push ?_ _ | refine Ext.set ?_ _ (by first | omega | (simp only [nx, *]; omega)) | (apply Ext.up; focus (assumption; done))); done) | skip) | rfl | skip
              · repeat' first
                 | (with_reducible first | refine AOps.nil ?_ | refine athen_n ?_ | refine athen_r ?_ | refine athen_e ?_ | refine ablock_n ?_ | refine ablock_r ?_ | refine ablock_s ?_ | refine AWp.seq' ?_ | refine AWp.block ?_ | refine AWp.skip ?_ | refine AWp.exit ?_ | refine AWp.ret ?_ | refine AWp.region ?_) | (with_reducible refine ablock_e ?_ ?_; focus rfl)
                 | ((first | refine AOps.cons1 rfl rfl rfl fun K hK => ?_ | refine AWp.cond rfl fun X Y hX hY => ?_ | refine aret_r ?_ | refine aret_n ?_); simp (disch := (first | omega | (simp only [nx]; first | done | omega))) only [acond_bool, aresK, retv, xxq, tfF17, appendK, appsK, makeSliceK, buildSliceK, mapOf, xxa, xxb, xxc, bne, ↓reduceIte, reduceCtorEq, Nat.reduceEqDiff, Nat.reduceAdd, Nat.reduceMul, Nat.reduceSub, Nat.reduceLT, Int.reduceAdd, Int.reduceSub, Int.reduceMul, Int.reduceLT, Int.reduceToNat, ne_eq, *]; (repeat first | ((with_reducible refine And.intro (fun hc => ?_) (fun hc => absurd hc (by omega))); clear hc) | ((with_reducible refine And.intro (fun hc => absurd hc (by omega)) (fun hc => ?_)); clear hc) | ((with_reducible refine And.intro ?_ ?_); focus ((first | omega | assumption | exact cok _ rfl | exact one_ints _ | exact one_map fun _ => rfl | ((repeat refine one_cons (by first | rfl | assumption) ?_); exact one_nil) | rfl | decide | (intro u hu; cases hu)); done)) | (with_reducible refine (fun hc => ?_ : _ → _); clear hc)); (first | (refine hK.out _ _ ?_; clear hK K) | (refine And.intro (hK.out _ _ ?_) (hK.out _ _ ?_) <;> clear hK K) | (refine hX.out ?_; try clear hX hY X Y) | (refine hY.out ?_; try clear hX hY X Y) | (refine And.intro (fun hc => ?_) (fun hc => ?_) <;> first | (exfalso; omega) | (refine hX.out ?_; try clear hX hY X Y) | (refine hY.out ?_; try clear hX hY X Y)) | skip))
                refine ⟨⟨0 + 1, i + j, H2.size + 1, 0, cs ++ [.slice (some ⟨gr, 0, none⟩) j cr], by omega, hi', ?_, ?_, ?_, ?_, ?_, ?_, ?_, ?_, ?_, ?_, ?_, by omega, hnext _ _ _ ?_ ?_ ?_ rfl, ?_⟩, ?_⟩
                rotate_left 11
                · intro x h1 h2
                  first | rw [get_push_lt (by simp only [nx]; omega), get_set_ne h2, get_push_lt h1] | rw [get_push_lt (by simp only [nx]; omega), get_push_lt h1]
                all_goals first | omega | ((repeat first | exact Ext.refl _ | assumption | refine Ext.push ?_ _ | refine Ext.set ?_ _ (by first | omega | (simp only [nx, *]; omega)) | (apply Ext.up; focus (assumption; done))); done) | (simp (disch := (first | omega | (simp only [nx]; first | done | omega))) only [xxq, xxa, xxb, xxc, bne, ↓reduceIte, reduceCtorEq, Nat.reduceEqDiff, Nat.reduceAdd, Nat.reduceMul, Nat.reduceSub, Nat.reduceLT, Int.reduceAdd, Int.reduceSub, Int.reduceMul, Int.reduceLT, Int.reduceToNat, ne_eq, *, intV_int]; first | done | omega | rfl | exact congrArg (Value.int .i64) (by omega) | ((repeat first | exact Ext.refl _ | assumption | refine Ext.push ?_ _ | refine Ext.set ?_ _ (by first | omega | (simp only [nx, *]; omega)) | (apply Ext.up; focus (assumption; done))); done) | skip) | rfl | skip
        · obtain rfl : a = q := by omega
          have hiN : i = m.length := by rw [← hi, hN]
          clear hN
          clear hh hrl hng hnb
          repeat' first
           | (with_reducible first | refine AOps.nil ?_ | refine athen_n ?_ | refine athen_r ?_ | refine athen_e ?_ | refine ablock_n ?_ | refine ablock_r ?_ | refine ablock_s ?_ | refine AWp.seq' ?_ | refine AWp.block ?_ | refine AWp.skip ?_ | refine AWp.exit ?_ | refine AWp.ret ?_ | refine AWp.region ?_) | (with_reducible refine ablock_e ?_ ?_; focus rfl)
           | ((first | refine AOps.cons1 rfl rfl rfl fun K hK => ?_ | refine AWp.cond rfl fun X Y hX hY => ?_ | refine aret_r ?_ | refine aret_n ?_); simp (disch := (first | omega | (simp only [nx]; first | done | omega))) only [acond_bool, aresK, retv, xxq, tfF17, appendK, appsK, makeSliceK, buildSliceK, mapOf, xxa, xxb, xxc, bne, ↓reduceIte, reduceCtorEq, Nat.reduceEqDiff, Nat.reduceAdd, Nat.reduceMul, Nat.reduceSub, Nat.reduceLT, Int.reduceAdd, Int.reduceSub, Int.reduceMul, Int.reduceLT, Int.reduceToNat, ne_eq, *]; (repeat first | ((with_reducible refine And.intro (fun hc => ?_) (fun hc => absurd hc (by omega))); clear hc) | ((with_reducible refine And.intro (fun hc => absurd hc (by omega)) (fun hc => ?_)); clear hc) | ((with_reducible refine And.intro ?_ ?_); focus ((first | omega | assumption | exact cok _ rfl | exact one_ints _ | exact one_map fun _ => rfl | ((repeat refine one_cons (by first | rfl | assumption) ?_); exact one_nil) | rfl | decide | (intro u hu; cases hu)); done)) | (with_reducible refine (fun hc => ?_ : _ → _); clear hc)); (first | (refine hK.out _ _ ?_; clear hK K) | (refine And.intro (hK.out _ _ ?_) (hK.out _ _ ?_) <;> clear hK K) | (refine hX.out ?_; try clear hX hY X Y) | (refine hY.out ?_; try clear hX hY X Y) | (refine And.intro (fun hc => ?_) (fun hc => ?_) <;> first | (exfalso; omega) | (refine hX.out ?_; try clear hX hY X Y) | (refine hY.out ?_; try clear hX hY X Y)) | skip))
          refine hQ.out _ _ ⟨_, rfl, ⟨_, c, by rw [chunkR_len], fun h => (by cases h), fun a' ha' => ?_⟩, hx⟩
          rw [chunkR_len] at ha'
          obtain ⟨b, c', h1, h2, h3, h4, h5⟩ := hrows a' ha'
          refine ⟨g, cs, false, _, rfl, by omega, hgs, hg2, h1, ?_⟩
          rw [chunkR_get _ _ _ _ ha']
          have hlen : ((nb.drop (a' * w)).take w).length = w := by
            have := Nat.mul_le_mul_right w (show a' + 1 ≤ a by omega)
            rw [Nat.succ_mul] at this
            rw [List.length_take, List.length_drop]; omega
          exact ⟨_, c', by rw [hlen], fun h => (by cases h), fun j hj => ⟨b, _, _, rfl, by omega, h3, h5, ints_get hj⟩⟩
end Go.Proofs.Ytibkopejnhihkaa.Rai
