/- A part of the walk: what functions of the program do, over an abstract heap. -/
import Derived.Test.YtmoknllbpjpkmaaW11
namespace Go.Proofs.Ytmoknllbpjpkmaa.Zed
open Go TP
set_option linter.unusedVariables false
set_option linter.unusedSimpArgs false
set_option maxRecDepth 20000
namespace tfW12
theorem tf : (Try.prog.underlying 25 = some (.slice 2)) ∧ (el Try.prog 25 = some (none, 1)) ∧ (Try.prog.underlying 29 = some (.slice 102)) ∧ (el Try.prog 29 = some (none, 1)) ∧ (tk Try.prog 2 = some none) ∧ (tk Try.prog 29 = some none) ∧ (tk Try.prog 102 = some none) ∧ (cz Try.prog 2 = some 1) ∧ (bz Try.prog 2 = some 8) ∧ (cz Try.prog 102 = some 1) ∧ (bz Try.prog 102 = some 24) ∧ (zr Try.prog 2 = some (.int .i64 0)) ∧ (zr Try.prog 102 = some (.slice none 0 0)) ∧ (fo Try.prog 31 0 = some (0, none)) := by
  refine ⟨?_, ?_, ?_, ?_, ?_, ?_, ?_, ?_, ?_, ?_, ?_, ?_, ?_, ?_⟩ <;> kernel_rfl
end tfW12
open tfW12

theorem l07In_z (x lo hi : Int) : ZCalls Try.prog 150 [I x, I lo, I hi] (B (decide (lo ≤ x ∧ x ≤ hi))) := by
  by_cases h1 : lo ≤ x
  · have h1' : x ≥ lo := h1
    by_cases h2 : x ≤ hi
    · rw [decide_eq_true (show lo ≤ x ∧ x ≤ hi from ⟨h1, h2⟩)]
      refine ZCalls.body Try.func150 rfl Try.ntmps150 (rs := [.tmp 6]) rfl (by simp) rfl fun H Q hQ A hA => ?_
      have a0 := hA 0 _ _ rfl
      have a1 := hA 1 _ _ rfl
      have a2 := hA 2 _ _ rfl
      clear hA
      repeat' first | refine rnY ?_ | with_reducible refine And.intro (fun hc => ?_) (fun hc => ?_) | fail
      exact hQ.out _ _ (fv) (by exact exY)
    · rw [decide_eq_false (show ¬ (lo ≤ x ∧ x ≤ hi) from fun h => h2 h.2)]
      refine ZCalls.body Try.func150 rfl Try.ntmps150 (rs := [.tmp 6]) rfl (by simp) rfl fun H Q hQ A hA => ?_
      have a0 := hA 0 _ _ rfl
      have a1 := hA 1 _ _ rfl
      have a2 := hA 2 _ _ rfl
      clear hA
      repeat' first | refine rnY ?_ | with_reducible refine And.intro (fun hc => ?_) (fun hc => ?_) | fail
      exact hQ.out _ _ (fv) (by exact exY)
  · have h1' : ¬ x ≥ lo := h1
    rw [decide_eq_false (show ¬ (lo ≤ x ∧ x ≤ hi) from fun h => h1 h.1)]
    refine ZCalls.body Try.func150 rfl Try.ntmps150 (rs := [.tmp 6]) rfl (by simp) rfl fun H Q hQ A hA => ?_
    have a0 := hA 0 _ _ rfl
    have a1 := hA 1 _ _ rfl
    have a2 := hA 2 _ _ rfl
    clear hA
    repeat' first | refine rnY ?_ | with_reducible refine And.intro (fun hc => ?_) (fun hc => ?_) | fail
    exact hQ.out _ _ (fv) (by exact exY)
theorem l06Valid_z (x : Int) : ZCalls Try.prog 151 [I x] (B (decide (0 ≤ x ∧ x ≤ 23))) := by
  by_cases h1 : 0 ≤ x
  · have h1' : x ≥ 0 := h1
    by_cases h2 : x < 24
    · rw [decide_eq_true (show 0 ≤ x ∧ x ≤ 23 by omega)]
      refine ZCalls.body Try.func151 rfl Try.ntmps151 (rs := [.tmp 2]) rfl (by simp) rfl fun H Q hQ A hA => ?_
      have a0 := hA 0 _ _ rfl
      clear hA
      repeat' first | refine rnY ?_ | with_reducible refine And.intro (fun hc => ?_) (fun hc => ?_) | fail
      exact hQ.out _ _ (fv) (by exact exY)
    · rw [decide_eq_false (show ¬ (0 ≤ x ∧ x ≤ 23) by omega)]
      refine ZCalls.body Try.func151 rfl Try.ntmps151 (rs := [.tmp 2]) rfl (by simp) rfl fun H Q hQ A hA => ?_
      have a0 := hA 0 _ _ rfl
      clear hA
      repeat' first | refine rnY ?_ | with_reducible refine And.intro (fun hc => ?_) (fun hc => ?_) | fail
      exact hQ.out _ _ (fv) (by exact exY)
  · have h1' : ¬ x ≥ 0 := h1
    rw [decide_eq_false (show ¬ (0 ≤ x ∧ x ≤ 23) by omega)]
    refine ZCalls.body Try.func151 rfl Try.ntmps151 (rs := [.tmp 2]) rfl (by simp) rfl fun H Q hQ A hA => ?_
    have a0 := hA 0 _ _ rfl
    clear hA
    repeat' first | refine rnY ?_ | with_reducible refine And.intro (fun hc => ?_) (fun hc => ?_) | fail
    exact hQ.out _ _ (fv) (by exact exY)
theorem l07Tets_z (n es : Nat) (cs : List Value) : ZCalls Try.prog 72 [.agg #[FZ es n cs]] (I n) := by
  refine ZCalls.body Try.func72 rfl Try.ntmps72 (rs := [.tmp 2]) rfl (by simp) rfl fun H Q hQ A hA => ?_
  have a0 := hA 0 _ _ rfl
  clear hA
  repeat' first | refine rnY ?_ | with_reducible refine And.intro (fun hc => ?_) (fun hc => ?_) | fail
  exact hQ.out _ _ (fv) (by exact exY)
/-- The numbers left and the images, as 'l06Images' keeps them. -/
def rsL (p : Int) (k : Nat) : List Int := (stp p k).2.1.take (4 - k)
def osL (p : Int) (k : Nat) : List Int := (stp p k).2.2.take k
theorem stp_q (p : Int) (h0 : 0 ≤ p) (h1 : p < 24) (k : Nat) (hk : k < 4) : 0 ≤ (stp p k).1 ∧ (stp p k).1 < 24 ∧ (stp p k).1 / bl k < 4 - k ∧ 0 ≤ (stp p k).1 / bl k ∧ 0 ≤ (stp p k).1 % bl k ∧ (stp p k).1 % bl k < 6 ∧ 0 < bl k ∧ bl k ≤ 6 := by
  have hX := stp_x p h0 h1
  have : k = 0 ∨ k = 1 ∨ k = 2 ∨ k = 3 := by omega
  rcases this with rfl | rfl | rfl | rfl
  · simp [bl, stp]; omega
  · simp only [bl, List.getD_cons_succ, List.getD_cons_zero]; omega
  · simp only [bl, List.getD_cons_succ, List.getD_cons_zero]; omega
  · have : (stp p 3).1 = 0 ∨ (stp p 3).1 > 0 := by have := hX.2.2; omega
    simp only [bl, List.getD_cons_succ, List.getD_cons_zero]; omega
theorem rsL_len (p : Int) (h0 : 0 ≤ p) (h1 : p < 24) (k : Nat) (hk : k ≤ 4) : (rsL p k).length = 4 - k ∧ (osL p k).length = k := by
  have := stp_len p k hk h0 h1
  simp only [rsL, osL, List.length_take]
  omega
theorem rsL_step (p : Int) (h0 : 0 ≤ p) (h1 : p < 24) (k : Nat) (hk : k < 4) :
    rsL p (k + 1) = (rsL p k).eraseIdx ((stp p k).1 / bl k).toNat ∧ osL p (k + 1) = osL p k ++ [(rsL p k).getD ((stp p k).1 / bl k).toNat 0] := by
  have hl := stp_len p k (by omega) h0 h1
  have hq := stp_q p h0 h1 k hk
  have hs : stp p (k + 1) = ((stp p k).1 % bl k, ((stp p k).2.1.take (4 - k)).eraseIdx ((stp p k).1 / bl k).toNat ++ [0] ++ (stp p k).2.1.drop (4 - k), (stp p k).2.2.set k ((stp p k).2.1.getD ((stp p k).1 / bl k).toNat 0)) := rfl
  unfold rsL osL
  rw [hs]
  generalize stp p k = s at *
  obtain ⟨X, L, O⟩ := s
  dsimp only at *
  have he : ((L.take (4 - k)).eraseIdx (X / bl k).toNat).length = 4 - (k + 1) := by
    rw [List.length_eraseIdx, List.length_take, if_pos (by omega)]; omega
  constructor
  · rw [List.append_assoc, List.take_append_of_le_length (by omega), List.take_of_length_le (by omega)]
  · rw [set_take' (by omega)]
    congr 2
    rw [List.getD_eq_getElem?_getD, List.getD_eq_getElem?_getD, List.getElem?_take, if_pos (by omega)]
theorem AWp.freezeI {P : Program} {m : Nat} {c : Code} {Q : Exit → Fr → Heap → Prop} {A : Fr} {H : Heap} {t g k n : Nat} {l : List Int} (l' : List Int) (n' : Nat) (hA : A t = .slice (some ⟨g, 0, none⟩) n k) (hg : H.get g = .cells (ints l) 1 false) (hl : l = l') (hn : n = n') (hn' : l'.length = n')
    (gg : AWp P m c Q (put A (some t) (FZ 1 n' (ints l'))) (H.set g .dead)) : AWp P m c Q A H := by
  subst hl hn
  refine AWp.freeze (es := 1) hA hg (by rw [ints_len]; omega) ?_
  rw [List.drop_zero, List.take_of_length_le (by rw [ints_len]; omega)]
  exact gg
/-- Whole numbers behind a list of one's own. -/
theorem appI {H : Heap} {g n m : Nat} {cs l : List Int} {K : Value → Heap → Prop} (hg : H.get g = .cells (ints cs) 1 false) (hn : n ≤ cs.length) (hm : l.length = m) (hb : n + m ≤ 1000000) (h0 : m ≠ 0) (h : K (.slice (some ⟨H.size, 0, none⟩) (n + m) 0) ((H.set g .dead).push (.cells (ints (cs.take n ++ l)) 1 false))) :
    appendK Try.prog 25 25 (.slice (some ⟨g, 0, none⟩) n 0) (FZ 1 m (ints l)) H K := by
  have hel : el Try.prog 25 = some (none, 1) := rfl
  have hu : Try.prog.underlying 25 = some (.slice 2) := rfl
  have hc : cz Try.prog 2 = some 1 := rfl
  have hbz : bz Try.prog 2 = some 8 := rfl
  have hz : zr Try.prog 2 = some (.int .i64 0) := rfl
  unfold appendK appsK
  simp only [hu, hc, hbz, hz, hel, hg]
  refine ⟨by omega, by omega, rfl, rfl, rfl, by rw [ints_len]; omega, ?_, trivial, trivial, by omega, fun q => absurd q h0, fun _ => ⟨by rw [ints_len]; omega, ?_⟩⟩
  · intro v hv
    obtain ⟨y, _, rfl⟩ := List.mem_map.1 hv
    rfl
  · rw [List.drop_zero, Nat.mul_one, take_ints, app_ints]; exact h
theorem appI0 {H : Heap} {g n : Nat} {cs : List Int} {K : Value → Heap → Prop} (hg : H.get g = .cells (ints cs) 1 false) (hb : n ≤ 1000000) (h : K (.slice (some ⟨g, 0, none⟩) n 0) H) :
    appendK Try.prog 25 25 (.slice (some ⟨g, 0, none⟩) n 0) (FZ 1 0 []) H K := by
  have hel : el Try.prog 25 = some (none, 1) := rfl
  have hu : Try.prog.underlying 25 = some (.slice 2) := rfl
  have hc : cz Try.prog 2 = some 1 := rfl
  have hbz : bz Try.prog 2 = some 8 := rfl
  have hz : zr Try.prog 2 = some (.int .i64 0) := rfl
  unfold appendK appsK
  simp only [hu, hc, hbz, hz, hel, hg]
  refine ⟨by omega, by omega, rfl, rfl, rfl, rfl, ?_, trivial, trivial, by omega, fun _ => h, fun q => absurd rfl q⟩
  intro v hv
  cases hv
set_option maxHeartbeats 2000000 in
theorem l06Images_z (p : Int) (h0 : 0 ≤ p) (h1 : p < 24) : ZCalls Try.prog 183 [I p] (FZ 1 4 (ints (pmL p))) := by
  refine ZCalls.body Try.func183 rfl Try.ntmps183 (rs := [.tmp 2]) rfl (by simp) rfl fun H Q hQ A hA => ?_
  have a0 := hA 0 _ _ rfl
  clear hA
  repeat' first | refine rnY ?_ | with_reducible refine And.intro (fun hc => ?_) (fun hc => ?_) | fail
  refine AWp.growE (t := 4) 1 (by decide) (by exact ivY) ?_
  refine AWp.cut (fun Ac hAc => ?_)
  have c0 := gtY (t := 0) hAc
  have c3 := gtY (t := 3) hAc
  have c4 := gtY (t := 4) hAc
  have c5 := gtY (t := 5) hAc
  have c6 := gtY (t := 6) hAc
  clear a0
  refine AWp.loop (fun A' H' => ∃ (k : Nat), Ag [7, 10, 11, 12, 13, 14, 15, 16, 17, 18, 19, 20, 21, 22, 23, 24, 25, 26, 27, 28, 29, 30, 31, 32, 33, 34, 35, 36, 37, 38, 39, 40, 41] A' (put (put (put (put (put Ac (some 0) (I (stp p k).1)) (some 3) (FZ 1 (4 - k) (ints (rsL p k)))) (some 4) (GZ (H.size + 1) 1 k (ints (osL p k)))) (some 5) (I (bl k))) (some 6) (I (3 - (k : Int)))) ∧ k ≤ 4 ∧ Ext ((H.push (.cells [] 1 false)).push (.tok k 1)) H') (fun A' _ => 4 - (3 - (intV (A' 6))).toNat) ?_ ?_
  · have e0 : (stp p 0).1 = p := rfl
    have e1 : rsL p 0 = [0, 1, 2, 3] := rfl
    have e2 : osL p 0 = [] := rfl
    have e3 : bl 0 = 6 := rfl
    exact ⟨0, agY, by omega, by exact exY⟩
  · rintro A1 H1 ⟨k, hA, hk, hx⟩
    have d0 := gdY (t := 0) hA
    have d3 := gdY (t := 3) hA
    have d4 := gdY (t := 4) hA
    have d5 := gdY (t := 5) hA
    have d6 := gdY (t := 6) hA
    by_cases hlt : k < 4
    · have hq := stp_q p h0 h1 k hlt
      have hl := rsL_len p h0 h1 k hk
      obtain ⟨hs1, hs2⟩ := rsL_step p h0 h1 k hlt
      have hl2 := (rsL_len p h0 h1 (k + 1) (by omega)).1
      have hst : (stp p (k + 1)).1 = (stp p k).1 % bl k := rfl
      have hb1 : 0 < bl (k + 1) ∧ bl (k + 1) ≤ 6 := by
        have : k = 0 ∨ k = 1 ∨ k = 2 ∨ k = 3 := by omega
        rcases this with rfl | rfl | rfl | rfl <;> simp [bl]
      have hbl : k < 3 → bl k / (3 - (k : Int)) = bl (k + 1) := by
        intro h3
        have : k = 0 ∨ k = 1 ∨ k = 2 := by omega
        rcases this with rfl | rfl | rfl <;> rfl
      have hbl3 : k = 3 → bl (k + 1) = bl k := by rintro rfl; rfl
      generalize stp p k = s at *
      obtain ⟨X, L, O⟩ := s
      dsimp only at hq hst hs1 hs2 d0
      generalize bl k = bk at *
      obtain ⟨x1, x2, x3, x4, x5, x6, x7, x8⟩ := hq
      obtain ⟨l1, l2⟩ := hl
      obtain ⟨q, hqq⟩ : ∃ q : Nat, X / bk = (q : Int) := ⟨(X / bk).toNat, by omega⟩
      have hqn : (X / bk).toNat = q := by omega
      rw [hqn] at hs1 hs2
      generalize rsL p k = rs at *
      generalize osL p k = os at *
      have hq1 : ((q : Int) + 1).toNat = q + 1 := by omega
      have her : rs.eraseIdx q = rs.take q ++ (rs.drop (q + 1)).take (4 - k - (q + 1)) := by
        rw [List.eraseIdx_eq_take_drop_succ, List.take_of_length_le (l := rs.drop (q + 1)) (by rw [List.length_drop]; omega)]
      have hxg := hx.get; have hxs := hx.size; (try simp only [nx] at hxs)
      repeat' first | refine rnY ?_ | with_reducible refine And.intro (fun hc => ?_) (fun hc => ?_) | fail
      by_cases hk3 : k = 3
      · subst hk3
        obtain rfl : q = 0 := by omega
        have hbl3 := hbl3 rfl
        clear hbl
        refine AWp.zreg [(1, none), (2, none), (3, none), (5, none), (6, none), (7, none), (8, none), (0, some []), (4, some []), (9, some []), (10, none)] mixed (by kernel_rfl) ?_
        repeat' first | refine rzY ?_ | fail
        refine athen_n ?_
        refine AWp.freezeI (t := 3) (rsL p (3 + 1)) (4 - (3 + 1)) (by exact ivY) (get_push_eq (by exact ivY)) (by apply Eq.symm; apply List.eq_nil_of_length_eq_zero; exact hl2) (by omega) hl2 ?_
        repeat' first | refine rnY ?_ | with_reducible refine And.intro (fun hc => ?_) (fun hc => ?_) | fail
        exact ⟨⟨3 + 1, agY, by omega, by exact exY⟩, by exact ivY⟩
      · have hbl := hbl (by omega)
        clear hbl3
        have hkk : 4 - (k + 1) = 3 - k := by omega
        by_cases hq0 : q = 0
        · subst hq0
          have hk4 : 4 - k - (0 + 1) = 3 - k := by omega
          have hr0 : 3 - k ≠ 0 := by omega
          refine AWp.zreg [(1, none), (2, none), (3, none), (5, none), (6, none), (7, none), (8, none), (0, some []), (4, some []), (9, some []), (10, none)] mixed (by kernel_rfl) ?_
          repeat' first | refine rzY ?_ | fail
          refine athen_n ?_
          refine AWp.freezeI (t := 3) (rsL p (k + 1)) (4 - (k + 1)) (by exact ivY) (get_push_eq (by exact ivY)) (by rw [hs1, her, List.take_zero, List.nil_append, hk4]) (by omega) hl2 ?_
          repeat' first | refine rnY ?_ | with_reducible refine And.intro (fun hc => ?_) (fun hc => ?_) | fail
          exact ⟨⟨k + 1, agY, by omega, by exact exY⟩, by exact ivY⟩
        · by_cases hr0 : 4 - k - (q + 1) = 0
          · refine AWp.zreg [(1, none), (2, none), (3, none), (5, none), (6, none), (7, none), (8, none), (0, some []), (4, some []), (9, some []), (10, none)] mixed (by kernel_rfl) ?_
            repeat' first | refine rzY ?_ | (refine appI0 (get_push_eq (by exact sdY)) (by omega) ?_; refine hgY ?_) | fail
            refine athen_n ?_
            refine AWp.freezeI (t := 3) (rsL p (k + 1)) (4 - (k + 1)) (by exact ivY) (get_push_eq (by exact ivY)) (by rw [hs1, her, hr0, List.take_zero, List.append_nil]) (by omega) hl2 ?_
            repeat' first | refine rnY ?_ | with_reducible refine And.intro (fun hc => ?_) (fun hc => ?_) | fail
            exact ⟨⟨k + 1, agY, by omega, by exact exY⟩, by exact ivY⟩
          · refine AWp.zreg [(1, none), (2, none), (3, none), (5, none), (6, none), (7, none), (8, none), (0, some []), (4, some []), (9, some []), (10, none)] mixed (by kernel_rfl) ?_
            repeat' first | refine rzY ?_ | (refine appI (get_push_eq (by exact sdY)) (by exact sdY) (by exact sdY) (by omega) hr0 ?_; refine hgY ?_) | fail
            refine athen_n ?_
            refine AWp.freezeI (t := 3) (rsL p (k + 1)) (4 - (k + 1)) (by exact ivY) (get_push_eq (by exact ivY)) (by rw [hs1, her, List.take_take, Nat.min_self]) (by omega) hl2 ?_
            repeat' first | refine rnY ?_ | with_reducible refine And.intro (fun hc => ?_) (fun hc => ?_) | fail
            exact ⟨⟨k + 1, agY, by omega, by exact exY⟩, by exact ivY⟩
    · obtain rfl : k = 4 := by omega
      have ho : osL p 4 = pmL p := by
        unfold osL pmL
        rw [List.take_of_length_le (by have := stp_len p 4 (by omega) h0 h1; omega)]
      rw [ho] at d4
      repeat' first | refine rnY ?_ | with_reducible refine And.intro (fun hc => ?_) (fun hc => ?_) | fail
      exact hQ.out _ _ (fv) (by exact exY)
end Go.Proofs.Ytmoknllbpjpkmaa.Zed
