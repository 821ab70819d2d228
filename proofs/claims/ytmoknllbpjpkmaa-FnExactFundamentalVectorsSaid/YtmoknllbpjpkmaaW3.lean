/- A part of the walk: what functions of the program do, over an abstract heap. -/
import Derived.Test.YtmoknllbpjpkmaaW2
namespace Go.Proofs.Ytmoknllbpjpkmaa.Zed
open Go TP
set_option linter.unusedVariables false
set_option linter.unusedSimpArgs false
set_option maxRecDepth 20000
namespace tfW3
theorem tf : (Try.prog.underlying 25 = some (.slice 2)) ∧ (el Try.prog 25 = some (none, 1)) ∧ (Try.prog.underlying 29 = some (.slice 102)) ∧ (el Try.prog 29 = some (none, 1)) ∧ (Try.prog.underlying 144 = some (.array 4 2)) ∧ (el Try.prog 144 = some (some 4, 1)) ∧ (tk Try.prog 2 = some none) ∧ (tk Try.prog 102 = some none) ∧ (tk Try.prog 107 = some (some 2)) ∧ (tk Try.prog 144 = some (some 4)) ∧ (cz Try.prog 2 = some 1) ∧ (bz Try.prog 2 = some 8) ∧ (cz Try.prog 102 = some 1) ∧ (bz Try.prog 102 = some 24) ∧ (zr Try.prog 2 = some (.int .i64 0)) ∧ (zr Try.prog 102 = some (.slice none 0 0)) ∧ (zr Try.prog 107 = some (.agg #[.int .i64 0, .int .i64 0])) ∧ (zr Try.prog 144 = some (.agg #[.int .i64 0, .int .i64 0, .int .i64 0, .int .i64 0])) ∧ (fo Try.prog 107 1 = some (1, none)) ∧ (el Try.prog 107 = none) ∧ (placesOf Try.prog 107 = some #[(0, 1), (1, 1)]) := by
  refine ⟨?_, ?_, ?_, ?_, ?_, ?_, ?_, ?_, ?_, ?_, ?_, ?_, ?_, ?_, ?_, ?_, ?_, ?_, ?_, ?_, ?_⟩ <;> kernel_rfl
end tfW3
open tfW3

/-- A triangulation. -/
abbrev zT (T : List (List (Int × Int))) : Value := .agg #[zL zP T]
theorem Cl.zT (T : List (List (Int × Int))) : Cl (Zed.zT T) := Cl.agg (Cl.cons (Cl.zL (fun r => Cl.zP r) T) Cl.nil)
theorem target_z (t p f : Int) (h0 : 0 ≤ p) (h1 : p < 24) (hf0 : 0 ≤ f) (hf1 : f < 4) : ZCalls Try.prog 188 [.agg #[I t, I p], I f] (I (pm p f)) := by
  obtain ⟨n, rfl⟩ : ∃ n : Nat, f = n := ⟨f.toNat, by omega⟩
  have hl := (pmL_bd p h0 h1).1
  refine ZCalls.body Try.func188 rfl Try.ntmps188 (rs := [.tmp 4]) rfl (by simp) rfl fun H Q hQ A hA => ?_
  have a0 := hA 0 _ _ rfl
  have a1 := hA 1 _ _ rfl
  clear hA
  repeat' first | refine rnY ?_ | (first | refine ZCalls.to (perm_z _ h0 h1) ?_ | refine ZCalls.tf (perm_z _ h0 h1) ?_) | with_reducible refine And.intro (fun hc => ?_) (fun hc => ?_) | fail
  exact hQ.out _ _ (.eq (Cl.int _ _) (by simp [pm])) (by exact exY)
theorem size_z (n es : Nat) (cs : List Value) : ZCalls Try.prog 161 [FZ es n cs] (I n) := by
  refine ZCalls.body Try.func161 rfl Try.ntmps161 (rs := [.tmp 2]) rfl (by simp) rfl fun H Q hQ A hA => ?_
  have a0 := hA 0 _ _ rfl
  clear hA
  repeat' first | refine rnY ?_ | with_reducible refine And.intro (fun hc => ?_) (fun hc => ?_) | fail
  exact hQ.out _ _ (fv) (by exact exY)
theorem hasIndex_z (n es : Nat) (cs : List Value) (i : Int) (hn : n ≤ 1048576) : ZCalls Try.prog 186 [FZ es n cs, I i] (B (decide (0 ≤ i ∧ i ≤ (n : Int) - 1))) := by
  refine ZCalls.body Try.func186 rfl Try.ntmps186 (rs := [.tmp 4]) rfl (by simp) rfl fun H Q hQ A hA => ?_
  have a0 := hA 0 _ _ rfl
  have a1 := hA 1 _ _ rfl
  clear hA
  repeat' first | refine rnY ?_ | (first | refine ZCalls.to (size_z _ _ _) ?_ | refine ZCalls.tf (size_z _ _ _) ?_) | (first | refine ZCalls.to (inRange_z _ _ _) ?_ | refine ZCalls.tf (inRange_z _ _ _) ?_) | with_reducible refine And.intro (fun hc => ?_) (fun hc => ?_) | fail
  exact hQ.out _ _ (fv) (by exact exY)
theorem getD_bd4 {l : List Int} (hl : l.length = 4) (hb : ∀ x ∈ l, 0 ≤ x ∧ x ≤ 3) (j : Nat) : 0 ≤ l.getD j 0 ∧ l.getD j 0 ≤ 3 := by
  by_cases hj : j < l.length
  · have := hb _ (List.getElem_mem hj); simpa [hj] using this
  · simp [List.getD_eq_getElem?_getD, List.getElem?_eq_none (Nat.le_of_not_lt hj)]
set_option maxHeartbeats 1000000 in
theorem indexOf_z (l : List Int) (hl : l.length = 4) (hb : ∀ x ∈ l, 0 ≤ x ∧ x ≤ 3) : ZCalls Try.prog 196 [.agg (ints l).toArray] (I (ixs l 4)) := by
  have hbd := getD_bd4 hl hb
  refine ZCalls.body Try.func196 rfl Try.ntmps196 (rs := [.tmp 2]) rfl (by simp) rfl fun H Q hQ A hA => ?_
  have a0 := hA 0 _ _ rfl
  clear hA
  repeat' first | refine rnY ?_ | with_reducible refine And.intro (fun hc => ?_) (fun hc => ?_) | fail
  refine AWp.cut (fun Ac hAc => ?_)
  have c1 := gtY (t := 1) hAc
  have c9 := gtY (t := 9) hAc
  have c10 := gtY (t := 10) hAc
  have c3 := gtY (t := 3) hAc
  have c11 := gtY (t := 11) hAc
  clear a0
  refine AWp.loop (fun A' H' => ∃ (k : Nat), Ag [4, 5, 6, 8, 12, 13, 14, 15, 16, 17, 18, 19, 20, 21, 22, 23, 24, 25, 26, 27, 28, 29, 30, 31, 32, 33, 34, 35, 36, 37, 38, 39] A' (put (put Ac (some 3) (I (ixs l k))) (some 11) (I k)) ∧ k ≤ 4 ∧ Ext H H') (fun A' _ => 4 - (intV (A' 11)).toNat) ?_ ?_
  · have e0 : ixs l 0 = 0 := rfl
    exact ⟨0, agY, by omega, by exact exY⟩
  · rintro A1 H1 ⟨k, hA, hk, hx⟩
    have d1 := gdY (t := 1) hA
    have d3 := gdY (t := 3) hA
    have d9 := gdY (t := 9) hA
    have d10 := gdY (t := 10) hA
    have d11 := gdY (t := 11) hA
    by_cases hlt : k < 4
    · have hbk : ([.int .i64 6, .int .i64 2, .int .i64 1, .int .i64 1] : List Value)[k]? = some (I (bl k)) := by
        have : k = 0 ∨ k = 1 ∨ k = 2 ∨ k = 3 := by omega
        rcases this with rfl | rfl | rfl | rfl <;> rfl
      have hbl : 0 < bl k ∧ bl k ≤ 6 := by
        have : k = 0 ∨ k = 1 ∨ k = 2 ∨ k = 3 := by omega
        rcases this with rfl | rfl | rfl | rfl <;> simp [bl]
      repeat' first | refine rnY ?_ | with_reducible refine And.intro (fun hc => ?_) (fun hc => ?_) | fail
      refine AWp.cut (fun Ae hAe => ?_)
      have e1 := gtY (t := 1) hAe
      have e3 := gtY (t := 3) hAe
      have e4 := gtY (t := 4) hAe
      have e5 := gtY (t := 5) hAe
      have e9 := gtY (t := 9) hAe
      have e10 := gtY (t := 10) hAe
      have e11 := gtY (t := 11) hAe
      have e20 := gtY (t := 20) hAe
      have e21 := gtY (t := 21) hAe
      have e6 := gtY (t := 6) hAe
      have e22 := gtY (t := 22) hAe
      refine AWp.loop (fun A' H' => ∃ (j : Nat), Ag [8, 23, 24, 25, 26, 27, 28, 29, 30, 31, 32, 33] A' (put (put Ae (some 6) (I (l.getD k 0 - cnt l (l.getD k 0) j))) (some 22) (I j)) ∧ j ≤ k ∧ Ext H H') (fun A' _ => k - (intV (A' 22)).toNat) ?_ ?_
      · have e0 : cnt l (l.getD k 0) 0 = 0 := by simp [cnt]
        exact ⟨0, agY, by omega, by exact exY⟩
      · clear hx
        rintro A2 H2 ⟨j, hB, hj, hx⟩
        have f1 := gdY (t := 1) hB
        have f3 := gdY (t := 3) hB
        have f4 := gdY (t := 4) hB
        have f5 := gdY (t := 5) hB
        have f6 := gdY (t := 6) hB
        have f9 := gdY (t := 9) hB
        have f10 := gdY (t := 10) hB
        have f11 := gdY (t := 11) hB
        have f20 := gdY (t := 20) hB
        have f21 := gdY (t := 21) hB
        have f22 := gdY (t := 22) hB
        have hB1 := hbd j
        have hB2 := hbd k
        have hcb := cnt_bd l (l.getD k 0) j
        by_cases hjk : j < k
        · have hcs := cnt_succ l (l.getD k 0) j (by omega)
          have hlk : (ints (List.take k l))[j]? = some (I (l.getD j 0)) := by simp [ints, hjk, show j < l.length by omega]
          by_cases hless : l.getD j 0 < l.getD k 0
          · rw [if_pos hless] at hcs
            repeat' first | refine rnY ?_ | with_reducible refine And.intro (fun hc => ?_) (fun hc => ?_) | fail
            exact ⟨⟨j + 1, agY, by omega, by exact exY⟩, by exact ivY⟩
          · rw [if_neg hless] at hcs
            repeat' first | refine rnY ?_ | with_reducible refine And.intro (fun hc => ?_) (fun hc => ?_) | fail
            exact ⟨⟨j + 1, agY, by omega, by exact exY⟩, by exact ivY⟩
        · obtain rfl : j = k := by omega
          have hib : -100 ≤ ixs l j ∧ ixs l j ≤ 100 := by
            obtain ⟨y0, y1, y2, y3, rfl⟩ := four hl
            exact ixs_bd y0 y1 y2 y3 (hb _ (by simp)) (hb _ (by simp)) (hb _ (by simp)) (hb _ (by simp)) j hk
          have hib1 : -100 ≤ ixs l (j + 1) ∧ ixs l (j + 1) ≤ 100 := by
            obtain ⟨y0, y1, y2, y3, rfl⟩ := four hl
            exact ixs_bd y0 y1 y2 y3 (hb _ (by simp)) (hb _ (by simp)) (hb _ (by simp)) (hb _ (by simp)) (j + 1) (by omega)
          have hix : ixs l (j + 1) = ixs l j + (l.getD j 0 - cnt l (l.getD j 0) j) * bl j := rfl
          generalize hw : (l.getD j 0 - cnt l (l.getD j 0) j) * bl j = w at hix
          repeat' first | refine rnY ?_ | with_reducible refine And.intro (fun hc => ?_) (fun hc => ?_) | fail
          exact ⟨⟨j + 1, agY, by omega, by exact exY⟩, by exact ivY⟩
    · obtain rfl : k = 4 := by omega
      repeat' first | refine rnY ?_ | with_reducible refine And.intro (fun hc => ?_) (fun hc => ?_) | fail
      exact hQ.out _ _ (fv) (by exact exY)
set_option maxHeartbeats 1000000 in
theorem invert_z (p : Int) (h0 : 0 ≤ p) (h1 : p < 24) : ZCalls Try.prog 193 [I p] (I (invL p)) := by
  obtain ⟨hl, hbd⟩ := pmL_bd p h0 h1
  have hil := ivs_len (pmL p)
  have hib := ivs_bd (pmL p)
  refine ZCalls.body Try.func193 rfl Try.ntmps193 (rs := [.tmp 2]) rfl (by simp) rfl fun H Q hQ A hA => ?_
  have a0 := hA 0 _ _ rfl
  clear hA
  repeat' first | refine rnY ?_ | (first | refine ZCalls.to (perm_z _ h0 h1) ?_ | refine ZCalls.tf (perm_z _ h0 h1) ?_) | with_reducible refine And.intro (fun hc => ?_) (fun hc => ?_) | fail
  refine AWp.cut (fun Ac hAc => ?_)
  have c3 := gtY (t := 3) hAc
  have c7 := gtY (t := 7) hAc
  have c8 := gtY (t := 8) hAc
  clear a0
  refine AWp.loop (fun A' H' => ∃ (k : Nat), Ag [4, 5, 9, 10, 11, 12, 13, 14, 15] A' (put Ac (some 8) (I k)) ∧ k ≤ 4 ∧ Ext (H.push (.cells (ints (ivs (pmL p) k)) 1 false)) H') (fun A' _ => 4 - (intV (A' 8)).toNat) ?_ ?_
  · exact ⟨0, agY, by omega, by exact exY⟩
  · rintro A1 H1 ⟨k, hA, hk, hx⟩
    have d3 := gdY (t := 3) hA
    have d7 := gdY (t := 7) hA
    have d8 := gdY (t := 8) hA
    have hxg := hx.get; have hxs := hx.size; (try simp only [nx] at hxs)
    have hlk := hil k
    by_cases hlt : k < 4
    · have hw := getD_bd4 hl hbd k
      obtain ⟨q, hq⟩ : ∃ q : Nat, (pmL p).getD k 0 = (q : Int) := ⟨((pmL p).getD k 0).toNat, by omega⟩
      have hstep : ivs (pmL p) (k + 1) = (ivs (pmL p) k).set ((pmL p).getD k 0).toNat k := rfl
      rw [hq] at hstep
      clear hil hib
      repeat' first | refine rnY ?_ | with_reducible refine And.intro (fun hc => ?_) (fun hc => ?_) | fail
      exact ⟨⟨k + 1, agY, by omega, by exact exY⟩, by exact ivY⟩
    · obtain rfl : k = 4 := by omega
      have hi4 := hib 4 (by omega)
      clear hil hib
      repeat' first | refine rnY ?_ | (first | refine ZCalls.to (indexOf_z (ivs (pmL p) 4) hlk hi4) ?_ | refine ZCalls.tf (indexOf_z (ivs (pmL p) 4) hlk hi4) ?_) | with_reducible refine And.intro (fun hc => ?_) (fun hc => ?_) | fail
      exact hQ.out _ _ (fv) (by exact exY)
theorem partner_z (t p f : Int) (h0 : 0 ≤ p) (h1 : p < 24) : ZCalls Try.prog 189 [.agg #[I t, I p], I f] (.agg #[I f, I (invL p)]) := by
  refine ZCalls.body Try.func189 rfl Try.ntmps189 (rs := [.cell 4 107]) rfl (by simp) rfl fun H Q hQ A hA => ?_
  have a0 := hA 0 _ _ rfl
  have a1 := hA 1 _ _ rfl
  clear hA
  repeat' first | refine rnY ?_ | (first | refine ZCalls.to (invert_z _ h0 h1) ?_ | refine ZCalls.tf (invert_z _ h0 h1) ?_) | with_reducible refine And.intro (fun hc => ?_) (fun hc => ?_) | fail
  exact hQ.out _ _ (.cl (Cl.agg (l := [_, _]) (Cl.cons (Cl.int _ _) (Cl.cons (Cl.int _ _) Cl.nil)))) (by exact exY)
end Go.Proofs.Ytmoknllbpjpkmaa.Zed
