/- A part of the walk: what functions of the program do, over an abstract heap. -/
import Derived.Test.YtmoknllbpjpkmaaX23
namespace Go.Proofs.Ytmoknllbpjpkmaa.Zed
open Go TP
set_option linter.unusedVariables false
set_option linter.unusedSimpArgs false
set_option maxRecDepth 20000
namespace tfX24
theorem tf : (Try.prog.underlying 25 = some (.slice 2)) ∧ (el Try.prog 25 = some (none, 1)) ∧ (Try.prog.underlying 144 = some (.array 4 2)) ∧ (el Try.prog 144 = some (some 4, 1)) ∧ (tk Try.prog 2 = some none) ∧ (tk Try.prog 25 = some none) ∧ (cz Try.prog 2 = some 1) ∧ (bz Try.prog 2 = some 8) ∧ (zr Try.prog 2 = some (.int .i64 0)) ∧ (fo Try.prog 107 0 = some (0, none)) ∧ (fo Try.prog 121 0 = some (0, none)) ∧ (fo Try.prog 121 1 = some (1, none)) ∧ (fo Try.prog 121 2 = some (2, none)) := by
  refine ⟨?_, ?_, ?_, ?_, ?_, ?_, ?_, ?_, ?_, ?_, ?_, ?_, ?_⟩ <;> kernel_rfl
end tfX24
open tfX24

theorem MSt.ext {H0 H H' : Heap} {bm n z : Nat} {A : List (List Int)} (h : MSt H0 H bm n A z) (k : Ext H H') : MSt H0 H' bm n A z := by
  obtain ⟨h1, h2, h3, h4, h5⟩ := h
  refine ⟨h1.trans k, h2, Nat.lt_of_lt_of_le h3 k.size, h4, ?_⟩
  rcases h5 with ⟨r1, r2⟩ | ⟨g, r1, r2, r3, r4, r5, r6⟩
  · exact .inl ⟨r1, by rw [k.get _ h3]; exact r2⟩
  · exact .inr ⟨g, r1, r2, r3, Nat.lt_of_lt_of_le r4 k.size, by rw [k.get _ h3]; exact r5, by rw [k.get _ r4]; exact r6⟩
theorem others_ne (f k : Nat) (hf : f < 4) (hk : k < 3) : (othersL [(f : Int)]).getD k 0 ≠ f := by
  have := (others1_bd f hf).1
  intro e
  have hm : (othersL [(f : Int)]).getD k 0 ∈ othersL [(f : Int)] := by simp [show k < (othersL [(f : Int)]).length by omega]
  rw [e] at hm
  unfold othersL at hm
  simp at hm
theorem bump_bd {L : List Int} {B : Int} (hB : 0 ≤ B) (h : ∀ j, -B ≤ L.getD j 0 ∧ L.getD j 0 ≤ B) (i d : Int) (hi : i.toNat < L.length) (hd : -1 ≤ d ∧ d ≤ 1) : ∀ j, -(B + 1) ≤ (bump L i d).getD j 0 ∧ (bump L i d).getD j 0 ≤ B + 1 := by
  intro j
  unfold bump
  rw [getD_set _ _ _ _ hi]
  have h1 := h j
  have h2 := h i.toNat
  split <;> omega
set_option maxHeartbeats 4000000 in
theorem mmVisit_c {H0 H : Heap} {bm n : Nat} {AA : List (List Int)} (hn : n ≤ 8) (hM : MSt H0 H bm n AA H.size) (hA : AA.flatten.length ≤ 100000) (hA2 : AA.length ≤ 100000) (x : Blk) (a f : Nat) (t p : Int) (ha : a < n) (ht0 : 0 ≤ t) (ht : t < n) (hf : f < 4) (hp0 : 0 ≤ p) (hp : p < 24) :
    ACalls Try.prog 165 [I a, I f, .agg #[I t, I p], .agg (ints (pmL p)).toArray, .pointer (some ⟨bm, 0, none⟩)] (H.push x) fun u H' => u = undef ∧ MSt H0 H' bm n (AA ++ mF n a f t p) H.size ∧ H'.get H.size = x := by
  have hpl := (pmL_bd p hp0 hp).1
  have hq := pm_bd p f hp0 hp (by omega) (by omega)
  have hqq : (pmL p).getD f 0 = pm p f := by unfold pm; rw [Int.toNat_natCast]
  have hMx : ∀ H2, Ext (H.push x) H2 → MSt H0 H2 bm n AA H.size ∧ H2.get H.size = x := fun H2 k => ⟨hM.ext (((Ext.refl H).push x).trans k), by rw [k.get _ (by rw [Heap.size_push]; omega)]; exact get_push_eq rfl⟩
  by_cases hgt : 4 * (a : Int) + f > 4 * t + pm p f
  · have e : mF n a f t p = [] := by unfold mF; rw [if_pos hgt]
    rw [e, List.append_nil]
    generalize pm p f = g at *
    clear hM e
    refine ACalls.body Try.func165 rfl Try.ntmps165 (rs := []) rfl (by simp) rfl fun Q hQ A hA => ?_
    have a0 := hA 0 _ _ rfl
    have a1 := hA 1 _ _ rfl
    have a2 := hA 2 _ _ rfl
    have a3 := hA 3 _ _ rfl
    have a4 := hA 4 _ _ rfl
    clear hA
    repeat' first | refine rnY ?_ | with_reducible refine And.intro (fun hc => ?_) (fun hc => ?_) | fail
    refine AWp.zreg [(0, none), (1, none), (2, none), (3, none), (4, none), (5, none), (6, none), (7, none), (8, none), (9, none), (10, none), (11, none)] mixed (by kernel_rfl) ?_
    repeat' first | refine rzY ?_ | fail
    repeat' first | refine rnY ?_ | with_reducible refine And.intro (fun hc => ?_) (fun hc => ?_) | fail
    have hfin := hMx _ (show Ext (H.push x) _ by exact exY)
    exact hQ.out _ _ ⟨rfl, hfin.1, hfin.2⟩
  · have e : mF n a f t p = (othersL [(f : Int)]).map (mRow n a f t p) := by unfold mF; rw [if_neg hgt]
    rw [e]
    have hone := others_ne f
    obtain ⟨o1, o2⟩ := others1_bd f hf
    have ho := others_z [(f : Int)] (by simp) ⟨f, hf, by
      have : f = 0 ∨ f = 1 ∨ f = 2 ∨ f = 3 := by omega
      rcases this with rfl | rfl | rfl | rfl <;> simp [cntL]⟩
    unfold Zed.zI at ho
    rw [o1] at ho
    generalize othersL [(f : Int)] = ol at *
    clear e
    refine ACalls.body Try.func165 rfl Try.ntmps165 (rs := []) rfl (by simp) rfl fun Q hQ A hA => ?_
    have a0 := hA 0 _ _ rfl
    have a1 := hA 1 _ _ rfl
    have a2 := hA 2 _ _ rfl
    have a3 := hA 3 _ _ rfl
    have a4 := hA 4 _ _ rfl
    clear hA
    repeat' first | refine rnY ?_ | with_reducible refine And.intro (fun hc => ?_) (fun hc => ?_) | fail
    refine AWp.zreg [(0, none), (1, none), (2, none), (3, none), (4, none), (5, none), (6, none), (7, none), (8, none), (9, none), (10, none), (11, none)] mixed (by kernel_rfl) ?_
    repeat' first | refine rzY ?_ | fail
    repeat' first | refine rnY ?_ | (first | refine ZCalls.to (ho) ?_ | refine ZCalls.tf (ho) ?_) | with_reducible refine And.intro (fun hc => ?_) (fun hc => ?_) | fail
    refine AWp.cut (fun Ac hAc => ?_)
    have c0 := gtY (t := 0) hAc
    have c1 := gtY (t := 1) hAc
    have c4 := gtY (t := 4) hAc
    have c7 := gtY (t := 7) hAc
    have c8 := gtY (t := 8) hAc
    have c26 := gtY (t := 26) hAc
    have c27 := gtY (t := 27) hAc
    have c28 := gtY (t := 28) hAc
    clear a0 a1 a2 a3 a4
    refine AWp.loop (fun A' H' => ∃ (k : Nat), Ag [10, 11, 29, 30, 31, 32, 33, 34, 35, 36, 37, 38, 39, 40, 41, 42, 43, 44, 45, 46, 47, 48, 49, 50, 51, 52, 53, 54, 55, 56, 57, 58, 59, 60, 61, 62, 63, 64, 65, 66, 67, 68, 69, 70, 71, 72, 73, 74, 75, 76, 77, 78, 79, 80, 81, 82, 83, 84, 85, 86, 87, 88, 89, 90, 91, 92, 93, 94] A' (put Ac (some 28) (I k)) ∧ k ≤ 3 ∧ MSt H0 H' bm n (AA ++ (ol.take k).map (mRow n a f t p)) H.size ∧ H'.get H.size = x ∧ H.size < H'.size) (fun A' _ => 3 - (intV (A' 28)).toNat) ?_ ?_
    · have e0 : AA ++ (ol.take 0).map (mRow n a f t p) = AA := by simp
      have hfin := hMx _ (show Ext (H.push x) _ by exact exY)
      exact ⟨0, agY, by omega, by rw [e0]; exact hfin.1, hfin.2, by simp only [nx]; omega⟩
    · clear hM hMx
      rintro A1 H1 ⟨k, hA1, hk, hM, hxz, hz⟩
      have d0 := gdY (t := 0) hA1
      have d1 := gdY (t := 1) hA1
      have d4 := gdY (t := 4) hA1
      have d7 := gdY (t := 7) hA1
      have d8 := gdY (t := 8) hA1
      have d26 := gdY (t := 26) hA1
      have d27 := gdY (t := 27) hA1
      have d28 := gdY (t := 28) hA1
      by_cases hlt : k < 3
      · obtain ⟨c, hc, hc4⟩ := o2 k hlt
        have hcf := hone k hf hlt
        rw [hc] at hcf
        have hrow : AA ++ (ol.take (k + 1)).map (mRow n a f t p) = (AA ++ (ol.take k).map (mRow n a f t p)) ++ [mRow n a f t p c] := by
          rw [List.take_succ_eq_append_getElem (by omega), List.map_append, List.append_assoc]
          have : ol[k] = (c : Int) := by rw [← hc]; simp [show k < ol.length by omega]
          simp [this]
        have hfl : (AA ++ (ol.take k).map (mRow n a f t p)).flatten.length ≤ 200000 := by
          have h0 : ((ol.take k).map (mRow n a f t p)).flatten.length = ((ol.take k).map (mRow n a f t p)).length * (7 * n) := flat_len (C := 7 * n) (fun r hr => by obtain ⟨y, _, rfl⟩ := List.mem_map.1 hr; exact mRow_len ..)
          rw [List.flatten_append, List.length_append, h0]
          have h1 : ((ol.take k).map (mRow n a f t p)).length ≤ 3 := by rw [List.length_map, List.length_take]; omega
          have h2 : ((ol.take k).map (mRow n a f t p)).length * (7 * n) ≤ 3 * 56 := Nat.mul_le_mul h1 (by omega)
          omega
        have hll : (AA ++ (ol.take k).map (mRow n a f t p)).length ≤ 200000 := by
          rw [List.length_append, List.length_map, List.length_take]; omega
        have hq2 := pm_bd p c hp0 hp (by omega) (by omega)
        have hqc : (pmL p).getD c 0 = pm p c := by unfold pm; rw [Int.toNat_natCast]
        have hne : pm p c ≠ pm p f := by rw [← hqc, ← hqq]; exact pm_inj p c f hp0 hp hc4 hf (by omega)
        obtain ⟨_, _, _, b1, b2, _⟩ := quad_is c f (by omega) (by omega) (by omega) (by omega) hcf
        obtain ⟨_, _, _, b3, b4, _⟩ := quad_is (pm p c) (pm p f) (by omega) (by omega) (by omega) (by omega) hne
        have hz1 := quad_z c f (by omega) (by omega) (by omega) (by omega) hcf
        have hz2 := quad_z (pm p c) (pm p f) (by omega) (by omega) (by omega) (by omega) hne
        generalize AA ++ (ol.take k).map (mRow n a f t p) = L at *
        have hm4 : mRow n a f t p c = bump (bump (bump (bump (List.replicate (7 * n) 0) (7 * a + c) 1) (7 * a + 4 + btN c f) 1) (7 * t + pm p c) (-1)) (7 * t + 4 + btN (pm p c) (pm p f)) (-1) := rfl
        have hml := mRow_len n a f t p c
        generalize mRow n a f t p c = row at *
        generalize hq1 : pm p f = g at *
        generalize hq3 : pm p c = g2 at *
        generalize btN c f = u1 at *
        generalize btN g2 g = u2 at *
        have h7 : (7 * (n : Int)).toNat = 7 * n := by omega
        obtain ⟨hx, hb0, hb1, hb2, hg⟩ := hM
        have d0 : ∀ j, -0 ≤ (List.replicate (7 * n) (0 : Int)).getD j 0 ∧ (List.replicate (7 * n) (0 : Int)).getD j 0 ≤ 0 := fun j => by rw [getD_zero]; omega
        have l0 : (List.replicate (7 * n) (0 : Int)).length = 7 * n := by simp
        generalize hR0 : List.replicate (7 * n) (0 : Int) = R0 at *
        have d1 := bump_bd (by omega) d0 (7 * a + c) 1 (by omega) (by omega)
        have e1 : R0.set (7 * (a : Int) + c).toNat (R0.getD (7 * (a : Int) + c).toNat 0 + 1) = bump R0 (7 * a + c) 1 := rfl
        have v1 := d0 (7 * (a : Int) + c).toNat
        have l1 := bump_len R0 (7 * a + c) 1
        generalize bump R0 (7 * a + c) 1 = R1 at *
        generalize hy1 : R0.getD (7 * (a : Int) + c).toNat 0 = y1 at *
        have d2 := bump_bd (by omega) d1 (7 * a + 4 + u1) 1 (by omega) (by omega)
        have e2 : R1.set (7 * (a : Int) + 4 + u1).toNat (R1.getD (7 * (a : Int) + 4 + u1).toNat 0 + 1) = bump R1 (7 * a + 4 + u1) 1 := rfl
        have v2 := d1 (7 * (a : Int) + 4 + u1).toNat
        have l2 := bump_len R1 (7 * a + 4 + u1) 1
        generalize bump R1 (7 * a + 4 + u1) 1 = R2 at *
        generalize hy2 : R1.getD (7 * (a : Int) + 4 + u1).toNat 0 = y2 at *
        have d3 := bump_bd (by omega) d2 (7 * t + g2) (-1) (by omega) (by omega)
        have e3 : R2.set (7 * t + g2).toNat (R2.getD (7 * t + g2).toNat 0 - 1) = bump R2 (7 * t + g2) (-1) := rfl
        have v3 := d2 (7 * t + g2).toNat
        have l3 := bump_len R2 (7 * t + g2) (-1)
        generalize bump R2 (7 * t + g2) (-1) = R3 at *
        generalize hy3 : R2.getD (7 * t + g2).toNat 0 = y3 at *
        have e4 : R3.set (7 * t + 4 + u2).toNat (R3.getD (7 * t + 4 + u2).toNat 0 - 1) = row := hm4.symm
        have v4 := d3 (7 * t + 4 + u2).toNat
        clear d0 d1 d2 d3 hm4
        generalize hy4 : R3.getD (7 * t + 4 + u2).toNat 0 = y4 at *
        rcases hg with ⟨hL0, hg⟩ | ⟨gg, hi0, hg1, hg2, hg3, hg4, hg5⟩
        · subst hL0
          rw [List.nil_append] at hrow
          have zf0 := @rep_ints
          have zf1 := @zero1
          repeat' first | refine rnY ?_ | (first | refine ZCalls.to (hz1) ?_ | refine ZCalls.tf (hz1) ?_) | with_reducible refine And.intro (fun hc => ?_) (fun hc => ?_) | fail
          refine AWp.zreg [(0, none), (1, none), (2, none), (3, none), (4, none), (5, none), (6, none), (7, none), (8, none), (9, none), (10, none), (11, none), (12, some [2, 6, 9])] mixed (by kernel_rfl) ?_
          repeat' first | refine rzY ?_ | fail
          repeat' first | refine rnY ?_ | with_reducible refine And.intro (fun hc => ?_) (fun hc => ?_) | fail
          refine AWp.zreg [(0, none), (1, none), (2, none), (3, none), (4, none), (5, none), (6, none), (7, none), (8, none), (9, none), (10, none), (11, none), (12, none), (13, none), (14, none), (15, none), (16, none), (17, some [2, 7, 10, 14])] mixed (by kernel_rfl) ?_
          repeat' first | refine rzY ?_ | (first | refine ZCalls.to (hz2) ?_ | refine ZCalls.tf (hz2) ?_) | fail
          refine athen_n ?_
          refine AWp.freezeI (t := 11) (g := H1.size) row (7 * n) (by exact ivY) (get_push_eq rfl) rfl rfl hml ?_
          clear e1 e2 e3 e4 v1 v2 v3 v4 hy1 hy2 hy3 hy4 hR0 l0 l1 l2 l3
          have w1 : (([row].length : Nat) : Int) = 1 := rfl
          have w2 : [row].flatten = row := by simp
          repeat' first | refine rnY ?_ | (refine appN hml (by omega) (by omega) ?_) | with_reducible refine And.intro (fun hc => ?_) (fun hc => ?_) | fail
          exact ⟨⟨k + 1, agY, by omega, by rw [hrow]; exact ⟨by exact exY, hb0, by simp only [nx]; omega, hb2, .inr ⟨H1.size + 1, by simp, by omega, by omega, by simp only [nx]; omega, by rw [w1, w2, hml]; exact ivY, by rw [w2]; exact ivY⟩⟩, by exact ivY, by simp only [nx]; omega⟩, by exact ivY⟩
        · have zf0 := @rep_ints
          have zf1 := @zero1
          repeat' first | refine rnY ?_ | (first | refine ZCalls.to (hz1) ?_ | refine ZCalls.tf (hz1) ?_) | with_reducible refine And.intro (fun hc => ?_) (fun hc => ?_) | fail
          refine AWp.zreg [(0, none), (1, none), (2, none), (3, none), (4, none), (5, none), (6, none), (7, none), (8, none), (9, none), (10, none), (11, none), (12, some [2, 6, 9])] mixed (by kernel_rfl) ?_
          repeat' first | refine rzY ?_ | fail
          repeat' first | refine rnY ?_ | with_reducible refine And.intro (fun hc => ?_) (fun hc => ?_) | fail
          refine AWp.zreg [(0, none), (1, none), (2, none), (3, none), (4, none), (5, none), (6, none), (7, none), (8, none), (9, none), (10, none), (11, none), (12, none), (13, none), (14, none), (15, none), (16, none), (17, some [2, 7, 10, 14])] mixed (by kernel_rfl) ?_
          repeat' first | refine rzY ?_ | (first | refine ZCalls.to (hz2) ?_ | refine ZCalls.tf (hz2) ?_) | fail
          refine athen_n ?_
          refine AWp.freezeI (t := 11) (g := H1.size) row (7 * n) (by exact ivY) (get_push_eq rfl) rfl rfl hml ?_
          clear e1 e2 e3 e4 v1 v2 v3 v4 hy1 hy2 hy3 hy4 hR0 l0 l1 l2 l3
          have w1 : (((L ++ [row]).length : Nat) : Int) = (L.length : Int) + 1 := by simp
          have w2 : (L ++ [row]).flatten = L.flatten ++ row := by simp
          repeat' first | refine rnY ?_ | (refine appI (cs := L.flatten) (by rw [get_push_lt hg3]; exact hg5) (by omega) hml (by omega) (by omega) ?_) | with_reducible refine And.intro (fun hc => ?_) (fun hc => ?_) | fail
          exact ⟨⟨k + 1, agY, by omega, by rw [hrow]; exact ⟨by exact exY, hb0, by simp only [nx]; omega, hb2, .inr ⟨H1.size + 1, by simp, by omega, by omega, by simp only [nx]; omega, by rw [w1, w2, List.length_append, hml]; exact ivY, by rw [w2]; exact ivY⟩⟩, by exact ivY, by simp only [nx]; omega⟩, by exact ivY⟩
      · obtain rfl : k = 3 := by omega
        rw [List.take_of_length_le (by omega)] at hM
        clear hone o2 ho
        repeat' first | refine rnY ?_ | with_reducible refine And.intro (fun hc => ?_) (fun hc => ?_) | fail
        exact hQ.out _ _ ⟨rfl, hM, hxz⟩
end Go.Proofs.Ytmoknllbpjpkmaa.Zed
