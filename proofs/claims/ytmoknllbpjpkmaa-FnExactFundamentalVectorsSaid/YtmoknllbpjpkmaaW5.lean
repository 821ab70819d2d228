/- A part of the walk: what functions of the program do, over an abstract heap. -/
import Derived.Test.YtmoknllbpjpkmaaW4
namespace Go.Proofs.Ytmoknllbpjpkmaa.Zed
open Go TP
set_option linter.unusedVariables false
set_option linter.unusedSimpArgs false
set_option maxRecDepth 20000
namespace tfW5
theorem tf : (Try.prog.underlying 25 = some (.slice 2)) ∧ (el Try.prog 25 = some (none, 1)) ∧ (Try.prog.underlying 174 = some (.map 2 2)) ∧ (mk Try.prog 174 = some 2) ∧ (tk Try.prog 2 = some none) ∧ (cz Try.prog 2 = some 1) ∧ (bz Try.prog 2 = some 8) ∧ (zr Try.prog 2 = some (.int .i64 0)) := by
  refine ⟨?_, ?_, ?_, ?_, ?_, ?_, ?_, ?_⟩ <;> kernel_rfl
end tfW5
open tfW5

set_option maxHeartbeats 2000000 in
theorem ends_z (e : Nat) (he : e < 6) : ZCalls Try.prog 123 [I e] (.tuple #[I (endA e), I (endB e)]) := by
  have : e = 0 ∨ e = 1 ∨ e = 2 ∨ e = 3 ∨ e = 4 ∨ e = 5 := by omega
  rcases this with rfl | rfl | rfl | rfl | rfl | rfl
  all_goals
    refine ZCalls.body Try.func123 rfl Try.ntmps123 (rs := [.tmp 2, .tmp 3]) rfl (by simp) rfl fun H Q hQ A hA => ?_
    have a0 := hA 0 _ _ rfl
    clear hA
    repeat' first | refine rnY ?_ | (refine AWp.unroll ?_) | (refine AIn.step ?_) | with_reducible refine And.intro (fun hc => ?_) (fun hc => ?_) | fail
    exact hQ.out _ _ (.eq (Cl.tuple (l := [_, _]) (Cl.cons (Cl.int _ _) (Cl.cons (Cl.int _ _) Cl.nil))) (by rfl)) (by exact exY)
set_option maxHeartbeats 2000000 in
theorem edge_z (a b : Int) (ha0 : 0 ≤ a) (ha1 : a < 4) (hb0 : 0 ≤ b) (hb1 : b < 4) (hab : a ≠ b) : ZCalls Try.prog 170 [I a, I b] (I (edgeN a b)) := by
  have ha : a = 0 ∨ a = 1 ∨ a = 2 ∨ a = 3 := by omega
  have hb : b = 0 ∨ b = 1 ∨ b = 2 ∨ b = 3 := by omega
  rcases ha with rfl | rfl | rfl | rfl <;> rcases hb with rfl | rfl | rfl | rfl
  all_goals first | exact absurd rfl hab | skip
  all_goals
    refine ZCalls.body Try.func170 rfl Try.ntmps170 (rs := [.tmp 4]) rfl (by simp) rfl fun H Q hQ A hA => ?_
    have a0 := hA 0 _ _ rfl
    have a1 := hA 1 _ _ rfl
    clear hA
    repeat' first | refine rnY ?_ | with_reducible refine And.intro (fun hc => ?_) (fun hc => ?_) | fail
    exact hQ.out _ _ (.eq (Cl.int _ _) (by rfl)) (by exact exY)
set_option maxHeartbeats 1000000 in
theorem counting_g (n : Nat) (hn : n ≤ 100000) (H : Heap) : ACalls Try.prog 167 [I n] H fun v H' => (∃ tag, v = GZ tag 1 n (ints (cntL n)) ∧ H.size ≤ tag ∧ H'.get tag = .tok n 1) ∧ Ext H H' := by
  refine ACalls.body Try.func167 rfl Try.ntmps167 (rs := [.tmp 2]) rfl (by simp) rfl fun Q hQ A hA => ?_
  have a0 := hA 0 _ _ rfl
  clear hA
  repeat' first | refine rnY ?_ | with_reducible refine And.intro (fun hc => ?_) (fun hc => ?_) | fail
  refine AWp.grow (t := 3) 1 (by decide) (by exact ivY) ?_
  refine AWp.cut (fun Ac hAc => ?_)
  have c5 := gtY (t := 5) hAc
  have c3 := gtY (t := 3) hAc
  have c6 := gtY (t := 6) hAc
  clear a0
  refine AWp.loop (fun A' H' => ∃ (j : Nat), Ag [4, 7, 8, 9, 10, 11, 12, 13] A' (put (put Ac (some 3) (GZ H.size 1 j (ints (cntL j)))) (some 6) (I j)) ∧ j ≤ n ∧ Ext (H.push (.tok j 1)) H') (fun A' _ => n - (intV (A' 6)).toNat) ?_ ?_
  · have e0 : cntL 0 = [] := rfl
    exact ⟨0, agY, by omega, by exact exY⟩
  · rintro A1 H1 ⟨j, hA, hj, hx⟩
    have d3 := gdY (t := 3) hA
    have d5 := gdY (t := 5) hA
    have d6 := gdY (t := 6) hA
    have hxg := hx.get; have hxs := hx.size; (try simp only [nx] at hxs)
    have hcl := cntL_len j
    have hcs := cntL_succ j
    by_cases hlt : j < n
    · repeat' first | refine rnY ?_ | with_reducible refine And.intro (fun hc => ?_) (fun hc => ?_) | fail
      exact ⟨⟨j + 1, agY, by omega, by exact exY⟩, by exact ivY⟩
    · obtain rfl : j = n := by omega
      repeat' first | refine rnY ?_ | with_reducible refine And.intro (fun hc => ?_) (fun hc => ?_) | fail
      exact hQ.out _ _ ⟨⟨_, rfl, Nat.le_refl _, by exact ivY⟩, by exact exY⟩
theorem counting_z (n : Nat) (hn : n ≤ 100000) : ZCalls Try.prog 167 [I n] (FZ 1 n (ints (cntL n))) := .zc (Cl.ints _) (counting_g n hn)
theorem counting_o (n : Nat) (hn : n ≤ 100000) (H : Heap) : ACalls Try.prog 167 [I n] H (OwnK H 1 n (ints (cntL n))) := .fresh (ints_flat _) (counting_g n hn) H
set_option maxHeartbeats 1000000 in
theorem union_c {H : Heap} {g c : Nat} {l : List Int} {i k : Int} {n : Nat} (hg : H.get g = .cells (ints l) 1 false) (hn : l.length = n) (hl : n ≤ 100000) (hi0 : 0 ≤ i) (hi : i < n) (hk0 : 0 ≤ k) (hk : k < n) :
    ACalls Try.prog 169 [.slice (some ⟨g, 0, none⟩) n c, I i, I k] H fun v H' => v = undef ∧ H' = H.set g (.cells (ints (unionL l i.toNat k.toNat)) 1 false) := by
  obtain ⟨i, rfl⟩ : ∃ q : Nat, i = q := ⟨i.toNat, by omega⟩
  obtain ⟨k, rfl⟩ : ∃ q : Nat, k = q := ⟨k.toNat, by omega⟩
  subst hn
  simp only [Int.toNat_natCast]
  refine ACalls.body Try.func169 rfl Try.ntmps169 (rs := []) rfl (by simp) rfl fun Q hQ A hA => ?_
  have a0 := hA 0 _ _ rfl
  have a1 := hA 1 _ _ rfl
  have a2 := hA 2 _ _ rfl
  clear hA
  repeat' first | refine rnY ?_ | with_reducible refine And.intro (fun hc => ?_) (fun hc => ?_) | fail
  refine AWp.zreg [(0, none), (1, none), (2, none), (3, none), (4, none), (5, none), (6, none), (7, none), (8, none), (9, none)] mixed (by kernel_rfl) ?_
  repeat' first | refine rzY ?_ | fail
  repeat' first | refine rnY ?_ | with_reducible refine And.intro (fun hc => ?_) (fun hc => ?_) | fail
  refine AWp.cut (fun Ad hAd => ?_)
  have d0 := gtY (t := 0) hAd
  have d6 := gtY (t := 6) hAd
  have d7 := gtY (t := 7) hAd
  have d18 := gtY (t := 18) hAd
  have d19 := gtY (t := 19) hAd
  have d20 := gtY (t := 20) hAd
  clear a0 a1 a2
  refine AWp.loop (fun A' H' => ∃ (n : Nat), Ag [8, 9, 21, 22, 23, 24, 25, 26, 27, 28, 29, 30, 31, 32] A' (put Ad (some 20) (I n)) ∧ n ≤ l.length ∧ H' = H.set g (.cells (ints (turnTo (l.getD k 0) (l.getD i 0) l n)) 1 false)) (fun A' _ => l.length - (intV (A' 20)).toNat) ?_ ?_
  · exact ⟨0, agY, by omega, by rw [set_self]; simp [turnTo, turnL, hg]⟩
  · rintro A1 H1 ⟨n, hA, hn, rfl⟩
    have e0 := gdY (t := 0) hA
    have e6 := gdY (t := 6) hA
    have e7 := gdY (t := 7) hA
    have e18 := gdY (t := 18) hA
    have e19 := gdY (t := 19) hA
    have e20 := gdY (t := 20) hA
    have tl := turnTo_len (l.getD k 0) (l.getD i 0) l n
    by_cases hlt : n < l.length
    · have hget := turnTo_get (l.getD k 0) (l.getD i 0) l n hlt
      by_cases hy : l.getD n 0 = l.getD k 0
      · have yes := turnTo_yes (l.getD k 0) (l.getD i 0) l n hlt hy
        have hyb : (l.getD n 0 == l.getD k 0) = true := by rw [beq_iff_eq]; exact hy
        clear hy
        generalize l.getD n 0 = x at *
        repeat' first | refine rnY ?_ | with_reducible refine And.intro (fun hc => ?_) (fun hc => ?_) | fail
        exact ⟨⟨n + 1, agY, by omega, by exact ivY⟩, by exact ivY⟩
      · have no := turnTo_no (l.getD k 0) (l.getD i 0) l n hlt hy
        have hyb : (l.getD n 0 == l.getD k 0) = false := by rw [beq_eq_false_iff_ne]; exact hy
        clear hy
        generalize l.getD n 0 = x at *
        repeat' first | refine rnY ?_ | with_reducible refine And.intro (fun hc => ?_) (fun hc => ?_) | fail
        exact ⟨⟨n + 1, agY, by omega, by exact ivY⟩, by exact ivY⟩
    · obtain rfl : n = l.length := by omega
      have ta := turnTo_all (l.getD k 0) (l.getD i 0) l
      repeat' first | refine rnY ?_ | with_reducible refine And.intro (fun hc => ?_) (fun hc => ?_) | fail
      exact hQ.out _ _ ⟨rfl, rfl⟩
set_option maxHeartbeats 1000000 in
theorem max_z {l : List Int} (h0 : 0 < l.length) (hl : l.length ≤ 100000) : ZCalls Try.prog 172 [zI l] (I (maxTo l l.length)) := by
  refine ZCalls.body Try.func172 rfl Try.ntmps172 (rs := [.tmp 2]) rfl (by simp) rfl fun H Q hQ A hA => ?_
  have a0 := hA 0 _ _ rfl
  clear hA
  repeat' first | refine rnY ?_ | with_reducible refine And.intro (fun hc => ?_) (fun hc => ?_) | fail
  refine AWp.cut (fun Ac hAc => ?_)
  have c0 := gtY (t := 0) hAc
  have c3 := gtY (t := 3) hAc
  have c4 := gtY (t := 4) hAc
  clear a0
  refine AWp.loop (fun A' H' => ∃ (j : Nat), Ag [12, 13, 14, 15, 16, 17, 18, 19, 20, 21, 22, 23] A' (put (put Ac (some 3) (I (maxTo l j))) (some 4) (I j)) ∧ 1 ≤ j ∧ j ≤ l.length ∧ Ext H H') (fun A' _ => l.length - (intV (A' 4)).toNat) ?_ ?_
  · have e1 : maxTo l 1 = max (maxTo l 0) (l.getD 0 0) := rfl
    have e2 : maxTo l 1 = l.getD 0 0 := by rw [e1]; show max (l.getD 0 0) _ = _; omega
    clear e1
    exact ⟨1, agY, by omega, by omega, by exact exY⟩
  · rintro A1 H1 ⟨j, hA, hj0, hj, hx⟩
    have d0 := gdY (t := 0) hA
    have d3 := gdY (t := 3) hA
    have d4 := gdY (t := 4) hA
    by_cases hlt : j < l.length
    · have hm : maxTo l (j + 1) = max (maxTo l j) (l.getD j 0) := rfl
      have hm2 : maxTo l (j + 1) = if l.getD j 0 > maxTo l j then l.getD j 0 else maxTo l j := by rw [hm]; split <;> omega
      clear hm
      repeat' first | refine rnY ?_ | with_reducible refine And.intro (fun hc => ?_) (fun hc => ?_) | fail
      exact ⟨⟨j + 1, agY, by omega, by omega, by exact exY⟩, by exact ivY⟩
    · obtain rfl : j = l.length := by omega
      repeat' first | refine rnY ?_ | with_reducible refine And.intro (fun hc => ?_) (fun hc => ?_) | fail
      exact hQ.out _ _ (fv) (by exact exY)
theorem maxTo_bd2 {l : List Int} (hb : ∀ x ∈ l, 0 ≤ x ∧ x ≤ 100000) : ∀ k, 0 ≤ maxTo l k ∧ maxTo l k ≤ 100000 := by
  have hg : ∀ j, 0 ≤ l.getD j 0 ∧ l.getD j 0 ≤ 100000 := by
    intro j
    by_cases hj : j < l.length
    · have := hb _ (List.getElem_mem hj); simpa [hj] using this
    · simp [List.getD_eq_getElem?_getD, List.getElem?_eq_none (Nat.le_of_not_lt hj)]
  intro k
  induction k with
  | zero => exact hg 0
  | succ k ih => have := hg k; unfold maxTo; omega
theorem classCount_z {l : List Int} (hl : l.length ≤ 100000) (hb : ∀ x ∈ l, 0 ≤ x ∧ x ≤ 100000) : ZCalls Try.prog 122 [zI l] (I (classN l)) := by
  have hmb := maxTo_bd2 hb l.length
  refine ZCalls.body Try.func122 rfl Try.ntmps122 (rs := [.tmp 2]) rfl (by simp) rfl fun H Q hQ A hA => ?_
  have a0 := hA 0 _ _ rfl
  clear hA
  by_cases h0 : l.length = 0
  · have hc : classN l = 0 := by unfold classN; rw [if_pos h0]
    have h0b : ((l.length : Int) == 0) = true := by rw [beq_iff_eq]; omega
    repeat' first | refine rnY ?_ | with_reducible refine And.intro (fun hc => ?_) (fun hc => ?_) | fail
    exact hQ.out _ _ (.eq (Cl.int _ _) (by rw [hc])) (by exact exY)
  · have hc : classN l = maxTo l l.length + 1 := by unfold classN; rw [if_neg h0]
    have h0b : ((l.length : Int) == 0) = false := by rw [beq_eq_false_iff_ne]; omega
    repeat' first | refine rnY ?_ | (first | refine ZCalls.to (max_z (by omega) hl) ?_ | refine ZCalls.tf (max_z (by omega) hl) ?_) | with_reducible refine And.intro (fun hc => ?_) (fun hc => ?_) | fail
    exact hQ.out _ _ (.eq (Cl.int _ _) (by rw [hc])) (by exact exY)
def mapL (l : List Int) : List (Int × Value) := l.zipIdx.map fun x => (x.1, I x.2)
theorem mapL_len (l : List Int) : (mapL l).length = l.length := by simp [mapL]
theorem mapL_get (l : List Int) (x : Int) : mget (mapL l) x = if x ∈ l then some (I (l.idxOf x)) else none := by
  have key : ∀ (l : List Int) (k : Nat), mget ((l.zipIdx k).map fun x => (x.1, I x.2)) x = if x ∈ l then some (I ((k + l.idxOf x : Nat) : Int)) else none := by
    intro l
    induction l with
    | nil => intro k; simp [mget]
    | cons y l ih =>
      intro k
      simp only [mget, List.zipIdx_cons, List.map_cons, List.find?_cons]
      by_cases h : y = x
      · subst h; simp
      · have h1 : (y == x) = false := by simpa using h
        have := ih (k + 1)
        simp only [mget] at this
        simp only [h1]
        rw [this, List.idxOf_cons, h1]
        have : x ∈ y :: l ↔ x ∈ l := by simp [Ne.symm h]
        simp only [this, cond_false]
        split
        · congr 3; omega
        · rfl
  have := key l 0
  simpa [mapL] using this
theorem mapL_put (l : List Int) (x : Int) (h : ¬ x ∈ l) : mput (mapL l) x (I l.length) = mapL (l ++ [x]) := by
  have hn : (mapL l).findIdx? (fun p => p.1 == x) = none := by
    rw [List.findIdx?_eq_none_iff]
    intro p hp
    obtain ⟨q, hq, rfl⟩ := List.mem_map.1 hp
    have : q.1 ∈ l := by
      obtain ⟨i, hi, e⟩ := List.mem_iff_getElem.1 hq
      rw [← e]
      simp at hi
      simp
    simp only [beq_eq_false_iff_ne, ne_eq]
    intro e; exact h (e ▸ this)
  unfold mput
  rw [hn]
  simp [mapL, List.zipIdx_append]
set_option maxHeartbeats 1000000 in
theorem numbered_g {l : List Int} (hl : l.length ≤ 100000) (H : Heap) : ACalls Try.prog 171 [zI l] H fun v H' => (∃ tag, v = GZ tag 1 l.length (ints (numL l)) ∧ H.size ≤ tag ∧ H'.get tag = .tok l.length 1) ∧ Ext H H' := by
  refine ACalls.body Try.func171 rfl Try.ntmps171 (rs := [.tmp 2]) rfl (by simp) rfl fun Q hQ A hA => ?_
  have a0 := hA 0 _ _ rfl
  clear hA
  repeat' first | refine rnY ?_ | with_reducible refine And.intro (fun hc => ?_) (fun hc => ?_) | fail
  refine AWp.grow (t := 4) 1 (by decide) (by exact ivY) ?_
  refine AWp.cut (fun Ac hAc => ?_)
  have c3 := gtY (t := 3) hAc
  have c10 := gtY (t := 10) hAc
  have c11 := gtY (t := 11) hAc
  have c4 := gtY (t := 4) hAc
  have c12 := gtY (t := 12) hAc
  clear a0
  refine AWp.loop (fun A' H' => ∃ (j : Nat), Ag [6, 7, 8, 13, 14, 15, 16, 17, 18, 19, 20, 21, 22, 23, 24, 25, 26, 27, 28, 29, 30, 31, 32, 33, 34] A' (put (put Ac (some 4) (GZ (H.size + 1) 1 j (ints (nst (l.take j)).2))) (some 12) (I j)) ∧ j ≤ l.length ∧ Ext ((H.push (.map (mapL (nst (l.take j)).1))).push (.tok j 1)) H') (fun A' _ => l.length - (intV (A' 12)).toNat) ?_ ?_
  · have e0 : nst [] = ([], []) := rfl
    have e1 : mapL [] = [] := rfl
    exact ⟨0, agY, by omega, by exact exY⟩
  · rintro A1 H1 ⟨j, hA, hj, hx⟩
    have d3 := gdY (t := 3) hA
    have d4 := gdY (t := 4) hA
    have d10 := gdY (t := 10) hA
    have d11 := gdY (t := 11) hA
    have d12 := gdY (t := 12) hA
    by_cases hlt : j < l.length
    · have hst : nst (l.take (j + 1)) = nstep (nst (l.take j)) (l.getD j 0) := nst_take_succ l j hlt
      have hn1 := nst_len1 (l.take j)
      have hn2 := nst_len2 (l.take j)
      have htl : (l.take j).length = j := by rw [List.length_take]; omega
      rw [htl] at hn1 hn2
      clear htl
      obtain ⟨x, hxe⟩ : ∃ x, l.getD j 0 = x := ⟨_, rfl⟩
      rw [hxe] at hst
      generalize nst (l.take j) = s at *
      obtain ⟨s1, s2⟩ := s
      dsimp only at hx hn1 hn2 d4
      have hlk := mapL_get s1 x
      have hml := mapL_len s1
      have hxg := hx.get; have hxs := hx.size; (try simp only [nx] at hxs)
      by_cases hm : x ∈ s1
      · rw [if_pos hm] at hlk
        have hst' : nst (l.take (j + 1)) = (s1, s2 ++ [(s1.idxOf x : Int)]) := by rw [hst]; unfold nstep; rw [if_pos hm]
        clear hst
        repeat' first | refine rnY ?_ | with_reducible refine And.intro (fun hc => ?_) (fun hc => ?_) | fail
        exact ⟨⟨j + 1, agY, by omega, by exact exY⟩, by exact ivY⟩
      · rw [if_neg hm] at hlk
        have hst' : nst (l.take (j + 1)) = (s1 ++ [x], s2 ++ [(s1.length : Int)]) := by rw [hst]; unfold nstep; rw [if_neg hm]
        have hmp := mapL_put s1 x hm
        have hlk2 := mapL_get (s1 ++ [x]) x
        rw [if_pos (by simp)] at hlk2
        have hix : (s1 ++ [x]).idxOf x = s1.length := by rw [List.idxOf_append, if_neg hm]; simp
        rw [hix] at hlk2
        clear hst
        repeat' first | refine rnY ?_ | with_reducible refine And.intro (fun hc => ?_) (fun hc => ?_) | fail
        exact ⟨⟨j + 1, agY, by omega, by exact exY⟩, by exact ivY⟩
    · obtain rfl : j = l.length := by omega
      rw [List.take_length] at hx d4
      have hxg := hx.get; have hxs := hx.size; (try simp only [nx] at hxs)
      repeat' first | refine rnY ?_ | with_reducible refine And.intro (fun hc => ?_) (fun hc => ?_) | fail
      exact hQ.out _ _ ⟨⟨_, rfl, by omega, by exact ivY⟩, by exact exY⟩
theorem numbered_z {l : List Int} (hl : l.length ≤ 100000) : ZCalls Try.prog 171 [zI l] (FZ 1 l.length (ints (numL l))) := .zc (Cl.ints _) (numbered_g hl)
end Go.Proofs.Ytmoknllbpjpkmaa.Zed
