/- A part of the walk: what functions of the program do, over an abstract heap. -/
import Derived.Test.YtmoknllbpjpkmaaW14
namespace Go.Proofs.Ytmoknllbpjpkmaa.Zed
open Go TP
set_option linter.unusedVariables false
set_option linter.unusedSimpArgs false
set_option maxRecDepth 20000
namespace tfW15
theorem tf : (Try.prog.underlying 25 = some (.slice 2)) ∧ (el Try.prog 25 = some (none, 1)) ∧ (tk Try.prog 2 = some none) ∧ (cz Try.prog 2 = some 1) ∧ (bz Try.prog 2 = some 8) ∧ (zr Try.prog 2 = some (.int .i64 0)) := by
  refine ⟨?_, ?_, ?_, ?_, ?_, ?_⟩ <;> kernel_rfl
end tfW15
open tfW15

set_option maxHeartbeats 2000000 in
theorem l08Ends_z (e : Nat) (he : e < 6) : ZCalls Try.prog 156 [I e] (.tuple #[I (endA e), I (endB e)]) := by
  have : e = 0 ∨ e = 1 ∨ e = 2 ∨ e = 3 ∨ e = 4 ∨ e = 5 := by omega
  rcases this with rfl | rfl | rfl | rfl | rfl | rfl
  all_goals
    refine ZCalls.body Try.func156 rfl Try.ntmps156 (rs := [.tmp 2, .tmp 3]) rfl (by simp) rfl fun H Q hQ A hA => ?_
    have a0 := hA 0 _ _ rfl
    clear hA
    repeat' first | refine rnY ?_ | with_reducible refine And.intro (fun hc => ?_) (fun hc => ?_) | fail
    refine AWp.zreg [(0, none), (1, none), (2, none), (3, none), (4, none), (5, none), (6, none), (7, none), (8, none), (9, none)] mixed (by kernel_rfl) ?_
    repeat' first | refine rzY ?_ | fail
    repeat' first | refine rnY ?_ | with_reducible refine And.intro (fun hc => ?_) (fun hc => ?_) | fail
    exact hQ.out _ _ (.eq (Cl.tuple (l := [_, _]) (Cl.cons (Cl.int _ _) (Cl.cons (Cl.int _ _) Cl.nil))) (by rfl)) (by exact exY)
theorem edgeN_at : ∀ a b : Fin 4, a ≠ b → ∀ e : Fin 6, ((endA e = min (a.val : Int) b ∧ endB e = max (a.val : Int) b) ↔ (e.val : Int) = edgeN a b) := by decide +kernel
set_option maxHeartbeats 2000000 in
theorem l08Edge_z (a b : Int) (ha0 : 0 ≤ a) (ha1 : a < 4) (hb0 : 0 ≤ b) (hb1 : b < 4) (hab : a ≠ b) : ZCalls Try.prog 157 [I a, I b] (I (edgeN a b)) := by
  obtain ⟨a, rfl⟩ : ∃ q : Nat, a = q := ⟨a.toNat, by omega⟩
  obtain ⟨b, rfl⟩ : ∃ q : Nat, b = q := ⟨b.toNat, by omega⟩
  have hkey : ∀ e : Nat, e < 6 → ((endA e = min (a : Int) b ∧ endB e = max (a : Int) b) ↔ (e : Int) = edgeN a b) := fun e he => edgeN_at ⟨a, by omega⟩ ⟨b, by omega⟩ (by simp; omega) ⟨e, he⟩
  obtain ⟨r, hr, hr6⟩ := edgeN_bd a b (by omega) (by omega) (by omega)
  rw [hr] at hkey
  rw [hr]
  have hmn : (if (b : Int) < a then (b : Int) else a) = min (a : Int) b := by omega
  have hmx : (if (b : Int) > a then (b : Int) else a) = max (a : Int) b := by omega
  refine ZCalls.body Try.func157 rfl Try.ntmps157 (rs := [.tmp 4]) rfl (by simp) rfl fun H Q hQ A hA => ?_
  have a0 := hA 0 _ _ rfl
  have a1 := hA 1 _ _ rfl
  clear hA
  generalize min (a : Int) b = mn at *
  generalize max (a : Int) b = mx at *
  clear hr hab
  repeat' first | refine rnY ?_ | with_reducible refine And.intro (fun hc => ?_) (fun hc => ?_) | fail
  refine AWp.cut (fun Ac hAc => ?_)
  have c0 := gtY (t := 0) hAc
  have c1 := gtY (t := 1) hAc
  have c5 := gtY (t := 5) hAc
  clear a0 a1
  refine AWp.loop (fun A' H' => ∃ (j : Nat), Ag [6, 7, 8, 9, 10, 11, 12, 13, 14, 15, 16, 17, 18, 19, 20, 21, 22, 23, 24, 25, 26, 27, 28, 29] A' (put Ac (some 5) (I j)) ∧ j ≤ r ∧ H' = H) (fun A' _ => 6 - (intV (A' 5)).toNat) ?_ ?_
  · exact ⟨0, agY, by omega, rfl⟩
  · rintro A1 H1 ⟨j, hA, hj, rfl⟩
    have d0 := gdY (t := 0) hA
    have d1 := gdY (t := 1) hA
    have d5 := gdY (t := 5) hA
    have hk := hkey j (by omega)
    clear hkey
    have hends := l08Ends_z j (by omega)
    generalize endA (j : Int) = x at hk hends
    generalize endB (j : Int) = y at hk hends
    by_cases hjr : j = r
    · obtain ⟨rfl, rfl⟩ := hk.2 (by omega)
      subst hjr
      repeat' first | refine rnY ?_ | (first | refine ZCalls.to (hends) ?_ | refine ZCalls.tf (hends) ?_) | with_reducible refine And.intro (fun hc => ?_) (fun hc => ?_) | fail
      exact hQ.out _ _ (fv) (by exact exY)
    · have hne : ¬ (x = mn ∧ y = mx) := fun h => hjr (by have := hk.1 h; omega)
      clear hk
      rcases h1 : (x == mn) with _ | _
      · repeat' first | refine rnY ?_ | (first | refine ZCalls.to (hends) ?_ | refine ZCalls.tf (hends) ?_) | with_reducible refine And.intro (fun hc => ?_) (fun hc => ?_) | fail
        exact ⟨⟨j + 1, agY, by omega, rfl⟩, by exact ivY⟩
      · have h2 : (y == mx) = false := by
          rw [beq_eq_false_iff_ne]; exact fun h => hne ⟨by simpa using h1, h⟩
        repeat' first | refine rnY ?_ | (first | refine ZCalls.to (hends) ?_ | refine ZCalls.tf (hends) ?_) | with_reducible refine And.intro (fun hc => ?_) (fun hc => ?_) | fail
        exact ⟨⟨j + 1, agY, by omega, rfl⟩, by exact ivY⟩
set_option maxHeartbeats 1000000 in
theorem l08Fresh_g (n : Nat) (hn : n ≤ 100000) (H : Heap) : ACalls Try.prog 154 [I n] H fun v H' => (∃ tag, v = GZ tag 1 n (ints (cntL n)) ∧ H.size ≤ tag ∧ H'.get tag = .tok n 1) ∧ Ext H H' := by
  refine ACalls.body Try.func154 rfl Try.ntmps154 (rs := [.tmp 2]) rfl (by simp) rfl fun Q hQ A hA => ?_
  have a0 := hA 0 _ _ rfl
  clear hA
  repeat' first | refine rnY ?_ | with_reducible refine And.intro (fun hc => ?_) (fun hc => ?_) | fail
  refine AWp.growE (t := 3) 1 (by decide) (by exact ivY) ?_
  refine AWp.cut (fun Ac hAc => ?_)
  have c0 := gtY (t := 0) hAc
  have c3 := gtY (t := 3) hAc
  have c4 := gtY (t := 4) hAc
  clear a0
  refine AWp.loop (fun A' H' => ∃ (j : Nat), Ag [6, 7, 8, 9, 10, 11, 12, 13, 14] A' (put (put Ac (some 3) (GZ (H.size + 1) 1 j (ints (cntL j)))) (some 4) (I j)) ∧ j ≤ n ∧ Ext ((H.push (.cells [] 1 false)).push (.tok j 1)) H') (fun A' _ => n - (intV (A' 4)).toNat) ?_ ?_
  · have e0 : cntL 0 = [] := rfl
    exact ⟨0, agY, by omega, by exact exY⟩
  · rintro A1 H1 ⟨j, hA, hj, hx⟩
    have d0 := gdY (t := 0) hA
    have d3 := gdY (t := 3) hA
    have d4 := gdY (t := 4) hA
    have hxg := hx.get; have hxs := hx.size; (try simp only [nx] at hxs)
    have hcl := cntL_len j
    have hcs := cntL_succ j
    by_cases hlt : j < n
    · repeat' first | refine rnY ?_ | with_reducible refine And.intro (fun hc => ?_) (fun hc => ?_) | fail
      exact ⟨⟨j + 1, agY, by omega, by exact exY⟩, by exact ivY⟩
    · obtain rfl : j = n := by omega
      repeat' first | refine rnY ?_ | with_reducible refine And.intro (fun hc => ?_) (fun hc => ?_) | fail
      exact hQ.out _ _ ⟨⟨_, rfl, by omega, by exact ivY⟩, by exact exY⟩
theorem l08Fresh_o (n : Nat) (hn : n ≤ 100000) (H : Heap) : ACalls Try.prog 154 [I n] H (OwnK H 1 n (ints (cntL n))) := .fresh (ints_flat _) (l08Fresh_g n hn) H
set_option maxHeartbeats 1000000 in
theorem l08Join_c {H : Heap} {g c : Nat} {l : List Int} {i k : Int} {n : Nat} (hg : H.get g = .cells (ints l) 1 false) (hn : l.length = n) (hl : n ≤ 100000) (hi0 : 0 ≤ i) (hi : i < n) (hk0 : 0 ≤ k) (hk : k < n) :
    ACalls Try.prog 155 [.slice (some ⟨g, 0, none⟩) n c, I i, I k] H fun v H' => v = undef ∧ H' = H.set g (.cells (ints (joinL l i.toNat k.toNat)) 1 false) := by
  obtain ⟨i, rfl⟩ : ∃ q : Nat, i = q := ⟨i.toNat, by omega⟩
  obtain ⟨k, rfl⟩ : ∃ q : Nat, k = q := ⟨k.toNat, by omega⟩
  subst hn
  simp only [Int.toNat_natCast]
  have hmn : (if l.getD k 0 < l.getD i 0 then l.getD k 0 else l.getD i 0) = min (l.getD i 0) (l.getD k 0) := by omega
  have hmx : (if l.getD k 0 > l.getD i 0 then l.getD k 0 else l.getD i 0) = max (l.getD i 0) (l.getD k 0) := by omega
  have hj : joinL l i k = turnL (max (l.getD i 0) (l.getD k 0)) (min (l.getD i 0) (l.getD k 0)) l := rfl
  rw [hj]
  clear hj
  generalize min (l.getD i 0) (l.getD k 0) = lo at *
  generalize max (l.getD i 0) (l.getD k 0) = hh at *
  refine ACalls.body Try.func155 rfl Try.ntmps155 (rs := []) rfl (by simp) rfl fun Q hQ A hA => ?_
  have a0 := hA 0 _ _ rfl
  have a1 := hA 1 _ _ rfl
  have a2 := hA 2 _ _ rfl
  clear hA
  repeat' first | refine rnY ?_ | with_reducible refine And.intro (fun hc => ?_) (fun hc => ?_) | fail
  refine AWp.zreg [(0, none), (1, none), (2, none), (3, none), (4, none), (5, none), (6, none), (7, none), (8, none), (9, none)] mixed (by kernel_rfl) ?_
  repeat' first | refine rzY ?_ | fail
  repeat' first | refine rnY ?_ | with_reducible refine And.intro (fun hc => ?_) (fun hc => ?_) | fail
  refine AWp.zreg [(0, none), (1, none), (2, none), (3, none), (4, none), (5, none), (6, none), (7, none), (8, none), (9, none)] mixed (by kernel_rfl) ?_
  repeat' first | refine rzY ?_ | fail
  repeat' first | refine rnY ?_ | with_reducible refine And.intro (fun hc => ?_) (fun hc => ?_) | fail
  refine AWp.cut (fun Ad hAd => ?_)
  have d0 := gtY (t := 0) hAd
  have d6 := gtY (t := 6) hAd
  have d7 := gtY (t := 7) hAd
  have d8 := gtY (t := 8) hAd
  clear a0 a1 a2 hmn hmx
  refine AWp.loop (fun A' H' => ∃ (n : Nat), Ag [27, 28, 29, 30, 31, 32, 33, 34, 35, 36, 37, 38, 39, 40, 41, 42] A' (put Ad (some 8) (I n)) ∧ n ≤ l.length ∧ H' = H.set g (.cells (ints (turnTo hh lo l n)) 1 false)) (fun A' _ => l.length - (intV (A' 8)).toNat) ?_ ?_
  · exact ⟨0, agY, by omega, by rw [set_self]; simp [turnTo, turnL, hg]⟩
  · rintro A1 H1 ⟨n, hA, hn, rfl⟩
    have e0 := gdY (t := 0) hA
    have e6 := gdY (t := 6) hA
    have e7 := gdY (t := 7) hA
    have e8 := gdY (t := 8) hA
    have tl := turnTo_len hh lo l n
    by_cases hlt : n < l.length
    · have hget := turnTo_get hh lo l n hlt
      by_cases hy : l.getD n 0 = hh
      · have yes := turnTo_yes hh lo l n hlt hy
        have hyb : (l.getD n 0 == hh) = true := by rw [beq_iff_eq]; exact hy
        clear hy
        generalize l.getD n 0 = x at *
        repeat' first | refine rnY ?_ | with_reducible refine And.intro (fun hc => ?_) (fun hc => ?_) | fail
        exact ⟨⟨n + 1, agY, by omega, by exact ivY⟩, by exact ivY⟩
      · have no := turnTo_no hh lo l n hlt hy
        have hyb : (l.getD n 0 == hh) = false := by rw [beq_eq_false_iff_ne]; exact hy
        clear hy
        generalize l.getD n 0 = x at *
        repeat' first | refine rnY ?_ | with_reducible refine And.intro (fun hc => ?_) (fun hc => ?_) | fail
        exact ⟨⟨n + 1, agY, by omega, by exact ivY⟩, by exact ivY⟩
    · obtain rfl : n = l.length := by omega
      have ta := turnTo_all hh lo l
      repeat' first | refine rnY ?_ | with_reducible refine And.intro (fun hc => ?_) (fun hc => ?_) | fail
      exact hQ.out _ _ ⟨rfl, rfl⟩
end Go.Proofs.Ytmoknllbpjpkmaa.Zed
