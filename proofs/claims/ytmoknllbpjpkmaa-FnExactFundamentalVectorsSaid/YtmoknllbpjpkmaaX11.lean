/- A part of the walk: what functions of the program do, over an abstract heap. -/
import Derived.Test.YtmoknllbpjpkmaaX10
import Derived.Test.YtmoknllbpjpkmaaX1
import Derived.Test.YtmoknllbpjpkmaaW24
namespace Go.Proofs.Ytmoknllbpjpkmaa.Zed
open Go TP
set_option linter.unusedVariables false
set_option linter.unusedSimpArgs false
set_option maxRecDepth 20000
namespace tfX11
theorem tf : (Try.prog.underlying 25 = some (.slice 2)) ∧ (el Try.prog 25 = some (none, 1)) ∧ (tk Try.prog 2 = some none) ∧ (tk Try.prog 25 = some none) ∧ (tk Try.prog 47 = some (some 2)) ∧ (cz Try.prog 2 = some 1) ∧ (bz Try.prog 2 = some 8) ∧ (zr Try.prog 2 = some (.int .i64 0)) ∧ (zr Try.prog 47 = some (.agg #[.slice none 0 0, .int .i64 0])) ∧ (fo Try.prog 44 0 = some (0, none)) ∧ (fo Try.prog 44 1 = some (1, none)) ∧ (fo Try.prog 47 0 = some (0, none)) ∧ (fo Try.prog 47 1 = some (1, none)) := by
  refine ⟨?_, ?_, ?_, ?_, ?_, ?_, ?_, ?_, ?_, ?_, ?_, ?_, ?_⟩ <;> kernel_rfl
end tfX11
open tfX11

/-- Angles: the values and the denominator. -/
abbrev agV (l : List Int) (d : Int) : Value := .agg #[zI l, I d]
theorem Cl.agV (l : List Int) (d : Int) : Cl (Zed.agV l d) := Cl.agg (l := [_, _]) (Cl.cons (Cl.zI _) (Cl.cons (Cl.int _ _) Cl.nil))
theorem szInt64S_z (n es : Nat) (cs : List Value) (r : Int) (hr0 : 0 ≤ r) (hr : r ≤ 1048576) (hn : n ≤ 9223372036854775807) : ZCalls Try.prog 70 [FZ es n cs, I r] (I (sz1 r n)) := by
  unfold sz1
  by_cases h : r - n < 0
  · rw [if_pos h]
    refine ZCalls.body Try.func70 rfl Try.ntmps70 (rs := [.tmp 4]) rfl (by simp) rfl fun H Q hQ A hA => ?_
    have a0 := hA 0 _ _ rfl
    have a1 := hA 1 _ _ rfl
    clear hA
    repeat' first | refine rnY ?_ | with_reducible refine And.intro (fun hc => ?_) (fun hc => ?_) | fail
    exact hQ.out _ _ (fv) (by exact exY)
  · rw [if_neg h]
    refine ZCalls.body Try.func70 rfl Try.ntmps70 (rs := [.tmp 4]) rfl (by simp) rfl fun H Q hQ A hA => ?_
    have a0 := hA 0 _ _ rfl
    have a1 := hA 1 _ _ rfl
    clear hA
    repeat' first | refine rnY ?_ | with_reducible refine And.intro (fun hc => ?_) (fun hc => ?_) | fail
    exact hQ.out _ _ (fv) (by exact exY)
theorem szAngles_z (l : List Int) (d r : Int) (hr0 : 0 ≤ r) (hr : r ≤ 1048576) (hn : l.length ≤ 9223372036854775807) : ZCalls Try.prog 27 [agV l d, I r] (I (sz1 r l.length)) := by
  have hz := szInt64S_z l.length 1 (ints l) r hr0 hr hn
  by_cases h : sz1 r l.length < 0
  · have e : sz1 r l.length = -1 := by unfold sz1 at *; split at h <;> omega
    rw [e] at hz ⊢
    refine ZCalls.body Try.func27 rfl Try.ntmps27 (rs := [.tmp 4]) rfl (by simp) rfl fun H Q hQ A hA => ?_
    have a0 := hA 0 _ _ rfl
    have a1 := hA 1 _ _ rfl
    clear hA
    repeat' first | refine rnY ?_ | (first | refine ZCalls.to (hz) ?_ | refine ZCalls.tf (hz) ?_) | with_reducible refine And.intro (fun hc => ?_) (fun hc => ?_) | fail
    exact hQ.out _ _ (fv) (by exact exY)
  · generalize sz1 r l.length = q at *
    refine ZCalls.body Try.func27 rfl Try.ntmps27 (rs := [.tmp 4]) rfl (by simp) rfl fun H Q hQ A hA => ?_
    have a0 := hA 0 _ _ rfl
    have a1 := hA 1 _ _ rfl
    clear hA
    repeat' first | refine rnY ?_ | (first | refine ZCalls.to (hz) ?_ | refine ZCalls.tf (hz) ?_) | with_reducible refine And.intro (fun hc => ?_) (fun hc => ?_) | fail
    exact hQ.out _ _ (fv) (by exact exY)
set_option maxHeartbeats 1000000 in
theorem toInt64S_o {l : List Int} (hS : l.length ≤ 1048576) : OCalls Try.prog 16 [zI l] (zI l) := by
  refine OCalls.body Try.func16 rfl Try.ntmps16 (rs := [.tmp 2]) rfl (by simp) rfl fun H Q hQ A hA => ?_
  have a0 := hA 0 _ _ rfl
  clear hA
  have zf0 := @rep_ints
  have zf1 := @zero1
  repeat' first | refine rnY ?_ | with_reducible refine And.intro (fun hc => ?_) (fun hc => ?_) | fail
  refine AWp.cut (fun Ac hAc => ?_)
  have c0 := gtY (t := 0) hAc
  have c3 := gtY (t := 3) hAc
  have c4 := gtY (t := 4) hAc
  clear a0
  refine AWp.loop (fun A' H' => ∃ (j : Nat) (L : List Int), Ag [8, 9, 10, 11, 12, 13, 14, 15, 16, 17, 18, 19, 20] A' (put Ac (some 4) (I j)) ∧ j ≤ l.length ∧ L.length = l.length ∧ L.take j = l.take j ∧ H' = H.push (.cells (ints L) 1 false)) (fun A' _ => l.length - (intV (A' 4)).toNat) ?_ ?_
  · exact ⟨0, List.replicate l.length 0, agY, by omega, List.length_replicate .., rfl, rfl⟩
  · rintro A1 H1 ⟨j, L, hA, hj, hLl, hLt, rfl⟩
    have d0 := gdY (t := 0) hA
    have d3 := gdY (t := 3) hA
    have d4 := gdY (t := 4) hA
    by_cases hlt : j < l.length
    · obtain ⟨x, hx⟩ : ∃ x, l.getD j 0 = x := ⟨_, rfl⟩
      have hnew : (L.set j x).take (j + 1) = l.take (j + 1) := by
        rw [List.take_succ_eq_append_getElem (l := L.set j x) (by rw [List.length_set]; omega), List.getElem_set_self, List.take_set, List.set_eq_of_length_le (by rw [List.length_take]; omega), hLt, List.take_succ_eq_append_getElem hlt]
        congr 2
        rw [← hx]; simp [hlt]
      repeat' first | refine rnY ?_ | with_reducible refine And.intro (fun hc => ?_) (fun hc => ?_) | fail
      exact ⟨⟨j + 1, L.set j x, agY, by omega, by rw [List.length_set]; exact hLl, hnew, by first | rfl | simp⟩, by exact ivY⟩
    · obtain rfl : j = l.length := by omega
      rw [List.take_of_length_le (by omega), List.take_length] at hLt
      subst hLt
      repeat' first | refine rnY ?_ | with_reducible refine And.intro (fun hc => ?_) (fun hc => ?_) | fail
      exact hQ.out _ _ ((OwnB.ints (lo := H.size) (Nat.le_refl _) (Nat.lt_succ_self _) rfl (get_push_eq rfl)).out) (by exact exY)
theorem toInt64S_z {l : List Int} (hS : l.length ≤ 1048576) : ZCalls Try.prog 16 [zI l] (zI l) := (toInt64S_o hS).toZ (Cl.cons (Cl.zI _) Cl.nil)
theorem ag_shape {lo hi : Nat} {H : Heap} {u : Value} {L : List Int} {d : Int} (h : OwnB lo hi H [u] [agV L d]) : ∃ v, u = .agg #[v, I d] ∧ OwnB lo hi H [v] [zI L] ∧ v.oneCell' = true := by
  obtain ⟨l, rfl, h1⟩ := OwnB.agg_inv (l' := [zI L, I d]) h
  obtain ⟨v, l2, rfl, h2, h3⟩ := h1.cons_inv
  obtain ⟨l3, rfl, h4⟩ := OwnB.flat_inv (r := I d) rfl h3
  obtain rfl := h4.nil_inv
  exact ⟨v, rfl, h2, h2.one⟩
theorem ag_mk {lo hi : Nat} {H : Heap} {v : Value} {L : List Int} {d : Int} (h : OwnB lo hi H [v] [zI L]) : OwnB lo hi H [.agg #[v, I d]] [agV L d] := OwnB.ag (l := [v, I d]) (l' := [zI L, I d]) (h.cflats fun x hx => by simp at hx; subst hx; rfl)
theorem toAngles_o {l : List Int} {d : Int} (hS : l.length ≤ 1048576) : OCalls Try.prog 29 [agV l d] (agV l d) := by
  have hto := fun H => (toInt64S_o hS).lend (H := H) (.cl (Cl.zI l) .nil)
  refine OCalls.body Try.func29 rfl Try.ntmps29 (rs := [.cell 2 47]) rfl (by simp) rfl fun H Q hQ A hA => ?_
  have a0 := hA 0 _ _ rfl
  clear hA
  repeat' first | refine rnY ?_ | (refine (hto _).mono ?_; rintro u H2 ⟨hU, hx2⟩; have hu1 := hU.one; have hx2g := hx2.get; have hx2s := hx2.size; (try simp only [nx] at hx2s)) | with_reducible refine And.intro (fun hc => ?_) (fun hc => ?_) | fail
  exact hQ.out _ _ ((ag_mk ((hU.keep fun b hb _ => by simp only [nx] at hb; repeat first | rw [get_set_ne (by omega)] | rfl).wide (lo' := H.size) (by simp only [nx]; omega) (Nat.le_refl _))).out) (by exact exY)
theorem toAngles_z {l : List Int} {d : Int} (hS : l.length ≤ 1048576) : ZCalls Try.prog 29 [agV l d] (agV l d) := (toAngles_o hS).toZ (Cl.cons (Cl.agV _ _) Cl.nil)
theorem eqAngles_z (l : List Int) (d : Int) (hS : l.length ≤ 1048576) : ZCalls Try.prog 31 [agV l d, agV l d] (B true) := by
  have h2 : (d == d) = true := beq_self_eq_true d
  have he := eqInt64S_z l (by omega)
  refine ZCalls.body Try.func31 rfl Try.ntmps31 (rs := [.tmp 4]) rfl (by simp) rfl fun H Q hQ A hA => ?_
  have a0 := hA 0 _ _ rfl
  have a1 := hA 1 _ _ rfl
  clear hA
  repeat' first | refine rnY ?_ | (first | refine ZCalls.to (he) ?_ | refine ZCalls.tf (he) ?_) | with_reducible refine And.intro (fun hc => ?_) (fun hc => ?_) | fail
  exact hQ.out _ _ (fv) (by exact exY)
end Go.Proofs.Ytmoknllbpjpkmaa.Zed
