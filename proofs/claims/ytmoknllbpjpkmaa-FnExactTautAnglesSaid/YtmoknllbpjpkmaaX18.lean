/- A part of the walk: what functions of the program do, over an abstract heap. -/
import Derived.Test.YtmoknllbpjpkmaaX15
import Derived.Test.YtmoknllbpjpkmaaX11
namespace Go.Proofs.Ytmoknllbpjpkmaa.Zed
open Go TP
set_option linter.unusedVariables false
set_option linter.unusedSimpArgs false
set_option maxRecDepth 20000
namespace tfX18
theorem tf : (Try.prog.underlying 25 = some (.slice 2)) ∧ (el Try.prog 25 = some (none, 1)) ∧ (Try.prog.underlying 29 = some (.slice 102)) ∧ (el Try.prog 29 = some (none, 1)) ∧ (tk Try.prog 2 = some none) ∧ (tk Try.prog 25 = some none) ∧ (tk Try.prog 29 = some none) ∧ (tk Try.prog 31 = some (some 1)) ∧ (tk Try.prog 47 = some (some 2)) ∧ (tk Try.prog 102 = some none) ∧ (cz Try.prog 2 = some 1) ∧ (bz Try.prog 2 = some 8) ∧ (cz Try.prog 102 = some 1) ∧ (bz Try.prog 102 = some 24) ∧ (zr Try.prog 2 = some (.int .i64 0)) ∧ (zr Try.prog 47 = some (.agg #[.slice none 0 0, .int .i64 0])) ∧ (zr Try.prog 102 = some (.slice none 0 0)) ∧ (fo Try.prog 31 0 = some (0, none)) ∧ (fo Try.prog 47 0 = some (0, none)) ∧ (el Try.prog 47 = none) ∧ (placesOf Try.prog 47 = some #[(0, 1), (1, 1)]) := by
  refine ⟨?_, ?_, ?_, ?_, ?_, ?_, ?_, ?_, ?_, ?_, ?_, ?_, ?_, ?_, ?_, ?_, ?_, ?_, ?_, ?_, ?_⟩ <;> kernel_rfl
end tfX18
open tfX18

/-- The number of a choice's angle. -/
def tvN (c : List Int) (q : Nat) : Int := if c.getD (q / 3) 0 = ((q % 3 : Nat) : Int) then 1 else 0
def tvL (c : List Int) (m : Nat) : List Int := (List.range m).map (tvN c)
theorem tvL_len (c : List Int) (m : Nat) : (tvL c m).length = m := by simp [tvL]
theorem tvL_get (c : List Int) {m q : Nat} (h : q < m) : (tvL c m).getD q 0 = tvN c q := by simp [tvL, h]
theorem tvL_succ (c : List Int) (m : Nat) : tvL c (m + 1) = tvL c m ++ [tvN c m] := by simp [tvL, List.range_succ]
theorem tvN_at {c : List Int} {i k : Nat} (hk : k < 3) : tvN c (3 * i + k) = if c.getD i 0 = (k : Int) then 1 else 0 := by
  unfold tvN
  rw [show (3 * i + k) / 3 = i by omega, show (3 * i + k) % 3 = k by omega]
theorem tv_step {c L : List Int} {j : Nat} (hj : j < c.length) (hl : L.length = 3 * c.length) (hk : 0 ≤ c.getD j 0 ∧ c.getD j 0 ≤ 2) (h : ∀ q, q < 3 * c.length → L.getD q 0 = if q < 3 * j then tvN c q else 0) :
    ∀ q, q < 3 * c.length → (L.set (3 * (j : Int) + c.getD j 0).toNat 1).getD q 0 = if q < 3 * (j + 1) then tvN c q else 0 := by
  intro q hq
  have e1 : 3 * (q / 3) + q % 3 = q := by omega
  have e2 : q % 3 < 3 := by omega
  have := tvN_at (c := c) (i := q / 3) e2
  rw [e1] at this
  rw [getD_set _ _ _ _ (by omega), h q hq, this]
  generalize hx : c.getD j 0 = x at *
  by_cases hqj : q / 3 = j
  · rw [hqj, hx]
    clear h this
    repeat' split
    all_goals first | rfl | (exfalso; omega)
  · clear h this
    by_cases hq2 : q < 3 * j
    · rw [if_neg (show ¬ (3 * (j : Int) + x).toNat = q by omega), if_pos hq2, if_pos (show q < 3 * (j + 1) by omega)]
    · rw [if_neg (show ¬ (3 * (j : Int) + x).toNat = q by omega), if_neg hq2, if_neg (show ¬ q < 3 * (j + 1) by omega)]
theorem tv_done {c L : List Int} (hl : L.length = 3 * c.length) (h : ∀ q, q < 3 * c.length → L.getD q 0 = if q < 3 * c.length then tvN c q else 0) : L = tvL c (3 * c.length) := by
  refine ext_getD (by rw [tvL_len]; exact hl) fun q hq => ?_
  rw [tvL_get c (by omega), h q (by omega), if_pos (by omega)]
set_option maxHeartbeats 2000000 in
theorem tautAngles_o {c : List Int} (hl : c.length ≤ 1048576) (hc : ∀ j, j < c.length → 0 ≤ c.getD j 0 ∧ c.getD j 0 ≤ 2) : OCalls Try.prog 96 [zI c] (agV (tvL c (3 * c.length)) 1) := by
  have hm : (3 * (c.length : Int)).toNat = 3 * c.length := by omega
  refine OCalls.body Try.func96 rfl Try.ntmps96 (rs := [.cell 2 47]) rfl (by simp) rfl fun H Q hQ A hA => ?_
  have a0 := hA 0 _ _ rfl
  clear hA
  have zf0 := @rep_ints
  have zf1 := @zero1
  repeat' first | refine rnY ?_ | with_reducible refine And.intro (fun hc => ?_) (fun hc => ?_) | fail
  refine AWp.cut (fun Ac hAc => ?_)
  have c2 := gtY (t := 2) hAc
  have c3 := gtY (t := 3) hAc
  have c11 := gtY (t := 11) hAc
  have c12 := gtY (t := 12) hAc
  have c13 := gtY (t := 13) hAc
  clear a0
  refine AWp.loop (fun A' H' => ∃ (j : Nat) (L : List Int), Ag [4, 5, 14, 15, 16, 17, 18, 19, 20, 21, 22, 23, 24, 25] A' (put Ac (some 13) (I j)) ∧ j ≤ c.length ∧ L.length = 3 * c.length ∧ (∀ q, q < 3 * c.length → L.getD q 0 = if q < 3 * j then tvN c q else 0) ∧ H' = ((H.push (.cells [.slice none 0 0, I 0] 1 false)).push (.cells (ints L) 1 false)).push (.cells [.slice (some ⟨H.size + 1, 0, none⟩) (3 * c.length) (3 * c.length + 1), I 1] 1 false)) (fun A' _ => c.length - (intV (A' 13)).toNat) ?_ ?_
  · exact ⟨0, List.replicate (3 * c.length) 0, agY, by omega, List.length_replicate .., fun q hq => by rw [getD_zero, if_neg (by omega)], by first | rfl | simp⟩
  · rintro A1 H1 ⟨j, L, hA, hj, hLl, hLg, rfl⟩
    have d2 := gdY (t := 2) hA
    have d3 := gdY (t := 3) hA
    have d11 := gdY (t := 11) hA
    have d12 := gdY (t := 12) hA
    have d13 := gdY (t := 13) hA
    by_cases hlt : j < c.length
    · have hk := hc j hlt
      have hst := tv_step hlt hLl hk hLg
      generalize hx : c.getD j 0 = x at *
      clear hLg
      repeat' first | refine rnY ?_ | with_reducible refine And.intro (fun hc => ?_) (fun hc => ?_) | fail
      exact ⟨⟨j + 1, L.set (3 * (j : Int) + x).toNat 1, agY, by omega, by rw [List.length_set]; exact hLl, hst, by first | rfl | simp⟩, by exact ivY⟩
    · obtain rfl : j = c.length := by omega
      have hdone := tv_done hLl hLg
      subst hdone
      clear hLg hLl
      repeat' first | refine rnY ?_ | with_reducible refine And.intro (fun hc => ?_) (fun hc => ?_) | fail
      exact hQ.out _ _ ((ag_mk (by unfold Zed.zI; rw [tvL_len]; exact OwnB.ints (lo := H.size) (hi := H.size + 1 + 1) (by omega) (by omega) (tvL_len ..) (by rw [get_push_lt (by simp only [nx]; omega), get_push_eq (by simp only [nx])]))).out) (by exact exY)
/-- A taut choice. -/
def tOK (T : List (List (Int × Int))) (c : List Int) : Prop := c.length = T.length ∧ (∀ j, j < c.length → 0 ≤ c.getD j 0 ∧ c.getD j 0 ≤ 2) ∧ AngI T (tvL c (3 * c.length)) 1
instance (T : List (List (Int × Int))) (c : List Int) : Decidable (tOK T c) := by unfold tOK; infer_instance
abbrev atV (l : List Int) (d k : Int) : Value := .tuple #[agV l d, I k]
def tgV (T : List (List (Int × Int))) (c : List Int) : Value := if codeN T = 0 then (if tOK T c then atV (tvL c (3 * c.length)) 1 0 else atV [] 0 5) else atV [] 0 (codeN T)
theorem tautFn_z (x : Int) : ZCalls Try.prog 95 [I x] (B (!decide (0 ≤ x ∧ x ≤ 2))) := by
  have hr := inRange_z x 0 2
  refine ZCalls.body Try.func95 rfl Try.ntmps95 (rs := [.tmp 2]) rfl (by simp) rfl fun H Q hQ A hA => ?_
  have a0 := hA 0 _ _ rfl
  clear hA
  repeat' first | refine rnY ?_ | (first | refine ZCalls.to (hr) ?_ | refine ZCalls.tf (hr) ?_) | with_reducible refine And.intro (fun hc => ?_) (fun hc => ?_) | fail
  exact hQ.out _ _ (fv) (by exact exY)
set_option maxHeartbeats 4000000 in
theorem implTautAngles_o {T : List (List (Int × Int))} (hl : T.length ≤ 1048576) (c : List Int) (hv : c.length ≤ 1048576) : OCalls Try.prog 44 [zT T, zI c] (tgV T c) := by
  have hc := normalCode_z hl
  unfold tgV
  by_cases h : codeN T = 0
  · rw [if_pos h]
    have h6 := codeN_six h
    have hcn := containsN_z (F := 95) (xs := #[]) hv (fun x _ => tautFn_z x)
    rw [h] at hc
    by_cases h1 : c.length = T.length
    · have h1b : ((c.length : Int) == (T.length : Int)) = true := by rw [beq_iff_eq]; omega
      by_cases h2 : ∀ j, j < c.length → 0 ≤ c.getD j 0 ∧ c.getD j 0 ≤ 2
      · have hany : (c.any fun x => !decide (0 ≤ x ∧ x ≤ 2)) = false := by
          rw [List.any_eq_false]
          intro x hx
          obtain ⟨i, hi, rfl⟩ := List.getElem_of_mem hx
          have := h2 i hi
          simp [hi] at this
          simp [this]
        rw [hany] at hcn
        have hia := isAngles_z h (tvL c (3 * c.length)) 1 (by rw [tvL_len]; omega)
        have hta := fun H => (tautAngles_o hv h2).lend (H := H) (.cl (Cl.zI c) .nil)
        have hout : tOK T c ↔ AngI T (tvL c (3 * c.length)) 1 := ⟨fun q => q.2.2, fun q => ⟨h1, h2, q⟩⟩
        by_cases h3 : AngI T (tvL c (3 * c.length)) 1
        · rw [if_pos (hout.2 h3)]
          rw [decide_eq_true h3] at hia
          clear hany hout h3 h2 h1
          generalize tvL c (3 * c.length) = L at *
          refine OCalls.body Try.func44 rfl Try.ntmps44 (rs := [.cell 4 47, .tmp 5]) rfl (by simp) rfl fun H Q hQ A hA => ?_
          have a0 := hA 0 _ _ rfl
          have a1 := hA 1 _ _ rfl
          clear hA
          repeat' first | refine rnY ?_ | (first | refine ZCalls.to (hc) ?_ | refine ZCalls.tf (hc) ?_) | (first | refine ZCalls.to (hcn) ?_ | refine ZCalls.tf (hcn) ?_) | (refine (hta _).mono ?_; rintro u H1 ⟨hO, hx⟩; obtain ⟨v, rfl, hO1, hv⟩ := ag_shape hO; have hxg := hx.get; have hxs := hx.size; (try simp only [nx] at hxs)) | (refine (hia.lend rfl (.cl (Cl.zT T) (.ownB (ag_mk (hO1.ext (Nat.le_refl _) (by exact exY))) .nil))).mono ?_; rintro u H3 ⟨rfl, he3⟩; have he3g := he3.get; have he3s := he3.size; (try simp only [nx] at he3s)) | with_reducible refine And.intro (fun hc => ?_) (fun hc => ?_) | fail
          exact hQ.out _ _ ((OwnB.tup (l := [_, I 0]) (l' := [agV L 1, I 0]) (.cflats (ag_mk (((hO1.ext (Nat.le_refl _) (by exact exY)).keep fun b hb _ => get_set_ne (by simp only [nx] at hb; omega)).wide (lo' := H.size) (hi' := H3.size) (by simp only [nx]; omega) (by have := he3.1; simp only [nx] at *; omega))) (fun x hx => by simp at hx; subst hx; rfl))).out) (by exact exY)
        · rw [if_neg (fun q => h3 (hout.1 q))]
          rw [decide_eq_false h3] at hia
          clear hany hout h3 h2 h1
          generalize tvL c (3 * c.length) = L at *
          refine OCalls.body Try.func44 rfl Try.ntmps44 (rs := [.cell 4 47, .tmp 5]) rfl (by simp) rfl fun H Q hQ A hA => ?_
          have a0 := hA 0 _ _ rfl
          have a1 := hA 1 _ _ rfl
          clear hA
          repeat' first | refine rnY ?_ | (first | refine ZCalls.to (hc) ?_ | refine ZCalls.tf (hc) ?_) | (first | refine ZCalls.to (hcn) ?_ | refine ZCalls.tf (hcn) ?_) | (refine (hta _).mono ?_; rintro u H1 ⟨hO, hx⟩; obtain ⟨v, rfl, hO1, hv⟩ := ag_shape hO; have hxg := hx.get; have hxs := hx.size; (try simp only [nx] at hxs)) | (refine (hia.lend rfl (.cl (Cl.zT T) (.ownB (ag_mk (hO1.ext (Nat.le_refl _) (by exact exY))) .nil))).mono ?_; rintro u H3 ⟨rfl, he3⟩; have he3g := he3.get; have he3s := he3.size; (try simp only [nx] at he3s)) | with_reducible refine And.intro (fun hc => ?_) (fun hc => ?_) | fail
          exact hQ.out _ _ ((OwnB.tup (lo := H.size) (hi := H.size) (l := [.agg #[.slice none 0 0, I 0], I 5]) (l' := [agV [] 0, I 5]) (.cflats (ag_mk (OwnB.nilr 1)) (fun x hx => by simp at hx; subst hx; rfl))).out) (by exact exY)
      · have hany : (c.any fun x => !decide (0 ≤ x ∧ x ≤ 2)) = true := by
          cases hb : c.any fun x => !decide (0 ≤ x ∧ x ≤ 2) with
          | true => rfl
          | false =>
            refine absurd (fun j hj => ?_) h2
            rw [List.any_eq_false] at hb
            have := hb (c.getD j 0) (by simp [hj])
            simpa using this
        rw [hany] at hcn
        rw [if_neg (fun q => h2 q.2.1)]
        clear hany h2 h1
        refine OCalls.body Try.func44 rfl Try.ntmps44 (rs := [.cell 4 47, .tmp 5]) rfl (by simp) rfl fun H Q hQ A hA => ?_
        have a0 := hA 0 _ _ rfl
        have a1 := hA 1 _ _ rfl
        clear hA
        repeat' first | refine rnY ?_ | (first | refine ZCalls.to (hc) ?_ | refine ZCalls.tf (hc) ?_) | (first | refine ZCalls.to (hcn) ?_ | refine ZCalls.tf (hcn) ?_) | with_reducible refine And.intro (fun hc => ?_) (fun hc => ?_) | fail
        exact hQ.out _ _ ((OwnB.tup (lo := H.size) (hi := H.size) (l := [.agg #[.slice none 0 0, I 0], I 5]) (l' := [agV [] 0, I 5]) (.cflats (ag_mk (OwnB.nilr 1)) (fun x hx => by simp at hx; subst hx; rfl))).out) (by exact exY)
    · have h1b : ((c.length : Int) == (T.length : Int)) = false := by rw [beq_eq_false_iff_ne]; omega
      rw [if_neg (fun q => h1 q.1)]
      clear h1
      refine OCalls.body Try.func44 rfl Try.ntmps44 (rs := [.cell 4 47, .tmp 5]) rfl (by simp) rfl fun H Q hQ A hA => ?_
      have a0 := hA 0 _ _ rfl
      have a1 := hA 1 _ _ rfl
      clear hA
      repeat' first | refine rnY ?_ | (first | refine ZCalls.to (hc) ?_ | refine ZCalls.tf (hc) ?_) | with_reducible refine And.intro (fun hc => ?_) (fun hc => ?_) | fail
      exact hQ.out _ _ ((OwnB.tup (lo := H.size) (hi := H.size) (l := [.agg #[.slice none 0 0, I 0], I 5]) (l' := [agV [] 0, I 5]) (.cflats (ag_mk (OwnB.nilr 1)) (fun x hx => by simp at hx; subst hx; rfl))).out) (by exact exY)
  · rw [if_neg h]
    have hcb : (codeN T == 0) = false := by rw [beq_eq_false_iff_ne]; exact h
    generalize codeN T = k at *
    refine OCalls.body Try.func44 rfl Try.ntmps44 (rs := [.cell 4 47, .tmp 5]) rfl (by simp) rfl fun H Q hQ A hA => ?_
    have a0 := hA 0 _ _ rfl
    have a1 := hA 1 _ _ rfl
    clear hA
    repeat' first | refine rnY ?_ | (first | refine ZCalls.to (hc) ?_ | refine ZCalls.tf (hc) ?_) | with_reducible refine And.intro (fun hc => ?_) (fun hc => ?_) | fail
    exact hQ.out _ _ ((OwnB.tup (lo := H.size) (hi := H.size) (l := [.agg #[.slice none 0 0, I 0], I k]) (l' := [agV [] 0, I k]) (.cflats (ag_mk (OwnB.nilr 1)) (fun x hx => by simp at hx; subst hx; rfl))).out) (by exact exY)
end Go.Proofs.Ytmoknllbpjpkmaa.Zed
