/- A part of the walk: what functions of the program do, over an abstract heap. -/
import Derived.Test.YtmoknllbpjpkmaaW21
namespace Go.Proofs.Ytmoknllbpjpkmaa.Zed
open Go TP
set_option linter.unusedVariables false
set_option linter.unusedSimpArgs false
set_option maxRecDepth 20000
namespace tfW22
theorem tf : (Try.prog.underlying 101 = some (.slice 139)) ∧ (el Try.prog 101 = some (none, 2)) ∧ (Try.prog.underlying 102 = some (.slice 107)) ∧ (el Try.prog 102 = some (none, 2)) ∧ (tk Try.prog 2 = some none) ∧ (tk Try.prog 107 = some (some 2)) ∧ (tk Try.prog 139 = some (some 2)) ∧ (cz Try.prog 107 = some 2) ∧ (bz Try.prog 107 = some 16) ∧ (cz Try.prog 139 = some 2) ∧ (bz Try.prog 139 = some 16) ∧ (zr Try.prog 107 = some (.agg #[.int .i64 0, .int .i64 0])) ∧ (zr Try.prog 139 = some (.agg #[.int .i64 0, .int .i64 0])) ∧ (fo Try.prog 107 0 = some (0, none)) ∧ (fo Try.prog 107 1 = some (1, none)) ∧ (fo Try.prog 139 0 = some (0, none)) ∧ (fo Try.prog 139 1 = some (1, none)) := by
  refine ⟨?_, ?_, ?_, ?_, ?_, ?_, ?_, ?_, ?_, ?_, ?_, ?_, ?_, ?_, ?_, ?_, ?_⟩ <;> kernel_rfl
end tfW22
open tfW22

/-- What is left of a room of r when n more things are taken: -1, nothing. -/
def sz1 (r : Int) (n : Nat) : Int := if r - n < 0 then -1 else r - n
def szT (T : List (List (Int × Int))) (r : Int) : Nat → Int
  | 0 => r
  | j + 1 => sz1 (szT T r j) (T.getD j []).length
theorem szFaceS_z (n es : Nat) (cs : List Value) (r : Int) (hr0 : 0 ≤ r) (hr : r ≤ 1048576) (hn : n ≤ 9223372036854775807) : ZCalls Try.prog 99 [FZ es n cs, I r] (I (sz1 r n)) := by
  unfold sz1
  by_cases h : r - n < 0
  · rw [if_pos h]
    refine ZCalls.body Try.func99 rfl Try.ntmps99 (rs := [.tmp 4]) rfl (by simp) rfl fun H Q hQ A hA => ?_
    have a0 := hA 0 _ _ rfl
    have a1 := hA 1 _ _ rfl
    clear hA
    repeat' first | refine rnY ?_ | with_reducible refine And.intro (fun hc => ?_) (fun hc => ?_) | fail
    exact hQ.out _ _ (fv) (by exact exY)
  · rw [if_neg h]
    refine ZCalls.body Try.func99 rfl Try.ntmps99 (rs := [.tmp 4]) rfl (by simp) rfl fun H Q hQ A hA => ?_
    have a0 := hA 0 _ _ rfl
    have a1 := hA 1 _ _ rfl
    clear hA
    repeat' first | refine rnY ?_ | with_reducible refine And.intro (fun hc => ?_) (fun hc => ?_) | fail
    exact hQ.out _ _ (fv) (by exact exY)
theorem toFace_z (t p : Int) : ZCalls Try.prog 139 [.agg #[I t, I p]] (.agg #[I t, I p]) := by
  refine ZCalls.body Try.func139 rfl Try.ntmps139 (rs := [.cell 2 107]) rfl (by simp) rfl fun H Q hQ A hA => ?_
  have a0 := hA 0 _ _ rfl
  clear hA
  repeat' first | refine rnY ?_ | with_reducible refine And.intro (fun hc => ?_) (fun hc => ?_) | fail
  exact hQ.out _ _ (.cl (Cl.agg (l := [_, _]) (Cl.cons (Cl.int _ _) (Cl.cons (Cl.int _ _) Cl.nil)))) (by exact exY)
theorem eqFace_z (t p t' p' : Int) : ZCalls Try.prog 143 [.agg #[I t, I p], .agg #[I t', I p']] (B (t == t' && p == p')) := by
  cases h1 : (t == t')
  · refine ZCalls.body Try.func143 rfl Try.ntmps143 (rs := [.tmp 4]) rfl (by simp) rfl fun H Q hQ A hA => ?_
    have a0 := hA 0 _ _ rfl
    have a1 := hA 1 _ _ rfl
    clear hA
    repeat' first | refine rnY ?_ | with_reducible refine And.intro (fun hc => ?_) (fun hc => ?_) | fail
    exact hQ.out _ _ (fv) (by exact exY)
  · cases h2 : (p == p')
    · refine ZCalls.body Try.func143 rfl Try.ntmps143 (rs := [.tmp 4]) rfl (by simp) rfl fun H Q hQ A hA => ?_
      have a0 := hA 0 _ _ rfl
      have a1 := hA 1 _ _ rfl
      clear hA
      repeat' first | refine rnY ?_ | with_reducible refine And.intro (fun hc => ?_) (fun hc => ?_) | fail
      exact hQ.out _ _ (fv) (by exact exY)
    · refine ZCalls.body Try.func143 rfl Try.ntmps143 (rs := [.tmp 4]) rfl (by simp) rfl fun H Q hQ A hA => ?_
      have a0 := hA 0 _ _ rfl
      have a1 := hA 1 _ _ rfl
      clear hA
      repeat' first | refine rnY ?_ | with_reducible refine And.intro (fun hc => ?_) (fun hc => ?_) | fail
      exact hQ.out _ _ (fv) (by exact exY)
theorem FinV.pairs {lo : Nat} {H : Heap} {g c n : Nat} {l : List (Int × Int)} (hg : lo ≤ g) (hn : l.length = n) (hget : H.get g = .cells (p2 l) 2 false) : FinV lo H (.slice (some ⟨g, 0, none⟩) n c) (FZ 2 n (p2 l)) :=
  .own hg hget (by have := p2_len l; omega) (by have := p2_len l; omega) (fun i x r hx hr => by
    rw [Nat.zero_add] at hx
    cases hx.symm.trans hr
    exact .cl (Cl.p2 l _ (List.mem_of_getElem? hx)))
theorem p2_set (L : List (Int × Int)) (j : Nat) (t q : Int) (h : j < L.length) : (p2 L).take (j * 2) ++ [I t, I q] ++ (p2 L).drop (j * 2 + 2) = p2 (L.set j (t, q)) := by
  induction L generalizing j with
  | nil => simp at h
  | cons x L ih =>
    have e : ∀ (y : Int × Int) (M : List (Int × Int)), p2 (y :: M) = I y.1 :: I y.2 :: p2 M := fun y M => by simp [p2]
    cases j with
    | zero => rw [e, List.set_cons_zero, e]; simp
    | succ j =>
      rw [e, List.set_cons_succ, e, ← ih j (by simpa using h), show (j + 1) * 2 = j * 2 + 1 + 1 by omega]
      simp
theorem zz_p2 : ∀ n : Nat, zz (.int .i64 0) (.int .i64 0) (n * 2) = p2 (List.replicate n (0, 0)) := by
  intro n
  apply List.ext_getElem?
  intro i
  have hl := p2_len (List.replicate n ((0 : Int), (0 : Int)))
  rw [List.length_replicate] at hl
  by_cases hi : i < n * 2
  · rw [zz_get _ _ _ _ hi]
    have h2 : i / 2 < n := by omega
    rcases Nat.mod_two_eq_zero_or_one i with h | h
    · have := p2_get0 (l := List.replicate n ((0 : Int), (0 : Int))) (i := i / 2) (by rw [List.length_replicate]; exact h2)
      rw [show i / 2 * 2 = i by omega] at this
      rw [this]; simp [h2]
    · have := p2_get1 (l := List.replicate n ((0 : Int), (0 : Int))) (i := i / 2) (by rw [List.length_replicate]; exact h2)
      rw [show i / 2 * 2 + 1 = i by omega] at this
      rw [this]; simp [h2]
  · rw [List.getElem?_eq_none (by rw [zz_len]; omega), List.getElem?_eq_none (by omega)]
set_option maxHeartbeats 1000000 in
theorem toFaceS_o {row : List (Int × Int)} (hS : row.length ≤ 1048576) : OCalls Try.prog 102 [zP row] (zP row) := by
  refine OCalls.body Try.func102 rfl Try.ntmps102 (rs := [.tmp 2]) rfl (by simp) rfl fun H Q hQ A hA => ?_
  have a0 := hA 0 _ _ rfl
  clear hA
  repeat' first | refine rnY ?_ | with_reducible refine And.intro (fun hc => ?_) (fun hc => ?_) | fail
  refine AWp.cut (fun Ac hAc => ?_)
  have c0 := gtY (t := 0) hAc
  have c3 := gtY (t := 3) hAc
  have c4 := gtY (t := 4) hAc
  clear a0
  rw [zz_p2]
  refine AWp.loop (fun A' H' => ∃ (j : Nat) (L : List (Int × Int)), Ag [8, 9, 10, 11, 12, 13, 14, 15, 16, 17, 18, 19, 20, 21] A' (put Ac (some 4) (I j)) ∧ j ≤ row.length ∧ L.length = row.length ∧ L.take j = row.take j ∧ H' = H.push (.cells (p2 L) 2 false)) (fun A' _ => row.length - (intV (A' 4)).toNat) ?_ ?_
  · exact ⟨0, List.replicate row.length (0, 0), agY, by omega, List.length_replicate .., rfl, rfl⟩
  · rintro A1 H1 ⟨j, L, hA, hj, hLl, hLt, rfl⟩
    have d0 := gdY (t := 0) hA
    have d3 := gdY (t := 3) hA
    have d4 := gdY (t := 4) hA
    by_cases hlt : j < row.length
    · obtain ⟨⟨t, q⟩, hx⟩ : ∃ x, row.getD j (0, 0) = x := ⟨_, rfl⟩
      have hset := p2_set L j t q (by omega)
      have hpl := p2_len L
      have hnew : (L.set j (t, q)).take (j + 1) = row.take (j + 1) := by
        rw [List.take_succ_eq_append_getElem (l := L.set j (t, q)) (by rw [List.length_set]; omega), List.getElem_set_self, List.take_set, List.set_eq_of_length_le (by rw [List.length_take]; omega), hLt, List.take_succ_eq_append_getElem hlt]
        congr 2
        rw [← hx]; simp [hlt]
      repeat' first | refine rnY ?_ | (first | refine ZCalls.to (toFace_z t q) ?_ | refine ZCalls.tf (toFace_z t q) ?_) | with_reducible refine And.intro (fun hc => ?_) (fun hc => ?_) | fail
      exact ⟨⟨j + 1, L.set j (t, q), agY, by omega, by rw [List.length_set]; exact hLl, hnew, by first | rfl | (rw [← hset]; first | rfl | simp)⟩, by exact ivY⟩
    · obtain rfl : j = row.length := by omega
      rw [List.take_of_length_le (by omega), List.take_length] at hLt
      subst hLt
      repeat' first | refine rnY ?_ | with_reducible refine And.intro (fun hc => ?_) (fun hc => ?_) | fail
      exact hQ.out _ _ ((OwnB.pairs (lo := H.size) (Nat.le_refl _) (Nat.lt_succ_self _) rfl (get_push_eq rfl)).out) (by exact exY)
theorem toFaceS_z {row : List (Int × Int)} (hS : row.length ≤ 1048576) : ZCalls Try.prog 102 [zP row] (zP row) := (toFaceS_o hS).toZ (Cl.cons (Cl.zP _) Cl.nil)
end Go.Proofs.Ytmoknllbpjpkmaa.Zed
