/- A part of the walk: what functions of the program do, over an abstract heap. -/
import Derived.Test.YtmoknllbpjpkmaaW15
namespace Go.Proofs.Ytmoknllbpjpkmaa.Zed
open Go TP
set_option linter.unusedVariables false
set_option linter.unusedSimpArgs false
set_option maxRecDepth 20000
namespace tfW16
theorem tf : (Try.prog.underlying 25 = some (.slice 2)) ∧ (el Try.prog 25 = some (none, 1)) ∧ (Try.prog.underlying 51 = some (.slice 25)) ∧ (el Try.prog 51 = some (none, 1)) ∧ (tk Try.prog 2 = some none) ∧ (tk Try.prog 25 = some none) ∧ (cz Try.prog 2 = some 1) ∧ (bz Try.prog 2 = some 8) ∧ (cz Try.prog 25 = some 1) ∧ (bz Try.prog 25 = some 24) ∧ (zr Try.prog 2 = some (.int .i64 0)) ∧ (zr Try.prog 25 = some (.slice none 0 0)) := by
  refine ⟨?_, ?_, ?_, ?_, ?_, ?_, ?_, ?_, ?_, ?_, ?_, ?_⟩ <;> kernel_rfl
end tfW16
open tfW16

def numTo (m : List Int) : Nat → List Int
  | 0 => List.replicate m.length 0
  | j + 1 => if m.getD j 0 = j then (numTo m j).set j (rank m j) else numTo m j
theorem numTo_len (m : List Int) (j : Nat) : (numTo m j).length = m.length := by
  induction j with
  | zero => simp [numTo]
  | succ j ih => unfold numTo; split <;> simp [ih]
theorem rank_succ (m : List Int) (j : Nat) : rank m (j + 1) = if m.getD j 0 = j then rank m j + 1 else rank m j := by
  unfold rank; rw [roots_succ]; split <;> simp
theorem rank_le (m : List Int) (j : Nat) : rank m j ≤ j := by
  induction j with
  | zero => simp [rank, roots]
  | succ j ih => rw [rank_succ]; split <;> omega
theorem numTo_get (m : List Int) : ∀ j, j ≤ m.length → ∀ x, x < j → m.getD x 0 = x → (numTo m j).getD x 0 = rank m x
  | 0, _, x, h, _ => by omega
  | j + 1, hj, x, h, hx => by
    unfold numTo
    by_cases e : x = j
    · subst e
      rw [if_pos hx, List.getD_eq_getElem?_getD, List.getElem?_set_self (by rw [numTo_len]; omega)]
      rfl
    · have := numTo_get m j (by omega) x (by omega) hx
      split
      · rw [List.getD_eq_getElem?_getD, List.getElem?_set_ne (by omega), ← List.getD_eq_getElem?_getD, this]
      · exact this
theorem numbers_len (m : List Int) : (numbers m).length = m.length := by simp [numbers]
theorem numbers_get (m : List Int) (k : Nat) (h : k < m.length) : (numbers m).getD k 0 = rank m (m.getD k 0).toNat := by simp [numbers, h]
def chunkR (w q : Nat) (l : List Int) : List (List Int) := (List.range q).map fun a => (l.drop (a * w)).take w
theorem chunkR_len (w q : Nat) (l : List Int) : (chunkR w q l).length = q := by simp [chunkR]
theorem chunkR_get (w q : Nat) (l : List Int) (a : Nat) (h : a < q) : (chunkR w q l).getD a [] = (l.drop (a * w)).take w := by simp [chunkR, h]
theorem drop_take_snoc (l : List Int) (i j : Nat) (h : i + j < l.length) : (l.drop i).take (j + 1) = (l.drop i).take j ++ [l.getD (i + j) 0] := by
  rw [List.take_succ_eq_append_getElem (by rw [List.length_drop]; omega)]
  simp [h]
theorem chunkR_succ (w q : Nat) (l : List Int) : chunkR w (q + 1) l = chunkR w q l ++ [(l.drop (q * w)).take w] := by
  unfold chunkR; rw [List.range_succ, List.map_append]; rfl
/-- Rows of w numbers each. -/
abbrev rowsZ (w : Nat) (R : List (List Int)) : List Value := R.map fun r => FZ 1 w (ints r)
theorem rowsZ_len (w : Nat) (R : List (List Int)) : (rowsZ w R).length = R.length := List.length_map _
set_option maxHeartbeats 4000000 in
theorem l08Rows_z {m : List Int} {w q N : Nat} (hC : Canon m) (hw0 : 0 < w) (hw6 : w ≤ 6) (hlm : m.length = N) (hN : q * w = N) (hl : N ≤ 1000) :
    ZCalls Try.prog 158 [FZ 1 N (ints m), I w] (.tuple #[FZ 1 q (rowsZ w (chunkR w q (numbers m))), I (rank m N)]) := by
  have hrl : ∀ j, rank m j ≤ j := rank_le m
  have hn0 : List.replicate N (0 : Int) = numTo m 0 := by rw [← hlm]; rfl
  refine ZCalls.body Try.func158 rfl Try.ntmps158 (rs := [.tmp 4, .tmp 5]) rfl (by simp) rfl fun H Q hQ A hA => ?_
  have a0 := hA 0 _ _ rfl
  have a1 := hA 1 _ _ rfl
  clear hA
  have zf0 := @rep_ints
  have zf1 := @zero1
  repeat' first | refine rnY ?_ | with_reducible refine And.intro (fun hc => ?_) (fun hc => ?_) | fail
  refine AWp.growE (t := 8) 1 (by decide) (by exact ivY) ?_
  refine AWp.cut (fun Ac hAc => ?_)
  have c0 := gtY (t := 0) hAc
  have c1 := gtY (t := 1) hAc
  have c6 := gtY (t := 6) hAc
  have c8 := gtY (t := 8) hAc
  have c7 := gtY (t := 7) hAc
  have c9 := gtY (t := 9) hAc
  clear a0 a1
  refine AWp.loop (fun A' H' => ∃ (j : Nat), Ag [17, 18, 19, 20, 21, 22, 23, 24, 25, 26, 27, 28, 29, 30, 31, 32, 33, 34] A' (put (put Ac (some 7) (I (rank m j))) (some 9) (I j)) ∧ j ≤ N ∧ H' = (((H.push (.cells (ints (numTo m j)) 1 false)).push (.cells [] 1 false)).push (.tok 0 1))) (fun A' _ => N - (intV (A' 9)).toNat) ?_ ?_
  · have e0 : rank m 0 = 0 := rfl
    exact ⟨0, agY, by omega, by first | exact ivY | rw [← hn0]⟩
  · rintro A1 H1 ⟨j, hA, hj, rfl⟩
    have d0 := gdY (t := 0) hA
    have d1 := gdY (t := 1) hA
    have d6 := gdY (t := 6) hA
    have d7 := gdY (t := 7) hA
    have d8 := gdY (t := 8) hA
    have d9 := gdY (t := 9) hA
    by_cases hlt : j < N
    · have hrj := hrl j
      have hrs := rank_succ m j
      have hnl := (numTo_len m j).trans hlm
      have hst : numTo m (j + 1) = if m.getD j 0 = j then (numTo m j).set j (rank m j) else numTo m j := rfl
      generalize numTo m j = nt at *
      generalize rank m j = r at *
      clear hrl hn0
      by_cases hr : m.getD j 0 = j
      · have hrb : (m.getD j 0 == (j : Int)) = true := by rw [beq_iff_eq]; exact hr
        rw [if_pos hr] at hrs hst
        clear hr
        repeat' first | refine rnY ?_ | with_reducible refine And.intro (fun hc => ?_) (fun hc => ?_) | fail
        exact ⟨⟨j + 1, agY, by omega, by rw [hst]⟩, by exact ivY⟩
      · have hrb : (m.getD j 0 == (j : Int)) = false := by rw [beq_eq_false_iff_ne]; exact hr
        rw [if_neg hr] at hrs hst
        clear hr
        repeat' first | refine rnY ?_ | with_reducible refine And.intro (fun hc => ?_) (fun hc => ?_) | fail
        exact ⟨⟨j + 1, agY, by omega, by rw [hst]⟩, by exact ivY⟩
    · obtain rfl : j = N := by omega
      have hnl := (numTo_len m j).trans hlm
      have hng := numTo_get m j (by omega)
      have hbl := (numbers_len m).trans hlm
      have hnb := numbers_get m
      generalize numTo m j = nt at *
      generalize numbers m = nb at *
      have hrN := hrl j
      generalize hrk : rank m j = rk at *
      clear hn0
      refine AWp.freezeI (t := 6) (g := H.size) nt j (by exact ivY) (by rw [get_push_lt (by rw [Heap.size_push, Heap.size_push]; omega), get_push_lt (by rw [Heap.size_push]; omega), get_push_eq rfl]) rfl rfl hnl ?_
      repeat' first | refine rnY ?_ | with_reducible refine And.intro (fun hc => ?_) (fun hc => ?_) | fail
      refine AWp.cut (fun Ae hAe => ?_)
      have e0 := gtY (t := 0) hAe
      have e1 := gtY (t := 1) hAe
      have e6 := gtY (t := 6) hAe
      have e7 := gtY (t := 7) hAe
      have e8 := gtY (t := 8) hAe
      have e10 := gtY (t := 10) hAe
      refine AWp.loop (fun A' H' => ∃ (a : Nat), Ag [11, 12, 35, 36, 37, 38, 39, 40, 41, 42, 43, 44, 45, 46, 47, 48, 49, 50, 51, 52, 53, 54, 55, 56, 57, 58, 59, 60, 61, 62, 63, 64] A' (put (put Ae (some 8) (GZ (H.size + 1 + 1) 1 a (rowsZ w (chunkR w a nb)))) (some 10) (I (a * w : Nat))) ∧ a ≤ q ∧ Ext H H' ∧ H'.get (H.size + 1 + 1) = .tok a 1 ∧ H.size + 1 + 1 < H'.size) (fun A' _ => j - (intV (A' 10)).toNat) ?_ ?_
      · have e0 : chunkR w 0 nb = [] := rfl
        have e1 : 0 * w = 0 := Nat.zero_mul w
        exact ⟨0, agY, by omega, by exact exY, by exact ivY, by exact ivY⟩
      · rintro A2 H2 ⟨a, hB, ha, hx, hg, hs⟩
        have f0 := gdY (t := 0) hB
        have f1 := gdY (t := 1) hB
        have f6 := gdY (t := 6) hB
        have f7 := gdY (t := 7) hB
        have f8 := gdY (t := 8) hB
        have f10 := gdY (t := 10) hB
        obtain ⟨i, hi⟩ : ∃ i, a * w = i := ⟨_, rfl⟩
        rw [hi] at f10
        by_cases hlt : a < q
        · have hiw : i + w ≤ j := by
            have := Nat.mul_le_mul_right w (show a + 1 ≤ q by omega)
            rw [Nat.succ_mul] at this; omega
          have hi' : (a + 1) * w = i + w := by rw [Nat.succ_mul]; omega
          have haB : a ≤ i := by rw [← hi]; exact Nat.le_mul_of_pos_right a hw0
          have hcs := chunkR_succ w a nb
          have hcl := chunkR_len w a nb
          rw [hi] at hcs
          generalize chunkR w a nb = R at *
          repeat' first | refine rnY ?_ | with_reducible refine And.intro (fun hc => ?_) (fun hc => ?_) | fail
          refine AWp.growE (t := 11) 1 (by decide) (by exact ivY) ?_
          refine AWp.cut (fun As hAs => ?_)
          have s0 := gtY (t := 0) hAs
          have s1 := gtY (t := 1) hAs
          have s6 := gtY (t := 6) hAs
          have s7 := gtY (t := 7) hAs
          have s8 := gtY (t := 8) hAs
          have s10 := gtY (t := 10) hAs
          have s11 := gtY (t := 11) hAs
          have s12 := gtY (t := 12) hAs
          have hx2s := hx.size
          refine AWp.loop (fun A' H' => ∃ (k : Nat), Ag [44, 45, 46, 47, 48, 49, 50, 51, 52, 53, 54, 55, 56, 57, 58, 59, 60] A' (put (put As (some 11) (GZ (H2.size + 1) 1 k (ints ((nb.drop i).take k)))) (some 12) (I (i + k : Nat))) ∧ k ≤ w ∧ Ext ((H2.push (.cells [] 1 false)).push (.tok k 1)) H') (fun A' _ => i + w - (intV (A' 12)).toNat) ?_ ?_
          · have e0 : (nb.drop i).take 0 = [] := rfl
            exact ⟨0, agY, by omega, by exact exY⟩
          · rintro A3 H3 ⟨k, hD, hk, hy⟩
            have y0 := gdY (t := 0) hD
            have y1 := gdY (t := 1) hD
            have y6 := gdY (t := 6) hD
            have y7 := gdY (t := 7) hD
            have y8 := gdY (t := 8) hD
            have y10 := gdY (t := 10) hD
            have y11 := gdY (t := 11) hD
            have y12 := gdY (t := 12) hD
            have hyg := hy.get; have hys := hy.size; (try simp only [nx] at hys)
            have hgt := (hyg (H.size + 1 + 1) (by simp only [nx]; omega))
            rw [get_push_lt (by rw [Heap.size_push]; omega), get_push_lt hs, hg] at hgt
            by_cases hkw : k < w
            · obtain ⟨c1, c2, c3⟩ := hC (i + k) (by omega)
              obtain ⟨z, hz⟩ : ∃ z : Nat, m.getD (i + k) 0 = (z : Int) := ⟨(m.getD (i + k) 0).toNat, by omega⟩
              rw [hz, Int.toNat_natCast] at c3
              have hv := hng z (by omega) c3
              have hvn := hnb (i + k) (by omega)
              rw [hz, Int.toNat_natCast] at hvn
              have hsn := drop_take_snoc nb i k (by omega)
              rw [hvn] at hsn
              rw [hz] at c2
              have hrz := hrl z
              have hlen : ((nb.drop i).take k).length = k := by rw [List.length_take, List.length_drop]; omega
              generalize rank m z = r at hv hsn hrz
              generalize (nb.drop i).take k = row at *
              clear hng hnb hrl hvn c1 c3 hC
              repeat' first | refine rnY ?_ | with_reducible refine And.intro (fun hc => ?_) (fun hc => ?_) | fail
              exact ⟨⟨k + 1, agY, by omega, by exact exY⟩, by exact ivY⟩
            · obtain rfl : k = w := by omega
              have hlen : ((nb.drop i).take k).length = k := by rw [List.length_take, List.length_drop]; omega
              have hrw : rowsZ k (chunkR k (a + 1) nb) = rowsZ k R ++ [FZ 1 k (ints ((nb.drop i).take k))] := by rw [hcs]; exact List.map_append
              have hrl2 := rowsZ_len k R
              rw [hcl] at hrl2
              clear hng hnb hrl hC hcs
              generalize (nb.drop i).take k = row at *
              repeat' first | refine rnY ?_ | with_reducible refine And.intro (fun hc => ?_) (fun hc => ?_) | fail
              exact ⟨⟨a + 1, agY, by omega, by exact exY, by exact ivY, by exact ivY⟩, by exact ivY⟩
        · obtain rfl : a = q := by omega
          repeat' first | refine rnY ?_ | with_reducible refine And.intro (fun hc => ?_) (fun hc => ?_) | fail
          refine hQ.out _ _ (FinV.tuple (l := [GZ (H.size + 1 + 1) 1 a (rowsZ w (chunkR w a nb)), I rk]) (l' := [FZ 1 a (rowsZ w (chunkR w a nb)), I rk]) rfl fun i x r hx hr => ?_) (by exact exY)
          match i, hx, hr with
          | 0, hx, hr => cases hx; cases hr; exact .gz (Cl.map fun r => Cl.fz (Cl.ints r))
          | 1, hx, hr => cases hx; cases hr; exact .cl (Cl.int _ _)
end Go.Proofs.Ytmoknllbpjpkmaa.Zed
