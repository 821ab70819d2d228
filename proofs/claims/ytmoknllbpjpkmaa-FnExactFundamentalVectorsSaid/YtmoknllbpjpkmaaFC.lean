/- A part of the walk: what functions of the program do, over an abstract heap. -/
import Derived.Test.YtmoknllbpjpkmaaBA
import Derived.Test.YtmoknllbpjpkmaaX11
import Derived.Test.YtmoknllbpjpkmaaW24
import Derived.Test.YtmoknllbpjpkmaaX1
namespace Go.Proofs.Ytmoknllbpjpkmaa.Zed
open Go TP
set_option linter.unusedVariables false
set_option linter.unusedSimpArgs false
set_option maxRecDepth 20000
namespace tfY10
theorem tf : (Try.prog.underlying 25 = some (.slice 2)) ∧ (el Try.prog 25 = some (none, 1)) ∧ (tk Try.prog 2 = some none) ∧ (tk Try.prog 31 = some (some 1)) ∧ (tk Try.prog 121 = some (some 3)) ∧ (cz Try.prog 2 = some 1) ∧ (bz Try.prog 2 = some 8) ∧ (zr Try.prog 2 = some (.int .i64 0)) ∧ (zr Try.prog 121 = some (.agg #[.int .i64 0, .int .i64 0, .slice none 0 0])) ∧ (fo Try.prog 121 0 = some (0, none)) := by
  refine ⟨?_, ?_, ?_, ?_, ?_, ?_, ?_, ?_, ?_, ?_⟩ <;> kernel_rfl
end tfY10
open tfY10
theorem solvesPT_z {T : List (List (Int × Int))} (h6 : T.length ≤ 6) {u : List Int} (hu : u.length = 7 * T.length) (hb : ∀ j, 0 ≤ u.getD j 0 ∧ u.getD j 0 ≤ 1000) :
    ZCalls Try.prog 119 [mxV (mmR T).length (7 * T.length) (mmR T).flatten, zI u] (B (svM (mmR T) (7 * T.length) u)) := by
  have hrows : ∀ r, r < (mmR T).length → rowN (mmR T).flatten (7 * T.length) r = (mmR T).getD r [] := fun r hr => flat_row (mmR_rows T) r hr
  have hml := mmR_len T
  have hsol := solves_z (R := (mmR T).length) (C := 7 * T.length) (L := (mmR T).flatten) (w := u) (A := 4) (B' := 1000) (flat_len (mmR_rows T)) (by omega) (by omega) (by omega) (by omega) (by omega) (by omega)
    (fun r hr j => by
      rw [hrows r hr]
      have hin : (mmR T).getD r [] ∈ mmR T := by simp [hr]
      exact mTs_bd T.length T T.length _ hin j)
    (fun j => by have := hb j; omega)
  have hdec : decide (∀ r, r < (mmR T).length → dotL (rowN (mmR T).flatten (7 * T.length) r) u (7 * T.length) = 0) = svM (mmR T) (7 * T.length) u := by
    unfold svM
    congr 1
    exact propext ⟨fun h r hr => by have := h r hr; rw [hrows r hr] at this; exact this, fun h r hr => by rw [hrows r hr]; exact h r hr⟩
  rw [hdec] at hsol
  have e7 : (((7 * T.length : Nat)) : Int) = 7 * (T.length : Int) := by omega
  rw [e7] at hsol
  exact hsol
set_option maxHeartbeats 8000000 in
theorem parts_g {T : List (List (Int × Int))} (hT : IsTri T) (h6 : T.length ≤ 6) {v : List Int} (hv : v.length = 7 * T.length) (hb : ∀ j, 0 ≤ v.getD j 0 ∧ v.getD j 0 ≤ 1000) (F : FuncId) (env : Value) {H : Heap} (J : Nat → Nat → Heap → Prop) (Jx : Nat → Heap → Prop)
    (hkeep : ∀ g k H1 H2, J g k H1 → H1.size ≤ H2.size → (∀ b, b < H1.size → b ≠ g → H2.get b = H1.get b) → J g k H2)
    (h0 : ∀ g H1, Ext H H1 → H.size ≤ g → g < H1.size → J g 0 H1)
    (visit : ∀ H1 g k u, (PT T v)[k]? = some u → J g k H1 → H.size ≤ g → g < H1.size → H1.get g = .cells (ints u) 1 false →
      ACalls Try.prog F [.slice (some ⟨g, 0, none⟩) v.length (v.length + 1), env] H1 fun r H2 => ∃ b, r = B b ∧ H1.size ≤ H2.size ∧ (∀ x, H.size ≤ x → x ≤ g → H2.get x = H1.get x) ∧ ((b = true ∧ J g (k + 1) H2) ∨ (b = false ∧ Jx k H2))) :
    ACalls Try.prog 77 [zT T, zI v, .func (.func F) #[] #[env]] H fun r H' => r = undef ∧ ((∃ g, J g (PT T v).length H') ∨ ∃ k, Jx k H') := by
  have hmm := matchingMatrix_z hT.fine
  have hS := fun {u : List Int} (hu : LeL u v) => solvesPT_z h6 (hu.1.trans hv) (hu.bd fun j => (hb j).2)
  have hnn := nonneg_mem fun j => (hb j).1
  have hlk := fun n u => (Lnk.get (allU_lnk v hnn) (n := n) (a := u))
  have hLe : ∀ n u, (allU v)[n]? = some u → LeL u v := fun n u h => (mem_allU v u hnn).1 (List.mem_of_getElem? h)
  have hhd := allU_head v
  rw [List.head?_eq_getElem?] at hhd
  have hpt : PT T v = (allU v).filter (svM (mmR T) (7 * T.length)) := rfl
  rw [hpt] at visit ⊢
  have hvl : v.length ≤ 42 := by omega
  generalize svM (mmR T) (7 * T.length) = sv at *
  generalize allU v = U at *
  generalize (mmR T).flatten = L at *
  generalize ((mmR T).length : Int) = R at *
  generalize (7 * (T.length : Int)) = C at *
  clear hT hpt hnn hv
  obtain ⟨z0, hz0⟩ : ∃ z0, List.replicate v.length (0 : Int) = z0 := ⟨_, rfl⟩
  rw [hz0] at hhd
  refine ACalls.body Try.func77 rfl Try.ntmps77 (rs := []) rfl (by simp) rfl fun Q hQ A hA => ?_
  have a0 := hA 0 _ _ rfl
  have a1 := hA 1 _ _ rfl
  have a2 := hA 2 _ _ rfl
  clear hA
  have zf0 := @rep_ints
  have zf1 := @zero1
  repeat' first | refine rnY ?_ | (first | refine ZCalls.to (hmm) ?_ | refine ZCalls.tf (hmm) ?_) | with_reducible refine And.intro (fun hc => ?_) (fun hc => ?_) | fail
  refine AWp.cut (fun Ac hAc => ?_)
  have c1 := gtY (t := 1) hAc
  have c2 := gtY (t := 2) hAc
  have c6 := gtY (t := 6) hAc
  have c7 := gtY (t := 7) hAc
  clear a0 a1 a2 hmm hz0
  have ho0 : (U.take 0).filter sv = [] := rfl
  have hof : (U.take U.length).filter sv = U.filter sv := by rw [List.take_length]
  have hos : ∀ n u, U[n]? = some u → (U.take (n + 1)).filter sv = if sv u then (U.take n).filter sv ++ [u] else (U.take n).filter sv := fun n u h => by
    obtain ⟨h1, h2⟩ := List.getElem?_eq_some_iff.1 h
    rw [List.take_succ_eq_append_getElem h1, List.filter_append, h2]
    cases hs : sv u <;> simp [hs]
  have hkth : ∀ n u, U[n]? = some u → sv u = true → (U.filter sv)[((U.take n).filter sv).length]? = some u := fun n u h hs => by
    obtain ⟨h1, h2⟩ := List.getElem?_eq_some_iff.1 h
    have e : U.filter sv = (U.take n).filter sv ++ (U.drop n).filter sv := by rw [← List.filter_append, List.take_append_drop]
    rw [e, List.getElem?_append_right (Nat.le_refl _), Nat.sub_self, List.drop_eq_getElem_cons h1, h2, List.filter_cons_of_pos hs]
    rfl
  have hUp : 0 < U.length := (List.getElem?_eq_some_iff.1 hhd).1
  refine AWp.loopx (σ := Nat) (fun s A' H' => ∃ (n : Nat) (u : List Int), Ag [8, 14, 15, 16, 17, 18, 19, 20, 21, 22, 23, 24, 25, 26, 27, 28, 29, 30, 31, 32, 33, 34, 35, 36, 37, 38, 39, 40, 41, 42, 43, 44, 45, 46, 47, 48, 49, 50, 51] A' Ac ∧ s + n = U.length ∧ U[n]? = some u ∧ J (H.size + 1) ((U.take n).filter sv).length H' ∧ H'.get H.size = .cells [I R, I C, zI L] 1 false ∧ H'.get (H.size + 1) = .cells (ints u) 1 false ∧ H.size + 1 < H'.size) (fun s => s) (U.length) ?_ ?_
  · exact ⟨0, z0, agY, by omega, hhd, by rw [ho0]; exact h0 _ _ (by exact exY) (by omega) (by simp only [nx]; omega), by exact ivY, by exact ivY, by simp only [nx]; omega⟩
  · rintro s A1 H1 ⟨n, u, hA1, hsn, hu, hJ, hm, hg, hz⟩
    have d1 := gdY (t := 1) hA1
    have d2 := gdY (t := 2) hA1
    have d6 := gdY (t := 6) hA1
    have d7 := gdY (t := 7) hA1
    have hLu := hLe n u hu
    have hul := hLu.1
    have hS := hS hLu
    have hzu : zI u = FZ 1 v.length (ints u) := by unfold Zed.zI; rw [hul]
    rw [hzu] at hS
    have hlk := hlk n u hu
    have hos := hos n u hu
    have hkth := hkth n u hu
    have hvis := fun H2 hk => visit H2 (H.size + 1) ((U.take n).filter sv).length u hk
    have hnx := nx_ln u v hul
    have hnlt : n < U.length := (List.getElem?_eq_some_iff.1 hu).1
    have hfin : nxU u v = none → (U.take (n + 1)).filter sv = U.filter sv := fun h => by
      rw [h] at hlk
      have : U.length ≤ n + 1 := Nat.le_of_not_lt fun hc => by rw [List.getElem?_eq_getElem hc] at hlk; cases hlk
      rw [List.take_of_length_le this]
    have hOu : OwnB H.size H1.size H1 [.slice (some ⟨H.size + 1, 0, none⟩) v.length (v.length + 1)] [FZ 1 v.length (ints u)] := OwnB.ints (by omega) hz hul hg
    clear visit hLe h0 ho0
    cases hs : sv u
    case' false =>
      rw [hs] at hS hos
      rw [if_neg (by decide)] at hos
      clear hvis hkth
      rw [← hos] at hJ
      clear hos
      generalize hKe : (U.take (n + 1)).filter sv = K at *
      repeat' first | refine rnY ?_ | (refine (hS.lend rfl (.cl (Cl.mx R C L) (.ownB hOu .nil))).mono ?_; rintro r H3 ⟨rfl, he⟩; have hJ3 := hkeep _ _ _ _ hJ he.size (fun b hb _ => he.get b hb); have hm3 := (he.get _ (by omega)).trans hm; have hg3 := (he.get _ hz).trans hg; have hz3 : H.size + 1 < H3.size := Nat.lt_of_lt_of_le hz he.size; clear hJ hm hg hOu he) | with_reducible refine And.intro (fun hc => ?_) (fun hc => ?_) | fail
    case' true =>
      rw [hs] at hS hos
      rw [if_pos rfl] at hos
      have hvis := fun H2 => hvis H2 (hkth hs)
      clear hkth
      have hKl : ((U.take (n + 1)).filter sv).length = ((U.take n).filter sv).length + 1 := by rw [hos]; simp
      rw [← hKl] at hvis
      generalize ((U.take n).filter sv).length = kk at *
      clear hos hKl
      generalize hKe : (U.take (n + 1)).filter sv = K at *
      repeat' first | refine rnY ?_ | (refine (hS.lend rfl (.cl (Cl.mx R C L) (.ownB hOu .nil))).mono ?_; rintro r H2 ⟨rfl, he⟩; have hJ2 := hkeep _ _ _ _ hJ he.size (fun b hb _ => he.get b hb); have hm2 := (he.get _ (by omega)).trans hm; have hg2 := (he.get _ hz).trans hg; have hz2 : H.size + 1 < H2.size := Nat.lt_of_lt_of_le hz he.size; clear hJ hm hg hOu he) | (refine (hvis H2 hJ2 (by omega) hz2 hg2).mono ?_; rintro r H3 ⟨b, rfl, hzz3, hsame, ⟨rfl, hJ3⟩ | ⟨rfl, hJx⟩⟩; (have hm3 := (hsame _ (Nat.le_refl _) (by omega)).trans hm2; have hg3 := (hsame _ (by omega) (Nat.le_refl _)).trans hg2; have hz3 : H.size + 1 < H3.size := Nat.lt_of_lt_of_le hz2 hzz3; clear hJ2 hm2 hg2 hvis hsame)) | with_reducible refine And.intro (fun hc => ?_) (fun hc => ?_) | fail
      rotate_left
      · exact hQ.out _ _ ⟨rfl, .inr ⟨_, hJx⟩⟩
    all_goals
      refine AWp.cut (fun Ae hAe => ?_)
      have e1 := gtY (t := 1) hAe
      have e2 := gtY (t := 2) hAe
      have e6 := gtY (t := 6) hAe
      have e7 := gtY (t := 7) hAe
      have e8 := gtY (t := 8) hAe
      have hzA := zf_all u
      refine AWp.loop (fun A' H' => ∃ (k : Nat), Ag [26, 27, 28, 29, 30, 31, 32, 33, 34, 35, 36, 37, 38, 39, 40, 41, 42, 43] A' (put Ae (some 8) (I ((k : Int) - 1))) ∧ k ≤ u.length ∧ ln u v u.length = ln u v k ∧ J (H.size + 1) K.length H' ∧ H'.get H.size = .cells [I R, I C, zI L] 1 false ∧ H'.get (H.size + 1) = .cells (ints (zf u k)) 1 false ∧ H.size + 1 < H'.size) (fun A' _ => ((intV (A' 8)) + 1).toNat) ?_ ?_
      · exact ⟨u.length, by rw [hul]; exact agY, by omega, rfl, hJ3, hm3, by rw [hzA]; exact hg3, hz3⟩
      · clear hJ3 hm3 hg3 hz3 hzA
        rintro A3 H4 ⟨k, hA3, hk, hln, hJ4, hm4, hg4, hz4⟩
        have f1 := gdY (t := 1) hA3
        have f2 := gdY (t := 2) hA3
        have f6 := gdY (t := 6) hA3
        have f7 := gdY (t := 7) hA3
        have f8 := gdY (t := 8) hA3
        have hzl := zf_len u k
        by_cases hk0 : k = 0
        · subst hk0
          have hK := hfin (by rw [hnx, hln]; rfl)
          have hneg : decide (((0 : Nat) : Int) - 1 ≥ 0) = false := rfl
          clear hfin hnx hlk hul
          repeat' first | refine rnY ?_ | with_reducible refine And.intro (fun hc => ?_) (fun hc => ?_) | fail
          refine AWp.zreg [(0, none), (1, none), (2, none), (3, none), (4, none), (5, none), (6, none), (7, none), (8, none), (9, none), (10, none), (11, none), (12, none)] mixed (by kernel_rfl) ?_
          repeat' first | refine rzY ?_ | fail
          repeat' first | refine rnY ?_ | with_reducible refine And.intro (fun hc => ?_) (fun hc => ?_) | fail
          exact hQ.out _ _ ⟨rfl, .inl ⟨_, by rw [← hK]; exact hJ4⟩⟩
        · obtain ⟨i, rfl⟩ : ∃ i, k = i + 1 := ⟨k - 1, by omega⟩
          have hst : ln u v (i + 1) = if u.getD i 0 = v.getD i 0 then ln u v i else i + 1 := rfl
          have hzz := zf_zero u i (by omega)
          have hzg := zf_get u (i + 1) i (by omega)
          rw [if_pos (by omega)] at hzg
          have hi1 : ((i + 1 : Nat) : Int) - 1 = i := by omega
          have hpos : decide ((i : Int) ≥ 0) = true := decide_eq_true (by omega)
          by_cases he : u.getD i 0 = v.getD i 0
          · rw [if_pos he] at hst
            have heb : (u.getD i 0 == v.getD i 0) = true := by rw [beq_iff_eq]; exact he
            rw [hst] at hln
            have hJ5 := hkeep _ _ _ (H4.set (H.size + 1) (.cells (ints (zf u i)) 1 false)) hJ4 (Nat.le_refl _) (fun b _ hb => get_set_ne hb)
            clear he hst hfin hnx hlk
            repeat' first | refine rnY ?_ | with_reducible refine And.intro (fun hc => ?_) (fun hc => ?_) | fail
            refine AWp.zreg [(0, none), (1, none), (2, none), (3, none), (4, none), (5, none), (6, none), (7, none), (8, none), (9, none), (10, none), (11, none), (12, none)] mixed (by kernel_rfl) ?_
            repeat' first | refine rzY ?_ | fail
            repeat' first | refine rnY ?_ | with_reducible refine And.intro (fun hc => ?_) (fun hc => ?_) | fail
            exact ⟨⟨i, agY, by omega, hln, hJ5, by exact ivY, by rw [← hzz]; exact ivY, by exact ivY⟩, by exact ivY⟩
          · rw [if_neg he] at hst
            have heb : (u.getD i 0 == v.getD i 0) = false := by rw [beq_eq_false_iff_ne]; exact he
            rw [hst] at hln
            rw [hln] at hnx
            rw [if_neg (by omega), Nat.add_sub_cancel] at hnx
            rw [hnx] at hlk
            have hJ5 := hkeep _ _ _ (H4.set (H.size + 1) (.cells (ints ((zf u (i + 1)).set i (u.getD i 0 + 1))) 1 false)) hJ4 (Nat.le_refl _) (fun b _ hb => get_set_ne hb)
            have hbi := hb i
            have hui := (hLu.2 i (by omega))
            clear he hst hfin hnx hzz hln hb hLu
            repeat' first | refine rnY ?_ | with_reducible refine And.intro (fun hc => ?_) (fun hc => ?_) | fail
            refine AWp.zreg [(0, none), (1, none), (2, none), (3, none), (4, none), (5, none), (6, none), (7, none), (8, none), (9, none), (10, none), (11, none), (12, none)] mixed (by kernel_rfl) ?_
            repeat' first | refine rzY ?_ | fail
            repeat' first | refine rnY ?_ | with_reducible refine And.intro (fun hc => ?_) (fun hc => ?_) | fail
            exact ⟨s - 1, ⟨n + 1, (zf u (i + 1)).set i (u.getD i 0 + 1), agY, by omega, hlk.symm, by rw [hKe]; exact hJ5, by exact ivY, by exact ivY, by exact ivY⟩, by omega⟩
end Go.Proofs.Ytmoknllbpjpkmaa.Zed
namespace Go.Proofs.Ytmoknllbpjpkmaa.Zed
open Go TP
set_option linter.unusedVariables false
set_option linter.unusedSimpArgs false
set_option maxRecDepth 20000
namespace tfY11
theorem tf : (Try.prog.underlying 25 = some (.slice 2)) ∧ (el Try.prog 25 = some (none, 1)) ∧ (tk Try.prog 2 = some none) ∧ (tk Try.prog 25 = some none) ∧ (tk Try.prog 31 = some (some 1)) ∧ (cz Try.prog 2 = some 1) ∧ (bz Try.prog 2 = some 8) ∧ (zr Try.prog 2 = some (.int .i64 0)) ∧ (zr Try.prog 25 = some (.slice none 0 0)) := by
  refine ⟨?_, ?_, ?_, ?_, ?_, ?_, ?_, ?_, ?_⟩ <;> kernel_rfl
end tfY11
open tfY11
/-- The first part that is not 0. -/
def fpO (T : List (List (Int × Int))) (v : List Int) : Option (List Int) := (PT T v).find? fun u => decide (gT u u.length ≠ 0)
theorem fpO_none {T : List (List (Int × Int))} {v : List Int} (h : ∀ (k : Nat) (u : List Int), (PT T v)[k]? = some u → gT u u.length = 0) : fpO T v = none := by
  unfold fpO
  rw [List.find?_eq_none]
  intro u hu
  obtain ⟨k, hk, rfl⟩ := List.getElem_of_mem hu
  have := h k _ (List.getElem?_eq_getElem hk)
  simp [this]
theorem fpO_some {T : List (List (Int × Int))} {v u : List Int} {k : Nat} (hu : (PT T v)[k]? = some u) (h : ∀ (j : Nat) (w : List Int), j < k → (PT T v)[j]? = some w → gT w w.length = 0) (hz : gT u u.length ≠ 0) : fpO T v = some u := by
  obtain ⟨h1, h2⟩ := List.getElem?_eq_some_iff.1 hu
  unfold fpO
  rw [List.find?_eq_some_iff_getElem]
  refine ⟨by simpa using hz, k, h1, h2, fun j hj => ?_⟩
  have := h j _ hj (List.getElem?_eq_getElem (by omega))
  simp [this]
/-! What the specification says of the list, and what the program says of its first part. -/
theorem gT_rep (n k : Nat) : gT (List.replicate n 0) k = 0 := by
  rw [gT_zero (fun j => by simp only [List.getD_eq_getElem?_getD, List.getElem?_replicate]; split <;> simp)]
  intro j _
  simp only [List.getD_eq_getElem?_getD, List.getElem?_replicate]; split <;> rfl
theorem gT_ne {u : List Int} (h : ∀ j, 0 ≤ u.getD j 0) (hne : u ≠ List.replicate u.length 0) : gT u u.length ≠ 0 := fun hz => by
  rw [gT_zero h] at hz
  refine hne (List.ext_getElem (by simp) fun i h1 h2 => ?_)
  have := hz i h1
  simpa [h1] using this
theorem dot_zero (r : List Int) (n : Nat) : ∀ k, dotL r (List.replicate n 0) k = 0
  | 0 => rfl
  | k + 1 => by
    have e : (List.replicate n (0 : Int)).getD k 0 = 0 := by simp only [List.getD_eq_getElem?_getD, List.getElem?_replicate]; split <;> rfl
    rw [dotL, dot_zero r n k, e]; simp
theorem sv_zero (M : List (List Int)) (n m : Nat) : svM M n (List.replicate m 0) = true := decide_eq_true fun r _ => dot_zero _ _ _
section
variable {T : List (List (Int × Int))} {v : List Int}
/-- The list: 0, the first part, more. -/
theorem PT_cases (hb : ∀ j, 0 ≤ v.getD j 0 ∧ v.getD j 0 ≤ 1000) (hs : svM (mmR T) (7 * T.length) v = true) :
    (v = List.replicate v.length 0 ∧ PT T v = [v] ∧ fpO T v = none) ∨
    (v ≠ List.replicate v.length 0 ∧ ∃ u t, PT T v = List.replicate v.length 0 :: u :: t ∧ fpO T v = some u ∧ gT u u.length ≠ 0 ∧ (t = [] ↔ u = v)) := by
  have hnn := nonneg_mem fun j => (hb j).1
  obtain ⟨t, ht⟩ := PL_head (sv := svM (mmR T) (7 * T.length)) (v := v) (sv_zero _ _ _)
  have hself : v ∈ PT T v := (PL_mem hnn).2 ⟨⟨rfl, fun i _ => ⟨(hb i).1, Int.le_refl _⟩⟩, hs⟩
  have hsort := PL_sorted (sv := svM (mmR T) (7 * T.length)) (v := v)
  have hpm : ∀ u, u ∈ PT T v → u.length = v.length ∧ ∀ j, 0 ≤ u.getD j 0 := fun u hu => by
    have h1 := ((PL_mem hnn).1 hu).1
    exact ⟨h1.1, fun j => (h1.bd (fun j => (hb j).2) j).1⟩
  by_cases hz : v = List.replicate v.length 0
  · left
    have h0 : (PT T v)[0]? = some v := by
      show (PL _ v)[0]? = _
      rw [ht, ← hz]; rfl
    have hl := PL_last hnn h0
    have ht0 : t = [] := by
      rw [ht] at hl; simp at hl; exact hl
    have hP : PT T v = [v] := by show PL _ v = _; rw [ht, ht0, ← hz]
    refine ⟨hz, hP, fpO_none fun k u hu => ?_⟩
    rw [hP] at hu
    have : u = v := by simpa using List.mem_of_getElem? hu
    rw [this, hz, List.length_replicate]; exact gT_rep _ _
  · right
    refine ⟨hz, ?_⟩
    cases t with
    | nil =>
      change v ∈ PL _ v at hself
      rw [ht] at hself
      simp at hself
      exact absurd hself hz
    | cons u t =>
      have hP : PT T v = List.replicate v.length 0 :: u :: t := ht
      have hu : u ∈ PT T v := by rw [hP]; simp
      obtain ⟨hul, hub⟩ := hpm u hu
      have hlt : lxU (List.replicate v.length 0) u := by
        have h1 := hsort
        rw [ht] at h1
        exact (List.pairwise_cons.1 h1).1 u (by simp)
      have hune : u ≠ List.replicate u.length 0 := fun e => by rw [hul] at e; rw [← e] at hlt; exact lx_irr _ hlt
      have hg := gT_ne hub hune
      refine ⟨u, t, hP, fpO_some (k := 1) (by rw [hP]; rfl) (fun j w hj hw => ?_) hg, ?_⟩
      · obtain rfl : j = 0 := by omega
        rw [hP] at hw
        simp at hw
        rw [← hw, List.length_replicate]; exact gT_rep _ _
      · refine ⟨hg, fun h0 => ?_, fun e => ?_⟩
        · subst h0
          rw [hP] at hself
          simp at hself
          rcases hself with h | h
          · exact absurd h hz
          · exact h.symm
        · have h1 : (PT T v)[1]? = some v := by rw [hP, ← e]; rfl
          have := PL_last hnn h1
          rw [ht] at this
          simp at this
          exact this
end
end Go.Proofs.Ytmoknllbpjpkmaa.Zed
namespace Go.Proofs.Ytmoknllbpjpkmaa.Zed
open Go TP
set_option linter.unusedVariables false
set_option linter.unusedSimpArgs false
set_option maxRecDepth 20000
namespace tfY12
theorem tf : (Try.prog.underlying 25 = some (.slice 2)) ∧ (el Try.prog 25 = some (none, 1)) ∧ (Try.prog.underlying 51 = some (.slice 25)) ∧ (el Try.prog 51 = some (none, 1)) ∧ (tk Try.prog 2 = some none) ∧ (tk Try.prog 25 = some none) ∧ (tk Try.prog 31 = some (some 1)) ∧ (cz Try.prog 2 = some 1) ∧ (bz Try.prog 2 = some 8) ∧ (cz Try.prog 25 = some 1) ∧ (bz Try.prog 25 = some 24) ∧ (zr Try.prog 2 = some (.int .i64 0)) ∧ (zr Try.prog 25 = some (.slice none 0 0)) := by
  refine ⟨?_, ?_, ?_, ?_, ?_, ?_, ?_, ?_, ?_, ?_, ?_, ?_, ?_⟩ <;> kernel_rfl
end tfY12
open tfY12
/-- The number of vectors. -/
def pdL (v : List Int) : Nat := v.foldr (fun x n => (x.toNat + 1) * n) 1
theorem sum_const (c : Nat) : ∀ l : List Nat, (l.map fun _ => c).sum = l.length * c
  | [] => by simp
  | a :: l => by rw [List.map_cons, List.sum_cons, sum_const c l, List.length_cons, Nat.succ_mul]; omega
theorem allU_pd : ∀ v : List Int, (allU v).length = pdL v
  | [] => rfl
  | x :: v => by
    have ih := allU_pd v
    show ((List.range (x.toNat + 1)).flatMap fun (a : Nat) => (allU v).map fun u => (a : Int) :: u).length = (x.toNat + 1) * pdL v
    rw [List.length_flatMap, ← ih]
    have : (fun (a : Nat) => ((allU v).map fun u => (a : Int) :: u).length) = fun _ => (allU v).length := funext fun a => List.length_map _
    rw [this]
    rw [sum_const, List.length_range]
end Go.Proofs.Ytmoknllbpjpkmaa.Zed
namespace Go.Proofs.Ytmoknllbpjpkmaa.Zed
open Go TP
set_option linter.unusedVariables false
set_option linter.unusedSimpArgs false
set_option maxRecDepth 20000
namespace tfY13
theorem tf : (Try.prog.underlying 4 = some .bool) ∧ (Try.prog.underlying 25 = some (.slice 2)) ∧ (el Try.prog 25 = some (none, 1)) ∧ (tk Try.prog 2 = some none) ∧ (tk Try.prog 24 = some (some 1)) ∧ (tk Try.prog 31 = some (some 1)) ∧ (cz Try.prog 2 = some 1) ∧ (bz Try.prog 2 = some 8) ∧ (zr Try.prog 2 = some (.int .i64 0)) ∧ (zr Try.prog 31 = some (.agg #[.slice none 0 0])) := by
  refine ⟨?_, ?_, ?_, ?_, ?_, ?_, ?_, ?_, ?_, ?_⟩ <;> kernel_rfl
end tfY13
open tfY13
end Go.Proofs.Ytmoknllbpjpkmaa.Zed
namespace Go.Proofs.Ytmoknllbpjpkmaa.Zed
open Go TP
set_option linter.unusedVariables false
set_option linter.unusedSimpArgs false
set_option maxRecDepth 20000
namespace tfY14
theorem tf : (Try.prog.underlying 25 = some (.slice 2)) ∧ (el Try.prog 25 = some (none, 1)) ∧ (Try.prog.underlying 51 = some (.slice 25)) ∧ (el Try.prog 51 = some (none, 1)) ∧ (tk Try.prog 2 = some none) ∧ (tk Try.prog 25 = some none) ∧ (tk Try.prog 31 = some (some 1)) ∧ (cz Try.prog 2 = some 1) ∧ (bz Try.prog 2 = some 8) ∧ (cz Try.prog 25 = some 1) ∧ (bz Try.prog 25 = some 24) ∧ (zr Try.prog 2 = some (.int .i64 0)) ∧ (zr Try.prog 25 = some (.slice none 0 0)) := by
  refine ⟨?_, ?_, ?_, ?_, ?_, ?_, ?_, ?_, ?_, ?_, ?_, ?_, ?_⟩ <;> kernel_rfl
end tfY14
open tfY14
end Go.Proofs.Ytmoknllbpjpkmaa.Zed
namespace Go.Proofs.Ytmoknllbpjpkmaa.Zed
open Go TP
set_option linter.unusedVariables false
set_option linter.unusedSimpArgs false
set_option maxRecDepth 20000
namespace tfY15
theorem tf : (Try.prog.underlying 25 = some (.slice 2)) ∧ (el Try.prog 25 = some (none, 1)) ∧ (tk Try.prog 2 = some none) ∧ (tk Try.prog 24 = some (some 1)) ∧ (tk Try.prog 31 = some (some 1)) ∧ (cz Try.prog 2 = some 1) ∧ (bz Try.prog 2 = some 8) ∧ (zr Try.prog 2 = some (.int .i64 0)) ∧ (zr Try.prog 31 = some (.agg #[.slice none 0 0])) := by
  refine ⟨?_, ?_, ?_, ?_, ?_, ?_, ?_, ?_, ?_⟩ <;> kernel_rfl
end tfY15
open tfY15
theorem tri_shape {lo hi : Nat} {H : Heap} {u : Value} {T : List (List (Int × Int))} (h : OwnB lo hi H [u] [zT T]) : ∃ v, u = .agg #[v] ∧ v.oneCell' = true := by
  obtain ⟨l, rfl, h1⟩ := OwnB.agg_inv (l' := [zL zP T]) h
  obtain ⟨v, l4, rfl, h4, h5⟩ := h1.cons_inv
  obtain rfl := h5.nil_inv
  exact ⟨v, rfl, h4.one⟩
/-- A value told as r, its blocks in S. -/
def OwnS (S : Nat → Prop) (H : Heap) (v r : Value) : Prop := ∃ ks, OwnL false 0 H [v] [r] ks ∧ ∀ k ∈ ks, S k.1
theorem OwnS.keep {S : Nat → Prop} {H H' : Heap} {v r : Value} (h : OwnS S H v r) (hk : ∀ b, S b → H'.get b = H.get b) : OwnS S H' v r := by
  obtain ⟨ks, a, b⟩ := h
  exact ⟨ks, a.keep (.inl rfl) (Nat.le_refl _) fun k hk' => by rw [hk _ (b k hk')]; exact (a.get k hk').2, b⟩
structure Own2 (lo hi : Nat) (S1 S2 : Nat → Prop) (H : Heap) (v1 v2 : Value) (l1 l2 : List Int) : Prop where
  h1 : OwnS S1 H v1 (zI l1)
  h2 : OwnS S2 H v2 (zI l2)
  r : ∀ b, S1 b ∨ S2 b → lo ≤ b ∧ b < hi
  d12 : ∀ b, S1 b → ¬ S2 b
section
variable {lo hi lo' hi' : Nat} {S1 S2 : Nat → Prop} {H H' : Heap} {v1 v2 u : Value} {l1 l2 : List Int} {k : Int}
theorem Own2.keep (h : Own2 lo hi S1 S2 H v1 v2 l1 l2) (hk : ∀ b, lo ≤ b → b < hi → H'.get b = H.get b) : Own2 lo hi S1 S2 H' v1 v2 l1 l2 :=
  ⟨h.h1.keep fun b hb => hk b (h.r b (.inl hb)).1 (h.r b (.inl hb)).2, h.h2.keep fun b hb => hk b (h.r b (.inr hb)).1 (h.r b (.inr hb)).2, h.r, h.d12⟩
theorem Own2.ext (h : Own2 lo hi S1 S2 H v1 v2 l1 l2) (hs : hi ≤ H.size) (k : Ext H H') : Own2 lo hi S1 S2 H' v1 v2 l1 l2 := h.keep fun b _ hb => k.get b (by omega)
theorem Own2.extR (h : Own2 lo hi S1 S2 H v1 v2 l1 l2) (hs : hi ≤ H.size) (k : ExtR lo' hi' H H') (hd : hi ≤ lo' ∨ hi' ≤ lo) : Own2 lo hi S1 S2 H' v1 v2 l1 l2 := h.keep fun b h1 hb => k.get b (by omega) (by omega)
end
end Go.Proofs.Ytmoknllbpjpkmaa.Zed
namespace Go.Proofs.Ytmoknllbpjpkmaa.Zed
open Go TP
set_option linter.unusedVariables false
set_option linter.unusedSimpArgs false
set_option maxRecDepth 20000
namespace tfY16
theorem tf : (Try.prog.underlying 25 = some (.slice 2)) ∧ (el Try.prog 25 = some (none, 1)) ∧ (Try.prog.underlying 51 = some (.slice 25)) ∧ (el Try.prog 51 = some (none, 1)) ∧ (tk Try.prog 2 = some none) ∧ (tk Try.prog 25 = some none) ∧ (cz Try.prog 2 = some 1) ∧ (bz Try.prog 2 = some 8) ∧ (cz Try.prog 25 = some 1) ∧ (bz Try.prog 25 = some 24) ∧ (zr Try.prog 2 = some (.int .i64 0)) ∧ (zr Try.prog 25 = some (.slice none 0 0)) := by
  refine ⟨?_, ?_, ?_, ?_, ?_, ?_, ?_, ?_, ?_, ?_, ?_, ?_⟩ <;> kernel_rfl
end tfY16
open tfY16
/-! Rows of rows in a law: equal, marked, held. -/
set_option maxHeartbeats 2000000 in
theorem eqInt64SS_z (L : List (List Int)) (hl : L.length ≤ 4000000000) (hr : ∀ r ∈ L, r.length ≤ 4000000000) : ZCalls Try.prog 36 [zII L, zII L] (B true) := by
  refine ZCalls.body Try.func36 rfl Try.ntmps36 (rs := [.tmp 4]) rfl (by simp) rfl fun H Q hQ A hA => ?_
  have a0 := hA 0 _ _ rfl
  have a1 := hA 1 _ _ rfl
  clear hA
  repeat' first | refine rnY ?_ | with_reducible refine And.intro (fun hc => ?_) (fun hc => ?_) | fail
  refine AWp.cut (fun Ac hAc => ?_)
  have c0 := gtY (t := 0) hAc
  have c1 := gtY (t := 1) hAc
  have c5 := gtY (t := 5) hAc
  clear a0 a1
  refine AWp.loop (fun A' H' => ∃ (j : Nat), Ag [11, 12, 13, 14, 15, 16, 17, 18, 19, 20, 21, 22, 23, 24, 25, 26] A' (put Ac (some 5) (I j)) ∧ j ≤ L.length ∧ H' = H) (fun A' _ => L.length - (intV (A' 5)).toNat) ?_ ?_
  · exact ⟨0, agY, by omega, rfl⟩
  · rintro A1 H1 ⟨j, hA, hj, rfl⟩
    have d0 := gdY (t := 0) hA
    have d1 := gdY (t := 1) hA
    have d5 := gdY (t := 5) hA
    by_cases hlt : j < L.length
    · have he := eqInt64S_z (L.getD j []) (hr _ (by simp [hlt]))
      clear hr
      have hg : (L.map fun r => zI r)[j]? = some (zI (L.getD j [])) := by simp [hlt]
      repeat' first | refine rnY ?_ | with_reducible refine And.intro (fun hc => ?_) (fun hc => ?_) | fail
      refine AWp.zreg [(0, none), (1, none), (2, none), (3, none), (4, none), (5, none), (6, none), (7, none), (8, none), (9, none)] mixed (by kernel_rfl) ?_
      repeat' first | refine rzY ?_ | (first | refine ZCalls.to (he) ?_ | refine ZCalls.tf (he) ?_) | fail
      repeat' first | refine rnY ?_ | with_reducible refine And.intro (fun hc => ?_) (fun hc => ?_) | fail
      exact ⟨⟨j + 1, agY, by omega, rfl⟩, by exact ivY⟩
    · obtain rfl : j = L.length := by omega
      repeat' first | refine rnY ?_ | with_reducible refine And.intro (fun hc => ?_) (fun hc => ?_) | fail
      exact hQ.out _ _ (fv) (by exact exY)
/-- The marks of rows of rows. -/
def mkII (k : Int) : List (List Int) → List (List Int)
  | [] => []
  | l :: L => mkI k l.length :: mkII (k + l.length) L
def totN (L : List (List Int)) : Nat → Nat
  | 0 => 0
  | j + 1 => totN L j + (L.getD j []).length
theorem mkII_len : ∀ (L : List (List Int)) (k : Int), (mkII k L).length = L.length
  | [], _ => rfl
  | l :: L, k => by simp [mkII, mkII_len L]
theorem totN_cons (l : List Int) (L : List (List Int)) : ∀ j, totN (l :: L) (j + 1) = l.length + totN L j
  | 0 => by simp [totN]
  | j + 1 => by
    have ih := totN_cons l L j
    show totN (l :: L) (j + 1) + ((l :: L).getD (j + 1) []).length = _
    rw [ih]
    show _ = l.length + (totN L j + (L.getD j []).length)
    simp [Nat.add_assoc]
theorem mkII_get : ∀ (L : List (List Int)) (k : Int) (j : Nat), j < L.length → (mkII k L).getD j [] = mkI (k + totN L j) (L.getD j []).length
  | [], _, j, h => by simp at h
  | l :: L, k, 0, _ => by simp [mkII, totN]
  | l :: L, k, j + 1, h => by
    have ih := mkII_get L (k + l.length) j (by simpa using h)
    rw [totN_cons]
    show (mkII (k + l.length) L).getD j [] = _
    rw [ih]
    show mkI (k + l.length + (totN L j : Int)) (L.getD j []).length = mkI (k + ((l.length + totN L j : Nat) : Int)) (L.getD j []).length
    rw [Int.natCast_add, Int.add_assoc]
theorem totN_le {L : List (List Int)} {B : Nat} (h : ∀ r ∈ L, r.length ≤ B) : ∀ j, totN L j ≤ j * B
  | 0 => by simp [totN]
  | j + 1 => by
    have ih := totN_le h j
    have : (L.getD j []).length ≤ B := by
      by_cases hj : j < L.length
      · exact h _ (by simp [hj])
      · rw [List.getD_eq_getElem?_getD, List.getElem?_eq_none (by omega)]; simp
    unfold totN
    rw [Nat.succ_mul]; omega
set_option maxHeartbeats 2000000 in
theorem heldInt64SS_z (L : List (List Int)) (k : Int) (hl : L.length ≤ 1000000) (hr : ∀ r ∈ L, r.length ≤ 1000000) (h0 : 0 ≤ k) (hk : k ≤ 1099511627776) : ZCalls Try.prog 38 [zII (mkII k L), I k] (I (k + totN L L.length)) := by
  have hml := mkII_len L k
  have hmg := mkII_get L k
  have htl := totN_le hr
  generalize mkII k L = M at *
  refine ZCalls.body Try.func38 rfl Try.ntmps38 (rs := [.tmp 4]) rfl (by simp) rfl fun H Q hQ A hA => ?_
  have a0 := hA 0 _ _ rfl
  have a1 := hA 1 _ _ rfl
  clear hA
  repeat' first | refine rnY ?_ | with_reducible refine And.intro (fun hc => ?_) (fun hc => ?_) | fail
  refine AWp.cut (fun Ac hAc => ?_)
  have c0 := gtY (t := 0) hAc
  have c1 := gtY (t := 1) hAc
  have c5 := gtY (t := 5) hAc
  clear a0 a1
  refine AWp.loop (fun A' H' => ∃ (j : Nat), Ag [6, 7, 8, 9, 10, 11, 12, 13, 14, 15, 16, 17, 18, 19] A' (put (put Ac (some 1) (I (k + totN L j))) (some 5) (I j)) ∧ j ≤ L.length ∧ H' = H) (fun A' _ => L.length - (intV (A' 5)).toNat) ?_ ?_
  · have e0 : totN L 0 = 0 := rfl
    exact ⟨0, agY, by omega, rfl⟩
  · rintro A1 H1 ⟨j, hA, hj, rfl⟩
    have d0 := gdY (t := 0) hA
    have d1 := gdY (t := 1) hA
    have d5 := gdY (t := 5) hA
    by_cases hlt : j < L.length
    · have ht := htl j
      have hjb : j * 1000000 ≤ 1000000 * 1000000 := Nat.mul_le_mul_right _ (by omega)
      have hrl := hr (L.getD j []) (by simp [hlt])
      have hg : (M.map fun r => zI r)[j]? = some (zI (mkI (k + totN L j) (L.getD j []).length)) := by
        rw [← hmg j hlt]; simp [show j < M.length by omega]
      have hst : totN L (j + 1) = totN L j + (L.getD j []).length := rfl
      generalize (L.getD j []).length = n at *
      generalize totN L j = t at *
      have hh := heldInt64S_z n (k + t) (by omega) (by omega) (by omega)
      have hnn : decide (k + (t : Int) + (n : Int) < 0) = false := decide_eq_false (by omega)
      clear hmg htl hr
      repeat' first | refine rnY ?_ | (first | refine ZCalls.to (hh) ?_ | refine ZCalls.tf (hh) ?_) | with_reducible refine And.intro (fun hc => ?_) (fun hc => ?_) | fail
      exact ⟨⟨j + 1, by rw [hst, Int.natCast_add, ← Int.add_assoc]; exact agY, by omega, rfl⟩, by exact ivY⟩
    · obtain rfl : j = L.length := by omega
      clear hmg htl hr
      repeat' first | refine rnY ?_ | with_reducible refine And.intro (fun hc => ?_) (fun hc => ?_) | fail
      exact hQ.out _ _ (fv) (by exact exY)
theorem OwnL.split {lo : Nat} {H : Heap} {rs2 : List Value} : ∀ {rs1 vs : List Value} {ks : List (Nat × Blk)}, OwnL false lo H vs (rs1 ++ rs2) ks → ∃ vs1 vs2 k1 k2, vs = vs1 ++ vs2 ∧ OwnL false lo H vs1 rs1 k1 ∧ OwnL false lo H vs2 rs2 k2 ∧ (∀ k ∈ k1, ∀ k' ∈ k2, k.1 ≠ k'.1) ∧ ks = k1 ++ k2
  | [], vs, ks, h => ⟨[], vs, [], ks, rfl, .nil, h, fun k hk => (by cases hk), rfl⟩
  | r :: rs1, vs, ks, h => by
    obtain ⟨v, vs', ka, kb, rfl, h1, h2, hd, rfl⟩ := OwnL.cons_inv (rs := rs1 ++ rs2) h
    obtain ⟨vs1, vs2, k1, k2, rfl, h3, h4, hd2, rfl⟩ := OwnL.split h2
    refine ⟨v :: vs1, vs2, ka ++ k1, k2, rfl, OwnL.append (vs := [v]) (rs := [r]) h1 h3 (fun k hk k' hk' => hd k hk k' (List.mem_append_left _ hk')), h4, fun k hk k' hk' => ?_, by rw [List.append_assoc]⟩
    rcases List.mem_append.1 hk with hk | hk
    · exact hd k hk k' (List.mem_append_right _ hk')
    · exact hd2 k hk k' hk'
theorem SameK.trans {k1 k2 k3 : List (Nat × Blk)} (a : SameK k1 k2) (b : SameK k2 k3) : SameK k1 k3 := Eq.trans a b
theorem SameK.app {a b a' b' : List (Nat × Blk)} (h : SameK a a') (g : SameK b b') : SameK (a ++ b) (a' ++ b') := by
  unfold SameK at *; rw [List.map_append, List.map_append, h, g]
/-- One row among rows is marked. -/
theorem mark_mid {lo : Nat} {H : Heap} {A B : List (List Int)} {l : List Int} {vs : List Value} {ks : List (Nat × Blk)} (h : OwnL false lo H vs ((A ++ l :: B).map fun r => zI r) ks) (hb : ∀ k ∈ ks, k.1 < H.size) :
    ∃ v km, vs[A.length]? = some v ∧ OwnL false lo H [v] [zI l] km ∧ (∀ k ∈ km, ∃ k' ∈ ks, k'.1 = k.1) ∧ ∀ H' m km', Chg km H H' → OwnL false lo H' [v] [zI m] km' → SameK km km' → ∃ ks', OwnL false lo H' vs ((A ++ m :: B).map fun r => zI r) ks' ∧ SameK ks ks' := by
  rw [List.map_append, List.map_cons] at h
  obtain ⟨vs1, vs2, k1, k2, rfl, h1, h2, hd, rfl⟩ := OwnL.split h
  obtain ⟨v, vs3, k3, k4, rfl, h3, h4, hd2, rfl⟩ := OwnL.cons_inv (rs := B.map fun r => zI r) h2
  have hl := h1.len
  rw [List.length_map] at hl
  refine ⟨v, k3, by rw [List.getElem?_append_right (by omega), hl, Nat.sub_self]; rfl, h3, fun k hk => ⟨k, List.mem_append_right _ (List.mem_append_left _ hk), rfl⟩, fun H' m km' hc ho hs => ?_⟩
  have g1 := h1.chg (fun k hk => hb k (List.mem_append_left _ hk)) hc (fun x hx y hy e => hd y hy x (List.mem_append_left _ hx) e.symm)
  have g4 := h4.chg (fun k hk => hb k (List.mem_append_right _ (List.mem_append_right _ hk))) hc (fun x hx y hy => hd2 x hx y hy)
  have inK : ∀ k ∈ km', ∃ k' ∈ k3, k'.1 = k.1 := fun k hk => hs.mem k hk
  have g34 := OwnL.append ho g4 (fun k hk k' hk' e => by
    obtain ⟨q, q1, q2⟩ := inK k hk
    exact hd2 q q1 k' hk' (q2.trans e))
  have g := OwnL.append g1 g34 (fun k hk k' hk' e => by
    rcases List.mem_append.1 hk' with hk' | hk'
    · obtain ⟨q, q1, q2⟩ := inK k' hk'
      exact hd k hk q (List.mem_append_left _ q1) (e.trans q2.symm)
    · exact hd k hk k' (List.mem_append_right _ hk') e)
  refine ⟨_, ?_, SameK.app (rfl : SameK k1 k1) (hs.app (rfl : SameK k4 k4))⟩
  rw [List.map_append, List.map_cons]
  exact g
set_option maxHeartbeats 4000000 in
theorem markInt64SS_m {H : Heap} {lo : Nat} {v : Value} {L : List (List Int)} {k : Int} {ks : List (Nat × Blk)} (hO : OwnL false lo H [v] [zII L] ks) (hb : ∀ x ∈ ks, x.1 < H.size) (hl : L.length ≤ 1000000) (hr : ∀ r ∈ L, r.length ≤ 1000000) (h0 : 0 ≤ k) (hk : k ≤ 1099511627776) :
    ACalls Try.prog 37 [v, I k] H fun u H' => u = I (k + totN L L.length) ∧ Chg ks H H' ∧ H'.size = H.size ∧ ∃ ks', OwnL false lo H' [v] [zII (mkII k L)] ks' ∧ SameK ks ks' := by
  have htl := totN_le hr
  have hml := mkII_len L k
  have hmg := mkII_get L k
  rcases hO.shape with ⟨q1, q2, q3⟩ | ⟨g, o, c, ds, k1, rfl, q4, q5, q6, q7, q8, q9, rfl⟩
  · obtain rfl : L = [] := List.length_eq_zero_iff.1 q1
    have e0 : totN [] 0 = 0 := rfl
    have hO' := hO
    rcases q3 with rfl | rfl
    all_goals
      refine ACalls.body Try.func37 rfl Try.ntmps37 (rs := [.tmp 4]) rfl (by simp) rfl fun Q hQ A hA => ?_
      have a0 := hA 0 _ _ rfl
      have a1 := hA 1 _ _ rfl
      clear hA
      repeat' first | refine rnY ?_ | with_reducible refine And.intro (fun hc => ?_) (fun hc => ?_) | fail
      refine AWp.cut (fun Ac hAc => ?_)
      have c0 := gtY (t := 0) hAc
      have c1 := gtY (t := 1) hAc
      have c5 := gtY (t := 5) hAc
      clear a0 a1
      refine AWp.loop (fun A' H' => ∃ _ : Unit, Ag [6, 7, 8, 9, 10, 11, 12, 13, 14, 15, 16, 17] A' (put (put Ac (some 1) (I k)) (some 5) (I 0)) ∧ H' = H) (fun A' _ => 0) ?_ ?_
      · exact ⟨(), agY, rfl⟩
      · rintro A1 H1 ⟨_, hA, rfl⟩
        have d0 := gdY (t := 0) hA
        have d1 := gdY (t := 1) hA
        have d5 := gdY (t := 5) hA
        repeat' first | refine rnY ?_ | with_reducible refine And.intro (fun hc => ?_) (fun hc => ?_) | fail
        exact hQ.out _ _ ⟨by simp [totN], Chg.refl _ _, rfl, _, hO', rfl⟩
  · have hlog : lo ≤ g := (hO.get _ (List.mem_cons_self ..)).1
    have hkb : ∀ x ∈ k1, x.1 < H.size := fun x hx => hb x (List.mem_cons_of_mem _ hx)
    have hgb : g < H.size := hb _ (List.mem_cons_self ..)
    have q6' : (L.map fun r => zI r).length = L.length := List.length_map _
    have hvl : ((ds.drop o).take (L.length * 1)).length = L.length := by rw [List.length_take, List.length_drop]; omega
    have hvg : ∀ j, j < L.length → ((ds.drop o).take (L.length * 1))[j]? = ds[o + j]? := fun j hj => by
      rw [List.getElem?_take_of_lt (by omega), List.getElem?_drop]
    have hfin : ∀ H2 k2, OwnL false lo H2 ((ds.drop o).take (L.length * 1)) ((mkII k L).map fun r => zI r) k2 → SameK k1 k2 → H2.get g = .cells ds 1 false → OwnL false lo H2 [.slice (some ⟨g, o, none⟩) L.length c] [zII (mkII k L)] ((g, .cells ds 1 false) :: (k2 ++ [])) := fun H2 k2 hh hs hg => by
      unfold Zed.zII Zed.zL
      rw [hml]
      exact OwnL.own hlog hg q5 (by rw [List.length_map, hml]; omega) q7 hh .nil (fun x hx => by
        rw [List.append_nil] at hx
        obtain ⟨y, y1, y2⟩ := hs.mem x hx
        rw [← y2]; exact q9 y y1) (fun x _ y hy => by cases hy)
    have htk : ∀ j, j < L.length → (mkII k L).take (j + 1) ++ L.drop (j + 1) = (mkII k L).take j ++ mkI (k + totN L j) (L.getD j []).length :: L.drop (j + 1) := fun j hj => by
      have := hmg j hj
      rw [List.take_succ_eq_append_getElem (by omega), List.append_assoc, ← this]
      simp [show j < (mkII k L).length by omega]
    have hdk : ∀ j, j < L.length → (mkII k L).take j ++ L.drop j = (mkII k L).take j ++ L.getD j [] :: L.drop (j + 1) := fun j hj => by
      rw [List.drop_eq_getElem_cons hj]; simp [hj]
    have hal : ∀ j, j < L.length → ((mkII k L).take j).length = j := fun j hj => by rw [List.length_take]; omega
    have h00 : (mkII k L).take 0 ++ L.drop 0 = L := rfl
    have hnn : (mkII k L).take L.length ++ L.drop L.length = mkII k L := by rw [← hml, List.take_length, List.drop_of_length_le (by omega), List.append_nil]
    generalize (ds.drop o).take (L.length * 1) = vs at *
    generalize mkII k L = M at *
    clear hmg q7 q6 hO hb
    refine ACalls.body Try.func37 rfl Try.ntmps37 (rs := [.tmp 4]) rfl (by simp) rfl fun Q hQ A hA => ?_
    have a0 := hA 0 _ _ rfl
    have a1 := hA 1 _ _ rfl
    clear hA
    repeat' first | refine rnY ?_ | with_reducible refine And.intro (fun hc => ?_) (fun hc => ?_) | fail
    refine AWp.cut (fun Ac hAc => ?_)
    have c0 := gtY (t := 0) hAc
    have c1 := gtY (t := 1) hAc
    have c5 := gtY (t := 5) hAc
    clear a0 a1
    refine AWp.loop (fun A' H' => ∃ (j : Nat) (k2 : List (Nat × Blk)), Ag [6, 7, 8, 9, 10, 11, 12, 13, 14, 15, 16, 17] A' (put (put Ac (some 1) (I (k + totN L j))) (some 5) (I j)) ∧ j ≤ L.length ∧ H'.get g = .cells ds 1 false ∧ H'.size = H.size ∧ Chg k1 H H' ∧ OwnL false lo H' vs ((M.take j ++ L.drop j).map fun r => zI r) k2 ∧ SameK k1 k2) (fun A' _ => L.length - (intV (A' 5)).toNat) ?_ ?_
    · have e0 : totN L 0 = 0 := rfl
      exact ⟨0, k1, agY, by omega, q4, rfl, Chg.refl _ _, by rw [h00]; exact q8, rfl⟩
    · rintro A1 H1 ⟨j, k2, hA, hj, hg, hsz, hch, hown, hsk⟩
      have d0 := gdY (t := 0) hA
      have d1 := gdY (t := 1) hA
      have d5 := gdY (t := 5) hA
      by_cases hlt : j < L.length
      · have hrl := hr (L.getD j []) (by simp [hlt])
        have htj := htl j
        have hjb : j * 1000000 ≤ 1000000 * 1000000 := Nat.mul_le_mul_right _ (by omega)
        have htk := htk j hlt
        have hst : totN L (j + 1) = totN L j + (L.getD j []).length := rfl
        rw [hdk j hlt] at hown
        have hk2b : ∀ x ∈ k2, x.1 < H1.size := fun x hx => by
          obtain ⟨y, y1, y2⟩ := hsk.mem x hx
          have := hkb y y1; omega
        obtain ⟨w, km, hw1, hw2, hw3, hw4⟩ := mark_mid hown hk2b
        rw [hal j hlt, hvg j hlt] at hw1
        have hgk : ∀ x ∈ km, x.1 ≠ g := fun x hx e => by
          obtain ⟨y, y1, y2⟩ := hw3 x hx
          obtain ⟨z, z1, z2⟩ := hsk.mem y y1
          exact q9 z z1 (z2.trans (y2.trans e))
        have hkw : ∀ x ∈ km, ∃ y ∈ k1, y.1 = x.1 := fun x hx => by
          obtain ⟨y, y1, y2⟩ := hw3 x hx
          obtain ⟨z, z1, z2⟩ := hsk.mem y y1
          exact ⟨z, z1, z2.trans y2⟩
        clear hdk hown htl hfin hr hvg hal h00 hnn hk2b hw3 q8
        generalize L.getD j [] = l at *
        generalize totN L j = t at *
        have hm := markInt64S_m (k := k + t) hw2 (by omega) (by omega) (by omega)
        repeat' first | refine rnY ?_ | (refine hm.mono ?_; rintro u H2 ⟨rfl, hc2, hs2, km', ho2, hsk2⟩) | with_reducible refine And.intro (fun hc => ?_) (fun hc => ?_) | fail
        obtain ⟨k3, ho3, hs3⟩ := hw4 H2 _ km' hc2 ho2 hsk2
        exact ⟨⟨j + 1, k3, by rw [hst, Int.natCast_add, ← Int.add_assoc]; exact agY, by omega, (hc2.get g (by omega) fun x hx => hgk x hx).trans hg, by omega, hch.trans (hc2.wide hkw), by rw [htk]; exact ho3, hsk.trans hs3⟩, by exact ivY⟩
      · obtain rfl : j = L.length := by omega
        rw [hnn] at hown
        have hf := hfin H1 k2 hown hsk hg
        clear htl hfin hr hvg hal h00 hnn hdk htk q8 hown
        repeat' first | refine rnY ?_ | with_reducible refine And.intro (fun hc => ?_) (fun hc => ?_) | fail
        refine hQ.out _ _ ⟨rfl, hch.wide fun x hx => ⟨x, List.mem_cons_of_mem _ hx, rfl⟩, hsz, _, hf, ?_⟩
        rw [List.append_nil]
        unfold SameK at *
        rw [List.map_cons, List.map_cons, hsk]
theorem markInt64SS_b {H : Heap} {lo hi : Nat} {v : Value} {L : List (List Int)} {k : Int} (hO : OwnB lo hi H [v] [zII L]) (hs : hi ≤ H.size) (hl : L.length ≤ 1000000) (hr : ∀ r ∈ L, r.length ≤ 1000000) (h0 : 0 ≤ k) (hk : k ≤ 1099511627776) :
    ACalls Try.prog 37 [v, I k] H fun u H' => u = I (k + totN L L.length) ∧ ExtR lo hi H H' ∧ OwnB lo hi H' [v] [zII (mkII k L)] := by
  obtain ⟨ks, hL, hb⟩ := hO.in
  refine (markInt64SS_m hL (fun x hx => by have := hb x hx; omega) hl hr h0 hk).mono ?_
  rintro u H' ⟨rfl, q1, q2, ks', q3, q4⟩
  refine ⟨rfl, q1.toR hb, ks', q3, fun k hk => ?_⟩
  obtain ⟨k', r1, r2⟩ := q4.mem k hk
  rw [← r2]; exact (hb k' r1).2
end Go.Proofs.Ytmoknllbpjpkmaa.Zed
namespace Go.Proofs.Ytmoknllbpjpkmaa.Zed
open Go TP
set_option linter.unusedVariables false
set_option linter.unusedSimpArgs false
set_option maxRecDepth 20000
namespace tfY17
theorem tf : (Try.prog.underlying 25 = some (.slice 2)) ∧ (el Try.prog 25 = some (none, 1)) ∧ (Try.prog.underlying 51 = some (.slice 25)) ∧ (el Try.prog 51 = some (none, 1)) ∧ (tk Try.prog 2 = some none) ∧ (tk Try.prog 25 = some none) ∧ (tk Try.prog 51 = some none) ∧ (cz Try.prog 2 = some 1) ∧ (bz Try.prog 2 = some 8) ∧ (cz Try.prog 25 = some 1) ∧ (bz Try.prog 25 = some 24) ∧ (zr Try.prog 2 = some (.int .i64 0)) ∧ (zr Try.prog 25 = some (.slice none 0 0)) := by
  refine ⟨?_, ?_, ?_, ?_, ?_, ?_, ?_, ?_, ?_, ?_, ?_, ?_, ?_⟩ <;> kernel_rfl
end tfY17
open tfY17
/-- One row more behind rows of one's own. -/
theorem appR {H : Heap} {b k : Nat} {cs : List Value} {w : Value} {K : Value → Heap → Prop} (hg : H.get b = .cells cs 1 false) (hk : cs.length = k) (hw : w.oneCell' = true) (hb : k ≤ 1000000) (h : K (.slice (some ⟨H.size, 0, none⟩) (k + 1) 0) ((H.set b .dead).push (.cells (cs ++ [w]) 1 false))) :
    appendK Try.prog 51 51 (.slice (some ⟨b, 0, none⟩) k 0) (FZ 1 1 [w]) H K := by
  have hel : el Try.prog 51 = some (none, 1) := rfl
  have hu : Try.prog.underlying 51 = some (.slice 25) := rfl
  have hc : cz Try.prog 25 = some 1 := rfl
  have hbz : bz Try.prog 25 = some 24 := rfl
  have hz : zr Try.prog 25 = some (.slice none 0 0) := rfl
  unfold appendK appsK
  simp only [hu, hc, hbz, hz, hel, hg]
  refine ⟨by omega, by omega, rfl, rfl, rfl, rfl, ?_, trivial, trivial, by omega, fun q => by omega, fun _ => ⟨by omega, ?_⟩⟩
  · intro v hv
    rw [List.mem_singleton.1 hv]; exact hw
  · rw [List.drop_zero, Nat.mul_one, List.take_of_length_le (by omega)]; exact h
theorem appR0 {H : Heap} {w : Value} {K : Value → Heap → Prop} (hw : w.oneCell' = true) (h : K (.slice (some ⟨H.size, 0, none⟩) 1 0) (H.push (.cells [w] 1 false))) :
    appendK Try.prog 51 51 (.slice none 0 0) (FZ 1 1 [w]) H K := by
  have hel : el Try.prog 51 = some (none, 1) := rfl
  have hu : Try.prog.underlying 51 = some (.slice 25) := rfl
  have hc : cz Try.prog 25 = some 1 := rfl
  have hbz : bz Try.prog 25 = some 24 := rfl
  have hz : zr Try.prog 25 = some (.slice none 0 0) := rfl
  unfold appendK appsK
  simp only [hu, hc, hbz, hz, hel]
  refine ⟨by omega, by omega, rfl, rfl, rfl, rfl, ?_, by omega, fun q => by omega, fun _ => h⟩
  intro v hv
  rw [List.mem_singleton.1 hv]; exact hw
theorem cloneW_c {H : Heap} {g c : Nat} {l : List Int} (hg : H.get g = .cells (ints l) 1 false) (hgs : g < H.size) (hl : l.length ≤ 1000) : ACalls Try.prog 79 [.slice (some ⟨g, 0, none⟩) l.length c] H fun r H' => ∃ b' c', r = .slice (some ⟨b', 0, none⟩) l.length c' ∧ Ext H H' ∧ OwnB H.size H'.size H' [r] [zI l] := by
  by_cases h0 : l.length = 0
  · have hn0 : l = [] := List.eq_nil_of_length_eq_zero h0
    subst hn0
    have his : ∀ a : Addr, (some a).isNone = false := fun _ => rfl
    refine ACalls.body Try.func79 rfl Try.ntmps79 (rs := [.tmp 2]) rfl (by simp) rfl fun Q hQ A hA => ?_
    have a0 := hA 0 _ _ rfl
    clear hA
    repeat' first | refine rnY ?_ | with_reducible refine And.intro (fun hc => ?_) (fun hc => ?_) | fail
    exact hQ.out _ _ ⟨_, _, rfl, by exact exY, OwnB.ints (by omega) (by simp only [nx]; omega) rfl (get_push_eq rfl)⟩
  · have his : ∀ a : Addr, (some a).isNone = false := fun _ => rfl
    refine ACalls.body Try.func79 rfl Try.ntmps79 (rs := [.tmp 2]) rfl (by simp) rfl fun Q hQ A hA => ?_
    have a0 := hA 0 _ _ rfl
    clear hA
    repeat' first | refine rnY ?_ | with_reducible refine And.intro (fun hc => ?_) (fun hc => ?_) | fail
    exact hQ.out _ _ ⟨_, _, rfl, by exact exY, OwnB.ints (by omega) (by simp only [nx]; omega) rfl (get_push_eq (by simp only [nx]))⟩
/-- The variable at bm holds rows of one's own: R. -/
def RowsB (z bm : Nat) (R : List (List Int)) (H : Heap) : Prop :=
  (R = [] ∧ H.get bm = .cells [.slice none 0 0] 1 false) ∨
  ∃ b cs ks, H.get bm = .cells [.slice (some ⟨b, 0, none⟩) R.length 0] 1 false ∧ z ≤ b ∧ b < H.size ∧ H.get b = .cells cs 1 false ∧ cs.length = R.length ∧ OwnL false z H cs (R.map fun r => zI r) ks ∧ ∀ x ∈ ks, x.1 < H.size ∧ x.1 ≠ b
theorem RowsB.keep {z bm g : Nat} {R : List (List Int)} {H H' : Heap} (h : RowsB z bm R H) (hbm : bm < H.size) (hbg : bm ≠ g) (hgz : g < z) (hs : H.size ≤ H'.size) (hk : ∀ b, b < H.size → b ≠ g → H'.get b = H.get b) : RowsB z bm R H' := by
  rcases h with ⟨h1, h2⟩ | ⟨b, cs, ks, h1, h2, h3, h5, h6, h7, h8⟩
  · exact .inl ⟨h1, (hk bm hbm hbg).trans h2⟩
  · refine .inr ⟨b, cs, ks, (hk bm hbm hbg).trans h1, h2, by omega, (hk b h3 (by omega)).trans h5, h6, h7.keep (.inl rfl) (Nat.le_refl _) fun k hk' => ?_, fun x hx => ⟨by have := (h8 x hx).1; omega, (h8 x hx).2⟩⟩
    have h9 := (h7.get k hk')
    rw [hk k.1 (h8 k hk').1 (by have := h9.1; omega)]
    exact h9.2
/-- A row of one's own goes behind. -/
theorem RowsB.snoc {z bm : Nat} {R : List (List Int)} {r : List Int} {H H1 : Heap} {cs : List Value} {ks : List (Nat × Blk)} {w : Value}
    (hbz : bm < z) (hzh : z ≤ H.size)
    (hcs : cs.length = R.length) (h7 : OwnL false z H cs (R.map fun r => zI r) ks) (h8 : ∀ x ∈ ks, x.1 < H.size)
    (hw : OwnB H.size H1.size H1 [w] [zI r]) (hs1 : H.size ≤ H1.size) (hk1 : ∀ x ∈ ks, H1.get x.1 = H.get x.1) {H2 : Heap} (hs2 : H2.size = H1.size + 1) (hg2 : H2.get H1.size = .cells (cs ++ [w]) 1 false) (hb2 : H2.get bm = .cells [.slice (some ⟨H1.size, 0, none⟩) (R.length + 1) 0] 1 false)
    (hk2 : ∀ x ∈ ks, H2.get x.1 = H1.get x.1) (hk3 : ∀ x, H.size ≤ x → x < H1.size → H2.get x = H1.get x) : RowsB z bm (R ++ [r]) H2 := by
  obtain ⟨k2, q1, q2⟩ := hw.in
  refine .inr ⟨H1.size, cs ++ [w], ks ++ k2, ?_, by omega, by omega, hg2, by simp [hcs], ?_, fun x hx => ?_⟩
  · rw [hb2]; simp
  · rw [List.map_append]
    refine OwnL.append (h7.keep (.inl rfl) (Nat.le_refl _) fun k hk => ?_) (rs := R.map fun r => zI r) (ss := [zI r]) (q1.keep (.inl rfl) (by omega) fun k hk => ?_) (fun k hk k' hk' e => ?_)
    · rw [hk2 k hk, hk1 k hk]; exact (h7.get k hk).2
    · rw [hk3 k.1 (q2 k hk).1 (q2 k hk).2]; exact (q1.get k hk).2
    · have := (h8 k hk); have := (q2 k' hk').1; omega
  · rcases List.mem_append.1 hx with hx | hx
    · have := h8 x hx; exact ⟨by omega, by omega⟩
    · have := q2 x hx; exact ⟨by omega, by omega⟩
end Go.Proofs.Ytmoknllbpjpkmaa.Zed
namespace Go.Proofs.Ytmoknllbpjpkmaa.Zed
open Go TP
set_option linter.unusedVariables false
set_option linter.unusedSimpArgs false
set_option maxRecDepth 20000
namespace tfY18
theorem tf : (Try.prog.underlying 25 = some (.slice 2)) ∧ (el Try.prog 25 = some (none, 1)) ∧ (Try.prog.underlying 51 = some (.slice 25)) ∧ (el Try.prog 51 = some (none, 1)) ∧ (tk Try.prog 2 = some none) ∧ (tk Try.prog 25 = some none) ∧ (tk Try.prog 31 = some (some 1)) ∧ (tk Try.prog 51 = some none) ∧ (cz Try.prog 2 = some 1) ∧ (bz Try.prog 2 = some 8) ∧ (cz Try.prog 25 = some 1) ∧ (bz Try.prog 25 = some 24) ∧ (zr Try.prog 2 = some (.int .i64 0)) ∧ (zr Try.prog 25 = some (.slice none 0 0)) ∧ (zr Try.prog 51 = some (.slice none 0 0)) := by
  refine ⟨?_, ?_, ?_, ?_, ?_, ?_, ?_, ?_, ?_, ?_, ?_, ?_, ?_, ?_, ?_⟩ <;> kernel_rfl
end tfY18
open tfY18
/-- Rows and a code. -/
abbrev iiV (L : List (List Int)) (c : Int) : Value := .tuple #[zII L, I c]
theorem two_nil {H : Heap} (k : Int) : OwnB H.size H.size H [.tuple #[.slice none 0 0, I k]] [iiV [] k] :=
  OwnB.tup (l := [.slice none 0 0, I k]) (l' := [zII [], I k]) (.cflats (OwnB.nilr 1) (fun x hx => by simp at hx; subst hx; rfl))
theorem RowsB.own {z bm : Nat} {R : List (List Int)} {H : Heap} (h : RowsB z bm R H) (hz : z ≤ H.size) : (R = [] ∧ H.get bm = .cells [.slice none 0 0] 1 false) ∨ ∃ b, H.get bm = .cells [.slice (some ⟨b, 0, none⟩) R.length 0] 1 false ∧ OwnB z H.size H [.slice (some ⟨b, 0, none⟩) R.length 0] [zII R] := by
  rcases h with ⟨h1, h2⟩ | ⟨b, cs, ks, h1, h2, h3, h5, h6, h7, h8⟩
  · exact .inl ⟨h1, h2⟩
  · refine .inr ⟨b, h1, (b, .cells cs 1 false) :: (ks ++ []), ?_, fun x hx => ?_⟩
    · exact OwnL.own h2 h5 (by omega) (by rw [List.length_map]; omega) (h7.nf fun x hx => by obtain ⟨y, _, rfl⟩ := List.mem_map.1 hx; rfl) (by rw [List.drop_zero, List.take_of_length_le (by omega)]; exact h7) .nil (fun x hx => (h8 x (by simpa using hx)).2) (fun x _ y hy => by cases hy)
    · rw [List.append_nil] at hx
      rcases List.mem_cons.1 hx with rfl | hx
      · exact h3
      · exact (h8 x hx).1
end Go.Proofs.Ytmoknllbpjpkmaa.Zed
namespace Go.Proofs.Ytmoknllbpjpkmaa.Zed
open Go TP
set_option linter.unusedVariables false
set_option linter.unusedSimpArgs false
set_option maxRecDepth 20000
namespace tfY19
theorem tf : (Try.prog.underlying 25 = some (.slice 2)) ∧ (el Try.prog 25 = some (none, 1)) ∧ (Try.prog.underlying 51 = some (.slice 25)) ∧ (el Try.prog 51 = some (none, 1)) ∧ (tk Try.prog 2 = some none) ∧ (tk Try.prog 24 = some (some 1)) ∧ (tk Try.prog 25 = some none) ∧ (tk Try.prog 31 = some (some 1)) ∧ (cz Try.prog 2 = some 1) ∧ (bz Try.prog 2 = some 8) ∧ (cz Try.prog 25 = some 1) ∧ (bz Try.prog 25 = some 24) ∧ (zr Try.prog 2 = some (.int .i64 0)) ∧ (zr Try.prog 25 = some (.slice none 0 0)) ∧ (zr Try.prog 31 = some (.agg #[.slice none 0 0])) := by
  refine ⟨?_, ?_, ?_, ?_, ?_, ?_, ?_, ?_, ?_, ?_, ?_, ?_, ?_, ?_, ?_⟩ <;> kernel_rfl
end tfY19
open tfY19
theorem ii_shape {lo hi : Nat} {H : Heap} {u : Value} {c : Int} {L : List (List Int)} (h : OwnB lo hi H [u] [iiV L c]) : ∃ v, u = .tuple #[v, I c] ∧ OwnB lo hi H [v] [zII L] ∧ v.oneCell' = true := by
  obtain ⟨l, rfl, h1⟩ := OwnB.tup_inv (l' := [zII L, I c]) h
  obtain ⟨u, l2, rfl, h2, h3⟩ := h1.cons_inv
  obtain ⟨l3, rfl, h4⟩ := OwnB.flat_inv (r := I c) rfl h3
  obtain rfl := h4.nil_inv
  exact ⟨u, rfl, h2, h2.one⟩
end Go.Proofs.Ytmoknllbpjpkmaa.Zed
namespace Go.Proofs.Ytmoknllbpjpkmaa.Zed
open Go TP
set_option linter.unusedVariables false
set_option linter.unusedSimpArgs false
set_option maxRecDepth 20000
/-! The way down from a vector: the first part is taken away until nothing is left. -/
theorem pd_mono : ∀ {w v : List Int}, w.length = v.length → (∀ i, 0 ≤ w.getD i 0 ∧ w.getD i 0 ≤ v.getD i 0) → pdL w ≤ pdL v
  | [], [], _, _ => Nat.le_refl _
  | [], y :: v, h, _ => by simp at h
  | x :: w, [], h, _ => by simp at h
  | x :: w, y :: v, h, hb => by
    have ih := pd_mono (w := w) (v := v) (by simpa using h) fun i => by simpa using hb (i + 1)
    have h0 := hb 0
    simp at h0
    show (x.toNat + 1) * pdL w ≤ (y.toNat + 1) * pdL v
    exact Nat.mul_le_mul (by omega) ih
/-- What holds of a vector on the way. -/
structure OkV (T : List (List (Int × Int))) (v : List Int) : Prop where
  len : v.length = 7 * T.length
  bd : ∀ j, 0 ≤ v.getD j 0 ∧ v.getD j 0 ≤ 1000
  sv : svM (mmR T) (7 * T.length) v = true
  few : (allU v).length ≤ 20000
section
variable {T : List (List (Int × Int))} {v : List Int}
/-- The first part has no part but 0 and itself. -/
theorem first_fund (h : OkV T v) {u : List Int} {t : List (List Int)} (hP : PT T v = List.replicate v.length 0 :: u :: t) : (PT T u).length = 2 := by
  have hnn := nonneg_mem fun j => (h.bd j).1
  have hmu := (PL_mem hnn).1 (show u ∈ PT T v by rw [hP]; simp)
  have hbu := hmu.1.bd fun j => (h.bd j).2
  have hsort := PL_sorted (sv := svM (mmR T) (7 * T.length)) (v := v)
  have hsort' : (List.replicate v.length 0 :: u :: t).Pairwise lxU := by rw [← hP]; exact hsort
  have h0u : lxU (List.replicate v.length 0) u := (List.pairwise_cons.1 hsort').1 u (by simp)
  have hut := (List.pairwise_cons.1 (List.pairwise_cons.1 hsort').2).1
  rcases PT_cases hbu hmu.2 with ⟨q1, _, _⟩ | ⟨q1, w, s, q2, q3, q4, q5⟩
  · rw [hmu.1.1] at q1; rw [← q1] at h0u; exact absurd h0u (lx_irr _)
  · have hmw := (PL_mem (nonneg_mem fun j => (hbu j).1)).1 (show w ∈ PT T u by rw [q2]; simp)
    have hwv : LeL w v := ⟨hmw.1.1.trans hmu.1.1, fun i hi => by
      have h1 := hmw.1.2 i (by rw [hmu.1.1]; exact hi)
      have h2 := hmu.1.2 i hi
      omega⟩
    have hwm : w ∈ PT T v := (PL_mem hnn).2 ⟨hwv, hmw.2⟩
    rw [hP] at hwm
    have hwu : w = u := by
      rcases List.mem_cons.1 hwm with e | hwm
      · exfalso; rw [e, List.length_replicate] at q4; exact q4 (gT_rep _ _)
      · rcases List.mem_cons.1 hwm with e | hwm
        · exact e
        · refine Classical.byContradiction fun hne => ?_
          exact lx_asym (hut w hwm) (lx_le hmw.1 hne)
    rw [q2, q5.2 hwu]; rfl
end
end Go.Proofs.Ytmoknllbpjpkmaa.Zed
namespace Go.Proofs.Ytmoknllbpjpkmaa.Zed
open Go TP
set_option linter.unusedVariables false
set_option linter.unusedSimpArgs false
set_option maxRecDepth 20000
/-! The fundamental vectors of a box: those that no vector found before is less than. -/
def lessB (u v : List Int) : Bool := decide (∀ i, i < u.length → u.getD i 0 ≤ v.getD i 0) && !decide (u = v)
def fdB (T : List (List (Int × Int))) (u : List Int) : Bool := decide ((PT T u).length = 2)
def qB (T : List (List (Int × Int))) (u : List Int) : Bool := one7 u T.length && decide (gT u u.length ≠ 0)
theorem supT_mono {f v : List Int} (h : ∀ i, v.getD i 0 = 0 → f.getD i 0 = 0) : ∀ k, (supT f k).length ≤ (supT v k).length
  | 0 => Nat.le_refl _
  | k + 1 => by
    have ih := supT_mono h k
    unfold supT
    by_cases hv : v.getD k 0 = 0
    · rw [if_neg (fun q => q (h k hv)), if_neg (fun q => q hv)]; exact ih
    · rw [if_pos hv, List.length_append]
      split
      · rw [List.length_append]; simp; exact ih
      · omega
theorem part_get (v : List Int) (j k : Nat) : ((partL 7 v j).drop 4).getD k 0 = if k < 3 then v.getD (7 * j + 4 + k) 0 else 0 := by
  by_cases hk : k < 3
  · rw [if_pos hk]
    simp [partL, List.getD_eq_getElem?_getD, List.getElem?_take, List.getElem?_drop, show 4 + k < 7 by omega, Nat.add_assoc]
  · rw [if_neg hk]
    simp [partL, List.getD_eq_getElem?_getD, List.getElem?_take, List.getElem?_drop, show ¬ (4 + k < 7) by omega]
theorem one7_mono {f v : List Int} (h : ∀ i, v.getD i 0 = 0 → f.getD i 0 = 0) {n : Nat} (h1 : one7 v n = true) : one7 f n = true := by
  unfold one7 at *
  rw [List.all_eq_true] at *
  intro j hj
  have h2 := of_decide_eq_true (h1 j hj)
  refine decide_eq_true (Nat.le_trans (supT_mono (fun i hi => ?_) 3) h2)
  rw [part_get] at hi ⊢
  split
  · rename_i hk; rw [if_pos hk] at hi; exact h _ hi
  · rfl
/-- A box: bounds, and not too many vectors in it. -/
structure OkB (T : List (List (Int × Int))) (b : List Int) : Prop where
  len : b.length = 7 * T.length
  bd : ∀ j, 0 ≤ b.getD j 0 ∧ b.getD j 0 ≤ 1000
  few : (allU b).length ≤ 20000
section
variable {T : List (List (Int × Int))} {b : List Int}
theorem OkB.mem (h : OkB T b) {u : List Int} (hu : u ∈ PT T b) : LeL u b ∧ OkV T u := by
  have hm := (PL_mem (nonneg_mem fun j => (h.bd j).1)).1 hu
  have hbd := hm.1.bd fun j => (h.bd j).2
  refine ⟨hm.1, hm.1.1.trans h.len, hbd, hm.2, ?_⟩
  rw [allU_pd]
  refine Nat.le_trans (pd_mono hm.1.1 fun i => ⟨(hbd i).1, ?_⟩) (by rw [← allU_pd]; exact h.few)
  by_cases hi : i < b.length
  · exact (hm.1.2 i hi).2
  · rw [List.getD_eq_getElem?_getD, List.getElem?_eq_none (by rw [hm.1.1]; omega)]; exact (h.bd i).1
theorem fd_gT (h : OkB T b) {u : List Int} (hu : u ∈ PT T b) (hf : fdB T u = true) : gT u u.length ≠ 0 := by
  obtain ⟨hl, ho⟩ := h.mem hu
  have hf := of_decide_eq_true hf
  rcases PT_cases ho.bd ho.sv with ⟨q1, q2, q3⟩ | ⟨q1, _⟩
  · rw [q2] at hf; simp at hf
  · exact gT_ne (fun j => (ho.bd j).1) q1
theorem fv_eq (h : OkB T b) : (PT T b).filter (fun u => one7 u T.length && fdB T u) = ((PT T b).filter (qB T)).filter (fdB T) := by
  rw [List.filter_filter]
  refine List.filter_congr fun u hu => ?_
  unfold qB
  cases hf : fdB T u
  · simp
  · have := fd_gT h hu hf
    simp [this]
theorem fv_step (h : OkB T b) {k : Nat} {v : List Int} (hk : ((PT T b).filter (qB T))[k]? = some v) :
    (∃ u ∈ (((PT T b).filter (qB T)).take k).filter (fdB T), lessB u v = true) ↔ fdB T v = false := by
  have hsort : ((PT T b).filter (qB T)).Pairwise lxU := (PL_sorted (sv := svM (mmR T) (7 * T.length)) (v := b)).filter _
  have hmem : ∀ u, u ∈ (PT T b).filter (qB T) ↔ u ∈ PT T b ∧ qB T u = true := fun u => List.mem_filter
  obtain ⟨hk1, hk2⟩ := List.getElem?_eq_some_iff.1 hk
  have hv := (hmem v).1 (List.mem_of_getElem? hk)
  obtain ⟨hvl, hvo⟩ := h.mem hv.1
  have hvq := hv.2
  unfold qB at hvq
  rw [Bool.and_eq_true] at hvq
  have hvg := of_decide_eq_true hvq.2
  have hvz : v ≠ List.replicate v.length 0 := fun e => hvg (by rw [e, List.length_replicate]; exact gT_rep _ _)
  rcases PT_cases hvo.bd hvo.sv with ⟨q1, _⟩ | ⟨q1, f, t, q2, q3, q4, q5⟩
  · exact absurd q1 hvz
  constructor
  · rintro ⟨u, hu, hl⟩
    obtain ⟨hu1, hu2⟩ := List.mem_filter.1 hu
    have hum := (hmem u).1 (List.mem_of_mem_take hu1)
    obtain ⟨hul, huo⟩ := h.mem hum.1
    unfold lessB at hl
    rw [Bool.and_eq_true] at hl
    have hl1 := of_decide_eq_true hl.1
    have hl2 : u ≠ v := by have := hl.2; simpa using this
    have huv : u ∈ PT T v := (PL_mem (nonneg_mem fun j => (hvo.bd j).1)).2 ⟨⟨hul.1.trans hvl.1.symm, fun i hi => ⟨(huo.bd i).1, hl1 i (by rw [hul.1, ← hvl.1]; exact hi)⟩⟩, huo.sv⟩
    refine decide_eq_false fun h2 => ?_
    rw [q2] at h2 huv
    have ht : t = [] := List.eq_nil_of_length_eq_zero (by simpa using h2)
    have hfv := q5.1 ht
    subst ht
    rcases List.mem_cons.1 huv with e | huv
    · have hg := fd_gT h hum.1 hu2
      rw [e, List.length_replicate] at hg
      exact hg (gT_rep _ _)
    · rcases List.mem_cons.1 huv with e | huv
      · exact hl2 (e.trans hfv)
      · cases huv
  · intro hf
    have h2 := of_decide_eq_false hf
    have hfv : f ≠ v := fun e => h2 (by rw [q2, q5.2 e]; rfl)
    have hff := first_fund hvo q2
    have hfm := (PL_mem (nonneg_mem fun j => (hvo.bd j).1)).1 (show f ∈ PT T v by rw [q2]; simp)
    have hfb := hfm.1.bd fun j => (hvo.bd j).2
    have hfp : f ∈ PT T b := (PL_mem (nonneg_mem fun j => (h.bd j).1)).2 ⟨⟨hfm.1.1.trans hvl.1, fun i hi => by
      have h1 := hfm.1.2 i (by rw [hvl.1]; exact hi)
      have h2 := hvl.2 i hi
      omega⟩, hfm.2⟩
    have hfq : qB T f = true := by
      unfold qB
      rw [Bool.and_eq_true]
      refine ⟨one7_mono (fun i hi => ?_) hvq.1, decide_eq_true q4⟩
      by_cases hiv : i < v.length
      · have := hfm.1.2 i hiv; omega
      · rw [List.getD_eq_getElem?_getD, List.getElem?_eq_none (by rw [hfm.1.1]; omega)]; rfl
    obtain ⟨j, hj, hjf⟩ := List.getElem_of_mem ((hmem f).2 ⟨hfp, hfq⟩)
    have hlt : lxU f v := lx_le hfm.1 hfv
    have hjk : j < k := by
      rcases Nat.lt_trichotomy j k with hq | hq | hq
      · exact hq
      · subst hq; exact absurd (hjf.symm.trans hk2) hfv
      · have := List.pairwise_iff_getElem.1 hsort k j hk1 hj hq
        rw [hk2, hjf] at this
        exact absurd hlt (lx_asym this)
    refine ⟨f, List.mem_filter.2 ⟨?_, decide_eq_true hff⟩, ?_⟩
    · rw [← hjf]
      rw [List.mem_iff_getElem]
      exact ⟨j, by rw [List.length_take]; omega, by rw [List.getElem_take]⟩
    · unfold lessB
      rw [Bool.and_eq_true]
      exact ⟨decide_eq_true fun i hi => (hfm.1.2 i (by rw [← hfm.1.1]; exact hi)).2, by simpa using hfv⟩
end
end Go.Proofs.Ytmoknllbpjpkmaa.Zed
namespace Go.Proofs.Ytmoknllbpjpkmaa.Zed
open Go TP
set_option linter.unusedVariables false
set_option linter.unusedSimpArgs false
set_option maxRecDepth 20000
namespace tfY22
theorem tf : (Try.prog.underlying 25 = some (.slice 2)) ∧ (el Try.prog 25 = some (none, 1)) ∧ (Try.prog.underlying 51 = some (.slice 25)) ∧ (el Try.prog 51 = some (none, 1)) ∧ (tk Try.prog 2 = some none) ∧ (tk Try.prog 25 = some none) ∧ (cz Try.prog 2 = some 1) ∧ (bz Try.prog 2 = some 8) ∧ (cz Try.prog 25 = some 1) ∧ (bz Try.prog 25 = some 24) ∧ (zr Try.prog 2 = some (.int .i64 0)) ∧ (zr Try.prog 25 = some (.slice none 0 0)) := by
  refine ⟨?_, ?_, ?_, ?_, ?_, ?_, ?_, ?_, ?_, ?_, ?_, ?_⟩ <;> kernel_rfl
end tfY22
open tfY22
set_option maxHeartbeats 2000000 in
theorem isLess_z {u v : List Int} (hu : u.length ≤ 100000) (hv : v.length = u.length) : ZCalls Try.prog 92 [zI u, zI v] (B (lessB u v)) := by
  have heq := equal_z (l := u) (m := v) (by omega) (by omega)
  have hno : ∀ i, i < u.length → u.getD i 0 > v.getD i 0 → lessB u v = false := fun i hi h => by
    unfold lessB
    rw [show decide (∀ i, i < u.length → u.getD i 0 ≤ v.getD i 0) = false from decide_eq_false fun q => by have := q i hi; omega]
    rfl
  have hyes : (∀ i, i < u.length → u.getD i 0 ≤ v.getD i 0) → lessB u v = !decide (u = v) := fun h => by
    unfold lessB
    rw [decide_eq_true h]; rfl
  generalize lessB u v = out at *
  generalize decide (u = v) = e at *
  refine ZCalls.body Try.func92 rfl Try.ntmps92 (rs := [.tmp 4]) rfl (by simp) rfl fun H Q hQ A hA => ?_
  have a0 := hA 0 _ _ rfl
  have a1 := hA 1 _ _ rfl
  clear hA
  repeat' first | refine rnY ?_ | with_reducible refine And.intro (fun hc => ?_) (fun hc => ?_) | fail
  refine AWp.cut (fun Ac hAc => ?_)
  have c0 := gtY (t := 0) hAc
  have c1 := gtY (t := 1) hAc
  have c7 := gtY (t := 7) hAc
  have c8 := gtY (t := 8) hAc
  have c9 := gtY (t := 9) hAc
  clear a0 a1
  refine AWp.loop (fun A' H' => ∃ (k : Nat), Ag [5, 6, 10, 11, 12, 13, 14, 15, 16, 17, 18, 19, 20] A' (put Ac (some 9) (I k)) ∧ k ≤ u.length ∧ (∀ i, i < k → u.getD i 0 ≤ v.getD i 0) ∧ H' = H) (fun A' _ => u.length - (intV (A' 9)).toNat) ?_ ?_
  · exact ⟨0, agY, by omega, fun i hi => by omega, rfl⟩
  · rintro A1 H1 ⟨k, hA, hk, hno2, rfl⟩
    have d0 := gdY (t := 0) hA
    have d1 := gdY (t := 1) hA
    have d7 := gdY (t := 7) hA
    have d8 := gdY (t := 8) hA
    have d9 := gdY (t := 9) hA
    by_cases hlt : k < u.length
    · have hlv : k < v.length := by omega
      by_cases hgt : u.getD k 0 > v.getD k 0
      · obtain rfl := hno k hlt hgt
        repeat' first | refine rnY ?_ | with_reducible refine And.intro (fun hc => ?_) (fun hc => ?_) | fail
        exact hQ.out _ _ (fv) (by exact exY)
      · have hle : u.getD k 0 ≤ v.getD k 0 := by omega
        have hstep : ∀ i, i < k + 1 → u.getD i 0 ≤ v.getD i 0 := fun i hi => by
          rcases Nat.lt_or_ge i k with h | h
          · exact hno2 i h
          · obtain rfl : i = k := by omega
            exact hle
        repeat' first | refine rnY ?_ | with_reducible refine And.intro (fun hc => ?_) (fun hc => ?_) | fail
        exact ⟨⟨k + 1, agY, by omega, hstep, rfl⟩, by exact ivY⟩
    · obtain rfl : k = u.length := by omega
      obtain rfl := hyes hno2
      repeat' first | refine rnY ?_ | (first | refine ZCalls.to (heq) ?_ | refine ZCalls.tf (heq) ?_) | with_reducible refine And.intro (fun hc => ?_) (fun hc => ?_) | fail
      exact hQ.out _ _ (fv) (by exact exY)
set_option maxHeartbeats 2000000 in
theorem indexR_g {H : Heap} {b n c : Nat} {cs : List Value} {F : FuncId} {env : Value} {p : Nat → Bool} (hg : H.get b = .cells cs 1 false) (hb : b < H.size) (hn : cs.length = n) (hl : n ≤ 100000)
    (hF : ∀ j, j < n → ∃ w, cs[j]? = some w ∧ w.oneCell' = true ∧ ∀ H', Ext H H' → ACalls Try.prog F [w, env] H' fun r H2 => r = B (p j) ∧ Ext H' H2) :
    ACalls Try.prog 137 [.slice (some ⟨b, 0, none⟩) n c, .func (.func F) #[] #[env]] H fun r H' => Ext H H' ∧ ((∃ j, j < n ∧ p j = true ∧ r = I j) ∨ ((∀ j, j < n → p j = false) ∧ r = I (-1))) := by
  refine ACalls.body Try.func137 rfl Try.ntmps137 (rs := [.tmp 4]) rfl (by simp) rfl fun Q hQ A hA => ?_
  have a0 := hA 0 _ _ rfl
  have a1 := hA 1 _ _ rfl
  clear hA
  repeat' first | refine rnY ?_ | with_reducible refine And.intro (fun hc => ?_) (fun hc => ?_) | fail
  refine AWp.cut (fun Ac hAc => ?_)
  have c0 := gtY (t := 0) hAc
  have c1 := gtY (t := 1) hAc
  have c7 := gtY (t := 7) hAc
  have c8 := gtY (t := 8) hAc
  clear a0 a1
  refine AWp.loop (fun A' H' => ∃ (k : Nat), Ag [5, 9, 10, 11, 12, 13, 14, 15, 16, 17, 18] A' (put Ac (some 8) (I k)) ∧ k ≤ n ∧ (∀ i, i < k → p i = false) ∧ Ext H H') (fun A' _ => n - (intV (A' 8)).toNat) ?_ ?_
  · exact ⟨0, agY, by omega, fun i hi => by omega, by exact exY⟩
  · rintro A1 H1 ⟨k, hA, hk, hno, hx⟩
    have d0 := gdY (t := 0) hA
    have d1 := gdY (t := 1) hA
    have d7 := gdY (t := 7) hA
    have d8 := gdY (t := 8) hA
    have hxg := hx.get; have hxs := hx.size; (try simp only [nx] at hxs)
    by_cases hlt : k < n
    · obtain ⟨w, hw1, hw2, hw3⟩ := hF k hlt
      have hw3 := hw3 H1 hx
      have hg1 := (hxg b hb).trans hg
      cases hp : p k
      · rw [hp] at hw3
        have hstep : ∀ i, i < k + 1 → p i = false := fun i hi => by
          rcases Nat.lt_or_ge i k with h | h
          · exact hno i h
          · obtain rfl : i = k := by omega
            exact hp
        clear hF
        repeat' first | refine rnY ?_ | (refine hw3.mono ?_; rintro r H2 ⟨rfl, he⟩; have heg := he.get; have hes := he.size; (try simp only [nx] at hes)) | with_reducible refine And.intro (fun hc => ?_) (fun hc => ?_) | fail
        exact ⟨⟨k + 1, agY, by omega, hstep, by exact exY⟩, by exact ivY⟩
      · rw [hp] at hw3
        clear hF
        repeat' first | refine rnY ?_ | (refine hw3.mono ?_; rintro r H2 ⟨rfl, he⟩; have heg := he.get; have hes := he.size; (try simp only [nx] at hes)) | with_reducible refine And.intro (fun hc => ?_) (fun hc => ?_) | fail
        exact hQ.out _ _ ⟨by exact exY, .inl ⟨k, hlt, hp, rfl⟩⟩
    · obtain rfl : k = n := by omega
      clear hF
      repeat' first | refine rnY ?_ | with_reducible refine And.intro (fun hc => ?_) (fun hc => ?_) | fail
      exact hQ.out _ _ ⟨by exact exY, .inr ⟨hno, rfl⟩⟩
theorem containsR_g {H : Heap} {b n c : Nat} {cs : List Value} {F : FuncId} {env : Value} {p : Nat → Bool} (hg : H.get b = .cells cs 1 false) (hb : b < H.size) (hn : cs.length = n) (hl : n ≤ 100000)
    (hF : ∀ j, j < n → ∃ w, cs[j]? = some w ∧ w.oneCell' = true ∧ ∀ H', Ext H H' → ACalls Try.prog F [w, env] H' fun r H2 => r = B (p j) ∧ Ext H' H2) :
    ACalls Try.prog 90 [.slice (some ⟨b, 0, none⟩) n c, .func (.func F) #[] #[env]] H fun r H' => r = B (decide (∃ j, j < n ∧ p j = true)) ∧ Ext H H' := by
  have hi := fun env' (he : env' = env) => indexR_g (c := c) (env := env) hg hb hn hl hF
  clear hF
  have hn1 : decide ((-1 : Int) ≥ 0) = false := rfl
  refine ACalls.body Try.func90 rfl Try.ntmps90 (rs := [.tmp 4]) rfl (by simp) rfl fun Q hQ A hA => ?_
  have a0 := hA 0 _ _ rfl
  have a1 := hA 1 _ _ rfl
  clear hA
  repeat' first | refine rnY ?_ | (refine (hi env rfl).mono ?_; rintro r H1 ⟨he, ⟨j, hj1, hj2, rfl⟩ | ⟨hj1, rfl⟩⟩) | with_reducible refine And.intro (fun hc => ?_) (fun hc => ?_) | fail
  · exact hQ.out _ _ ⟨by rw [show decide (∃ j, j < n ∧ p j = true) = true from decide_eq_true ⟨j, hj1, hj2⟩]; first | rfl | simp, he⟩
  · exact hQ.out _ _ ⟨by rw [show decide (∃ j, j < n ∧ p j = true) = false from decide_eq_false fun ⟨j, q1, q2⟩ => by rw [hj1 j q1] at q2; cases q2], he⟩
set_option maxHeartbeats 2000000 in
theorem contains0_g {H : Heap} {F : FuncId} {env : Value} : ACalls Try.prog 90 [.slice none 0 0, .func (.func F) #[] #[env]] H fun r H' => r = B false ∧ Ext H H' := by
  have hi : ACalls Try.prog 137 [.slice none 0 0, .func (.func F) #[] #[env]] H fun r H' => r = I (-1) ∧ Ext H H' := by
    refine ACalls.body Try.func137 rfl Try.ntmps137 (rs := [.tmp 4]) rfl (by simp) rfl fun Q hQ A hA => ?_
    have a0 := hA 0 _ _ rfl
    have a1 := hA 1 _ _ rfl
    clear hA
    repeat' first | refine rnY ?_ | with_reducible refine And.intro (fun hc => ?_) (fun hc => ?_) | fail
    refine AWp.cut (fun Ac hAc => ?_)
    have c0 := gtY (t := 0) hAc
    have c1 := gtY (t := 1) hAc
    have c7 := gtY (t := 7) hAc
    have c8 := gtY (t := 8) hAc
    clear a0 a1
    refine AWp.loop (fun A' H' => ∃ _ : Unit, Ag [5, 9, 10, 11, 12, 13, 14, 15, 16, 17, 18] A' (put Ac (some 8) (I 0)) ∧ H' = H) (fun A' _ => 0) ?_ ?_
    · exact ⟨(), agY, rfl⟩
    · rintro A1 H1 ⟨_, hA, rfl⟩
      have d0 := gdY (t := 0) hA
      have d1 := gdY (t := 1) hA
      have d7 := gdY (t := 7) hA
      have d8 := gdY (t := 8) hA
      repeat' first | refine rnY ?_ | with_reducible refine And.intro (fun hc => ?_) (fun hc => ?_) | fail
      exact hQ.out _ _ ⟨rfl, Ext.refl _⟩
  have hn1 : decide ((-1 : Int) ≥ 0) = false := rfl
  refine ACalls.body Try.func90 rfl Try.ntmps90 (rs := [.tmp 4]) rfl (by simp) rfl fun Q hQ A hA => ?_
  have a0 := hA 0 _ _ rfl
  have a1 := hA 1 _ _ rfl
  clear hA
  repeat' first | refine rnY ?_ | (refine hi.mono ?_; rintro r H1 ⟨rfl, he⟩) | with_reducible refine And.intro (fun hc => ?_) (fun hc => ?_) | fail
  exact hQ.out _ _ ⟨rfl, he⟩
end Go.Proofs.Ytmoknllbpjpkmaa.Zed
namespace Go.Proofs.Ytmoknllbpjpkmaa.Zed
open Go TP
set_option linter.unusedVariables false
set_option linter.unusedSimpArgs false
set_option maxRecDepth 20000
namespace tfY23
theorem tf : (Try.prog.underlying 25 = some (.slice 2)) ∧ (el Try.prog 25 = some (none, 1)) ∧ (tk Try.prog 2 = some none) ∧ (cz Try.prog 2 = some 1) ∧ (bz Try.prog 2 = some 8) ∧ (zr Try.prog 2 = some (.int .i64 0)) ∧ (ik Try.prog 3 = some .i64) ∧ (ik Try.prog 130 = some .u64) ∧ (ik Try.prog 162 = some .u32) := by
  refine ⟨?_, ?_, ?_, ?_, ?_, ?_, ?_, ?_, ?_⟩ <;> kernel_rfl
end tfY23
open tfY23
theorem mul64_z {n : Int} (hn : n = 7 ∨ n = 14) : ZCalls Try.prog 178 [.int .u64 1, .int .u64 n] (.tuple #[.int .u64 0, .int .u64 n]) := by
  rcases hn with rfl | rfl
  · refine ZCalls.body Try.func178 rfl Try.ntmps178 (rs := [.tmp 4, .tmp 5]) rfl (by simp) rfl fun H Q hQ A hA => ?_
    have a0 := hA 0 _ _ rfl
    have a1 := hA 1 _ _ rfl
    clear hA
    repeat' first | refine rnY ?_ | with_reducible refine And.intro (fun hc => ?_) (fun hc => ?_) | fail
    exact hQ.out _ _ (.eq (Cl.tuple (l := [.int .u64 0, .int .u64 7]) (Cl.cons (Cl.int _ _) (Cl.cons (Cl.int _ _) Cl.nil))) (by kernel_rfl)) (by exact exY)
  · refine ZCalls.body Try.func178 rfl Try.ntmps178 (rs := [.tmp 4, .tmp 5]) rfl (by simp) rfl fun H Q hQ A hA => ?_
    have a0 := hA 0 _ _ rfl
    have a1 := hA 1 _ _ rfl
    clear hA
    repeat' first | refine rnY ?_ | with_reducible refine And.intro (fun hc => ?_) (fun hc => ?_) | fail
    exact hQ.out _ _ (.eq (Cl.tuple (l := [.int .u64 0, .int .u64 14]) (Cl.cons (Cl.int _ _) (Cl.cons (Cl.int _ _) Cl.nil))) (by kernel_rfl)) (by exact exY)
theorem mul_z {n : Int} (hn : n = 7 ∨ n = 14) : ZCalls Try.prog 134 [.int .u64 1, .int .u64 n] (.tuple #[.int .u64 0, .int .u64 n]) := by
  have hm := mul64_z hn
  refine ZCalls.body Try.func134 rfl Try.ntmps134 (rs := [.tmp 4, .tmp 5]) rfl (by simp) rfl fun H Q hQ A hA => ?_
  have a0 := hA 0 _ _ rfl
  have a1 := hA 1 _ _ rfl
  clear hA
  repeat' first | refine rnY ?_ | (first | refine ZCalls.to (hm) ?_ | refine ZCalls.tf (hm) ?_) | with_reducible refine And.intro (fun hc => ?_) (fun hc => ?_) | fail
  exact hQ.out _ _ (.eq (Cl.tuple (l := [.int .u64 0, .int .u64 n]) (Cl.cons (Cl.int _ _) (Cl.cons (Cl.int _ _) Cl.nil))) rfl) (by exact exY)
theorem copyZ_k {H : Heap} {g n c : Nat} {l : List Int} {m : Int} {K : Value → Heap → Prop} (hg : H.get g = .cells (ints l) 1 false) (hl : l.length = n) (h0 : 0 < n) (h : K (I 1) (H.set g (.cells (ints (l.set 0 m)) 1 false))) : copyK Try.prog 25 (.slice (some ⟨g, 0, none⟩) n c) (FZ 1 1 [I m]) H K := by
  have hu : Try.prog.underlying 25 = some (.slice 2) := rfl
  have hc : cz Try.prog 2 = some 1 := rfl
  have hm : Nat.min 1 n = 1 := Nat.min_eq_left h0
  unfold copyK
  simp only [hu, hc, FZ, hg, hm]
  refine ⟨by trivial, by trivial, by trivial, one_ints [m], by rw [ints_len]; omega, ?_⟩
  have e : ints (l.set 0 m) = List.take 0 (ints l) ++ List.take (1 * 1) [I m] ++ List.drop (0 + 1 * 1) (ints l) := by
    cases l with
    | nil => simp at hl; omega
    | cons x l => rfl
  rw [e] at h
  exact h
theorem copyS_k {H : Heap} {g n c c' j : Nat} {l : List Int} {K : Value → Heap → Prop} (hg : H.get g = .cells (ints l) 1 false) (hl : l.length = n) (hj : j ≤ n) (h : K (I (min j (n - j) : Nat)) (H.set g (.cells (ints (l.take j ++ l.take (min j (n - j)) ++ l.drop (j + min j (n - j)))) 1 false))) : copyK Try.prog 25 (.slice (some ⟨g, j, none⟩) (n - j) c) (.slice (some ⟨g, 0, none⟩) j c') H K := by
  have hu : Try.prog.underlying 25 = some (.slice 2) := rfl
  have hc : cz Try.prog 2 = some 1 := rfl
  have hm : Nat.min j (n - j) = min j (n - j) := rfl
  have hle : min j (n - j) ≤ n - j := Nat.min_le_right _ _
  have hlj : min j (n - j) ≤ j := Nat.min_le_left _ _
  unfold copyK
  simp only [hu, hc, hg, hm]
  generalize min j (n - j) = k at *
  refine ⟨by trivial, by trivial, ints (l.take k), ?_, one_ints _, by rw [ints_len]; omega, ?_⟩
  · unfold Heap.range
    rw [hg]
    simp only [ints_len]
    rw [if_pos (by omega)]
    unfold Zed.ints
    rw [List.drop_zero, Nat.mul_one, List.map_take]
  · rw [Nat.mul_one]
    have e : ints (l.take j ++ l.take k ++ l.drop (j + k)) = List.take j (ints l) ++ ints (l.take k) ++ List.drop (j + k) (ints l) := by
      unfold Zed.ints
      rw [List.map_append, List.map_append, List.map_take, List.map_take, List.map_drop]
    rw [e] at h
    exact h
theorem AOps.copyc {P : Program} {m : Nat} {ops : Array Oper} {rest : List Oper} {K : Fr → Heap → Prop} {A : Fr} {H : Heap} {dst : Option Nat} {ty dt st : TypeId} {pos : String} {af} {i j : Nat} {x y : Value} (hd : dstOk m dst = true) (hi : A i = x) (hj : A j = y) (h : ∀ K' : Value → Heap → Prop, Cont (∀ v H', AOps P m ops rest K (put A dst v) H' → K' v H') → copyK P dt x y H K') : AOps P m ops (⟨dst, .call ⟨.builtin .copy, #[.tmp i, .tmp j], #[dt, st]⟩, ty, pos, af, none⟩ :: rest) K A H := by
  refine AOps.cons2 hd rfl fun K' hK => ?_
  have h := h K' hK
  rw [← hi, ← hj] at h
  exact h
theorem AZ.copyc {P : Program} {l : List Oper} {i : Nat} {plan : List (Nat × Option (List Nat))} {held : HeldG} {K : Fr → Heap → Prop} {A : Fr} {H : Heap} {dst : Option Nat} {ty dt st : TypeId} {pos : String} {af : Array Edge} {r : List Oper} {rel : List Nat} {a b : Nat} {x y : Value} (hi : l.drop i = ⟨dst, .call ⟨.builtin .copy, #[.tmp a, .tmp b], #[dt, st]⟩, ty, pos, af, none⟩ :: r) (ha : A a = x) (hb : A b = y)
    (h : ∀ Kx : Value → Heap → Prop, (∀ v H', heldG (dropG rel held) H' ∧ AZ P l K plan (dropG rel held) (put A dst v) H' → Kx v H') → copyK P dt x y H Kx) : AZ P l K ((i, some rel) :: plan) held A H := by
  refine AZ.ef hi fun Kx hKx => ?_
  have h := h Kx fun v H' q => hKx v H' q.1 q.2
  rw [← ha, ← hb] at h
  exact h
/-- The row while it is filled. -/
def rpL (m : Int) (n j : Nat) : List Int := List.replicate j m ++ List.replicate (n - j) 0
theorem rpL_len (m : Int) (n j : Nat) (h : j ≤ n) : (rpL m n j).length = n := by simp [rpL]; omega
theorem rpL_one (m : Int) (n : Nat) (h : 0 < n) : (List.replicate n 0).set 0 m = rpL m n 1 := by
  cases n with
  | zero => omega
  | succ n => simp [rpL, List.replicate_succ]
theorem rpL_step (m : Int) (n j k : Nat) (hk : k ≤ j) (hk2 : k ≤ n - j) (hj : j ≤ n) : (rpL m n j).take j ++ (rpL m n j).take k ++ (rpL m n j).drop (j + k) = rpL m n (j + k) := by
  have e1 : (rpL m n j).take j = List.replicate j m := by simp [rpL, List.take_append]
  have e2 : (rpL m n j).take k = List.replicate k m := by simp [rpL, List.take_append, show k - j = 0 by omega, Nat.min_eq_left hk]
  have e3 : (rpL m n j).drop (j + k) = List.replicate (n - (j + k)) 0 := by simp [rpL, List.drop_append]; omega
  rw [e1, e2, e3]
  simp [rpL, List.replicate_append_replicate]
set_option maxHeartbeats 2000000 in
theorem repeat_z {m : Int} {n : Nat} (hn : (n : Int) = 7 ∨ (n : Int) = 14) : ZCalls Try.prog 87 [FZ 1 1 [I m], I n] (zI (List.replicate n m)) := by
  have hmu := mul_z hn
  have hw1 : IntKind.u64.wrap 1 = 1 := rfl
  have hwn : IntKind.u64.wrap (n : Int) = n := by rcases hn with h | h <;> rw [h] <;> rfl
  have hwi : IntKind.i64.wrap (n : Int) = n := by rcases hn with h | h <;> rw [h] <;> rfl
  have hg : decide ((n : Int) > 9223372036854775807) = false := by rcases hn with h | h <;> rw [h] <;> rfl
  have hnb : 0 < n ∧ n ≤ 14 := by omega
  refine ZCalls.body Try.func87 rfl Try.ntmps87 (rs := [.tmp 4]) rfl (by simp) rfl fun H Q hQ A hA => ?_
  have a0 := hA 0 _ _ rfl
  have a1 := hA 1 _ _ rfl
  clear hA
  have zf0 := @rep_ints
  have zf1 := @zero1
  repeat' first | refine rnY ?_ | (first | refine ZCalls.to (hmu) ?_ | refine ZCalls.tf (hmu) ?_) | with_reducible refine And.intro (fun hc => ?_) (fun hc => ?_) | fail
  refine AOps.copyc (x := .slice (some ⟨H.size, 0, none⟩) n (n + 1)) (y := FZ 1 1 [I m]) rfl (by exact ivY) (by exact ivY) fun K hK => ?_
  refine copyZ_k (l := List.replicate n 0) (by exact ivY) (by simp) hnb.1 ?_
  rw [rpL_one m n hnb.1]
  have hh := hK.out (I 1) ((H.push (.cells (ints (List.replicate n 0)) 1 false)).set H.size (.cells (ints (rpL m n 1)) 1 false)) ?_
  exact hh
  clear hK
  repeat' first | refine rnY ?_ | with_reducible refine And.intro (fun hc => ?_) (fun hc => ?_) | fail
  refine AWp.cut (fun Ac hAc => ?_)
  have c7 := gtY (t := 7) hAc
  have c8 := gtY (t := 8) hAc
  clear a0 a1 hw1 hwn hwi hg hmu hn
  refine AWp.loop (fun A' H' => ∃ (j : Nat), Ag [34, 35, 36, 37, 38, 39, 40, 41, 42, 43, 44, 45, 46] A' (put Ac (some 8) (I j)) ∧ 1 ≤ j ∧ j ≤ n ∧ H' = H.push (.cells (ints (rpL m n j)) 1 false)) (fun A' _ => n - (intV (A' 8)).toNat) ?_ ?_
  · exact ⟨1, agY, by omega, by omega, rfl⟩
  · rintro A1 H1 ⟨j, hA, hj1, hj2, rfl⟩
    have d7 := gdY (t := 7) hA
    have d8 := gdY (t := 8) hA
    by_cases hlt : j < n
    · have hle : min j (n - j) ≤ n - j := Nat.min_le_right _ _
      have hlj : min j (n - j) ≤ j := Nat.min_le_left _ _
      have hpos : 0 < min j (n - j) := by omega
      have hst := rpL_step m n j _ hlj hle hj2
      have hlen := rpL_len m n j hj2
      have hnj : ¬ n = j := by omega
      repeat' first | refine rnY ?_ | with_reducible refine And.intro (fun hc => ?_) (fun hc => ?_) | fail
      refine AWp.zreg [(0, none), (1, none), (2, none), (3, none), (4, none), (5, none), (6, none), (7, some []), (8, none), (9, none)] mixed (by kernel_rfl) ?_
      repeat' first | refine rzY ?_ | (refine AZ.copyc rfl (x := .slice (some ⟨H.size, j, none⟩) (n - j) (n - j + 1)) (y := .slice (some ⟨H.size, 0, none⟩) j (n + 1)) (by exact ivY) (by exact ivY) fun Kx hKx => ?_; refine copyS_k (l := rpL m n j) (by exact ivY) hlen hj2 ?_; rw [hst]; generalize min j (n - j) = k at *; refine hKx _ _ ?_; refine hgY ?_) | fail
      repeat' first | refine rnY ?_ | with_reducible refine And.intro (fun hc => ?_) (fun hc => ?_) | fail
      exact ⟨⟨j + k, agY, by omega, by omega, by exact ivY⟩, by exact ivY⟩
    · obtain rfl : j = n := by omega
      have hfin : rpL m j j = List.replicate j m := by simp [rpL]
      rw [hfin]
      repeat' first | refine rnY ?_ | with_reducible refine And.intro (fun hc => ?_) (fun hc => ?_) | fail
      have hO : OwnB H.size (H.size + 1) (H.push (.cells (ints (List.replicate j m)) 1 false)) [.slice (some ⟨H.size, 0, none⟩) j (j + 1)] [zI (List.replicate j m)] := by
        have h1 := OwnB.ints (H := H.push (.cells (ints (List.replicate j m)) 1 false)) (lo := H.size) (hi := H.size + 1) (g := H.size) (n := j) (c := j + 1) (l := List.replicate j m) (Nat.le_refl _) (Nat.lt_succ_self _) (by simp) (get_push_eq rfl)
        unfold Zed.zI
        rw [List.length_replicate]; exact h1
      exact hQ.out _ _ (hO.fin) (by exact exY)
theorem mul640_z : ZCalls Try.prog 178 [.int .u64 1, .int .u64 0] (.tuple #[.int .u64 0, .int .u64 0]) := by
  refine ZCalls.body Try.func178 rfl Try.ntmps178 (rs := [.tmp 4, .tmp 5]) rfl (by simp) rfl fun H Q hQ A hA => ?_
  have a0 := hA 0 _ _ rfl
  have a1 := hA 1 _ _ rfl
  clear hA
  repeat' first | refine rnY ?_ | with_reducible refine And.intro (fun hc => ?_) (fun hc => ?_) | fail
  exact hQ.out _ _ (.eq (Cl.tuple (l := [.int .u64 0, .int .u64 0]) (Cl.cons (Cl.int _ _) (Cl.cons (Cl.int _ _) Cl.nil))) (by kernel_rfl)) (by exact exY)
theorem mul0_z : ZCalls Try.prog 134 [.int .u64 1, .int .u64 0] (.tuple #[.int .u64 0, .int .u64 0]) := by
  have hm := mul640_z
  refine ZCalls.body Try.func134 rfl Try.ntmps134 (rs := [.tmp 4, .tmp 5]) rfl (by simp) rfl fun H Q hQ A hA => ?_
  have a0 := hA 0 _ _ rfl
  have a1 := hA 1 _ _ rfl
  clear hA
  repeat' first | refine rnY ?_ | (first | refine ZCalls.to (hm) ?_ | refine ZCalls.tf (hm) ?_) | with_reducible refine And.intro (fun hc => ?_) (fun hc => ?_) | fail
  exact hQ.out _ _ (.eq (Cl.tuple (l := [.int .u64 0, .int .u64 0]) (Cl.cons (Cl.int _ _) (Cl.cons (Cl.int _ _) Cl.nil))) rfl) (by exact exY)
theorem copy0_k {H : Heap} {g c : Nat} {m : Int} {K : Value → Heap → Prop} (hg : H.get g = .cells (ints []) 1 false) (h : K (I 0) (H.set g (.cells (ints []) 1 false))) : copyK Try.prog 25 (.slice (some ⟨g, 0, none⟩) 0 c) (FZ 1 1 [I m]) H K := by
  have hu : Try.prog.underlying 25 = some (.slice 2) := rfl
  have hc : cz Try.prog 2 = some 1 := rfl
  have hm : Nat.min 1 0 = 0 := rfl
  unfold copyK
  simp only [hu, hc, FZ, hg, hm]
  refine ⟨by trivial, by trivial, by trivial, fun v hv => by simp at hv, by simp, ?_⟩
  exact h
set_option maxHeartbeats 2000000 in
theorem repeat0_z {m : Int} : ZCalls Try.prog 87 [FZ 1 1 [I m], I 0] (zI []) := by
  have hmu := mul0_z
  have hw1 : IntKind.u64.wrap 1 = 1 := rfl
  have hw0 : IntKind.u64.wrap 0 = 0 := rfl
  have hg : decide ((0 : Int) > 9223372036854775807) = false := rfl
  refine ZCalls.body Try.func87 rfl Try.ntmps87 (rs := [.tmp 4]) rfl (by simp) rfl fun H Q hQ A hA => ?_
  have a0 := hA 0 _ _ rfl
  have a1 := hA 1 _ _ rfl
  clear hA
  have zf0 := @rep_ints
  have zf1 := @zero1
  repeat' first | refine rnY ?_ | (first | refine ZCalls.to (hmu) ?_ | refine ZCalls.tf (hmu) ?_) | with_reducible refine And.intro (fun hc => ?_) (fun hc => ?_) | fail
  refine AOps.copyc (x := .slice (some ⟨H.size, 0, none⟩) 0 1) (y := FZ 1 1 [I m]) rfl (by exact ivY) (by exact ivY) fun K hK => ?_
  refine copy0_k (get_push_eq rfl) ?_
  have hh := hK.out (I 0) ((H.push (.cells [] 1 false)).set H.size (.cells (ints []) 1 false)) ?_
  exact hh
  clear hK
  repeat' first | refine rnY ?_ | with_reducible refine And.intro (fun hc => ?_) (fun hc => ?_) | fail
  refine AWp.cut (fun Ac hAc => ?_)
  have c7 := gtY (t := 7) hAc
  have c8 := gtY (t := 8) hAc
  clear a0 a1 hw1 hw0 hg hmu
  refine AWp.loop (fun A' H' => ∃ _ : Unit, Ag [34, 35, 36, 37, 38, 39, 40, 41, 42, 43, 44, 45, 46] A' (put Ac (some 8) (I 0)) ∧ H' = H.push (.cells [] 1 false)) (fun A' _ => 0) ?_ ?_
  · exact ⟨(), agY, by exact ivY⟩
  · rintro A1 H1 ⟨_, hA, rfl⟩
    have d7 := gdY (t := 7) hA
    have d8 := gdY (t := 8) hA
    have hO : OwnB H.size (H.size + 1) (H.push (.cells [] 1 false)) [.slice (some ⟨H.size, 0, none⟩) 0 1] [zI []] := OwnB.ints (H := H.push (.cells [] 1 false)) (lo := H.size) (hi := H.size + 1) (g := H.size) (n := 0) (c := 1) (l := []) (Nat.le_refl _) (Nat.lt_succ_self _) rfl (get_push_eq rfl)
    repeat' first | refine rnY ?_ | with_reducible refine And.intro (fun hc => ?_) (fun hc => ?_) | fail
    exact hQ.out _ _ (hO.fin) (by exact exY)
end Go.Proofs.Ytmoknllbpjpkmaa.Zed
namespace Go.Proofs.Ytmoknllbpjpkmaa.Zed
open Go TP
set_option linter.unusedVariables false
set_option linter.unusedSimpArgs false
set_option maxRecDepth 20000
namespace tfY24
theorem tf : (Try.prog.underlying 25 = some (.slice 2)) ∧ (el Try.prog 25 = some (none, 1)) ∧ (Try.prog.underlying 51 = some (.slice 25)) ∧ (el Try.prog 51 = some (none, 1)) ∧ (tk Try.prog 2 = some none) ∧ (tk Try.prog 25 = some none) ∧ (tk Try.prog 51 = some none) ∧ (cz Try.prog 2 = some 1) ∧ (bz Try.prog 2 = some 8) ∧ (cz Try.prog 25 = some 1) ∧ (bz Try.prog 25 = some 24) ∧ (zr Try.prog 2 = some (.int .i64 0)) ∧ (zr Try.prog 25 = some (.slice none 0 0)) := by
  refine ⟨?_, ?_, ?_, ?_, ?_, ?_, ?_, ?_, ?_, ?_, ?_, ?_, ?_⟩ <;> kernel_rfl
end tfY24
open tfY24
theorem RowsB.ext {z bm : Nat} {R : List (List Int)} {H H' : Heap} (h : RowsB z bm R H) (hbm : bm < H.size) (he : Ext H H') : RowsB z bm R H' := by
  rcases h with ⟨h1, h2⟩ | ⟨b, cs, ks, h1, h2, h3, h5, h6, h7, h8⟩
  · exact .inl ⟨h1, (he.get bm hbm).trans h2⟩
  · have hs := he.size
    refine .inr ⟨b, cs, ks, (he.get bm hbm).trans h1, h2, by omega, (he.get b h3).trans h5, h6, h7.keep (.inl rfl) (Nat.le_refl _) fun k hk' => ?_, fun x hx => ⟨by have := (h8 x hx).1; omega, (h8 x hx).2⟩⟩
    rw [he.get k.1 (h8 k hk').1]
    exact (h7.get k hk').2
set_option maxHeartbeats 4000000 in
theorem fvVisit_c {H : Heap} {z bm g cnt : Nat} {R : List (List Int)} {u : List Int} (hbm : bm < z) (hbmg : bm ≠ g) (hzh : z ≤ H.size) (hgz : g < z) (hR : RowsB z bm R H) (hRl : R.length ≤ 100000) (hgu : H.get g = .cells (ints u) 1 false) (hl : u.length ≤ 1000) (hcnt : u.length = 7 * cnt) (hbu : ∀ j, 0 ≤ u.getD j 0 ∧ u.getD j 0 ≤ 1000) :
    ACalls Try.prog 88 [.slice (some ⟨g, 0, none⟩) u.length (u.length + 1), .pointer (some ⟨bm, 0, none⟩)] H fun r H' => r = B true ∧ H.size ≤ H'.size ∧ RowsB z bm (if (one7 u cnt && decide (gT u u.length ≠ 0)) = true then R ++ [u] else R) H' ∧ ∀ x, x < z → x ≠ bm → H'.get x = H.get x := by
  have hg : g < H.size := by omega
  have hbms : bm < H.size := by omega
  have hO : OwnB 0 H.size H [.slice (some ⟨g, 0, none⟩) u.length (u.length + 1)] [zI u] := OwnB.ints (by omega) hg rfl hgu
  have hcl := fun H0 (he : Ext H H0) => cloneW_c (H := H0) (c := u.length + 1) ((he.get g hg).trans hgu) (Nat.lt_of_lt_of_le hg he.size) hl
  have hot := hasOneType_z hcnt (by omega)
  have hgc := gcdOf_z (l := u) (by omega) hbu
  clear hcnt
  cases ho : one7 u cnt
  · rw [ho] at hot
    rw [if_neg (by simp)]
    clear hgc hcl
    refine ACalls.body Try.func88 rfl Try.ntmps88 (rs := [.tmp 3]) rfl (by simp) rfl fun Q hQ A hA => ?_
    have a0 := hA 0 _ _ rfl
    have a1 := hA 1 _ _ rfl
    clear hA
    repeat' first | refine rnY ?_ | (refine (hot.lend rfl (.ownB (hO.ext (Nat.le_refl _) (by exact exY)) .nil)).mono ?_; rintro r H2 ⟨rfl, he⟩; have heg := he.get; have hes := he.size; (try simp only [nx] at hes)) | with_reducible refine And.intro (fun hc => ?_) (fun hc => ?_) | fail
    exact hQ.out _ _ ⟨rfl, he.size, hR.ext hbms he, fun x hx hn => heg x (by omega)⟩
  rw [ho] at hot
  by_cases hz : gT u u.length = 0
  · rw [if_neg (by simp [hz])]
    rw [hz] at hgc
    clear hcl
    refine ACalls.body Try.func88 rfl Try.ntmps88 (rs := [.tmp 3]) rfl (by simp) rfl fun Q hQ A hA => ?_
    have a0 := hA 0 _ _ rfl
    have a1 := hA 1 _ _ rfl
    clear hA
    repeat' first | refine rnY ?_ | (refine (hot.lend rfl (.ownB (hO.ext (Nat.le_refl _) (by exact exY)) .nil)).mono ?_; rintro r H2 ⟨rfl, he⟩; have heg := he.get; have hes := he.size; (try simp only [nx] at hes)) | (refine (hgc.lend rfl (.ownB (hO.ext (Nat.le_refl _) (by exact exY)) .nil)).mono ?_; rintro r H3 ⟨rfl, he3⟩; have he3g := he3.get; have he3s := he3.size; (try simp only [nx] at he3s)) | with_reducible refine And.intro (fun hc => ?_) (fun hc => ?_) | fail
    exact hQ.out _ _ ⟨rfl, by first | omega | (simp only [nx]; omega), hR.ext hbms (by exact exY), fun x hx hn => (he3g x (by omega)).trans (heg x (by omega))⟩
  · have hzb : (((gT u u.length : Nat) : Int) == 0) = false := by rw [beq_eq_false_iff_ne]; omega
    rw [if_pos (by simp [hz])]
    generalize ((gT u u.length : Nat) : Int) = d at *
    clear hz
    have hfin : ∀ H0 b' c' (w : Value), w = .slice (some ⟨b', 0, none⟩) u.length c' → Ext H H0 → ∀ H1, OwnB H0.size H1.size H1 [w] [zI u] → Ext H0 H1 → (∀ cs ks, cs.length = R.length → OwnL false z H0 cs (R.map fun r => zI r) ks → (∀ x ∈ ks, x.1 < H0.size) → ∀ H2 : Heap, H2.size = H1.size + 1 → H2.get H1.size = .cells (cs ++ [w]) 1 false → H2.get bm = .cells [.slice (some ⟨H1.size, 0, none⟩) (R.length + 1) 0] 1 false → (∀ x ∈ ks, H2.get x.1 = H1.get x.1) → (∀ x, H0.size ≤ x → x < H1.size → H2.get x = H1.get x) → RowsB z bm (R ++ [u]) H2) := fun H0 b' c' w hw he0 H1 hO1 he1 cs ks q1 q2 q3 H2 q4 q5 q6 q7 q8 =>
      RowsB.snoc hbm (Nat.le_trans hzh he0.size) q1 q2 q3 hO1 he1.size (fun x hx => he1.get x.1 (q3 x hx)) q4 q5 q6 q7 q8
    rcases hR with ⟨rfl, hb⟩ | ⟨b, cs, ks, h1, h2, h3, h5, h6, h7, h8⟩
    · refine ACalls.body Try.func88 rfl Try.ntmps88 (rs := [.tmp 3]) rfl (by simp) rfl fun Q hQ A hA => ?_
      have a0 := hA 0 _ _ rfl
      have a1 := hA 1 _ _ rfl
      clear hA
      repeat' first | refine rnY ?_ | (refine (hot.lend rfl (.ownB (hO.ext (Nat.le_refl _) (by exact exY)) .nil)).mono ?_; rintro r H2 ⟨rfl, he⟩; have heg := he.get; have hes := he.size; (try simp only [nx] at hes)) | (refine (hgc.lend rfl (.ownB (hO.ext (Nat.le_refl _) (by exact exY)) .nil)).mono ?_; rintro r H3 ⟨rfl, he3⟩; have he3g := he3.get; have he3s := he3.size; (try simp only [nx] at he3s)) | with_reducible refine And.intro (fun hc => ?_) (fun hc => ?_) | fail
      have hE3 : Ext H H3 := by exact exY
      have hbm3 : bm < H3.size := by omega
      have hb3 := (hE3.get bm hbms).trans hb
      refine AWp.zreg [(0, none), (1, none), (2, some []), (3, none), (4, some [0]), (5, some [0])] mixed (by kernel_rfl) ?_
      repeat' first | refine rzY ?_ | (refine (hcl _ hE3).mono ?_; rintro w H1 ⟨b', c', rfl, he1, hO1⟩; have hone := hO1.one; have he1g := he1.get; have he1s := he1.size; (try simp only [nx] at he1s); refine hgY ?_) | (refine appR0 rfl ?_; refine hgY ?_) | fail
      repeat' first | refine rnY ?_ | with_reducible refine And.intro (fun hc => ?_) (fun hc => ?_) | fail
      have hs := hfin H3 b' c' _ rfl hE3 H1 hO1 he1 [] [] rfl .nil (fun x hx => by cases hx) ((H1.set bm (.cells [.slice (some ⟨H1.size, 0, none⟩) 1 0] 1 false)).push (.cells [.slice (some ⟨b', 0, none⟩) u.length c'] 1 false)) rfl (get_push_eq rfl) ((get_push_lt (by first | omega | (simp only [nx]; omega))).trans get_set_eq) (fun x hx => by cases hx) (fun x hx1 hx2 => (get_push_lt (by first | omega | (simp only [nx]; omega))).trans (get_set_ne (by omega)))
      exact hQ.out _ _ ⟨rfl, by first | omega | (simp only [nx]; omega), hs, fun x hx hn => (get_push_lt (by first | omega | (simp only [nx]; omega))).trans ((get_set_ne hn).trans ((he1g x (by omega)).trans (hE3.get x (by omega))))⟩
    · have hbmb : bm ≠ b := by omega
      have hgb : g ≠ b := by omega
      refine ACalls.body Try.func88 rfl Try.ntmps88 (rs := [.tmp 3]) rfl (by simp) rfl fun Q hQ A hA => ?_
      have a0 := hA 0 _ _ rfl
      have a1 := hA 1 _ _ rfl
      clear hA
      repeat' first | refine rnY ?_ | (refine (hot.lend rfl (.ownB (hO.ext (Nat.le_refl _) (by exact exY)) .nil)).mono ?_; rintro r H2 ⟨rfl, he⟩; have heg := he.get; have hes := he.size; (try simp only [nx] at hes)) | (refine (hgc.lend rfl (.ownB (hO.ext (Nat.le_refl _) (by exact exY)) .nil)).mono ?_; rintro r H3 ⟨rfl, he3⟩; have he3g := he3.get; have he3s := he3.size; (try simp only [nx] at he3s)) | with_reducible refine And.intro (fun hc => ?_) (fun hc => ?_) | fail
      have hE3 : Ext H H3 := by exact exY
      have hbm3 : bm < H3.size := by omega
      have hb3 : b < H3.size := by omega
      have hg3 := (hE3.get bm hbms).trans h1
      have h73 : OwnL false z H3 cs (R.map fun r => zI r) ks := h7.keep (.inl rfl) (Nat.le_refl _) fun k hk' => by rw [hE3.get k.1 (h8 k hk').1]; exact (h7.get k hk').2
      refine AWp.zreg [(0, none), (1, none), (2, some []), (3, none), (4, some [0]), (5, some [0])] mixed (by kernel_rfl) ?_
      repeat' first | refine rzY ?_ | (refine (hcl _ hE3).mono ?_; rintro w H1 ⟨b', c', rfl, he1, hO1⟩; have hone := hO1.one; have he1g := he1.get; have he1s := he1.size; (try simp only [nx] at he1s); refine hgY ?_) | (refine appR ((he1g b hb3).trans ((hE3.get b h3).trans h5)) h6 rfl (by omega) ?_; refine hgY ?_) | fail
      repeat' first | refine rnY ?_ | with_reducible refine And.intro (fun hc => ?_) (fun hc => ?_) | fail
      have hhb : H1.size ≤ H1.size := Nat.le_refl _
      have hs := hfin H3 b' c' _ rfl hE3 H1 hO1 he1 cs ks h6 h73 (fun x hx => by have := (h8 x hx).1; omega) (((H1.set b .dead).set bm (.cells [.slice (some ⟨H1.size, 0, none⟩) (R.length + 1) 0] 1 false)).push (.cells (cs ++ [.slice (some ⟨b', 0, none⟩) u.length c']) 1 false)) rfl (get_push_eq rfl) ((get_push_lt (by first | omega | (simp only [nx]; omega))).trans get_set_eq) (fun x hx => ?_) (fun x hx1 hx2 => (get_push_lt (by first | omega | (simp only [nx]; omega))).trans ((get_set_ne (by omega)).trans (get_set_ne (by omega))))
      · exact hQ.out _ _ ⟨rfl, by first | omega | (simp only [nx]; omega), hs, fun x hx hn => (get_push_lt (by first | omega | (simp only [nx]; omega))).trans ((get_set_ne hn).trans ((get_set_ne (by omega)).trans ((he1g x (by omega)).trans (hE3.get x (by omega)))))⟩
      · have hx8 := h8 x hx
        have hxz := (h7.get x hx).1
        exact (get_push_lt (by first | omega | (simp only [nx]; omega))).trans ((get_set_ne (by omega)).trans (get_set_ne hx8.2))
theorem fv2_c {H : Heap} {b : Nat} {w wv : Value} {u v : List Int} (ha : ArgL H [w, wv] [zI u, zI v]) (hv : H.get b = .cells [wv] 1 false) (hb : b < H.size) (hw : w.oneCell' = true) (hwv : wv.oneCell' = true) (hu : u.length ≤ 1000) (huv : v.length = u.length) :
    ACalls Try.prog 91 [w, .pointer (some ⟨b, 0, none⟩)] H fun r H' => r = B (lessB u v) ∧ Ext H H' := by
  have hi := (isLess_z (u := u) (v := v) (by omega) huv).lend rfl ha
  refine ACalls.body Try.func91 rfl Try.ntmps91 (rs := [.tmp 3]) rfl (by simp) rfl fun Q hQ A hA => ?_
  have a0 := hA 0 _ _ rfl
  have a1 := hA 1 _ _ rfl
  clear hA
  repeat' first | refine rnY ?_ | (refine hi.mono ?_; rintro r H2 ⟨rfl, he⟩) | with_reducible refine And.intro (fun hc => ?_) (fun hc => ?_) | fail
  exact hQ.out _ _ ⟨rfl, he⟩
end Go.Proofs.Ytmoknllbpjpkmaa.Zed
namespace Go.Proofs.Ytmoknllbpjpkmaa.Zed
open Go TP
set_option linter.unusedVariables false
set_option linter.unusedSimpArgs false
set_option maxRecDepth 20000
namespace tfY25
theorem tf : (Try.prog.underlying 25 = some (.slice 2)) ∧ (el Try.prog 25 = some (none, 1)) ∧ (tk Try.prog 2 = some none) ∧ (cz Try.prog 2 = some 1) ∧ (bz Try.prog 2 = some 8) ∧ (zr Try.prog 2 = some (.int .i64 0)) ∧ (ik Try.prog 3 = some .i64) ∧ (ik Try.prog 130 = some .u64) := by
  refine ⟨?_, ?_, ?_, ?_, ?_, ?_, ?_, ?_⟩ <;> kernel_rfl
end tfY25
open tfY25
abbrev boxL (T : List (List (Int × Int))) (m : Int) : List Int := List.replicate (7 * T.length) m
def fvL (T : List (List (Int × Int))) (m : Int) : List (List Int) := (PT T (boxL T m)).filter fun u => one7 u T.length && fdB T u
abbrev mOk (T : List (List (Int × Int))) (m : Int) : Prop := (1 ≤ m ∧ m ≤ 3) ∧ ¬ (m > 1 ∧ T.length = 2)
/-- What FundamentalVectors answers. -/
def fmV (T : List (List (Int × Int))) (m : Int) : Value :=
  if codeN T = 0 then (if T.length ≤ 2 then (if mOk T m then (if (fvL T m).length ≤ 400 then iiV (fvL T m) 0 else iiV [] 3) else iiV [] 2) else iiV [] 3) else iiV [] (codeN T)
theorem box_ok {T : List (List (Int × Int))} {m : Int} (h2 : T.length ≤ 2) (hm : mOk T m) : OkB T (boxL T m) := by
  refine ⟨by simp, fun j => ?_, ?_⟩
  · simp only [boxL, List.getD_eq_getElem?_getD, List.getElem?_replicate]
    split
    · simp; omega
    · simp
  · rw [allU_pd]
    obtain ⟨⟨h1, h3⟩, h4⟩ := hm
    unfold boxL
    have hm3 : m = 1 ∨ m = 2 ∨ m = 3 := by omega
    rcases (show T.length = 0 ∨ T.length = 1 ∨ T.length = 2 by omega) with h | h | h
    · rw [h]; rcases hm3 with rfl | rfl | rfl <;> decide
    · rw [h]; rcases hm3 with rfl | rfl | rfl <;> decide
    · have : m = 1 := by
        rcases hm3 with rfl | rfl | rfl
        · rfl
        · exact absurd ⟨by decide, h⟩ h4
        · exact absurd ⟨by decide, h⟩ h4
      subst this
      rw [h]; decide
theorem rep7_z {m : Int} {n : Nat} (hn : n ≤ 2) : ZCalls Try.prog 87 [FZ 1 1 [I m], I (7 * (n : Int))] (zI (List.replicate (7 * n) m)) := by
  rcases (show n = 0 ∨ n = 1 ∨ n = 2 by omega) with rfl | rfl | rfl
  · exact repeat0_z
  · exact repeat_z (n := 7) (.inl rfl)
  · exact repeat_z (n := 14) (.inr rfl)
/-- The rows, each by itself. -/
theorem OwnL.each {z : Nat} {H : Heap} : ∀ {A : List (List Int)} {cs : List Value} {ks : List (Nat × Blk)}, OwnL false z H cs (A.map fun r => zI r) ks → (∀ k ∈ ks, k.1 < H.size) → ∀ x ∈ cs.zip A, OwnB z H.size H [x.1] [zI x.2]
  | [], cs, ks, h, hb, x, hx => by simp at hx
  | a :: A, cs, ks, h, hb, x, hx => by
    obtain ⟨v, vs3, k3, k4, rfl, h3, h4, hd2, rfl⟩ := OwnL.cons_inv (rs := A.map fun r => zI r) h
    rw [List.zip_cons_cons] at hx
    rcases List.mem_cons.1 hx with rfl | hx
    · exact ⟨k3, h3, fun k hk => hb k (List.mem_append_left _ hk)⟩
    · exact OwnL.each h4 (fun k hk => hb k (List.mem_append_right _ hk)) x hx
/-- Some of the rows. -/
theorem OwnL.pick {z : Nat} {H : Heap} (p : List Int → Bool) : ∀ {A : List (List Int)} {cs : List Value} {ks : List (Nat × Blk)}, OwnL false z H cs (A.map fun r => zI r) ks → ∃ ks', OwnL false z H (((cs.zip A).filter fun x => p x.2).map (·.1)) ((((cs.zip A).filter fun x => p x.2).map (·.2)).map fun r => zI r) ks' ∧ ∀ k ∈ ks', k ∈ ks
  | [], cs, ks, h => ⟨[], by simp; exact .nil, fun k hk => by cases hk⟩
  | a :: A, cs, ks, h => by
    obtain ⟨v, vs3, k3, k4, rfl, h3, h4, hd2, rfl⟩ := OwnL.cons_inv (rs := A.map fun r => zI r) h
    obtain ⟨k5, q1, q2⟩ := OwnL.pick p h4
    rw [List.zip_cons_cons, List.filter_cons]
    cases hp : p a
    · rw [if_neg (by simp [hp])]
      exact ⟨k5, q1, fun k hk => List.mem_append_right _ (q2 k hk)⟩
    · rw [if_pos (by simp [hp])]
      refine ⟨k3 ++ k5, ?_, fun k hk => ?_⟩
      · rw [List.map_cons, List.map_cons, List.map_cons]
        exact OwnL.append (vs := [v]) (rs := [zI a]) h3 q1 (fun k hk k' hk' => hd2 k hk k' (q2 k' hk'))
      · rcases List.mem_append.1 hk with h | h
        · exact List.mem_append_left _ h
        · exact List.mem_append_right _ (q2 k h)
/-- The list that is made of some of the rows. -/
def OutV (z : Nat) (H : Heap) (vo : Value) (Zs : List (Value × List Int)) : Prop :=
  (Zs = [] ∧ vo = .slice none 0 0) ∨ ∃ b, vo = .slice (some ⟨b, 0, none⟩) Zs.length 0 ∧ z ≤ b ∧ b < H.size ∧ H.get b = .cells (Zs.map (·.1)) 1 false
theorem OutV.ext {z : Nat} {H H' : Heap} {vo : Value} {Zs : List (Value × List Int)} (h : OutV z H vo Zs) (he : Ext H H') : OutV z H' vo Zs := by
  rcases h with h | ⟨b, h1, h2, h3, h4⟩
  · exact .inl h
  · exact .inr ⟨b, h1, h2, Nat.lt_of_lt_of_le h3 he.size, (he.get b h3).trans h4⟩
end Go.Proofs.Ytmoknllbpjpkmaa.Zed
namespace Go.Proofs.Ytmoknllbpjpkmaa.Zed
open Go TP
set_option linter.unusedVariables false
set_option linter.unusedSimpArgs false
set_option maxRecDepth 20000
namespace tfY26
theorem tf : (Try.prog.underlying 25 = some (.slice 2)) ∧ (el Try.prog 25 = some (none, 1)) ∧ (Try.prog.underlying 29 = some (.slice 102)) ∧ (el Try.prog 29 = some (none, 1)) ∧ (Try.prog.underlying 51 = some (.slice 25)) ∧ (el Try.prog 51 = some (none, 1)) ∧ (tk Try.prog 2 = some none) ∧ (tk Try.prog 25 = some none) ∧ (tk Try.prog 29 = some none) ∧ (tk Try.prog 31 = some (some 1)) ∧ (tk Try.prog 51 = some none) ∧ (tk Try.prog 102 = some none) ∧ (cz Try.prog 2 = some 1) ∧ (bz Try.prog 2 = some 8) ∧ (cz Try.prog 25 = some 1) ∧ (bz Try.prog 25 = some 24) ∧ (cz Try.prog 102 = some 1) ∧ (bz Try.prog 102 = some 24) ∧ (zr Try.prog 2 = some (.int .i64 0)) ∧ (zr Try.prog 25 = some (.slice none 0 0)) ∧ (zr Try.prog 51 = some (.slice none 0 0)) ∧ (zr Try.prog 102 = some (.slice none 0 0)) ∧ (fo Try.prog 31 0 = some (0, none)) ∧ (ik Try.prog 3 = some .i64) ∧ (ik Try.prog 130 = some .u64) := by
  refine ⟨?_, ?_, ?_, ?_, ?_, ?_, ?_, ?_, ?_, ?_, ?_, ?_, ?_, ?_, ?_, ?_, ?_, ?_, ?_, ?_, ?_, ?_, ?_, ?_, ?_⟩ <;> kernel_rfl
end tfY26
open tfY26
theorem zip_snd {cs : List Value} {A : List (List Int)} (h : cs.length = A.length) : (cs.zip A).map (·.2) = A := List.map_snd_zip (by omega)
theorem zip_fst {cs : List Value} {A : List (List Int)} (h : cs.length = A.length) : (cs.zip A).map (·.1) = cs := List.map_fst_zip (by omega)
theorem pick_snd (p : List Int → Bool) (Z : List (Value × List Int)) : (Z.filter fun x => p x.2).map (·.2) = (Z.map (·.2)).filter p := by
  rw [List.filter_map]; rfl
/-- What the closure says, seen from the list. -/
theorem contains_c {HF H : Heap} {z bv cb : Nat} {vo wv : Value} {v : List Int} {Zs : List (Value × List Int)} (hx : Ext HF H) (hz : HF.size ≤ z) (ho : OutV z H vo Zs) (hB : ∀ x ∈ Zs, OwnB cb HF.size HF [x.1] [zI x.2] ∧ x.2.length = v.length) (hwv : OwnB cb HF.size HF [wv] [zI v]) (hv : v.length ≤ 1000)
    (hbv : H.get bv = .cells [wv] 1 false) (hbs : bv < H.size) (hn : Zs.length ≤ 100000) :
    ACalls Try.prog 90 [vo, .func (.func 91) #[] #[.pointer (some ⟨bv, 0, none⟩)]] H fun r H' => r = B ((Zs.map (·.2)).any fun u => lessB u v) ∧ Ext H H' := by
  rcases ho with ⟨rfl, rfl⟩ | ⟨b, rfl, h2, h3, h4⟩
  · refine contains0_g.mono ?_
    rintro r H' ⟨rfl, he⟩
    exact ⟨by simp, he⟩
  · refine (containsR_g (cs := Zs.map (·.1)) (n := Zs.length) (p := fun j => lessB ((Zs.map (·.2)).getD j []) v) h4 h3 (by simp) hn fun j hj => ?_).mono ?_
    · obtain ⟨hB1, hB2⟩ := hB Zs[j] (List.getElem_mem hj)
      refine ⟨(Zs[j]).1, by simp [hj], hB1.one, fun H' he => ?_⟩
      have e : (Zs.map (·.2)).getD j [] = (Zs[j]).2 := by simp [hj]
      have hx' : Ext HF H' := hx.trans he
      simp only [e]
      exact fv2_c (.ownB (hB1.ext (Nat.le_refl _) hx') (.ownB (hwv.ext (Nat.le_refl _) hx') .nil)) ((he.get bv hbs).trans hbv) (Nat.lt_of_lt_of_le hbs he.size) hB1.one hwv.one (by omega) hB2.symm
    · rintro r H' ⟨rfl, he⟩
      refine ⟨?_, he⟩
      congr 1
      by_cases hq : ∃ j, j < Zs.length ∧ lessB ((Zs.map (·.2)).getD j []) v = true
      · rw [decide_eq_true hq]
        obtain ⟨j, q1, q2⟩ := hq
        exact (List.any_eq_true.2 ⟨(Zs.map (·.2)).getD j [], by rw [show (Zs.map (·.2)).getD j [] = (Zs[j]).2 by simp [q1]]; exact List.mem_map.2 ⟨_, List.getElem_mem q1, rfl⟩, q2⟩).symm
      · rw [decide_eq_false hq, eq_comm, List.any_eq_false]
        intro u hu
        obtain ⟨j, hj, rfl⟩ := List.getElem_of_mem hu
        intro h
        exact hq ⟨j, by simpa using hj, by simpa [show j < Zs.length by simpa using hj] using h⟩
theorem OutV.own {z0 z : Nat} {H HF : Heap} {vo : Value} {Zs : List (Value × List Int)} {ks : List (Nat × Blk)} (h : OutV z H vo Zs) (hp : OwnL false z0 HF (Zs.map (·.1)) ((Zs.map (·.2)).map fun r => zI r) ks) (hks : ∀ x ∈ ks, x.1 < HF.size) (hz : HF.size ≤ z) (hz0 : z0 ≤ HF.size) (he : Ext HF H) : OwnB z0 H.size H [vo] [zII (Zs.map (·.2))] := by
  have hs := he.size
  rcases h with ⟨rfl, rfl⟩ | ⟨b, rfl, h2, h3, h4⟩
  · exact (OwnB.nilr (lo := H.size) (hi := H.size) 1).wide (by omega) (Nat.le_refl _)
  · have hp' : OwnL false z0 H (Zs.map (·.1)) ((Zs.map (·.2)).map fun r => zI r) ks := hp.keep (.inl rfl) (Nat.le_refl _) fun k hk => by rw [he.get k.1 (hks k hk)]; exact (hp.get k hk).2
    refine ⟨(b, .cells (Zs.map (·.1)) 1 false) :: (ks ++ []), ?_, fun x hx => ?_⟩
    · have h1 := OwnL.own (q := false) (lo := z0) (rs := (Zs.map (·.2)).map fun r => zI r) (n := Zs.length) (o := 0) (c := 0) (by omega) h4 (by simp) (by simp) (hp'.nf fun x hx => by obtain ⟨y, _, rfl⟩ := List.mem_map.1 hx; rfl) (by rw [List.drop_zero, List.take_of_length_le (by simp)]; exact hp') .nil (fun x hx => by have := hks x (by simpa using hx); show x.1 ≠ b; omega) (fun x _ y hy => by cases hy)
      unfold Zed.zII Zed.zL
      rw [List.length_map]
      exact h1
    · rw [List.append_nil] at hx
      rcases List.mem_cons.1 hx with rfl | hx
      · exact h3
      · have := hks x hx; omega
set_option maxHeartbeats 8000000 in
theorem implFundamentalVectors_o {T : List (List (Int × Int))} (hl : T.length ≤ 1048576) (m : Int) : OCalls Try.prog 42 [zT T, I m] (fmV T m) := by
  have hc := normalCode_z hl
  have hr := inRange_z m 1 3
  unfold fmV
  by_cases h : codeN T = 0
  rotate_left
  · rw [if_neg h]
    have hcb : (codeN T == 0) = false := by rw [beq_eq_false_iff_ne]; exact h
    generalize codeN T = k at *
    clear h hr
    refine OCalls.body Try.func42 rfl Try.ntmps42 (rs := [.tmp 4, .tmp 5]) rfl (by simp) rfl fun H Q hQ A hA => ?_
    have a0 := hA 0 _ _ rfl
    have a1 := hA 1 _ _ rfl
    clear hA
    repeat' first | refine rnY ?_ | (first | refine ZCalls.to (hc) ?_ | refine ZCalls.tf (hc) ?_) | with_reducible refine And.intro (fun hc => ?_) (fun hc => ?_) | fail
    exact hQ.out _ _ ((two_nil k).out) (by exact exY)
  rw [if_pos h]
  have hT := codeN_ok h
  have h6 := codeN_six h
  rw [h] at hc
  by_cases h2 : T.length ≤ 2
  rotate_left
  · rw [if_neg h2]
    clear hr h
    refine OCalls.body Try.func42 rfl Try.ntmps42 (rs := [.tmp 4, .tmp 5]) rfl (by simp) rfl fun H Q hQ A hA => ?_
    have a0 := hA 0 _ _ rfl
    have a1 := hA 1 _ _ rfl
    clear hA
    repeat' first | refine rnY ?_ | (first | refine ZCalls.to (hc) ?_ | refine ZCalls.tf (hc) ?_) | with_reducible refine And.intro (fun hc => ?_) (fun hc => ?_) | fail
    exact hQ.out _ _ ((two_nil 3).out) (by exact exY)
  rw [if_pos h2]
  have hgt : ¬ ((T.length : Int) > 2) := by omega
  by_cases hm : mOk T m
  rotate_left
  · rw [if_neg hm]
    by_cases hm1 : 1 ≤ m ∧ m ≤ 3
    · rw [decide_eq_true hm1] at hr
      have hm2 : m > 1 ∧ T.length = 2 := Classical.byContradiction fun q => hm ⟨hm1, q⟩
      have hm3 : decide (m > 1) = true := decide_eq_true hm2.1
      have hm4 : ((T.length : Int) == 2) = true := by rw [beq_iff_eq]; omega
      clear hm hm1 hm2 h h2 h6 hT
      refine OCalls.body Try.func42 rfl Try.ntmps42 (rs := [.tmp 4, .tmp 5]) rfl (by simp) rfl fun H Q hQ A hA => ?_
      have a0 := hA 0 _ _ rfl
      have a1 := hA 1 _ _ rfl
      clear hA
      repeat' first | refine rnY ?_ | (first | refine ZCalls.to (hc) ?_ | refine ZCalls.tf (hc) ?_) | (first | refine ZCalls.to (hr) ?_ | refine ZCalls.tf (hr) ?_) | with_reducible refine And.intro (fun hc => ?_) (fun hc => ?_) | fail
      exact hQ.out _ _ ((two_nil 2).out) (by exact exY)
    · rw [decide_eq_false hm1] at hr
      clear hm hm1 h h2 h6 hT
      refine OCalls.body Try.func42 rfl Try.ntmps42 (rs := [.tmp 4, .tmp 5]) rfl (by simp) rfl fun H Q hQ A hA => ?_
      have a0 := hA 0 _ _ rfl
      have a1 := hA 1 _ _ rfl
      clear hA
      repeat' first | refine rnY ?_ | (first | refine ZCalls.to (hc) ?_ | refine ZCalls.tf (hc) ?_) | (first | refine ZCalls.to (hr) ?_ | refine ZCalls.tf (hr) ?_) | with_reducible refine And.intro (fun hc => ?_) (fun hc => ?_) | fail
      exact hQ.out _ _ ((two_nil 2).out) (by exact exY)
  rw [if_pos hm]
  have hbx := box_ok h2 hm
  have hrep : ZCalls Try.prog 87 [FZ 1 1 [I m], I (7 * (T.length : Int))] (zI (boxL T m)) := rep7_z (m := m) (n := T.length) h2
  rw [decide_eq_true hm.1] at hr
  have hfe := fv_eq hbx
  have hstep := fun k v => fv_step hbx (k := k) (v := v)
  have hmem := fun u (hu : u ∈ PT T (boxL T m)) => hbx.mem hu
  have hpm : ∀ (k : Nat) (u : List Int), (PT T (boxL T m))[k]? = some u → u.length = 7 * T.length ∧ ∀ j, 0 ≤ u.getD j 0 ∧ u.getD j 0 ≤ 1000 := fun k u hu => ⟨(hmem u (List.mem_of_getElem? hu)).2.len, (hmem u (List.mem_of_getElem? hu)).2.bd⟩
  have hlenP : (PT T (boxL T m)).length ≤ 20000 := Nat.le_trans (List.length_filter_le _ _) hbx.few
  have hbl : (boxL T m).length = 7 * T.length := by simp
  have hpp := fun H0 bm (hbm : bm < H0.size) (hb0 : H0.get bm = .cells [.slice none 0 0] 1 false) => parts_g hT h6 hbx.len hbx.bd 88 (.pointer (some ⟨bm, 0, none⟩)) (H := H0)
    (fun g k H1 => H0.size ≤ g ∧ g < H1.size ∧ RowsB (g + 1) bm (((PT T (boxL T m)).take k).filter (qB T)) H1 ∧ (∀ x, x < H0.size → x ≠ bm → H1.get x = H0.get x) ∧ k ≤ (PT T (boxL T m)).length)
    (fun k H1 => False)
    (fun g k H1 H2 ⟨j1, j2, j3, j4, j5⟩ hs hk => ⟨j1, by omega, j3.keep (g := g) (by omega) (by omega) (by omega) hs hk, fun x hx hn => (hk x (by omega) (by omega)).trans (j4 x hx hn), j5⟩)
    (fun g H1 hx h1 h2 => ⟨h1, h2, .inl ⟨rfl, (hx.get bm hbm).trans hb0⟩, fun x hx1 _ => hx.get x hx1, by omega⟩)
    (fun H1 g k u hu hJ hgs hgz hgu => by
      obtain ⟨j1, j2, j3, j4, j5⟩ := hJ
      obtain ⟨hul, hub⟩ := hpm k u hu
      obtain ⟨hk1, hk2⟩ := List.getElem?_eq_some_iff.1 hu
      have htl : (((PT T (boxL T m)).take k).filter (qB T)).length ≤ 20000 := Nat.le_trans (List.length_filter_le _ _) (by rw [List.length_take]; omega)
      have htk : ((PT T (boxL T m)).take (k + 1)).filter (qB T) = if (one7 u T.length && decide (gT u u.length ≠ 0)) = true then ((PT T (boxL T m)).take k).filter (qB T) ++ [u] else ((PT T (boxL T m)).take k).filter (qB T) := by
        rw [List.take_succ_eq_append_getElem hk1, List.filter_append, hk2, List.filter_cons, List.filter_nil]
        unfold qB
        split <;> simp
      rw [show (boxL T m).length = u.length from hbl.trans hul.symm]
      refine (fvVisit_c (z := g + 1) (bm := bm) (g := g) (by omega) (by omega) (by omega) (by omega) j3 (by omega) hgu (by omega) hul hub).mono ?_
      rintro r H2 ⟨rfl, p1, p2, p3⟩
      rw [← htk] at p2
      exact ⟨true, rfl, p1, fun x hx1 hx2 => p3 x (by omega) (by omega), .inl ⟨rfl, j1, by omega, p2, fun x hx hn => (p3 x (by omega) hn).trans (j4 x hx hn), by omega⟩⟩)
  have hfull : (PT T (boxL T m)).take (PT T (boxL T m)).length = PT T (boxL T m) := List.take_length
  have hfv : fvL T m = ((PT T (boxL T m)).filter (qB T)).filter (fdB T) := hfe
  have hA1 : ∀ u ∈ (PT T (boxL T m)).filter (qB T), u.length = 7 * T.length := fun u hu => (hmem u (List.mem_filter.1 hu).1).2.len
  have hA3 : ∀ u ∈ (PT T (boxL T m)).filter (qB T), 0 < u.length := fun u hu => by
    have h1 := (List.mem_filter.1 hu).2
    unfold qB at h1
    rw [Bool.and_eq_true] at h1
    have h2 := of_decide_eq_true h1.2
    rcases Nat.eq_zero_or_pos u.length with h | h
    · rw [h] at h2; exact absurd rfl h2
    · exact h
  have hA2 : ((PT T (boxL T m)).filter (qB T)).length ≤ 20000 := Nat.le_trans (List.length_filter_le _ _) hlenP
  rw [hfv]
  generalize fdB T = fd at *
  generalize qB T = q at *
  generalize boxL T m = bx at *
  generalize PT T bx = P at *
  clear hfe hfv hmem hpm hbx h hbl hT
  have hcase : decide (m > 1) = false ∨ (decide (m > 1) = true ∧ ((T.length : Int) == 2) = false) := by
    by_cases q : m > 1
    · exact .inr ⟨decide_eq_true q, by rw [beq_eq_false_iff_ne]; intro e; exact hm.2 ⟨q, by omega⟩⟩
    · exact .inl (decide_eq_false q)
  clear hm
  rcases hcase with hm3 | ⟨hm3, hm4⟩
  case' inl =>
    refine OCalls.body Try.func42 rfl Try.ntmps42 (rs := [.tmp 4, .tmp 5]) rfl (by simp) rfl fun H Q hQ A hA => ?_
    have a0 := hA 0 _ _ rfl
    have a1 := hA 1 _ _ rfl
    clear hA
    have hbm0 : H.size < (H.push (.cells [.slice none 0 0] 1 false)).size := by simp only [nx]; omega
    repeat' first | refine rnY ?_ | (first | refine ZCalls.to (hc) ?_ | refine ZCalls.tf (hc) ?_) | (first | refine ZCalls.to (hr) ?_ | refine ZCalls.tf (hr) ?_) | with_reducible refine And.intro (fun hc => ?_) (fun hc => ?_) | fail
  case' inr =>
    refine OCalls.body Try.func42 rfl Try.ntmps42 (rs := [.tmp 4, .tmp 5]) rfl (by simp) rfl fun H Q hQ A hA => ?_
    have a0 := hA 0 _ _ rfl
    have a1 := hA 1 _ _ rfl
    clear hA
    have hbm0 : H.size < (H.push (.cells [.slice none 0 0] 1 false)).size := by simp only [nx]; omega
    repeat' first | refine rnY ?_ | (first | refine ZCalls.to (hc) ?_ | refine ZCalls.tf (hc) ?_) | (first | refine ZCalls.to (hr) ?_ | refine ZCalls.tf (hr) ?_) | with_reducible refine And.intro (fun hc => ?_) (fun hc => ?_) | fail
  all_goals
    refine AWp.zreg [(0, none), (1, none), (2, none), (3, none), (4, none), (5, none), (6, none), (7, none), (8, none), (9, some [0, 4])] mixed (by kernel_rfl) ?_
    repeat' first | refine rzY ?_ | (first | refine ZCalls.to (hrep) ?_ | refine ZCalls.tf (hrep) ?_) | (refine (hpp _ H.size (by simp only [nx]; omega) (by exact ivY)).mono ?_; clear hpp; rintro r H1 ⟨rfl, ⟨g, j1, j2, j3, j4, j5⟩ | ⟨k, hF⟩⟩; rotate_left; exact hF.elim; refine hgY ?_) | fail
    rw [hfull] at j3
    have hE : Ext H H1 := ⟨by simp only [nx] at j1; omega, fun b hb => (j4 b (by simp only [nx]; omega) (by omega)).trans (get_push_lt hb)⟩
    clear hfull hlenP j4 j5 hrep
    generalize P.filter q = A at *
    rcases j3 with ⟨rfl, hg⟩ | ⟨b, cs, ks, h1, hb1, hb2, h5, hcl, h7, h8⟩
    · clear hstep hA1 hA2 hA3 hc hr
      rw [List.filter_nil, if_pos (by decide)] at hQ
      repeat' first | refine rnY ?_ | with_reducible refine And.intro (fun hc => ?_) (fun hc => ?_) | fail
      refine AWp.cut (fun Ac hAc => ?_)
      have c46 := gtY (t := 46) hAc
      have c47 := gtY (t := 47) hAc
      have c8 := gtY (t := 8) hAc
      have c48 := gtY (t := 48) hAc
      clear a0 a1
      refine AWp.loop (fun A' H' => ∃ _ : Unit, Ag [10, 49, 50, 51, 52, 53, 54, 55, 56, 57, 58, 59, 60] A' (put (put Ac (some 8) (.slice none 0 0)) (some 48) (I 0)) ∧ H' = H1) (fun A' _ => 0) ?_ ?_
      · exact ⟨(), agY, rfl⟩
      · rintro A1 H2 ⟨_, hA, rfl⟩
        have d8 := gdY (t := 8) hA
        have d46 := gdY (t := 46) hA
        have d47 := gdY (t := 47) hA
        have d48 := gdY (t := 48) hA
        repeat' first | refine rnY ?_ | with_reducible refine And.intro (fun hc => ?_) (fun hc => ?_) | fail
        exact hQ.out _ _ ((two_nil (H := H2) 0).wide (lo' := H.size) (by simp only [nx] at j1; omega) (Nat.le_refl _)).out (by exact exY)
    · have hZ1 := zip_snd hcl
      have hZ2 := zip_fst hcl
      have hB := h7.each (fun k hk => (h8 k hk).1)
      obtain ⟨ks', hp, hks⟩ := h7.pick fd
      have hks' : ∀ x ∈ ks', x.1 < H1.size := fun x hx => (h8 x (hks x hx)).1
      have hzl : (cs.zip A).length = A.length := by rw [List.length_zip, hcl]; omega
      have hany : ∀ (k : Nat) (w : Value) (v : List Int), (cs.zip A)[k]? = some (w, v) → ((((cs.zip A).take k).filter fun x => fd x.2).map (·.2)).any (fun u => lessB u v) = !fd v := fun k w v hk => by
        rw [pick_snd, List.map_take, hZ1]
        have hAk : A[k]? = some v := by
          have : ((cs.zip A).map (·.2))[k]? = some v := by rw [List.getElem?_map, hk]; rfl
          rw [hZ1] at this; exact this
        have h1 := hstep k v hAk
        cases hf : fd v
        · exact List.any_eq_true.2 (h1.2 hf)
        · rw [Bool.not_true, List.any_eq_false]
          exact fun u hu hl => by
            have := h1.1 ⟨u, hu, hl⟩
            rw [hf] at this; cases this
      have hlen : ∀ x ∈ cs.zip A, x.2.length = 7 * T.length := fun x hx => hA1 _ (by rw [← hZ1]; exact List.mem_map.2 ⟨x, hx, rfl⟩)
      have hpos : ∀ x ∈ cs.zip A, 0 < x.2.length := fun x hx => hA3 _ (by rw [← hZ1]; exact List.mem_map.2 ⟨x, hx, rfl⟩)
      have hcs : ∀ (k : Nat) (w : Value) (v : List Int), (cs.zip A)[k]? = some (w, v) → cs[k]? = some w := fun k w v hk => by
        have : ((cs.zip A).map (·.1))[k]? = some w := by rw [List.getElem?_map, hk]; rfl
        rw [hZ2] at this; exact this
      have hL : A.filter fd = ((cs.zip A).filter fun x => fd x.2).map (·.2) := by rw [pick_snd, hZ1]
      rw [hL] at hQ
      rw [← hzl] at h1 hA2 hcl
      clear hL hstep hA1 hA3 hZ1 hZ2 h7 h8 hks hzl
      generalize cs.zip A = Z at *
      have hT14 : 7 * T.length ≤ 14 := by omega
      generalize 7 * T.length = N7 at *
      clear hc hr h6 h2 hgt
      repeat' first | refine rnY ?_ | with_reducible refine And.intro (fun hc => ?_) (fun hc => ?_) | fail
      refine AWp.cut (fun Ac hAc => ?_)
      have c46 := gtY (t := 46) hAc
      have c47 := gtY (t := 47) hAc
      have c8 := gtY (t := 8) hAc
      have c48 := gtY (t := 48) hAc
      clear a0 a1
      have ho0 : (Z.take 0).filter (fun x => fd x.2) = [] := rfl
      have hof : (Z.take Z.length).filter (fun x => fd x.2) = Z.filter (fun x => fd x.2) := by rw [List.take_length]
      have hos : ∀ (k : Nat) (x : Value × List Int), Z[k]? = some x → (Z.take (k + 1)).filter (fun x => fd x.2) = if fd x.2 = true then (Z.take k).filter (fun x => fd x.2) ++ [x] else (Z.take k).filter (fun x => fd x.2) := fun k x hk => by
        obtain ⟨q1, q2⟩ := List.getElem?_eq_some_iff.1 hk
        rw [List.take_succ_eq_append_getElem q1, List.filter_append, q2, List.filter_cons, List.filter_nil]
        split <;> simp
      have hol : ∀ k, ((Z.take k).filter (fun x => fd x.2)).length ≤ 20000 := fun k => Nat.le_trans (List.length_filter_le _ _) (by rw [List.length_take]; omega)
      have hoB : ∀ k, ∀ x ∈ (Z.take k).filter (fun x => fd x.2), x ∈ Z := fun k x hx => List.mem_of_mem_take (List.mem_filter.1 hx).1
      refine AWp.loop (fun A' H' => ∃ (k : Nat) (vo : Value), Ag [10, 49, 50, 51, 52, 53, 54, 55, 56, 57, 58, 59, 60] A' (put (put Ac (some 8) (vo)) (some 48) (I k)) ∧ k ≤ Z.length ∧ Ext H1 H' ∧ OutV H1.size H' vo ((Z.take k).filter fun x => fd x.2)) (fun A' _ => Z.length - (intV (A' 48)).toNat) ?_ ?_
      · exact ⟨0, .slice none 0 0, agY, by omega, Ext.refl _, .inl ⟨ho0, rfl⟩⟩
      · rintro A1 H2 ⟨k, vo, hA, hk, hx, ho⟩
        have d8 := gdY (t := 8) hA
        have d46 := gdY (t := 46) hA
        have d47 := gdY (t := 47) hA
        have d48 := gdY (t := 48) hA
        have hxg := hx.get; have hxs := hx.size; (try simp only [nx] at hxs)
        have hgb := (hxg b hb2).trans h5
        by_cases hlt : k < Z.length
        · obtain ⟨w, v, hwv⟩ : ∃ w v, Z[k]? = some (w, v) := ⟨_, _, List.getElem?_eq_getElem hlt⟩
          have hwc := hcs k w v hwv
          have hanyk := hany k w v hwv
          have hosk := hos k (w, v) hwv
          have hwm : (w, v) ∈ Z := List.mem_of_getElem? hwv
          have hBw : OwnB (g + 1) H1.size H1 [w] [zI v] := hB _ hwm
          have hvp : 0 < v.length := hpos _ hwm
          have hsh := hBw.shape
          have hvl := hlen _ hwm
          have hBR : ∀ x ∈ (Z.take k).filter (fun x => fd x.2), OwnB (g + 1) H1.size H1 [x.1] [zI x.2] ∧ x.2.length = v.length := fun x hx => ⟨hB x (hoB k x hx), (hlen x (hoB k x hx)).trans hvl.symm⟩
          have hRl := hol k
          change v.length = N7 at hvl
          change ∀ x ∈ _, _ at hBR
          simp only at hosk
          clear hany hos hol hoB hB hlen hpos hcs hof ho0 hwm hwv hp hks'
          generalize (Z.take k).filter (fun x => fd x.2) = R at *
          have hct := fun H0 bv (hx0 : Ext H1 H0) (ho0 : OutV H1.size H0 vo R) (hbv : H0.get bv = .cells [w] 1 false) (hbs : bv < H0.size) => contains_c (HF := H1) (H := H0) (z := H1.size) (bv := bv) (cb := g + 1) hx0 (Nat.le_refl _) ho0 hBR hBw (by omega) hbv hbs (by omega)
          rw [hanyk] at hct
          clear hanyk hBR hBw hvl
          rcases hsh with ⟨hw0, _⟩ | ⟨g3, o3, c3, ds, rfl, _⟩
          · exact absurd hw0 (by omega)
          clear hvp
          cases hf : fd v
          · rw [hf] at hct hosk
            rw [if_neg (by decide)] at hosk
            change _ = R at hosk
            clear hf
            repeat' first | refine rnY ?_ | (refine (hct _ H2.size (by exact exY) (ho.ext (by exact exY)) (by exact ivY) (by simp only [nx]; omega)).mono ?_; rintro r H3 ⟨rfl, he⟩; have heg := he.get; have hes := he.size; (try simp only [nx] at hes)) | with_reducible refine And.intro (fun hc => ?_) (fun hc => ?_) | fail
            exact ⟨⟨k + 1, vo, agY, by omega, by exact exY, by rw [hosk]; exact ho.ext (by exact exY)⟩, by exact ivY⟩
          · rw [hf] at hct hosk
            rw [if_pos rfl] at hosk
            clear hf
            rcases ho with ⟨rfl, rfl⟩ | ⟨bo, rfl, ho2, ho3, ho4⟩
            · have ho1 : OutV H1.size H2 (.slice none 0 0) ([] : List (Value × List Int)) := .inl ⟨rfl, rfl⟩
              repeat' first | refine rnY ?_ | (refine (hct _ H2.size (by exact exY) (ho1.ext (by exact exY)) (by exact ivY) (by simp only [nx]; omega)).mono ?_; rintro r H3 ⟨rfl, he⟩; have heg := he.get; have hes := he.size; (try simp only [nx] at hes)) | (refine appR0 rfl ?_) | with_reducible refine And.intro (fun hc => ?_) (fun hc => ?_) | fail
              exact ⟨⟨k + 1, .slice (some ⟨H3.size, 0, none⟩) 1 0, agY, by omega, by exact exY, by rw [hosk]; exact .inr ⟨H3.size, rfl, by omega, by simp only [nx]; omega, get_push_eq rfl⟩⟩, by exact ivY⟩
            · have ho1 : OutV H1.size H2 (.slice (some ⟨bo, 0, none⟩) R.length 0) R := .inr ⟨bo, rfl, ho2, ho3, ho4⟩
              repeat' first | refine rnY ?_ | (refine (hct _ H2.size (by exact exY) (ho1.ext (by exact exY)) (by exact ivY) (by simp only [nx]; omega)).mono ?_; rintro r H3 ⟨rfl, he⟩; have heg := he.get; have hes := he.size; (try simp only [nx] at hes)) | (refine appR ((heg bo (by first | omega | (simp only [nx]; omega))).trans ((get_push_lt ho3).trans ho4)) (by simp) rfl (by omega) ?_) | with_reducible refine And.intro (fun hc => ?_) (fun hc => ?_) | fail
              exact ⟨⟨k + 1, .slice (some ⟨H3.size, 0, none⟩) (R.length + 1) 0, agY, by omega, by exact exY, by rw [hosk]; exact .inr ⟨H3.size, by simp, by omega, by simp only [nx]; omega, (get_push_eq rfl).trans (by simp)⟩⟩, by exact ivY⟩
        · obtain rfl : k = Z.length := by omega
          rw [hof] at ho
          have hO := ho.own hp hks' (Nat.le_refl _) (by omega) hx
          have hZl : (Z.filter fun x => fd x.2).length ≤ 20000 := Nat.le_trans (List.length_filter_le _ _) hA2
          clear hany hos hol hoB hB hlen hpos hcs hof ho0 hp hks'
          generalize (Z.filter fun x => fd x.2) = R at *
          rw [List.length_map] at hQ
          rcases ho with ⟨rfl, rfl⟩ | ⟨bo, rfl, ho2, ho3, ho4⟩
          · rw [if_pos (by decide)] at hQ
            repeat' first | refine rnY ?_ | with_reducible refine And.intro (fun hc => ?_) (fun hc => ?_) | fail
            exact hQ.out _ _ ((two_nil (H := H2) 0).wide (lo' := H.size) (by simp only [nx] at j1; omega) (Nat.le_refl _)).out (by exact exY)
          · by_cases h4 : R.length ≤ 400
            · rw [if_pos h4] at hQ
              repeat' first | refine rnY ?_ | with_reducible refine And.intro (fun hc => ?_) (fun hc => ?_) | fail
              exact hQ.out _ _ (OwnB.tup (l := [_, I 0]) (l' := [zII (R.map (·.2)), I 0]) (.cflats (hO.wide (lo' := H.size) (by simp only [nx] at j1; omega) (Nat.le_refl _)) (fun x hx => by simp at hx; subst hx; rfl))).out (by exact exY)
            · rw [if_neg h4] at hQ
              repeat' first | refine rnY ?_ | with_reducible refine And.intro (fun hc => ?_) (fun hc => ?_) | fail
              exact hQ.out _ _ ((two_nil (H := H2) 3).wide (lo' := H.size) (by simp only [nx] at j1; omega) (Nat.le_refl _)).out (by exact exY)
end Go.Proofs.Ytmoknllbpjpkmaa.Zed
namespace Go.Proofs.Ytmoknllbpjpkmaa.Zed
open Go TP
set_option linter.unusedVariables false
set_option linter.unusedSimpArgs false
set_option maxRecDepth 20000
namespace tfY27
theorem tf : (Try.prog.underlying 25 = some (.slice 2)) ∧ (el Try.prog 25 = some (none, 1)) ∧ (Try.prog.underlying 51 = some (.slice 25)) ∧ (el Try.prog 51 = some (none, 1)) ∧ (tk Try.prog 2 = some none) ∧ (tk Try.prog 25 = some none) ∧ (tk Try.prog 31 = some (some 1)) ∧ (cz Try.prog 2 = some 1) ∧ (bz Try.prog 2 = some 8) ∧ (cz Try.prog 25 = some 1) ∧ (bz Try.prog 25 = some 24) ∧ (zr Try.prog 2 = some (.int .i64 0)) ∧ (zr Try.prog 25 = some (.slice none 0 0)) := by
  refine ⟨?_, ?_, ?_, ?_, ?_, ?_, ?_, ?_, ?_, ?_, ?_, ?_, ?_⟩ <;> kernel_rfl
end tfY27
open tfY27
set_option maxHeartbeats 8000000 in
theorem specFundamentalVectors_z {T : List (List (Int × Int))} (hl : T.length ≤ 1048576) (m : Int) : ZCalls Try.prog 41 [zT T, I m] (fmV T m) := by
  have hc := l17Code_z hl
  have hr := l01In_z m 1 3
  have htn := l07Tets_z T.length 1 (T.map fun r => zP r)
  unfold fmV
  by_cases h : codeN T = 0
  rotate_left
  · rw [if_neg h]
    have hcb : (codeN T == 0) = false := by rw [beq_eq_false_iff_ne]; exact h
    generalize codeN T = k at *
    clear h hr
    refine ZCalls.body Try.func41 rfl Try.ntmps41 (rs := [.tmp 4, .tmp 5]) rfl (by simp) rfl fun H Q hQ A hA => ?_
    have a0 := hA 0 _ _ rfl
    have a1 := hA 1 _ _ rfl
    clear hA
    repeat' first | refine rnY ?_ | (first | refine ZCalls.to (hc) ?_ | refine ZCalls.tf (hc) ?_) | with_reducible refine And.intro (fun hc => ?_) (fun hc => ?_) | fail
    exact hQ.out _ _ ((two_nil k).fin) (by exact exY)
  rw [if_pos h]
  have hT := codeN_ok h
  have h6 := codeN_six h
  rw [h] at hc
  by_cases h2 : T.length ≤ 2
  rotate_left
  · rw [if_neg h2]
    clear hr h
    refine ZCalls.body Try.func41 rfl Try.ntmps41 (rs := [.tmp 4, .tmp 5]) rfl (by simp) rfl fun H Q hQ A hA => ?_
    have a0 := hA 0 _ _ rfl
    have a1 := hA 1 _ _ rfl
    clear hA
    repeat' first | refine rnY ?_ | (first | refine ZCalls.to (hc) ?_ | refine ZCalls.tf (hc) ?_) | (first | refine ZCalls.to (htn) ?_ | refine ZCalls.tf (htn) ?_) | with_reducible refine And.intro (fun hc => ?_) (fun hc => ?_) | fail
    exact hQ.out _ _ ((two_nil 3).fin) (by exact exY)
  rw [if_pos h2]
  have hgt : ¬ ((T.length : Int) > 2) := by omega
  by_cases hm : mOk T m
  rotate_left
  · rw [if_neg hm]
    by_cases hm1 : 1 ≤ m ∧ m ≤ 3
    · rw [decide_eq_true hm1] at hr
      have hm2 : m > 1 ∧ T.length = 2 := Classical.byContradiction fun q => hm ⟨hm1, q⟩
      have hm3 : decide (m > 1) = true := decide_eq_true hm2.1
      have hm4 : ((T.length : Int) == 2) = true := by rw [beq_iff_eq]; omega
      clear hm hm1 hm2 h h2 h6 hT
      refine ZCalls.body Try.func41 rfl Try.ntmps41 (rs := [.tmp 4, .tmp 5]) rfl (by simp) rfl fun H Q hQ A hA => ?_
      have a0 := hA 0 _ _ rfl
      have a1 := hA 1 _ _ rfl
      clear hA
      repeat' first | refine rnY ?_ | (first | refine ZCalls.to (hc) ?_ | refine ZCalls.tf (hc) ?_) | (first | refine ZCalls.to (hr) ?_ | refine ZCalls.tf (hr) ?_) | (first | refine ZCalls.to (htn) ?_ | refine ZCalls.tf (htn) ?_) | with_reducible refine And.intro (fun hc => ?_) (fun hc => ?_) | fail
      exact hQ.out _ _ ((two_nil 2).fin) (by exact exY)
    · rw [decide_eq_false hm1] at hr
      clear hm hm1 h h2 h6 hT
      refine ZCalls.body Try.func41 rfl Try.ntmps41 (rs := [.tmp 4, .tmp 5]) rfl (by simp) rfl fun H Q hQ A hA => ?_
      have a0 := hA 0 _ _ rfl
      have a1 := hA 1 _ _ rfl
      clear hA
      repeat' first | refine rnY ?_ | (first | refine ZCalls.to (hc) ?_ | refine ZCalls.tf (hc) ?_) | (first | refine ZCalls.to (hr) ?_ | refine ZCalls.tf (hr) ?_) | (first | refine ZCalls.to (htn) ?_ | refine ZCalls.tf (htn) ?_) | with_reducible refine And.intro (fun hc => ?_) (fun hc => ?_) | fail
      exact hQ.out _ _ ((two_nil 2).fin) (by exact exY)
  rw [if_pos hm]
  have hbx := box_ok h2 hm
  rw [decide_eq_true hm.1] at hr
  have hrows := l17Rows_z hT.fine
  rw [rows_same hT] at hrows
  have hbl : (boxL T m).length = 7 * T.length := by simp
  have hnn := nonneg_mem fun j => (hbx.bd j).1
  have hle := fun {u : List Int} (hu : LeL u (boxL T m)) => hu.bd fun j => (hbx.bd j).2
  have hS := fun {u : List Int} (hu : LeL u (boxL T m)) => l20Solves_z (mmR_rows T) (mTs_bd T.length T T.length) (by have := mmR_len T; omega) (by omega) (hu.1.trans hbl) (hle hu)
  have hOne := fun {u : List Int} (hu : LeL u (boxL T m)) => l17One_z (v := u) (cnt := T.length) (hu.1.trans hbl) (by have := hu.1; omega) (fun j => (hle hu j).1)
  have hPt := fun {u : List Int} (hu : LeL u (boxL T m)) => l20Parts_z hT h6 (hu.1.trans hbl) (hle hu) (by
    have h1 := hbx.few
    rw [allU_pd] at h1 ⊢
    refine Nat.le_trans (pd_mono hu.1 fun i => ⟨(hle hu i).1, ?_⟩) (by omega)
    by_cases hi : i < (boxL T m).length
    · exact (hu.2 i hi).2
    · rw [List.getD_eq_getElem?_getD, List.getElem?_eq_none (by rw [hu.1]; omega)]; exact (hbx.bd i).1)
  have hN := fun {u : List Int} (hu : LeL u (boxL T m)) => l20Next_z hu (by omega) (fun j => (hbx.bd j).2)
  have hlk := fun n u => (Lnk.get (allU_lnk (boxL T m) hnn) (n := n) (a := u))
  have hmm : ∀ n u, (allU (boxL T m))[n]? = some u → LeL u (boxL T m) := fun n u h => (mem_allU (boxL T m) u hnn).1 (List.mem_of_getElem? h)
  have hhd := allU_head (boxL T m)
  rw [List.head?_eq_getElem?] at hhd
  have hfv : fvL T m = (allU (boxL T m)).filter fun u => (one7 u T.length && svM (mmR T) (7 * T.length) u) && fdB T u := by
    show ((allU (boxL T m)).filter (svM (mmR T) (7 * T.length))).filter _ = _
    rw [List.filter_filter]
    refine List.filter_congr fun u _ => ?_
    cases one7 u T.length <;> cases svM (mmR T) (7 * T.length) u <;> cases fdB T u <;> rfl
  have hfd : ∀ u, fdB T u = decide ((PT T u).length = 2) := fun u => rfl
  obtain ⟨p, hpu, hfv⟩ : ∃ p : List Int → Bool, (∀ u, p u = ((one7 u T.length && svM (mmR T) (7 * T.length) u) && fdB T u)) ∧ fvL T m = (allU (boxL T m)).filter p := ⟨_, fun _ => rfl, hfv⟩
  rw [hfv]
  have hfew := hbx.few
  have hcase : decide (m > 1) = false ∨ (decide (m > 1) = true ∧ ((T.length : Int) == 2) = false) := by
    by_cases q : m > 1
    · exact .inr ⟨decide_eq_true q, by rw [beq_eq_false_iff_ne]; intro e; exact hm.2 ⟨q, by omega⟩⟩
    · exact .inl (decide_eq_false q)
  have hN7 : 7 * T.length ≤ 14 := by omega
  have hbz : zI (boxL T m) = FZ 1 (7 * T.length) (ints (List.replicate (7 * T.length) m)) := by unfold Zed.zI; rw [hbl]
  clear hfv hbx hm hnn h6 h hle
  generalize mmR T = M at *
  obtain ⟨U, hU⟩ : ∃ U, allU (boxL T m) = U := ⟨_, rfl⟩
  rw [hU] at hlk hmm hhd ⊢
  rcases hcase with hm3 | ⟨hm3, hm4⟩
  case' inl =>
    refine ZCalls.body Try.func41 rfl Try.ntmps41 (rs := [.tmp 4, .tmp 5]) rfl (by simp) rfl fun H Q hQ A hA => ?_
    have a0 := hA 0 _ _ rfl
    have a1 := hA 1 _ _ rfl
    clear hA
    repeat' first | refine rnY ?_ | (first | refine ZCalls.to (hc) ?_ | refine ZCalls.tf (hc) ?_) | (first | refine ZCalls.to (hr) ?_ | refine ZCalls.tf (hr) ?_) | (first | refine ZCalls.to (htn) ?_ | refine ZCalls.tf (htn) ?_) | with_reducible refine And.intro (fun hc => ?_) (fun hc => ?_) | fail
  case' inr =>
    refine ZCalls.body Try.func41 rfl Try.ntmps41 (rs := [.tmp 4, .tmp 5]) rfl (by simp) rfl fun H Q hQ A hA => ?_
    have a0 := hA 0 _ _ rfl
    have a1 := hA 1 _ _ rfl
    clear hA
    repeat' first | refine rnY ?_ | (first | refine ZCalls.to (hc) ?_ | refine ZCalls.tf (hc) ?_) | (first | refine ZCalls.to (hr) ?_ | refine ZCalls.tf (hr) ?_) | (first | refine ZCalls.to (htn) ?_ | refine ZCalls.tf (htn) ?_) | with_reducible refine And.intro (fun hc => ?_) (fun hc => ?_) | fail
  all_goals
    refine AWp.growE (t := 7) 1 (by decide) (by exact ivY) ?_
    refine AWp.cut (fun Ac hAc => ?_)
    have c1 := gtY (t := 1) hAc
    have c2 := gtY (t := 2) hAc
    have c7 := gtY (t := 7) hAc
    have c8 := gtY (t := 8) hAc
    clear a0 a1
    refine AWp.loop (fun A' H' => ∃ (k : Nat), Ag [34, 35, 36, 37, 38, 39, 40, 41, 42, 43, 44] A' (put (put Ac (some 7) (GZ (H.size + 1) 1 k (ints (List.replicate k m)))) (some 8) (I k)) ∧ k ≤ 7 * T.length ∧ Ext H H' ∧ H'.get (H.size + 1) = .tok k 1 ∧ H.size + 1 < H'.size) (fun A' _ => 7 * T.length - (intV (A' 8)).toNat) ?_ ?_
    · exact ⟨0, agY, by omega, by exact exY, by exact ivY, by simp only [nx]; omega⟩
    · rintro A1 H1 ⟨k, hA, hk, hx, htk, hts⟩
      have d1 := gdY (t := 1) hA
      have d2 := gdY (t := 2) hA
      have d7 := gdY (t := 7) hA
      have d8 := gdY (t := 8) hA
      by_cases hlt : k < 7 * T.length
      · have hlt' : (k : Int) < 7 * (T.length : Int) := by omega
        have hrs : ints (List.replicate k m) ++ [I m] = ints (List.replicate (k + 1) m) := by
          unfold Zed.ints
          rw [List.replicate_succ', List.map_append]; rfl
        clear hS hOne hPt hN hlk hmm hrows hhd hr hc
        repeat' first | refine rnY ?_ | (first | refine ZCalls.to (htn) ?_ | refine ZCalls.tf (htn) ?_) | with_reducible refine And.intro (fun hc => ?_) (fun hc => ?_) | fail
        exact ⟨⟨k + 1, agY, by omega, by exact exY, by exact ivY, by exact ivY⟩, by exact ivY⟩
      · obtain rfl : k = 7 * T.length := by omega
        refine AWp.wk1 (t := 7) (r := zI (boxL T m)) (by rw [d7, hbz]; exact Wk.gz) (by rw [d7]; intro e; cases e) ?_
        have hbL14 : (boxL T m).length ≤ 14 := by omega
        rw [hU] at hfew
        clear hbz hN7 hbl h2 hgt hc hr hU
        generalize boxL T m = bx at *
        obtain ⟨z0, hz0⟩ : ∃ z0, List.replicate bx.length (0 : Int) = z0 := ⟨_, rfl⟩
        have hz7 : z0.length = bx.length := by rw [← hz0]; simp
        rw [hz0] at hhd
        have zf0 := @rep_ints
        have zf1 := @zero1
        repeat' first | refine rnY ?_ | (first | refine ZCalls.to (htn) ?_ | refine ZCalls.tf (htn) ?_) | (first | refine ZCalls.to (hrows) ?_ | refine ZCalls.tf (hrows) ?_) | with_reducible refine And.intro (fun hc => ?_) (fun hc => ?_) | fail
        refine AWp.growE (t := 10) 1 (by decide) (by exact ivY) ?_
        refine AWp.freezeI (t := 11) (g := H1.size + 1) z0 z0.length (by exact ivY) (by exact ivY) rfl hz7.symm rfl ?_
        clear hz7
        refine AWp.cut (fun Ae hAe => ?_)
        have e2 := gtY (t := 2) hAe
        have e7 := gtY (t := 7) hAe
        have e9 := gtY (t := 9) hAe
        have e10 := gtY (t := 10) hAe
        have e11 := gtY (t := 11) hAe
        have e12 := gtY (t := 12) hAe
        clear hrows hz0 htn
        have ho0 : (U.take 0).filter p = [] := rfl
        have hof : (U.take U.length).filter p = U.filter p := by rw [List.take_length]
        have hos : ∀ n u, U[n]? = some u → (U.take (n + 1)).filter p = if p u then (U.take n).filter p ++ [u] else (U.take n).filter p := fun n u h => by
          obtain ⟨h1, h2⟩ := List.getElem?_eq_some_iff.1 h
          rw [List.take_succ_eq_append_getElem h1, List.filter_append, h2]
          cases hs : p u <;> simp [hs]
        have hol : ∀ n, ((U.take n).filter p).length ≤ n := fun n => Nat.le_trans (List.length_filter_le _ _) (by rw [List.length_take]; omega)
        have hUp : 0 < U.length := (List.getElem?_eq_some_iff.1 hhd).1
        have hofl : (U.filter p).length ≤ 20000 := Nat.le_trans (List.length_filter_le _ _) hfew
        refine AWp.loopx (σ := Nat) (fun s A' H' => ∃ (n : Nat) (u : List Int) (b : Bool), Ag [51, 52, 53, 54, 55, 56, 57, 58, 59, 60, 61, 62, 63, 64, 65, 66, 67, 68, 69, 70, 71, 72, 73, 74, 75] A' (put (put (put Ae (some 10) (GZ (H1.size + 1 + 1) 1 ((U.take n).filter p).length (((U.take n).filter p).map fun r => zI r))) (some 11) (zI u)) (some 12) (B b)) ∧ s + n = U.length ∧ (n < U.length → U[n]? = some u ∧ b = true) ∧ (n = U.length → b = false) ∧ Ext H H' ∧ H'.get (H1.size + 1 + 1) = .tok ((U.take n).filter p).length 1 ∧ H1.size + 1 + 1 < H'.size) (fun s => s) (U.length) ?_ ?_
        · refine ⟨0, z0, true, ?_, by omega, fun _ => ⟨hhd, rfl⟩, fun h => by omega, by exact exY, by rw [ho0]; exact ivY, by simp only [nx]; omega⟩
          rw [ho0]; exact agY
        · rintro s A2 H2 ⟨n, u, b, hA2, hsn, hb1, hb2, hx2, htg, htz⟩
          have f2 := gdY (t := 2) hA2
          have f7 := gdY (t := 7) hA2
          have f9 := gdY (t := 9) hA2
          have f10 := gdY (t := 10) hA2
          have f11 := gdY (t := 11) hA2
          have f12 := gdY (t := 12) hA2
          by_cases hlt2 : n < U.length
          · obtain ⟨hu, rfl⟩ := hb1 hlt2
            have hS := hS (hmm n u hu)
            have hOne := hOne (hmm n u hu)
            have hPt := hPt (hmm n u hu)
            have hN := hN (hmm n u hu)
            have hlk := hlk n u hu
            have hos := hos n u hu
            have hol := hol n
            have hpu := hpu u
            have hfdu := hfd u
            have hnext : ∃ u' b', nextV u bx = .tuple #[zI u', B b'] ∧ (n + 1 < U.length → U[n + 1]? = some u' ∧ b' = true) ∧ (n + 1 = U.length → b' = false) := by
              unfold nextV
              rw [hlk]
              cases hg : U[n + 1]? with
              | none => exact ⟨[], false, rfl, fun h => (by rw [List.getElem?_eq_getElem h] at hg; cases hg), fun _ => rfl⟩
              | some u' => exact ⟨u', true, rfl, fun _ => ⟨rfl, rfl⟩, fun h => (by rw [List.getElem?_eq_none (by omega)] at hg; cases hg)⟩
            obtain ⟨u', b', hn1, hn2, hn3⟩ := hnext
            rw [hn1] at hN
            clear hn1 hlk hmm hb1 hb2 hof ho0 hhd hfd
            generalize (U.take n).filter p = R at *
            generalize svM M (7 * T.length) u = sv at *
            generalize one7 u T.length = on at *
            have hf2 : (((PT T u).length : Int) == 2) = fdB T u := by
              rw [hfdu]
              by_cases h2 : (PT T u).length = 2
              · rw [decide_eq_true h2, beq_iff_eq]; omega
              · rw [decide_eq_false h2, beq_eq_false_iff_ne]; omega
            generalize fdB T u = fd at *
            clear hfdu
            generalize PT T u = PU at *
            cases on
            · rw [hpu, Bool.false_and, Bool.false_and, if_neg (by decide)] at hos
              clear hpu hf2 hS hPt
              repeat' first | refine rnY ?_ | (first | refine ZCalls.to (hOne) ?_ | refine ZCalls.tf (hOne) ?_) | (first | refine ZCalls.to (hN) ?_ | refine ZCalls.tf (hN) ?_) | with_reducible refine And.intro (fun hc => ?_) (fun hc => ?_) | fail
              exact ⟨s - 1, ⟨n + 1, u', b', by rw [hos]; exact agY, by omega, hn2, hn3, by exact exY, by rw [hos]; exact ivY, by exact ivY⟩, by omega⟩
            cases sv
            · rw [hpu, Bool.and_false, Bool.false_and, if_neg (by decide)] at hos
              clear hpu hf2 hPt
              repeat' first | refine rnY ?_ | (first | refine ZCalls.to (hOne) ?_ | refine ZCalls.tf (hOne) ?_) | (first | refine ZCalls.to (hS) ?_ | refine ZCalls.tf (hS) ?_) | (first | refine ZCalls.to (hN) ?_ | refine ZCalls.tf (hN) ?_) | with_reducible refine And.intro (fun hc => ?_) (fun hc => ?_) | fail
              exact ⟨s - 1, ⟨n + 1, u', b', by rw [hos]; exact agY, by omega, hn2, hn3, by exact exY, by rw [hos]; exact ivY, by exact ivY⟩, by omega⟩
            cases fd
            · rw [hpu, Bool.and_false, if_neg (by decide)] at hos
              clear hpu
              repeat' first | refine rnY ?_ | (first | refine ZCalls.to (hOne) ?_ | refine ZCalls.tf (hOne) ?_) | (first | refine ZCalls.to (hS) ?_ | refine ZCalls.tf (hS) ?_) | (first | refine ZCalls.to (hPt) ?_ | refine ZCalls.tf (hPt) ?_) | (first | refine ZCalls.to (hN) ?_ | refine ZCalls.tf (hN) ?_) | with_reducible refine And.intro (fun hc => ?_) (fun hc => ?_) | fail
              exact ⟨s - 1, ⟨n + 1, u', b', by rw [hos]; exact agY, by omega, hn2, hn3, by exact exY, by rw [hos]; exact ivY, by exact ivY⟩, by omega⟩
            · rw [hpu, Bool.and_true, Bool.and_true, if_pos rfl] at hos
              clear hpu
              repeat' first | refine rnY ?_ | (first | refine ZCalls.to (hOne) ?_ | refine ZCalls.tf (hOne) ?_) | (first | refine ZCalls.to (hS) ?_ | refine ZCalls.tf (hS) ?_) | (first | refine ZCalls.to (hPt) ?_ | refine ZCalls.tf (hPt) ?_) | (first | refine ZCalls.to (hN) ?_ | refine ZCalls.tf (hN) ?_) | with_reducible refine And.intro (fun hc => ?_) (fun hc => ?_) | fail
              exact ⟨s - 1, ⟨n + 1, u', b', by rw [hos]; exact agY, by omega, hn2, hn3, by exact exY, by rw [hos]; exact ivY, by exact ivY⟩, by omega⟩
          · obtain rfl : n = U.length := by omega
            obtain rfl := hb2 rfl
            rw [hof] at f10
            rw [hof] at htg
            clear hos hol ho0 hof hmm hlk hS hN hb1 hb2 hA2 hPt hOne
            generalize U.filter p = R at *
            by_cases h4 : R.length ≤ 400
            · rw [if_pos h4] at hQ
              refine AWp.wk1 (t := 10) (r := zII R) (by rw [f10]; exact Wk.gz) (by rw [f10]; intro e; cases e) ?_
              repeat' first | refine rnY ?_ | with_reducible refine And.intro (fun hc => ?_) (fun hc => ?_) | fail
              exact hQ.out _ _ (.eq (Cl.tuple (l := [zII R, I 0]) (Cl.cons (Cl.zII _) (Cl.cons (Cl.int _ _) Cl.nil))) rfl) (by exact exY)
            · rw [if_neg h4] at hQ
              have hxs := hx2.size
              repeat' first | refine rnY ?_ | with_reducible refine And.intro (fun hc => ?_) (fun hc => ?_) | fail
              exact hQ.out _ _ (((two_nil (H := H2) 3).wide (lo' := H.size) (by omega) (Nat.le_refl _)).fin) (by exact exY)
end Go.Proofs.Ytmoknllbpjpkmaa.Zed
namespace Go.Proofs.Ytmoknllbpjpkmaa.Zed
open Go TP
set_option linter.unusedVariables false
set_option linter.unusedSimpArgs false
set_option maxRecDepth 20000
namespace tfY28
theorem tf : (Try.prog.underlying 51 = some (.slice 25)) ∧ (el Try.prog 51 = some (none, 1)) ∧ (tk Try.prog 24 = some (some 1)) ∧ (tk Try.prog 25 = some none) ∧ (tk Try.prog 31 = some (some 1)) ∧ (cz Try.prog 25 = some 1) ∧ (bz Try.prog 25 = some 24) ∧ (zr Try.prog 25 = some (.slice none 0 0)) ∧ (zr Try.prog 31 = some (.agg #[.slice none 0 0])) := by
  refine ⟨?_, ?_, ?_, ?_, ?_, ?_, ?_, ?_, ?_⟩ <;> kernel_rfl
end tfY28
open tfY28
theorem fmV_ok (T : List (List (Int × Int))) (m : Int) : ∃ L c, fmV T m = iiV L c ∧ L.length ≤ 1000 ∧ ∀ r ∈ L, r.length ≤ 1000 := by
  unfold fmV
  split
  · split
    · rename_i h2
      split
      · rename_i hm
        split
        · rename_i h4
          refine ⟨_, _, rfl, by omega, fun r hr => ?_⟩
          have := ((box_ok h2 hm).mem (List.mem_filter.1 hr).1).2.len
          omega
        · exact ⟨_, _, rfl, by simp, by simp⟩
      · exact ⟨_, _, rfl, by simp, by simp⟩
    · exact ⟨_, _, rfl, by simp, by simp⟩
  · exact ⟨_, _, rfl, by simp, by simp⟩
set_option maxHeartbeats 8000000 in
theorem lawFundamentalVectors_z {T : List (List (Int × Int))} (hS : Short T 9223372036854775807) (y : Int) : ZCalls Try.prog 10 [zT T, I y] (B true) := by
  obtain ⟨s, h1, h2, h3, h4⟩ := szTriangulation_z hS
  by_cases hs : s < 0
  · refine ZCalls.body Try.func10 rfl Try.ntmps10 (rs := [.tmp 4]) rfl (by simp) rfl fun H Q hQ A hA => ?_
    have a0 := hA 0 _ _ rfl
    have a1 := hA 1 _ _ rfl
    clear hA
    repeat' first | refine rnY ?_ | (first | refine ZCalls.to (h4) ?_ | refine ZCalls.tf (h4) ?_) | with_reducible refine And.intro (fun hc => ?_) (fun hc => ?_) | fail
    exact hQ.out _ _ (fv) (by exact exY)
  · have hS' := h1 (by omega)
    have hsp := specFundamentalVectors_z (T := T) hS'.1 y
    have him := implFundamentalVectors_o (T := T) hS'.1 y
    obtain ⟨L, c, hV, hL, hLr⟩ := fmV_ok T y
    have hr4 : ∀ r ∈ L, r.length ≤ 4000000000 := fun r hr => Nat.le_trans (hLr r hr) (by decide)
    have hr6 : ∀ r ∈ L, r.length ≤ 1000000 := fun r hr => Nat.le_trans (hLr r hr) (by decide)
    rw [hV] at hsp him
    have him2 := him.toZ (Cl.cons (Cl.zT T) (Cl.cons (Cl.int _ _) Cl.nil))
    have hto1 := toTriangulation_z hS'
    have hto3 := toTriangulation_z hS'
    have hton := fun H => (toTriangulation_o hS').lend (H := H) (.cl (Cl.zT T) .nil)
    have heq := eqInt64SS_z L (by omega) hr4
    have heq2 := heq
    have heq3 := heq
    have heT := eqTriangulation_z hS'
    have hcc : (c == c) = true := beq_self_eq_true c
    clear h1 hV
    refine ZCalls.body Try.func10 rfl Try.ntmps10 (rs := [.tmp 4]) rfl (by simp) rfl fun H Q hQ A hA => ?_
    have a0 := hA 0 _ _ rfl
    have a1 := hA 1 _ _ rfl
    clear hA
    have hheld := heldInt64SS_z L 1 (by omega) hr6 (by omega) (by omega)
    have htot := totN_le hLr L.length
    have htot2 : L.length * 1000 ≤ 1000 * 1000 := Nat.mul_le_mul_right _ (by omega)
    clear hLr hr4
    have hmb : markN T T.length ≤ 2199023255552 := by have h1 := markN_le T hS' T.length (Nat.le_refl _); have h2 := hS'.1; omega
    have hmN : ¬ (1 + (markN T T.length : Int) < 0) := by omega
    have hln : (0 : Int) ≤ totN L L.length ∧ (totN L L.length : Int) ≤ 1000000 := by omega
    repeat' first | refine rnY ?_ | (first | refine ZCalls.to (h4) ?_ | refine ZCalls.tf (h4) ?_) | (refine ZCalls.to hto1 ?_; clear hto1) | (first | refine ZCalls.to (hsp) ?_ | refine ZCalls.tf (hsp) ?_) | (refine (hton _).mono ?_; rintro x0 H0 ⟨hx0, he0⟩; clear hton; obtain ⟨x, rfl, hxo⟩ := tri_shape hx0; have he0g := he0.get; have he0s := he0.size; (try simp only [nx] at he0s)) | (refine (him.lend (.ownB (hx0.ext (Nat.le_refl _) (by exact exY)) (.cl (Cl.int _ _) .nil))).mono ?_; rintro u H1 ⟨hg0, he1⟩; clear him; obtain ⟨g, rfl, hg, hgo⟩ := ii_shape hg0; clear hg0; have he1g := he1.get; have he1s := he1.size; (try simp only [nx] at he1s)) | (refine (heq.lend rfl (.ownB (hg.ext (Nat.le_refl _) (by exact exY)) (.cl (Cl.zII L) .nil))).mono ?_; rintro u H2 ⟨rfl, he2⟩; clear heq; have he2g := he2.get; have he2s := he2.size; (try simp only [nx] at he2s)) | with_reducible refine And.intro (fun hc => ?_) (fun hc => ?_) | fail
    refine AWp.zreg [(0, none), (1, none), (2, none), (3, some [0, 1]), (4, none)] mixed (by kernel_rfl) ?_
    repeat' first | refine rzY ?_ | (first | refine ZCalls.to (hto3) ?_ | refine ZCalls.tf (hto3) ?_) | (refine (heT.lend rfl (.ownB (hx0.ext (Nat.le_refl _) (by exact exY)) (.cl (Cl.zT T) .nil))).mono ?_; rintro u H3 ⟨rfl, he3⟩; have he3g := he3.get; have he3s := he3.size; (try simp only [nx] at he3s); refine hgY ?_) | fail
    repeat' first | refine rnY ?_ | (first | refine ZCalls.to (hto3) ?_ | refine ZCalls.tf (hto3) ?_) | (first | refine ZCalls.to (him2) ?_ | refine ZCalls.tf (him2) ?_) | (first | refine ZCalls.to (heq3) ?_ | refine ZCalls.tf (heq3) ?_) | (refine (markTriangulation_m (hx0.ext (Nat.le_refl _) (by exact exY)) (by exact sdY) hS' (by omega) (by omega)).mono ?_; rintro u H4 ⟨rfl, hm4⟩; have hg4 := OwnB.extR (hg.ext (Nat.le_refl _) (by exact exY)) (by exact sdY) hm4 (.inr (by exact sdY)); have hE4 := Ext.viaR (show Ext H _ from by exact exY) hm4 (by exact sdY); clear hx0; have hm4g := hm4.get; have hm4s := hm4.size; (try simp only [nx] at hm4s)) | (refine (heq2.lend rfl (.ownB (hg4.ext (by exact sdY) (by exact exY)) (.cl (Cl.zII L) .nil))).mono ?_; rintro u H5 ⟨rfl, he5⟩; clear heq2; have he5g := he5.get; have he5s := he5.size; (try simp only [nx] at he5s)) | (refine (markInt64SS_b (hg4.ext (by exact sdY) (by exact exY)) (by exact sdY) (by omega) hr6 (by omega) (by omega)).mono ?_; rintro u H6 ⟨rfl, hm6, hg6⟩; have hE6 := Ext.viaR (show Ext H _ from by exact exY) hm6 (by exact sdY); clear hg4; have hm6g := hm6.get; have hm6s := hm6.size; (try simp only [nx] at hm6s)) | (refine (hheld.lend rfl (.ownB (hg6.ext (by exact sdY) (by exact exY)) (.cl (Cl.int _ _) .nil))).mono ?_; rintro u H7 ⟨rfl, he7⟩; have he7g := he7.get; have he7s := he7.size; (try simp only [nx] at he7s)) | with_reducible refine And.intro (fun hc => ?_) (fun hc => ?_) | fail
    exact hQ.out _ _ (fv) (by exact exY)
end Go.Proofs.Ytmoknllbpjpkmaa.Zed

