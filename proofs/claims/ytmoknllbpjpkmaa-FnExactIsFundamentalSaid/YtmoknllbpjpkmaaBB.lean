/- A part of the walk: what functions of the program do, over an abstract heap. -/
import Derived.Test.YtmoknllbpjpkmaaBA
import Derived.Test.YtmoknllbpjpkmaaX11
import Derived.Test.YtmoknllbpjpkmaaW24
namespace Go.Proofs.Ytmoknllbpjpkmaa.Zed
open Go TP
set_option linter.unusedVariables false
set_option linter.unusedSimpArgs false
set_option maxRecDepth 20000
namespace tfY10
theorem tf : (Try.prog.underlying 25 = some (.slice 2)) ∧ (el Try.prog 25 = some (none, 1)) ∧ (tk Try.prog 2 = some none) ∧ (tk Try.prog 31 = some (some 1)) ∧ (tk Try.prog 121 = some (some 3)) ∧ (cz Try.prog 2 = some 1) ∧ (bz Try.prog 2 = some 8) ∧ (zr Try.prog 2 = some (.int .i64 0)) ∧ (zr Try.prog 121 = some (.agg #[.int .i64 0, .int .i64 0, .slice none 0 0])) ∧ (fo Try.prog 121 0 = some (0, none)) := by
  refine ⟨?_, ?_, ?_, ?_, ?_, ?_, ?_, ?_, ?_, ?_⟩ <;> kernel_rfl
end tfY10
open tfY10

theorem solvesPT_z {T : List (List (Int × Int))} (h6 : T.length ≤ 6) {u : List Int} (hu : u.length = 7 * T.length) (hb : ∀ j, 0 ≤ u.getD j 0 ∧ u.getD j 0 ≤ 1000) :
    ZCalls Try.prog 119 [mxV (mmR T).length (7 * T.length) (mmR T).flatten, zI u] (B (svM (mmR T) (7 * T.length) u)) := by
  have hrows : ∀ r, r < (mmR T).length → rowN (mmR T).flatten (7 * T.length) r = (mmR T).getD r [] := fun r hr => flat_row (mmR_rows T) r hr
  have hml := mmR_len T
  have hsol := solves_z (R := (mmR T).length) (C := 7 * T.length) (L := (mmR T).flatten) (w := u) (A := 4) (B' := 1000) (flat_len (mmR_rows T)) (by omega) (by omega) (by omega) (by omega) (by omega) (by omega)
    (fun r hr j => by
      rw [hrows r hr]
      have hin : (mmR T).getD r [] ∈ mmR T := by simp [hr]
      exact mTs_bd T.length T T.length _ hin j)
    (fun j => by have := hb j; omega)
  have hdec : decide (∀ r, r < (mmR T).length → dotL (rowN (mmR T).flatten (7 * T.length) r) u (7 * T.length) = 0) = svM (mmR T) (7 * T.length) u := by
    unfold svM
    congr 1
    exact propext ⟨fun h r hr => by have := h r hr; rw [hrows r hr] at this; exact this, fun h r hr => by rw [hrows r hr]; exact h r hr⟩
  rw [hdec] at hsol
  have e7 : (((7 * T.length : Nat)) : Int) = 7 * (T.length : Int) := by omega
  rw [e7] at hsol
  exact hsol
set_option maxHeartbeats 8000000 in
theorem parts_g {T : List (List (Int × Int))} (hT : IsTri T) (h6 : T.length ≤ 6) {v : List Int} (hv : v.length = 7 * T.length) (hb : ∀ j, 0 ≤ v.getD j 0 ∧ v.getD j 0 ≤ 1000) (F : FuncId) (env : Value) {H : Heap} (J : Nat → Nat → Heap → Prop) (Jx : Nat → Heap → Prop)
    (hkeep : ∀ g k H1 H2, J g k H1 → H1.size ≤ H2.size → (∀ b, b < H1.size → b ≠ g → H2.get b = H1.get b) → J g k H2)
    (h0 : ∀ g H1, Ext H H1 → H.size ≤ g → g < H1.size → J g 0 H1)
    (visit : ∀ H1 g k u, (PT T v)[k]? = some u → J g k H1 → H.size ≤ g → g < H1.size → H1.get g = .cells (ints u) 1 false →
      ACalls Try.prog F [.slice (some ⟨g, 0, none⟩) v.length (v.length + 1), env] H1 fun r H2 => ∃ b, r = B b ∧ H1.size ≤ H2.size ∧ (∀ x, H.size ≤ x → x ≤ g → H2.get x = H1.get x) ∧ ((b = true ∧ J g (k + 1) H2) ∨ (b = false ∧ Jx k H2))) :
    ACalls Try.prog 77 [zT T, zI v, .func (.func F) #[] #[env]] H fun r H' => r = undef ∧ ((∃ g, J g (PT T v).length H') ∨ ∃ k, Jx k H') := by
  have hmm := matchingMatrix_z hT.fine
  have hS := fun {u : List Int} (hu : LeL u v) => solvesPT_z h6 (hu.1.trans hv) (hu.bd fun j => (hb j).2)
  have hnn := nonneg_mem fun j => (hb j).1
  have hlk := fun n u => (Lnk.get (allU_lnk v hnn) (n := n) (a := u))
  have hLe : ∀ n u, (allU v)[n]? = some u → LeL u v := fun n u h => (mem_allU v u hnn).1 (List.mem_of_getElem? h)
  have hhd := allU_head v
  rw [List.head?_eq_getElem?] at hhd
  have hpt : PT T v = (allU v).filter (svM (mmR T) (7 * T.length)) := rfl
  rw [hpt] at visit ⊢
  have hvl : v.length ≤ 42 := by omega
  generalize svM (mmR T) (7 * T.length) = sv at *
  generalize allU v = U at *
  generalize (mmR T).flatten = L at *
  generalize ((mmR T).length : Int) = R at *
  generalize (7 * (T.length : Int)) = C at *
  clear hT hpt hnn hv
  obtain ⟨z0, hz0⟩ : ∃ z0, List.replicate v.length (0 : Int) = z0 := ⟨_, rfl⟩
  rw [hz0] at hhd
  refine ACalls.body Try.func77 rfl Try.ntmps77 (rs := []) rfl (by simp) rfl fun Q hQ A hA => ?_
  have a0 := hA 0 _ _ rfl
  have a1 := hA 1 _ _ rfl
  have a2 := hA 2 _ _ rfl
  clear hA
  have zf0 := @rep_ints
  have zf1 := @zero1
  repeat' first | refine rnY ?_ | (first | refine ZCalls.to (hmm) ?_ | refine ZCalls.tf (hmm) ?_) | with_reducible refine And.intro (fun hc => ?_) (fun hc => ?_) | fail
  refine AWp.cut (fun Ac hAc => ?_)
  have c1 := gtY (t := 1) hAc
  have c2 := gtY (t := 2) hAc
  have c6 := gtY (t := 6) hAc
  have c7 := gtY (t := 7) hAc
  clear a0 a1 a2 hmm hz0
  have ho0 : (U.take 0).filter sv = [] := rfl
  have hof : (U.take U.length).filter sv = U.filter sv := by rw [List.take_length]
  have hos : ∀ n u, U[n]? = some u → (U.take (n + 1)).filter sv = if sv u then (U.take n).filter sv ++ [u] else (U.take n).filter sv := fun n u h => by
    obtain ⟨h1, h2⟩ := List.getElem?_eq_some_iff.1 h
    rw [List.take_succ_eq_append_getElem h1, List.filter_append, h2]
    cases hs : sv u <;> simp [hs]
  have hkth : ∀ n u, U[n]? = some u → sv u = true → (U.filter sv)[((U.take n).filter sv).length]? = some u := fun n u h hs => by
    obtain ⟨h1, h2⟩ := List.getElem?_eq_some_iff.1 h
    have e : U.filter sv = (U.take n).filter sv ++ (U.drop n).filter sv := by rw [← List.filter_append, List.take_append_drop]
    rw [e, List.getElem?_append_right (Nat.le_refl _), Nat.sub_self, List.drop_eq_getElem_cons h1, h2, List.filter_cons_of_pos hs]
    rfl
  have hUp : 0 < U.length := (List.getElem?_eq_some_iff.1 hhd).1
  refine AWp.loopx (σ := Nat) (fun s A' H' => ∃ (n : Nat) (u : List Int), Ag [8, 14, 15, 16, 17, 18, 19, 20, 21, 22, 23, 24, 25, 26, 27, 28, 29, 30, 31, 32, 33, 34, 35, 36, 37, 38, 39, 40, 41, 42, 43, 44, 45, 46, 47, 48, 49, 50, 51] A' Ac ∧ s + n = U.length ∧ U[n]? = some u ∧ J (H.size + 1) ((U.take n).filter sv).length H' ∧ H'.get H.size = .cells [I R, I C, zI L] 1 false ∧ H'.get (H.size + 1) = .cells (ints u) 1 false ∧ H.size + 1 < H'.size) (fun s => s) (U.length) ?_ ?_
  · exact ⟨0, z0, agY, by omega, hhd, by rw [ho0]; exact h0 _ _ (by exact exY) (by omega) (by simp only [nx]; omega), by exact ivY, by exact ivY, by simp only [nx]; omega⟩
  · rintro s A1 H1 ⟨n, u, hA1, hsn, hu, hJ, hm, hg, hz⟩
    have d1 := gdY (t := 1) hA1
    have d2 := gdY (t := 2) hA1
    have d6 := gdY (t := 6) hA1
    have d7 := gdY (t := 7) hA1
    have hLu := hLe n u hu
    have hul := hLu.1
    have hS := hS hLu
    have hzu : zI u = FZ 1 v.length (ints u) := by unfold Zed.zI; rw [hul]
    rw [hzu] at hS
    have hlk := hlk n u hu
    have hos := hos n u hu
    have hkth := hkth n u hu
    have hvis := fun H2 hk => visit H2 (H.size + 1) ((U.take n).filter sv).length u hk
    have hnx := nx_ln u v hul
    have hnlt : n < U.length := (List.getElem?_eq_some_iff.1 hu).1
    have hfin : nxU u v = none → (U.take (n + 1)).filter sv = U.filter sv := fun h => by
      rw [h] at hlk
      have : U.length ≤ n + 1 := Nat.le_of_not_lt fun hc => by rw [List.getElem?_eq_getElem hc] at hlk; cases hlk
      rw [List.take_of_length_le this]
    have hOu : OwnB H.size H1.size H1 [.slice (some ⟨H.size + 1, 0, none⟩) v.length (v.length + 1)] [FZ 1 v.length (ints u)] := OwnB.ints (by omega) hz hul hg
    clear visit hLe h0 ho0
    cases hs : sv u
    case' false =>
      rw [hs] at hS hos
      rw [if_neg (by decide)] at hos
      clear hvis hkth
      rw [← hos] at hJ
      clear hos
      generalize hKe : (U.take (n + 1)).filter sv = K at *
      repeat' first | refine rnY ?_ | (refine (hS.lend rfl (.cl (Cl.mx R C L) (.ownB hOu .nil))).mono ?_; rintro r H3 ⟨rfl, he⟩; have hJ3 := hkeep _ _ _ _ hJ he.size (fun b hb _ => he.get b hb); have hm3 := (he.get _ (by omega)).trans hm; have hg3 := (he.get _ hz).trans hg; have hz3 : H.size + 1 < H3.size := Nat.lt_of_lt_of_le hz he.size; clear hJ hm hg hOu he) | with_reducible refine And.intro (fun hc => ?_) (fun hc => ?_) | fail
    case' true =>
      rw [hs] at hS hos
      rw [if_pos rfl] at hos
      have hvis := fun H2 => hvis H2 (hkth hs)
      clear hkth
      have hKl : ((U.take (n + 1)).filter sv).length = ((U.take n).filter sv).length + 1 := by rw [hos]; simp
      rw [← hKl] at hvis
      generalize ((U.take n).filter sv).length = kk at *
      clear hos hKl
      generalize hKe : (U.take (n + 1)).filter sv = K at *
      repeat' first | refine rnY ?_ | (refine (hS.lend rfl (.cl (Cl.mx R C L) (.ownB hOu .nil))).mono ?_; rintro r H2 ⟨rfl, he⟩; have hJ2 := hkeep _ _ _ _ hJ he.size (fun b hb _ => he.get b hb); have hm2 := (he.get _ (by omega)).trans hm; have hg2 := (he.get _ hz).trans hg; have hz2 : H.size + 1 < H2.size := Nat.lt_of_lt_of_le hz he.size; clear hJ hm hg hOu he) | (refine (hvis H2 hJ2 (by omega) hz2 hg2).mono ?_; rintro r H3 ⟨b, rfl, hzz3, hsame, ⟨rfl, hJ3⟩ | ⟨rfl, hJx⟩⟩; (have hm3 := (hsame _ (Nat.le_refl _) (by omega)).trans hm2; have hg3 := (hsame _ (by omega) (Nat.le_refl _)).trans hg2; have hz3 : H.size + 1 < H3.size := Nat.lt_of_lt_of_le hz2 hzz3; clear hJ2 hm2 hg2 hvis hsame)) | with_reducible refine And.intro (fun hc => ?_) (fun hc => ?_) | fail
      rotate_left
      · exact hQ.out _ _ ⟨rfl, .inr ⟨_, hJx⟩⟩
    all_goals
      refine AWp.cut (fun Ae hAe => ?_)
      have e1 := gtY (t := 1) hAe
      have e2 := gtY (t := 2) hAe
      have e6 := gtY (t := 6) hAe
      have e7 := gtY (t := 7) hAe
      have e8 := gtY (t := 8) hAe
      have hzA := zf_all u
      refine AWp.loop (fun A' H' => ∃ (k : Nat), Ag [26, 27, 28, 29, 30, 31, 32, 33, 34, 35, 36, 37, 38, 39, 40, 41, 42, 43] A' (put Ae (some 8) (I ((k : Int) - 1))) ∧ k ≤ u.length ∧ ln u v u.length = ln u v k ∧ J (H.size + 1) K.length H' ∧ H'.get H.size = .cells [I R, I C, zI L] 1 false ∧ H'.get (H.size + 1) = .cells (ints (zf u k)) 1 false ∧ H.size + 1 < H'.size) (fun A' _ => ((intV (A' 8)) + 1).toNat) ?_ ?_
      · exact ⟨u.length, by rw [hul]; exact agY, by omega, rfl, hJ3, hm3, by rw [hzA]; exact hg3, hz3⟩
      · clear hJ3 hm3 hg3 hz3 hzA
        rintro A3 H4 ⟨k, hA3, hk, hln, hJ4, hm4, hg4, hz4⟩
        have f1 := gdY (t := 1) hA3
        have f2 := gdY (t := 2) hA3
        have f6 := gdY (t := 6) hA3
        have f7 := gdY (t := 7) hA3
        have f8 := gdY (t := 8) hA3
        have hzl := zf_len u k
        by_cases hk0 : k = 0
        · subst hk0
          have hK := hfin (by rw [hnx, hln]; rfl)
          have hneg : decide (((0 : Nat) : Int) - 1 ≥ 0) = false := rfl
          clear hfin hnx hlk hul
          repeat' first | refine rnY ?_ | with_reducible refine And.intro (fun hc => ?_) (fun hc => ?_) | fail
          refine AWp.zreg [(0, none), (1, none), (2, none), (3, none), (4, none), (5, none), (6, none), (7, none), (8, none), (9, none), (10, none), (11, none), (12, none)] mixed (by kernel_rfl) ?_
          repeat' first | refine rzY ?_ | fail
          repeat' first | refine rnY ?_ | with_reducible refine And.intro (fun hc => ?_) (fun hc => ?_) | fail
          exact hQ.out _ _ ⟨rfl, .inl ⟨_, by rw [← hK]; exact hJ4⟩⟩
        · obtain ⟨i, rfl⟩ : ∃ i, k = i + 1 := ⟨k - 1, by omega⟩
          have hst : ln u v (i + 1) = if u.getD i 0 = v.getD i 0 then ln u v i else i + 1 := rfl
          have hzz := zf_zero u i (by omega)
          have hzg := zf_get u (i + 1) i (by omega)
          rw [if_pos (by omega)] at hzg
          have hi1 : ((i + 1 : Nat) : Int) - 1 = i := by omega
          have hpos : decide ((i : Int) ≥ 0) = true := decide_eq_true (by omega)
          by_cases he : u.getD i 0 = v.getD i 0
          · rw [if_pos he] at hst
            have heb : (u.getD i 0 == v.getD i 0) = true := by rw [beq_iff_eq]; exact he
            rw [hst] at hln
            have hJ5 := hkeep _ _ _ (H4.set (H.size + 1) (.cells (ints (zf u i)) 1 false)) hJ4 (Nat.le_refl _) (fun b _ hb => get_set_ne hb)
            clear he hst hfin hnx hlk
            repeat' first | refine rnY ?_ | with_reducible refine And.intro (fun hc => ?_) (fun hc => ?_) | fail
            refine AWp.zreg [(0, none), (1, none), (2, none), (3, none), (4, none), (5, none), (6, none), (7, none), (8, none), (9, none), (10, none), (11, none), (12, none)] mixed (by kernel_rfl) ?_
            repeat' first | refine rzY ?_ | fail
            repeat' first | refine rnY ?_ | with_reducible refine And.intro (fun hc => ?_) (fun hc => ?_) | fail
            exact ⟨⟨i, agY, by omega, hln, hJ5, by exact ivY, by rw [← hzz]; exact ivY, by exact ivY⟩, by exact ivY⟩
          · rw [if_neg he] at hst
            have heb : (u.getD i 0 == v.getD i 0) = false := by rw [beq_eq_false_iff_ne]; exact he
            rw [hst] at hln
            rw [hln] at hnx
            rw [if_neg (by omega), Nat.add_sub_cancel] at hnx
            rw [hnx] at hlk
            have hJ5 := hkeep _ _ _ (H4.set (H.size + 1) (.cells (ints ((zf u (i + 1)).set i (u.getD i 0 + 1))) 1 false)) hJ4 (Nat.le_refl _) (fun b _ hb => get_set_ne hb)
            have hbi := hb i
            have hui := (hLu.2 i (by omega))
            clear he hst hfin hnx hzz hln hb hLu
            repeat' first | refine rnY ?_ | with_reducible refine And.intro (fun hc => ?_) (fun hc => ?_) | fail
            refine AWp.zreg [(0, none), (1, none), (2, none), (3, none), (4, none), (5, none), (6, none), (7, none), (8, none), (9, none), (10, none), (11, none), (12, none)] mixed (by kernel_rfl) ?_
            repeat' first | refine rzY ?_ | fail
            repeat' first | refine rnY ?_ | with_reducible refine And.intro (fun hc => ?_) (fun hc => ?_) | fail
            exact ⟨s - 1, ⟨n + 1, (zf u (i + 1)).set i (u.getD i 0 + 1), agY, by omega, hlk.symm, by rw [hKe]; exact hJ5, by exact ivY, by exact ivY, by exact ivY⟩, by omega⟩
end Go.Proofs.Ytmoknllbpjpkmaa.Zed
namespace Go.Proofs.Ytmoknllbpjpkmaa.Zed
open Go TP
set_option linter.unusedVariables false
set_option linter.unusedSimpArgs false
set_option maxRecDepth 20000
namespace tfY11
theorem tf : (Try.prog.underlying 25 = some (.slice 2)) ∧ (el Try.prog 25 = some (none, 1)) ∧ (tk Try.prog 2 = some none) ∧ (tk Try.prog 25 = some none) ∧ (tk Try.prog 31 = some (some 1)) ∧ (cz Try.prog 2 = some 1) ∧ (bz Try.prog 2 = some 8) ∧ (zr Try.prog 2 = some (.int .i64 0)) ∧ (zr Try.prog 25 = some (.slice none 0 0)) := by
  refine ⟨?_, ?_, ?_, ?_, ?_, ?_, ?_, ?_, ?_⟩ <;> kernel_rfl
end tfY11
open tfY11

theorem fstVisit_no {H : Heap} {bm g : Nat} {u : List Int} (hbm : bm < H.size) (hg : g < H.size) (hne : bm ≠ g) (hb0 : H.get bm = .cells [.slice none 0 0] 1 false) (hgu : H.get g = .cells (ints u) 1 false) (hl : u.length ≤ 1000) (hb : ∀ j, 0 ≤ u.getD j 0 ∧ u.getD j 0 ≤ 1000) (hz : gT u u.length = 0) :
    ACalls Try.prog 106 [.slice (some ⟨g, 0, none⟩) u.length (u.length + 1), .pointer (some ⟨bm, 0, none⟩)] H fun r H' => r = B true ∧ Ext H H' := by
  have hgc := gcdOf_z (l := u) (by omega) hb
  rw [hz] at hgc
  have hO : OwnB 0 H.size H [.slice (some ⟨g, 0, none⟩) u.length (u.length + 1)] [zI u] := OwnB.ints (by omega) hg rfl hgu
  refine ACalls.body Try.func106 rfl Try.ntmps106 (rs := [.tmp 3]) rfl (by simp) rfl fun Q hQ A hA => ?_
  have a0 := hA 0 _ _ rfl
  have a1 := hA 1 _ _ rfl
  clear hA
  repeat' first | refine rnY ?_ | (refine (hgc.lend rfl (.ownB hO .nil)).mono ?_; rintro r H2 ⟨rfl, he⟩; have heg := he.get; have hes := he.size; (try simp only [nx] at hes)) | with_reducible refine And.intro (fun hc => ?_) (fun hc => ?_) | fail
  exact hQ.out _ _ ⟨rfl, by exact exY⟩
theorem fstVisit_yes {H : Heap} {bm g : Nat} {u : List Int} (hbm : bm < H.size) (hg : g < H.size) (hne : bm ≠ g) (hb0 : H.get bm = .cells [.slice none 0 0] 1 false) (hgu : H.get g = .cells (ints u) 1 false) (hl : u.length ≤ 1000) (hb : ∀ j, 0 ≤ u.getD j 0 ∧ u.getD j 0 ≤ 1000) (hz : gT u u.length ≠ 0) :
    ACalls Try.prog 106 [.slice (some ⟨g, 0, none⟩) u.length (u.length + 1), .pointer (some ⟨bm, 0, none⟩)] H fun r H' => r = B false ∧ ∃ w, H'.get bm = .cells [w] 1 false ∧ OwnB H.size H'.size H' [w] [zI u] ∧ H.size ≤ H'.size ∧ ∀ x, x < H.size → x ≠ bm → H'.get x = H.get x := by
  have hgc := gcdOf_z (l := u) (by omega) hb
  have hzb : (((gT u u.length : Nat) : Int) == 0) = false := by rw [beq_eq_false_iff_ne]; omega
  have hu0 : 0 < u.length := by
    rcases Nat.eq_zero_or_pos u.length with h | h
    · rw [h] at hz; exact absurd rfl hz
    · exact h
  have hcl := clone_o (l := u) (by omega) hu0
  have hO : OwnB 0 H.size H [.slice (some ⟨g, 0, none⟩) u.length (u.length + 1)] [zI u] := OwnB.ints (by omega) hg rfl hgu
  generalize ((gT u u.length : Nat) : Int) = d at *
  clear hz
  refine ACalls.body Try.func106 rfl Try.ntmps106 (rs := [.tmp 3]) rfl (by simp) rfl fun Q hQ A hA => ?_
  have a0 := hA 0 _ _ rfl
  have a1 := hA 1 _ _ rfl
  clear hA
  repeat' first | refine rnY ?_ | (refine (hgc.lend rfl (.ownB hO .nil)).mono ?_; rintro r H2 ⟨rfl, he⟩; have heg := he.get; have hes := he.size; (try simp only [nx] at hes)) | (refine (hcl.lend (.ownB (hO.ext (Nat.le_refl _) (by exact exY)) .nil)).mono ?_; rintro w H3 ⟨hO3, he3⟩; have hone := hO3.one; have hfz := hO3.frz; rcases hO3.shape with ⟨hw0, _⟩ | ⟨g3, o3, c3, ds, rfl, hw1, hw2, _⟩; exact absurd hw0 (by omega); have he3g := he3.get; have he3s := he3.size; (try simp only [nx] at he3s)) | with_reducible refine And.intro (fun hc => ?_) (fun hc => ?_) | fail
  refine hQ.out _ _ ⟨rfl, _, get_set_eq, ?_, by simp only [nx]; omega, fun x hx hn => (get_set_ne hn).trans ((he3g x (by omega)).trans (heg x hx))⟩
  exact (hO3.keep fun b hb1 hb2 => get_set_ne (by omega)).wide hes (by simp only [nx]; omega)
/-- The first part that is not 0. -/
def fpO (T : List (List (Int × Int))) (v : List Int) : Option (List Int) := (PT T v).find? fun u => decide (gT u u.length ≠ 0)
def fpL (T : List (List (Int × Int))) (v : List Int) : List Int := (fpO T v).getD []
theorem fpO_none {T : List (List (Int × Int))} {v : List Int} (h : ∀ (k : Nat) (u : List Int), (PT T v)[k]? = some u → gT u u.length = 0) : fpO T v = none := by
  unfold fpO
  rw [List.find?_eq_none]
  intro u hu
  obtain ⟨k, hk, rfl⟩ := List.getElem_of_mem hu
  have := h k _ (List.getElem?_eq_getElem hk)
  simp [this]
theorem fpO_some {T : List (List (Int × Int))} {v u : List Int} {k : Nat} (hu : (PT T v)[k]? = some u) (h : ∀ (j : Nat) (w : List Int), j < k → (PT T v)[j]? = some w → gT w w.length = 0) (hz : gT u u.length ≠ 0) : fpO T v = some u := by
  obtain ⟨h1, h2⟩ := List.getElem?_eq_some_iff.1 hu
  unfold fpO
  rw [List.find?_eq_some_iff_getElem]
  refine ⟨by simpa using hz, k, h1, h2, fun j hj => ?_⟩
  have := h j _ hj (List.getElem?_eq_getElem (by omega))
  simp [this]
set_option maxHeartbeats 4000000 in
theorem firstPart_c {T : List (List (Int × Int))} (hT : IsTri T) (h6 : T.length ≤ 6) {v : List Int} (hv : v.length = 7 * T.length) (hb : ∀ j, 0 ≤ v.getD j 0 ∧ v.getD j 0 ≤ 1000) (H : Heap) : ACalls Try.prog 56 [zT T, zI v] H fun r H' => Ext H H' ∧ ((fpO T v = none ∧ r = .slice none 0 0) ∨ ∃ u, fpO T v = some u ∧ 0 < u.length ∧ OwnB H.size H'.size H' [r] [zI u]) := by
  have hnn := nonneg_mem fun j => (hb j).1
  have hpm : ∀ (k : Nat) (u : List Int), (PT T v)[k]? = some u → u.length = v.length ∧ ∀ j, 0 ≤ u.getD j 0 ∧ u.getD j 0 ≤ 1000 := fun k u h => by
    have h1 := ((PL_mem hnn).1 (List.mem_of_getElem? h)).1
    exact ⟨h1.1, h1.bd fun j => (hb j).2⟩
  have hpp := fun H0 bm (hbm : bm < H0.size) (hb0 : H0.get bm = .cells [.slice none 0 0] 1 false) => parts_g hT h6 hv hb 106 (.pointer (some ⟨bm, 0, none⟩)) (H := H0)
    (fun g k H1 => bm ≠ g ∧ bm < H1.size ∧ H0.size ≤ g ∧ H1.get bm = .cells [.slice none 0 0] 1 false ∧ Ext H0 H1 ∧ ∀ (j : Nat) (u : List Int), j < k → (PT T v)[j]? = some u → gT u u.length = 0)
    (fun k H1 => ∃ u w, (PT T v)[k]? = some u ∧ (∀ (j : Nat) (w : List Int), j < k → (PT T v)[j]? = some w → gT w w.length = 0) ∧ gT u u.length ≠ 0 ∧ H0.size ≤ H1.size ∧ (∀ x, x < H0.size → x ≠ bm → H1.get x = H0.get x) ∧ H1.get bm = .cells [w] 1 false ∧ OwnB H0.size H1.size H1 [w] [zI u])
    (fun g k H1 H2 h hs hk => ⟨h.1, Nat.lt_of_lt_of_le h.2.1 hs, h.2.2.1, (hk bm h.2.1 h.1).trans h.2.2.2.1, ⟨Nat.le_trans h.2.2.2.2.1.size hs, fun x hx => (hk x (Nat.lt_of_lt_of_le hx h.2.2.2.2.1.size) (by have := h.2.2.1; omega)).trans (h.2.2.2.2.1.get x hx)⟩, h.2.2.2.2.2⟩)
    (fun g H1 hx h1 h2 => ⟨by omega, Nat.lt_of_lt_of_le hbm hx.size, h1, (hx.get bm hbm).trans hb0, hx, fun j u hj => by omega⟩)
    (fun H1 g k u hu hJ hgs hgz hgu => by
      obtain ⟨j1, j2, j3, j4, j5, j6⟩ := hJ
      obtain ⟨hul, hub⟩ := hpm k u hu
      rw [← hul]
      by_cases hz : gT u u.length = 0
      · refine (fstVisit_no j2 hgz j1 j4 hgu (by omega) hub hz).mono ?_
        rintro r H2 ⟨rfl, he⟩
        refine ⟨true, rfl, he.size, fun x _ hx => he.get x (by omega), .inl ⟨rfl, j1, Nat.lt_of_lt_of_le j2 he.size, j3, (he.get bm j2).trans j4, j5.trans he, fun j w hj hw => ?_⟩⟩
        rcases Nat.lt_or_ge j k with h | h
        · exact j6 j w h hw
        · obtain rfl : j = k := by omega
          rw [hu] at hw; cases hw; exact hz
      · refine (fstVisit_yes j2 hgz j1 j4 hgu (by omega) hub hz).mono ?_
        rintro r H2 ⟨rfl, w, h1, h2, h3, h4⟩
        exact ⟨false, rfl, h3, fun x hx1 hx2 => h4 x (by omega) (by omega), .inr ⟨rfl, u, w, hu, j6, hz, Nat.le_trans j5.size h3, fun x hx hn => (h4 x (Nat.lt_of_lt_of_le hx j5.size) hn).trans (j5.get x hx), h1, h2.wide j5.size (Nat.le_refl _)⟩⟩)
  have hend : ∀ (k : Nat), k = (PT T v).length → (∀ (j : Nat) (u : List Int), j < k → (PT T v)[j]? = some u → gT u u.length = 0) → fpO T v = none := fun k hk h =>
    fpO_none fun j u hu => h j u (by rw [hk]; exact (List.getElem?_eq_some_iff.1 hu).1) hu
  have hend2 : ∀ (k : Nat) (u : List Int), (PT T v)[k]? = some u → (∀ (j : Nat) (w : List Int), j < k → (PT T v)[j]? = some w → gT w w.length = 0) → gT u u.length ≠ 0 → fpO T v = some u := fun k u h1 h2 h3 => fpO_some h1 h2 h3
  generalize fpO T v = out at *
  clear hnn hpm
  refine ACalls.body Try.func56 rfl Try.ntmps56 (rs := [.tmp 4]) rfl (by simp) rfl fun Q hQ A hA => ?_
  have a0 := hA 0 _ _ rfl
  have a1 := hA 1 _ _ rfl
  clear hA
  repeat' first | refine rnY ?_ | (refine (hpp _ H.size (by simp only [nx]; omega) (by exact ivY)).mono ?_; clear hpp; rintro r H1 ⟨rfl, ⟨g, j1, j2, j3, j4, j5, j6⟩ | ⟨k, u, w, j1, j2, j3, j4, j5, j6, j7⟩⟩) | with_reducible refine And.intro (fun hc => ?_) (fun hc => ?_) | fail
  · exact hQ.out _ _ ⟨by exact exY, .inl ⟨hend _ rfl j6, rfl⟩⟩
  · have hE : Ext H H1 := ⟨by simp only [nx] at j4; omega, fun b hb => (j5 b (by simp only [nx]; omega) (by omega)).trans (get_push_lt hb)⟩
    have hu0 : 0 < u.length := by
      rcases Nat.eq_zero_or_pos u.length with h | h
      · rw [h] at j3; exact absurd rfl j3
      · exact h
    exact hQ.out _ _ ⟨hE, .inr ⟨u, hend2 k u j1 j2 j3, hu0, j7.wide (lo' := H.size) (by simp only [nx]; omega) (Nat.le_refl _)⟩⟩
theorem firstPart_o {T : List (List (Int × Int))} (hT : IsTri T) (h6 : T.length ≤ 6) {v : List Int} (hv : v.length = 7 * T.length) (hb : ∀ j, 0 ≤ v.getD j 0 ∧ v.getD j 0 ≤ 1000) : OCalls Try.prog 56 [zT T, zI v] (zI (fpL T v)) := fun H =>
  (firstPart_c hT h6 hv hb H).mono fun r H' ⟨he, h⟩ => ⟨by
    rcases h with ⟨h, rfl⟩ | ⟨u, h, _, hO⟩
    · unfold fpL; rw [h]; exact (OwnB.nilr (lo := H.size) (hi := H.size) 1).out
    · unfold fpL; rw [h]; exact hO.out, he⟩
/-! What the specification says of the list, and what the program says of its first part. -/
theorem gT_rep (n k : Nat) : gT (List.replicate n 0) k = 0 := by
  rw [gT_zero (fun j => by simp only [List.getD_eq_getElem?_getD, List.getElem?_replicate]; split <;> simp)]
  intro j _
  simp only [List.getD_eq_getElem?_getD, List.getElem?_replicate]; split <;> rfl
theorem gT_ne {u : List Int} (h : ∀ j, 0 ≤ u.getD j 0) (hne : u ≠ List.replicate u.length 0) : gT u u.length ≠ 0 := fun hz => by
  rw [gT_zero h] at hz
  refine hne (List.ext_getElem (by simp) fun i h1 h2 => ?_)
  have := hz i h1
  simpa [h1] using this
theorem dot_zero (r : List Int) (n : Nat) : ∀ k, dotL r (List.replicate n 0) k = 0
  | 0 => rfl
  | k + 1 => by
    have e : (List.replicate n (0 : Int)).getD k 0 = 0 := by simp only [List.getD_eq_getElem?_getD, List.getElem?_replicate]; split <;> rfl
    rw [dotL, dot_zero r n k, e]; simp
theorem sv_zero (M : List (List Int)) (n m : Nat) : svM M n (List.replicate m 0) = true := decide_eq_true fun r _ => dot_zero _ _ _
theorem sv_nr {T : List (List (Int × Int))} {v : List Int} (h : NrI T v) : svM (mmR T) (7 * T.length) v = true := decide_eq_true h.2.2
section
variable {T : List (List (Int × Int))} {v : List Int}
/-- The list: 0, the first part, more. -/
theorem PT_cases (hb : ∀ j, 0 ≤ v.getD j 0 ∧ v.getD j 0 ≤ 1000) (hs : svM (mmR T) (7 * T.length) v = true) :
    (v = List.replicate v.length 0 ∧ PT T v = [v] ∧ fpO T v = none) ∨
    (v ≠ List.replicate v.length 0 ∧ ∃ u t, PT T v = List.replicate v.length 0 :: u :: t ∧ fpO T v = some u ∧ gT u u.length ≠ 0 ∧ (t = [] ↔ u = v)) := by
  have hnn := nonneg_mem fun j => (hb j).1
  obtain ⟨t, ht⟩ := PL_head (sv := svM (mmR T) (7 * T.length)) (v := v) (sv_zero _ _ _)
  have hself : v ∈ PT T v := (PL_mem hnn).2 ⟨⟨rfl, fun i _ => ⟨(hb i).1, Int.le_refl _⟩⟩, hs⟩
  have hsort := PL_sorted (sv := svM (mmR T) (7 * T.length)) (v := v)
  have hpm : ∀ u, u ∈ PT T v → u.length = v.length ∧ ∀ j, 0 ≤ u.getD j 0 := fun u hu => by
    have h1 := ((PL_mem hnn).1 hu).1
    exact ⟨h1.1, fun j => (h1.bd (fun j => (hb j).2) j).1⟩
  by_cases hz : v = List.replicate v.length 0
  · left
    have h0 : (PT T v)[0]? = some v := by
      show (PL _ v)[0]? = _
      rw [ht, ← hz]; rfl
    have hl := PL_last hnn h0
    have ht0 : t = [] := by
      rw [ht] at hl; simp at hl; exact hl
    have hP : PT T v = [v] := by show PL _ v = _; rw [ht, ht0, ← hz]
    refine ⟨hz, hP, fpO_none fun k u hu => ?_⟩
    rw [hP] at hu
    have : u = v := by simpa using List.mem_of_getElem? hu
    rw [this, hz, List.length_replicate]; exact gT_rep _ _
  · right
    refine ⟨hz, ?_⟩
    cases t with
    | nil =>
      change v ∈ PL _ v at hself
      rw [ht] at hself
      simp at hself
      exact absurd hself hz
    | cons u t =>
      have hP : PT T v = List.replicate v.length 0 :: u :: t := ht
      have hu : u ∈ PT T v := by rw [hP]; simp
      obtain ⟨hul, hub⟩ := hpm u hu
      have hlt : lxU (List.replicate v.length 0) u := by
        have h1 := hsort
        rw [ht] at h1
        exact (List.pairwise_cons.1 h1).1 u (by simp)
      have hune : u ≠ List.replicate u.length 0 := fun e => by rw [hul] at e; rw [← e] at hlt; exact lx_irr _ hlt
      have hg := gT_ne hub hune
      refine ⟨u, t, hP, fpO_some (k := 1) (by rw [hP]; rfl) (fun j w hj hw => ?_) hg, ?_⟩
      · obtain rfl : j = 0 := by omega
        rw [hP] at hw
        simp at hw
        rw [← hw, List.length_replicate]; exact gT_rep _ _
      · refine ⟨hg, fun h0 => ?_, fun e => ?_⟩
        · subst h0
          rw [hP] at hself
          simp at hself
          rcases hself with h | h
          · exact absurd h hz
          · exact h.symm
        · have h1 : (PT T v)[1]? = some v := by rw [hP, ← e]; rfl
          have := PL_last hnn h1
          rw [ht] at this
          simp at this
          exact this
end
end Go.Proofs.Ytmoknllbpjpkmaa.Zed
namespace Go.Proofs.Ytmoknllbpjpkmaa.Zed
open Go TP
set_option linter.unusedVariables false
set_option linter.unusedSimpArgs false
set_option maxRecDepth 20000
namespace tfY12
theorem tf : (Try.prog.underlying 25 = some (.slice 2)) ∧ (el Try.prog 25 = some (none, 1)) ∧ (Try.prog.underlying 51 = some (.slice 25)) ∧ (el Try.prog 51 = some (none, 1)) ∧ (tk Try.prog 2 = some none) ∧ (tk Try.prog 25 = some none) ∧ (tk Try.prog 31 = some (some 1)) ∧ (cz Try.prog 2 = some 1) ∧ (bz Try.prog 2 = some 8) ∧ (cz Try.prog 25 = some 1) ∧ (bz Try.prog 25 = some 24) ∧ (zr Try.prog 2 = some (.int .i64 0)) ∧ (zr Try.prog 25 = some (.slice none 0 0)) := by
  refine ⟨?_, ?_, ?_, ?_, ?_, ?_, ?_, ?_, ?_, ?_, ?_, ?_, ?_⟩ <;> kernel_rfl
end tfY12
open tfY12

/-- The number of vectors. -/
def pdL (v : List Int) : Nat := v.foldr (fun x n => (x.toNat + 1) * n) 1
theorem pdL_snoc (x : Int) : ∀ v : List Int, pdL (v ++ [x]) = pdL v * (x.toNat + 1)
  | [] => by simp [pdL]
  | y :: v => by
    have ih := pdL_snoc x v
    show (y.toNat + 1) * pdL (v ++ [x]) = (y.toNat + 1) * pdL v * (x.toNat + 1)
    rw [ih, Nat.mul_assoc]
theorem sum_const (c : Nat) : ∀ l : List Nat, (l.map fun _ => c).sum = l.length * c
  | [] => by simp
  | a :: l => by rw [List.map_cons, List.sum_cons, sum_const c l, List.length_cons, Nat.succ_mul]; omega
theorem allU_pd : ∀ v : List Int, (allU v).length = pdL v
  | [] => rfl
  | x :: v => by
    have ih := allU_pd v
    show ((List.range (x.toNat + 1)).flatMap fun (a : Nat) => (allU v).map fun u => (a : Int) :: u).length = (x.toNat + 1) * pdL v
    rw [List.length_flatMap, ← ih]
    have : (fun (a : Nat) => ((allU v).map fun u => (a : Int) :: u).length) = fun _ => (allU v).length := funext fun a => List.length_map _
    rw [this]
    rw [sum_const, List.length_range]
theorem candS_pd {v : List Int} (h : ∀ j, 0 ≤ v.getD j 0) : ∀ k, k ≤ v.length → candS v k = min ((pdL (v.take k) : Nat) : Int) 20001
  | 0, _ => by show (1 : Int) = min ((1 : Nat) : Int) 20001; omega
  | k + 1, hk => by
    have ih := candS_pd h k (by omega)
    have hv := h k
    have e : v.take (k + 1) = v.take k ++ [v.getD k 0] := by rw [List.take_succ_eq_append_getElem (by omega)]; simp [show k < v.length by omega]
    rw [e, pdL_snoc]
    unfold candS
    rw [ih]
    obtain ⟨x, hx⟩ : ∃ x : Nat, v.getD k 0 = x := ⟨(v.getD k 0).toNat, by omega⟩
    rw [hx, Int.toNat_natCast]
    generalize pdL (v.take k) = p
    rw [Int.natCast_mul]
    by_cases hp : (p : Int) ≤ 20001
    · rw [show min (p : Int) 20001 = p by omega]; rfl
    · have h1 : (20001 : Int) * (x + 1) ≤ p * (x + 1) := Int.mul_le_mul_of_nonneg_right (by omega) (by omega)
      have h2 : (20001 : Int) * 1 ≤ 20001 * (x + 1) := Int.mul_le_mul_of_nonneg_left (by omega) (by omega)
      rw [show min (p : Int) 20001 = 20001 by omega]
      have e2 : ((x + 1 : Nat) : Int) = (x : Int) + 1 := by omega
      rw [e2]
      omega
theorem scT_ok {T : List (List (Int × Int))} {v : List Int} (h : scT T v = 0) : codeN T = 0 ∧ AdI T v ∧ (allU v).length ≤ 20000 := by
  unfold scT at h
  split at h
  · rename_i h0
    obtain ⟨h1, h2⟩ := aC_ok h0
    refine ⟨h1, h2, ?_⟩
    split at h
    · cases h
    · rename_i h3
      have := candS_pd (fun j => (nrI_bd h2.1 j).1) v.length (Nat.le_refl _)
      rw [List.take_length] at this
      rw [allU_pd]
      omega
  · rename_i h0; exact absurd h h0
/-- What IsFundamental answers. -/
def ifV (T : List (List (Int × Int))) (v : List Int) : Value := if scT T v = 0 then .tuple #[B (decide ((PT T v).length = 2)), I 0] else .tuple #[B false, I (scT T v)]
set_option maxHeartbeats 4000000 in
theorem implIsFundamental_z {T : List (List (Int × Int))} (hl : T.length ≤ 1048576) (v : List Int) (hv : v.length ≤ 1048576) : ZCalls Try.prog 17 [zT T, zI v] (ifV T v) := by
  have hc := splitCode_z hl v hv
  unfold ifV
  by_cases h : scT T v = 0
  · rw [if_pos h]
    obtain ⟨h1, h2, h3⟩ := scT_ok h
    have h6 := codeN_six h1
    have hb := nrI_bd h2.1
    have hg := gcdOf_z hv hb
    have hfp := (firstPart_o (codeN_ok h1) h6 h2.1.1 hb).toZ (Cl.cons (Cl.zT T) (Cl.cons (Cl.zI v) Cl.nil))
    rw [h] at hc
    have hvn : ∀ j, 0 ≤ v.getD j 0 := fun j => (hb j).1
    rcases PT_cases hb (sv_nr h2.1) with ⟨q1, q2, q3⟩ | ⟨q1, u, t, q2, q3, q4, q5⟩
    · have hz : gT v v.length = 0 := by rw [q1, List.length_replicate]; exact gT_rep _ _
      rw [hz] at hg
      rw [q2]
      clear q1 q2 q3 h h1 h2 h3 hb hfp hvn
      refine ZCalls.body Try.func17 rfl Try.ntmps17 (rs := [.tmp 4, .tmp 5]) rfl (by simp) rfl fun H Q hQ A hA => ?_
      have a0 := hA 0 _ _ rfl
      have a1 := hA 1 _ _ rfl
      clear hA
      repeat' first | refine rnY ?_ | (first | refine ZCalls.to (hc) ?_ | refine ZCalls.tf (hc) ?_) | (first | refine ZCalls.to (hg) ?_ | refine ZCalls.tf (hg) ?_) | with_reducible refine And.intro (fun hc => ?_) (fun hc => ?_) | fail
      exact hQ.out _ _ (.eq (Cl.tuple (l := [B false, I 0]) (Cl.cons (Cl.bool _) (Cl.cons (Cl.int _ _) Cl.nil))) rfl) (by exact exY)
    · have hz := gT_ne hvn q1
      have hzb : (((gT v v.length : Nat) : Int) == 0) = false := by rw [beq_eq_false_iff_ne]; omega
      have e : fpL T v = u := by unfold fpL; rw [q3]; rfl
      rw [e] at hfp
      have hul : u.length ≤ 1048576 := by
        have h4 := ((PL_mem (nonneg_mem hvn)).1 (show u ∈ PT T v by rw [q2]; simp)).1.1
        omega
      have heq := equal_z hul hv
      have hd : decide ((PT T v).length = 2) = decide (u = v) := by
        rw [q2]
        congr 1
        refine propext ⟨fun h => q5.1 (List.eq_nil_of_length_eq_zero (by simpa using h)), fun h => by rw [q5.2 h]; rfl⟩
      rw [hd]
      generalize ((gT v v.length : Nat) : Int) = d at *
      generalize decide (u = v) = b at *
      clear q1 q2 q3 q4 q5 h h1 h2 h3 hb hvn hd e hz
      refine ZCalls.body Try.func17 rfl Try.ntmps17 (rs := [.tmp 4, .tmp 5]) rfl (by simp) rfl fun H Q hQ A hA => ?_
      have a0 := hA 0 _ _ rfl
      have a1 := hA 1 _ _ rfl
      clear hA
      repeat' first | refine rnY ?_ | (first | refine ZCalls.to (hc) ?_ | refine ZCalls.tf (hc) ?_) | (first | refine ZCalls.to (hg) ?_ | refine ZCalls.tf (hg) ?_) | (first | refine ZCalls.to (hfp) ?_ | refine ZCalls.tf (hfp) ?_) | (first | refine ZCalls.to (heq) ?_ | refine ZCalls.tf (heq) ?_) | with_reducible refine And.intro (fun hc => ?_) (fun hc => ?_) | fail
      exact hQ.out _ _ (.eq (Cl.tuple (l := [B b, I 0]) (Cl.cons (Cl.bool _) (Cl.cons (Cl.int _ _) Cl.nil))) rfl) (by exact exY)
  · rw [if_neg h]
    have hcb : (scT T v == 0) = false := by rw [beq_eq_false_iff_ne]; exact h
    generalize scT T v = k at *
    clear h
    refine ZCalls.body Try.func17 rfl Try.ntmps17 (rs := [.tmp 4, .tmp 5]) rfl (by simp) rfl fun H Q hQ A hA => ?_
    have a0 := hA 0 _ _ rfl
    have a1 := hA 1 _ _ rfl
    clear hA
    repeat' first | refine rnY ?_ | (first | refine ZCalls.to (hc) ?_ | refine ZCalls.tf (hc) ?_) | with_reducible refine And.intro (fun hc => ?_) (fun hc => ?_) | fail
    exact hQ.out _ _ (.eq (Cl.tuple (l := [B false, I k]) (Cl.cons (Cl.bool _) (Cl.cons (Cl.int _ _) Cl.nil))) rfl) (by exact exY)
set_option maxHeartbeats 4000000 in
theorem specIsFundamental_z {T : List (List (Int × Int))} (hl : T.length ≤ 1048576) (v : List Int) (hv : v.length ≤ 1048576) : ZCalls Try.prog 14 [zT T, zI v] (ifV T v) := by
  have hc := l20Code_z hl v hv
  unfold ifV
  by_cases h : scT T v = 0
  · rw [if_pos h]
    obtain ⟨h1, h2, h3⟩ := scT_ok h
    have h6 := codeN_six h1
    have hb := nrI_bd h2.1
    have hp := l20Parts_z (codeN_ok h1) h6 h2.1.1 hb (by omega)
    rw [h] at hc
    have hd : decide ((PT T v).length = 2) = (((PT T v).length : Int) == 2) := by
      by_cases e : (PT T v).length = 2
      · rw [e]; rfl
      · rw [decide_eq_false e]; symm; rw [beq_eq_false_iff_ne]; omega
    rw [hd]
    generalize PT T v = P at *
    clear h h1 h2 h3 hb hd
    refine ZCalls.body Try.func14 rfl Try.ntmps14 (rs := [.tmp 4, .tmp 5]) rfl (by simp) rfl fun H Q hQ A hA => ?_
    have a0 := hA 0 _ _ rfl
    have a1 := hA 1 _ _ rfl
    clear hA
    repeat' first | refine rnY ?_ | (first | refine ZCalls.to (hc) ?_ | refine ZCalls.tf (hc) ?_) | (first | refine ZCalls.to (hp) ?_ | refine ZCalls.tf (hp) ?_) | with_reducible refine And.intro (fun hc => ?_) (fun hc => ?_) | fail
    exact hQ.out _ _ (.eq (Cl.tuple (l := [B _, I 0]) (Cl.cons (Cl.bool _) (Cl.cons (Cl.int _ _) Cl.nil))) rfl) (by exact exY)
  · rw [if_neg h]
    have hcb : (scT T v == 0) = false := by rw [beq_eq_false_iff_ne]; exact h
    generalize scT T v = k at *
    clear h
    refine ZCalls.body Try.func14 rfl Try.ntmps14 (rs := [.tmp 4, .tmp 5]) rfl (by simp) rfl fun H Q hQ A hA => ?_
    have a0 := hA 0 _ _ rfl
    have a1 := hA 1 _ _ rfl
    clear hA
    repeat' first | refine rnY ?_ | (first | refine ZCalls.to (hc) ?_ | refine ZCalls.tf (hc) ?_) | with_reducible refine And.intro (fun hc => ?_) (fun hc => ?_) | fail
    exact hQ.out _ _ (.eq (Cl.tuple (l := [B false, I k]) (Cl.cons (Cl.bool _) (Cl.cons (Cl.int _ _) Cl.nil))) rfl) (by exact exY)
end Go.Proofs.Ytmoknllbpjpkmaa.Zed
namespace Go.Proofs.Ytmoknllbpjpkmaa.Zed
open Go TP
set_option linter.unusedVariables false
set_option linter.unusedSimpArgs false
set_option maxRecDepth 20000
namespace tfY13
theorem tf : (Try.prog.underlying 4 = some .bool) ∧ (Try.prog.underlying 25 = some (.slice 2)) ∧ (el Try.prog 25 = some (none, 1)) ∧ (tk Try.prog 2 = some none) ∧ (tk Try.prog 24 = some (some 1)) ∧ (tk Try.prog 31 = some (some 1)) ∧ (cz Try.prog 2 = some 1) ∧ (bz Try.prog 2 = some 8) ∧ (zr Try.prog 2 = some (.int .i64 0)) ∧ (zr Try.prog 31 = some (.agg #[.slice none 0 0])) := by
  refine ⟨?_, ?_, ?_, ?_, ?_, ?_, ?_, ?_, ?_, ?_⟩ <;> kernel_rfl
end tfY13
open tfY13

set_option maxHeartbeats 4000000 in
theorem lawIsFundamental_z {T : List (List (Int × Int))} (hS : Short T 9223372036854775807) (y : List Int) (hy : y.length ≤ 9223372036854775807) : ZCalls Try.prog 3 [zT T, zI y] (B true) := by
  by_cases hy1 : (y.length : Int) > 1048576
  · refine ZCalls.body Try.func3 rfl Try.ntmps3 (rs := [.tmp 4]) rfl (by simp) rfl fun H Q hQ A hA => ?_
    have a0 := hA 0 _ _ rfl
    have a1 := hA 1 _ _ rfl
    clear hA
    repeat' first | refine rnY ?_ | with_reducible refine And.intro (fun hc => ?_) (fun hc => ?_) | fail
    exact hQ.out _ _ (fv) (by exact exY)
  obtain ⟨s, h1, h2, h3, h4⟩ := szTriangulation_z hS
  by_cases hs : s < 0
  · refine ZCalls.body Try.func3 rfl Try.ntmps3 (rs := [.tmp 4]) rfl (by simp) rfl fun H Q hQ A hA => ?_
    have a0 := hA 0 _ _ rfl
    have a1 := hA 1 _ _ rfl
    clear hA
    repeat' first | refine rnY ?_ | (first | refine ZCalls.to (h4) ?_ | refine ZCalls.tf (h4) ?_) | with_reducible refine And.intro (fun hc => ?_) (fun hc => ?_) | fail
    exact hQ.out _ _ (fv) (by exact exY)
  · have hS' := h1 (by omega)
    have hy' : y.length ≤ 1048576 := by omega
    have hsp := specIsFundamental_z (T := T) hS'.1 y hy'
    have him := implIsFundamental_z (T := T) hS'.1 y hy'
    obtain ⟨b, c, hV⟩ : ∃ b c, ifV T y = .tuple #[B b, I c] := by
      unfold ifV; split <;> exact ⟨_, _, rfl⟩
    rw [hV] at hsp him
    have hti := toInt64S_z (l := y) hy'
    have heY := eqInt64S_z y (by omega)
    have hto := toTriangulation_z hS'
    have heT := eqTriangulation_z hS'
    have hbb : (b == b) = true := beq_self_eq_true b
    have hcc : (c == c) = true := beq_self_eq_true c
    clear h1 hV
    refine ZCalls.body Try.func3 rfl Try.ntmps3 (rs := [.tmp 4]) rfl (by simp) rfl fun H Q hQ A hA => ?_
    have a0 := hA 0 _ _ rfl
    have a1 := hA 1 _ _ rfl
    clear hA
    repeat' first | refine rnY ?_ | (first | refine ZCalls.to (h4) ?_ | refine ZCalls.tf (h4) ?_) | (first | refine ZCalls.to (hto) ?_ | refine ZCalls.tf (hto) ?_) | (first | refine ZCalls.to (hti) ?_ | refine ZCalls.tf (hti) ?_) | (first | refine ZCalls.to (hsp) ?_ | refine ZCalls.tf (hsp) ?_) | (first | refine ZCalls.to (him) ?_ | refine ZCalls.tf (him) ?_) | with_reducible refine And.intro (fun hc => ?_) (fun hc => ?_) | fail
    refine AWp.zreg [(0, none), (1, none), (2, none), (3, none), (4, none)] mixed (by kernel_rfl) ?_
    repeat' first | refine rzY ?_ | (first | refine ZCalls.to (hto) ?_ | refine ZCalls.tf (hto) ?_) | (first | refine ZCalls.to (heT) ?_ | refine ZCalls.tf (heT) ?_) | fail
    repeat' first | refine rnY ?_ | (first | refine ZCalls.to (hti) ?_ | refine ZCalls.tf (hti) ?_) | (first | refine ZCalls.to (heY) ?_ | refine ZCalls.tf (heY) ?_) | with_reducible refine And.intro (fun hc => ?_) (fun hc => ?_) | fail
    exact hQ.out _ _ (fv) (by exact exY)
end Go.Proofs.Ytmoknllbpjpkmaa.Zed
namespace Go.Proofs.Ytmoknllbpjpkmaa.Zed
open Go TP
set_option linter.unusedVariables false
set_option linter.unusedSimpArgs false
set_option maxRecDepth 20000
namespace tfY14
theorem tf : (Try.prog.underlying 25 = some (.slice 2)) ∧ (el Try.prog 25 = some (none, 1)) ∧ (Try.prog.underlying 51 = some (.slice 25)) ∧ (el Try.prog 51 = some (none, 1)) ∧ (tk Try.prog 2 = some none) ∧ (tk Try.prog 25 = some none) ∧ (tk Try.prog 31 = some (some 1)) ∧ (cz Try.prog 2 = some 1) ∧ (bz Try.prog 2 = some 8) ∧ (cz Try.prog 25 = some 1) ∧ (bz Try.prog 25 = some 24) ∧ (zr Try.prog 2 = some (.int .i64 0)) ∧ (zr Try.prog 25 = some (.slice none 0 0)) := by
  refine ⟨?_, ?_, ?_, ?_, ?_, ?_, ?_, ?_, ?_, ?_, ?_, ?_, ?_⟩ <;> kernel_rfl
end tfY14
open tfY14

theorem clone_c {l : List Int} (hl : l.length ≤ 100000) (h0 : 0 < l.length) (H : Heap) : ACalls Try.prog 79 [zI l] H fun r H' => r = .slice (some ⟨H.size + 1, 0, none⟩) l.length 0 ∧ H' = (H.push (.cells [] 1 false)).push (.cells (ints l) 1 false) := by
  refine ACalls.body Try.func79 rfl Try.ntmps79 (rs := [.tmp 2]) rfl (by simp) rfl fun Q hQ A hA => ?_
  have a0 := hA 0 _ _ rfl
  clear hA
  repeat' first | refine rnY ?_ | (refine appI (cs := []) (by exact ivY) (by simp) rfl (by omega) (by omega) ?_) | with_reducible refine And.intro (fun hc => ?_) (fun hc => ?_) | fail
  exact hQ.out _ _ ⟨rfl, rfl⟩
/-- The differences. -/
def mnL (v u : List Int) (k : Nat) : List Int := (List.range v.length).map fun i => if i < k then v.getD i 0 - u.getD i 0 else v.getD i 0
theorem mnL_len (v u : List Int) (k : Nat) : (mnL v u k).length = v.length := by simp [mnL]
theorem mnL_get (v u : List Int) (k i : Nat) (h : i < v.length) : (mnL v u k).getD i 0 = if i < k then v.getD i 0 - u.getD i 0 else v.getD i 0 := by simp [mnL, h]
theorem mnL_zero (v u : List Int) : mnL v u 0 = v := by
  refine ext_getD (mnL_len v u 0) fun i hi => ?_
  rw [mnL_len] at hi
  rw [mnL_get _ _ _ _ hi, if_neg (by omega)]
theorem mnL_succ (v u : List Int) (k : Nat) (hk : k < v.length) : (mnL v u k).set k (v.getD k 0 - u.getD k 0) = mnL v u (k + 1) := by
  refine ext_getD (by rw [List.length_set, mnL_len, mnL_len]) fun i hi => ?_
  rw [List.length_set, mnL_len] at hi
  rw [getD_setM (by rw [mnL_len]; exact hk), mnL_get _ _ _ _ hi, mnL_get _ _ _ _ hi]
  by_cases h : i = k
  · subst h; rw [if_pos rfl, if_pos (by omega)]
  · rw [if_neg h]
    by_cases h2 : i < k
    · rw [if_pos h2, if_pos (by omega)]
    · rw [if_neg h2, if_neg (by omega)]
set_option maxHeartbeats 2000000 in
theorem minus_c {v u : List Int} (hl : v.length ≤ 1000) (h0 : 0 < v.length) (hu : u.length = v.length) (hbv : ∀ j, 0 ≤ v.getD j 0 ∧ v.getD j 0 ≤ 1000) (hbu : ∀ j, 0 ≤ u.getD j 0 ∧ u.getD j 0 ≤ 1000) (H : Heap) :
    ACalls Try.prog 81 [zI v, zI u] H fun r H' => Ext H H' ∧ OwnB H.size H'.size H' [r] [zI (mnL v u v.length)] := by
  have hmz := mnL_zero v u
  have hml := mnL_len v u
  refine ACalls.body Try.func81 rfl Try.ntmps81 (rs := [.tmp 4]) rfl (by simp) rfl fun Q hQ A hA => ?_
  have a0 := hA 0 _ _ rfl
  have a1 := hA 1 _ _ rfl
  clear hA
  repeat' first | refine rnY ?_ | (refine (clone_c (l := v) (by omega) h0 _).mono ?_; rintro r H1 ⟨rfl, rfl⟩) | with_reducible refine And.intro (fun hc => ?_) (fun hc => ?_) | fail
  refine AWp.cut (fun Ac hAc => ?_)
  have c5 := gtY (t := 5) hAc
  have c10 := gtY (t := 10) hAc
  have c11 := gtY (t := 11) hAc
  have c12 := gtY (t := 12) hAc
  clear a0 a1
  refine AWp.loop (fun A' H' => ∃ (k : Nat), Ag [6, 7, 13, 14, 15, 16, 17, 18, 19, 20, 21, 22, 23, 24] A' (put Ac (some 12) (I k)) ∧ k ≤ u.length ∧ H' = (H.push (.cells [] 1 false)).push (.cells (ints (mnL v u k)) 1 false)) (fun A' _ => u.length - (intV (A' 12)).toNat) ?_ ?_
  · exact ⟨0, agY, by omega, by rw [hmz]⟩
  · rintro A1 H1 ⟨k, hA1, hk, rfl⟩
    have d5 := gdY (t := 5) hA1
    have d10 := gdY (t := 10) hA1
    have d11 := gdY (t := 11) hA1
    have d12 := gdY (t := 12) hA1
    have hmk := hml k
    by_cases hlt : k < u.length
    · have hms := mnL_succ v u k (by omega)
      have hmg := mnL_get v u k k (by omega)
      rw [if_neg (by omega)] at hmg
      have b1 := hbv k
      have b2 := hbu k
      clear hbv hbu hml hmz
      generalize mnL v u k = M at *
      repeat' first | refine rnY ?_ | with_reducible refine And.intro (fun hc => ?_) (fun hc => ?_) | fail
      exact ⟨⟨k + 1, agY, by omega, by rw [← hms]⟩, by exact ivY⟩
    · obtain rfl : k = u.length := by omega
      rw [hu] at hmk
      clear hml hmz
      repeat' first | refine rnY ?_ | with_reducible refine And.intro (fun hc => ?_) (fun hc => ?_) | fail
      refine hQ.out _ _ ⟨by exact exY, ?_⟩
      unfold Zed.zI
      rw [hmk]
      exact OwnB.ints (by omega) (by simp only [nx]; omega) hmk (get_push_eq (by simp only [nx]))
set_option maxHeartbeats 2000000 in
theorem l17Plus_z {v u : List Int} (hl : v.length ≤ 1000) (hu : u.length = v.length) (hbv : ∀ j, 0 ≤ v.getD j 0 ∧ v.getD j 0 ≤ 1000) (hbu : ∀ j, 0 ≤ u.getD j 0 ∧ u.getD j 0 ≤ 1000) : ZCalls Try.prog 80 [zI v, zI u, I (-1)] (zI (mnL v u v.length)) := by
  have hml := mnL_len v u v.length
  have hmg := mnL_get v u v.length
  generalize mnL v u v.length = M at *
  have htk : ∀ k, k < v.length → M.take (k + 1) = M.take k ++ [v.getD k 0 - u.getD k 0] := fun k hk => by
    have := hmg k hk
    rw [if_pos hk] at this
    rw [List.take_succ_eq_append_getElem (by omega), ← this]; simp [show k < M.length by omega]
  have htl : ∀ k, k ≤ v.length → (M.take k).length = k := fun k hk => by rw [List.length_take]; omega
  have ht0 : M.take 0 = [] := rfl
  have htn : M.take v.length = M := by rw [← hml, List.take_length]
  rw [show zI M = FZ 1 v.length (ints M) from by unfold Zed.zI; rw [hml]]
  clear hmg hml
  refine ZCalls.body Try.func80 rfl Try.ntmps80 (rs := [.tmp 6]) rfl (by simp) rfl fun H Q hQ A hA => ?_
  have a0 := hA 0 _ _ rfl
  have a1 := hA 1 _ _ rfl
  have a2 := hA 2 _ _ rfl
  clear hA
  repeat' first | refine rnY ?_ | with_reducible refine And.intro (fun hc => ?_) (fun hc => ?_) | fail
  refine AWp.growE (t := 7) 1 (by decide) (by exact ivY) ?_
  refine AWp.cut (fun Ac hAc => ?_)
  have c0 := gtY (t := 0) hAc
  have c1 := gtY (t := 1) hAc
  have c2 := gtY (t := 2) hAc
  have c7 := gtY (t := 7) hAc
  have c8 := gtY (t := 8) hAc
  clear a0 a1 a2
  refine AWp.loop (fun A' H' => ∃ (k : Nat), Ag [10, 11, 12, 13, 14, 15, 16, 17, 18, 19, 20, 21, 22, 23, 24, 25, 26, 27, 28, 29] A' (put (put Ac (some 7) (GZ (H.size + 1) 1 k (ints (M.take k)))) (some 8) (I k)) ∧ k ≤ v.length ∧ Ext ((H.push (.cells [] 1 false)).push (.tok k 1)) H') (fun A' _ => v.length - (intV (A' 8)).toNat) ?_ ?_
  · exact ⟨0, by rw [ht0]; exact agY, by omega, by exact exY⟩
  · rintro A1 H1 ⟨k, hA1, hk, hx⟩
    have d0 := gdY (t := 0) hA1
    have d1 := gdY (t := 1) hA1
    have d2 := gdY (t := 2) hA1
    have d7 := gdY (t := 7) hA1
    have d8 := gdY (t := 8) hA1
    have hxg := hx.get; have hxs := hx.size; (try simp only [nx] at hxs)
    by_cases hlt : k < v.length
    · have htk := htk k hlt
      have htl := htl k hk
      have b1 := hbv k
      have b2 := hbu k
      have hneg : v.getD k 0 + -1 * u.getD k 0 = v.getD k 0 - u.getD k 0 := by omega
      clear hbv hbu ht0 htn
      generalize M.take k = R at *
      repeat' first | refine rnY ?_ | with_reducible refine And.intro (fun hc => ?_) (fun hc => ?_) | fail
      refine AWp.zreg [(0, none), (1, none), (2, none), (3, none), (4, none), (5, none), (6, none), (7, none), (8, none), (9, none), (10, none), (11, none), (12, none), (13, some [4, 9]), (14, none)] mixed (by kernel_rfl) ?_
      repeat' first | refine rzY ?_ | fail
      repeat' first | refine rnY ?_ | with_reducible refine And.intro (fun hc => ?_) (fun hc => ?_) | fail
      exact ⟨⟨k + 1, by rw [htk]; exact agY, by omega, by exact exY⟩, by exact ivY⟩
    · obtain rfl : k = v.length := by omega
      clear htk htl
      repeat' first | refine rnY ?_ | with_reducible refine And.intro (fun hc => ?_) (fun hc => ?_) | fail
      exact hQ.out _ _ (fv) (by exact exY)
theorem minus_o {v u : List Int} (hl : v.length ≤ 1000) (h0 : 0 < v.length) (hu : u.length = v.length) (hbv : ∀ j, 0 ≤ v.getD j 0 ∧ v.getD j 0 ≤ 1000) (hbu : ∀ j, 0 ≤ u.getD j 0 ∧ u.getD j 0 ≤ 1000) : OCalls Try.prog 81 [zI v, zI u] (zI (mnL v u v.length)) :=
  fun H => (minus_c hl h0 hu hbv hbu H).mono fun r H' ⟨he, hO⟩ => ⟨hO.out, he⟩
/-- Two rows and a code. -/
abbrev r2V (L M : List Int) (c : Int) : Value := .tuple #[zI L, zI M, I c]
/-- What FirstSplit answers. -/
def fsV (T : List (List (Int × Int))) (v : List Int) : Value :=
  if scT T v = 0 then (if (PT T v).length < 3 then r2V [] [] 4 else r2V (fpL T v) (mnL v (fpL T v) v.length) 0) else r2V [] [] (scT T v)
theorem three_nil {H : Heap} (k : Int) : OwnB H.size H.size H [.tuple #[.slice none 0 0, .slice none 0 0, I k]] [r2V [] [] k] :=
  OwnB.tup (l := [.slice none 0 0, .slice none 0 0, I k]) (l' := [zI [], zI [], I k]) (.three (OwnB.nilr 1) (OwnB.nilr 1) (OwnB.flat rfl) (.inl (Nat.le_refl _)) (.inl (Nat.le_refl _)) (.inl (Nat.le_refl _)) (Nat.le_refl _) (Nat.le_refl _) (Nat.le_refl _) (Nat.le_refl _) (Nat.le_refl _) (Nat.le_refl _))
set_option maxHeartbeats 4000000 in
theorem implFirstSplit_o {T : List (List (Int × Int))} (hl : T.length ≤ 1048576) (v : List Int) (hv : v.length ≤ 1048576) : OCalls Try.prog 40 [zT T, zI v] (fsV T v) := by
  have hc := splitCode_z hl v hv
  unfold fsV
  by_cases h : scT T v = 0
  · rw [if_pos h]
    obtain ⟨h1, h2, h3⟩ := scT_ok h
    have h6 := codeN_six h1
    have hb := nrI_bd h2.1
    have hvl : v.length ≤ 42 := by have := h2.1.1; omega
    have hfp := fun H => firstPart_c (codeN_ok h1) h6 h2.1.1 hb H
    rw [h] at hc
    have hvn : ∀ j, 0 ≤ v.getD j 0 := fun j => (hb j).1
    rcases PT_cases hb (sv_nr h2.1) with ⟨q1, q2, q3⟩ | ⟨q1, u, t, q2, q3, q4, q5⟩
    · rw [if_pos (by rw [q2]; exact (by decide : 1 < 3))]
      rw [q3] at hfp
      clear q1 q2 q3 h h1 h2 h3 hb hvn
      have hin : (none : Option Addr).isNone = true := rfl
      refine OCalls.body Try.func40 rfl Try.ntmps40 (rs := [.tmp 4, .tmp 5, .tmp 6]) rfl (by simp) rfl fun H Q hQ A hA => ?_
      have a0 := hA 0 _ _ rfl
      have a1 := hA 1 _ _ rfl
      clear hA
      repeat' first | refine rnY ?_ | (first | refine ZCalls.to (hc) ?_ | refine ZCalls.tf (hc) ?_) | (refine (hfp _).mono ?_; rintro r H1 ⟨he, ⟨_, rfl⟩ | ⟨u, hq, _⟩⟩; rotate_left; cases hq; have heg := he.get; have hes := he.size; (try simp only [nx] at hes)) | with_reducible refine And.intro (fun hc => ?_) (fun hc => ?_) | fail
      exact hQ.out _ _ (((three_nil (H := H1) 4).wide (lo' := H.size) (by omega) (Nat.le_refl _)).out) (by exact exY)
    · have e : fpL T v = u := by unfold fpL; rw [q3]; rfl
      rw [e]
      have hm := (PL_mem (nonneg_mem hvn)).1 (show u ∈ PT T v by rw [q2]; simp)
      have hub := hm.1.bd fun j => (hb j).2
      have hul := hm.1.1
      have hd : (PT T v).length < 3 ↔ u = v := by
        rw [q2]
        exact ⟨fun h => q5.1 (List.eq_nil_of_length_eq_zero (by simp at h; omega)), fun h => by rw [q5.2 h]; exact (by decide : 2 < 3)⟩
      have heq := equal_z (l := u) (m := v) (by omega) (by omega)
      have his : ∀ a : Addr, (some a).isNone = false := fun _ => rfl
      rw [q3] at hfp
      by_cases huv : u = v
      · rw [if_pos (hd.2 huv)]
        rw [decide_eq_true huv] at heq
        clear q1 q2 q3 q4 q5 h h1 h2 h3 hb hvn hd hm hub e huv hul
        refine OCalls.body Try.func40 rfl Try.ntmps40 (rs := [.tmp 4, .tmp 5, .tmp 6]) rfl (by simp) rfl fun H Q hQ A hA => ?_
        have a0 := hA 0 _ _ rfl
        have a1 := hA 1 _ _ rfl
        clear hA
        repeat' first | refine rnY ?_ | (first | refine ZCalls.to (hc) ?_ | refine ZCalls.tf (hc) ?_) | (refine (hfp _).mono ?_; rintro r H1 ⟨he, ⟨hq, _⟩ | ⟨u', hq, hu0, hO⟩⟩; cases hq; cases hq; rcases hO.shape with ⟨hw0, _⟩ | ⟨g3, o3, c3, ds, rfl, hw1, hw2, _⟩; exact absurd hw0 (by omega); have heg := he.get; have hes := he.size; (try simp only [nx] at hes)) | (refine (heq.lend rfl (.ownB (hO.ext (Nat.le_refl _) (by exact exY)) (.cl (Cl.zI v) .nil))).mono ?_; rintro r H2 ⟨rfl, he2⟩; have he2g := he2.get; have he2s := he2.size; (try simp only [nx] at he2s)) | with_reducible refine And.intro (fun hc => ?_) (fun hc => ?_) | fail
        exact hQ.out _ _ (((three_nil (H := H2) 4).wide (lo' := H.size) (by omega) (Nat.le_refl _)).out) (by exact exY)
      · rw [if_neg (fun h => huv (hd.1 h))]
        rw [decide_eq_false huv] at heq
        have hmn := minus_o (v := v) (u := u) (by omega) (by
          rcases Nat.eq_zero_or_pos v.length with h0 | h0
          · exact absurd ((List.eq_nil_of_length_eq_zero (hul.trans h0)).trans (List.eq_nil_of_length_eq_zero h0).symm) huv
          · exact h0) hul hb hub
        clear q1 q2 q3 q4 q5 h h1 h2 h3 hb hvn hd hm hub e huv hul
        generalize mnL v u v.length = M at *
        refine OCalls.body Try.func40 rfl Try.ntmps40 (rs := [.tmp 4, .tmp 5, .tmp 6]) rfl (by simp) rfl fun H Q hQ A hA => ?_
        have a0 := hA 0 _ _ rfl
        have a1 := hA 1 _ _ rfl
        clear hA
        repeat' first | refine rnY ?_ | (first | refine ZCalls.to (hc) ?_ | refine ZCalls.tf (hc) ?_) | (refine (hfp _).mono ?_; rintro r H1 ⟨he, ⟨hq, _⟩ | ⟨u', hq, hu0, hO⟩⟩; cases hq; cases hq; rcases hO.shape with ⟨hw0, _⟩ | ⟨g3, o3, c3, ds, rfl, hw1, hw2, _⟩; exact absurd hw0 (by omega); have heg := he.get; have hes := he.size; (try simp only [nx] at hes)) | (refine (heq.lend rfl (.ownB (hO.ext (Nat.le_refl _) (by exact exY)) (.cl (Cl.zI v) .nil))).mono ?_; rintro r H2 ⟨rfl, he2⟩; have he2g := he2.get; have he2s := he2.size; (try simp only [nx] at he2s)) | (refine (hmn.lend (.cl (Cl.zI v) (.ownB (hO.ext (Nat.le_refl _) (by exact exY)) .nil))).mono ?_; rintro r H3 ⟨hO3, he3⟩; have hone3 := hO3.one; have he3g := he3.get; have he3s := he3.size; (try simp only [nx] at he3s)) | with_reducible refine And.intro (fun hc => ?_) (fun hc => ?_) | fail
        have hO' := hO.ext (Nat.le_refl _) (show Ext H1 H3 by exact exY)
        refine hQ.out _ _ (OwnB.out (lo := H.size) (hi := H3.size) (OwnB.tup (l := [_, r, I 0]) (l' := [zI u, zI M, I 0]) (.three hO' hO3 (OwnB.flat (lo := H3.size) (hi := H3.size) rfl) (.inl he2s) (.inl (by omega)) (.inl (Nat.le_refl _)) (Nat.le_refl _) (by omega) (by omega) (by omega) (Nat.le_refl _) (Nat.le_refl _)))) (by exact exY)
  · rw [if_neg h]
    have hcb : (scT T v == 0) = false := by rw [beq_eq_false_iff_ne]; exact h
    generalize scT T v = k at *
    clear h
    refine OCalls.body Try.func40 rfl Try.ntmps40 (rs := [.tmp 4, .tmp 5, .tmp 6]) rfl (by simp) rfl fun H Q hQ A hA => ?_
    have a0 := hA 0 _ _ rfl
    have a1 := hA 1 _ _ rfl
    clear hA
    repeat' first | refine rnY ?_ | (first | refine ZCalls.to (hc) ?_ | refine ZCalls.tf (hc) ?_) | with_reducible refine And.intro (fun hc => ?_) (fun hc => ?_) | fail
    exact hQ.out _ _ ((three_nil k).out) (by exact exY)
set_option maxHeartbeats 4000000 in
theorem specFirstSplit_z {T : List (List (Int × Int))} (hl : T.length ≤ 1048576) (v : List Int) (hv : v.length ≤ 1048576) : ZCalls Try.prog 39 [zT T, zI v] (fsV T v) := by
  have hc := l20Code_z hl v hv
  unfold fsV
  by_cases h : scT T v = 0
  · rw [if_pos h]
    obtain ⟨h1, h2, h3⟩ := scT_ok h
    have h6 := codeN_six h1
    have hb := nrI_bd h2.1
    have hvl : v.length ≤ 42 := by have := h2.1.1; omega
    have hp := l20Parts_z (codeN_ok h1) h6 h2.1.1 hb (by omega)
    rw [h] at hc
    have hvn : ∀ j, 0 ≤ v.getD j 0 := fun j => (hb j).1
    rcases PT_cases hb (sv_nr h2.1) with ⟨q1, q2, q3⟩ | ⟨q1, u, t, q2, q3, q4, q5⟩
    · rw [if_pos (by rw [q2]; exact (by decide : 1 < 3))]
      rw [q2] at hp
      clear q1 q2 q3 h h1 h2 h3 hb hvn
      refine ZCalls.body Try.func39 rfl Try.ntmps39 (rs := [.tmp 4, .tmp 5, .tmp 6]) rfl (by simp) rfl fun H Q hQ A hA => ?_
      have a0 := hA 0 _ _ rfl
      have a1 := hA 1 _ _ rfl
      clear hA
      repeat' first | refine rnY ?_ | (first | refine ZCalls.to (hc) ?_ | refine ZCalls.tf (hc) ?_) | (first | refine ZCalls.to (hp) ?_ | refine ZCalls.tf (hp) ?_) | with_reducible refine And.intro (fun hc => ?_) (fun hc => ?_) | fail
      exact hQ.out _ _ ((three_nil 4).fin) (by exact exY)
    · have e : fpL T v = u := by unfold fpL; rw [q3]; rfl
      rw [e]
      have hm := (PL_mem (nonneg_mem hvn)).1 (show u ∈ PT T v by rw [q2]; simp)
      have hub := hm.1.bd fun j => (hb j).2
      have hul := hm.1.1
      rw [q2] at hp
      cases t with
      | nil =>
        rw [if_pos (by rw [q2]; exact (by decide : 2 < 3))]
        clear q1 q2 q3 q4 q5 h h1 h2 h3 hb hvn hm hub hul e
        refine ZCalls.body Try.func39 rfl Try.ntmps39 (rs := [.tmp 4, .tmp 5, .tmp 6]) rfl (by simp) rfl fun H Q hQ A hA => ?_
        have a0 := hA 0 _ _ rfl
        have a1 := hA 1 _ _ rfl
        clear hA
        repeat' first | refine rnY ?_ | (first | refine ZCalls.to (hc) ?_ | refine ZCalls.tf (hc) ?_) | (first | refine ZCalls.to (hp) ?_ | refine ZCalls.tf (hp) ?_) | with_reducible refine And.intro (fun hc => ?_) (fun hc => ?_) | fail
        exact hQ.out _ _ ((three_nil 4).fin) (by exact exY)
      | cons w t =>
        rw [if_neg (by rw [q2]; simp)]
        have hpl := l17Plus_z (v := v) (u := u) (by omega) hul hb hub
        have hlen : (((List.replicate v.length 0 :: u :: w :: t : List (List Int)).length : Nat) : Int) ≥ 3 := by simp; omega
        have hg1 : ((List.replicate v.length 0 :: u :: w :: t).map fun r => zI r)[1]? = some (zI u) := rfl
        generalize mnL v u v.length = M at *
        generalize hP : (List.replicate v.length 0 :: u :: w :: t : List (List Int)) = P at *
        clear q1 q2 q3 q4 q5 h h1 h2 h3 hb hvn hm hub hul e hP
        refine ZCalls.body Try.func39 rfl Try.ntmps39 (rs := [.tmp 4, .tmp 5, .tmp 6]) rfl (by simp) rfl fun H Q hQ A hA => ?_
        have a0 := hA 0 _ _ rfl
        have a1 := hA 1 _ _ rfl
        clear hA
        repeat' first | refine rnY ?_ | (first | refine ZCalls.to (hc) ?_ | refine ZCalls.tf (hc) ?_) | (first | refine ZCalls.to (hp) ?_ | refine ZCalls.tf (hp) ?_) | with_reducible refine And.intro (fun hc => ?_) (fun hc => ?_) | fail
        refine AWp.zreg [(0, none), (1, none), (2, none), (3, none), (4, none), (5, none), (6, none), (7, none), (8, none), (9, none), (10, none)] mixed (by kernel_rfl) ?_
        repeat' first | refine rzY ?_ | (first | refine ZCalls.to (hpl) ?_ | refine ZCalls.tf (hpl) ?_) | fail
        repeat' first | refine rnY ?_ | with_reducible refine And.intro (fun hc => ?_) (fun hc => ?_) | fail
        exact hQ.out _ _ (.eq (Cl.tuple (l := [zI u, zI M, I 0]) (Cl.cons (Cl.zI _) (Cl.cons (Cl.zI _) (Cl.cons (Cl.int _ _) Cl.nil)))) rfl) (by exact exY)
  · rw [if_neg h]
    have hcb : (scT T v == 0) = false := by rw [beq_eq_false_iff_ne]; exact h
    generalize scT T v = k at *
    clear h
    refine ZCalls.body Try.func39 rfl Try.ntmps39 (rs := [.tmp 4, .tmp 5, .tmp 6]) rfl (by simp) rfl fun H Q hQ A hA => ?_
    have a0 := hA 0 _ _ rfl
    have a1 := hA 1 _ _ rfl
    clear hA
    repeat' first | refine rnY ?_ | (first | refine ZCalls.to (hc) ?_ | refine ZCalls.tf (hc) ?_) | with_reducible refine And.intro (fun hc => ?_) (fun hc => ?_) | fail
    exact hQ.out _ _ ((three_nil k).fin) (by exact exY)
end Go.Proofs.Ytmoknllbpjpkmaa.Zed
namespace Go.Proofs.Ytmoknllbpjpkmaa.Zed
open Go TP
set_option linter.unusedVariables false
set_option linter.unusedSimpArgs false
set_option maxRecDepth 20000
namespace tfY15
theorem tf : (Try.prog.underlying 25 = some (.slice 2)) ∧ (el Try.prog 25 = some (none, 1)) ∧ (tk Try.prog 2 = some none) ∧ (tk Try.prog 24 = some (some 1)) ∧ (tk Try.prog 31 = some (some 1)) ∧ (cz Try.prog 2 = some 1) ∧ (bz Try.prog 2 = some 8) ∧ (zr Try.prog 2 = some (.int .i64 0)) ∧ (zr Try.prog 31 = some (.agg #[.slice none 0 0])) := by
  refine ⟨?_, ?_, ?_, ?_, ?_, ?_, ?_, ?_, ?_⟩ <;> kernel_rfl
end tfY15
open tfY15

theorem markInt64S_b {H : Heap} {lo hi : Nat} {v : Value} {l : List Int} {k : Int} (hO : OwnB lo hi H [v] [zI l]) (hn : l.length ≤ 4000000000) (h0 : 0 ≤ k) (hk : k ≤ 4611686018427387904) :
    ACalls Try.prog 25 [v, I k] H fun u H' => u = I (k + l.length) ∧ ExtR lo hi H H' ∧ OwnB lo hi H' [v] [zI (mkI k l.length)] := by
  obtain ⟨ks, hL, hb⟩ := hO.in
  refine (markInt64S_m hL hn h0 hk).mono ?_
  rintro u H' ⟨rfl, q1, q2, ks', q3, q4⟩
  refine ⟨rfl, q1.toR hb, ks', q3, fun k hk => ?_⟩
  obtain ⟨k', r1, r2⟩ := q4.mem k hk
  rw [← r2]; exact (hb k' r1).2
theorem tri_shape {lo hi : Nat} {H : Heap} {u : Value} {T : List (List (Int × Int))} (h : OwnB lo hi H [u] [zT T]) : ∃ v, u = .agg #[v] ∧ v.oneCell' = true := by
  obtain ⟨l, rfl, h1⟩ := OwnB.agg_inv (l' := [zL zP T]) h
  obtain ⟨v, l4, rfl, h4, h5⟩ := h1.cons_inv
  obtain rfl := h5.nil_inv
  exact ⟨v, rfl, h4.one⟩
/-- A value told as r, its blocks in S. -/
def OwnS (S : Nat → Prop) (H : Heap) (v r : Value) : Prop := ∃ ks, OwnL false 0 H [v] [r] ks ∧ ∀ k ∈ ks, S k.1
theorem OwnS.keep {S : Nat → Prop} {H H' : Heap} {v r : Value} (h : OwnS S H v r) (hk : ∀ b, S b → H'.get b = H.get b) : OwnS S H' v r := by
  obtain ⟨ks, a, b⟩ := h
  exact ⟨ks, a.keep (.inl rfl) (Nat.le_refl _) fun k hk' => by rw [hk _ (b k hk')]; exact (a.get k hk').2, b⟩
theorem ArgL.ownS {S : Nat → Prop} {H : Heap} {v r : Value} {l l' : List Value} (h : OwnS S H v r) (t : ArgL H l l') : ArgL H (v :: l) (r :: l') := let ⟨ks, a, _⟩ := h; .own a t
structure Own2 (lo hi : Nat) (S1 S2 : Nat → Prop) (H : Heap) (v1 v2 : Value) (l1 l2 : List Int) : Prop where
  h1 : OwnS S1 H v1 (zI l1)
  h2 : OwnS S2 H v2 (zI l2)
  r : ∀ b, S1 b ∨ S2 b → lo ≤ b ∧ b < hi
  d12 : ∀ b, S1 b → ¬ S2 b
section
variable {lo hi lo' hi' : Nat} {S1 S2 : Nat → Prop} {H H' : Heap} {v1 v2 u : Value} {l1 l2 : List Int} {k : Int}
theorem Own2.keep (h : Own2 lo hi S1 S2 H v1 v2 l1 l2) (hk : ∀ b, lo ≤ b → b < hi → H'.get b = H.get b) : Own2 lo hi S1 S2 H' v1 v2 l1 l2 :=
  ⟨h.h1.keep fun b hb => hk b (h.r b (.inl hb)).1 (h.r b (.inl hb)).2, h.h2.keep fun b hb => hk b (h.r b (.inr hb)).1 (h.r b (.inr hb)).2, h.r, h.d12⟩
theorem Own2.ext (h : Own2 lo hi S1 S2 H v1 v2 l1 l2) (hs : hi ≤ H.size) (k : Ext H H') : Own2 lo hi S1 S2 H' v1 v2 l1 l2 := h.keep fun b _ hb => k.get b (by omega)
theorem Own2.extR (h : Own2 lo hi S1 S2 H v1 v2 l1 l2) (hs : hi ≤ H.size) (k : ExtR lo' hi' H H') (hd : hi ≤ lo' ∨ hi' ≤ lo) : Own2 lo hi S1 S2 H' v1 v2 l1 l2 := h.keep fun b h1 hb => k.get b (by omega) (by omega)
theorem own2_shape {c : Int} (h : OwnB lo hi H [u] [r2V l1 l2 c]) : ∃ v1 v2 S1 S2, u = .tuple #[v1, v2, I c] ∧ Own2 lo hi S1 S2 H v1 v2 l1 l2 ∧ v1.oneCell' = true ∧ v2.oneCell' = true := by
  obtain ⟨ks, hh, hb⟩ := h.in
  obtain ⟨l, rfl, hh2⟩ := OwnL.tup_inv (l' := [zI l1, zI l2, I c]) hh
  obtain ⟨v1, w1, k1, q1, rfl, a1, b1, d1, rfl⟩ := hh2.cons_inv
  obtain ⟨v2, w2, k2, q2, rfl, a2, b2, d2, rfl⟩ := b1.cons_inv
  obtain ⟨w3, rfl, b3⟩ := OwnL.flat_inv (r := I c) rfl b2
  obtain ⟨rfl, rfl⟩ := b3.nil_inv
  have z1 := a1.keep (H' := H) (lo' := 0) (.inl rfl) (Nat.zero_le _) fun k hk => (a1.get k hk).2
  have z2 := a2.keep (H' := H) (lo' := 0) (.inl rfl) (Nat.zero_le _) fun k hk => (a2.get k hk).2
  refine ⟨v1, v2, fun b => ∃ x ∈ k1, x.1 = b, fun b => ∃ x ∈ k2, x.1 = b, rfl, ⟨⟨k1, z1, fun k hk => ⟨k, hk, rfl⟩⟩, ⟨k2, z2, fun k hk => ⟨k, hk, rfl⟩⟩, ?_, ?_⟩, ?_, ?_⟩
  · rintro b (⟨x, hx, rfl⟩ | ⟨x, hx, rfl⟩)
    · exact hb x (List.mem_append_left _ hx)
    · exact hb x (List.mem_append_right _ (List.mem_append_left _ hx))
  · rintro b ⟨x, hx, rfl⟩ ⟨y, hy, e⟩
    exact d1 x hx y (List.mem_append_left _ hy) e.symm
  · exact OwnB.one (lo := lo) (hi := hi) (H := H) ⟨k1, a1, fun k hk => (hb k (List.mem_append_left _ hk)).2⟩
  · exact OwnB.one (lo := lo) (hi := hi) (H := H) ⟨k2, a2, fun k hk => (hb k (List.mem_append_right _ (List.mem_append_left _ hk))).2⟩
theorem markS {S : Nat → Prop} {v : Value} {l : List Int} (hO : OwnS S H v (zI l)) (hn : l.length ≤ 4000000000) (h0 : 0 ≤ k) (hk : k ≤ 4611686018427387904) :
    ACalls Try.prog 25 [v, I k] H fun u H' => u = I (k + l.length) ∧ H'.size = H.size ∧ (∀ b, b < H.size → ¬ S b → H'.get b = H.get b) ∧ OwnS S H' v (zI (mkI k l.length)) := by
  obtain ⟨ks, a, b⟩ := hO
  refine (markInt64S_m a hn h0 hk).mono ?_
  rintro u H' ⟨rfl, q1, q2, ks', q3, q4⟩
  refine ⟨rfl, q2, fun b' hb hn => q1.get b' hb fun k hk e => hn (e ▸ b k hk), ks', q3, fun k hk => ?_⟩
  obtain ⟨k', r1, r2⟩ := q4.mem k hk
  rw [← r2]; exact b k' r1
theorem Own2.mark1 (h : Own2 lo hi S1 S2 H v1 v2 l1 l2) (hs : hi ≤ H.size) (hn : l1.length ≤ 4000000000) (h0 : 0 ≤ k) (hk : k ≤ 4611686018427387904) :
    ACalls Try.prog 25 [v1, I k] H fun u H' => u = I (k + l1.length) ∧ ExtR lo hi H H' ∧ Own2 lo hi S1 S2 H' v1 v2 (mkI k l1.length) l2 := by
  refine (markS h.h1 hn h0 hk).mono ?_
  rintro u H' ⟨rfl, q1, q2, q3⟩
  have lt : ∀ b, S1 b ∨ S2 b → b < H.size := fun b hb => by have := (h.r b hb).2; omega
  exact ⟨rfl, ⟨by omega, fun b hb hn => q2 b hb fun hS => by have := h.r b (.inl hS); omega⟩, q3, h.h2.keep fun b hb => q2 b (lt b (.inr hb)) fun e => h.d12 b e hb, h.r, h.d12⟩
theorem Own2.mark2 (h : Own2 lo hi S1 S2 H v1 v2 l1 l2) (hs : hi ≤ H.size) (hn : l2.length ≤ 4000000000) (h0 : 0 ≤ k) (hk : k ≤ 4611686018427387904) :
    ACalls Try.prog 25 [v2, I k] H fun u H' => u = I (k + l2.length) ∧ ExtR lo hi H H' ∧ Own2 lo hi S1 S2 H' v1 v2 l1 (mkI k l2.length) := by
  refine (markS h.h2 hn h0 hk).mono ?_
  rintro u H' ⟨rfl, q1, q2, q3⟩
  have lt : ∀ b, S1 b ∨ S2 b → b < H.size := fun b hb => by have := (h.r b hb).2; omega
  exact ⟨rfl, ⟨by omega, fun b hb hn => q2 b hb fun hS => by have := h.r b (.inr hS); omega⟩, h.h1.keep fun b hb => q2 b (lt b (.inl hb)) fun e => h.d12 b hb e, q3, h.r, h.d12⟩
end
theorem fsV_ok (T : List (List (Int × Int))) (v : List Int) (hv : v.length ≤ 1048576) : ∃ L M c, fsV T v = r2V L M c ∧ L.length ≤ 2000000 ∧ M.length ≤ 2000000 := by
  unfold fsV
  split
  · rename_i h0
    split
    · exact ⟨_, _, _, rfl, by simp, by simp⟩
    · refine ⟨_, _, _, rfl, ?_, by rw [mnL_len]; omega⟩
      obtain ⟨h1, h2, h3⟩ := scT_ok h0
      have hb := nrI_bd h2.1
      unfold fpL
      rcases PT_cases hb (sv_nr h2.1) with ⟨q1, q2, q3⟩ | ⟨q1, u, t, q2, q3, q4, q5⟩
      · rw [q3]; simp
      · rw [q3]
        have hm := (PL_mem (nonneg_mem fun j => (hb j).1)).1 (show u ∈ PT T v by rw [q2]; simp)
        show u.length ≤ _
        have := hm.1.1; omega
  · exact ⟨_, _, _, rfl, by simp, by simp⟩
set_option maxHeartbeats 16000000 in
theorem lawFirstSplit_z {T : List (List (Int × Int))} (hS : Short T 9223372036854775807) (y : List Int) (hy : y.length ≤ 9223372036854775807) : ZCalls Try.prog 9 [zT T, zI y] (B true) := by
  by_cases hy1 : (y.length : Int) > 1048576
  · refine ZCalls.body Try.func9 rfl Try.ntmps9 (rs := [.tmp 4]) rfl (by simp) rfl fun H Q hQ A hA => ?_
    have a0 := hA 0 _ _ rfl
    have a1 := hA 1 _ _ rfl
    clear hA
    repeat' first | refine rnY ?_ | with_reducible refine And.intro (fun hc => ?_) (fun hc => ?_) | fail
    exact hQ.out _ _ (fv) (by exact exY)
  obtain ⟨s, h1, h2, h3, h4⟩ := szTriangulation_z hS
  by_cases hs : s < 0
  · refine ZCalls.body Try.func9 rfl Try.ntmps9 (rs := [.tmp 4]) rfl (by simp) rfl fun H Q hQ A hA => ?_
    have a0 := hA 0 _ _ rfl
    have a1 := hA 1 _ _ rfl
    clear hA
    repeat' first | refine rnY ?_ | (first | refine ZCalls.to (h4) ?_ | refine ZCalls.tf (h4) ?_) | with_reducible refine And.intro (fun hc => ?_) (fun hc => ?_) | fail
    exact hQ.out _ _ (fv) (by exact exY)
  · have hS' := h1 (by omega)
    have hy' : y.length ≤ 1048576 := by omega
    have hsp := specFirstSplit_z (T := T) hS'.1 y hy'
    have him := implFirstSplit_o (T := T) hS'.1 y hy'
    obtain ⟨L, M, c, hV, hL, hM⟩ := fsV_ok T y hy'
    rw [hV] at hsp him
    have him2 := him.toZ (Cl.cons (Cl.zT T) (Cl.cons (Cl.zI y) Cl.nil))
    have hto1 := toTriangulation_z hS'
    have hto3 := toTriangulation_z hS'
    have hton := fun H => (toTriangulation_o hS').lend (H := H) (.cl (Cl.zT T) .nil)
    have hti1 := toInt64S_z (l := y) hy'
    have hti3 := toInt64S_z (l := y) hy'
    have htin := fun H => (toInt64S_o (l := y) hy').lend (H := H) (.cl (Cl.zI y) .nil)
    have hq1 := eqInt64S_z L (by omega)
    have hq2 := eqInt64S_z M (by omega)
    have heT := eqTriangulation_z hS'
    have heY := eqInt64S_z y (by omega)
    have hcc : (c == c) = true := beq_self_eq_true c
    clear h1 hV
    refine ZCalls.body Try.func9 rfl Try.ntmps9 (rs := [.tmp 4]) rfl (by simp) rfl fun H Q hQ A hA => ?_
    have a0 := hA 0 _ _ rfl
    have a1 := hA 1 _ _ rfl
    clear hA
    have hh1 := heldInt64S_z L.length 1 (by omega) (by omega) (by omega)
    have hh2 := heldInt64S_z M.length (1 + L.length) (by omega) (by omega) (by omega)
    have hmb : markN T T.length ≤ 2199023255552 := by have h1 := markN_le T hS' T.length (Nat.le_refl _); have h2 := hS'.1; omega
    have hmN : ¬ (1 + (markN T T.length : Int) + y.length < 0) := by omega
    have hm1 : ¬ (1 + (L.length : Int) < 0) := by omega
    have hm2 : ¬ (1 + (L.length : Int) + M.length < 0) := by omega
    repeat' first | refine rnY ?_ | (first | refine ZCalls.to (h4) ?_ | refine ZCalls.tf (h4) ?_) | (refine ZCalls.to hto1 ?_; clear hto1) | (refine ZCalls.to hti1 ?_; clear hti1) | (first | refine ZCalls.to (hsp) ?_ | refine ZCalls.tf (hsp) ?_) | (refine (hton _).mono ?_; rintro x0 H0 ⟨hx0, he0⟩; clear hton; obtain ⟨x, rfl, hxo⟩ := tri_shape hx0; have he0g := he0.get; have he0s := he0.size; (try simp only [nx] at he0s)) | (refine (htin _).mono ?_; rintro y0 HY ⟨hy0, hey⟩; clear htin; have hyo := hy0.one; have heyg := hey.get; have heys := hey.size; (try simp only [nx] at heys)) | (refine (him.lend (.ownB (hx0.ext (Nat.le_refl _) (by exact exY)) (.ownB (hy0.ext (Nat.le_refl _) (by exact exY)) .nil))).mono ?_; rintro u H1 ⟨hg0, he1⟩; clear him; obtain ⟨v1, v2, S1, S2, rfl, hO, ho1, ho2⟩ := own2_shape hg0; clear hg0; have he1g := he1.get; have he1s := he1.size; (try simp only [nx] at he1s)) | (refine (hq1.lend rfl (.ownS (hO.ext (Nat.le_refl _) (by exact exY)).h1 (.cl (Cl.zI L) .nil))).mono ?_; rintro u Ha ⟨rfl, hea⟩; have heag := hea.get; have heas := hea.size; (try simp only [nx] at heas)) | (refine (hq2.lend rfl (.ownS (hO.ext (Nat.le_refl _) (by exact exY)).h2 (.cl (Cl.zI M) .nil))).mono ?_; rintro u Hb ⟨rfl, heb⟩; have hebg := heb.get; have hebs := heb.size; (try simp only [nx] at hebs)) | with_reducible refine And.intro (fun hc => ?_) (fun hc => ?_) | fail
    refine AWp.zreg [(0, none), (1, none), (2, none), (3, some [0, 1]), (4, none)] mixed (by kernel_rfl) ?_
    repeat' first | refine rzY ?_ | (first | refine ZCalls.to (hto3) ?_ | refine ZCalls.tf (hto3) ?_) | (refine (heT.lend rfl (.ownB (hx0.ext (Nat.le_refl _) (by exact exY)) (.cl (Cl.zT T) .nil))).mono ?_; rintro u H3 ⟨rfl, he3⟩; have he3g := he3.get; have he3s := he3.size; (try simp only [nx] at he3s); refine hgY ?_) | fail
    repeat' first | refine rnY ?_ | (first | refine ZCalls.to (hto3) ?_ | refine ZCalls.tf (hto3) ?_) | (first | refine ZCalls.to (hti3) ?_ | refine ZCalls.tf (hti3) ?_) | (first | refine ZCalls.to (him2) ?_ | refine ZCalls.tf (him2) ?_) | (first | refine ZCalls.to (hq1) ?_ | refine ZCalls.tf (hq1) ?_) | (first | refine ZCalls.to (hq2) ?_ | refine ZCalls.tf (hq2) ?_) | (refine (heY.lend rfl (.ownB (hy0.ext (Nat.le_refl _) (by exact exY)) (.cl (Cl.zI y) .nil))).mono ?_; rintro u H9 ⟨rfl, he9⟩; clear heY; have he9g := he9.get; have he9s := he9.size; (try simp only [nx] at he9s)) | (refine (markTriangulation_m (hx0.ext (Nat.le_refl _) (by exact exY)) (by exact sdY) hS' (by omega) (by omega)).mono ?_; rintro u H4 ⟨rfl, hm4⟩; have hO := Own2.extR (hO.ext (Nat.le_refl _) (by exact exY)) (by exact sdY) hm4 (.inr (by exact sdY)); have hy4 := OwnB.extR (hy0.ext (Nat.le_refl _) (by exact exY)) (by exact sdY) hm4 (.inr (by exact sdY)); have hE4 := Ext.viaR (show Ext H _ from by exact exY) hm4 (by exact sdY); clear hx0; have hm4g := hm4.get; have hm4s := hm4.size; (try simp only [nx] at hm4s)) | (refine (markInt64S_b (hy4.ext (by exact sdY) (by exact exY)) (by omega) (by omega) (by omega)).mono ?_; rintro u H8 ⟨rfl, hm8, hy8⟩; have hO := Own2.extR (hO.ext (by exact sdY) (by exact exY)) (by exact sdY) hm8 (.inr (by exact sdY)); have hE8 := Ext.viaR (show Ext H _ from by exact exY) hm8 (by exact sdY); clear hy4; have hm8g := hm8.get; have hm8s := hm8.size; (try simp only [nx] at hm8s)) | (refine (hq1.lend rfl (.ownS (hO.ext (by exact sdY) (by exact exY)).h1 (.cl (Cl.zI L) .nil))).mono ?_; rintro u Ha ⟨rfl, hea⟩; have heag := hea.get; have heas := hea.size; (try simp only [nx] at heas)) | (refine (hq2.lend rfl (.ownS (hO.ext (by exact sdY) (by exact exY)).h2 (.cl (Cl.zI M) .nil))).mono ?_; rintro u Hb ⟨rfl, heb⟩; have hebg := heb.get; have hebs := heb.size; (try simp only [nx] at hebs)) | (refine ((hO.ext (by exact sdY) (by exact exY)).mark1 (by exact sdY) (by omega) (by omega) (by omega)).mono ?_; rintro u H6 ⟨rfl, hm6, hO⟩; have hE6 := Ext.viaR (show Ext H _ from by exact exY) hm6 (by exact sdY); have hm6g := hm6.get; have hm6s := hm6.size; (try simp only [nx] at hm6s)) | (refine ((hO.ext (by exact sdY) (by exact exY)).mark2 (by exact sdY) (by omega) (by omega) (by omega)).mono ?_; rintro u H7 ⟨rfl, hm7, hO⟩; have hE7 := Ext.viaR (show Ext H _ from by exact exY) hm7 (by exact sdY); have hm7g := hm7.get; have hm7s := hm7.size; (try simp only [nx] at hm7s)) | (refine (hh1.lend rfl (.ownS (hO.ext (by exact sdY) (by exact exY)).h1 (.cl (Cl.int _ _) .nil))).mono ?_; rintro u H9 ⟨rfl, he9⟩; have he9g := he9.get; have he9s := he9.size; (try simp only [nx] at he9s)) | (refine (hh2.lend rfl (.ownS (hO.ext (by exact sdY) (by exact exY)).h2 (.cl (Cl.int _ _) .nil))).mono ?_; rintro u H9 ⟨rfl, he9⟩; have he9g := he9.get; have he9s := he9.size; (try simp only [nx] at he9s)) | with_reducible refine And.intro (fun hc => ?_) (fun hc => ?_) | fail
    exact hQ.out _ _ (fv) (by exact exY)
end Go.Proofs.Ytmoknllbpjpkmaa.Zed
