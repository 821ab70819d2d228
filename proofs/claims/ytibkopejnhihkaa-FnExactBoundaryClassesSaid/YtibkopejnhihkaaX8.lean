/- A part of the walk: what functions of the program do, over an abstract heap. -/
import Derived.Test.YtibkopejnhihkaaX7
namespace Go.Proofs.Ytibkopejnhihkaa.Zed
open Go TP
set_option linter.unusedVariables false
set_option linter.unusedSimpArgs false
set_option maxRecDepth 20000
namespace tfX8
theorem tf : (Try.prog.underlying 36 = some (.slice 2)) ∧ (el Try.prog 36 = some (none, 1)) ∧ (Try.prog.underlying 44 = some (.slice 36)) ∧ (el Try.prog 44 = some (none, 1)) ∧ (Try.prog.underlying 83 = some (.slice 4)) ∧ (el Try.prog 83 = some (none, 1)) ∧ (tk Try.prog 2 = some none) ∧ (tk Try.prog 4 = some none) ∧ (tk Try.prog 29 = some (some 1)) ∧ (tk Try.prog 36 = some none) ∧ (cz Try.prog 2 = some 1) ∧ (bz Try.prog 2 = some 8) ∧ (cz Try.prog 4 = some 1) ∧ (bz Try.prog 4 = some 1) ∧ (cz Try.prog 36 = some 1) ∧ (bz Try.prog 36 = some 24) ∧ (zr Try.prog 2 = some (.int .i64 0)) ∧ (zr Try.prog 4 = some (.bool false)) ∧ (zr Try.prog 36 = some (.slice none 0 0)) := by
  refine ⟨?_, ?_, ?_, ?_, ?_, ?_, ?_, ?_, ?_, ?_, ?_, ?_, ?_, ?_, ?_, ?_, ?_, ?_, ?_⟩ <;> kernel_rfl
end tfX8
open tfX8

theorem vertL_bd2 {T : List (List (Int × Int))} (h8 : T.length ≤ 8) (i : Nat) (hi : i < 4 * T.length) : ∃ z : Nat, (vertL T).getD i 0 = z ∧ z < nV T := by
  have h1 := lt_classN (vertL T) i (by rw [vertL_len]; exact hi)
  have h2 := vertL_bd T h8 ((vertL T).getD i 0) (by simp [show i < (vertL T).length by rw [vertL_len]; exact hi])
  exact ⟨((vertL T).getD i 0).toNat, by omega, by unfold nV; omega⟩
theorem faceL_bd2 {T : List (List (Int × Int))} (h8 : T.length ≤ 8) (i : Nat) (hi : i < 4 * T.length) : ∃ z : Nat, (faceL T).getD i 0 = z ∧ z < nF T := by
  have h1 := lt_classN (faceL T) i (by rw [faceL_len]; exact hi)
  have h2 := faceL_bd T h8 ((faceL T).getD i 0) (by simp [show i < (faceL T).length by rw [faceL_len]; exact hi])
  exact ⟨((faceL T).getD i 0).toNat, by omega, by unfold nF; omega⟩
theorem OwnB.bools {lo hi : Nat} {H : Heap} {g n c : Nat} {l : List Bool} (hg : lo ≤ g) (hgh : g < hi) (hn : l.length = n) (hget : H.get g = .cells (Zed.bools l) 1 false) : OwnB lo hi H [.slice (some ⟨g, 0, none⟩) n c] [FZ 1 n (Zed.bools l)] :=
  .rows hg hgh hget (.flats fun x hx => by obtain ⟨y, _, rfl⟩ := List.mem_map.1 hx; rfl) (by rw [bools_len]; omega) (fun x hx => by obtain ⟨y, _, rfl⟩ := List.mem_map.1 hx; rfl)
def bcV (T : List (List (Int × Int))) : Value := if IsTri T then .tuple #[zI (listTo (mkB (nV T) (sbV T (bfT T T.length) (bfT T T.length).length)) (nV T)), zI (listTo (mkB (nE T) (sbE T (bfT T T.length) (bfT T T.length).length)) (nE T)), zI (listTo (mkB (nF T) (sbF T (bfT T T.length) (bfT T T.length).length)) (nF T))] else .tuple #[zI [], zI [], zI []]
set_option maxHeartbeats 4000000 in
theorem implBC_o {T : List (List (Int × Int))} (hl : T.length ≤ 1048576) : OCalls Try.prog 45 [zT T] (bcV T) := by
  have ht := isTriangulation_z hl
  unfold bcV
  by_cases h : IsTri T
  · rw [if_pos h]
    rw [decide_eq_true h] at ht
    have hF := h.fine
    have h8 := hF.1
    have h4 : ∀ a, a < T.length → (T.getD a []).length = 4 := fun a ha => (hF.2 a ha).1
    have hnv := classN_bd (vertL_bd T h8)
    have hne := classN_bd (edgeL_bd T h8)
    have hnf := classN_bd (faceL_bd T h8)
    have mv : classN (vertL T) = nV T := by unfold nV; omega
    have me : classN (edgeL T) = nE T := by unfold nE; omega
    have mf : classN (faceL T) = nF T := by unfold nF; omega
    have hcv := classCount_z (l := vertL T) (by rw [vertL_len]; omega) (vertL_bd T h8)
    have hcf := classCount_z (l := faceL T) (by rw [faceL_len]; omega) (faceL_bd T h8)
    rw [mv] at hcv hnv
    rw [mf] at hcf hnf
    rw [me] at hne
    have hbe := boundaryEdges_z hF me (by omega)
    have hbf := boundaryFaces_z h8 h4
    have hvz := vertexClasses_z hF
    have hfz := faceClasses_z hF
    have hvl := vertL_len T
    have hfl := faceL_len T
    have hbl := bfT_len T T.length
    have hev : mkB (nV T) (sbV T (bfT T T.length) (bfT T T.length).length) = mkB (nV T) (ibV T (bfT T T.length) (bfT T T.length).length) := mkB_congr fun z hz => (vert_same T z _ fun j hj => by
      obtain ⟨a, f, hp, ha, hf, hn⟩ := bfT_at hj
      rw [hp]; exact hf).symm
    have hee : mkB (nE T) (sbE T (bfT T T.length) (bfT T T.length).length) = mkB (nE T) (beO T (6 * T.length)) := mkB_congr fun z hz => same_edges T z
    rw [hev, hee]
    have hat : ∀ j, j < (bfT T T.length).length → ∃ a f : Nat, (bfT T T.length).getD j [] = [(a : Int), (f : Int)] ∧ a < T.length ∧ f < 4 := fun j hj => by
      obtain ⟨a, f, hp, ha, hf, hn⟩ := bfT_at hj
      exact ⟨a, f, hp, ha, hf⟩
    have hvb := fun i => vertL_bd2 (T := T) h8 i
    have hfb := fun i => faceL_bd2 (T := T) h8 i
    clear hev hee mv me mf ht
    have hisT := isTriangulation_z hl
    rw [decide_eq_true h] at hisT
    refine OCalls.body Try.func45 rfl Try.ntmps45 (rs := [.tmp 2, .tmp 3, .tmp 4]) rfl (by simp) rfl fun H Q hQ A hA => ?_
    have a0 := hA 0 _ _ rfl
    clear hA
    repeat' first | refine rnY ?_ | (first | refine ZCalls.to (hisT) ?_ | refine ZCalls.tf (hisT) ?_) | with_reducible refine And.intro (fun hc => ?_) (fun hc => ?_) | fail
    refine AWp.zreg [(0, none), (1, none), (2, none), (3, none), (4, none), (5, none)] mixed (by kernel_rfl) ?_
    repeat' first | refine rzY ?_ | (first | refine ZCalls.to (hvz) ?_ | refine ZCalls.tf (hvz) ?_) | (first | refine ZCalls.to (hfz) ?_ | refine ZCalls.tf (hfz) ?_) | fail
    refine athen_n ?_
    refine AWp.seq' ?_
    refine AWp.cut (fun Ac hAc => ?_)
    have c1 := gtY (t := 1) hAc
    have c5 := gtY (t := 5) hAc
    have c6 := gtY (t := 6) hAc
    have y1 := mkB_nil (nV T)
    have y3 := mkB_nil (nF T)
    refine AWp.mid (fun A' H' => ∃ gv gf : Nat, gv ≠ gf ∧ H.size ≤ gv ∧ H.size ≤ gf ∧ gv < H'.size ∧ gf < H'.size ∧ H'.get gv = .cells (bools (mkB (nV T) [])) 1 false ∧ H'.get gf = .cells (bools (mkB (nF T) [])) 1 false ∧ Ext H H' ∧ Ag [22, 23, 24, 25, 26, 27] A' (put (put Ac (some 7) (.slice (some ⟨gv, 0, none⟩) (nV T) (nV T + 1))) (some 8) (.slice (some ⟨gf, 0, none⟩) (nF T) (nF T + 1)))) ?_ ?_
    · clear hvz hfz hbe hbf hat hvb hfb
      have zf0 := @rep_bools
      have zf1 := @zero1
      refine AWp.ztree (.flt 0 (.flt 1 (.flt 3 (.flt 4 (.eff 2 [] (.flt 6 (.eff 5 [] (.flt 7 (.nil)) (.nil))) (.eff 5 [] (.eff 2 [] (.flt 6 (.flt 7 (.nil))) (.nil)) (.nil))))))) mixed (by kernel_rfl) ?_
      repeat' first | refine rtY ?_ | (first | refine ZCalls.to (hcv) ?_ | refine ZCalls.tf (hcv) ?_) | (first | refine ZCalls.to (hcf) ?_ | refine ZCalls.tf (hcf) ?_) | refine ATr.split ?_ ?_ | fail
      · refine athen_n ?_
        exact ⟨H.size, H.size + 1, by omega, by omega, by omega, by exact ivY, by exact ivY, by exact ivY, by exact ivY, by exact exY, agY⟩
      · refine athen_n ?_
        exact ⟨H.size + 1, H.size, by omega, by omega, by omega, by exact ivY, by exact ivY, by exact ivY, by exact ivY, by exact exY, agY⟩
    · clear y1 y3 hcv hcf
      rintro A1 H1 ⟨gv, gf, hne1, g1, g2, g3, g4, g5, g6, hx, hA⟩
      have d1 := gdY (t := 1) hA
      have d5 := gdY (t := 5) hA
      have d6 := gdY (t := 6) hA
      have d7 := gdY (t := 7) hA
      have d8 := gdY (t := 8) hA
      clear hA
      repeat' first | refine rnY ?_ | (first | refine ZCalls.to (hbf) ?_ | refine ZCalls.tf (hbf) ?_) | with_reducible refine And.intro (fun hc => ?_) (fun hc => ?_) | fail
      refine AWp.cut (fun Ae hAe => ?_)
      have e1 := gtY (t := 1) hAe
      have e5 := gtY (t := 5) hAe
      have e6 := gtY (t := 6) hAe
      have e7 := gtY (t := 7) hAe
      have e8 := gtY (t := 8) hAe
      have e29 := gtY (t := 29) hAe
      have e30 := gtY (t := 30) hAe
      have e31 := gtY (t := 31) hAe
      obtain ⟨P, hP⟩ : ∃ P, bfT T T.length = P := ⟨_, rfl⟩
      rw [hP] at hbl hat hQ e29 e30
      refine AWp.loop (fun A' H' => ∃ (j : Nat), Ag [10, 11, 12, 14, 32, 33, 34, 35, 36, 37, 38, 39, 40, 41, 42, 43, 44, 45, 46, 47, 48, 49, 50, 51, 52, 53, 54, 55, 56, 57, 58, 59, 60, 61, 62, 63, 64, 65, 66, 67, 68] A' (put Ae (some 31) (I j)) ∧ j ≤ P.length ∧ gv < H'.size ∧ gf < H'.size ∧ H'.get gv = .cells (bools (mkB (nV T) (ibV T P j))) 1 false ∧ H'.get gf = .cells (bools (mkB (nF T) (sbF T P j))) 1 false ∧ Ext H H') (fun A' _ => P.length - (intV (A' 31)).toNat) ?_ ?_
      · exact ⟨0, agY, by omega, g3, g4, g5, g6, hx⟩
      · clear g3 g4 g5 g6 hx
        rintro A2 H2 ⟨j, hB, hj, g3, g4, g5, g6, hx⟩
        have f1 := gdY (t := 1) hB
        have f5 := gdY (t := 5) hB
        have f6 := gdY (t := 6) hB
        have f7 := gdY (t := 7) hB
        have f8 := gdY (t := 8) hB
        have f29 := gdY (t := 29) hB
        have f30 := gdY (t := 30) hB
        have f31 := gdY (t := 31) hB
        by_cases hlt : j < P.length
        · obtain ⟨a, f, hp, ha, hf⟩ := hat j hlt
          have hs1 : ibV T P (j + 1) = ivI T (ibV T P j) ((P.getD j []).getD 0 0).toNat ((P.getD j []).getD 1 0).toNat 3 := rfl
          have hs2 : sbF T P (j + 1) = sbF T P j ++ [(faceL T).getD (((P.getD j []).getD 0 0).toNat * 4 + ((P.getD j []).getD 1 0).toNat) 0] := rfl
          rw [hp] at hs1 hs2
          change _ = ivI T _ a f 3 at hs1
          change _ = _ ++ [(faceL T).getD (a * 4 + f) 0] at hs2
          obtain ⟨z, hz, hzl⟩ := hfb (a * 4 + f) (by omega)
          rw [hz] at hs2
          have hz2 : (faceL T).getD (4 * (a : Int) + (f : Int)).toNat 0 = z := by rw [show (4 * (a : Int) + (f : Int)).toNat = a * 4 + f by omega]; exact hz
          have hms := mkB_set (nF T) (sbF T P j) z
          rw [← hs2] at hms
          have hml := mkB_len (nF T) (sbF T P j)
          have hbl2 := bools_len (mkB (nF T) (sbF T P j))
          have ho := others_z [(f : Int)] (by simp) ⟨f, hf, by
            have : f = 0 ∨ f = 1 ∨ f = 2 ∨ f = 3 := by omega
            rcases this with rfl | rfl | rfl | rfl <;> simp [cntL]⟩
          obtain ⟨o1, o2⟩ := others1_bd f hf
          unfold Zed.zI at ho
          rw [o1] at ho
          generalize ibV T P j = Lv at *
          generalize sbF T P j = Lf at *
          repeat' first | refine rnY ?_ | with_reducible refine And.intro (fun hc => ?_) (fun hc => ?_) | fail
          refine AWp.zreg [(0, none), (1, none), (2, none), (3, none), (4, none), (5, none), (6, none), (7, none)] mixed (by kernel_rfl) ?_
          repeat' first | refine rzY ?_ | fail
          have zf0 := @bools_set
          repeat' first | refine rnY ?_ | (first | refine ZCalls.to (ho) ?_ | refine ZCalls.tf (ho) ?_) | with_reducible refine And.intro (fun hc => ?_) (fun hc => ?_) | fail
          refine AWp.cut (fun Aq hAq => ?_)
          have q1 := gtY (t := 1) hAq
          have q5 := gtY (t := 5) hAq
          have q6 := gtY (t := 6) hAq
          have q7 := gtY (t := 7) hAq
          have q8 := gtY (t := 8) hAq
          have q11 := gtY (t := 11) hAq
          have q29 := gtY (t := 29) hAq
          have q30 := gtY (t := 30) hAq
          have q31 := gtY (t := 31) hAq
          have q52 := gtY (t := 52) hAq
          have q53 := gtY (t := 53) hAq
          have q54 := gtY (t := 54) hAq
          refine AWp.loop (fun A' H' => ∃ (k : Nat), Ag [14, 55, 56, 57, 58, 59, 60, 61, 62, 63, 64, 65, 66, 67] A' (put Aq (some 54) (I k)) ∧ k ≤ 3 ∧ gv < H'.size ∧ gf < H'.size ∧ H'.get gv = .cells (bools (mkB (nV T) (ivI T Lv a f k))) 1 false ∧ H'.get gf = .cells (bools (mkB (nF T) (sbF T P (j + 1)))) 1 false ∧ Ext H H') (fun A' _ => 3 - (intV (A' 54)).toNat) ?_ ?_
          · exact ⟨0, agY, by omega, by exact ivY, by exact ivY, by exact ivY, by exact ivY, by exact exY⟩
          · clear g3 g4 g5 g6 hx hz hz2 hfb hms
            rintro A3 H3 ⟨k, hC, hk, g3, g4, g5, g6, hx⟩
            have w1 := gdY (t := 1) hC
            have w5 := gdY (t := 5) hC
            have w6 := gdY (t := 6) hC
            have w7 := gdY (t := 7) hC
            have w8 := gdY (t := 8) hC
            have w11 := gdY (t := 11) hC
            have w29 := gdY (t := 29) hC
            have w30 := gdY (t := 30) hC
            have w31 := gdY (t := 31) hC
            have w52 := gdY (t := 52) hC
            have w53 := gdY (t := 53) hC
            have w54 := gdY (t := 54) hC
            by_cases hk3 : k < 3
            · obtain ⟨v, hv, hv4⟩ := o2 k hk3
              obtain ⟨y, hy, hyl⟩ := hvb (a * 4 + v) (by omega)
              have hy2 : (vertL T).getD (4 * (a : Int) + (v : Int)).toNat 0 = y := by rw [show (4 * (a : Int) + (v : Int)).toNat = a * 4 + v by omega]; exact hy
              have hs3 : ivI T Lv a f (k + 1) = ivI T Lv a f k ++ [(y : Int)] := by
                show _ ++ [(vertL T).getD (a * 4 + ((othersL [(f : Int)]).getD k 0).toNat) 0] = _
                rw [hv, Int.toNat_natCast, hy]
              have hms := mkB_set (nV T) (ivI T Lv a f k) y
              rw [← hs3] at hms
              have hml2 := mkB_len (nV T) (ivI T Lv a f k)
              have hbl3 := bools_len (mkB (nV T) (ivI T Lv a f k))
              generalize ivI T Lv a f k = Lk at *
              generalize othersL [(f : Int)] = ol at *
              clear hvb hy o2 hs1 hs2
              have zf0 := @bools_set
              repeat' first | refine rnY ?_ | with_reducible refine And.intro (fun hc => ?_) (fun hc => ?_) | fail
              exact ⟨⟨k + 1, agY, by omega, by exact ivY, by exact ivY, by exact ivY, by exact ivY, by exact exY⟩, by exact ivY⟩
            · obtain rfl : k = 3 := by omega
              rw [← hs1] at g5
              repeat' first | refine rnY ?_ | with_reducible refine And.intro (fun hc => ?_) (fun hc => ?_) | fail
              exact ⟨⟨j + 1, agY, by omega, g3, g4, g5, g6, hx⟩, by exact ivY⟩
        · obtain rfl : j = P.length := by omega
          clear hat hvb hfb
          have hbv : OwnB H.size H2.size H2 [.slice (some ⟨gv, 0, none⟩) (nV T) (nV T + 1)] [FZ 1 (nV T) (bools (mkB (nV T) (ibV T P P.length)))] := OwnB.bools g1 g3 (mkB_len _ _) g5
          have hbw : OwnB H.size H2.size H2 [.slice (some ⟨gf, 0, none⟩) (nF T) (nF T + 1)] [FZ 1 (nF T) (bools (mkB (nF T) (sbF T P P.length)))] := OwnB.bools g2 g4 (mkB_len _ _) g6
          have hclE : Cl (FZ 1 (nE T) (bools (mkB (nE T) (beO T (6 * T.length))))) := Cl.fz (Cl.map fun b => Cl.bool b)
          have hw1 := whereTrue_o (mkB_len (nV T) (ibV T P P.length)) (by omega)
          have hw2 := whereTrue_o (mkB_len (nE T) (beO T (6 * T.length))) (by omega)
          have hw3 := whereTrue_o (mkB_len (nF T) (sbF T P P.length)) (by omega)
          have hxs := hx.size
          clear g5 g6
          generalize mkB (nV T) (ibV T P P.length) = Bv at *
          generalize mkB (nF T) (sbF T P P.length) = Bf at *
          generalize mkB (nE T) (beO T (6 * T.length)) = Be at *
          generalize listTo Bv (nV T) = Lv at *
          generalize listTo Bf (nF T) = Lf at *
          generalize listTo Be (nE T) = Le at *
          repeat' first | refine rnY ?_ | with_reducible refine And.intro (fun hc => ?_) (fun hc => ?_) | fail
          refine AWp.ztree (.flt 0 (.flt 2 (.flt 5 (.eff 1 [] (.flt 3 (.eff 4 [2] (.eff 6 [2] (.flt 7 (.flt 8 (.flt 9 (.nil)))) (.nil)) (.nil))) (.nil))))) mixed (by kernel_rfl) ?_
          repeat' first | refine rtY ?_ | (first | refine ZCalls.to (hbe) ?_ | refine ZCalls.tf (hbe) ?_) | (refine (hw1.lend (.ownB (hbv.ext (Nat.le_refl _) (by exact exY)) .nil)).mono ?_; rintro uv Hv ⟨hOv, hxv⟩; have hv1 := hOv.one; have hxvg := hxv.get; have hxvs := hxv.size; (try simp only [nx] at hxvs); refine hgY ?_) | (refine (hw3.lend (.ownB (hbw.ext (Nat.le_refl _) (by exact exY)) .nil)).mono ?_; rintro uf Hf ⟨hOf, hxf⟩; have hf1 := hOf.one; have hxfg := hxf.get; have hxfs := hxf.size; (try simp only [nx] at hxfs); refine hgY ?_) | (refine (hw2.lend (.cl hclE .nil)).mono ?_; rintro ue He ⟨hOe, hxe⟩; have he1 := hOe.one; have hxeg := hxe.get; have hxes := hxe.size; (try simp only [nx] at hxes); refine hgY ?_) | refine ATr.split ?_ ?_ | fail
          all_goals
            refine athen_n ?_
            repeat' first | refine rnY ?_ | with_reducible refine And.intro (fun hc => ?_) (fun hc => ?_) | fail
            exact hQ.out _ _ (OwnB.tup (l := [uv, ue, uf]) (l' := [zI Lv, zI Le, zI Lf]) (OwnB.three (lo := H.size) (hi := Hv.size + He.size + Hf.size) (hOv.ext (Nat.le_refl _) (by exact exY)) (hOe.ext (Nat.le_refl _) (by exact exY)) (hOf.ext (Nat.le_refl _) (by exact exY)) (by omega) (by omega) (by omega) (by omega) (by omega) (by omega) (by omega) (by omega) (by omega))).out (by exact exY)
  · rw [if_neg h]
    rw [decide_eq_false h] at ht
    refine OCalls.body Try.func45 rfl Try.ntmps45 (rs := [.tmp 2, .tmp 3, .tmp 4]) rfl (by simp) rfl fun H Q hQ A hA => ?_
    have a0 := hA 0 _ _ rfl
    clear hA
    repeat' first | refine rnY ?_ | (first | refine ZCalls.to (ht) ?_ | refine ZCalls.tf (ht) ?_) | with_reducible refine And.intro (fun hc => ?_) (fun hc => ?_) | fail
    exact hQ.out _ _ ((OwnB.tup (lo := H.size) (hi := H.size) (l := [.slice none 0 0, .slice none 0 0, .slice none 0 0]) (l' := [zI [], zI [], zI []]) (.three (OwnB.nilr 1) (OwnB.nilr 1) (OwnB.nilr 1) (.inl (Nat.le_refl _)) (.inl (Nat.le_refl _)) (.inl (Nat.le_refl _)) (Nat.le_refl _) (Nat.le_refl _) (Nat.le_refl _) (Nat.le_refl _) (Nat.le_refl _) (Nat.le_refl _))).out) (by exact exY)
end Go.Proofs.Ytibkopejnhihkaa.Zed
