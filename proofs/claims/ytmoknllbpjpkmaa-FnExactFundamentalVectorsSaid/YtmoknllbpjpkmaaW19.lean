/- A part of the walk: what functions of the program do, over an abstract heap. -/
import Derived.Test.YtmoknllbpjpkmaaW18
namespace Go.Proofs.Ytmoknllbpjpkmaa.Zed
open Go TP
set_option linter.unusedVariables false
set_option linter.unusedSimpArgs false
set_option maxRecDepth 20000
namespace tfW19
theorem tf : (Try.prog.underlying 25 = some (.slice 2)) ∧ (el Try.prog 25 = some (none, 1)) ∧ (Try.prog.underlying 51 = some (.slice 25)) ∧ (el Try.prog 51 = some (none, 1)) ∧ (Try.prog.underlying 158 = some (.slice 4)) ∧ (el Try.prog 158 = some (none, 1)) ∧ (tk Try.prog 2 = some none) ∧ (tk Try.prog 4 = some none) ∧ (tk Try.prog 25 = some none) ∧ (tk Try.prog 31 = some (some 1)) ∧ (tk Try.prog 51 = some none) ∧ (tk Try.prog 115 = some (some 3)) ∧ (cz Try.prog 2 = some 1) ∧ (bz Try.prog 2 = some 8) ∧ (cz Try.prog 4 = some 1) ∧ (bz Try.prog 4 = some 1) ∧ (cz Try.prog 25 = some 1) ∧ (bz Try.prog 25 = some 24) ∧ (zr Try.prog 2 = some (.int .i64 0)) ∧ (zr Try.prog 4 = some (.bool false)) ∧ (zr Try.prog 25 = some (.slice none 0 0)) ∧ (zr Try.prog 115 = some (.agg #[.slice none 0 0, .slice none 0 0, .slice none 0 0])) ∧ (fo Try.prog 115 0 = some (0, none)) ∧ (fo Try.prog 115 1 = some (1, none)) ∧ (fo Try.prog 115 2 = some (2, none)) := by
  refine ⟨?_, ?_, ?_, ?_, ?_, ?_, ?_, ?_, ?_, ?_, ?_, ?_, ?_, ?_, ?_, ?_, ?_, ?_, ?_, ?_, ?_, ?_, ?_, ?_, ?_⟩ <;> kernel_rfl
end tfW19
open tfW19

theorem bfF_mem {acc : List (List Int)} {a : Nat} {row : List (Int × Int)} {x : List Int} : ∀ f, x ∈ bfF acc a row f ↔ x ∈ acc ∨ ∃ g, g < f ∧ (row.getD g (0, 0)).1 < 0 ∧ x = [(a : Int), (g : Int)]
  | 0 => by simp [bfF]
  | f + 1 => by
    unfold bfF
    split
    · rename_i h
      rw [List.mem_append, bfF_mem f, List.mem_singleton]
      constructor
      · rintro ((h1 | ⟨g, h1, h2, h3⟩) | h1)
        · exact .inl h1
        · exact .inr ⟨g, by omega, h2, h3⟩
        · exact .inr ⟨f, by omega, h, h1⟩
      · rintro (h1 | ⟨g, h1, h2, h3⟩)
        · exact .inl (.inl h1)
        · rcases Nat.lt_succ_iff_lt_or_eq.1 h1 with h4 | rfl
          · exact .inl (.inr ⟨g, h4, h2, h3⟩)
          · exact .inr h3
    · rename_i h
      rw [bfF_mem f]
      constructor
      · rintro (h1 | ⟨g, h1, h2, h3⟩)
        · exact .inl h1
        · exact .inr ⟨g, by omega, h2, h3⟩
      · rintro (h1 | ⟨g, h1, h2, h3⟩)
        · exact .inl h1
        · rcases Nat.lt_succ_iff_lt_or_eq.1 h1 with h4 | rfl
          · exact .inr ⟨g, h4, h2, h3⟩
          · exact absurd h2 h
theorem bfT_mem {T : List (List (Int × Int))} {x : List Int} : ∀ n, x ∈ bfT T n ↔ ∃ a g, a < n ∧ g < 4 ∧ (fc T a g).1 < 0 ∧ x = [(a : Int), (g : Int)]
  | 0 => by simp [bfT]
  | n + 1 => by
    rw [bfT, bfF_mem, bfT_mem n]
    constructor
    · rintro (⟨a, g, h1, h2⟩ | ⟨g, h1, h2, h3⟩)
      · exact ⟨a, g, by omega, h2⟩
      · exact ⟨n, g, by omega, h1, h2, h3⟩
    · rintro ⟨a, g, h1, h2, h3, h4⟩
      rcases Nat.lt_succ_iff_lt_or_eq.1 h1 with h5 | rfl
      · exact .inl ⟨a, g, h5, h2, h3, h4⟩
      · exact .inr ⟨g, h2, h3, h4⟩
theorem bfT_at {T : List (List (Int × Int))} {j : Nat} (h : j < (bfT T T.length).length) : ∃ a f : Nat, (bfT T T.length).getD j [] = [(a : Int), (f : Int)] ∧ a < T.length ∧ f < 4 ∧ (fc T a f).1 < 0 := by
  have : (bfT T T.length).getD j [] ∈ bfT T T.length := by simp [h]
  obtain ⟨a, g, h1, h2, h3, h4⟩ := (bfT_mem T.length).1 this
  exact ⟨a, g, h4, h1, h2, h3⟩
def svI (T : List (List (Int × Int))) (acc : List Int) (a f : Nat) : Nat → List Int
  | 0 => acc
  | k + 1 => if k = f then svI T acc a f k else svI T acc a f k ++ [(vertL T).getD (a * 4 + k) 0]
def seI (T : List (List (Int × Int))) (acc : List Int) (a f : Nat) : Nat → List Int
  | 0 => acc
  | k + 1 => if endA k ≠ f ∧ endB k ≠ f then seI T acc a f k ++ [(edgeL T).getD (a * 6 + k) 0] else seI T acc a f k
def sbV (T : List (List (Int × Int))) (P : List (List Int)) : Nat → List Int
  | 0 => []
  | j + 1 => svI T (sbV T P j) ((P.getD j []).getD 0 0).toNat ((P.getD j []).getD 1 0).toNat 4
def sbE (T : List (List (Int × Int))) (P : List (List Int)) : Nat → List Int
  | 0 => []
  | j + 1 => seI T (sbE T P j) ((P.getD j []).getD 0 0).toNat ((P.getD j []).getD 1 0).toNat 6
def sbF (T : List (List (Int × Int))) (P : List (List Int)) : Nat → List Int
  | 0 => []
  | j + 1 => sbF T P j ++ [(faceL T).getD (((P.getD j []).getD 0 0).toNat * 4 + ((P.getD j []).getD 1 0).toNat) 0]
def nV (T : List (List (Int × Int))) : Nat := (classN (vertL T)).toNat
def nF (T : List (List (Int × Int))) : Nat := (classN (faceL T)).toNat
theorem rows_at {w n : Nat} {l : List Int} (hl : l.length = n * w) {a : Nat} (ha : a < n) : ∃ r : List Int, (rowsZ w (chunkR w n l))[a]? = some (FZ 1 w (ints r)) ∧ r.length = w ∧ ∀ f, f < w → r.getD f 0 = l.getD (a * w + f) 0 := by
  have hw : a * w + w ≤ n * w := by
    have := Nat.mul_le_mul_right w (show a + 1 ≤ n by omega)
    rw [Nat.succ_mul] at this; exact this
  refine ⟨(l.drop (a * w)).take w, ?_, by rw [List.length_take, List.length_drop]; omega, fun f hf => ?_⟩
  · have hg := chunkR_get w n l a ha
    have hcl := chunkR_len w n l
    unfold rowsZ
    rw [List.getElem?_map, List.getElem?_eq_getElem (by omega)]
    rw [List.getD_eq_getElem?_getD, List.getElem?_eq_getElem (by omega)] at hg
    simp only [Option.getD_some] at hg
    rw [hg]; rfl
  · rw [List.getD_eq_getElem?_getD, List.getElem?_take, if_pos hf, List.getElem?_drop, ← List.getD_eq_getElem?_getD]
theorem nat_at {l : List Int} (hb : ∀ x ∈ l, 0 ≤ x ∧ x ≤ 100000) (j : Nat) : ∃ z : Nat, l.getD j 0 = z := by
  refine ⟨(l.getD j 0).toNat, ?_⟩
  by_cases hj : j < l.length
  · have := hb _ (List.getElem_mem hj); simp [hj]; omega
  · simp [List.getD_eq_getElem?_getD, List.getElem?_eq_none (Nat.le_of_not_lt hj)]
theorem AWp.freezeB {P : Program} {m : Nat} {c : Code} {Q : Exit → Fr → Heap → Prop} {A : Fr} {H : Heap} {t g k n : Nat} {l : List Bool} (hA : A t = .slice (some ⟨g, 0, none⟩) n k) (hg : H.get g = .cells (bools l) 1 false) (hn : l.length = n)
    (gg : AWp P m c Q (put A (some t) (FZ 1 n (bools l))) (H.set g .dead)) : AWp P m c Q A H := by
  refine AWp.freeze (es := 1) hA hg (by rw [bools_len]; omega) ?_
  rw [List.drop_zero, List.take_of_length_le (by rw [bools_len]; omega)]
  exact gg
theorem FZcl (v e f : Value) (hv : Cl v) (he : Cl e) (hf : Cl f) : Cl (.tuple #[v, e, f]) := Cl.tuple (l := [_, _, _]) (Cl.cons hv (Cl.cons he (Cl.cons hf Cl.nil)))
set_option maxHeartbeats 8000000 in
theorem specBoundary_z {T : List (List (Int × Int))} (hT : IsTri T) : ZCalls Try.prog 192 [zT T] (.tuple #[zI (listTo (mkB (nV T) (sbV T (bfT T T.length) (bfT T T.length).length)) (nV T)), zI (listTo (mkB (nE T) (sbE T (bfT T T.length) (bfT T T.length).length)) (nE T)), zI (listTo (mkB (nF T) (sbF T (bfT T T.length) (bfT T T.length).length)) (nF T))]) := by
  have hF := hT.fine
  have h8 := hF.1
  have h4 : ∀ a, a < T.length → (T.getD a []).length = 4 := fun a ha => (hF.2 a ha).1
  have hd := specIsTri_z (T := T) (by omega)
  rw [decide_eq_true hT] at hd
  have hb := l07Boundary_z h8 h4
  have hlb := bfT_len T T.length
  have hP := fun {j} => @bfT_at T j
  have b1 := vertL_bd T h8
  have b2 := edgeL_bd T h8
  have b3 := faceL_bd T h8
  have n1 := classN_bd b1
  have n2 := classN_bd b2
  have n3 := classN_bd b3
  have m1 : classN (vertL T) = nV T := by unfold nV; omega
  have m2 : classN (edgeL T) = nE T := by unfold nE; omega
  have m3 : classN (faceL T) = nF T := by unfold nF; omega
  have x1 := lt_classN (vertL T)
  have x2 := lt_classN (edgeL T)
  have x3 := lt_classN (faceL T)
  rw [m1] at x1 n1
  rw [m2] at x2 n2
  rw [m3] at x3 n3
  have l1 := vertL_len T
  have l2 := edgeL_len T
  have l3 := faceL_len T
  have r1 := fun {a} => @rows_at 4 T.length (vertL T) (by omega) a
  have r2 := fun {a} => @rows_at 6 T.length (edgeL T) (by omega) a
  have r3 := fun {a} => @rows_at 4 T.length (faceL T) (by omega) a
  have hcv : cntV T = .tuple #[.agg #[FZ 1 T.length (rowsZ 4 (chunkR 4 T.length (vertL T))), FZ 1 T.length (rowsZ 6 (chunkR 6 T.length (edgeL T))), FZ 1 T.length (rowsZ 4 (chunkR 4 T.length (faceL T)))], FZ 1 4 [I (nV T), I (nE T), I (nF T), I T.length]] := by
    unfold cntV countsL; rw [m1, m2, m3]; rfl
  have hc := specCount_z hF
  rw [hcv] at hc
  clear hcv
  have y1 := mkB_nil (nV T)
  have y2 := mkB_nil (nE T)
  have y3 := mkB_nil (nF T)
  generalize bfT T T.length = P at *
  refine ZCalls.body Try.func192 rfl Try.ntmps192 (rs := [.tmp 2, .tmp 3, .tmp 4]) rfl (by simp) rfl fun H Q hQ A hA => ?_
  have a0 := hA 0 _ _ rfl
  clear hA
  have zf0 := @rep_bools
  have zf1 := @zero1
  repeat' first | refine rnY ?_ | (first | refine ZCalls.to (hd) ?_ | refine ZCalls.tf (hd) ?_) | (first | refine ZCalls.to (hc) ?_ | refine ZCalls.tf (hc) ?_) | (first | refine ZCalls.to (hb) ?_ | refine ZCalls.tf (hb) ?_) | with_reducible refine And.intro (fun hc => ?_) (fun hc => ?_) | fail
  refine AWp.cut (fun Ac hAc => ?_)
  have c5 := gtY (t := 5) hAc
  have c7 := gtY (t := 7) hAc
  have c8 := gtY (t := 8) hAc
  have c9 := gtY (t := 9) hAc
  have c10 := gtY (t := 10) hAc
  have c11 := gtY (t := 11) hAc
  clear a0 y1 y2 y3 hd hc hb
  obtain ⟨C, hC⟩ : ∃ C : Blk, C = .cells [FZ 1 T.length (rowsZ 4 (chunkR 4 T.length (vertL T))), FZ 1 T.length (rowsZ 6 (chunkR 6 T.length (edgeL T))), FZ 1 T.length (rowsZ 4 (chunkR 4 T.length (faceL T)))] 1 false := ⟨_, rfl⟩
  rw [← hC]
  refine AWp.loop (fun A' H' => ∃ (j : Nat), Ag [12, 13, 14, 15, 16, 17, 40, 41, 42, 43, 44, 45, 46, 47, 48, 49, 50, 51, 52, 53, 54, 55, 56, 57, 58, 59, 60, 61, 62, 63, 64, 65, 66, 67, 68, 69, 70, 71, 72, 73, 74, 75, 76, 77, 78, 79, 80, 81, 82, 83, 84, 85, 86, 87, 88, 89, 90, 91, 92, 93, 94, 95, 96, 97, 98, 99, 100, 101, 102, 103, 104, 105, 106, 107, 108, 109, 110, 111] A' (put Ac (some 11) (I j)) ∧ j ≤ P.length ∧ H' = ((((H.push C).push (.cells (bools (mkB (nV T) (sbV T P j))) 1 false)).push (.cells (bools (mkB (nE T) (sbE T P j))) 1 false)).push (.cells (bools (mkB (nF T) (sbF T P j))) 1 false))) (fun A' _ => P.length - (intV (A' 11)).toNat) ?_ ?_
  · exact ⟨0, agY, by omega, rfl⟩
  · rintro A1 H1 ⟨j, hA, hj, rfl⟩
    have d5 := gdY (t := 5) hA
    have d7 := gdY (t := 7) hA
    have d8 := gdY (t := 8) hA
    have d9 := gdY (t := 9) hA
    have d10 := gdY (t := 10) hA
    have d11 := gdY (t := 11) hA
    by_cases hlt : j < P.length
    · obtain ⟨a, f, hPj, ha, hf, hneg⟩ := hP hlt
      have hs1 : sbV T P (j + 1) = svI T (sbV T P j) ((P.getD j []).getD 0 0).toNat ((P.getD j []).getD 1 0).toNat 4 := rfl
      have hs2 : sbE T P (j + 1) = seI T (sbE T P j) ((P.getD j []).getD 0 0).toNat ((P.getD j []).getD 1 0).toNat 6 := rfl
      have hs3 : sbF T P (j + 1) = sbF T P j ++ [(faceL T).getD (((P.getD j []).getD 0 0).toNat * 4 + ((P.getD j []).getD 1 0).toNat) 0] := rfl
      rw [hPj] at hs1 hs2 hs3
      change _ = svI T _ a f 4 at hs1
      change _ = seI T _ a f 6 at hs2
      change _ = _ ++ [(faceL T).getD (a * 4 + f) 0] at hs3
      obtain ⟨rv, rv1, rv2, rv3⟩ := r1 ha
      obtain ⟨re, re1, re2, re3⟩ := r2 ha
      obtain ⟨rf, rf1, rf2, rf3⟩ := r3 ha
      obtain ⟨z, hz⟩ := nat_at b3 (a * 4 + f)
      have hzl := x3 (a * 4 + f) (by omega)
      have hrz := rf3 f hf
      rw [hz] at hzl hrz hs3
      have hms := mkB_set (nF T) (sbF T P j) z
      rw [← hs3] at hms
      have hml := mkB_len (nF T) (sbF T P j)
      have hbl := bools_len (mkB (nF T) (sbF T P j))
      generalize sbV T P j = Lv at *
      generalize sbE T P j = Le at *
      generalize sbF T P j = Lf at *
      generalize hLf : sbF T P (j + 1) = Lf' at *
      have lv := rowsZ_len 4 (chunkR 4 T.length (vertL T))
      have le := rowsZ_len 6 (chunkR 6 T.length (edgeL T))
      have lf := rowsZ_len 4 (chunkR 4 T.length (faceL T))
      generalize rowsZ 4 (chunkR 4 T.length (vertL T)) = ZV at *
      generalize rowsZ 6 (chunkR 6 T.length (edgeL T)) = ZE at *
      generalize rowsZ 4 (chunkR 4 T.length (faceL T)) = ZF at *
      clear r1 r2 r3 hP hz hs3 rf3
      have zf0 := @bools_set
      repeat' first | refine rnY ?_ | with_reducible refine And.intro (fun hc => ?_) (fun hc => ?_) | fail
      rw [← hC]
      have hms1 : ∀ L z, (mkB (nV T) L).set z true = mkB (nV T) (L ++ [(z : Int)]) := mkB_set _
      have hms2 : ∀ L z, (mkB (nE T) L).set z true = mkB (nE T) (L ++ [(z : Int)]) := mkB_set _
      have hml1 := mkB_len (nV T)
      have hml2 := mkB_len (nE T)
      clear hms hml hbl hrz hzl hPj
      refine AWp.cut (fun Ae hAe => ?_)
      have e5 := gtY (t := 5) hAe
      have e7 := gtY (t := 7) hAe
      have e8 := gtY (t := 8) hAe
      have e9 := gtY (t := 9) hAe
      have e10 := gtY (t := 10) hAe
      have e11 := gtY (t := 11) hAe
      have e12 := gtY (t := 12) hAe
      have e13 := gtY (t := 13) hAe
      have e14 := gtY (t := 14) hAe
      refine AWp.loop (fun A' H' => ∃ (k : Nat), Ag [68, 69, 70, 71, 72, 73, 74, 75, 76, 77, 78, 79, 80, 81, 82, 83, 84] A' (put Ae (some 14) (I k)) ∧ k ≤ 4 ∧ H' = ((((H.push C).push (.cells (bools (mkB (nV T) (svI T Lv a f k))) 1 false)).push (.cells (bools (mkB (nE T) Le)) 1 false)).push (.cells (bools (mkB (nF T) Lf')) 1 false))) (fun A' _ => 4 - (intV (A' 14)).toNat) ?_ ?_
      · exact ⟨0, agY, by omega, rfl⟩
      · rintro A2 H2 ⟨k, hB, hk, rfl⟩
        have f5 := gdY (t := 5) hB
        have f7 := gdY (t := 7) hB
        have f8 := gdY (t := 8) hB
        have f9 := gdY (t := 9) hB
        have f10 := gdY (t := 10) hB
        have f11 := gdY (t := 11) hB
        have f12 := gdY (t := 12) hB
        have f13 := gdY (t := 13) hB
        have f14 := gdY (t := 14) hB
        by_cases hk4 : k < 4
        · have hst : svI T Lv a f (k + 1) = if k = f then svI T Lv a f k else svI T Lv a f k ++ [(vertL T).getD (a * 4 + k) 0] := rfl
          generalize svI T Lv a f k = L at *
          by_cases hkf : k = f
          · rw [if_pos hkf] at hst
            have hkb : ((k : Int) == (f : Int)) = true := by rw [hkf]; simp
            clear hkf
            repeat' first | refine rnY ?_ | with_reducible refine And.intro (fun hc => ?_) (fun hc => ?_) | fail
            exact ⟨⟨k + 1, agY, by omega, by rw [hst, hC]⟩, by exact ivY⟩
          · rw [if_neg hkf] at hst
            have hkb : ((k : Int) == (f : Int)) = false := by rw [beq_eq_false_iff_ne]; omega
            obtain ⟨z, hz⟩ := nat_at b1 (a * 4 + k)
            have hzl := x1 (a * 4 + k) (by omega)
            have hrz := rv3 k hk4
            rw [hz] at hzl hrz hst
            have hms := hms1 L z
            have hml := hml1 L
            have hbl := bools_len (mkB (nV T) L)
            clear hz hkf rv3
            have zf0 := @bools_set
            repeat' first | refine rnY ?_ | with_reducible refine And.intro (fun hc => ?_) (fun hc => ?_) | fail
            exact ⟨⟨k + 1, agY, by omega, by rw [hst, hC]⟩, by exact ivY⟩
        · obtain rfl : k = 4 := by omega
          repeat' first | refine rnY ?_ | with_reducible refine And.intro (fun hc => ?_) (fun hc => ?_) | fail
          refine AWp.cut (fun As hAs => ?_)
          have s5 := gtY (t := 5) hAs
          have s7 := gtY (t := 7) hAs
          have s8 := gtY (t := 8) hAs
          have s9 := gtY (t := 9) hAs
          have s10 := gtY (t := 10) hAs
          have s11 := gtY (t := 11) hAs
          have s12 := gtY (t := 12) hAs
          have s13 := gtY (t := 13) hAs
          have s15 := gtY (t := 15) hAs
          rw [← hC]
          refine AWp.loop (fun A' H' => ∃ (k : Nat), Ag [16, 17, 85, 86, 87, 88, 89, 90, 91, 92, 93, 94, 95, 96, 97, 98, 99, 100, 101, 102, 103, 104, 105, 106, 107, 108, 109, 110, 111] A' (put As (some 15) (I k)) ∧ k ≤ 6 ∧ H' = ((((H.push C).push (.cells (bools (mkB (nV T) (svI T Lv a f 4))) 1 false)).push (.cells (bools (mkB (nE T) (seI T Le a f k))) 1 false)).push (.cells (bools (mkB (nF T) Lf')) 1 false))) (fun A' _ => 6 - (intV (A' 15)).toNat) ?_ ?_
          · exact ⟨0, agY, by omega, rfl⟩
          · rintro A3 H3 ⟨k, hD, hk, rfl⟩
            have u5 := gdY (t := 5) hD
            have u7 := gdY (t := 7) hD
            have u8 := gdY (t := 8) hD
            have u9 := gdY (t := 9) hD
            have u10 := gdY (t := 10) hD
            have u11 := gdY (t := 11) hD
            have u12 := gdY (t := 12) hD
            have u13 := gdY (t := 13) hD
            have u15 := gdY (t := 15) hD
            by_cases hk6 : k < 6
            · have hst : seI T Le a f (k + 1) = if endA k ≠ f ∧ endB k ≠ f then seI T Le a f k ++ [(edgeL T).getD (a * 6 + k) 0] else seI T Le a f k := rfl
              generalize seI T Le a f k = L at *
              have hends := l08Ends_z k hk6
              obtain ⟨x, y, hu, hw, hu4, hw4, huw⟩ := ends_bd k hk6
              rw [hu, hw] at hst hends
              clear hu hw
              by_cases huf : x = f
              · have hb1 : ((x : Int) == (f : Int)) = true := by rw [huf]; simp
                rw [if_neg (by rw [huf]; simp)] at hst
                clear huf
                repeat' first | refine rnY ?_ | (first | refine ZCalls.to (hends) ?_ | refine ZCalls.tf (hends) ?_) | with_reducible refine And.intro (fun hc => ?_) (fun hc => ?_) | fail
                exact ⟨⟨k + 1, agY, by omega, by rw [hst, hC]⟩, by exact ivY⟩
              · have hb1 : ((x : Int) == (f : Int)) = false := by rw [beq_eq_false_iff_ne]; omega
                by_cases hwf : y = f
                · have hb2 : ((y : Int) == (f : Int)) = true := by rw [hwf]; simp
                  rw [if_neg (by rw [hwf]; simp)] at hst
                  clear hwf huf
                  repeat' first | refine rnY ?_ | (first | refine ZCalls.to (hends) ?_ | refine ZCalls.tf (hends) ?_) | with_reducible refine And.intro (fun hc => ?_) (fun hc => ?_) | fail
                  exact ⟨⟨k + 1, agY, by omega, by rw [hst, hC]⟩, by exact ivY⟩
                · have hb2 : ((y : Int) == (f : Int)) = false := by rw [beq_eq_false_iff_ne]; omega
                  rw [if_pos ⟨by omega, by omega⟩] at hst
                  obtain ⟨z, hz⟩ := nat_at b2 (a * 6 + k)
                  have hzl := x2 (a * 6 + k) (by omega)
                  have hrz := re3 k hk6
                  rw [hz] at hzl hrz hst
                  have hms := hms2 L z
                  have hml := hml2 L
                  have hbl := bools_len (mkB (nE T) L)
                  clear hz hwf huf re3
                  have zf0 := @bools_set
                  repeat' first | refine rnY ?_ | (first | refine ZCalls.to (hends) ?_ | refine ZCalls.tf (hends) ?_) | with_reducible refine And.intro (fun hc => ?_) (fun hc => ?_) | fail
                  exact ⟨⟨k + 1, agY, by omega, by rw [hst, hC]⟩, by exact ivY⟩
            · obtain rfl : k = 6 := by omega
              repeat' first | refine rnY ?_ | with_reducible refine And.intro (fun hc => ?_) (fun hc => ?_) | fail
              exact ⟨⟨j + 1, agY, by omega, by rw [hs1, hs2, hLf, hC]⟩, by exact ivY⟩
    · obtain rfl : j = P.length := by omega
      have z1 := l08Listed_z (mkB_len (nV T) (sbV T P P.length)) (by omega)
      have z2 := l08Listed_z (mkB_len (nE T) (sbE T P P.length)) (by omega)
      have z3 := l08Listed_z (mkB_len (nF T) (sbF T P P.length)) (by omega)
      have k1 := mkB_len (nV T) (sbV T P P.length)
      have k2 := mkB_len (nE T) (sbE T P P.length)
      have k3 := mkB_len (nF T) (sbF T P P.length)
      refine AWp.freezeB (t := 7) (g := H.size + 1) (by exact ivY) (by rw [get_push_lt (by simp only [nx]; omega), get_push_lt (by simp only [nx]; omega), get_push_eq (by simp only [nx])]) k1 ?_
      refine AWp.freezeB (t := 8) (g := H.size + 1 + 1) (by exact ivY) (by rw [get_set_ne (by omega), get_push_lt (by simp only [nx]; omega), get_push_eq (by simp only [nx])]) k2 ?_
      refine AWp.freezeB (t := 9) (g := H.size + 1 + 1 + 1) (by exact ivY) (by rw [get_set_ne (by omega), get_set_ne (by omega), get_push_eq (by simp only [nx])]) k3 ?_
      repeat' first | refine rnY ?_ | (first | refine ZCalls.to (z1) ?_ | refine ZCalls.tf (z1) ?_) | (first | refine ZCalls.to (z2) ?_ | refine ZCalls.tf (z2) ?_) | (first | refine ZCalls.to (z3) ?_ | refine ZCalls.tf (z3) ?_) | with_reducible refine And.intro (fun hc => ?_) (fun hc => ?_) | fail
      exact hQ.out _ _ (.cl (FZcl _ _ _ (Cl.zI _) (Cl.zI _) (Cl.zI _))) (by exact exY)
end Go.Proofs.Ytmoknllbpjpkmaa.Zed
