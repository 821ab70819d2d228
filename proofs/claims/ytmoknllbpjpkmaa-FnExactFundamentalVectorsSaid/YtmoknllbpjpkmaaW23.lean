/- A part of the walk: what functions of the program do, over an abstract heap. -/
import Derived.Test.YtmoknllbpjpkmaaW22
namespace Go.Proofs.Ytmoknllbpjpkmaa.Zed
open Go TP
set_option linter.unusedVariables false
set_option linter.unusedSimpArgs false
set_option maxRecDepth 20000
namespace tfW23
theorem tf : (Try.prog.underlying 22 = some (.slice 101)) ∧ (el Try.prog 22 = some (none, 1)) ∧ (Try.prog.underlying 29 = some (.slice 102)) ∧ (el Try.prog 29 = some (none, 1)) ∧ (Try.prog.underlying 101 = some (.slice 139)) ∧ (el Try.prog 101 = some (none, 2)) ∧ (Try.prog.underlying 102 = some (.slice 107)) ∧ (el Try.prog 102 = some (none, 2)) ∧ (tk Try.prog 22 = some none) ∧ (tk Try.prog 29 = some none) ∧ (tk Try.prog 31 = some (some 1)) ∧ (tk Try.prog 101 = some none) ∧ (tk Try.prog 102 = some none) ∧ (tk Try.prog 107 = some (some 2)) ∧ (tk Try.prog 139 = some (some 2)) ∧ (cz Try.prog 101 = some 1) ∧ (bz Try.prog 101 = some 24) ∧ (cz Try.prog 102 = some 1) ∧ (bz Try.prog 102 = some 24) ∧ (cz Try.prog 107 = some 2) ∧ (bz Try.prog 107 = some 16) ∧ (cz Try.prog 139 = some 2) ∧ (bz Try.prog 139 = some 16) ∧ (zr Try.prog 31 = some (.agg #[.slice none 0 0])) ∧ (zr Try.prog 101 = some (.slice none 0 0)) ∧ (zr Try.prog 102 = some (.slice none 0 0)) ∧ (zr Try.prog 107 = some (.agg #[.int .i64 0, .int .i64 0])) ∧ (zr Try.prog 139 = some (.agg #[.int .i64 0, .int .i64 0])) ∧ (fo Try.prog 24 0 = some (0, none)) ∧ (fo Try.prog 31 0 = some (0, none)) := by
  refine ⟨?_, ?_, ?_, ?_, ?_, ?_, ?_, ?_, ?_, ?_, ?_, ?_, ?_, ?_, ?_, ?_, ?_, ?_, ?_, ?_, ?_, ?_, ?_, ?_, ?_, ?_, ?_, ?_, ?_, ?_⟩ <;> kernel_rfl
end tfW23
open tfW23

def Short (T : List (List (Int × Int))) (n : Nat) : Prop := T.length ≤ n ∧ ∀ j, j < T.length → (T.getD j []).length ≤ n
theorem FinV.rows {lo : Nat} {H : Heap} {g c n : Nat} {l : List (List (Int × Int))} (hg : lo ≤ g) (hn : l.length = n) (hget : H.get g = .cells (l.map fun r => zP r) 1 false) : FinV lo H (.slice (some ⟨g, 0, none⟩) n c) (FZ 1 n (l.map fun r => zP r)) :=
  .own hg hget (by rw [List.length_map]; omega) (by rw [List.length_map]; omega) (fun i x r hx hr => by
    rw [Nat.zero_add] at hx
    cases hx.symm.trans hr
    obtain ⟨y, _, rfl⟩ := List.mem_map.1 (List.mem_of_getElem? hx)
    exact .cl (Cl.zP y))
theorem set_fill {vs : List Value} {n j : Nat} {z u : Value} (hl : vs.length = j) (hj : j < n) : (vs ++ List.replicate (n - j) z).set j u = (vs ++ [u]) ++ List.replicate (n - (j + 1)) z := by
  rw [List.set_append, if_neg (by omega), hl, Nat.sub_self, show n - j = (n - (j + 1)) + 1 by omega, List.replicate_succ, List.set_cons_zero]
  simp
theorem take_map {α : Type} (f : α → Value) (d : α) {l : List α} {j : Nat} (h : j < l.length) : (l.take j).map f ++ [f (l.getD j d)] = (l.take (j + 1)).map f := by
  rw [List.take_succ_eq_append_getElem h, List.map_append]
  simp [h]
set_option maxHeartbeats 1000000 in
theorem toFaceSS_o {T : List (List (Int × Int))} (hS : Short T 1048576) : OCalls Try.prog 52 [zL zP T] (zL zP T) := by
  obtain ⟨hS1, hS2⟩ := hS
  refine OCalls.body Try.func52 rfl Try.ntmps52 (rs := [.tmp 2]) rfl (by simp) rfl fun H Q hQ A hA => ?_
  have a0 := hA 0 _ _ rfl
  clear hA
  have zf0 := @zero1
  repeat' first | refine rnY ?_ | with_reducible refine And.intro (fun hc => ?_) (fun hc => ?_) | fail
  refine AWp.cut (fun Ac hAc => ?_)
  have c0 := gtY (t := 0) hAc
  have c3 := gtY (t := 3) hAc
  have c4 := gtY (t := 4) hAc
  clear a0
  refine AWp.loop (fun A' H' => ∃ (j : Nat) (vs : List Value), Ag [8, 9, 10, 11, 12, 13, 14, 15, 16, 17, 18, 19, 20, 21] A' (put Ac (some 4) (I j)) ∧ j ≤ T.length ∧ vs.length = j ∧ H'.get H.size = .cells (vs ++ List.replicate (T.length - j) (.slice none 0 0)) 1 false ∧ OwnB (H.size + 1) H'.size H' vs ((T.take j).map fun r => zP r) ∧ H.size < H'.size ∧ Ext H H') (fun A' _ => T.length - (intV (A' 4)).toNat) ?_ ?_
  · exact ⟨0, [], agY, by omega, rfl, get_push_eq rfl, .nil, by exact ivY, by exact exY⟩
  · rintro A1 H1 ⟨j, vs, hA, hj, hvl, hg, hO, hs, hx⟩
    have d0 := gdY (t := 0) hA
    have d3 := gdY (t := 3) hA
    have d4 := gdY (t := 4) hA
    by_cases hlt : j < T.length
    · have hrow := fun H => (toFaceS_o (hS2 j hlt)).lend (H := H) (.cl (Cl.zP _) .nil)
      have hfill := fun u => set_fill (z := .slice none 0 0) (u := u) hvl hlt
      have hcl : (vs ++ List.replicate (T.length - j) (Value.slice none 0 0)).length = T.length := by rw [List.length_append, List.length_replicate]; omega
      have htm := take_map (fun r => zP r) [] hlt
      clear hS2
      generalize hcs : vs ++ List.replicate (T.length - j) (Value.slice none 0 0) = cs at *
      repeat' first | refine rnY ?_ | (refine (hrow _).mono ?_; rintro u H2 ⟨hU, hx2⟩; have hu1 := hU.one; have hx2g := hx2.get; have hx2s := hx2.size; (try simp only [nx] at hx2s)) | with_reducible refine And.intro (fun hc => ?_) (fun hc => ?_) | fail
      refine ⟨⟨j + 1, vs ++ [u], agY, by omega, by simp [hvl], by rw [get_set_eq], ?_, by exact ivY, by exact exY⟩, by exact ivY⟩
      rw [← htm]
      exact ((hO.ext (Nat.le_refl _) hx2).append hU (by omega) (by omega)).keep fun b hb _ => get_set_ne (by omega)
    · obtain rfl : j = T.length := by omega
      rw [Nat.sub_self, List.replicate_zero, List.append_nil] at hg
      rw [List.take_length] at hO
      repeat' first | refine rnY ?_ | with_reducible refine And.intro (fun hc => ?_) (fun hc => ?_) | fail
      exact hQ.out _ _ ((OwnB.rows (lo := H.size) (hi := H1.size) (Nat.le_refl _) hs hg hO (by omega) (fun x hx => by obtain ⟨r, _, rfl⟩ := List.mem_map.1 hx; rfl)).out) (by exact exY)
theorem toFaceSS_z {T : List (List (Int × Int))} (hS : Short T 1048576) : ZCalls Try.prog 52 [zL zP T] (zL zP T) := (toFaceSS_o hS).toZ (Cl.cons (Cl.zL Cl.zP _) Cl.nil)
theorem toTriangulation_o {T : List (List (Int × Int))} (hS : Short T 1048576) : OCalls Try.prog 15 [zT T] (zT T) := by
  have hto := fun H => (toFaceSS_o hS).lend (H := H) (.cl (Cl.zL Cl.zP _) .nil)
  refine OCalls.body Try.func15 rfl Try.ntmps15 (rs := [.cell 2 31]) rfl (by simp) rfl fun H Q hQ A hA => ?_
  have a0 := hA 0 _ _ rfl
  clear hA
  repeat' first | refine rnY ?_ | (refine (hto _).mono ?_; rintro u H2 ⟨hU, hx2⟩; have hu1 := hU.one; have hx2g := hx2.get; have hx2s := hx2.size; (try simp only [nx] at hx2s)) | with_reducible refine And.intro (fun hc => ?_) (fun hc => ?_) | fail
  exact hQ.out _ _ ((OwnB.ag (l := [u]) (l' := [zL zP T]) ((hU.keep fun b hb _ => (get_set_ne (by simp only [nx] at hb; omega)).trans (get_set_ne (by simp only [nx] at hb; omega))).wide (lo' := H.size) (by simp only [nx]; omega) (Nat.le_refl _))).out) (by exact exY)
theorem toTriangulation_z {T : List (List (Int × Int))} (hS : Short T 1048576) : ZCalls Try.prog 15 [zT T] (zT T) := (toTriangulation_o hS).toZ (Cl.cons (Cl.zT _) Cl.nil)
set_option maxHeartbeats 1000000 in
theorem eqFaceS_z {row : List (Int × Int)} (hS : row.length ≤ 1048576) : ZCalls Try.prog 107 [zP row, zP row] (B true) := by
  refine ZCalls.body Try.func107 rfl Try.ntmps107 (rs := [.tmp 4]) rfl (by simp) rfl fun H Q hQ A hA => ?_
  have a0 := hA 0 _ _ rfl
  have a1 := hA 1 _ _ rfl
  clear hA
  repeat' first | refine rnY ?_ | with_reducible refine And.intro (fun hc => ?_) (fun hc => ?_) | fail
  refine AWp.cut (fun Ac hAc => ?_)
  have c0 := gtY (t := 0) hAc
  have c1 := gtY (t := 1) hAc
  have c5 := gtY (t := 5) hAc
  clear a0 a1
  refine AWp.loop (fun A' H' => ∃ (j : Nat), Ag [11, 12, 13, 14, 15, 16, 17, 18, 19, 20, 21, 22, 23, 24, 25, 26] A' (put Ac (some 5) (I j)) ∧ j ≤ row.length ∧ H' = H) (fun A' _ => row.length - (intV (A' 5)).toNat) ?_ ?_
  · exact ⟨0, agY, by omega, rfl⟩
  · rintro A1 H1 ⟨j, hA, hj, rfl⟩
    have d0 := gdY (t := 0) hA
    have d1 := gdY (t := 1) hA
    have d5 := gdY (t := 5) hA
    by_cases hlt : j < row.length
    · have he := eqFace_z (row.getD j (0, 0)).1 (row.getD j (0, 0)).2 (row.getD j (0, 0)).1 (row.getD j (0, 0)).2
      rw [beq_self_eq_true, beq_self_eq_true] at he
      repeat' first | refine rnY ?_ | with_reducible refine And.intro (fun hc => ?_) (fun hc => ?_) | fail
      refine AWp.zreg [(0, none), (1, none), (2, none), (3, none), (4, none), (5, none), (6, none), (7, none), (8, none), (9, none)] mixed (by kernel_rfl) ?_
      repeat' first | refine rzY ?_ | (first | refine ZCalls.to (he) ?_ | refine ZCalls.tf (he) ?_) | fail
      repeat' first | refine rnY ?_ | with_reducible refine And.intro (fun hc => ?_) (fun hc => ?_) | fail
      exact ⟨⟨j + 1, agY, by omega, rfl⟩, by exact ivY⟩
    · obtain rfl : j = row.length := by omega
      repeat' first | refine rnY ?_ | with_reducible refine And.intro (fun hc => ?_) (fun hc => ?_) | fail
      exact hQ.out _ _ (fv) (by exact exY)
set_option maxHeartbeats 1000000 in
theorem eqFaceSS_z {T : List (List (Int × Int))} (hS : Short T 1048576) : ZCalls Try.prog 57 [zL zP T, zL zP T] (B true) := by
  obtain ⟨hS1, hS2⟩ := hS
  refine ZCalls.body Try.func57 rfl Try.ntmps57 (rs := [.tmp 4]) rfl (by simp) rfl fun H Q hQ A hA => ?_
  have a0 := hA 0 _ _ rfl
  have a1 := hA 1 _ _ rfl
  clear hA
  repeat' first | refine rnY ?_ | with_reducible refine And.intro (fun hc => ?_) (fun hc => ?_) | fail
  refine AWp.cut (fun Ac hAc => ?_)
  have c0 := gtY (t := 0) hAc
  have c1 := gtY (t := 1) hAc
  have c5 := gtY (t := 5) hAc
  clear a0 a1
  refine AWp.loop (fun A' H' => ∃ (j : Nat), Ag [11, 12, 13, 14, 15, 16, 17, 18, 19, 20, 21, 22, 23, 24, 25, 26] A' (put Ac (some 5) (I j)) ∧ j ≤ T.length ∧ H' = H) (fun A' _ => T.length - (intV (A' 5)).toNat) ?_ ?_
  · exact ⟨0, agY, by omega, rfl⟩
  · rintro A1 H1 ⟨j, hA, hj, rfl⟩
    have d0 := gdY (t := 0) hA
    have d1 := gdY (t := 1) hA
    have d5 := gdY (t := 5) hA
    by_cases hlt : j < T.length
    · have he := eqFaceS_z (hS2 j hlt)
      repeat' first | refine rnY ?_ | with_reducible refine And.intro (fun hc => ?_) (fun hc => ?_) | fail
      refine AWp.zreg [(0, none), (1, none), (2, none), (3, none), (4, none), (5, none), (6, none), (7, none), (8, none), (9, none)] mixed (by kernel_rfl) ?_
      repeat' first | refine rzY ?_ | (first | refine ZCalls.to (he) ?_ | refine ZCalls.tf (he) ?_) | fail
      repeat' first | refine rnY ?_ | with_reducible refine And.intro (fun hc => ?_) (fun hc => ?_) | fail
      exact ⟨⟨j + 1, agY, by omega, rfl⟩, by exact ivY⟩
    · obtain rfl : j = T.length := by omega
      repeat' first | refine rnY ?_ | with_reducible refine And.intro (fun hc => ?_) (fun hc => ?_) | fail
      exact hQ.out _ _ (fv) (by exact exY)
theorem eqTriangulation_z {T : List (List (Int × Int))} (hS : Short T 1048576) : ZCalls Try.prog 18 [zT T, zT T] (B true) := by
  refine ZCalls.body Try.func18 rfl Try.ntmps18 (rs := [.tmp 4]) rfl (by simp) rfl fun H Q hQ A hA => ?_
  have a0 := hA 0 _ _ rfl
  have a1 := hA 1 _ _ rfl
  clear hA
  repeat' first | refine rnY ?_ | (first | refine ZCalls.to (eqFaceSS_z hS) ?_ | refine ZCalls.tf (eqFaceSS_z hS) ?_) | with_reducible refine And.intro (fun hc => ?_) (fun hc => ?_) | fail
  exact hQ.out _ _ (fv) (by exact exY)
end Go.Proofs.Ytmoknllbpjpkmaa.Zed
