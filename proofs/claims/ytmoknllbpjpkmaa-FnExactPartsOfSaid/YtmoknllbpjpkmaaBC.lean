/- A part of the walk: what functions of the program do, over an abstract heap. -/
import Derived.Test.YtmoknllbpjpkmaaX1
import Derived.Test.YtmoknllbpjpkmaaBB
namespace Go.Proofs.Ytmoknllbpjpkmaa.Zed
open Go TP
set_option linter.unusedVariables false
set_option linter.unusedSimpArgs false
set_option maxRecDepth 20000
namespace tfY16
theorem tf : (Try.prog.underlying 25 = some (.slice 2)) ∧ (el Try.prog 25 = some (none, 1)) ∧ (Try.prog.underlying 51 = some (.slice 25)) ∧ (el Try.prog 51 = some (none, 1)) ∧ (tk Try.prog 2 = some none) ∧ (tk Try.prog 25 = some none) ∧ (cz Try.prog 2 = some 1) ∧ (bz Try.prog 2 = some 8) ∧ (cz Try.prog 25 = some 1) ∧ (bz Try.prog 25 = some 24) ∧ (zr Try.prog 2 = some (.int .i64 0)) ∧ (zr Try.prog 25 = some (.slice none 0 0)) := by
  refine ⟨?_, ?_, ?_, ?_, ?_, ?_, ?_, ?_, ?_, ?_, ?_, ?_⟩ <;> kernel_rfl
end tfY16
open tfY16

/-! Rows of rows in a law: equal, marked, held. -/
set_option maxHeartbeats 2000000 in
theorem eqInt64SS_z (L : List (List Int)) (hl : L.length ≤ 4000000000) (hr : ∀ r ∈ L, r.length ≤ 4000000000) : ZCalls Try.prog 36 [zII L, zII L] (B true) := by
  refine ZCalls.body Try.func36 rfl Try.ntmps36 (rs := [.tmp 4]) rfl (by simp) rfl fun H Q hQ A hA => ?_
  have a0 := hA 0 _ _ rfl
  have a1 := hA 1 _ _ rfl
  clear hA
  repeat' first | refine rnY ?_ | with_reducible refine And.intro (fun hc => ?_) (fun hc => ?_) | fail
  refine AWp.cut (fun Ac hAc => ?_)
  have c0 := gtY (t := 0) hAc
  have c1 := gtY (t := 1) hAc
  have c5 := gtY (t := 5) hAc
  clear a0 a1
  refine AWp.loop (fun A' H' => ∃ (j : Nat), Ag [11, 12, 13, 14, 15, 16, 17, 18, 19, 20, 21, 22, 23, 24, 25, 26] A' (put Ac (some 5) (I j)) ∧ j ≤ L.length ∧ H' = H) (fun A' _ => L.length - (intV (A' 5)).toNat) ?_ ?_
  · exact ⟨0, agY, by omega, rfl⟩
  · rintro A1 H1 ⟨j, hA, hj, rfl⟩
    have d0 := gdY (t := 0) hA
    have d1 := gdY (t := 1) hA
    have d5 := gdY (t := 5) hA
    by_cases hlt : j < L.length
    · have he := eqInt64S_z (L.getD j []) (hr _ (by simp [hlt]))
      clear hr
      have hg : (L.map fun r => zI r)[j]? = some (zI (L.getD j [])) := by simp [hlt]
      repeat' first | refine rnY ?_ | with_reducible refine And.intro (fun hc => ?_) (fun hc => ?_) | fail
      refine AWp.zreg [(0, none), (1, none), (2, none), (3, none), (4, none), (5, none), (6, none), (7, none), (8, none), (9, none)] mixed (by kernel_rfl) ?_
      repeat' first | refine rzY ?_ | (first | refine ZCalls.to (he) ?_ | refine ZCalls.tf (he) ?_) | fail
      repeat' first | refine rnY ?_ | with_reducible refine And.intro (fun hc => ?_) (fun hc => ?_) | fail
      exact ⟨⟨j + 1, agY, by omega, rfl⟩, by exact ivY⟩
    · obtain rfl : j = L.length := by omega
      repeat' first | refine rnY ?_ | with_reducible refine And.intro (fun hc => ?_) (fun hc => ?_) | fail
      exact hQ.out _ _ (fv) (by exact exY)
/-- The marks of rows of rows. -/
def mkII (k : Int) : List (List Int) → List (List Int)
  | [] => []
  | l :: L => mkI k l.length :: mkII (k + l.length) L
def totN (L : List (List Int)) : Nat → Nat
  | 0 => 0
  | j + 1 => totN L j + (L.getD j []).length
theorem mkII_len : ∀ (L : List (List Int)) (k : Int), (mkII k L).length = L.length
  | [], _ => rfl
  | l :: L, k => by simp [mkII, mkII_len L]
theorem totN_cons (l : List Int) (L : List (List Int)) : ∀ j, totN (l :: L) (j + 1) = l.length + totN L j
  | 0 => by simp [totN]
  | j + 1 => by
    have ih := totN_cons l L j
    show totN (l :: L) (j + 1) + ((l :: L).getD (j + 1) []).length = _
    rw [ih]
    show _ = l.length + (totN L j + (L.getD j []).length)
    simp [Nat.add_assoc]
theorem mkII_get : ∀ (L : List (List Int)) (k : Int) (j : Nat), j < L.length → (mkII k L).getD j [] = mkI (k + totN L j) (L.getD j []).length
  | [], _, j, h => by simp at h
  | l :: L, k, 0, _ => by simp [mkII, totN]
  | l :: L, k, j + 1, h => by
    have ih := mkII_get L (k + l.length) j (by simpa using h)
    rw [totN_cons]
    show (mkII (k + l.length) L).getD j [] = _
    rw [ih]
    show mkI (k + l.length + (totN L j : Int)) (L.getD j []).length = mkI (k + ((l.length + totN L j : Nat) : Int)) (L.getD j []).length
    rw [Int.natCast_add, Int.add_assoc]
theorem totN_le {L : List (List Int)} {B : Nat} (h : ∀ r ∈ L, r.length ≤ B) : ∀ j, totN L j ≤ j * B
  | 0 => by simp [totN]
  | j + 1 => by
    have ih := totN_le h j
    have : (L.getD j []).length ≤ B := by
      by_cases hj : j < L.length
      · exact h _ (by simp [hj])
      · rw [List.getD_eq_getElem?_getD, List.getElem?_eq_none (by omega)]; simp
    unfold totN
    rw [Nat.succ_mul]; omega
set_option maxHeartbeats 2000000 in
theorem heldInt64SS_z (L : List (List Int)) (k : Int) (hl : L.length ≤ 1000000) (hr : ∀ r ∈ L, r.length ≤ 1000000) (h0 : 0 ≤ k) (hk : k ≤ 1099511627776) : ZCalls Try.prog 38 [zII (mkII k L), I k] (I (k + totN L L.length)) := by
  have hml := mkII_len L k
  have hmg := mkII_get L k
  have htl := totN_le hr
  generalize mkII k L = M at *
  refine ZCalls.body Try.func38 rfl Try.ntmps38 (rs := [.tmp 4]) rfl (by simp) rfl fun H Q hQ A hA => ?_
  have a0 := hA 0 _ _ rfl
  have a1 := hA 1 _ _ rfl
  clear hA
  repeat' first | refine rnY ?_ | with_reducible refine And.intro (fun hc => ?_) (fun hc => ?_) | fail
  refine AWp.cut (fun Ac hAc => ?_)
  have c0 := gtY (t := 0) hAc
  have c1 := gtY (t := 1) hAc
  have c5 := gtY (t := 5) hAc
  clear a0 a1
  refine AWp.loop (fun A' H' => ∃ (j : Nat), Ag [6, 7, 8, 9, 10, 11, 12, 13, 14, 15, 16, 17, 18, 19] A' (put (put Ac (some 1) (I (k + totN L j))) (some 5) (I j)) ∧ j ≤ L.length ∧ H' = H) (fun A' _ => L.length - (intV (A' 5)).toNat) ?_ ?_
  · have e0 : totN L 0 = 0 := rfl
    exact ⟨0, agY, by omega, rfl⟩
  · rintro A1 H1 ⟨j, hA, hj, rfl⟩
    have d0 := gdY (t := 0) hA
    have d1 := gdY (t := 1) hA
    have d5 := gdY (t := 5) hA
    by_cases hlt : j < L.length
    · have ht := htl j
      have hjb : j * 1000000 ≤ 1000000 * 1000000 := Nat.mul_le_mul_right _ (by omega)
      have hrl := hr (L.getD j []) (by simp [hlt])
      have hg : (M.map fun r => zI r)[j]? = some (zI (mkI (k + totN L j) (L.getD j []).length)) := by
        rw [← hmg j hlt]; simp [show j < M.length by omega]
      have hst : totN L (j + 1) = totN L j + (L.getD j []).length := rfl
      generalize (L.getD j []).length = n at *
      generalize totN L j = t at *
      have hh := heldInt64S_z n (k + t) (by omega) (by omega) (by omega)
      have hnn : decide (k + (t : Int) + (n : Int) < 0) = false := decide_eq_false (by omega)
      clear hmg htl hr
      repeat' first | refine rnY ?_ | (first | refine ZCalls.to (hh) ?_ | refine ZCalls.tf (hh) ?_) | with_reducible refine And.intro (fun hc => ?_) (fun hc => ?_) | fail
      exact ⟨⟨j + 1, by rw [hst, Int.natCast_add, ← Int.add_assoc]; exact agY, by omega, rfl⟩, by exact ivY⟩
    · obtain rfl : j = L.length := by omega
      clear hmg htl hr
      repeat' first | refine rnY ?_ | with_reducible refine And.intro (fun hc => ?_) (fun hc => ?_) | fail
      exact hQ.out _ _ (fv) (by exact exY)
theorem OwnL.split {lo : Nat} {H : Heap} {rs2 : List Value} : ∀ {rs1 vs : List Value} {ks : List (Nat × Blk)}, OwnL false lo H vs (rs1 ++ rs2) ks → ∃ vs1 vs2 k1 k2, vs = vs1 ++ vs2 ∧ OwnL false lo H vs1 rs1 k1 ∧ OwnL false lo H vs2 rs2 k2 ∧ (∀ k ∈ k1, ∀ k' ∈ k2, k.1 ≠ k'.1) ∧ ks = k1 ++ k2
  | [], vs, ks, h => ⟨[], vs, [], ks, rfl, .nil, h, fun k hk => (by cases hk), rfl⟩
  | r :: rs1, vs, ks, h => by
    obtain ⟨v, vs', ka, kb, rfl, h1, h2, hd, rfl⟩ := OwnL.cons_inv (rs := rs1 ++ rs2) h
    obtain ⟨vs1, vs2, k1, k2, rfl, h3, h4, hd2, rfl⟩ := OwnL.split h2
    refine ⟨v :: vs1, vs2, ka ++ k1, k2, rfl, OwnL.append (vs := [v]) (rs := [r]) h1 h3 (fun k hk k' hk' => hd k hk k' (List.mem_append_left _ hk')), h4, fun k hk k' hk' => ?_, by rw [List.append_assoc]⟩
    rcases List.mem_append.1 hk with hk | hk
    · exact hd k hk k' (List.mem_append_right _ hk')
    · exact hd2 k hk k' hk'
theorem SameK.trans {k1 k2 k3 : List (Nat × Blk)} (a : SameK k1 k2) (b : SameK k2 k3) : SameK k1 k3 := Eq.trans a b
theorem SameK.app {a b a' b' : List (Nat × Blk)} (h : SameK a a') (g : SameK b b') : SameK (a ++ b) (a' ++ b') := by
  unfold SameK at *; rw [List.map_append, List.map_append, h, g]
/-- One row among rows is marked. -/
theorem mark_mid {lo : Nat} {H : Heap} {A B : List (List Int)} {l : List Int} {vs : List Value} {ks : List (Nat × Blk)} (h : OwnL false lo H vs ((A ++ l :: B).map fun r => zI r) ks) (hb : ∀ k ∈ ks, k.1 < H.size) :
    ∃ v km, vs[A.length]? = some v ∧ OwnL false lo H [v] [zI l] km ∧ (∀ k ∈ km, ∃ k' ∈ ks, k'.1 = k.1) ∧ ∀ H' m km', Chg km H H' → OwnL false lo H' [v] [zI m] km' → SameK km km' → ∃ ks', OwnL false lo H' vs ((A ++ m :: B).map fun r => zI r) ks' ∧ SameK ks ks' := by
  rw [List.map_append, List.map_cons] at h
  obtain ⟨vs1, vs2, k1, k2, rfl, h1, h2, hd, rfl⟩ := OwnL.split h
  obtain ⟨v, vs3, k3, k4, rfl, h3, h4, hd2, rfl⟩ := OwnL.cons_inv (rs := B.map fun r => zI r) h2
  have hl := h1.len
  rw [List.length_map] at hl
  refine ⟨v, k3, by rw [List.getElem?_append_right (by omega), hl, Nat.sub_self]; rfl, h3, fun k hk => ⟨k, List.mem_append_right _ (List.mem_append_left _ hk), rfl⟩, fun H' m km' hc ho hs => ?_⟩
  have g1 := h1.chg (fun k hk => hb k (List.mem_append_left _ hk)) hc (fun x hx y hy e => hd y hy x (List.mem_append_left _ hx) e.symm)
  have g4 := h4.chg (fun k hk => hb k (List.mem_append_right _ (List.mem_append_right _ hk))) hc (fun x hx y hy => hd2 x hx y hy)
  have inK : ∀ k ∈ km', ∃ k' ∈ k3, k'.1 = k.1 := fun k hk => hs.mem k hk
  have g34 := OwnL.append ho g4 (fun k hk k' hk' e => by
    obtain ⟨q, q1, q2⟩ := inK k hk
    exact hd2 q q1 k' hk' (q2.trans e))
  have g := OwnL.append g1 g34 (fun k hk k' hk' e => by
    rcases List.mem_append.1 hk' with hk' | hk'
    · obtain ⟨q, q1, q2⟩ := inK k' hk'
      exact hd k hk q (List.mem_append_left _ q1) (e.trans q2.symm)
    · exact hd k hk k' (List.mem_append_right _ hk') e)
  refine ⟨_, ?_, SameK.app (rfl : SameK k1 k1) (hs.app (rfl : SameK k4 k4))⟩
  rw [List.map_append, List.map_cons]
  exact g
set_option maxHeartbeats 4000000 in
theorem markInt64SS_m {H : Heap} {lo : Nat} {v : Value} {L : List (List Int)} {k : Int} {ks : List (Nat × Blk)} (hO : OwnL false lo H [v] [zII L] ks) (hb : ∀ x ∈ ks, x.1 < H.size) (hl : L.length ≤ 1000000) (hr : ∀ r ∈ L, r.length ≤ 1000000) (h0 : 0 ≤ k) (hk : k ≤ 1099511627776) :
    ACalls Try.prog 37 [v, I k] H fun u H' => u = I (k + totN L L.length) ∧ Chg ks H H' ∧ H'.size = H.size ∧ ∃ ks', OwnL false lo H' [v] [zII (mkII k L)] ks' ∧ SameK ks ks' := by
  have htl := totN_le hr
  have hml := mkII_len L k
  have hmg := mkII_get L k
  rcases hO.shape with ⟨q1, q2, q3⟩ | ⟨g, o, c, ds, k1, rfl, q4, q5, q6, q7, q8, q9, rfl⟩
  · obtain rfl : L = [] := List.length_eq_zero_iff.1 q1
    have e0 : totN [] 0 = 0 := rfl
    have hO' := hO
    rcases q3 with rfl | rfl
    all_goals
      refine ACalls.body Try.func37 rfl Try.ntmps37 (rs := [.tmp 4]) rfl (by simp) rfl fun Q hQ A hA => ?_
      have a0 := hA 0 _ _ rfl
      have a1 := hA 1 _ _ rfl
      clear hA
      repeat' first | refine rnY ?_ | with_reducible refine And.intro (fun hc => ?_) (fun hc => ?_) | fail
      refine AWp.cut (fun Ac hAc => ?_)
      have c0 := gtY (t := 0) hAc
      have c1 := gtY (t := 1) hAc
      have c5 := gtY (t := 5) hAc
      clear a0 a1
      refine AWp.loop (fun A' H' => ∃ _ : Unit, Ag [6, 7, 8, 9, 10, 11, 12, 13, 14, 15, 16, 17] A' (put (put Ac (some 1) (I k)) (some 5) (I 0)) ∧ H' = H) (fun A' _ => 0) ?_ ?_
      · exact ⟨(), agY, rfl⟩
      · rintro A1 H1 ⟨_, hA, rfl⟩
        have d0 := gdY (t := 0) hA
        have d1 := gdY (t := 1) hA
        have d5 := gdY (t := 5) hA
        repeat' first | refine rnY ?_ | with_reducible refine And.intro (fun hc => ?_) (fun hc => ?_) | fail
        exact hQ.out _ _ ⟨by simp [totN], Chg.refl _ _, rfl, _, hO', rfl⟩
  · have hlog : lo ≤ g := (hO.get _ (List.mem_cons_self ..)).1
    have hkb : ∀ x ∈ k1, x.1 < H.size := fun x hx => hb x (List.mem_cons_of_mem _ hx)
    have hgb : g < H.size := hb _ (List.mem_cons_self ..)
    have q6' : (L.map fun r => zI r).length = L.length := List.length_map _
    have hvl : ((ds.drop o).take (L.length * 1)).length = L.length := by rw [List.length_take, List.length_drop]; omega
    have hvg : ∀ j, j < L.length → ((ds.drop o).take (L.length * 1))[j]? = ds[o + j]? := fun j hj => by
      rw [List.getElem?_take_of_lt (by omega), List.getElem?_drop]
    have hfin : ∀ H2 k2, OwnL false lo H2 ((ds.drop o).take (L.length * 1)) ((mkII k L).map fun r => zI r) k2 → SameK k1 k2 → H2.get g = .cells ds 1 false → OwnL false lo H2 [.slice (some ⟨g, o, none⟩) L.length c] [zII (mkII k L)] ((g, .cells ds 1 false) :: (k2 ++ [])) := fun H2 k2 hh hs hg => by
      unfold Zed.zII Zed.zL
      rw [hml]
      exact OwnL.own hlog hg q5 (by rw [List.length_map, hml]; omega) q7 hh .nil (fun x hx => by
        rw [List.append_nil] at hx
        obtain ⟨y, y1, y2⟩ := hs.mem x hx
        rw [← y2]; exact q9 y y1) (fun x _ y hy => by cases hy)
    have htk : ∀ j, j < L.length → (mkII k L).take (j + 1) ++ L.drop (j + 1) = (mkII k L).take j ++ mkI (k + totN L j) (L.getD j []).length :: L.drop (j + 1) := fun j hj => by
      have := hmg j hj
      rw [List.take_succ_eq_append_getElem (by omega), List.append_assoc, ← this]
      simp [show j < (mkII k L).length by omega]
    have hdk : ∀ j, j < L.length → (mkII k L).take j ++ L.drop j = (mkII k L).take j ++ L.getD j [] :: L.drop (j + 1) := fun j hj => by
      rw [List.drop_eq_getElem_cons hj]; simp [hj]
    have hal : ∀ j, j < L.length → ((mkII k L).take j).length = j := fun j hj => by rw [List.length_take]; omega
    have h00 : (mkII k L).take 0 ++ L.drop 0 = L := rfl
    have hnn : (mkII k L).take L.length ++ L.drop L.length = mkII k L := by rw [← hml, List.take_length, List.drop_of_length_le (by omega), List.append_nil]
    generalize (ds.drop o).take (L.length * 1) = vs at *
    generalize mkII k L = M at *
    clear hmg q7 q6 hO hb
    refine ACalls.body Try.func37 rfl Try.ntmps37 (rs := [.tmp 4]) rfl (by simp) rfl fun Q hQ A hA => ?_
    have a0 := hA 0 _ _ rfl
    have a1 := hA 1 _ _ rfl
    clear hA
    repeat' first | refine rnY ?_ | with_reducible refine And.intro (fun hc => ?_) (fun hc => ?_) | fail
    refine AWp.cut (fun Ac hAc => ?_)
    have c0 := gtY (t := 0) hAc
    have c1 := gtY (t := 1) hAc
    have c5 := gtY (t := 5) hAc
    clear a0 a1
    refine AWp.loop (fun A' H' => ∃ (j : Nat) (k2 : List (Nat × Blk)), Ag [6, 7, 8, 9, 10, 11, 12, 13, 14, 15, 16, 17] A' (put (put Ac (some 1) (I (k + totN L j))) (some 5) (I j)) ∧ j ≤ L.length ∧ H'.get g = .cells ds 1 false ∧ H'.size = H.size ∧ Chg k1 H H' ∧ OwnL false lo H' vs ((M.take j ++ L.drop j).map fun r => zI r) k2 ∧ SameK k1 k2) (fun A' _ => L.length - (intV (A' 5)).toNat) ?_ ?_
    · have e0 : totN L 0 = 0 := rfl
      exact ⟨0, k1, agY, by omega, q4, rfl, Chg.refl _ _, by rw [h00]; exact q8, rfl⟩
    · rintro A1 H1 ⟨j, k2, hA, hj, hg, hsz, hch, hown, hsk⟩
      have d0 := gdY (t := 0) hA
      have d1 := gdY (t := 1) hA
      have d5 := gdY (t := 5) hA
      by_cases hlt : j < L.length
      · have hrl := hr (L.getD j []) (by simp [hlt])
        have htj := htl j
        have hjb : j * 1000000 ≤ 1000000 * 1000000 := Nat.mul_le_mul_right _ (by omega)
        have htk := htk j hlt
        have hst : totN L (j + 1) = totN L j + (L.getD j []).length := rfl
        rw [hdk j hlt] at hown
        have hk2b : ∀ x ∈ k2, x.1 < H1.size := fun x hx => by
          obtain ⟨y, y1, y2⟩ := hsk.mem x hx
          have := hkb y y1; omega
        obtain ⟨w, km, hw1, hw2, hw3, hw4⟩ := mark_mid hown hk2b
        rw [hal j hlt, hvg j hlt] at hw1
        have hgk : ∀ x ∈ km, x.1 ≠ g := fun x hx e => by
          obtain ⟨y, y1, y2⟩ := hw3 x hx
          obtain ⟨z, z1, z2⟩ := hsk.mem y y1
          exact q9 z z1 (z2.trans (y2.trans e))
        have hkw : ∀ x ∈ km, ∃ y ∈ k1, y.1 = x.1 := fun x hx => by
          obtain ⟨y, y1, y2⟩ := hw3 x hx
          obtain ⟨z, z1, z2⟩ := hsk.mem y y1
          exact ⟨z, z1, z2.trans y2⟩
        clear hdk hown htl hfin hr hvg hal h00 hnn hk2b hw3 q8
        generalize L.getD j [] = l at *
        generalize totN L j = t at *
        have hm := markInt64S_m (k := k + t) hw2 (by omega) (by omega) (by omega)
        repeat' first | refine rnY ?_ | (refine hm.mono ?_; rintro u H2 ⟨rfl, hc2, hs2, km', ho2, hsk2⟩) | with_reducible refine And.intro (fun hc => ?_) (fun hc => ?_) | fail
        obtain ⟨k3, ho3, hs3⟩ := hw4 H2 _ km' hc2 ho2 hsk2
        exact ⟨⟨j + 1, k3, by rw [hst, Int.natCast_add, ← Int.add_assoc]; exact agY, by omega, (hc2.get g (by omega) fun x hx => hgk x hx).trans hg, by omega, hch.trans (hc2.wide hkw), by rw [htk]; exact ho3, hsk.trans hs3⟩, by exact ivY⟩
      · obtain rfl : j = L.length := by omega
        rw [hnn] at hown
        have hf := hfin H1 k2 hown hsk hg
        clear htl hfin hr hvg hal h00 hnn hdk htk q8 hown
        repeat' first | refine rnY ?_ | with_reducible refine And.intro (fun hc => ?_) (fun hc => ?_) | fail
        refine hQ.out _ _ ⟨rfl, hch.wide fun x hx => ⟨x, List.mem_cons_of_mem _ hx, rfl⟩, hsz, _, hf, ?_⟩
        rw [List.append_nil]
        unfold SameK at *
        rw [List.map_cons, List.map_cons, hsk]
theorem markInt64SS_b {H : Heap} {lo hi : Nat} {v : Value} {L : List (List Int)} {k : Int} (hO : OwnB lo hi H [v] [zII L]) (hs : hi ≤ H.size) (hl : L.length ≤ 1000000) (hr : ∀ r ∈ L, r.length ≤ 1000000) (h0 : 0 ≤ k) (hk : k ≤ 1099511627776) :
    ACalls Try.prog 37 [v, I k] H fun u H' => u = I (k + totN L L.length) ∧ ExtR lo hi H H' ∧ OwnB lo hi H' [v] [zII (mkII k L)] := by
  obtain ⟨ks, hL, hb⟩ := hO.in
  refine (markInt64SS_m hL (fun x hx => by have := hb x hx; omega) hl hr h0 hk).mono ?_
  rintro u H' ⟨rfl, q1, q2, ks', q3, q4⟩
  refine ⟨rfl, q1.toR hb, ks', q3, fun k hk => ?_⟩
  obtain ⟨k', r1, r2⟩ := q4.mem k hk
  rw [← r2]; exact (hb k' r1).2
end Go.Proofs.Ytmoknllbpjpkmaa.Zed
namespace Go.Proofs.Ytmoknllbpjpkmaa.Zed
open Go TP
set_option linter.unusedVariables false
set_option linter.unusedSimpArgs false
set_option maxRecDepth 20000
namespace tfY17
theorem tf : (Try.prog.underlying 25 = some (.slice 2)) ∧ (el Try.prog 25 = some (none, 1)) ∧ (Try.prog.underlying 51 = some (.slice 25)) ∧ (el Try.prog 51 = some (none, 1)) ∧ (tk Try.prog 2 = some none) ∧ (tk Try.prog 25 = some none) ∧ (tk Try.prog 51 = some none) ∧ (cz Try.prog 2 = some 1) ∧ (bz Try.prog 2 = some 8) ∧ (cz Try.prog 25 = some 1) ∧ (bz Try.prog 25 = some 24) ∧ (zr Try.prog 2 = some (.int .i64 0)) ∧ (zr Try.prog 25 = some (.slice none 0 0)) := by
  refine ⟨?_, ?_, ?_, ?_, ?_, ?_, ?_, ?_, ?_, ?_, ?_, ?_, ?_⟩ <;> kernel_rfl
end tfY17
open tfY17

theorem range_get {H : Heap} {g n : Nat} {cs : List Value} (hg : H.get g = .cells cs 1 false) (hn : cs.length = n) : H.range g 0 n = some cs := by
  unfold Heap.range
  rw [hg]
  simp [← hn]
/-- One row more behind rows of one's own. -/
theorem appR {H : Heap} {b k : Nat} {cs : List Value} {w : Value} {K : Value → Heap → Prop} (hg : H.get b = .cells cs 1 false) (hk : cs.length = k) (hw : w.oneCell' = true) (hb : k ≤ 1000000) (h : K (.slice (some ⟨H.size, 0, none⟩) (k + 1) 0) ((H.set b .dead).push (.cells (cs ++ [w]) 1 false))) :
    appendK Try.prog 51 51 (.slice (some ⟨b, 0, none⟩) k 0) (FZ 1 1 [w]) H K := by
  have hel : el Try.prog 51 = some (none, 1) := rfl
  have hu : Try.prog.underlying 51 = some (.slice 25) := rfl
  have hc : cz Try.prog 25 = some 1 := rfl
  have hbz : bz Try.prog 25 = some 24 := rfl
  have hz : zr Try.prog 25 = some (.slice none 0 0) := rfl
  unfold appendK appsK
  simp only [hu, hc, hbz, hz, hel, hg]
  refine ⟨by omega, by omega, rfl, rfl, rfl, rfl, ?_, trivial, trivial, by omega, fun q => by omega, fun _ => ⟨by omega, ?_⟩⟩
  · intro v hv
    rw [List.mem_singleton.1 hv]; exact hw
  · rw [List.drop_zero, Nat.mul_one, List.take_of_length_le (by omega)]; exact h
theorem appR0 {H : Heap} {w : Value} {K : Value → Heap → Prop} (hw : w.oneCell' = true) (h : K (.slice (some ⟨H.size, 0, none⟩) 1 0) (H.push (.cells [w] 1 false))) :
    appendK Try.prog 51 51 (.slice none 0 0) (FZ 1 1 [w]) H K := by
  have hel : el Try.prog 51 = some (none, 1) := rfl
  have hu : Try.prog.underlying 51 = some (.slice 25) := rfl
  have hc : cz Try.prog 25 = some 1 := rfl
  have hbz : bz Try.prog 25 = some 24 := rfl
  have hz : zr Try.prog 25 = some (.slice none 0 0) := rfl
  unfold appendK appsK
  simp only [hu, hc, hbz, hz, hel]
  refine ⟨by omega, by omega, rfl, rfl, rfl, rfl, ?_, by omega, fun q => by omega, fun _ => h⟩
  intro v hv
  rw [List.mem_singleton.1 hv]; exact hw
theorem cloneW_c {H : Heap} {g c : Nat} {l : List Int} (hg : H.get g = .cells (ints l) 1 false) (hgs : g < H.size) (hl : l.length ≤ 1000) : ACalls Try.prog 79 [.slice (some ⟨g, 0, none⟩) l.length c] H fun r H' => ∃ b' c', r = .slice (some ⟨b', 0, none⟩) l.length c' ∧ Ext H H' ∧ OwnB H.size H'.size H' [r] [zI l] := by
  by_cases h0 : l.length = 0
  · have hn0 : l = [] := List.eq_nil_of_length_eq_zero h0
    subst hn0
    have his : ∀ a : Addr, (some a).isNone = false := fun _ => rfl
    refine ACalls.body Try.func79 rfl Try.ntmps79 (rs := [.tmp 2]) rfl (by simp) rfl fun Q hQ A hA => ?_
    have a0 := hA 0 _ _ rfl
    clear hA
    repeat' first | refine rnY ?_ | with_reducible refine And.intro (fun hc => ?_) (fun hc => ?_) | fail
    exact hQ.out _ _ ⟨_, _, rfl, by exact exY, OwnB.ints (by omega) (by simp only [nx]; omega) rfl (get_push_eq rfl)⟩
  · have his : ∀ a : Addr, (some a).isNone = false := fun _ => rfl
    refine ACalls.body Try.func79 rfl Try.ntmps79 (rs := [.tmp 2]) rfl (by simp) rfl fun Q hQ A hA => ?_
    have a0 := hA 0 _ _ rfl
    clear hA
    repeat' first | refine rnY ?_ | with_reducible refine And.intro (fun hc => ?_) (fun hc => ?_) | fail
    exact hQ.out _ _ ⟨_, _, rfl, by exact exY, OwnB.ints (by omega) (by simp only [nx]; omega) rfl (get_push_eq (by simp only [nx]))⟩
/-- The variable at bm holds rows of one's own: R. -/
def RowsB (z bm : Nat) (R : List (List Int)) (H : Heap) : Prop :=
  (R = [] ∧ H.get bm = .cells [.slice none 0 0] 1 false) ∨
  ∃ b cs ks, H.get bm = .cells [.slice (some ⟨b, 0, none⟩) R.length 0] 1 false ∧ z ≤ b ∧ b < H.size ∧ H.get b = .cells cs 1 false ∧ cs.length = R.length ∧ OwnL false z H cs (R.map fun r => zI r) ks ∧ ∀ x ∈ ks, x.1 < H.size ∧ x.1 ≠ b
theorem RowsB.keep {z bm g : Nat} {R : List (List Int)} {H H' : Heap} (h : RowsB z bm R H) (hbm : bm < H.size) (hbg : bm ≠ g) (hgz : g < z) (hs : H.size ≤ H'.size) (hk : ∀ b, b < H.size → b ≠ g → H'.get b = H.get b) : RowsB z bm R H' := by
  rcases h with ⟨h1, h2⟩ | ⟨b, cs, ks, h1, h2, h3, h5, h6, h7, h8⟩
  · exact .inl ⟨h1, (hk bm hbm hbg).trans h2⟩
  · refine .inr ⟨b, cs, ks, (hk bm hbm hbg).trans h1, h2, by omega, (hk b h3 (by omega)).trans h5, h6, h7.keep (.inl rfl) (Nat.le_refl _) fun k hk' => ?_, fun x hx => ⟨by have := (h8 x hx).1; omega, (h8 x hx).2⟩⟩
    have h9 := (h7.get k hk')
    rw [hk k.1 (h8 k hk').1 (by have := h9.1; omega)]
    exact h9.2
/-- A row of one's own goes behind. -/
theorem RowsB.snoc {z bm : Nat} {R : List (List Int)} {r : List Int} {H H1 : Heap} {cs : List Value} {ks : List (Nat × Blk)} {w : Value}
    (hbz : bm < z) (hzh : z ≤ H.size)
    (hcs : cs.length = R.length) (h7 : OwnL false z H cs (R.map fun r => zI r) ks) (h8 : ∀ x ∈ ks, x.1 < H.size)
    (hw : OwnB H.size H1.size H1 [w] [zI r]) (hs1 : H.size ≤ H1.size) (hk1 : ∀ x ∈ ks, H1.get x.1 = H.get x.1) {H2 : Heap} (hs2 : H2.size = H1.size + 1) (hg2 : H2.get H1.size = .cells (cs ++ [w]) 1 false) (hb2 : H2.get bm = .cells [.slice (some ⟨H1.size, 0, none⟩) (R.length + 1) 0] 1 false)
    (hk2 : ∀ x ∈ ks, H2.get x.1 = H1.get x.1) (hk3 : ∀ x, H.size ≤ x → x < H1.size → H2.get x = H1.get x) : RowsB z bm (R ++ [r]) H2 := by
  obtain ⟨k2, q1, q2⟩ := hw.in
  refine .inr ⟨H1.size, cs ++ [w], ks ++ k2, ?_, by omega, by omega, hg2, by simp [hcs], ?_, fun x hx => ?_⟩
  · rw [hb2]; simp
  · rw [List.map_append]
    refine OwnL.append (h7.keep (.inl rfl) (Nat.le_refl _) fun k hk => ?_) (rs := R.map fun r => zI r) (ss := [zI r]) (q1.keep (.inl rfl) (by omega) fun k hk => ?_) (fun k hk k' hk' e => ?_)
    · rw [hk2 k hk, hk1 k hk]; exact (h7.get k hk).2
    · rw [hk3 k.1 (q2 k hk).1 (q2 k hk).2]; exact (q1.get k hk).2
    · have := (h8 k hk); have := (q2 k' hk').1; omega
  · rcases List.mem_append.1 hx with hx | hx
    · have := h8 x hx; exact ⟨by omega, by omega⟩
    · have := q2 x hx; exact ⟨by omega, by omega⟩
set_option maxHeartbeats 4000000 in
theorem poVisit_c {H : Heap} {z bm g : Nat} {R : List (List Int)} {u : List Int} (hbm : bm < z) (hbmg : bm ≠ g) (hzh : z ≤ H.size) (hgz : g < z) (hR : RowsB z bm R H) (hRl : R.length ≤ 1000) (hgu : H.get g = .cells (ints u) 1 false) (hl : u.length ≤ 1000) :
    ACalls Try.prog 78 [.slice (some ⟨g, 0, none⟩) u.length (u.length + 1), .pointer (some ⟨bm, 0, none⟩)] H fun r H' => r = B (decide (((R.length + 1 : Nat) : Int) ≤ 400)) ∧ H.size ≤ H'.size ∧ RowsB z bm (R ++ [u]) H' ∧ ∀ x, x < z → x ≠ bm → H'.get x = H.get x := by
  have hg : g < H.size := by omega
  have hbms : bm < H.size := by omega
  have hcl := cloneW_c (c := u.length + 1) hgu hg hl
  rcases hR with ⟨rfl, hb⟩ | ⟨b, cs, ks, h1, h2, h3, h5, h6, h7, h8⟩
  · refine ACalls.body Try.func78 rfl Try.ntmps78 (rs := [.tmp 3]) rfl (by simp) rfl fun Q hQ A hA => ?_
    have a0 := hA 0 _ _ rfl
    have a1 := hA 1 _ _ rfl
    clear hA
    repeat' first | refine rnY ?_ | with_reducible refine And.intro (fun hc => ?_) (fun hc => ?_) | fail
    refine AWp.zreg [(0, none), (1, none), (2, some []), (3, none), (4, some [0]), (5, some [0])] mixed (by kernel_rfl) ?_
    repeat' first | refine rzY ?_ | (refine hcl.mono ?_; rintro w H1 ⟨b', c', rfl, he, hO⟩; have hone := hO.one; have heg := he.get; have hes := he.size; (try simp only [nx] at hes); refine hgY ?_) | (refine appR0 rfl ?_; refine hgY ?_) | fail
    repeat' first | refine rnY ?_ | with_reducible refine And.intro (fun hc => ?_) (fun hc => ?_) | fail
    have hs := RowsB.snoc (z := z) (bm := bm) (R := []) (r := u) (cs := []) (ks := []) hbm hzh rfl .nil (fun x hx => by cases hx) hO hes (fun x hx => by cases hx) (H2 := (H1.set bm (.cells [.slice (some ⟨H1.size, 0, none⟩) 1 0] 1 false)).push (.cells [.slice (some ⟨b', 0, none⟩) u.length c'] 1 false)) rfl (get_push_eq rfl) ((get_push_lt (by simp only [nx]; omega)).trans get_set_eq) (fun x hx => by cases hx) (fun x hx1 hx2 => (get_push_lt (by simp only [nx]; omega)).trans (get_set_ne (by omega)))
    exact hQ.out _ _ ⟨rfl, by simp only [nx]; omega, hs, fun x hx hn => (get_push_lt (by simp only [nx]; omega)).trans ((get_set_ne hn).trans (heg x (by omega)))⟩
  · have hbmb : bm ≠ b := by omega
    have hgb : g ≠ b := by omega
    refine ACalls.body Try.func78 rfl Try.ntmps78 (rs := [.tmp 3]) rfl (by simp) rfl fun Q hQ A hA => ?_
    have a0 := hA 0 _ _ rfl
    have a1 := hA 1 _ _ rfl
    clear hA
    repeat' first | refine rnY ?_ | with_reducible refine And.intro (fun hc => ?_) (fun hc => ?_) | fail
    refine AWp.zreg [(0, none), (1, none), (2, some []), (3, none), (4, some [0]), (5, some [0])] mixed (by kernel_rfl) ?_
    repeat' first | refine rzY ?_ | (refine hcl.mono ?_; rintro w H1 ⟨b', c', rfl, he, hO⟩; have hone := hO.one; have heg := he.get; have hes := he.size; (try simp only [nx] at hes); refine hgY ?_) | (refine appR ((heg b h3).trans h5) h6 rfl (by omega) ?_; refine hgY ?_) | fail
    repeat' first | refine rnY ?_ | with_reducible refine And.intro (fun hc => ?_) (fun hc => ?_) | fail
    have hhb : H1.size ≤ H1.size := Nat.le_refl _
    have hs := RowsB.snoc (z := z) (bm := bm) (R := R) (r := u) (cs := cs) (ks := ks) hbm hzh h6 h7 (fun x hx => (h8 x hx).1) hO hes (fun x hx => heg x.1 (h8 x hx).1) (H2 := (((H1.set b .dead).set bm (.cells [.slice (some ⟨H1.size, 0, none⟩) (R.length + 1) 0] 1 false)).push (.cells (cs ++ [.slice (some ⟨b', 0, none⟩) u.length c']) 1 false))) rfl (get_push_eq rfl) ((get_push_lt (by simp only [nx]; omega)).trans get_set_eq) (fun x hx => ?_) (fun x hx1 hx2 => (get_push_lt (by simp only [nx]; omega)).trans ((get_set_ne (by omega)).trans (get_set_ne (by omega))))
    · exact hQ.out _ _ ⟨rfl, by simp only [nx]; omega, hs, fun x hx hn => (get_push_lt (by simp only [nx]; omega)).trans ((get_set_ne hn).trans ((get_set_ne (by omega)).trans (heg x (by omega))))⟩
    · have hx8 := h8 x hx
      have hxz := (h7.get x hx).1
      exact (get_push_lt (by simp only [nx]; omega)).trans ((get_set_ne (by omega)).trans (get_set_ne hx8.2))
end Go.Proofs.Ytmoknllbpjpkmaa.Zed
namespace Go.Proofs.Ytmoknllbpjpkmaa.Zed
open Go TP
set_option linter.unusedVariables false
set_option linter.unusedSimpArgs false
set_option maxRecDepth 20000
namespace tfY18
theorem tf : (Try.prog.underlying 25 = some (.slice 2)) ∧ (el Try.prog 25 = some (none, 1)) ∧ (Try.prog.underlying 51 = some (.slice 25)) ∧ (el Try.prog 51 = some (none, 1)) ∧ (tk Try.prog 2 = some none) ∧ (tk Try.prog 25 = some none) ∧ (tk Try.prog 31 = some (some 1)) ∧ (tk Try.prog 51 = some none) ∧ (cz Try.prog 2 = some 1) ∧ (bz Try.prog 2 = some 8) ∧ (cz Try.prog 25 = some 1) ∧ (bz Try.prog 25 = some 24) ∧ (zr Try.prog 2 = some (.int .i64 0)) ∧ (zr Try.prog 25 = some (.slice none 0 0)) ∧ (zr Try.prog 51 = some (.slice none 0 0)) := by
  refine ⟨?_, ?_, ?_, ?_, ?_, ?_, ?_, ?_, ?_, ?_, ?_, ?_, ?_, ?_, ?_⟩ <;> kernel_rfl
end tfY18
open tfY18

/-- Rows and a code. -/
abbrev iiV (L : List (List Int)) (c : Int) : Value := .tuple #[zII L, I c]
/-- What PartsOf answers. -/
def poV (T : List (List (Int × Int))) (v : List Int) : Value :=
  if scT T v = 0 then (if (PT T v).length ≤ 400 then iiV (PT T v) 0 else iiV [] 3) else iiV [] (scT T v)
theorem two_nil {H : Heap} (k : Int) : OwnB H.size H.size H [.tuple #[.slice none 0 0, I k]] [iiV [] k] :=
  OwnB.tup (l := [.slice none 0 0, I k]) (l' := [zII [], I k]) (.cflats (OwnB.nilr 1) (fun x hx => by simp at hx; subst hx; rfl))
theorem RowsB.own {z bm : Nat} {R : List (List Int)} {H : Heap} (h : RowsB z bm R H) (hz : z ≤ H.size) : (R = [] ∧ H.get bm = .cells [.slice none 0 0] 1 false) ∨ ∃ b, H.get bm = .cells [.slice (some ⟨b, 0, none⟩) R.length 0] 1 false ∧ OwnB z H.size H [.slice (some ⟨b, 0, none⟩) R.length 0] [zII R] := by
  rcases h with ⟨h1, h2⟩ | ⟨b, cs, ks, h1, h2, h3, h5, h6, h7, h8⟩
  · exact .inl ⟨h1, h2⟩
  · refine .inr ⟨b, h1, (b, .cells cs 1 false) :: (ks ++ []), ?_, fun x hx => ?_⟩
    · exact OwnL.own h2 h5 (by omega) (by rw [List.length_map]; omega) (h7.nf fun x hx => by obtain ⟨y, _, rfl⟩ := List.mem_map.1 hx; rfl) (by rw [List.drop_zero, List.take_of_length_le (by omega)]; exact h7) .nil (fun x hx => (h8 x (by simpa using hx)).2) (fun x _ y hy => by cases hy)
    · rw [List.append_nil] at hx
      rcases List.mem_cons.1 hx with rfl | hx
      · exact h3
      · exact (h8 x hx).1
set_option maxHeartbeats 4000000 in
theorem implPartsOf_o {T : List (List (Int × Int))} (hl : T.length ≤ 1048576) (v : List Int) (hv : v.length ≤ 1048576) : OCalls Try.prog 35 [zT T, zI v] (poV T v) := by
  have hc := splitCode_z hl v hv
  unfold poV
  by_cases h : scT T v = 0
  · rw [if_pos h]
    obtain ⟨h1, h2, h3⟩ := scT_ok h
    have h6 := codeN_six h1
    have hb := nrI_bd h2.1
    have hvl : v.length ≤ 42 := by have := h2.1.1; omega
    rw [h] at hc
    have hnn := nonneg_mem fun j => (hb j).1
    have hpm : ∀ (k : Nat) (u : List Int), (PT T v)[k]? = some u → u.length = v.length := fun k u h => ((PL_mem hnn).1 (List.mem_of_getElem? h)).1.1
    have hpp := fun H0 bm (hbm : bm < H0.size) (hb0 : H0.get bm = .cells [.slice none 0 0] 1 false) => parts_g (codeN_ok h1) h6 h2.1.1 hb 78 (.pointer (some ⟨bm, 0, none⟩)) (H := H0)
      (fun g k H1 => H0.size ≤ g ∧ g < H1.size ∧ RowsB (g + 1) bm ((PT T v).take k) H1 ∧ (∀ x, x < H0.size → x ≠ bm → H1.get x = H0.get x) ∧ k ≤ 400 ∧ k ≤ (PT T v).length)
      (fun k H1 => H0.size ≤ H1.size ∧ (∃ z, H0.size ≤ z ∧ z ≤ H1.size ∧ RowsB z bm ((PT T v).take (k + 1)) H1) ∧ (∀ x, x < H0.size → x ≠ bm → H1.get x = H0.get x) ∧ 400 < k + 1 ∧ k + 1 ≤ (PT T v).length)
      (fun g k H1 H2 ⟨j1, j2, j3, j4, j5⟩ hs hk => ⟨j1, by omega, j3.keep (g := g) (by omega) (by omega) (by omega) hs hk, fun x hx hn => (hk x (by omega) (by omega)).trans (j4 x hx hn), j5⟩)
      (fun g H1 hx h1 h2 => ⟨h1, h2, .inl ⟨rfl, (hx.get bm hbm).trans hb0⟩, fun x hx1 _ => hx.get x hx1, by omega, by omega⟩)
      (fun H1 g k u hu hJ hgs hgz hgu => by
        obtain ⟨j1, j2, j3, j4, j5, j6⟩ := hJ
        have hul := hpm k u hu
        obtain ⟨hk1, hk2⟩ := List.getElem?_eq_some_iff.1 hu
        have htl : ((PT T v).take k).length = k := by rw [List.length_take]; omega
        have htk : (PT T v).take (k + 1) = (PT T v).take k ++ [u] := by rw [List.take_succ_eq_append_getElem hk1, hk2]
        rw [← hul]
        refine (poVisit_c (z := g + 1) (bm := bm) (g := g) (by omega) (by omega) (by omega) (by omega) j3 (by omega) hgu (by omega)).mono ?_
        rintro r H2 ⟨rfl, p1, p2, p3⟩
        rw [htl]
        have hold : ∀ x, x < H0.size → x ≠ bm → H2.get x = H0.get x := fun x hx hn => (p3 x (by omega) hn).trans (j4 x hx hn)
        rw [← htk] at p2
        refine ⟨_, rfl, p1, fun x hx1 hx2 => p3 x (by omega) (by omega), ?_⟩
        by_cases hkk : (((k + 1 : Nat) : Int) ≤ 400)
        · exact .inl ⟨decide_eq_true hkk, j1, by omega, p2, hold, by omega, by omega⟩
        · exact .inr ⟨decide_eq_false hkk, by omega, ⟨g + 1, by omega, by omega, p2⟩, hold, by omega, by omega⟩)
    have hlen : (PT T v).length ≤ 20000 := Nat.le_trans (List.length_filter_le _ _) h3
    clear hpm hnn h
    have hfull : (PT T v).take (PT T v).length = PT T v := List.take_length
    have htl : ∀ k, k ≤ (PT T v).length → ((PT T v).take k).length = k := fun k hk => by rw [List.length_take]; omega
    generalize PT T v = P at *
    clear h3 h2 h1 h6 hb
    refine OCalls.body Try.func35 rfl Try.ntmps35 (rs := [.tmp 4, .tmp 5]) rfl (by simp) rfl fun H Q hQ A hA => ?_
    have a0 := hA 0 _ _ rfl
    have a1 := hA 1 _ _ rfl
    clear hA
    have hbm0 : H.size < (H.push (.cells [.slice none 0 0] 1 false)).size := by simp only [nx]; omega
    repeat' first | refine rnY ?_ | (first | refine ZCalls.to (hc) ?_ | refine ZCalls.tf (hc) ?_) | (refine (hpp _ H.size (by simp only [nx]; omega) (by exact ivY)).mono ?_; clear hpp; rintro r H1 ⟨rfl, ⟨g, j1, j2, j3, j4, j5, j6⟩ | ⟨k, j1, ⟨z, j2, j7, j3⟩, j4, j5, j6⟩⟩) | with_reducible refine And.intro (fun hc => ?_) (fun hc => ?_) | fail
    · have hE : Ext H H1 := ⟨by simp only [nx] at j1; omega, fun b hb => (j4 b (by simp only [nx]; omega) (by omega)).trans (get_push_lt hb)⟩
      rw [hfull] at j3
      rw [if_pos j5] at hQ
      rcases j3.own (by omega) with ⟨rfl, hg⟩ | ⟨b, hg, hO⟩
      · clear j3 j4 hfull htl
        repeat' first | refine rnY ?_ | with_reducible refine And.intro (fun hc => ?_) (fun hc => ?_) | fail
        exact hQ.out _ _ ((two_nil (H := H1) 0).wide (lo' := H.size) (by simp only [nx] at j1; omega) (Nat.le_refl _)).out (by exact exY)
      · clear j3 j4 hfull htl
        repeat' first | refine rnY ?_ | with_reducible refine And.intro (fun hc => ?_) (fun hc => ?_) | fail
        exact hQ.out _ _ (OwnB.tup (l := [_, I 0]) (l' := [zII P, I 0]) (.cflats (hO.wide (lo' := H.size) (by simp only [nx] at j1; omega) (Nat.le_refl _)) (fun x hx => by simp at hx; subst hx; rfl))).out (by exact exY)
    · have hE : Ext H H1 := ⟨by simp only [nx] at j1; omega, fun b hb => (j4 b (by simp only [nx]; omega) (by omega)).trans (get_push_lt hb)⟩
      have htk := htl (k + 1) j6
      rw [if_neg (by omega)] at hQ
      rcases j3.own (by omega) with ⟨h0, hg⟩ | ⟨b, hg, hO⟩
      · rw [h0] at htk; exact absurd htk (by simp)
      · rw [htk] at hg
        clear j3 j4 hfull htl htk hO
        repeat' first | refine rnY ?_ | with_reducible refine And.intro (fun hc => ?_) (fun hc => ?_) | fail
        exact hQ.out _ _ ((two_nil (H := H1) 3).wide (lo' := H.size) (by simp only [nx] at j1; omega) (Nat.le_refl _)).out (by exact exY)
  · rw [if_neg h]
    have hcb : (scT T v == 0) = false := by rw [beq_eq_false_iff_ne]; exact h
    generalize scT T v = k at *
    clear h
    refine OCalls.body Try.func35 rfl Try.ntmps35 (rs := [.tmp 4, .tmp 5]) rfl (by simp) rfl fun H Q hQ A hA => ?_
    have a0 := hA 0 _ _ rfl
    have a1 := hA 1 _ _ rfl
    clear hA
    repeat' first | refine rnY ?_ | (first | refine ZCalls.to (hc) ?_ | refine ZCalls.tf (hc) ?_) | with_reducible refine And.intro (fun hc => ?_) (fun hc => ?_) | fail
    exact hQ.out _ _ ((two_nil k).out) (by exact exY)
set_option maxHeartbeats 4000000 in
theorem specPartsOf_z {T : List (List (Int × Int))} (hl : T.length ≤ 1048576) (v : List Int) (hv : v.length ≤ 1048576) : ZCalls Try.prog 34 [zT T, zI v] (poV T v) := by
  have hc := l20Code_z hl v hv
  unfold poV
  by_cases h : scT T v = 0
  · rw [if_pos h]
    obtain ⟨h1, h2, h3⟩ := scT_ok h
    have h6 := codeN_six h1
    have hb := nrI_bd h2.1
    have hvl : v.length ≤ 42 := by have := h2.1.1; omega
    have hp := l20Parts_z (codeN_ok h1) h6 h2.1.1 hb (by omega)
    have hlen : (PT T v).length ≤ 20000 := Nat.le_trans (List.length_filter_le _ _) h3
    rw [h] at hc
    clear h h1 h2 h3 hb
    generalize PT T v = P at *
    by_cases h4 : P.length ≤ 400
    · rw [if_pos h4]
      refine ZCalls.body Try.func34 rfl Try.ntmps34 (rs := [.tmp 4, .tmp 5]) rfl (by simp) rfl fun H Q hQ A hA => ?_
      have a0 := hA 0 _ _ rfl
      have a1 := hA 1 _ _ rfl
      clear hA
      repeat' first | refine rnY ?_ | (first | refine ZCalls.to (hc) ?_ | refine ZCalls.tf (hc) ?_) | (first | refine ZCalls.to (hp) ?_ | refine ZCalls.tf (hp) ?_) | with_reducible refine And.intro (fun hc => ?_) (fun hc => ?_) | fail
      exact hQ.out _ _ (.eq (Cl.tuple (l := [zII P, I 0]) (Cl.cons (Cl.zII _) (Cl.cons (Cl.int _ _) Cl.nil))) rfl) (by exact exY)
    · rw [if_neg h4]
      refine ZCalls.body Try.func34 rfl Try.ntmps34 (rs := [.tmp 4, .tmp 5]) rfl (by simp) rfl fun H Q hQ A hA => ?_
      have a0 := hA 0 _ _ rfl
      have a1 := hA 1 _ _ rfl
      clear hA
      repeat' first | refine rnY ?_ | (first | refine ZCalls.to (hc) ?_ | refine ZCalls.tf (hc) ?_) | (first | refine ZCalls.to (hp) ?_ | refine ZCalls.tf (hp) ?_) | with_reducible refine And.intro (fun hc => ?_) (fun hc => ?_) | fail
      exact hQ.out _ _ ((two_nil 3).fin) (by exact exY)
  · rw [if_neg h]
    have hcb : (scT T v == 0) = false := by rw [beq_eq_false_iff_ne]; exact h
    generalize scT T v = k at *
    clear h
    refine ZCalls.body Try.func34 rfl Try.ntmps34 (rs := [.tmp 4, .tmp 5]) rfl (by simp) rfl fun H Q hQ A hA => ?_
    have a0 := hA 0 _ _ rfl
    have a1 := hA 1 _ _ rfl
    clear hA
    repeat' first | refine rnY ?_ | (first | refine ZCalls.to (hc) ?_ | refine ZCalls.tf (hc) ?_) | with_reducible refine And.intro (fun hc => ?_) (fun hc => ?_) | fail
    exact hQ.out _ _ ((two_nil k).fin) (by exact exY)
theorem poV_ok (T : List (List (Int × Int))) (v : List Int) (hv : v.length ≤ 1048576) : ∃ L c, poV T v = iiV L c ∧ L.length ≤ 1000 ∧ ∀ r ∈ L, r.length ≤ 1000 := by
  unfold poV
  split
  · rename_i h0
    split
    · rename_i h4
      obtain ⟨h1, h2, h3⟩ := scT_ok h0
      have hb := nrI_bd h2.1
      have h6 := codeN_six h1
      refine ⟨_, _, rfl, by omega, fun r hr => ?_⟩
      have := ((PL_mem (nonneg_mem fun j => (hb j).1)).1 hr).1.1
      have := h2.1.1
      omega
    · exact ⟨_, _, rfl, by simp, by simp⟩
  · exact ⟨_, _, rfl, by simp, by simp⟩
end Go.Proofs.Ytmoknllbpjpkmaa.Zed
namespace Go.Proofs.Ytmoknllbpjpkmaa.Zed
open Go TP
set_option linter.unusedVariables false
set_option linter.unusedSimpArgs false
set_option maxRecDepth 20000
namespace tfY19
theorem tf : (Try.prog.underlying 25 = some (.slice 2)) ∧ (el Try.prog 25 = some (none, 1)) ∧ (Try.prog.underlying 51 = some (.slice 25)) ∧ (el Try.prog 51 = some (none, 1)) ∧ (tk Try.prog 2 = some none) ∧ (tk Try.prog 24 = some (some 1)) ∧ (tk Try.prog 25 = some none) ∧ (tk Try.prog 31 = some (some 1)) ∧ (cz Try.prog 2 = some 1) ∧ (bz Try.prog 2 = some 8) ∧ (cz Try.prog 25 = some 1) ∧ (bz Try.prog 25 = some 24) ∧ (zr Try.prog 2 = some (.int .i64 0)) ∧ (zr Try.prog 25 = some (.slice none 0 0)) ∧ (zr Try.prog 31 = some (.agg #[.slice none 0 0])) := by
  refine ⟨?_, ?_, ?_, ?_, ?_, ?_, ?_, ?_, ?_, ?_, ?_, ?_, ?_, ?_, ?_⟩ <;> kernel_rfl
end tfY19
open tfY19

theorem ii_shape {lo hi : Nat} {H : Heap} {u : Value} {c : Int} {L : List (List Int)} (h : OwnB lo hi H [u] [iiV L c]) : ∃ v, u = .tuple #[v, I c] ∧ OwnB lo hi H [v] [zII L] ∧ v.oneCell' = true := by
  obtain ⟨l, rfl, h1⟩ := OwnB.tup_inv (l' := [zII L, I c]) h
  obtain ⟨u, l2, rfl, h2, h3⟩ := h1.cons_inv
  obtain ⟨l3, rfl, h4⟩ := OwnB.flat_inv (r := I c) rfl h3
  obtain rfl := h4.nil_inv
  exact ⟨u, rfl, h2, h2.one⟩
set_option maxHeartbeats 8000000 in
theorem lawPartsOf_z {T : List (List (Int × Int))} (hS : Short T 9223372036854775807) (y : List Int) (hy : y.length ≤ 9223372036854775807) : ZCalls Try.prog 8 [zT T, zI y] (B true) := by
  by_cases hy1 : (y.length : Int) > 1048576
  · refine ZCalls.body Try.func8 rfl Try.ntmps8 (rs := [.tmp 4]) rfl (by simp) rfl fun H Q hQ A hA => ?_
    have a0 := hA 0 _ _ rfl
    have a1 := hA 1 _ _ rfl
    clear hA
    repeat' first | refine rnY ?_ | with_reducible refine And.intro (fun hc => ?_) (fun hc => ?_) | fail
    exact hQ.out _ _ (fv) (by exact exY)
  obtain ⟨s, h1, h2, h3, h4⟩ := szTriangulation_z hS
  by_cases hs : s < 0
  · refine ZCalls.body Try.func8 rfl Try.ntmps8 (rs := [.tmp 4]) rfl (by simp) rfl fun H Q hQ A hA => ?_
    have a0 := hA 0 _ _ rfl
    have a1 := hA 1 _ _ rfl
    clear hA
    repeat' first | refine rnY ?_ | (first | refine ZCalls.to (h4) ?_ | refine ZCalls.tf (h4) ?_) | with_reducible refine And.intro (fun hc => ?_) (fun hc => ?_) | fail
    exact hQ.out _ _ (fv) (by exact exY)
  · have hS' := h1 (by omega)
    have hy' : y.length ≤ 1048576 := by omega
    have hsp := specPartsOf_z (T := T) hS'.1 y hy'
    have him := implPartsOf_o (T := T) hS'.1 y hy'
    obtain ⟨L, c, hV, hL, hLr⟩ := poV_ok T y hy'
    have hr4 : ∀ r ∈ L, r.length ≤ 4000000000 := fun r hr => Nat.le_trans (hLr r hr) (by decide)
    have hr6 : ∀ r ∈ L, r.length ≤ 1000000 := fun r hr => Nat.le_trans (hLr r hr) (by decide)
    rw [hV] at hsp him
    have him2 := him.toZ (Cl.cons (Cl.zT T) (Cl.cons (Cl.zI y) Cl.nil))
    have hto1 := toTriangulation_z hS'
    have hto3 := toTriangulation_z hS'
    have hton := fun H => (toTriangulation_o hS').lend (H := H) (.cl (Cl.zT T) .nil)
    have hti1 := toInt64S_z (l := y) hy'
    have hti3 := toInt64S_z (l := y) hy'
    have htin := fun H => (toInt64S_o (l := y) hy').lend (H := H) (.cl (Cl.zI y) .nil)
    have heq := eqInt64SS_z L (by omega) hr4
    have heq2 := heq
    have heq3 := heq
    have heT := eqTriangulation_z hS'
    have heY := eqInt64S_z y (by omega)
    have hcc : (c == c) = true := beq_self_eq_true c
    clear h1 hV
    refine ZCalls.body Try.func8 rfl Try.ntmps8 (rs := [.tmp 4]) rfl (by simp) rfl fun H Q hQ A hA => ?_
    have a0 := hA 0 _ _ rfl
    have a1 := hA 1 _ _ rfl
    clear hA
    have hheld := heldInt64SS_z L 1 (by omega) hr6 (by omega) (by omega)
    have htot := totN_le hLr L.length
    have htot2 : L.length * 1000 ≤ 1000 * 1000 := Nat.mul_le_mul_right _ (by omega)
    clear hLr hr4
    have hmb : markN T T.length ≤ 2199023255552 := by have h1 := markN_le T hS' T.length (Nat.le_refl _); have h2 := hS'.1; omega
    have hmN : ¬ (1 + (markN T T.length : Int) + y.length < 0) := by omega
    have hln : (0 : Int) ≤ totN L L.length ∧ (totN L L.length : Int) ≤ 1000000 := by omega
    repeat' first | refine rnY ?_ | (first | refine ZCalls.to (h4) ?_ | refine ZCalls.tf (h4) ?_) | (refine ZCalls.to hto1 ?_; clear hto1) | (refine ZCalls.to hti1 ?_; clear hti1) | (first | refine ZCalls.to (hsp) ?_ | refine ZCalls.tf (hsp) ?_) | (refine (hton _).mono ?_; rintro x0 H0 ⟨hx0, he0⟩; clear hton; obtain ⟨x, rfl, hxo⟩ := tri_shape hx0; have he0g := he0.get; have he0s := he0.size; (try simp only [nx] at he0s)) | (refine (htin _).mono ?_; rintro y0 HY ⟨hy0, hey⟩; clear htin; have hyo := hy0.one; have heyg := hey.get; have heys := hey.size; (try simp only [nx] at heys)) | (refine (him.lend (.ownB (hx0.ext (Nat.le_refl _) (by exact exY)) (.ownB (hy0.ext (Nat.le_refl _) (by exact exY)) .nil))).mono ?_; rintro u H1 ⟨hg0, he1⟩; clear him; obtain ⟨g, rfl, hg, hgo⟩ := ii_shape hg0; clear hg0; have he1g := he1.get; have he1s := he1.size; (try simp only [nx] at he1s)) | (refine (heq.lend rfl (.ownB (hg.ext (Nat.le_refl _) (by exact exY)) (.cl (Cl.zII L) .nil))).mono ?_; rintro u H2 ⟨rfl, he2⟩; clear heq; have he2g := he2.get; have he2s := he2.size; (try simp only [nx] at he2s)) | with_reducible refine And.intro (fun hc => ?_) (fun hc => ?_) | fail
    refine AWp.zreg [(0, none), (1, none), (2, none), (3, some [0, 1]), (4, none)] mixed (by kernel_rfl) ?_
    repeat' first | refine rzY ?_ | (first | refine ZCalls.to (hto3) ?_ | refine ZCalls.tf (hto3) ?_) | (refine (heT.lend rfl (.ownB (hx0.ext (Nat.le_refl _) (by exact exY)) (.cl (Cl.zT T) .nil))).mono ?_; rintro u H3 ⟨rfl, he3⟩; have he3g := he3.get; have he3s := he3.size; (try simp only [nx] at he3s); refine hgY ?_) | fail
    repeat' first | refine rnY ?_ | (first | refine ZCalls.to (hto3) ?_ | refine ZCalls.tf (hto3) ?_) | (first | refine ZCalls.to (hti3) ?_ | refine ZCalls.tf (hti3) ?_) | (first | refine ZCalls.to (him2) ?_ | refine ZCalls.tf (him2) ?_) | (first | refine ZCalls.to (heq3) ?_ | refine ZCalls.tf (heq3) ?_) | (refine (heY.lend rfl (.ownB (hy0.ext (Nat.le_refl _) (by exact exY)) (.cl (Cl.zI y) .nil))).mono ?_; rintro u H9 ⟨rfl, he9⟩; clear heY; have he9g := he9.get; have he9s := he9.size; (try simp only [nx] at he9s)) | (refine (markTriangulation_m (hx0.ext (Nat.le_refl _) (by exact exY)) (by exact sdY) hS' (by omega) (by omega)).mono ?_; rintro u H4 ⟨rfl, hm4⟩; have hg4 := OwnB.extR (hg.ext (Nat.le_refl _) (by exact exY)) (by exact sdY) hm4 (.inr (by exact sdY)); have hy4 := OwnB.extR (hy0.ext (Nat.le_refl _) (by exact exY)) (by exact sdY) hm4 (.inr (by exact sdY)); have hE4 := Ext.viaR (show Ext H _ from by exact exY) hm4 (by exact sdY); clear hx0; have hm4g := hm4.get; have hm4s := hm4.size; (try simp only [nx] at hm4s)) | (refine (markInt64S_b (hy4.ext (by exact sdY) (by exact exY)) (by omega) (by omega) (by omega)).mono ?_; rintro u H8 ⟨rfl, hm8, hy8⟩; have hg8 := OwnB.extR (hg4.ext (by exact sdY) (by exact exY)) (by exact sdY) hm8 (.inr (by exact sdY)); have hE8 := Ext.viaR (show Ext H _ from by exact exY) hm8 (by exact sdY); clear hy4 hg4; have hm8g := hm8.get; have hm8s := hm8.size; (try simp only [nx] at hm8s)) | (refine (heq2.lend rfl (.ownB (hg8.ext (by exact sdY) (by exact exY)) (.cl (Cl.zII L) .nil))).mono ?_; rintro u H5 ⟨rfl, he5⟩; clear heq2; have he5g := he5.get; have he5s := he5.size; (try simp only [nx] at he5s)) | (refine (markInt64SS_b (hg8.ext (by exact sdY) (by exact exY)) (by exact sdY) (by omega) hr6 (by omega) (by omega)).mono ?_; rintro u H6 ⟨rfl, hm6, hg6⟩; have hE6 := Ext.viaR (show Ext H _ from by exact exY) hm6 (by exact sdY); clear hg8; have hm6g := hm6.get; have hm6s := hm6.size; (try simp only [nx] at hm6s)) | (refine (hheld.lend rfl (.ownB (hg6.ext (by exact sdY) (by exact exY)) (.cl (Cl.int _ _) .nil))).mono ?_; rintro u H7 ⟨rfl, he7⟩; have he7g := he7.get; have he7s := he7.size; (try simp only [nx] at he7s)) | with_reducible refine And.intro (fun hc => ?_) (fun hc => ?_) | fail
    exact hQ.out _ _ (fv) (by exact exY)
end Go.Proofs.Ytmoknllbpjpkmaa.Zed
