/- A part of the walk: what functions of the program do, over an abstract heap. -/
import Derived.Test.YtmoknllbpjpkmaaW23
import Derived.Test.YtmoknllbpjpkmaaZedF
namespace Go.Proofs.Ytmoknllbpjpkmaa.Zed
open Go TP
set_option linter.unusedVariables false
set_option linter.unusedSimpArgs false
set_option maxRecDepth 20000
namespace tfX1
theorem tf : (Try.prog.underlying 25 = some (.slice 2)) ∧ (el Try.prog 25 = some (none, 1)) ∧ (Try.prog.underlying 29 = some (.slice 102)) ∧ (el Try.prog 29 = some (none, 1)) ∧ (Try.prog.underlying 102 = some (.slice 107)) ∧ (el Try.prog 102 = some (none, 2)) ∧ (tk Try.prog 2 = some none) ∧ (tk Try.prog 29 = some none) ∧ (tk Try.prog 102 = some none) ∧ (tk Try.prog 107 = some (some 2)) ∧ (cz Try.prog 2 = some 1) ∧ (bz Try.prog 2 = some 8) ∧ (cz Try.prog 102 = some 1) ∧ (bz Try.prog 102 = some 24) ∧ (cz Try.prog 107 = some 2) ∧ (bz Try.prog 107 = some 16) ∧ (zr Try.prog 2 = some (.int .i64 0)) ∧ (zr Try.prog 102 = some (.slice none 0 0)) ∧ (zr Try.prog 107 = some (.agg #[.int .i64 0, .int .i64 0])) ∧ (fo Try.prog 31 0 = some (0, none)) ∧ (fo Try.prog 107 0 = some (0, none)) ∧ (fo Try.prog 107 1 = some (1, none)) := by
  refine ⟨?_, ?_, ?_, ?_, ?_, ?_, ?_, ?_, ?_, ?_, ?_, ?_, ?_, ?_, ?_, ?_, ?_, ?_, ?_, ?_, ?_, ?_⟩ <;> kernel_rfl
end tfX1
open tfX1

set_option maxHeartbeats 1000000 in
theorem eqInt64S_z (l : List Int) (hl : l.length ≤ 4000000000) : ZCalls Try.prog 19 [zI l, zI l] (B true) := by
  refine ZCalls.body Try.func19 rfl Try.ntmps19 (rs := [.tmp 4]) rfl (by simp) rfl fun H Q hQ A hA => ?_
  have a0 := hA 0 _ _ rfl
  have a1 := hA 1 _ _ rfl
  clear hA
  repeat' first | refine rnY ?_ | with_reducible refine And.intro (fun hc => ?_) (fun hc => ?_) | fail
  refine AWp.cut (fun Ac hAc => ?_)
  have c0 := gtY (t := 0) hAc
  have c1 := gtY (t := 1) hAc
  have c5 := gtY (t := 5) hAc
  clear a0 a1
  refine AWp.loop (fun A' H' => ∃ (j : Nat), Ag [11, 12, 13, 14, 15, 16, 17, 18, 19, 20, 21, 22, 23, 24, 25] A' (put Ac (some 5) (I j)) ∧ j ≤ l.length ∧ H' = H) (fun A' _ => l.length - (intV (A' 5)).toNat) ?_ ?_
  · exact ⟨0, agY, by omega, rfl⟩
  · rintro A1 H1 ⟨j, hA, hj, rfl⟩
    have d0 := gdY (t := 0) hA
    have d1 := gdY (t := 1) hA
    have d5 := gdY (t := 5) hA
    by_cases hlt : j < l.length
    · repeat' first | refine rnY ?_ | with_reducible refine And.intro (fun hc => ?_) (fun hc => ?_) | fail
      refine AWp.zreg [(0, none), (1, none), (2, none), (3, none), (4, none), (5, none), (6, none), (7, none), (8, none)] mixed (by kernel_rfl) ?_
      repeat' first | refine rzY ?_ | fail
      repeat' first | refine rnY ?_ | with_reducible refine And.intro (fun hc => ?_) (fun hc => ?_) | fail
      exact ⟨⟨j + 1, agY, by omega, rfl⟩, by exact ivY⟩
    · obtain rfl : j = l.length := by omega
      repeat' first | refine rnY ?_ | with_reducible refine And.intro (fun hc => ?_) (fun hc => ?_) | fail
      exact hQ.out _ _ (fv) (by exact exY)
set_option maxHeartbeats 1000000 in
theorem heldInt64S_z (n : Nat) (k : Int) (hn : n ≤ 4000000000) (h0 : 0 ≤ k) (hk : k ≤ 4611686018427387904) : ZCalls Try.prog 26 [zI (mkI k n), I k] (I (k + n)) := by
  have hl := mkI_len k n
  have hg := mkI_get k n
  generalize mkI k n = l at *
  subst hl
  refine ZCalls.body Try.func26 rfl Try.ntmps26 (rs := [.tmp 4]) rfl (by simp) rfl fun H Q hQ A hA => ?_
  have a0 := hA 0 _ _ rfl
  have a1 := hA 1 _ _ rfl
  clear hA
  repeat' first | refine rnY ?_ | with_reducible refine And.intro (fun hc => ?_) (fun hc => ?_) | fail
  refine AWp.cut (fun Ac hAc => ?_)
  have c0 := gtY (t := 0) hAc
  have c1 := gtY (t := 1) hAc
  have c5 := gtY (t := 5) hAc
  clear a0 a1
  refine AWp.loop (fun A' H' => ∃ (j : Nat), Ag [6, 7, 8, 9, 10, 11, 12, 13, 14, 15, 16, 17, 18, 19] A' (put (put Ac (some 1) (I (k + j))) (some 5) (I j)) ∧ j ≤ l.length ∧ H' = H) (fun A' _ => l.length - (intV (A' 5)).toNat) ?_ ?_
  · exact ⟨0, agY, by omega, rfl⟩
  · rintro A1 H1 ⟨j, hA, hj, rfl⟩
    have d0 := gdY (t := 0) hA
    have d1 := gdY (t := 1) hA
    have d5 := gdY (t := 5) hA
    by_cases hlt : j < l.length
    · have hgj := hg j hlt
      clear hg
      have hkj : (k + (j : Int) == k + (j : Int)) = true := by rw [beq_self_eq_true]
      repeat' first | refine rnY ?_ | with_reducible refine And.intro (fun hc => ?_) (fun hc => ?_) | fail
      exact ⟨⟨j + 1, agY, by omega, rfl⟩, by exact ivY⟩
    · obtain rfl : j = l.length := by omega
      repeat' first | refine rnY ?_ | with_reducible refine And.intro (fun hc => ?_) (fun hc => ?_) | fail
      exact hQ.out _ _ (fv) (by exact exY)
theorem mark_step {ds : List Value} {o j : Nat} {k : Int} (h : o + j < ds.length) : (ds.take o ++ ints (mkI k j) ++ ds.drop (o + j)).set (o + j) (I (k + j)) = ds.take o ++ ints (mkI k (j + 1)) ++ ds.drop (o + (j + 1)) := by
  have hl : (ds.take o ++ ints (mkI k j)).length = o + j := by rw [List.length_append, List.length_take, ints_len, mkI_len]; omega
  rw [List.set_append, if_neg (by omega), hl, Nat.sub_self, List.drop_eq_getElem_cons h, List.set_cons_zero, mkI, ← cons_ints]
  simp [Nat.add_assoc]
set_option maxHeartbeats 1000000 in
theorem markRow_c {H : Heap} {g o n c : Nat} {ds : List Value} {k : Int} (hg : H.get g = .cells ds 1 false) (hl : o + n ≤ ds.length) (hn : n ≤ 4000000000) (h0 : 0 ≤ k) (hk : k ≤ 4611686018427387904) :
    ACalls Try.prog 25 [.slice (some ⟨g, o, none⟩) n c, I k] H fun u H' => u = I (k + n) ∧ H' = H.set g (.cells (ds.take o ++ ints (mkI k n) ++ ds.drop (o + n)) 1 false) := by
  refine ACalls.body Try.func25 rfl Try.ntmps25 (rs := [.tmp 4]) rfl (by simp) rfl fun Q hQ A hA => ?_
  have a0 := hA 0 _ _ rfl
  have a1 := hA 1 _ _ rfl
  clear hA
  repeat' first | refine rnY ?_ | with_reducible refine And.intro (fun hc => ?_) (fun hc => ?_) | fail
  refine AWp.cut (fun Ac hAc => ?_)
  have c0 := gtY (t := 0) hAc
  have c1 := gtY (t := 1) hAc
  have c5 := gtY (t := 5) hAc
  clear a0 a1
  refine AWp.loop (fun A' H' => ∃ (j : Nat), Ag [6, 7, 8, 9, 10, 11, 12, 13, 14, 15, 16, 17] A' (put (put Ac (some 1) (I (k + j))) (some 5) (I j)) ∧ j ≤ n ∧ H' = H.set g (.cells (ds.take o ++ ints (mkI k j) ++ ds.drop (o + j)) 1 false)) (fun A' _ => n - (intV (A' 5)).toNat) ?_ ?_
  · exact ⟨0, agY, by omega, by rw [set_self]; simp [mkI, ints, hg]⟩
  · rintro A1 H1 ⟨j, hA, hj, rfl⟩
    have d0 := gdY (t := 0) hA
    have d1 := gdY (t := 1) hA
    have d5 := gdY (t := 5) hA
    by_cases hlt : j < n
    · have hst := mark_step (ds := ds) (o := o) (j := j) (k := k) (by omega)
      have hlen : (ds.take o ++ ints (mkI k j) ++ ds.drop (o + j)).length = ds.length := by
        simp only [List.length_append, List.length_take, ints_len, mkI_len, List.length_drop]; omega
      generalize ds.take o ++ ints (mkI k j) ++ ds.drop (o + j) = es at *
      have zf0 := @set_set
      repeat' first | refine rnY ?_ | with_reducible refine And.intro (fun hc => ?_) (fun hc => ?_) | fail
      exact ⟨⟨j + 1, agY, by omega, by rw [← hst]⟩, by exact ivY⟩
    · obtain rfl : j = n := by omega
      repeat' first | refine rnY ?_ | with_reducible refine And.intro (fun hc => ?_) (fun hc => ?_) | fail
      exact hQ.out _ _ ⟨rfl, rfl⟩
theorem markNil_z (v : Value) (hv : v = .slice none 0 0 ∨ v = FZ 1 0 []) (k : Int) (H : Heap) : ACalls Try.prog 25 [v, I k] H fun u H' => u = I k ∧ H' = H := by
  rcases hv with rfl | rfl
  all_goals
    refine ACalls.body Try.func25 rfl Try.ntmps25 (rs := [.tmp 4]) rfl (by simp) rfl fun Q hQ A hA => ?_
    have a0 := hA 0 _ _ rfl
    have a1 := hA 1 _ _ rfl
    clear hA
    repeat' first | refine rnY ?_ | with_reducible refine And.intro (fun hc => ?_) (fun hc => ?_) | fail
    refine AWp.cut (fun Ac hAc => ?_)
    have c0 := gtY (t := 0) hAc
    have c1 := gtY (t := 1) hAc
    have c5 := gtY (t := 5) hAc
    clear a0 a1
    refine AWp.loop (fun A' H' => ∃ _ : Unit, Ag [6, 7, 8, 9, 10, 11, 12, 13, 14, 15, 16, 17] A' (put (put Ac (some 1) (I k)) (some 5) (I 0)) ∧ H' = H) (fun A' _ => 0) ?_ ?_
    · exact ⟨(), agY, rfl⟩
    · rintro A1 H1 ⟨_, hA, rfl⟩
      have d0 := gdY (t := 0) hA
      have d1 := gdY (t := 1) hA
      have d5 := gdY (t := 5) hA
      repeat' first | refine rnY ?_ | with_reducible refine And.intro (fun hc => ?_) (fun hc => ?_) | fail
      exact hQ.out _ _ ⟨rfl, rfl⟩
theorem markInt64S_m {H : Heap} {lo : Nat} {v : Value} {l : List Int} {k : Int} {ks : List (Nat × Blk)} (hO : OwnL false lo H [v] [zI l] ks) (hn : l.length ≤ 4000000000) (h0 : 0 ≤ k) (hk : k ≤ 4611686018427387904) :
    ACalls Try.prog 25 [v, I k] H fun u H' => u = I (k + l.length) ∧ Chg ks H H' ∧ H'.size = H.size ∧ ∃ ks', OwnL false lo H' [v] [zI (mkI k l.length)] ks' ∧ SameK ks ks' := by
  generalize hl : [v] = vs at hO
  generalize hl' : [zI l] = rs at hO
  cases hO with
  | nil => cases hl
  | flat h t => injection hl' with e _; rw [← e] at h; simp [Zed.flat, FZ] at h
  | nilr es t =>
    injection hl with e1 e2; injection hl' with e3 e4
    subst e1 e2 e4
    simp [FZ] at e3
    obtain ⟨rfl, e3, _⟩ := e3
    cases t
    rw [e3]
    refine (markNil_z _ (.inl rfl) k H).mono ?_
    rintro u H' ⟨rfl, rfl⟩
    exact ⟨by simp, Chg.refl _ _, rfl, _, .nilr 1 .nil, rfl⟩
  | fz0 es t =>
    injection hl with e1 e2; injection hl' with e3 e4
    subst e1 e2 e4
    simp [FZ] at e3
    obtain ⟨rfl, e3, _⟩ := e3
    cases t
    rw [e3]
    refine (markNil_z _ (.inr rfl) k H).mono ?_
    rintro u H' ⟨rfl, rfl⟩
    exact ⟨by simp, Chg.refl _ _, rfl, _, .fz0 1 .nil, rfl⟩
  | @own g o n c es cs rs l2 l2' k1 k2 hg hget hl2 hr hnf h1 h2 hd hd2 =>
    injection hl with e1 e2; injection hl' with e3 e4
    subst e1 e2 e4
    simp [FZ] at e3
    obtain ⟨rfl, rfl, rfl⟩ := e3
    cases h2
    refine (markRow_c (o := o) (n := l.length) (c := c) hget (by omega) hn h0 hk).mono ?_
    rintro u H' ⟨rfl, rfl⟩
    have hml := mkI_len k l.length
    have hk1 : k1 = [] := by
      clear hd hd2
      have hfl : ∀ {q : List Int} {vv : List Value} {kk : List (Nat × Blk)}, OwnL false lo H vv (ints q) kk → kk = [] := by
        intro q
        induction q with
        | nil => intro vv kk h; exact h.nil_inv.2
        | cons x q ih => intro vv kk h; obtain ⟨_, _, h⟩ := h.flat_inv rfl; exact ih h
      exact hfl h1
    subst hk1
    refine ⟨rfl, ⟨Nat.le_refl _, fun b _ hb => get_set_ne fun e => hb _ (List.mem_cons_self ..) e.symm⟩, rfl, ?_⟩
    have := OwnL.own (q := false) (lo := lo) (H := H.set g (.cells (cs.take o ++ ints (mkI k l.length) ++ cs.drop (o + l.length)) 1 false)) (g := g) (o := o) (n := l.length) (c := c) (es := 1) (rs := ints (mkI k l.length)) (k1 := []) (k2 := []) (l := []) (l' := []) hg get_set_eq (by
        simp only [List.length_append, List.length_take, ints_len, mkI_len, List.length_drop]; omega) (by rw [ints_len, mkI_len]; omega) (by
        intro x hx
        rcases List.mem_append.1 hx with hx | hx
        · rcases List.mem_append.1 hx with hx | hx
          · exact hnf x (List.mem_of_mem_take hx)
          · exact .flat (flat_ints _ x hx)
        · exact hnf x (List.mem_of_mem_drop hx)) (by
        have e : ((cs.take o ++ ints (mkI k l.length) ++ cs.drop (o + l.length)).drop o).take (l.length * 1) = ints (mkI k l.length) := by
          rw [List.append_assoc, List.drop_append_of_le_length (by rw [List.length_take]; omega), List.drop_of_length_le (by rw [List.length_take]; omega), List.nil_append, List.take_append_of_le_length (by rw [ints_len, mkI_len]; omega), List.take_of_length_le (by rw [ints_len, mkI_len]; omega)]
        rw [e]
        exact OwnL.flats (flat_ints _)) .nil (fun k hk => by cases hk) (fun k hk => by cases hk)
    unfold Zed.zI
    rw [hml]
    exact ⟨_, this, rfl⟩
  | gz hq => cases hq
  | gz0 hq => cases hq
  | agg => injection hl' with e _; simp [FZ] at e
  | tuple => injection hl' with e _; simp [FZ] at e
/-! Marks of a triangulation: what is written does not matter. -/
set_option maxHeartbeats 1000000 in
theorem markFaces_c {H : Heap} {g o n c : Nat} {ds : List Value} {k : Int} (hg : H.get g = .cells ds 2 false) (hl : o + n * 2 ≤ ds.length) (hn : n ≤ 1048576) (h0 : 0 ≤ k) (hk : k ≤ 4611686018427387904) :
    ACalls Try.prog 125 [.slice (some ⟨g, o, none⟩) n c, I k] H fun u H' => u = I (k + 2 * n) ∧ ∃ ds', ds'.length = ds.length ∧ H' = H.set g (.cells ds' 2 false) := by
  refine ACalls.body Try.func125 rfl Try.ntmps125 (rs := [.tmp 4]) rfl (by simp) rfl fun Q hQ A hA => ?_
  have a0 := hA 0 _ _ rfl
  have a1 := hA 1 _ _ rfl
  clear hA
  repeat' first | refine rnY ?_ | with_reducible refine And.intro (fun hc => ?_) (fun hc => ?_) | fail
  refine AWp.cut (fun Ac hAc => ?_)
  have c0 := gtY (t := 0) hAc
  have c1 := gtY (t := 1) hAc
  have c5 := gtY (t := 5) hAc
  clear a0 a1
  refine AWp.loop (fun A' H' => ∃ (j : Nat) (es : List Value), Ag [6, 7, 8, 9, 10, 11, 12, 13, 14, 15, 16, 17, 18, 19, 20, 21, 22, 23, 24, 25] A' (put (put Ac (some 1) (I (k + 2 * j))) (some 5) (I j)) ∧ j ≤ n ∧ es.length = ds.length ∧ H' = H.set g (.cells es 2 false)) (fun A' _ => n - (intV (A' 5)).toNat) ?_ ?_
  · exact ⟨0, ds, agY, by omega, rfl, by rw [set_self hg]⟩
  · rintro A1 H1 ⟨j, es, hA, hj, hes, rfl⟩
    have d0 := gdY (t := 0) hA
    have d1 := gdY (t := 1) hA
    have d5 := gdY (t := 5) hA
    by_cases hlt : j < n
    · have zf0 := @set_set
      repeat' first | refine rnY ?_ | with_reducible refine And.intro (fun hc => ?_) (fun hc => ?_) | fail
      exact ⟨⟨j + 1, _, agY, by omega, by simp [hes], rfl⟩, by exact ivY⟩
    · obtain rfl : j = n := by omega
      repeat' first | refine rnY ?_ | with_reducible refine And.intro (fun hc => ?_) (fun hc => ?_) | fail
      exact hQ.out _ _ ⟨rfl, es, hes, rfl⟩
theorem markFaceNil_c (v : Value) (hv : v = .slice none 0 0 ∨ v = FZ 2 0 []) (k : Int) (H : Heap) : ACalls Try.prog 125 [v, I k] H fun u H' => u = I k ∧ H' = H := by
  rcases hv with rfl | rfl
  all_goals
    refine ACalls.body Try.func125 rfl Try.ntmps125 (rs := [.tmp 4]) rfl (by simp) rfl fun Q hQ A hA => ?_
    have a0 := hA 0 _ _ rfl
    have a1 := hA 1 _ _ rfl
    clear hA
    repeat' first | refine rnY ?_ | with_reducible refine And.intro (fun hc => ?_) (fun hc => ?_) | fail
    refine AWp.cut (fun Ac hAc => ?_)
    have c0 := gtY (t := 0) hAc
    have c1 := gtY (t := 1) hAc
    have c5 := gtY (t := 5) hAc
    clear a0 a1
    refine AWp.loop (fun A' H' => ∃ _ : Unit, Ag [6, 7, 8, 9, 10, 11, 12, 13, 14, 15, 16, 17, 18, 19, 20, 21, 22, 23, 24, 25] A' (put (put Ac (some 1) (I k)) (some 5) (I 0)) ∧ H' = H) (fun A' _ => 0) ?_ ?_
    · exact ⟨(), agY, rfl⟩
    · rintro A1 H1 ⟨_, hA, rfl⟩
      have d0 := gdY (t := 0) hA
      have d1 := gdY (t := 1) hA
      have d5 := gdY (t := 5) hA
      repeat' first | refine rnY ?_ | with_reducible refine And.intro (fun hc => ?_) (fun hc => ?_) | fail
      exact hQ.out _ _ ⟨rfl, rfl⟩
/-- A row of pairs that may be written. -/
def RowW (S : Nat → Prop) (H : Heap) (v : Value) (n : Nat) : Prop := (n = 0 ∧ (v = .slice none 0 0 ∨ v = FZ 2 0 [])) ∨ ∃ g o c ds, v = .slice (some ⟨g, o, none⟩) n c ∧ S g ∧ H.get g = .cells ds 2 false ∧ o + n * 2 ≤ ds.length
theorem RowW.set {S : Nat → Prop} {H : Heap} {v : Value} {n b : Nat} {ds ds' : List Value} (h : RowW S H v n) (hb : H.get b = .cells ds 2 false) (hl : ds'.length = ds.length) : RowW S (H.set b (.cells ds' 2 false)) v n := by
  rcases h with h | ⟨g, o, c, es, h1, h2, h4, h5⟩
  · exact .inl h
  · by_cases e : g = b
    · subst e
      rw [hb] at h4
      injection h4 with h4
      subst h4
      exact .inr ⟨g, o, c, ds', h1, h2, get_set_eq, by omega⟩
    · exact .inr ⟨g, o, c, es, h1, h2, (get_set_ne e).trans h4, h5⟩
theorem markFaceS_m {S : Nat → Prop} {H : Heap} {n : Nat} {v : Value} {k : Int} (hv : RowW S H v n) (hn : n ≤ 1048576) (h0 : 0 ≤ k) (hk : k ≤ 4611686018427387904) :
    ACalls Try.prog 125 [v, I k] H fun u H' => u = I (k + 2 * n) ∧ (∀ b, ¬ S b → H'.get b = H.get b) ∧ H'.size = H.size ∧ ∀ w m, RowW S H w m → RowW S H' w m := by
  rcases hv with ⟨rfl, hv⟩ | ⟨g, o, c, ds, rfl, h2, h4, h5⟩
  · refine (markFaceNil_c v hv k H).mono ?_
    rintro u H' ⟨rfl, rfl⟩
    exact ⟨by simp, fun _ _ => rfl, rfl, fun _ _ h => h⟩
  · refine (markFaces_c h4 h5 hn h0 hk).mono ?_
    rintro u H' ⟨rfl, ds', hl, rfl⟩
    exact ⟨rfl, fun b hb => get_set_ne fun e => hb (e ▸ h2), rfl, fun w m h => h.set h4 hl⟩
def markN (T : List (List (Int × Int))) : Nat → Nat
  | 0 => 0
  | j + 1 => markN T j + 2 * (T.getD j []).length
theorem markN_le (T : List (List (Int × Int))) (hS : Short T 1048576) : ∀ j, j ≤ T.length → markN T j ≤ j * 2097152
  | 0, _ => Nat.zero_le _
  | j + 1, h => by
    have := markN_le T hS j (by omega)
    have := hS.2 j (by omega)
    simp only [markN]; omega
theorem rows_w {lo : Nat} {H : Heap} {S : Nat → Prop} : ∀ {T : List (List (Int × Int))} {vs : List Value} {ks : List (Nat × Blk)}, OwnL false lo H vs (T.map fun r => zP r) ks → (∀ k ∈ ks, S k.1) → ∀ j, j < T.length → ∃ v, vs[j]? = some v ∧ RowW S H v (T.getD j []).length
  | [], vs, ks, h, _, j, hj => by simp at hj
  | x :: T, vs, ks, h, hS, j, hj => by
    obtain ⟨v, vs', k1, k2, rfl, h1, h2, _, rfl⟩ := OwnL.cons_inv (rs := T.map fun r => zP r) h
    cases j with
    | zero =>
      refine ⟨v, rfl, ?_⟩
      rcases h1.shape with ⟨q1, q2, q3⟩ | ⟨g, o, c, ds, k3, q1, q2, q3, q4, q5, q6, q7, rfl⟩
      · exact .inl ⟨q1, q3⟩
      · exact .inr ⟨g, o, c, ds, q1, hS _ (List.mem_append_left _ (List.mem_cons_self ..)), q2, q3⟩
    | succ j => simpa using rows_w h2 (fun k hk => hS k (List.mem_append_right _ hk)) j (by simpa using hj)
set_option maxHeartbeats 1000000 in
theorem markFaceSS_m {H : Heap} {lo hi : Nat} {v : Value} {T : List (List (Int × Int))} {k : Int} (hO : OwnB lo hi H [v] [zL zP T]) (hS : Short T 1048576) (h0 : 0 ≤ k) (hk : k ≤ 1099511627776) :
    ACalls Try.prog 69 [v, I k] H fun u H' => u = I (k + markN T T.length) ∧ ExtR lo hi H H' ∧ H'.size = H.size := by
  have hml := fun j => markN_le T hS j
  obtain ⟨hS1, hS2⟩ := hS
  obtain ⟨ks0, hL, hb⟩ := hO.in
  rcases hL.shape with ⟨q1, q2, q3⟩ | ⟨g, o, c, ds, k1, rfl, q4, q5, q6, q7, q8, q9, rfl⟩
  · obtain rfl : T = [] := List.length_eq_zero_iff.1 q1
    have e0 : markN [] 0 = 0 := rfl
    rcases q3 with rfl | rfl
    all_goals
      refine ACalls.body Try.func69 rfl Try.ntmps69 (rs := [.tmp 4]) rfl (by simp) rfl fun Q hQ A hA => ?_
      have a0 := hA 0 _ _ rfl
      have a1 := hA 1 _ _ rfl
      clear hA
      repeat' first | refine rnY ?_ | with_reducible refine And.intro (fun hc => ?_) (fun hc => ?_) | fail
      refine AWp.cut (fun Ac hAc => ?_)
      have c0 := gtY (t := 0) hAc
      have c1 := gtY (t := 1) hAc
      have c5 := gtY (t := 5) hAc
      clear a0 a1
      refine AWp.loop (fun A' H' => ∃ _ : Unit, Ag [6, 7, 8, 9, 10, 11, 12, 13, 14, 15, 16, 17] A' (put (put Ac (some 1) (I k)) (some 5) (I 0)) ∧ H' = H) (fun A' _ => 0) ?_ ?_
      · exact ⟨(), agY, rfl⟩
      · rintro A1 H1 ⟨_, hA, rfl⟩
        have d0 := gdY (t := 0) hA
        have d1 := gdY (t := 1) hA
        have d5 := gdY (t := 5) hA
        repeat' first | refine rnY ?_ | with_reducible refine And.intro (fun hc => ?_) (fun hc => ?_) | fail
        exact hQ.out _ _ ⟨by simp [markN], ExtR.refl _, rfl⟩
  · obtain ⟨S, hSd⟩ : ∃ S : Nat → Prop, (∀ b, S b ↔ ∃ x ∈ k1, x.1 = b) := ⟨_, fun _ => Iff.rfl⟩
    have hSg : ¬ S g := fun h => by obtain ⟨x, hx, e⟩ := (hSd g).1 h; exact q9 x hx e
    have hSr : ∀ b, S b → lo ≤ b ∧ b < hi := fun b h => by obtain ⟨x, hx, rfl⟩ := (hSd b).1 h; exact hb x (List.mem_cons_of_mem _ hx)
    have hrow : ∀ j, j < T.length → ∃ v, ds[o + j]? = some v ∧ RowW S H v (T.getD j []).length := fun j hj => by
      obtain ⟨v, v1, v2⟩ := rows_w (S := S) q8 (fun k hk => (hSd _).2 ⟨k, hk, rfl⟩) j hj
      rw [List.getElem?_take_of_lt (by omega), List.getElem?_drop] at v1
      exact ⟨v, v1, v2⟩
    have q6' : (T.map fun r => zP r).length = T.length := List.length_map _
    clear q8 q9 hSd hb hL q7
    refine ACalls.body Try.func69 rfl Try.ntmps69 (rs := [.tmp 4]) rfl (by simp) rfl fun Q hQ A hA => ?_
    have a0 := hA 0 _ _ rfl
    have a1 := hA 1 _ _ rfl
    clear hA
    repeat' first | refine rnY ?_ | with_reducible refine And.intro (fun hc => ?_) (fun hc => ?_) | fail
    refine AWp.cut (fun Ac hAc => ?_)
    have c0 := gtY (t := 0) hAc
    have c1 := gtY (t := 1) hAc
    have c5 := gtY (t := 5) hAc
    clear a0 a1
    refine AWp.loop (fun A' H' => ∃ (j : Nat), Ag [6, 7, 8, 9, 10, 11, 12, 13, 14, 15, 16, 17] A' (put (put Ac (some 1) (I (k + markN T j))) (some 5) (I j)) ∧ j ≤ T.length ∧ H'.get g = .cells ds 1 false ∧ (∀ b, ¬ S b → H'.get b = H.get b) ∧ H'.size = H.size ∧ ∀ w m, RowW S H w m → RowW S H' w m) (fun A' _ => T.length - (intV (A' 5)).toNat) ?_ ?_
    · have e0 : markN T 0 = 0 := rfl
      exact ⟨0, agY, by omega, q4, fun _ _ => rfl, rfl, fun _ _ h => h⟩
    · rintro A1 H1 ⟨j, hA, hj, hg, hd, hsz, hR⟩
      have d0 := gdY (t := 0) hA
      have d1 := gdY (t := 1) hA
      have d5 := gdY (t := 5) hA
      by_cases hlt : j < T.length
      · obtain ⟨v, v1, v2⟩ := hrow j hlt
        have hS2j := hS2 j hlt
        have hmj := hml j hj
        have hst : markN T (j + 1) = markN T j + 2 * (T.getD j []).length := rfl
        have hmk := fun k h0 hk => markFaceS_m (k := k) (hR _ _ v2) hS2j h0 hk
        generalize (T.getD j []).length = n at *
        generalize markN T j = mj at *
        clear hml hS2 hrow
        repeat' first | refine rnY ?_ | (refine (hmk _ (by omega) (by omega)).mono ?_; rintro u H2 ⟨rfl, hd2, hsz2, hR2⟩) | with_reducible refine And.intro (fun hc => ?_) (fun hc => ?_) | fail
        exact ⟨⟨j + 1, agY, by omega, (hd2 g hSg).trans hg, fun b hb => (hd2 b hb).trans (hd b hb), hsz2.trans hsz, fun w m h => hR2 w m (hR w m h)⟩, by exact ivY⟩
      · obtain rfl : j = T.length := by omega
        repeat' first | refine rnY ?_ | with_reducible refine And.intro (fun hc => ?_) (fun hc => ?_) | fail
        exact hQ.out _ _ ⟨rfl, ⟨by omega, fun b _ hb => hd b fun h => by have := hSr b h; omega⟩, hsz⟩
theorem markTriangulation_m {H : Heap} {lo hi : Nat} {v : Value} {T : List (List (Int × Int))} {k : Int} (hO : OwnB lo hi H [v] [zT T]) (hs : hi ≤ H.size) (hS : Short T 1048576) (h0 : 0 ≤ k) (hk : k ≤ 1099511627776) :
    ACalls Try.prog 24 [v, I k] H fun u H' => u = I (k + markN T T.length) ∧ ExtR lo hi H H' := by
  obtain ⟨l, rfl, hO1⟩ := OwnB.agg_inv (l' := [zL zP T]) hO
  obtain ⟨v', l', rfl, hO2, hO3⟩ := hO1.cons_inv
  obtain rfl := hO3.nil_inv
  have hone := hO2.one
  have hfr := hO2.frz
  have hm := markFaceSS_m (k := k) hO2 hS h0 hk
  refine ACalls.body Try.func24 rfl Try.ntmps24 (rs := [.tmp 4]) rfl (by simp) rfl fun Q hQ A hA => ?_
  have a0 := hA 0 _ _ rfl
  have a1 := hA 1 _ _ rfl
  clear hA
  repeat' first | refine rnY ?_ | (refine hm.mono ?_; rintro u H1 ⟨rfl, hx, hsz⟩) | with_reducible refine And.intro (fun hc => ?_) (fun hc => ?_) | fail
  exact hQ.out _ _ ⟨rfl, hx⟩
end Go.Proofs.Ytmoknllbpjpkmaa.Zed
