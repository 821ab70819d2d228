/- A part of the walk: what functions of the program do, over an abstract heap. -/
import Derived.Test.YtmoknllbpjpkmaaX13
import Derived.Test.YtmoknllbpjpkmaaW10
namespace Go.Proofs.Ytmoknllbpjpkmaa.Zed
open Go TP
set_option linter.unusedVariables false
set_option linter.unusedSimpArgs false
set_option maxRecDepth 20000
namespace tfX14
theorem tf : (Try.prog.underlying 25 = some (.slice 2)) ∧ (el Try.prog 25 = some (none, 1)) ∧ (Try.prog.underlying 29 = some (.slice 102)) ∧ (el Try.prog 29 = some (none, 1)) ∧ (tk Try.prog 2 = some none) ∧ (tk Try.prog 25 = some none) ∧ (tk Try.prog 29 = some none) ∧ (tk Try.prog 31 = some (some 1)) ∧ (tk Try.prog 102 = some none) ∧ (cz Try.prog 2 = some 1) ∧ (bz Try.prog 2 = some 8) ∧ (cz Try.prog 102 = some 1) ∧ (bz Try.prog 102 = some 24) ∧ (zr Try.prog 2 = some (.int .i64 0)) ∧ (zr Try.prog 102 = some (.slice none 0 0)) ∧ (fo Try.prog 31 0 = some (0, none)) ∧ (fo Try.prog 47 0 = some (0, none)) ∧ (fo Try.prog 47 1 = some (1, none)) := by
  refine ⟨?_, ?_, ?_, ?_, ?_, ?_, ?_, ?_, ?_, ?_, ?_, ?_, ?_, ?_, ?_, ?_, ?_, ?_⟩ <;> kernel_rfl
end tfX14
open tfX14

theorem Cl.kz {es n : Nat} {cs : List Value} (h : ∀ x ∈ cs, Cl x) : Cl (KZ es n cs) := fun φ φ2 h1 h2 u hf hr => by
  obtain ⟨r, a, e⟩ := hr.kz_inv
  exact .kz _ _ _ _ (Cl.fz h φ φ2 h1 h2 u hf r) ⟨a, e⟩
theorem isAngFn_z (l : List Int) (x d : Int) : ZCalls Try.prog 128 [I x, PZ [zI l, I d] 0] (B (!decide (0 ≤ x ∧ x ≤ d))) := by
  have hr := inRange_z x 0 d
  refine ZCalls.body Try.func128 rfl Try.ntmps128 (rs := [.tmp 3]) rfl (by simp) rfl fun H Q hQ A hA => ?_
  have a0 := hA 0 _ _ rfl
  have a1 := hA 1 _ _ rfl
  clear hA
  repeat' first | refine rnY ?_ | (first | refine ZCalls.to (hr) ?_ | refine ZCalls.tf (hr) ?_) | with_reducible refine And.intro (fun hc => ?_) (fun hc => ?_) | fail
  exact hQ.out _ _ (fv) (by exact exY)
theorem clip_z (l : List Int) (hl : l.length ≤ 1048576) : ZCalls Try.prog 130 [zI l] (KZ 1 l.length (ints l)) := by
  refine ZCalls.body Try.func130 rfl Try.ntmps130 (rs := [.tmp 2]) rfl (by simp) rfl fun H Q hQ A hA => ?_
  have a0 := hA 0 _ _ rfl
  clear hA
  repeat' first | refine rnY ?_ | with_reducible refine And.intro (fun hc => ?_) (fun hc => ?_) | fail
  exact hQ.out _ _ (.cl (Cl.kz (Cl.ints _))) (by exact exY)
instance (T : List (List (Int × Int))) (v : List Int) (d : Int) : Decidable (AngI T v d) := by unfold AngI; infer_instance
set_option maxHeartbeats 4000000 in
theorem isAngles_z {T : List (List (Int × Int))} (hc : codeN T = 0) (v : List Int) (d : Int) (hv : v.length ≤ 1048576) : ZCalls Try.prog 75 [zT T, agV v d] (B (decide (AngI T v d))) := by
  have hT := codeN_ok hc
  have h6 := codeN_six hc
  have hr := inRange_z d 1 1000000
  by_cases h1 : 1 ≤ d ∧ d ≤ 1000000
  · rw [decide_eq_true h1] at hr
    by_cases h2 : v.length = 3 * T.length
    · have h2b : ((v.length : Int) == 3 * (T.length : Int)) = true := by rw [beq_iff_eq]; omega
      have hcn := containsN_z (F := 128) (xs := #[PZ [zI v, I d] 0]) hv (fun x _ => isAngFn_z v x d)
      by_cases h3 : (∀ j, j < v.length → 0 ≤ v.getD j 0 ∧ v.getD j 0 ≤ d)
      · have hany : (v.any fun x => !decide (0 ≤ x ∧ x ≤ d)) = false := by
          rw [List.any_eq_false]
          intro x hx
          obtain ⟨i, hi, rfl⟩ := List.getElem_of_mem hx
          have := h3 i hi
          simp [hi] at this
          simp [this]
        rw [hany] at hcn
        obtain ⟨e1, e2⟩ := mat_same hT
        have ham := (angleMatrix_o hT.fine).toZ (Cl.cons (Cl.zT T) Cl.nil)
        have hlw : (v ++ [-d]).length = 3 * T.length + 1 := by rw [List.length_append]; simp [h2]
        have hrows : ∀ r, r < (spR T).length → rowN (amL T) (amC T) r = (spR T).getD r [] := fun r hr => by rw [e2]; exact flat_row (spR_rows' T) r hr
        have hl7 := spR_len2 hT
        have hsol := solves_z (R := amR T) (C := amC T) (L := amL T) (w := v ++ [-d]) (A := 48) (B' := 1000000) (by rw [e1, e2]; exact flat_len (spR_rows' T)) (by rw [e1]; omega) (by unfold amC; omega) (by rw [hlw]; exact Nat.le_refl _) (by omega) (by omega) (by omega)
          (fun r hr j => by
            rw [e1] at hr
            rw [hrows r hr]
            have := spR_bd hT.1 ((spR T).getD r []) (by simp [hr]) j
            omega)
          (fun j => by
            by_cases hj : j < v.length
            · rw [List.getD_eq_getElem?_getD, List.getElem?_append_left hj, ← List.getD_eq_getElem?_getD]
              have := h3 j hj; omega
            · rw [List.getD_eq_getElem?_getD, List.getElem?_append_right (by omega)]
              cases e : j - v.length with
              | zero => simp; omega
              | succ n => simp)
        have hdec : decide (∀ r, r < amR T → dotL (rowN (amL T) (amC T) r) (v ++ [-d]) (amC T) = 0) = decide (AngI T v d) := by
          congr 1
          rw [e1]
          refine propext ⟨fun h => ⟨h1.1, h1.2, h2, h3, fun i hi => by have := h i hi; rw [hrows i hi] at this; exact this⟩, fun h r hr => by rw [hrows r hr]; exact h.2.2.2.2 r hr⟩
        rw [hdec] at hsol
        have hcl := clip_z v hv
        generalize decide (AngI T v d) = out at *
        generalize amR T = R at *
        generalize amC T = C at *
        generalize amL T = L at *
        clear hdec hrows hl7 e1 e2 hany hlw h3 h2
        rw [show -d = 0 - d by omega] at hsol
        have hlw : (v ++ [0 - d]).length = v.length + 1 := by rw [List.length_append]; rfl
        rw [show zI (v ++ [0 - d]) = FZ 1 (v.length + 1) (ints (v ++ [0 - d])) by unfold Zed.zI; rw [hlw]] at hsol
        have hiw : ints v ++ [I (0 - d)] = ints (v ++ [0 - d]) := by simp [ints]
        refine ZCalls.body Try.func75 rfl Try.ntmps75 (rs := [.tmp 4]) rfl (by simp) rfl fun H Q hQ A hA => ?_
        have a0 := hA 0 _ _ rfl
        have a1 := hA 1 _ _ rfl
        clear hA
        repeat' first | refine rnY ?_ | with_reducible refine And.intro (fun hc => ?_) (fun hc => ?_) | fail
        refine AWp.zreg [(0, none), (1, none), (2, none), (3, none), (4, none), (5, none), (6, none), (7, none), (8, none), (9, none), (10, none), (11, none), (12, none), (13, none), (14, none), (15, none), (16, none), (17, none), (18, none), (19, none), (20, none), (21, none), (22, none), (23, none), (24, none), (25, none), (26, none), (27, none), (28, none), (29, none), (30, some [1, 5, 8, 15, 21, 24, 27]), (31, some [1, 5, 8, 15, 21, 24, 27]), (32, none), (33, none)] mixed (by kernel_rfl) ?_
        repeat' first | refine rzY ?_ | (first | refine ZCalls.to (hr) ?_ | refine ZCalls.tf (hr) ?_) | (first | refine ZCalls.to (hcn) ?_ | refine ZCalls.tf (hcn) ?_) | (first | refine ZCalls.to (ham) ?_ | refine ZCalls.tf (ham) ?_) | (first | refine ZCalls.to (hcl) ?_ | refine ZCalls.tf (hcl) ?_) | (refine (hsol.lend rfl (.cl (Cl.mx _ _ _) (.ownB (OwnB.ints (lo := H.size) (hi := H.size + 1) (Nat.le_refl _) (Nat.lt_succ_self _) hlw (get_push_eq rfl)) .nil))).mono ?_; rintro u H3 ⟨rfl, he3⟩; have he3g := he3.get; have he3s := he3.size; (try simp only [nx] at he3s); refine hgY ?_) | fail
        repeat' first | refine rnY ?_ | with_reducible refine And.intro (fun hc => ?_) (fun hc => ?_) | fail
        exact hQ.out _ _ (fv) (by exact exY)
      · have hany : (v.any fun x => !decide (0 ≤ x ∧ x ≤ d)) = true := by
          cases hb : v.any fun x => !decide (0 ≤ x ∧ x ≤ d) with
          | true => rfl
          | false =>
            refine absurd (fun j hj => ?_) h3
            rw [List.any_eq_false] at hb
            have := hb (v.getD j 0) (by simp [hj])
            simpa using this
        rw [hany] at hcn
        rw [decide_eq_false (show ¬ AngI T v d from fun h => h3 h.2.2.2.1)]
        clear h3 h2 hany
        refine ZCalls.body Try.func75 rfl Try.ntmps75 (rs := [.tmp 4]) rfl (by simp) rfl fun H Q hQ A hA => ?_
        have a0 := hA 0 _ _ rfl
        have a1 := hA 1 _ _ rfl
        clear hA
        repeat' first | refine rnY ?_ | with_reducible refine And.intro (fun hc => ?_) (fun hc => ?_) | fail
        refine AWp.zreg [(0, none), (1, none), (2, none), (3, none), (4, none), (5, none), (6, none), (7, none), (8, none), (9, none), (10, none), (11, none), (12, none), (13, none), (14, none), (15, none), (16, none), (17, none), (18, none), (19, none), (20, none), (21, none), (22, none), (23, none), (24, none), (25, none), (26, none), (27, none), (28, none), (29, none), (30, some [1, 5, 8, 15, 21, 24, 27]), (31, some [1, 5, 8, 15, 21, 24, 27]), (32, none), (33, none)] mixed (by kernel_rfl) ?_
        repeat' first | refine rzY ?_ | (first | refine ZCalls.to (hr) ?_ | refine ZCalls.tf (hr) ?_) | (first | refine ZCalls.to (hcn) ?_ | refine ZCalls.tf (hcn) ?_) | fail
        repeat' first | refine rnY ?_ | with_reducible refine And.intro (fun hc => ?_) (fun hc => ?_) | fail
        exact hQ.out _ _ (fv) (by exact exY)
    · have h2b : ((v.length : Int) == 3 * (T.length : Int)) = false := by rw [beq_eq_false_iff_ne]; omega
      rw [decide_eq_false (show ¬ AngI T v d from fun h => h2 h.2.2.1)]
      clear h2
      refine ZCalls.body Try.func75 rfl Try.ntmps75 (rs := [.tmp 4]) rfl (by simp) rfl fun H Q hQ A hA => ?_
      have a0 := hA 0 _ _ rfl
      have a1 := hA 1 _ _ rfl
      clear hA
      repeat' first | refine rnY ?_ | with_reducible refine And.intro (fun hc => ?_) (fun hc => ?_) | fail
      refine AWp.zreg [(0, none), (1, none), (2, none), (3, none), (4, none), (5, none), (6, none), (7, none), (8, none), (9, none), (10, none), (11, none), (12, none), (13, none), (14, none), (15, none), (16, none), (17, none), (18, none), (19, none), (20, none), (21, none), (22, none), (23, none), (24, none), (25, none), (26, none), (27, none), (28, none), (29, none), (30, some [1, 5, 8, 15, 21, 24, 27]), (31, some [1, 5, 8, 15, 21, 24, 27]), (32, none), (33, none)] mixed (by kernel_rfl) ?_
      repeat' first | refine rzY ?_ | (first | refine ZCalls.to (hr) ?_ | refine ZCalls.tf (hr) ?_) | fail
      repeat' first | refine rnY ?_ | with_reducible refine And.intro (fun hc => ?_) (fun hc => ?_) | fail
      exact hQ.out _ _ (fv) (by exact exY)
  · rw [decide_eq_false h1] at hr
    rw [decide_eq_false (show ¬ AngI T v d from fun h => h1 ⟨h.1, h.2.1⟩)]
    clear h1
    refine ZCalls.body Try.func75 rfl Try.ntmps75 (rs := [.tmp 4]) rfl (by simp) rfl fun H Q hQ A hA => ?_
    have a0 := hA 0 _ _ rfl
    have a1 := hA 1 _ _ rfl
    clear hA
    repeat' first | refine rnY ?_ | with_reducible refine And.intro (fun hc => ?_) (fun hc => ?_) | fail
    refine AWp.zreg [(0, none), (1, none), (2, none), (3, none), (4, none), (5, none), (6, none), (7, none), (8, none), (9, none), (10, none), (11, none), (12, none), (13, none), (14, none), (15, none), (16, none), (17, none), (18, none), (19, none), (20, none), (21, none), (22, none), (23, none), (24, none), (25, none), (26, none), (27, none), (28, none), (29, none), (30, some [1, 5, 8, 15, 21, 24, 27]), (31, some [1, 5, 8, 15, 21, 24, 27]), (32, none), (33, none)] mixed (by kernel_rfl) ?_
    repeat' first | refine rzY ?_ | (first | refine ZCalls.to (hr) ?_ | refine ZCalls.tf (hr) ?_) | fail
    repeat' first | refine rnY ?_ | with_reducible refine And.intro (fun hc => ?_) (fun hc => ?_) | fail
    exact hQ.out _ _ (fv) (by exact exY)
end Go.Proofs.Ytmoknllbpjpkmaa.Zed
