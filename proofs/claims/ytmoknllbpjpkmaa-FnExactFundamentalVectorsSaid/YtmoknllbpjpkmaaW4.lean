/- A part of the walk: what functions of the program do, over an abstract heap. -/
import Derived.Test.YtmoknllbpjpkmaaW3
namespace Go.Proofs.Ytmoknllbpjpkmaa.Zed
open Go TP
set_option linter.unusedVariables false
set_option linter.unusedSimpArgs false
set_option maxRecDepth 20000
namespace tfW4
theorem tf : (Try.prog.underlying 29 = some (.slice 102)) ∧ (el Try.prog 29 = some (none, 1)) ∧ (Try.prog.underlying 102 = some (.slice 107)) ∧ (el Try.prog 102 = some (none, 2)) ∧ (tk Try.prog 2 = some none) ∧ (tk Try.prog 29 = some none) ∧ (tk Try.prog 31 = some (some 1)) ∧ (tk Try.prog 102 = some none) ∧ (tk Try.prog 107 = some (some 2)) ∧ (cz Try.prog 102 = some 1) ∧ (bz Try.prog 102 = some 24) ∧ (cz Try.prog 107 = some 2) ∧ (bz Try.prog 107 = some 16) ∧ (zr Try.prog 102 = some (.slice none 0 0)) ∧ (zr Try.prog 107 = some (.agg #[.int .i64 0, .int .i64 0])) ∧ (fo Try.prog 31 0 = some (0, none)) ∧ (fo Try.prog 107 0 = some (0, none)) ∧ (fo Try.prog 107 1 = some (1, none)) ∧ (i2 Try.prog 107 = true) := by
  refine ⟨?_, ?_, ?_, ?_, ?_, ?_, ?_, ?_, ?_, ?_, ?_, ?_, ?_, ?_, ?_, ?_, ?_, ?_, ?_⟩ <;> kernel_rfl
end tfW4
open tfW4

def fc (T : List (List (Int × Int))) (a f : Nat) : Int × Int := (T.getD a []).getD f (0, 0)
def gd (T : List (List (Int × Int))) (a f : Nat) : Prop :=
  if (fc T a f).1 = -1 then (fc T a f).2 = 0 else (0 ≤ (fc T a f).1 ∧ (fc T a f).1 ≤ (T.length : Int) - 1) ∧ (0 ≤ (fc T a f).2 ∧ (fc T a f).2 ≤ 23) ∧
    fc T (fc T a f).1.toNat (pm (fc T a f).2 f).toNat = ((a : Int), invL (fc T a f).2) ∧ (¬ (fc T a f).1 = (a : Int) ∨ ¬ pm (fc T a f).2 f = (f : Int))
theorem gd_def (T : List (List (Int × Int))) (a f : Nat) : gd T a f = if (fc T a f).1 = -1 then (fc T a f).2 = 0 else (0 ≤ (fc T a f).1 ∧ (fc T a f).1 ≤ (T.length : Int) - 1) ∧ (0 ≤ (fc T a f).2 ∧ (fc T a f).2 ≤ 23) ∧
    fc T (fc T a f).1.toNat (pm (fc T a f).2 f).toNat = ((a : Int), invL (fc T a f).2) ∧ (¬ (fc T a f).1 = (a : Int) ∨ ¬ pm (fc T a f).2 f = (f : Int)) := rfl
instance (T : List (List (Int × Int))) (a f : Nat) : Decidable (gd T a f) := by unfold gd; infer_instance
set_option maxHeartbeats 2000000 in
theorem isGood_z {T : List (List (Int × Int))} (h8 : T.length ≤ 8) (h4 : ∀ a, a < T.length → (T.getD a []).length = 4) {a f : Nat} (ha : a < T.length) (hf : f < 4) : ZCalls Try.prog 162 [zT T, I a, I f] (B (decide (gd T a f))) := by
  refine ZCalls.body Try.func162 rfl Try.ntmps162 (rs := [.tmp 6]) rfl (by simp) rfl fun H Q hQ A hA => ?_
  have a0 := hA 0 _ _ rfl
  have a1 := hA 1 _ _ rfl
  have a2 := hA 2 _ _ rfl
  clear hA
  have hgd := gd_def T a f
  have h4a := h4 a ha
  obtain ⟨t, p, hx⟩ : ∃ t p, (T.getD a []).getD f (0, 0) = (t, p) := ⟨_, _, rfl⟩
  have hx' : fc T a f = (t, p) := hx
  rw [hx'] at hgd
  dsimp only at hgd
  by_cases h1 : t = -1
  · rw [if_pos h1] at hgd
    repeat' first | refine rnY ?_ | with_reducible refine And.intro (fun hc => ?_) (fun hc => ?_) | fail
    exact hQ.out _ _ (.eq (Cl.bool _) (by simp only [hgd]; by_cases hp : p = 0 <;> simp [hp])) (by exact exY)
  · rw [if_neg h1] at hgd
    have h1b : ¬ (t == -1) = true := by simpa using h1
    by_cases h2 : 0 ≤ t ∧ t ≤ (T.length : Int) - 1
    · obtain ⟨tn, rfl⟩ : ∃ tn : Nat, t = tn := ⟨t.toNat, by omega⟩
      have hz1 : decide (0 ≤ (tn : Int) ∧ (tn : Int) ≤ (T.length : Int) - 1) = true := by simpa using h2
      by_cases h3 : 0 ≤ p ∧ p ≤ 23
      · have hz2 : decide (0 ≤ p ∧ p ≤ 23) = true := by simpa using h3
        have hq := pm_bd p f h3.1 (by omega) (by omega) (by omega)
        obtain ⟨q, hq'⟩ : ∃ q : Nat, pm p f = (q : Int) := ⟨(pm p f).toNat, by omega⟩
        have h4t := h4 tn (by omega)
        obtain ⟨y1, y2, hy⟩ : ∃ y1 y2, (T.getD tn []).getD q (0, 0) = (y1, y2) := ⟨_, _, rfl⟩
        have hy' : fc T tn q = (y1, y2) := hy
        rw [hq'] at hgd hq
        simp only [Int.toNat_natCast, hy', h2, h3, and_self, true_and] at hgd
        have hfin : gd T a f ↔ ((y1 == (a : Int) && y2 == invL p) && (!((tn : Int) == (a : Int)) || !((q : Int) == (f : Int)))) = true := by
          rw [hgd]; simp [Prod.ext_iff, and_assoc]
        clear hgd
        repeat' first | refine rnY ?_ | (first | refine ZCalls.to (hasIndex_z _ _ _ _ (by omega)) ?_ | refine ZCalls.tf (hasIndex_z _ _ _ _ (by omega)) ?_) | (first | refine ZCalls.to (isPerm_z _) ?_ | refine ZCalls.tf (isPerm_z _) ?_) | (first | refine ZCalls.to (target_z _ _ _ h3.1 (by omega) (by omega) (by omega)) ?_ | refine ZCalls.tf (target_z _ _ _ h3.1 (by omega) (by omega) (by omega)) ?_) | with_reducible refine And.intro (fun hc => ?_) (fun hc => ?_) | fail
        rcases hc12 : (y1 == (a : Int) && y2 == invL p) with _ | _
        · refine AWp.zreg [(0, none), (1, none), (2, none), (3, none), (4, none), (5, none), (6, none), (7, none), (8, none), (9, none), (10, none), (11, none), (12, none), (13, none), (14, none), (15, none), (16, none), (17, none), (18, none), (19, none), (20, none), (21, none), (22, none), (23, none), (24, none)] mixed (by kernel_rfl) ?_
          repeat' first | refine rzY ?_ | (first | refine ZCalls.to (partner_z _ _ _ h3.1 (by omega)) ?_ | refine ZCalls.tf (partner_z _ _ _ h3.1 (by omega)) ?_) | fail
          repeat' first | refine rnY ?_ | with_reducible refine And.intro (fun hc => ?_) (fun hc => ?_) | fail
          exact hQ.out _ _ (.eq (Cl.bool _) (by rw [decide_eq_false (by rw [hfin, hc12]; simp)])) (by exact exY)
        · rcases hc3b : ((tn : Int) == (a : Int)) with _ | _
          · refine AWp.zreg [(0, none), (1, none), (2, none), (3, none), (4, none), (5, none), (6, none), (7, none), (8, none), (9, none), (10, none), (11, none), (12, none), (13, none), (14, none), (15, none), (16, none), (17, none), (18, none), (19, none), (20, none), (21, none), (22, none), (23, none), (24, none)] mixed (by kernel_rfl) ?_
            repeat' first | refine rzY ?_ | (first | refine ZCalls.to (partner_z _ _ _ h3.1 (by omega)) ?_ | refine ZCalls.tf (partner_z _ _ _ h3.1 (by omega)) ?_) | fail
            repeat' first | refine rnY ?_ | with_reducible refine And.intro (fun hc => ?_) (fun hc => ?_) | fail
            exact hQ.out _ _ (.eq (Cl.bool _) (by rw [decide_eq_true (by rw [hfin, hc12, hc3b]; simp)])) (by exact exY)
          · refine AWp.zreg [(0, none), (1, none), (2, none), (3, none), (4, none), (5, none), (6, none), (7, none), (8, none), (9, none), (10, none), (11, none), (12, none), (13, none), (14, none), (15, none), (16, none), (17, none), (18, none), (19, none), (20, none), (21, none), (22, none), (23, none), (24, none)] mixed (by kernel_rfl) ?_
            repeat' first | refine rzY ?_ | (first | refine ZCalls.to (partner_z _ _ _ h3.1 (by omega)) ?_ | refine ZCalls.tf (partner_z _ _ _ h3.1 (by omega)) ?_) | fail
            repeat' first | refine rnY ?_ | with_reducible refine And.intro (fun hc => ?_) (fun hc => ?_) | fail
            refine hQ.out _ _ (.eq (Cl.bool _) ?_) (by exact exY)
            rcases hc4b : ((q : Int) == (f : Int)) with _ | _
            · rw [decide_eq_true (by rw [hfin, hc12, hc3b, hc4b]; simp)]; rfl
            · rw [decide_eq_false (by rw [hfin, hc12, hc3b, hc4b]; simp)]; rfl
      · have hz2 : decide (0 ≤ p ∧ p ≤ 23) = false := by simpa using h3
        have hfin : ¬ gd T a f := by rw [hgd]; exact fun h => h3 h.2.1
        clear hgd
        repeat' first | refine rnY ?_ | (first | refine ZCalls.to (hasIndex_z _ _ _ _ (by omega)) ?_ | refine ZCalls.tf (hasIndex_z _ _ _ _ (by omega)) ?_) | (first | refine ZCalls.to (isPerm_z _) ?_ | refine ZCalls.tf (isPerm_z _) ?_) | with_reducible refine And.intro (fun hc => ?_) (fun hc => ?_) | fail
        exact hQ.out _ _ (.eq (Cl.bool _) (by rw [decide_eq_false hfin])) (by exact exY)
    · have hz1 : decide (0 ≤ t ∧ t ≤ (T.length : Int) - 1) = false := by simpa using h2
      have hfin : ¬ gd T a f := by rw [hgd]; exact fun h => h2 h.1
      clear hgd
      repeat' first | refine rnY ?_ | (first | refine ZCalls.to (hasIndex_z _ _ _ _ (by omega)) ?_ | refine ZCalls.tf (hasIndex_z _ _ _ _ (by omega)) ?_) | (first | refine ZCalls.to (isPerm_z _) ?_ | refine ZCalls.tf (isPerm_z _) ?_) | with_reducible refine And.intro (fun hc => ?_) (fun hc => ?_) | fail
      exact hQ.out _ _ (.eq (Cl.bool _) (by rw [decide_eq_false hfin])) (by exact exY)
theorem four_z (n es : Nat) (cs : List Value) : ZCalls Try.prog 160 [FZ es n cs] (B (!((n : Int) == 4))) := by
  refine ZCalls.body Try.func160 rfl Try.ntmps160 (rs := [.tmp 2]) rfl (by simp) rfl fun H Q hQ A hA => ?_
  have a0 := hA 0 _ _ rfl
  clear hA
  repeat' first | refine rnY ?_ | with_reducible refine And.intro (fun hc => ?_) (fun hc => ?_) | fail
  exact hQ.out _ _ (fv) (by exact exY)
/-- The first place where p holds; -1: none. -/
def fidx {α : Type} (p : α → Bool) (l : List α) : Int := match l.findIdx? p with
  | some i => i
  | none => -1
theorem fidx_at {α : Type} {p : α → Bool} {l : List α} (d : α) {j : Nat} (h : ∀ i, i < j → p (l.getD i d) = false) (hj : j < l.length) (hp : p (l.getD j d) = true) : fidx p l = j := by
  have e : l.findIdx? p = some j := by
    rw [List.findIdx?_eq_some_iff_getElem]
    refine ⟨hj, by simpa [hj] using hp, fun i hi => ?_⟩
    have := h i hi
    simpa [show i < l.length by omega] using this
  unfold fidx; rw [e]
theorem fidx_no {α : Type} {p : α → Bool} {l : List α} (d : α) (h : ∀ i, i < l.length → p (l.getD i d) = false) : fidx p l = -1 := by
  have e : l.findIdx? p = none := by
    rw [List.findIdx?_eq_none_iff]
    intro x hx
    obtain ⟨i, hi, rfl⟩ := List.getElem_of_mem hx
    have := h i hi
    simpa [hi] using this
  unfold fidx; rw [e]
theorem fidx_ge {α : Type} (p : α → Bool) (l : List α) : decide (fidx p l ≥ 0) = l.any p := by
  unfold fidx
  cases h : l.findIdx? p with
  | none =>
    rw [List.findIdx?_eq_none_iff] at h
    have : l.any p = false := by simpa using h
    rw [this]; rfl
  | some i =>
    rw [List.findIdx?_eq_some_iff_getElem] at h
    obtain ⟨hi, hp, _⟩ := h
    have : l.any p = true := List.any_eq_true.2 ⟨_, List.getElem_mem hi, hp⟩
    rw [this]; simp
set_option maxHeartbeats 1000000 in
theorem indexFF_z {T : List (List (Int × Int))} {F : FuncId} {xs : Array Value} {pr : List (Int × Int) → Bool} (hl : T.length ≤ 1048576) (hF : ∀ a, a < T.length → ZCalls Try.prog F ([zP (T.getD a [])] ++ xs.toList) (B (pr (T.getD a [])))) :
    ZCalls Try.prog 185 [zL zP T, .func (.func F) #[] xs] (I (fidx pr T)) := by
  refine ZCalls.body Try.func185 rfl Try.ntmps185 (rs := [.tmp 4]) rfl (by simp) rfl fun H Q hQ A hA => ?_
  have a0 := hA 0 _ _ rfl
  have a1 := hA 1 _ _ rfl
  clear hA
  repeat' first | refine rnY ?_ | with_reducible refine And.intro (fun hc => ?_) (fun hc => ?_) | fail
  refine AWp.cut (fun Ac hAc => ?_)
  have c0 := gtY (t := 0) hAc
  have c1 := gtY (t := 1) hAc
  have c7 := gtY (t := 7) hAc
  have c8 := gtY (t := 8) hAc
  clear a0 a1
  refine AWp.loop (fun A' H' => ∃ (k : Nat), Ag [5, 9, 10, 11, 12, 13, 14, 15, 16, 17, 18] A' (put Ac (some 8) (I k)) ∧ k ≤ T.length ∧ (∀ i, i < k → pr (T.getD i []) = false) ∧ Ext H H') (fun A' _ => T.length - (intV (A' 8)).toNat) ?_ ?_
  · exact ⟨0, agY, by omega, fun i hi => by omega, by exact exY⟩
  · rintro A1 H1 ⟨k, hA, hk, hno, hx⟩
    have d0 := gdY (t := 0) hA
    have d1 := gdY (t := 1) hA
    have d7 := gdY (t := 7) hA
    have d8 := gdY (t := 8) hA
    by_cases hlt : k < T.length
    · cases hp : pr (T.getD k [])
      · repeat' first | refine rnY ?_ | (first | refine ZCalls.to (hF k hlt) ?_ | refine ZCalls.tf (hF k hlt) ?_) | with_reducible refine And.intro (fun hc => ?_) (fun hc => ?_) | fail
        exact ⟨⟨k + 1, agY, by omega, all_succ hno hp, by exact exY⟩, by exact ivY⟩
      · repeat' first | refine rnY ?_ | (first | refine ZCalls.to (hF k hlt) ?_ | refine ZCalls.tf (hF k hlt) ?_) | with_reducible refine And.intro (fun hc => ?_) (fun hc => ?_) | fail
        exact hQ.out _ _ (.eq (Cl.int _ _) (by rw [fidx_at [] hno hlt hp])) (by exact exY)
    · obtain rfl : k = T.length := by omega
      repeat' first | refine rnY ?_ | with_reducible refine And.intro (fun hc => ?_) (fun hc => ?_) | fail
      exact hQ.out _ _ (.eq (Cl.int _ _) (by rw [fidx_no [] hno])) (by exact exY)
theorem containsFF_z {T : List (List (Int × Int))} {F : FuncId} {xs : Array Value} {pr : List (Int × Int) → Bool} (hl : T.length ≤ 1048576) (hF : ∀ a, a < T.length → ZCalls Try.prog F ([zP (T.getD a [])] ++ xs.toList) (B (pr (T.getD a [])))) :
    ZCalls Try.prog 159 [zL zP T, .func (.func F) #[] xs] (B (T.any pr)) := by
  refine ZCalls.body Try.func159 rfl Try.ntmps159 (rs := [.tmp 4]) rfl (by simp) rfl fun H Q hQ A hA => ?_
  have a0 := hA 0 _ _ rfl
  have a1 := hA 1 _ _ rfl
  clear hA
  repeat' first | refine rnY ?_ | (first | refine ZCalls.to (indexFF_z hl hF) ?_ | refine ZCalls.tf (indexFF_z hl hF) ?_) | with_reducible refine And.intro (fun hc => ?_) (fun hc => ?_) | fail
  exact hQ.out _ _ (.eq (Cl.bool _) (by rw [fidx_ge])) (by exact exY)
/-- Is T a triangulation? -/
def IsTri (T : List (List (Int × Int))) : Prop := T.length ≤ 8 ∧ (∀ a, a < T.length → (T.getD a []).length = 4) ∧ ∀ a, a < T.length → ∀ f, f < 4 → gd T a f
instance (T : List (List (Int × Int))) : Decidable (IsTri T) := by unfold IsTri; infer_instance
set_option maxHeartbeats 2000000 in
theorem isTriangulation_z {T : List (List (Int × Int))} (hl : T.length ≤ 1048576) : ZCalls Try.prog 117 [zT T] (B (decide (IsTri T))) := by
  refine ZCalls.body Try.func117 rfl Try.ntmps117 (rs := [.tmp 2]) rfl (by simp) rfl fun H Q hQ A hA => ?_
  have a0 := hA 0 _ _ rfl
  clear hA
  have hany : (T.any fun r => !((r.length : Int) == 4)) = false ↔ ∀ a, a < T.length → (T.getD a []).length = 4 := by
    rw [List.any_eq_false]
    refine ⟨fun h a ha => ?_, fun h x hx => ?_⟩
    · have := h _ (List.getElem_mem ha)
      simp only [Bool.not_eq_true', beq_eq_false_iff_ne, ne_eq, Classical.not_not] at this
      have e : (T.getD a []) = T[a] := by simp [ha]
      rw [e]; omega
    · obtain ⟨i, hi, rfl⟩ := List.getElem_of_mem hx
      have := h i hi
      have e : (T.getD i []) = T[i] := by simp [hi]
      rw [e] at this
      simp [this]
  by_cases h8 : T.length ≤ 8
  · have h8b : ¬ (T.length : Int) > 8 := by omega
    cases h4 : (T.any fun r => !((r.length : Int) == 4))
    · have h4' := hany.1 h4
      repeat' first | refine rnY ?_ | (first | refine ZCalls.to (containsFF_z (pr := fun r => !((r.length : Int) == 4)) hl (fun a _ => four_z _ _ _)) ?_ | refine ZCalls.tf (containsFF_z (pr := fun r => !((r.length : Int) == 4)) hl (fun a _ => four_z _ _ _)) ?_) | (first | refine ZCalls.to (size_z _ _ _) ?_ | refine ZCalls.tf (size_z _ _ _) ?_) | with_reducible refine And.intro (fun hc => ?_) (fun hc => ?_) | fail
      refine AWp.cut (fun Ac hAc => ?_)
      have c1 := gtY (t := 1) hAc
      have c16 := gtY (t := 16) hAc
      have c17 := gtY (t := 17) hAc
      clear a0
      refine AWp.loop (fun A' H' => ∃ (a : Nat), Ag [3, 4, 18, 19, 20, 21, 22, 23, 24, 25, 26, 27, 28, 29] A' (put Ac (some 17) (I a)) ∧ a ≤ T.length ∧ (∀ i, i < a → ∀ f, f < 4 → gd T i f) ∧ Ext H H') (fun A' _ => T.length - (intV (A' 17)).toNat) ?_ ?_
      · exact ⟨0, agY, by omega, fun i hi => by omega, by exact exY⟩
      · rintro A1 H1 ⟨a, hA, ha, hall, hx⟩
        have d1 := gdY (t := 1) hA
        have d16 := gdY (t := 16) hA
        have d17 := gdY (t := 17) hA
        by_cases hlt : a < T.length
        · repeat' first | refine rnY ?_ | with_reducible refine And.intro (fun hc => ?_) (fun hc => ?_) | fail
          refine AWp.cut (fun Am hAm => ?_)
          have m1 := gtY (t := 1) hAm
          have m3 := gtY (t := 3) hAm
          have m16 := gtY (t := 16) hAm
          have m17 := gtY (t := 17) hAm
          have m20 := gtY (t := 20) hAm
          refine AWp.loop (fun A' H' => ∃ (f : Nat), Ag [4, 21, 22, 23, 24, 25, 26, 27, 28] A' (put Am (some 20) (I f)) ∧ f ≤ 4 ∧ (∀ i, i < f → gd T a i) ∧ Ext H H') (fun A' _ => 4 - (intV (A' 20)).toNat) ?_ ?_
          · exact ⟨0, agY, by omega, fun i hi => by omega, by exact exY⟩
          · clear hx
            rintro A2 H2 ⟨f, hB, hf, hfs, hx⟩
            have f1 := gdY (t := 1) hB
            have f3 := gdY (t := 3) hB
            have f16 := gdY (t := 16) hB
            have f17 := gdY (t := 17) hB
            have f20 := gdY (t := 20) hB
            by_cases hff : f < 4
            · by_cases hg : gd T a f
              · have hgb : decide (gd T a f) = true := decide_eq_true hg
                repeat' first | refine rnY ?_ | (first | refine ZCalls.to (isGood_z h8 h4' hlt hff) ?_ | refine ZCalls.tf (isGood_z h8 h4' hlt hff) ?_) | with_reducible refine And.intro (fun hc => ?_) (fun hc => ?_) | fail
                exact ⟨⟨f + 1, agY, by omega, all_succ hfs hg, by exact exY⟩, by exact ivY⟩
              · have hgb : decide (gd T a f) = false := decide_eq_false hg
                repeat' first | refine rnY ?_ | (first | refine ZCalls.to (isGood_z h8 h4' hlt hff) ?_ | refine ZCalls.tf (isGood_z h8 h4' hlt hff) ?_) | with_reducible refine And.intro (fun hc => ?_) (fun hc => ?_) | fail
                exact hQ.out _ _ (.eq (Cl.bool _) (by rw [decide_eq_false fun h => hg (h.2.2 a hlt f hff)])) (by exact exY)
            · obtain rfl : f = 4 := by omega
              repeat' first | refine rnY ?_ | with_reducible refine And.intro (fun hc => ?_) (fun hc => ?_) | fail
              exact ⟨⟨a + 1, agY, by omega, all_succ hall hfs, by exact exY⟩, by exact ivY⟩
        · obtain rfl : a = T.length := by omega
          repeat' first | refine rnY ?_ | with_reducible refine And.intro (fun hc => ?_) (fun hc => ?_) | fail
          exact hQ.out _ _ (.eq (Cl.bool _) (by rw [decide_eq_true ⟨h8, h4', hall⟩])) (by exact exY)
    · repeat' first | refine rnY ?_ | (first | refine ZCalls.to (containsFF_z (pr := fun r => !((r.length : Int) == 4)) hl (fun a _ => four_z _ _ _)) ?_ | refine ZCalls.tf (containsFF_z (pr := fun r => !((r.length : Int) == 4)) hl (fun a _ => four_z _ _ _)) ?_) | with_reducible refine And.intro (fun hc => ?_) (fun hc => ?_) | fail
      exact hQ.out _ _ (.eq (Cl.bool _) (by rw [decide_eq_false fun h => by rw [hany.2 h.2.1] at h4; cases h4])) (by exact exY)
  · have h8b : (T.length : Int) > 8 := by omega
    repeat' first | refine rnY ?_ | with_reducible refine And.intro (fun hc => ?_) (fun hc => ?_) | fail
    exact hQ.out _ _ (.eq (Cl.bool _) (by rw [decide_eq_false fun h => h8 h.1])) (by exact exY)
end Go.Proofs.Ytmoknllbpjpkmaa.Zed
