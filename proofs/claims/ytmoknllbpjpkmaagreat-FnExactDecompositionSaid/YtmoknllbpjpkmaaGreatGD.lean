/- A part of the walk: what functions of the program do, over an abstract heap. -/
import Derived.Test.YtmoknllbpjpkmaaGreatGC
import Derived.Test.YtmoknllbpjpkmaaGreatGB
namespace Go.Proofs.YtmoknllbpjpkmaaGreat.Zed
open Go TP
set_option linter.unusedVariables false
set_option linter.unusedSimpArgs false
set_option maxRecDepth 20000
/-! The parts of a vector, one after the other. -/
/-- The next vector. -/
def nxU : List Int → List Int → Option (List Int)
  | [], _ => none
  | a :: u, v => match nxU u v.tail with
    | some u' => some (a :: u')
    | none => if a = v.headD 0 then none else some ((a + 1) :: List.replicate u.length 0)
/-- One more than the last place below k that is not full; 0: all are full. -/
def ln (u v : List Int) : Nat → Nat
  | 0 => 0
  | k + 1 => if u.getD k 0 = v.getD k 0 then ln u v k else k + 1
/-- 0 from place i on. -/
def zf (u : List Int) (i : Nat) : List Int := u.take i ++ List.replicate (u.length - i) 0
theorem ln_cons (a b : Int) (u v : List Int) : ∀ k, ln (a :: u) (b :: v) (k + 1) = if ln u v k = 0 then (if a = b then 0 else 1) else ln u v k + 1
  | 0 => by simp [ln]
  | k + 1 => by
    have ih := ln_cons a b u v k
    show (if (a :: u).getD (k + 1) 0 = (b :: v).getD (k + 1) 0 then ln (a :: u) (b :: v) (k + 1) else k + 1 + 1) = _
    rw [ih]
    show (if u.getD k 0 = v.getD k 0 then (if ln u v k = 0 then (if a = b then 0 else 1) else ln u v k + 1) else k + 1 + 1) = if (if u.getD k 0 = v.getD k 0 then ln u v k else k + 1) = 0 then (if a = b then 0 else 1) else (if u.getD k 0 = v.getD k 0 then ln u v k else k + 1) + 1
    by_cases h : u.getD k 0 = v.getD k 0
    · simp only [if_pos h]
    · simp only [if_neg h]; rw [if_neg (by omega)]
theorem ln_le (u v : List Int) : ∀ k, ln u v k ≤ k
  | 0 => Nat.le_refl _
  | k + 1 => by have := ln_le u v k; unfold ln; split <;> omega
theorem zf_len (u : List Int) (i : Nat) : (zf u i).length = u.length := by simp [zf]; omega
theorem nx_ln : ∀ (u v : List Int), u.length = v.length → nxU u v = if ln u v u.length = 0 then none else some ((zf u (ln u v u.length)).set (ln u v u.length - 1) (u.getD (ln u v u.length - 1) 0 + 1))
  | [], v, _ => by simp [nxU, ln]
  | a :: u, [], h => by simp at h
  | a :: u, b :: v, h => by
    have ih := nx_ln u v (by simpa using h)
    have hl := ln_cons a b u v u.length
    have hle := ln_le u v u.length
    show (match nxU u v with | some u' => some (a :: u') | none => if a = b then none else some ((a + 1) :: List.replicate u.length 0)) = _
    rw [ih, List.length_cons, hl]
    by_cases h0 : ln u v u.length = 0
    · rw [if_pos h0]
      simp only [h0, if_true]
      by_cases hab : a = b
      · rw [if_pos hab, if_pos hab]; rfl
      · rw [if_neg hab, if_neg hab]; simp [zf]
    · rw [if_neg h0, if_neg h0]
      obtain ⟨j, hj⟩ : ∃ j, ln u v u.length = j + 1 := ⟨ln u v u.length - 1, by omega⟩
      rw [hj]
      simp [zf]
/-- All vectors, in order. -/
def allU : List Int → List (List Int)
  | [] => [[]]
  | x :: v => (List.range (x.toNat + 1)).flatMap fun (a : Nat) => (allU v).map fun u => (a : Int) :: u
/-- Each one's next is the one behind it; the last one's is e. -/
def Lnk {α : Type} (f : α → Option α) : List α → Option α → Prop
  | [], _ => True
  | a :: l, e => f a = l.head?.or e ∧ Lnk f l e
theorem Lnk.append {α : Type} {f : α → Option α} {e : Option α} {l2 : List α} : ∀ {l1 : List α}, Lnk f l1 (l2.head?.or e) → Lnk f l2 e → Lnk f (l1 ++ l2) e
  | [], _, h => h
  | a :: l1, h, g => ⟨by
      rw [h.1]
      cases l1 with
      | nil => simp
      | cons b l1 => simp, Lnk.append h.2 g⟩
theorem Lnk.get {α : Type} {f : α → Option α} : ∀ {l : List α} {n : Nat} {a : α}, Lnk f l none → l[n]? = some a → f a = l[n + 1]?
  | b :: l, 0, a, h, e => by
    simp at e
    rw [← e, h.1]
    simp [List.head?_eq_getElem?]
  | b :: l, n + 1, a, h, e => by
    have := Lnk.get h.2 (by simpa using e)
    simpa using this
theorem allU_head : ∀ v : List Int, (allU v).head? = some (List.replicate v.length 0)
  | [] => rfl
  | x :: v => by
    have ih := allU_head v
    obtain ⟨t, ht⟩ : ∃ t, allU v = List.replicate v.length 0 :: t := by
      cases h : allU v with
      | nil => rw [h] at ih; cases ih
      | cons a t => rw [h] at ih; simp at ih; exact ⟨t, by rw [ih]⟩
    unfold allU
    rw [List.range_succ_eq_map, List.flatMap_cons, ht]
    simp [List.replicate_succ]
theorem nx_cons (a b : Int) (u v : List Int) : nxU (a :: u) (b :: v) = (match nxU u v with | some u' => some (a :: u') | none => if a = b then none else some ((a + 1) :: List.replicate u.length 0)) := rfl
theorem allU_len : ∀ (v u : List Int), u ∈ allU v → u.length = v.length
  | [], u, h => by simp [allU] at h; rw [h]
  | x :: v, u, h => by
    unfold allU at h
    rw [List.mem_flatMap] at h
    obtain ⟨a, _, h⟩ := h
    obtain ⟨w, hw, rfl⟩ := List.mem_map.1 h
    simp [allU_len v w hw]
theorem Lnk.map_cons {v : List Int} (a b : Int) : ∀ {l : List (List Int)}, (∀ u ∈ l, u.length = v.length) → Lnk (fun u => nxU u v) l none → Lnk (fun u => nxU u (b :: v)) (l.map fun u => a :: u) (if a = b then none else some ((a + 1) :: List.replicate v.length 0))
  | [], _, _ => trivial
  | u :: l, hl, h => by
    refine ⟨?_, Lnk.map_cons a b (fun u hu => hl u (List.mem_cons_of_mem _ hu)) h.2⟩
    show nxU (a :: u) (b :: v) = _
    have h1 : nxU u v = l.head?.or none := h.1
    rw [nx_cons, h1]
    cases l with
    | nil => simp [hl u (List.mem_cons_self ..)]
    | cons w l => simp
theorem allU_lnk : ∀ v : List Int, (∀ x ∈ v, 0 ≤ x) → Lnk (fun u => nxU u v) (allU v) none
  | [], _ => ⟨rfl, trivial⟩
  | x :: v, h => by
    have ih := allU_lnk v (fun y hy => h y (List.mem_cons_of_mem _ hy))
    have hx := h x (List.mem_cons_self ..)
    obtain ⟨m, rfl⟩ : ∃ m : Nat, x = m := ⟨x.toNat, by omega⟩
    have hd := allU_head v
    have key : ∀ d a : Nat, a + d = m → Lnk (fun u => nxU u ((m : Int) :: v)) ((List.range' a (d + 1)).flatMap fun (a : Nat) => (allU v).map fun u => (a : Int) :: u) none := by
      intro d
      induction d with
      | zero =>
        intro a ha
        have := Lnk.map_cons (a : Int) (m : Int) (allU_len v) ih
        rw [if_pos (by omega)] at this
        simpa using this
      | succ d ihd =>
        intro a ha
        have h1 := Lnk.map_cons (a : Int) (m : Int) (allU_len v) ih
        rw [if_neg (by omega)] at h1
        have h2 := ihd (a + 1) (by omega)
        rw [List.range'_succ, List.flatMap_cons]
        refine Lnk.append ?_ h2
        have e : ((List.range' (a + 1) (d + 1)).flatMap fun (a : Nat) => (allU v).map fun u => (a : Int) :: u).head? = some (((a : Int) + 1) :: List.replicate v.length 0) := by
          rw [List.range'_succ, List.flatMap_cons]
          cases hv : allU v with
          | nil => rw [hv] at hd; cases hd
          | cons w t => rw [hv] at hd; simp at hd; simp [hd]
        rw [e]; exact h1
    have := key m 0 (by omega)
    unfold allU
    rw [Int.toNat_natCast, List.range_eq_range']
    exact this
/-- In the vector. -/
def LeL (u v : List Int) : Prop := u.length = v.length ∧ ∀ i, i < v.length → 0 ≤ u.getD i 0 ∧ u.getD i 0 ≤ v.getD i 0
theorem mem_allU : ∀ (v u : List Int), (∀ x ∈ v, 0 ≤ x) → (u ∈ allU v ↔ LeL u v)
  | [], u, _ => by
    simp only [allU, List.mem_singleton, LeL, List.length_nil]
    exact ⟨fun h => ⟨by rw [h]; rfl, fun i hi => by omega⟩, fun h => List.eq_nil_of_length_eq_zero h.1⟩
  | x :: v, u, h => by
    have ih := fun w => mem_allU v w (fun y hy => h y (List.mem_cons_of_mem _ hy))
    have hx := h x (List.mem_cons_self ..)
    unfold allU
    rw [List.mem_flatMap]
    constructor
    · rintro ⟨a, ha, hu⟩
      obtain ⟨w, hw, rfl⟩ := List.mem_map.1 hu
      obtain ⟨q1, q2⟩ := (ih w).1 hw
      have := List.mem_range.1 ha
      refine ⟨by simp [q1], fun i hi => ?_⟩
      cases i with
      | zero => simp; omega
      | succ i => simpa using q2 i (by simpa using hi)
    · rintro ⟨q1, q2⟩
      cases u with
      | nil => simp at q1
      | cons a w =>
        have h0 := q2 0 (by simp)
        simp at h0
        refine ⟨a.toNat, List.mem_range.2 (by omega), List.mem_map.2 ⟨w, (ih w).2 ⟨by simpa using q1, fun i hi => ?_⟩, by rw [Int.toNat_of_nonneg h0.1]⟩⟩
        simpa using q2 (i + 1) (by simpa using hi)
/-- Before, letter by letter. -/
def lxU (u w : List Int) : Prop := ∃ i, (∀ j, j < i → u.getD j 0 = w.getD j 0) ∧ u.getD i 0 < w.getD i 0
theorem lx_irr (u : List Int) : ¬ lxU u u := fun ⟨i, _, h⟩ => by omega
theorem lx_asym {u w : List Int} (h : lxU u w) : ¬ lxU w u := by
  rintro ⟨j, h1, h2⟩
  obtain ⟨i, h3, h4⟩ := h
  rcases Nat.lt_trichotomy i j with h | h | h
  · have := h1 i h; omega
  · subst h; omega
  · have := h3 j h; omega
theorem lx_le {u w : List Int} (h : LeL u w) (hne : u ≠ w) : lxU u w := by
  have hex : ∃ i, i < w.length ∧ u.getD i 0 ≠ w.getD i 0 := by
    refine Classical.byContradiction fun hn => hne ?_
    refine List.ext_getElem h.1 fun i h1 h2 => ?_
    refine Classical.byContradiction fun hc => hn ⟨i, h2, fun e => hc ?_⟩
    simpa [h1, h2] using e
  have key : ∀ n, (∃ i, i < n ∧ i < w.length ∧ u.getD i 0 ≠ w.getD i 0) → lxU u w := by
    intro n
    induction n with
    | zero => rintro ⟨i, h, _⟩; omega
    | succ n ih =>
      rintro ⟨i, h1, h2, h3⟩
      by_cases hn : ∃ i, i < n ∧ i < w.length ∧ u.getD i 0 ≠ w.getD i 0
      · exact ih hn
      · have e : i = n := by
          rcases Nat.lt_or_ge i n with hh | hh
          · exact absurd ⟨i, hh, h2, h3⟩ hn
          · omega
        subst e
        refine ⟨i, fun j hj => Classical.byContradiction fun hc => hn ⟨j, hj, by omega, hc⟩, ?_⟩
        have := (h.2 i h2).2
        omega
  obtain ⟨i, h1, h2⟩ := hex
  exact key (i + 1) ⟨i, by omega, h1, h2⟩
theorem allU_sorted : ∀ v : List Int, (allU v).Pairwise lxU
  | [] => by simp [allU]
  | x :: v => by
    have ih := allU_sorted v
    unfold allU
    rw [List.pairwise_flatMap]
    refine ⟨fun a _ => ?_, ?_⟩
    · rw [List.pairwise_map]
      refine ih.imp fun {u w} h => ?_
      obtain ⟨i, h1, h2⟩ := h
      refine ⟨i + 1, fun j hj => ?_, by simpa using h2⟩
      cases j with
      | zero => rfl
      | succ j => simpa using h1 j (by omega)
    · refine List.pairwise_lt_range.imp fun {a b} hab u hu w hw => ?_
      obtain ⟨u', _, rfl⟩ := List.mem_map.1 hu
      obtain ⟨w', _, rfl⟩ := List.mem_map.1 hw
      exact ⟨0, fun j hj => by omega, by simpa using hab⟩
/-- The solutions among the parts. -/
def PL (sv : List Int → Bool) (v : List Int) : List (List Int) := (allU v).filter sv
section
variable {sv : List Int → Bool} {v : List Int}
theorem PL_sorted : (PL sv v).Pairwise lxU := (allU_sorted v).filter _
theorem PL_mem (h : ∀ x ∈ v, 0 ≤ x) {u : List Int} : u ∈ PL sv v ↔ LeL u v ∧ sv u = true := by
  unfold PL; rw [List.mem_filter, mem_allU v u h]
theorem PL_head (h0 : sv (List.replicate v.length 0) = true) : ∃ t, PL sv v = List.replicate v.length 0 :: t := by
  have hd := allU_head v
  unfold PL
  cases hv : allU v with
  | nil => rw [hv] at hd; cases hd
  | cons w t => rw [hv] at hd; simp at hd; subst hd; rw [List.filter_cons_of_pos h0]; exact ⟨_, rfl⟩
/-- Behind the vector itself there is nothing. -/
theorem PL_last (h : ∀ x ∈ v, 0 ≤ x) {n : Nat} (hn : (PL sv v)[n]? = some v) : (PL sv v).length = n + 1 := by
  obtain ⟨hlt, hg⟩ := List.getElem?_eq_some_iff.1 hn
  refine Classical.byContradiction fun hc => ?_
  have h2 : n + 1 < (PL sv v).length := by omega
  have h3 := List.pairwise_iff_getElem.1 (PL_sorted (sv := sv) (v := v)) n (n + 1) hlt h2 (by omega)
  rw [hg] at h3
  have h4 := ((PL_mem h).1 (List.getElem_mem h2)).1
  by_cases e : (PL sv v)[n + 1] = v
  · rw [e] at h3; exact lx_irr _ h3
  · exact lx_asym h3 (lx_le h4 e)
end
end Go.Proofs.YtmoknllbpjpkmaaGreat.Zed
namespace Go.Proofs.YtmoknllbpjpkmaaGreat.Zed
open Go TP
set_option linter.unusedVariables false
set_option linter.unusedSimpArgs false
set_option maxRecDepth 20000
namespace tfY8
theorem tf : (Tryz.prog.underlying 25 = some (.slice 2)) ∧ (el Tryz.prog 25 = some (none, 1)) ∧ (tk Tryz.prog 2 = some none) ∧ (cz Tryz.prog 2 = some 1) ∧ (bz Tryz.prog 2 = some 8) ∧ (zr Tryz.prog 2 = some (.int .i64 0)) := by
  refine ⟨?_, ?_, ?_, ?_, ?_, ?_⟩ <;> kernel_rfl
end tfY8
open tfY8

theorem abs_z (x : Int) (hx : 0 ≤ x) : ZCalls Tryz.prog 118 [I x] (I x) := by
  have hb : decide (x < 0) = false := decide_eq_false (by omega)
  refine ZCalls.body Tryz.func118 rfl Tryz.ntmps118 (rs := [.tmp 2]) rfl (by simp) rfl fun H Q hQ A hA => ?_
  have a0 := hA 0 _ _ rfl
  clear hA
  repeat' first | refine rnY ?_ | with_reducible refine And.intro (fun hc => ?_) (fun hc => ?_) | fail
  exact hQ.out _ _ (fv) (by exact exY)
set_option maxHeartbeats 2000000 in
theorem gcd_z (a b : Nat) (ha : a ≤ 1000000) (hb : b ≤ 1000000) : ZCalls Tryz.prog 83 [I a, I b] (I (Nat.gcd a b)) := by
  have h1 := abs_z a (by omega)
  have h2 := abs_z b (by omega)
  refine ZCalls.body Tryz.func83 rfl Tryz.ntmps83 (rs := [.tmp 4]) rfl (by simp) rfl fun H Q hQ A hA => ?_
  have a0 := hA 0 _ _ rfl
  have a1 := hA 1 _ _ rfl
  clear hA
  repeat' first | refine rnY ?_ | (first | refine ZCalls.to (h1) ?_ | refine ZCalls.tf (h1) ?_) | (first | refine ZCalls.to (h2) ?_ | refine ZCalls.tf (h2) ?_) | with_reducible refine And.intro (fun hc => ?_) (fun hc => ?_) | fail
  refine AWp.cut (fun Ac hAc => ?_)
  have c0 := gtY (t := 0) hAc
  have c1 := gtY (t := 1) hAc
  clear a0 a1 h1 h2
  refine AWp.loop (fun A' H' => ∃ (x : Nat) (y : Nat), Ag [9, 10, 11, 12, 13, 14] A' (put (put Ac (some 0) (I x)) (some 1) (I y)) ∧ x ≤ 1000000 ∧ y ≤ 1000000 ∧ Nat.gcd x y = Nat.gcd a b ∧ Ext H H') (fun A' _ => (intV (A' 1)).toNat) ?_ ?_
  · exact ⟨a, b, agY, by omega, by omega, rfl, by exact exY⟩
  · rintro A1 H1 ⟨x, y, hA1, hx1, hy1, hg, hx⟩
    have d0 := gdY (t := 0) hA1
    have d1 := gdY (t := 1) hA1
    by_cases hy : y = 0
    · subst hy
      have hbb : (((0 : Nat) : Int) == 0) = true := rfl
      rw [Nat.gcd_zero_right] at hg
      rw [← hg] at hQ
      clear hg
      repeat' first | refine rnY ?_ | with_reducible refine And.intro (fun hc => ?_) (fun hc => ?_) | fail
      exact hQ.out _ _ (fv) (by exact exY)
    · have hbb : ((y : Int) == 0) = false := by rw [beq_eq_false_iff_ne]; omega
      have hlt := Nat.mod_lt x (Nat.pos_of_ne_zero hy)
      have hm : ((x : Int) % (y : Int)) = ((x % y : Nat) : Int) := by omega
      have hm2 : Int.tmod (x : Int) (y : Int) = ((x % y : Nat) : Int) := by rw [Int.tmod_eq_emod_of_nonneg (by omega)]; exact hm
      have hg2 : Nat.gcd y (x % y) = Nat.gcd a b := by
        have h1 := Nat.gcd_rec y x
        rw [← hg, Nat.gcd_comm x y, h1, Nat.gcd_comm]
      have hy0 : 0 < y := by omega
      clear hy hm
      repeat' first | refine rnY ?_ | with_reducible refine And.intro (fun hc => ?_) (fun hc => ?_) | fail
      refine AWp.zreg [(0, none), (1, none), (2, none), (3, none), (4, none), (5, none)] mixed (by kernel_rfl) ?_
      repeat' first | refine rzY ?_ | fail
      repeat' first | refine rnY ?_ | with_reducible refine And.intro (fun hc => ?_) (fun hc => ?_) | fail
      exact ⟨⟨y, x % y, agY, by omega, by omega, hg2, by exact exY⟩, by exact ivY⟩
/-- The greatest common divisor of the elements below k. -/
def gT (l : List Int) : Nat → Nat
  | 0 => 0
  | k + 1 => Nat.gcd (gT l k) (l.getD k 0).toNat
theorem gT_bd {l : List Int} (h : ∀ j, 0 ≤ l.getD j 0 ∧ l.getD j 0 ≤ 1000) : ∀ k, gT l k ≤ 1000
  | 0 => by simp [gT]
  | k + 1 => by
    have ih := gT_bd h k
    have hk := h k
    unfold gT
    by_cases h0 : gT l k = 0
    · rw [h0, Nat.gcd_zero_left]; omega
    · exact Nat.le_trans (Nat.gcd_le_left _ (by omega)) ih
theorem gT_zero {l : List Int} (h : ∀ j, 0 ≤ l.getD j 0) : ∀ k, gT l k = 0 ↔ ∀ j, j < k → l.getD j 0 = 0
  | 0 => by simp [gT]
  | k + 1 => by
    have ih := gT_zero h k
    have hk := h k
    unfold gT
    rw [Nat.gcd_eq_zero_iff, ih]
    constructor
    · rintro ⟨h1, h2⟩ j hj
      rcases Nat.lt_or_ge j k with h | h
      · exact h1 j h
      · obtain rfl : j = k := by omega
        omega
    · intro h1
      exact ⟨fun j hj => h1 j (by omega), by rw [h1 k (by omega)]; rfl⟩
set_option maxHeartbeats 2000000 in
theorem gcdOf_z {l : List Int} (hl : l.length ≤ 1048576) (h : ∀ j, 0 ≤ l.getD j 0 ∧ l.getD j 0 ≤ 1000) : ZCalls Tryz.prog 55 [zI l] (I (gT l l.length)) := by
  have hst : ∀ k, gT l (k + 1) = Nat.gcd (gT l k) (l.getD k 0).toNat := fun k => rfl
  have hbd := gT_bd h
  have h0 : gT l 0 = 0 := rfl
  refine ZCalls.body Tryz.func55 rfl Tryz.ntmps55 (rs := [.tmp 2]) rfl (by simp) rfl fun H Q hQ A hA => ?_
  have a0 := hA 0 _ _ rfl
  clear hA
  repeat' first | refine rnY ?_ | with_reducible refine And.intro (fun hc => ?_) (fun hc => ?_) | fail
  refine AWp.cut (fun Ac hAc => ?_)
  have c6 := gtY (t := 6) hAc
  have c7 := gtY (t := 7) hAc
  have c3 := gtY (t := 3) hAc
  have c8 := gtY (t := 8) hAc
  clear a0
  refine AWp.loop (fun A' H' => ∃ (k : Nat), Ag [5, 9, 10, 11, 12, 13, 14, 15] A' (put (put Ac (some 3) (I (gT l k))) (some 8) (I k)) ∧ k ≤ l.length ∧ Ext H H') (fun A' _ => l.length - (intV (A' 8)).toNat) ?_ ?_
  · exact ⟨0, by rw [h0]; exact agY, by omega, by exact exY⟩
  · rintro A1 H1 ⟨k, hA1, hk, hx⟩
    have d3 := gdY (t := 3) hA1
    have d6 := gdY (t := 6) hA1
    have d7 := gdY (t := 7) hA1
    have d8 := gdY (t := 8) hA1
    by_cases hlt : k < l.length
    · have hst := hst k
      have hb := hbd k
      have hlk := h k
      obtain ⟨x, hx1⟩ : ∃ x : Nat, l.getD k 0 = x := ⟨(l.getD k 0).toNat, by omega⟩
      rw [hx1, Int.toNat_natCast] at hst
      rw [hx1] at hlk
      have hg := gcd_z (gT l k) x (by omega) (by omega)
      rw [← hst] at hg
      clear hbd h h0 hst
      generalize gT l k = g at *
      repeat' first | refine rnY ?_ | (first | refine ZCalls.to (hg) ?_ | refine ZCalls.tf (hg) ?_) | with_reducible refine And.intro (fun hc => ?_) (fun hc => ?_) | fail
      exact ⟨⟨k + 1, agY, by omega, by exact exY⟩, by exact ivY⟩
    · obtain rfl : k = l.length := by omega
      clear hst hbd h
      repeat' first | refine rnY ?_ | with_reducible refine And.intro (fun hc => ?_) (fun hc => ?_) | fail
      exact hQ.out _ _ (fv) (by exact exY)
set_option maxHeartbeats 2000000 in
theorem clone_o {l : List Int} (hl : l.length ≤ 100000) (h0 : 0 < l.length) : OCalls Tryz.prog 56 [zI l] (zI l) := by
  refine OCalls.body Tryz.func56 rfl Tryz.ntmps56 (rs := [.tmp 2]) rfl (by simp) rfl fun H Q hQ A hA => ?_
  have a0 := hA 0 _ _ rfl
  clear hA
  repeat' first | refine rnY ?_ | (refine appI (cs := []) (by exact ivY) (by simp) rfl (by omega) (by omega) ?_) | with_reducible refine And.intro (fun hc => ?_) (fun hc => ?_) | fail
  exact hQ.out _ _ ((OwnB.ints (lo := H.size) (hi := H.size + 1 + 1) (by omega) (by omega) rfl (get_push_eq (by simp only [nx]))).out) (by exact exY)
/-- The answer of l20Next. -/
def nextV (u v : List Int) : Value := match nxU u v with
  | some u' => .tuple #[zI u', B true]
  | none => .tuple #[zI [], B false]
theorem zf_get (u : List Int) (k j : Nat) (hk : k ≤ u.length) : (zf u k).getD j 0 = if j < k then u.getD j 0 else 0 := by
  unfold zf
  simp only [List.getD_eq_getElem?_getD, List.getElem?_append, List.length_take, List.getElem?_take, List.getElem?_replicate]
  by_cases h : j < k
  · rw [if_pos (by omega), if_pos h, if_pos h]
  · rw [if_neg (by omega), if_neg h]
    split <;> rfl
theorem getD_setM {l : List Int} {i j : Nat} {x : Int} (hi : i < l.length) : (l.set i x).getD j 0 = if j = i then x else l.getD j 0 := by
  simp only [List.getD_eq_getElem?_getD, List.getElem?_set]
  by_cases h : i = j
  · subst h; simp [hi]
  · rw [if_neg h, if_neg (fun e => h e.symm)]
theorem zf_zero (u : List Int) (k : Nat) (hk : k < u.length) : (zf u (k + 1)).set k 0 = zf u k := by
  refine List.ext_getElem (by simp [zf_len]) fun i h1 h2 => ?_
  have e1 : ((zf u (k + 1)).set k 0)[i] = ((zf u (k + 1)).set k 0).getD i 0 := by rw [List.getD_eq_getElem?_getD, List.getElem?_eq_getElem h1]; rfl
  have e2 : (zf u k)[i] = (zf u k).getD i 0 := by rw [List.getD_eq_getElem?_getD, List.getElem?_eq_getElem h2]; rfl
  rw [e1, e2, getD_setM (by rw [zf_len]; exact hk), zf_get _ _ _ (by omega), zf_get _ _ _ (by omega)]
  by_cases h : i = k
  · rw [if_pos h, if_neg (by omega)]
  · rw [if_neg h]
    by_cases h3 : i < k
    · rw [if_pos (by omega), if_pos h3]
    · rw [if_neg (by omega), if_neg h3]
theorem zf_all (u : List Int) : zf u u.length = u := by simp [zf]
set_option maxHeartbeats 4000000 in
theorem l20Next_z {u v : List Int} (hL : LeL u v) (hl : v.length ≤ 1000) (hb : ∀ j, v.getD j 0 ≤ 1000) : ZCalls Tryz.prog 75 [zI u, zI v] (nextV u v) := by
  have hnx := nx_ln u v hL.1
  have hul := hL.1
  have hst : ∀ k, ln u v (k + 1) = if u.getD k 0 = v.getD k 0 then ln u v k else k + 1 := fun k => rfl
  have h00 : ln u v 0 = 0 := rfl
  have hfin : ∀ k, ln u v u.length = ln u v k → k = 0 → nextV u v = .tuple #[zI [], B false] := fun k h1 h2 => by
    unfold nextV
    rw [hnx, h1, h2, h00]; rfl
  have hgo : ∀ k, ln u v u.length = k + 1 → nextV u v = .tuple #[zI ((zf u (k + 1)).set k (u.getD k 0 + 1)), B true] := fun k h1 => by
    unfold nextV
    rw [hnx, h1]; rfl
  have hLe := hL.2
  have hz := zf_all u
  generalize nextV u v = out at *
  clear hnx hL
  refine ZCalls.body Tryz.func75 rfl Tryz.ntmps75 (rs := [.tmp 4, .tmp 5]) rfl (by simp) rfl fun H Q hQ A hA => ?_
  have a0 := hA 0 _ _ rfl
  have a1 := hA 1 _ _ rfl
  clear hA
  by_cases h0 : u.length = 0
  · have hu0 : u = [] := List.eq_nil_of_length_eq_zero h0
    subst hu0
    have hf := hfin 0 rfl rfl
    clear hfin hgo hst hLe
    repeat' first | refine rnY ?_ | (refine appI0 (cs := []) (by exact ivY) (by simp) ?_) | (refine AWp.unroll ?_) | (refine AIn.step ?_) | with_reducible refine And.intro (fun hc => ?_) (fun hc => ?_) | fail
    rw [hf] at hQ
    exact hQ.out _ _ ((OwnB.tup (lo := H.size) (hi := H.size) (l := [.slice none 0 0, B false]) (l' := [zI [], B false]) (.cflats (OwnB.nilr 1) (fun x hx => by simp at hx; subst hx; rfl))).fin) (by exact exY)
  · repeat' first | refine rnY ?_ | (refine appI (cs := []) (by exact ivY) (by simp) rfl (by omega) (by omega) ?_) | with_reducible refine And.intro (fun hc => ?_) (fun hc => ?_) | fail
    refine AWp.cut (fun Ac hAc => ?_)
    have c1 := gtY (t := 1) hAc
    have c6 := gtY (t := 6) hAc
    have c7 := gtY (t := 7) hAc
    clear a0 a1
    refine AWp.loop (fun A' H' => ∃ (k : Nat), Ag [14, 15, 16, 17, 18, 19, 20, 21, 22, 23, 24, 25, 26, 27, 28, 29, 30, 31, 32, 33, 34, 35, 36] A' (put Ac (some 7) (I ((k : Int) - 1))) ∧ k ≤ u.length ∧ ln u v u.length = ln u v k ∧ H' = (H.push (.cells [] 1 false)).push (.cells (ints (zf u k)) 1 false)) (fun A' _ => ((intV (A' 7)) + 1).toNat) ?_ ?_
    · exact ⟨u.length, agY, by omega, rfl, by rw [hz]⟩
    · rintro A1 H1 ⟨k, hA1, hk, hln, rfl⟩
      have d1 := gdY (t := 1) hA1
      have d6 := gdY (t := 6) hA1
      have d7 := gdY (t := 7) hA1
      have hzl := zf_len u k
      by_cases hk0 : k = 0
      · subst hk0
        have hf := hfin 0 hln rfl
        clear hfin hgo hst hLe hz
        repeat' first | refine rnY ?_ | with_reducible refine And.intro (fun hc => ?_) (fun hc => ?_) | fail
        rw [hf] at hQ
        exact hQ.out _ _ ((OwnB.tup (lo := H.size) (hi := H.size) (l := [.slice none 0 0, B false]) (l' := [zI [], B false]) (.cflats (OwnB.nilr 1) (fun x hx => by simp at hx; subst hx; rfl))).fin) (by exact exY)
      · obtain ⟨i, rfl⟩ : ∃ i, k = i + 1 := ⟨k - 1, by omega⟩
        have hst := hst i
        have hgo := hgo i
        have hzz := zf_zero u i (by omega)
        have hzg := zf_get u (i + 1) i (by omega)
        rw [if_pos (by omega)] at hzg
        have hLi := hLe i (by omega)
        have hbi := hb i
        have hi1 : ((i + 1 : Nat) : Int) - 1 = i := by omega
        clear hfin hLe hz hb h00
        by_cases he : u.getD i 0 = v.getD i 0
        · rw [if_pos he] at hst
          have hb1 : decide (u.getD i 0 < v.getD i 0) = false := decide_eq_false (by omega)
          rw [hst] at hln
          clear he hgo hst
          repeat' first | refine rnY ?_ | with_reducible refine And.intro (fun hc => ?_) (fun hc => ?_) | fail
          refine AWp.zreg [(0, none), (1, none), (2, none), (3, none), (4, none), (5, none), (6, none), (7, none), (8, none)] mixed (by kernel_rfl) ?_
          repeat' first | refine rzY ?_ | fail
          repeat' first | refine rnY ?_ | with_reducible refine And.intro (fun hc => ?_) (fun hc => ?_) | fail
          exact ⟨⟨i, agY, by omega, hln, by rw [← hzz]⟩, by exact ivY⟩
        · rw [if_neg he] at hst
          have hb1 : decide (u.getD i 0 < v.getD i 0) = true := decide_eq_true (by omega)
          have hout := hgo (by rw [hln, hst])
          clear hgo hst hzz
          generalize zf u (i + 1) = Z at *
          repeat' first | refine rnY ?_ | with_reducible refine And.intro (fun hc => ?_) (fun hc => ?_) | fail
          refine AWp.zreg [(0, none), (1, none), (2, none), (3, none), (4, none), (5, none), (6, none), (7, none), (8, none)] mixed (by kernel_rfl) ?_
          repeat' first | refine rzY ?_ | fail
          repeat' first | refine rnY ?_ | with_reducible refine And.intro (fun hc => ?_) (fun hc => ?_) | fail
          rw [hout] at hQ
          have hZl : (Z.set i (u.getD i 0 + 1)).length = v.length := by rw [List.length_set]; omega
          have hO : OwnB H.size (H.size + 1 + 1) ((H.push (.cells [] 1 false)).push (.cells (ints (Z.set i (u.getD i 0 + 1))) 1 false)) [.slice (some ⟨H.size + 1, 0, none⟩) v.length 0] [zI (Z.set i (u.getD i 0 + 1))] := by
            unfold Zed.zI; rw [hZl]; exact OwnB.ints (by omega) (by omega) hZl (get_push_eq (by simp only [nx]))
          exact hQ.out _ _ ((OwnB.tup (l := [_, B true]) (l' := [zI (Z.set i (u.getD i 0 + 1)), B true]) (.cflats hO (fun x hx => by simp at hx; subst hx; rfl))).fin) (by exact exY)
end Go.Proofs.YtmoknllbpjpkmaaGreat.Zed
namespace Go.Proofs.YtmoknllbpjpkmaaGreat.Zed
open Go TP
set_option linter.unusedVariables false
set_option linter.unusedSimpArgs false
set_option maxRecDepth 20000
namespace tfY9
theorem tf : (Tryz.prog.underlying 25 = some (.slice 2)) ∧ (el Tryz.prog 25 = some (none, 1)) ∧ (Tryz.prog.underlying 37 = some (.slice 25)) ∧ (el Tryz.prog 37 = some (none, 1)) ∧ (tk Tryz.prog 2 = some none) ∧ (tk Tryz.prog 25 = some none) ∧ (tk Tryz.prog 31 = some (some 1)) ∧ (cz Tryz.prog 2 = some 1) ∧ (bz Tryz.prog 2 = some 8) ∧ (cz Tryz.prog 25 = some 1) ∧ (bz Tryz.prog 25 = some 24) ∧ (zr Tryz.prog 2 = some (.int .i64 0)) ∧ (zr Tryz.prog 25 = some (.slice none 0 0)) := by
  refine ⟨?_, ?_, ?_, ?_, ?_, ?_, ?_, ?_, ?_, ?_, ?_, ?_, ?_⟩ <;> kernel_rfl
end tfY9
open tfY9

/-- A vector solves the rows M. -/
def svM (M : List (List Int)) (n : Nat) (u : List Int) : Bool := decide (∀ r, r < M.length → dotL (M.getD r []) u n = 0)
set_option maxHeartbeats 2000000 in
theorem l20Solves_z {M : List (List Int)} {n : Nat} {u : List Int} (hM : ∀ r ∈ M, r.length = n) (hM2 : ∀ r ∈ M, ∀ j, -4 ≤ r.getD j 0 ∧ r.getD j 0 ≤ 4) (hMl : M.length ≤ 1000) (hn : n ≤ 1000) (hu : u.length = n) (hb : ∀ j, 0 ≤ u.getD j 0 ∧ u.getD j 0 ≤ 1000) :
    ZCalls Tryz.prog 74 [FZ 1 M.length (rowsZ n M), zI u] (B (svM M n u)) := by
  have hno : ∀ r, r < M.length → dotL (M.getD r []) u n ≠ 0 → svM M n u = false := fun r hr h => decide_eq_false fun q => h (q r hr)
  have hyes : (∀ r, r < M.length → dotL (M.getD r []) u n = 0) → svM M n u = true := fun h => decide_eq_true h
  generalize svM M n u = out at *
  have hrl := rowsZ_len n M
  have hrg : ∀ r, r < M.length → (rowsZ n M)[r]? = some (FZ 1 n (ints (M.getD r []))) := fun r hr => by simp [rowsZ, hr]
  generalize rowsZ n M = Z at *
  refine ZCalls.body Tryz.func74 rfl Tryz.ntmps74 (rs := [.tmp 4]) rfl (by simp) rfl fun H Q hQ A hA => ?_
  have a0 := hA 0 _ _ rfl
  have a1 := hA 1 _ _ rfl
  clear hA
  repeat' first | refine rnY ?_ | with_reducible refine And.intro (fun hc => ?_) (fun hc => ?_) | fail
  refine AWp.cut (fun Ac hAc => ?_)
  have c0 := gtY (t := 0) hAc
  have c1 := gtY (t := 1) hAc
  have c5 := gtY (t := 5) hAc
  clear a0 a1
  refine AWp.loop (fun A' H' => ∃ (k : Nat), Ag [6, 7, 8, 9, 10, 11, 12, 13, 14, 15, 16, 17, 18] A' (put Ac (some 5) (I k)) ∧ k ≤ M.length ∧ (∀ j, j < k → dotL (M.getD j []) u n = 0) ∧ Ext H H') (fun A' _ => M.length - (intV (A' 5)).toNat) ?_ ?_
  · exact ⟨0, agY, by omega, fun j hj => by omega, by exact exY⟩
  · rintro A1 H1 ⟨k, hA1, hk, hal, hx⟩
    have d0 := gdY (t := 0) hA1
    have d1 := gdY (t := 1) hA1
    have d5 := gdY (t := 5) hA1
    by_cases hlt : k < M.length
    · have hin : M.getD k [] ∈ M := by simp [hlt]
      have hd := l17Dot_z (a := M.getD k []) (b := u) (A := 4) (B' := 1000) (hM _ hin) (by omega) hn (by omega) (by omega) (by omega) (hM2 _ hin) (fun j => by have := hb j; omega)
      have hrg := hrg k hlt
      have hno := hno k hlt
      clear hM hM2 hyes hin hb
      by_cases he : dotL (M.getD k []) u n = 0
      · have heb : (dotL (M.getD k []) u n == 0) = true := by rw [beq_iff_eq]; exact he
        have hal2 : ∀ j, j < k + 1 → dotL (M.getD j []) u n = 0 := fun j hj => by
          rcases Nat.lt_or_ge j k with h | h
          · exact hal j h
          · obtain rfl : j = k := by omega
            exact he
        clear he hno hal
        repeat' first | refine rnY ?_ | (first | refine ZCalls.to (hd) ?_ | refine ZCalls.tf (hd) ?_) | with_reducible refine And.intro (fun hc => ?_) (fun hc => ?_) | fail
        exact ⟨⟨k + 1, agY, by omega, hal2, by exact exY⟩, by exact ivY⟩
      · have heb : (dotL (M.getD k []) u n == 0) = false := by rw [beq_eq_false_iff_ne]; exact he
        have hout := hno he
        clear he hno hal
        repeat' first | refine rnY ?_ | (first | refine ZCalls.to (hd) ?_ | refine ZCalls.tf (hd) ?_) | with_reducible refine And.intro (fun hc => ?_) (fun hc => ?_) | fail
        exact hQ.out _ _ (.eq (Cl.bool _) (by rw [hout])) (by exact exY)
    · obtain rfl : k = M.length := by omega
      have hout := hyes hal
      clear hyes hal hno hM hM2 hb hrg
      repeat' first | refine rnY ?_ | with_reducible refine And.intro (fun hc => ?_) (fun hc => ?_) | fail
      exact hQ.out _ _ (.eq (Cl.bool _) (by rw [hout])) (by exact exY)
theorem LeL.bd {u v : List Int} (h : LeL u v) (hb : ∀ j, v.getD j 0 ≤ 1000) : ∀ j, 0 ≤ u.getD j 0 ∧ u.getD j 0 ≤ 1000 := fun j => by
  by_cases hj : j < v.length
  · have := h.2 j hj
    have := hb j
    omega
  · have : u.getD j 0 = 0 := by rw [List.getD_eq_getElem?_getD, List.getElem?_eq_none (by have := h.1; omega)]; rfl
    omega
theorem nonneg_mem {v : List Int} (h : ∀ j, 0 ≤ v.getD j 0) : ∀ x ∈ v, 0 ≤ x := fun x hx => by
  obtain ⟨i, hi, rfl⟩ := List.getElem_of_mem hx
  have := h i
  simpa [hi] using this
/-- The solutions among the parts of v. -/
abbrev PT (T : List (List (Int × Int))) (v : List Int) : List (List Int) := PL (svM (mmR T) (7 * T.length)) v
set_option maxHeartbeats 8000000 in
theorem l20Parts_z {T : List (List (Int × Int))} (hT : IsTri T) (h6 : T.length ≤ 6) {v : List Int} (hv : v.length = 7 * T.length) (hb : ∀ j, 0 ≤ v.getD j 0 ∧ v.getD j 0 ≤ 1000) (hc : (allU v).length ≤ 100000) : ZCalls Tryz.prog 50 [zT T, zI v] (zII (PT T v)) := by
  have hrows := l17Rows_z hT.fine
  rw [rows_same hT] at hrows
  have hS := fun {u : List Int} (hu : LeL u v) => l20Solves_z (mmR_rows T) (mTs_bd T.length T T.length) (by have := mmR_len T; omega) (by omega) (hu.1.trans hv) (hu.bd fun j => (hb j).2)
  have hnn := nonneg_mem fun j => (hb j).1
  have hlk := fun n u => (Lnk.get (allU_lnk v hnn) (n := n) (a := u))
  have hmm : ∀ n u, (allU v)[n]? = some u → LeL u v := fun n u h => (mem_allU v u hnn).1 (List.mem_of_getElem? h)
  have hN := fun {u : List Int} (hu : LeL u v) => l20Next_z hu (by omega) (fun j => (hb j).2)
  have hhd := allU_head v
  rw [List.head?_eq_getElem?] at hhd
  have hpt : PT T v = (allU v).filter (svM (mmR T) (7 * T.length)) := rfl
  rw [hpt]
  rw [hv] at hhd
  generalize svM (mmR T) (7 * T.length) = sv at *
  generalize allU v = U at *
  generalize mmR T = M at *
  clear hT hpt hnn hb
  have hvl : v.length ≤ 42 := by omega
  obtain ⟨z0, hz0⟩ : ∃ z0, List.replicate (7 * T.length) (0 : Int) = z0 := ⟨_, rfl⟩
  have hz7 : z0.length = 7 * T.length := by rw [← hz0]; simp
  rw [hz0] at hhd
  refine ZCalls.body Tryz.func50 rfl Tryz.ntmps50 (rs := [.tmp 4]) rfl (by simp) rfl fun H Q hQ A hA => ?_
  have a0 := hA 0 _ _ rfl
  have a1 := hA 1 _ _ rfl
  clear hA
  have zf0 := @rep_ints
  have zf1 := @zero1
  repeat' first | refine rnY ?_ | (first | refine ZCalls.to (hrows) ?_ | refine ZCalls.tf (hrows) ?_) | with_reducible refine And.intro (fun hc => ?_) (fun hc => ?_) | fail
  refine AWp.growE (t := 6) 1 (by decide) (by exact ivY) ?_
  refine AWp.freezeI (t := 7) (g := H.size + 1) z0 z0.length (by exact ivY) (by exact ivY) rfl hz7.symm rfl ?_
  clear hz7
  refine AWp.cut (fun Ac hAc => ?_)
  have c1 := gtY (t := 1) hAc
  have c5 := gtY (t := 5) hAc
  have c6 := gtY (t := 6) hAc
  have c7 := gtY (t := 7) hAc
  have c8 := gtY (t := 8) hAc
  clear a0 a1 hrows hz0
  have ho0 : (U.take 0).filter sv = [] := rfl
  have hof : (U.take U.length).filter sv = U.filter sv := by rw [List.take_length]
  have hos : ∀ n u, U[n]? = some u → (U.take (n + 1)).filter sv = if sv u then (U.take n).filter sv ++ [u] else (U.take n).filter sv := fun n u h => by
    obtain ⟨h1, h2⟩ := List.getElem?_eq_some_iff.1 h
    rw [List.take_succ_eq_append_getElem h1, List.filter_append, h2]
    cases hs : sv u <;> simp [hs]
  have hol : ∀ n, ((U.take n).filter sv).length ≤ n := fun n => Nat.le_trans (List.length_filter_le _ _) (by rw [List.length_take]; omega)
  have hUp : 0 < U.length := (List.getElem?_eq_some_iff.1 hhd).1
  refine AWp.loopx (σ := Nat) (fun s A' H' => ∃ (n : Nat) (u : List Int) (b : Bool), Ag [15, 16, 17, 18, 19, 20, 21, 22, 23, 24, 25, 26, 27, 28] A' (put (put (put Ac (some 6) (GZ (H.size + 1 + 1) 1 ((U.take n).filter sv).length (((U.take n).filter sv).map fun r => zI r))) (some 7) (zI u)) (some 8) (B b)) ∧ s + n = U.length ∧ (n < U.length → U[n]? = some u ∧ b = true) ∧ (n = U.length → b = false) ∧ Ext H H' ∧ H'.get (H.size + 1 + 1) = .tok ((U.take n).filter sv).length 1 ∧ H.size + 1 + 1 < H'.size) (fun s => s) (U.length) ?_ ?_
  · refine ⟨0, z0, true, ?_, by omega, fun _ => ⟨hhd, rfl⟩, fun h => by omega, by exact exY, by rw [ho0]; exact ivY, by simp only [nx]; omega⟩
    rw [ho0]; exact agY
  · rintro s A1 H1 ⟨n, u, b, hA1, hsn, hb1, hb2, hx, htg, htz⟩
    have d1 := gdY (t := 1) hA1
    have d5 := gdY (t := 5) hA1
    have d6 := gdY (t := 6) hA1
    have d7 := gdY (t := 7) hA1
    have d8 := gdY (t := 8) hA1
    by_cases hlt : n < U.length
    · obtain ⟨hu, rfl⟩ := hb1 hlt
      have hS := hS (hmm n u hu)
      have hN := hN (hmm n u hu)
      have hlk := hlk n u hu
      have hos := hos n u hu
      have hol := hol n
      have hnext : ∃ u' b', nextV u v = .tuple #[zI u', B b'] ∧ (n + 1 < U.length → U[n + 1]? = some u' ∧ b' = true) ∧ (n + 1 = U.length → b' = false) := by
        unfold nextV
        rw [hlk]
        cases hg : U[n + 1]? with
        | none => exact ⟨[], false, rfl, fun h => (by rw [List.getElem?_eq_getElem h] at hg; cases hg), fun _ => rfl⟩
        | some u' => exact ⟨u', true, rfl, fun _ => ⟨rfl, rfl⟩, fun h => (by rw [List.getElem?_eq_none (by omega)] at hg; cases hg)⟩
      obtain ⟨u', b', hn1, hn2, hn3⟩ := hnext
      rw [hn1] at hN
      clear hn1 hlk hmm hb1 hb2 hof ho0 hhd
      generalize (U.take n).filter sv = R at *
      cases hs : sv u
      · rw [hs] at hS hos
        rw [if_neg (by decide)] at hos
        repeat' first | refine rnY ?_ | (first | refine ZCalls.to (hS) ?_ | refine ZCalls.tf (hS) ?_) | (first | refine ZCalls.to (hN) ?_ | refine ZCalls.tf (hN) ?_) | with_reducible refine And.intro (fun hc => ?_) (fun hc => ?_) | fail
        exact ⟨s - 1, ⟨n + 1, u', b', by rw [hos]; exact agY, by omega, hn2, hn3, by exact exY, by rw [hos]; exact ivY, by exact ivY⟩, by omega⟩
      · rw [hs] at hS hos
        rw [if_pos rfl] at hos
        repeat' first | refine rnY ?_ | (first | refine ZCalls.to (hS) ?_ | refine ZCalls.tf (hS) ?_) | (first | refine ZCalls.to (hN) ?_ | refine ZCalls.tf (hN) ?_) | with_reducible refine And.intro (fun hc => ?_) (fun hc => ?_) | fail
        exact ⟨s - 1, ⟨n + 1, u', b', by rw [hos]; exact agY, by omega, hn2, hn3, by exact exY, by rw [hos]; exact ivY, by exact ivY⟩, by omega⟩
    · obtain rfl : n = U.length := by omega
      obtain rfl := hb2 rfl
      clear hos hol ho0 hof hmm hlk hS hN hb1 hb2
      repeat' first | refine rnY ?_ | with_reducible refine And.intro (fun hc => ?_) (fun hc => ?_) | fail
      exact hQ.out _ _ (fv) (by exact exY)
end Go.Proofs.YtmoknllbpjpkmaaGreat.Zed
namespace Go.Proofs.YtmoknllbpjpkmaaGreat.Zed
open Go TP
set_option linter.unusedVariables false
set_option linter.unusedSimpArgs false
set_option maxRecDepth 20000
namespace tfY10
theorem tf : (Tryz.prog.underlying 25 = some (.slice 2)) ∧ (el Tryz.prog 25 = some (none, 1)) ∧ (tk Tryz.prog 2 = some none) ∧ (tk Tryz.prog 31 = some (some 1)) ∧ (tk Tryz.prog 100 = some (some 3)) ∧ (cz Tryz.prog 2 = some 1) ∧ (bz Tryz.prog 2 = some 8) ∧ (zr Tryz.prog 2 = some (.int .i64 0)) ∧ (zr Tryz.prog 100 = some (.agg #[.int .i64 0, .int .i64 0, .slice none 0 0])) ∧ (fo Tryz.prog 100 0 = some (0, none)) := by
  refine ⟨?_, ?_, ?_, ?_, ?_, ?_, ?_, ?_, ?_, ?_⟩ <;> kernel_rfl
end tfY10
open tfY10

theorem solvesPT_z {T : List (List (Int × Int))} (h6 : T.length ≤ 6) {u : List Int} (hu : u.length = 7 * T.length) (hb : ∀ j, 0 ≤ u.getD j 0 ∧ u.getD j 0 ≤ 1000) :
    ZCalls Tryz.prog 82 [mxV (mmR T).length (7 * T.length) (mmR T).flatten, zI u] (B (svM (mmR T) (7 * T.length) u)) := by
  have hrows : ∀ r, r < (mmR T).length → rowN (mmR T).flatten (7 * T.length) r = (mmR T).getD r [] := fun r hr => flat_row (mmR_rows T) r hr
  have hml := mmR_len T
  have hsol := solves_z (R := (mmR T).length) (C := 7 * T.length) (L := (mmR T).flatten) (w := u) (A := 4) (B' := 1000) (flat_len (mmR_rows T)) (by omega) (by omega) (by omega) (by omega) (by omega) (by omega)
    (fun r hr j => by
      rw [hrows r hr]
      have hin : (mmR T).getD r [] ∈ mmR T := by simp [hr]
      exact mTs_bd T.length T T.length _ hin j)
    (fun j => by have := hb j; omega)
  have hdec : decide (∀ r, r < (mmR T).length → dotL (rowN (mmR T).flatten (7 * T.length) r) u (7 * T.length) = 0) = svM (mmR T) (7 * T.length) u := by
    unfold svM
    congr 1
    exact propext ⟨fun h r hr => by have := h r hr; rw [hrows r hr] at this; exact this, fun h r hr => by rw [hrows r hr]; exact h r hr⟩
  rw [hdec] at hsol
  have e7 : (((7 * T.length : Nat)) : Int) = 7 * (T.length : Int) := by omega
  rw [e7] at hsol
  exact hsol
set_option maxHeartbeats 8000000 in
theorem parts_g {T : List (List (Int × Int))} (hT : IsTri T) (h6 : T.length ≤ 6) {v : List Int} (hv : v.length = 7 * T.length) (hb : ∀ j, 0 ≤ v.getD j 0 ∧ v.getD j 0 ≤ 1000) (F : FuncId) (env : Value) {H : Heap} (J : Nat → Nat → Heap → Prop) (Jx : Nat → Heap → Prop)
    (hkeep : ∀ g k H1 H2, J g k H1 → H1.size ≤ H2.size → (∀ b, b < H1.size → b ≠ g → H2.get b = H1.get b) → J g k H2)
    (h0 : ∀ g H1, Ext H H1 → H.size ≤ g → g < H1.size → J g 0 H1)
    (visit : ∀ H1 g k u, (PT T v)[k]? = some u → J g k H1 → H.size ≤ g → g < H1.size → H1.get g = .cells (ints u) 1 false →
      ACalls Tryz.prog F [.slice (some ⟨g, 0, none⟩) v.length (v.length + 1), env] H1 fun r H2 => ∃ b, r = B b ∧ H1.size ≤ H2.size ∧ (∀ x, H.size ≤ x → x ≤ g → H2.get x = H1.get x) ∧ ((b = true ∧ J g (k + 1) H2) ∨ (b = false ∧ Jx k H2))) :
    ACalls Tryz.prog 53 [zT T, zI v, .func (.func F) #[] #[env]] H fun r H' => r = undef ∧ ((∃ g, J g (PT T v).length H') ∨ ∃ k, Jx k H') := by
  have hmm := matchingMatrix_z hT.fine
  have hS := fun {u : List Int} (hu : LeL u v) => solvesPT_z h6 (hu.1.trans hv) (hu.bd fun j => (hb j).2)
  have hnn := nonneg_mem fun j => (hb j).1
  have hlk := fun n u => (Lnk.get (allU_lnk v hnn) (n := n) (a := u))
  have hLe : ∀ n u, (allU v)[n]? = some u → LeL u v := fun n u h => (mem_allU v u hnn).1 (List.mem_of_getElem? h)
  have hhd := allU_head v
  rw [List.head?_eq_getElem?] at hhd
  have hpt : PT T v = (allU v).filter (svM (mmR T) (7 * T.length)) := rfl
  rw [hpt] at visit ⊢
  have hvl : v.length ≤ 42 := by omega
  generalize svM (mmR T) (7 * T.length) = sv at *
  generalize allU v = U at *
  generalize (mmR T).flatten = L at *
  generalize ((mmR T).length : Int) = R at *
  generalize (7 * (T.length : Int)) = C at *
  clear hT hpt hnn hv
  obtain ⟨z0, hz0⟩ : ∃ z0, List.replicate v.length (0 : Int) = z0 := ⟨_, rfl⟩
  rw [hz0] at hhd
  refine ACalls.body Tryz.func53 rfl Tryz.ntmps53 (rs := []) rfl (by simp) rfl fun Q hQ A hA => ?_
  have a0 := hA 0 _ _ rfl
  have a1 := hA 1 _ _ rfl
  have a2 := hA 2 _ _ rfl
  clear hA
  have zf0 := @rep_ints
  have zf1 := @zero1
  repeat' first | refine rnY ?_ | (first | refine ZCalls.to (hmm) ?_ | refine ZCalls.tf (hmm) ?_) | with_reducible refine And.intro (fun hc => ?_) (fun hc => ?_) | fail
  refine AWp.cut (fun Ac hAc => ?_)
  have c1 := gtY (t := 1) hAc
  have c2 := gtY (t := 2) hAc
  have c6 := gtY (t := 6) hAc
  have c7 := gtY (t := 7) hAc
  clear a0 a1 a2 hmm hz0
  have ho0 : (U.take 0).filter sv = [] := rfl
  have hof : (U.take U.length).filter sv = U.filter sv := by rw [List.take_length]
  have hos : ∀ n u, U[n]? = some u → (U.take (n + 1)).filter sv = if sv u then (U.take n).filter sv ++ [u] else (U.take n).filter sv := fun n u h => by
    obtain ⟨h1, h2⟩ := List.getElem?_eq_some_iff.1 h
    rw [List.take_succ_eq_append_getElem h1, List.filter_append, h2]
    cases hs : sv u <;> simp [hs]
  have hkth : ∀ n u, U[n]? = some u → sv u = true → (U.filter sv)[((U.take n).filter sv).length]? = some u := fun n u h hs => by
    obtain ⟨h1, h2⟩ := List.getElem?_eq_some_iff.1 h
    have e : U.filter sv = (U.take n).filter sv ++ (U.drop n).filter sv := by rw [← List.filter_append, List.take_append_drop]
    rw [e, List.getElem?_append_right (Nat.le_refl _), Nat.sub_self, List.drop_eq_getElem_cons h1, h2, List.filter_cons_of_pos hs]
    rfl
  have hUp : 0 < U.length := (List.getElem?_eq_some_iff.1 hhd).1
  refine AWp.loopx (σ := Nat) (fun s A' H' => ∃ (n : Nat) (u : List Int), Ag [8, 14, 15, 16, 17, 18, 19, 20, 21, 22, 23, 24, 25, 26, 27, 28, 29, 30, 31, 32, 33, 34, 35, 36, 37, 38, 39, 40, 41, 42, 43, 44, 45, 46, 47, 48, 49, 50, 51] A' Ac ∧ s + n = U.length ∧ U[n]? = some u ∧ J (H.size + 1) ((U.take n).filter sv).length H' ∧ H'.get H.size = .cells [I R, I C, zI L] 1 false ∧ H'.get (H.size + 1) = .cells (ints u) 1 false ∧ H.size + 1 < H'.size) (fun s => s) (U.length) ?_ ?_
  · exact ⟨0, z0, agY, by omega, hhd, by rw [ho0]; exact h0 _ _ (by exact exY) (by omega) (by simp only [nx]; omega), by exact ivY, by exact ivY, by simp only [nx]; omega⟩
  · rintro s A1 H1 ⟨n, u, hA1, hsn, hu, hJ, hm, hg, hz⟩
    have d1 := gdY (t := 1) hA1
    have d2 := gdY (t := 2) hA1
    have d6 := gdY (t := 6) hA1
    have d7 := gdY (t := 7) hA1
    have hLu := hLe n u hu
    have hul := hLu.1
    have hS := hS hLu
    have hzu : zI u = FZ 1 v.length (ints u) := by unfold Zed.zI; rw [hul]
    rw [hzu] at hS
    have hlk := hlk n u hu
    have hos := hos n u hu
    have hkth := hkth n u hu
    have hvis := fun H2 hk => visit H2 (H.size + 1) ((U.take n).filter sv).length u hk
    have hnx := nx_ln u v hul
    have hnlt : n < U.length := (List.getElem?_eq_some_iff.1 hu).1
    have hfin : nxU u v = none → (U.take (n + 1)).filter sv = U.filter sv := fun h => by
      rw [h] at hlk
      have : U.length ≤ n + 1 := Nat.le_of_not_lt fun hc => by rw [List.getElem?_eq_getElem hc] at hlk; cases hlk
      rw [List.take_of_length_le this]
    have hOu : OwnB H.size H1.size H1 [.slice (some ⟨H.size + 1, 0, none⟩) v.length (v.length + 1)] [FZ 1 v.length (ints u)] := OwnB.ints (by omega) hz hul hg
    clear visit hLe h0 ho0
    cases hs : sv u
    case' false =>
      rw [hs] at hS hos
      rw [if_neg (by decide)] at hos
      clear hvis hkth
      rw [← hos] at hJ
      clear hos
      generalize hKe : (U.take (n + 1)).filter sv = K at *
      repeat' first | refine rnY ?_ | (refine (hS.lend rfl (.cl (Cl.mx R C L) (.ownB hOu .nil))).mono ?_; rintro r H3 ⟨rfl, he⟩; have hJ3 := hkeep _ _ _ _ hJ he.size (fun b hb _ => he.get b hb); have hm3 := (he.get _ (by omega)).trans hm; have hg3 := (he.get _ hz).trans hg; have hz3 : H.size + 1 < H3.size := Nat.lt_of_lt_of_le hz he.size; clear hJ hm hg hOu he) | with_reducible refine And.intro (fun hc => ?_) (fun hc => ?_) | fail
    case' true =>
      rw [hs] at hS hos
      rw [if_pos rfl] at hos
      have hvis := fun H2 => hvis H2 (hkth hs)
      clear hkth
      have hKl : ((U.take (n + 1)).filter sv).length = ((U.take n).filter sv).length + 1 := by rw [hos]; simp
      rw [← hKl] at hvis
      generalize ((U.take n).filter sv).length = kk at *
      clear hos hKl
      generalize hKe : (U.take (n + 1)).filter sv = K at *
      repeat' first | refine rnY ?_ | (refine (hS.lend rfl (.cl (Cl.mx R C L) (.ownB hOu .nil))).mono ?_; rintro r H2 ⟨rfl, he⟩; have hJ2 := hkeep _ _ _ _ hJ he.size (fun b hb _ => he.get b hb); have hm2 := (he.get _ (by omega)).trans hm; have hg2 := (he.get _ hz).trans hg; have hz2 : H.size + 1 < H2.size := Nat.lt_of_lt_of_le hz he.size; clear hJ hm hg hOu he) | (refine (hvis H2 hJ2 (by omega) hz2 hg2).mono ?_; rintro r H3 ⟨b, rfl, hzz3, hsame, ⟨rfl, hJ3⟩ | ⟨rfl, hJx⟩⟩; (have hm3 := (hsame _ (Nat.le_refl _) (by omega)).trans hm2; have hg3 := (hsame _ (by omega) (Nat.le_refl _)).trans hg2; have hz3 : H.size + 1 < H3.size := Nat.lt_of_lt_of_le hz2 hzz3; clear hJ2 hm2 hg2 hvis hsame)) | with_reducible refine And.intro (fun hc => ?_) (fun hc => ?_) | fail
      rotate_left
      · exact hQ.out _ _ ⟨rfl, .inr ⟨_, hJx⟩⟩
    all_goals
      refine AWp.cut (fun Ae hAe => ?_)
      have e1 := gtY (t := 1) hAe
      have e2 := gtY (t := 2) hAe
      have e6 := gtY (t := 6) hAe
      have e7 := gtY (t := 7) hAe
      have e8 := gtY (t := 8) hAe
      have hzA := zf_all u
      refine AWp.loop (fun A' H' => ∃ (k : Nat), Ag [26, 27, 28, 29, 30, 31, 32, 33, 34, 35, 36, 37, 38, 39, 40, 41, 42, 43] A' (put Ae (some 8) (I ((k : Int) - 1))) ∧ k ≤ u.length ∧ ln u v u.length = ln u v k ∧ J (H.size + 1) K.length H' ∧ H'.get H.size = .cells [I R, I C, zI L] 1 false ∧ H'.get (H.size + 1) = .cells (ints (zf u k)) 1 false ∧ H.size + 1 < H'.size) (fun A' _ => ((intV (A' 8)) + 1).toNat) ?_ ?_
      · exact ⟨u.length, by rw [hul]; exact agY, by omega, rfl, hJ3, hm3, by rw [hzA]; exact hg3, hz3⟩
      · clear hJ3 hm3 hg3 hz3 hzA
        rintro A3 H4 ⟨k, hA3, hk, hln, hJ4, hm4, hg4, hz4⟩
        have f1 := gdY (t := 1) hA3
        have f2 := gdY (t := 2) hA3
        have f6 := gdY (t := 6) hA3
        have f7 := gdY (t := 7) hA3
        have f8 := gdY (t := 8) hA3
        have hzl := zf_len u k
        by_cases hk0 : k = 0
        · subst hk0
          have hK := hfin (by rw [hnx, hln]; rfl)
          have hneg : decide (((0 : Nat) : Int) - 1 ≥ 0) = false := rfl
          clear hfin hnx hlk hul
          repeat' first | refine rnY ?_ | with_reducible refine And.intro (fun hc => ?_) (fun hc => ?_) | fail
          refine AWp.zreg [(0, none), (1, none), (2, none), (3, none), (4, none), (5, none), (6, none), (7, none), (8, none), (9, none), (10, none), (11, none), (12, none)] mixed (by kernel_rfl) ?_
          repeat' first | refine rzY ?_ | fail
          repeat' first | refine rnY ?_ | with_reducible refine And.intro (fun hc => ?_) (fun hc => ?_) | fail
          exact hQ.out _ _ ⟨rfl, .inl ⟨_, by rw [← hK]; exact hJ4⟩⟩
        · obtain ⟨i, rfl⟩ : ∃ i, k = i + 1 := ⟨k - 1, by omega⟩
          have hst : ln u v (i + 1) = if u.getD i 0 = v.getD i 0 then ln u v i else i + 1 := rfl
          have hzz := zf_zero u i (by omega)
          have hzg := zf_get u (i + 1) i (by omega)
          rw [if_pos (by omega)] at hzg
          have hi1 : ((i + 1 : Nat) : Int) - 1 = i := by omega
          have hpos : decide ((i : Int) ≥ 0) = true := decide_eq_true (by omega)
          by_cases he : u.getD i 0 = v.getD i 0
          · rw [if_pos he] at hst
            have heb : (u.getD i 0 == v.getD i 0) = true := by rw [beq_iff_eq]; exact he
            rw [hst] at hln
            have hJ5 := hkeep _ _ _ (H4.set (H.size + 1) (.cells (ints (zf u i)) 1 false)) hJ4 (Nat.le_refl _) (fun b _ hb => get_set_ne hb)
            clear he hst hfin hnx hlk
            repeat' first | refine rnY ?_ | with_reducible refine And.intro (fun hc => ?_) (fun hc => ?_) | fail
            refine AWp.zreg [(0, none), (1, none), (2, none), (3, none), (4, none), (5, none), (6, none), (7, none), (8, none), (9, none), (10, none), (11, none), (12, none)] mixed (by kernel_rfl) ?_
            repeat' first | refine rzY ?_ | fail
            repeat' first | refine rnY ?_ | with_reducible refine And.intro (fun hc => ?_) (fun hc => ?_) | fail
            exact ⟨⟨i, agY, by omega, hln, hJ5, by exact ivY, by rw [← hzz]; exact ivY, by exact ivY⟩, by exact ivY⟩
          · rw [if_neg he] at hst
            have heb : (u.getD i 0 == v.getD i 0) = false := by rw [beq_eq_false_iff_ne]; exact he
            rw [hst] at hln
            rw [hln] at hnx
            rw [if_neg (by omega), Nat.add_sub_cancel] at hnx
            rw [hnx] at hlk
            have hJ5 := hkeep _ _ _ (H4.set (H.size + 1) (.cells (ints ((zf u (i + 1)).set i (u.getD i 0 + 1))) 1 false)) hJ4 (Nat.le_refl _) (fun b _ hb => get_set_ne hb)
            have hbi := hb i
            have hui := (hLu.2 i (by omega))
            clear he hst hfin hnx hzz hln hb hLu
            repeat' first | refine rnY ?_ | with_reducible refine And.intro (fun hc => ?_) (fun hc => ?_) | fail
            refine AWp.zreg [(0, none), (1, none), (2, none), (3, none), (4, none), (5, none), (6, none), (7, none), (8, none), (9, none), (10, none), (11, none), (12, none)] mixed (by kernel_rfl) ?_
            repeat' first | refine rzY ?_ | fail
            repeat' first | refine rnY ?_ | with_reducible refine And.intro (fun hc => ?_) (fun hc => ?_) | fail
            exact ⟨s - 1, ⟨n + 1, (zf u (i + 1)).set i (u.getD i 0 + 1), agY, by omega, hlk.symm, by rw [hKe]; exact hJ5, by exact ivY, by exact ivY, by exact ivY⟩, by omega⟩
end Go.Proofs.YtmoknllbpjpkmaaGreat.Zed
namespace Go.Proofs.YtmoknllbpjpkmaaGreat.Zed
open Go TP
set_option linter.unusedVariables false
set_option linter.unusedSimpArgs false
set_option maxRecDepth 20000
namespace tfY11
theorem tf : (Tryz.prog.underlying 25 = some (.slice 2)) ∧ (el Tryz.prog 25 = some (none, 1)) ∧ (tk Tryz.prog 2 = some none) ∧ (tk Tryz.prog 25 = some none) ∧ (tk Tryz.prog 31 = some (some 1)) ∧ (cz Tryz.prog 2 = some 1) ∧ (bz Tryz.prog 2 = some 8) ∧ (zr Tryz.prog 2 = some (.int .i64 0)) ∧ (zr Tryz.prog 25 = some (.slice none 0 0)) := by
  refine ⟨?_, ?_, ?_, ?_, ?_, ?_, ?_, ?_, ?_⟩ <;> kernel_rfl
end tfY11
open tfY11

theorem fstVisit_no {H : Heap} {bm g : Nat} {u : List Int} (hbm : bm < H.size) (hg : g < H.size) (hne : bm ≠ g) (hb0 : H.get bm = .cells [.slice none 0 0] 1 false) (hgu : H.get g = .cells (ints u) 1 false) (hl : u.length ≤ 1000) (hb : ∀ j, 0 ≤ u.getD j 0 ∧ u.getD j 0 ≤ 1000) (hz : gT u u.length = 0) :
    ACalls Tryz.prog 54 [.slice (some ⟨g, 0, none⟩) u.length (u.length + 1), .pointer (some ⟨bm, 0, none⟩)] H fun r H' => r = B true ∧ Ext H H' := by
  have hgc := gcdOf_z (l := u) (by omega) hb
  rw [hz] at hgc
  have hO : OwnB 0 H.size H [.slice (some ⟨g, 0, none⟩) u.length (u.length + 1)] [zI u] := OwnB.ints (by omega) hg rfl hgu
  refine ACalls.body Tryz.func54 rfl Tryz.ntmps54 (rs := [.tmp 3]) rfl (by simp) rfl fun Q hQ A hA => ?_
  have a0 := hA 0 _ _ rfl
  have a1 := hA 1 _ _ rfl
  clear hA
  repeat' first | refine rnY ?_ | (refine (hgc.lend rfl (.ownB hO .nil)).mono ?_; rintro r H2 ⟨rfl, he⟩; have heg := he.get; have hes := he.size; (try simp only [nx] at hes)) | with_reducible refine And.intro (fun hc => ?_) (fun hc => ?_) | fail
  exact hQ.out _ _ ⟨rfl, by exact exY⟩
theorem fstVisit_yes {H : Heap} {bm g : Nat} {u : List Int} (hbm : bm < H.size) (hg : g < H.size) (hne : bm ≠ g) (hb0 : H.get bm = .cells [.slice none 0 0] 1 false) (hgu : H.get g = .cells (ints u) 1 false) (hl : u.length ≤ 1000) (hb : ∀ j, 0 ≤ u.getD j 0 ∧ u.getD j 0 ≤ 1000) (hz : gT u u.length ≠ 0) :
    ACalls Tryz.prog 54 [.slice (some ⟨g, 0, none⟩) u.length (u.length + 1), .pointer (some ⟨bm, 0, none⟩)] H fun r H' => r = B false ∧ ∃ w, H'.get bm = .cells [w] 1 false ∧ OwnB H.size H'.size H' [w] [zI u] ∧ H.size ≤ H'.size ∧ ∀ x, x < H.size → x ≠ bm → H'.get x = H.get x := by
  have hgc := gcdOf_z (l := u) (by omega) hb
  have hzb : (((gT u u.length : Nat) : Int) == 0) = false := by rw [beq_eq_false_iff_ne]; omega
  have hu0 : 0 < u.length := by
    rcases Nat.eq_zero_or_pos u.length with h | h
    · rw [h] at hz; exact absurd rfl hz
    · exact h
  have hcl := clone_o (l := u) (by omega) hu0
  have hO : OwnB 0 H.size H [.slice (some ⟨g, 0, none⟩) u.length (u.length + 1)] [zI u] := OwnB.ints (by omega) hg rfl hgu
  generalize ((gT u u.length : Nat) : Int) = d at *
  clear hz
  refine ACalls.body Tryz.func54 rfl Tryz.ntmps54 (rs := [.tmp 3]) rfl (by simp) rfl fun Q hQ A hA => ?_
  have a0 := hA 0 _ _ rfl
  have a1 := hA 1 _ _ rfl
  clear hA
  repeat' first | refine rnY ?_ | (refine (hgc.lend rfl (.ownB hO .nil)).mono ?_; rintro r H2 ⟨rfl, he⟩; have heg := he.get; have hes := he.size; (try simp only [nx] at hes)) | (refine (hcl.lend (.ownB (hO.ext (Nat.le_refl _) (by exact exY)) .nil)).mono ?_; rintro w H3 ⟨hO3, he3⟩; have hone := hO3.one; have hfz := hO3.frz; rcases hO3.shape with ⟨hw0, _⟩ | ⟨g3, o3, c3, ds, rfl, hw1, hw2, _⟩; exact absurd hw0 (by omega); have he3g := he3.get; have he3s := he3.size; (try simp only [nx] at he3s)) | with_reducible refine And.intro (fun hc => ?_) (fun hc => ?_) | fail
  refine hQ.out _ _ ⟨rfl, _, get_set_eq, ?_, by simp only [nx]; omega, fun x hx hn => (get_set_ne hn).trans ((he3g x (by omega)).trans (heg x hx))⟩
  exact (hO3.keep fun b hb1 hb2 => get_set_ne (by omega)).wide hes (by simp only [nx]; omega)
/-- The first part that is not 0. -/
def fpO (T : List (List (Int × Int))) (v : List Int) : Option (List Int) := (PT T v).find? fun u => decide (gT u u.length ≠ 0)
def fpL (T : List (List (Int × Int))) (v : List Int) : List Int := (fpO T v).getD []
theorem fpO_none {T : List (List (Int × Int))} {v : List Int} (h : ∀ (k : Nat) (u : List Int), (PT T v)[k]? = some u → gT u u.length = 0) : fpO T v = none := by
  unfold fpO
  rw [List.find?_eq_none]
  intro u hu
  obtain ⟨k, hk, rfl⟩ := List.getElem_of_mem hu
  have := h k _ (List.getElem?_eq_getElem hk)
  simp [this]
theorem fpO_some {T : List (List (Int × Int))} {v u : List Int} {k : Nat} (hu : (PT T v)[k]? = some u) (h : ∀ (j : Nat) (w : List Int), j < k → (PT T v)[j]? = some w → gT w w.length = 0) (hz : gT u u.length ≠ 0) : fpO T v = some u := by
  obtain ⟨h1, h2⟩ := List.getElem?_eq_some_iff.1 hu
  unfold fpO
  rw [List.find?_eq_some_iff_getElem]
  refine ⟨by simpa using hz, k, h1, h2, fun j hj => ?_⟩
  have := h j _ hj (List.getElem?_eq_getElem (by omega))
  simp [this]
set_option maxHeartbeats 4000000 in
theorem firstPart_c {T : List (List (Int × Int))} (hT : IsTri T) (h6 : T.length ≤ 6) {v : List Int} (hv : v.length = 7 * T.length) (hb : ∀ j, 0 ≤ v.getD j 0 ∧ v.getD j 0 ≤ 1000) (H : Heap) : ACalls Tryz.prog 31 [zT T, zI v] H fun r H' => Ext H H' ∧ ((fpO T v = none ∧ r = .slice none 0 0) ∨ ∃ u, fpO T v = some u ∧ 0 < u.length ∧ OwnB H.size H'.size H' [r] [zI u]) := by
  have hnn := nonneg_mem fun j => (hb j).1
  have hpm : ∀ (k : Nat) (u : List Int), (PT T v)[k]? = some u → u.length = v.length ∧ ∀ j, 0 ≤ u.getD j 0 ∧ u.getD j 0 ≤ 1000 := fun k u h => by
    have h1 := ((PL_mem hnn).1 (List.mem_of_getElem? h)).1
    exact ⟨h1.1, h1.bd fun j => (hb j).2⟩
  have hpp := fun H0 bm (hbm : bm < H0.size) (hb0 : H0.get bm = .cells [.slice none 0 0] 1 false) => parts_g hT h6 hv hb 54 (.pointer (some ⟨bm, 0, none⟩)) (H := H0)
    (fun g k H1 => bm ≠ g ∧ bm < H1.size ∧ H0.size ≤ g ∧ H1.get bm = .cells [.slice none 0 0] 1 false ∧ Ext H0 H1 ∧ ∀ (j : Nat) (u : List Int), j < k → (PT T v)[j]? = some u → gT u u.length = 0)
    (fun k H1 => ∃ u w, (PT T v)[k]? = some u ∧ (∀ (j : Nat) (w : List Int), j < k → (PT T v)[j]? = some w → gT w w.length = 0) ∧ gT u u.length ≠ 0 ∧ H0.size ≤ H1.size ∧ (∀ x, x < H0.size → x ≠ bm → H1.get x = H0.get x) ∧ H1.get bm = .cells [w] 1 false ∧ OwnB H0.size H1.size H1 [w] [zI u])
    (fun g k H1 H2 h hs hk => ⟨h.1, Nat.lt_of_lt_of_le h.2.1 hs, h.2.2.1, (hk bm h.2.1 h.1).trans h.2.2.2.1, ⟨Nat.le_trans h.2.2.2.2.1.size hs, fun x hx => (hk x (Nat.lt_of_lt_of_le hx h.2.2.2.2.1.size) (by have := h.2.2.1; omega)).trans (h.2.2.2.2.1.get x hx)⟩, h.2.2.2.2.2⟩)
    (fun g H1 hx h1 h2 => ⟨by omega, Nat.lt_of_lt_of_le hbm hx.size, h1, (hx.get bm hbm).trans hb0, hx, fun j u hj => by omega⟩)
    (fun H1 g k u hu hJ hgs hgz hgu => by
      obtain ⟨j1, j2, j3, j4, j5, j6⟩ := hJ
      obtain ⟨hul, hub⟩ := hpm k u hu
      rw [← hul]
      by_cases hz : gT u u.length = 0
      · refine (fstVisit_no j2 hgz j1 j4 hgu (by omega) hub hz).mono ?_
        rintro r H2 ⟨rfl, he⟩
        refine ⟨true, rfl, he.size, fun x _ hx => he.get x (by omega), .inl ⟨rfl, j1, Nat.lt_of_lt_of_le j2 he.size, j3, (he.get bm j2).trans j4, j5.trans he, fun j w hj hw => ?_⟩⟩
        rcases Nat.lt_or_ge j k with h | h
        · exact j6 j w h hw
        · obtain rfl : j = k := by omega
          rw [hu] at hw; cases hw; exact hz
      · refine (fstVisit_yes j2 hgz j1 j4 hgu (by omega) hub hz).mono ?_
        rintro r H2 ⟨rfl, w, h1, h2, h3, h4⟩
        exact ⟨false, rfl, h3, fun x hx1 hx2 => h4 x (by omega) (by omega), .inr ⟨rfl, u, w, hu, j6, hz, Nat.le_trans j5.size h3, fun x hx hn => (h4 x (Nat.lt_of_lt_of_le hx j5.size) hn).trans (j5.get x hx), h1, h2.wide j5.size (Nat.le_refl _)⟩⟩)
  have hend : ∀ (k : Nat), k = (PT T v).length → (∀ (j : Nat) (u : List Int), j < k → (PT T v)[j]? = some u → gT u u.length = 0) → fpO T v = none := fun k hk h =>
    fpO_none fun j u hu => h j u (by rw [hk]; exact (List.getElem?_eq_some_iff.1 hu).1) hu
  have hend2 : ∀ (k : Nat) (u : List Int), (PT T v)[k]? = some u → (∀ (j : Nat) (w : List Int), j < k → (PT T v)[j]? = some w → gT w w.length = 0) → gT u u.length ≠ 0 → fpO T v = some u := fun k u h1 h2 h3 => fpO_some h1 h2 h3
  generalize fpO T v = out at *
  clear hnn hpm
  refine ACalls.body Tryz.func31 rfl Tryz.ntmps31 (rs := [.tmp 4]) rfl (by simp) rfl fun Q hQ A hA => ?_
  have a0 := hA 0 _ _ rfl
  have a1 := hA 1 _ _ rfl
  clear hA
  repeat' first | refine rnY ?_ | (refine (hpp _ H.size (by simp only [nx]; omega) (by exact ivY)).mono ?_; clear hpp; rintro r H1 ⟨rfl, ⟨g, j1, j2, j3, j4, j5, j6⟩ | ⟨k, u, w, j1, j2, j3, j4, j5, j6, j7⟩⟩) | with_reducible refine And.intro (fun hc => ?_) (fun hc => ?_) | fail
  · exact hQ.out _ _ ⟨by exact exY, .inl ⟨hend _ rfl j6, rfl⟩⟩
  · have hE : Ext H H1 := ⟨by simp only [nx] at j4; omega, fun b hb => (j5 b (by simp only [nx]; omega) (by omega)).trans (get_push_lt hb)⟩
    have hu0 : 0 < u.length := by
      rcases Nat.eq_zero_or_pos u.length with h | h
      · rw [h] at j3; exact absurd rfl j3
      · exact h
    exact hQ.out _ _ ⟨hE, .inr ⟨u, hend2 k u j1 j2 j3, hu0, j7.wide (lo' := H.size) (by simp only [nx]; omega) (Nat.le_refl _)⟩⟩
theorem firstPart_o {T : List (List (Int × Int))} (hT : IsTri T) (h6 : T.length ≤ 6) {v : List Int} (hv : v.length = 7 * T.length) (hb : ∀ j, 0 ≤ v.getD j 0 ∧ v.getD j 0 ≤ 1000) : OCalls Tryz.prog 31 [zT T, zI v] (zI (fpL T v)) := fun H =>
  (firstPart_c hT h6 hv hb H).mono fun r H' ⟨he, h⟩ => ⟨by
    rcases h with ⟨h, rfl⟩ | ⟨u, h, _, hO⟩
    · unfold fpL; rw [h]; exact (OwnB.nilr (lo := H.size) (hi := H.size) 1).out
    · unfold fpL; rw [h]; exact hO.out, he⟩
/-! What the specification says of the list, and what the program says of its first part. -/
theorem gT_rep (n k : Nat) : gT (List.replicate n 0) k = 0 := by
  rw [gT_zero (fun j => by simp only [List.getD_eq_getElem?_getD, List.getElem?_replicate]; split <;> simp)]
  intro j _
  simp only [List.getD_eq_getElem?_getD, List.getElem?_replicate]; split <;> rfl
theorem gT_ne {u : List Int} (h : ∀ j, 0 ≤ u.getD j 0) (hne : u ≠ List.replicate u.length 0) : gT u u.length ≠ 0 := fun hz => by
  rw [gT_zero h] at hz
  refine hne (List.ext_getElem (by simp) fun i h1 h2 => ?_)
  have := hz i h1
  simpa [h1] using this
theorem dot_zero (r : List Int) (n : Nat) : ∀ k, dotL r (List.replicate n 0) k = 0
  | 0 => rfl
  | k + 1 => by
    have e : (List.replicate n (0 : Int)).getD k 0 = 0 := by simp only [List.getD_eq_getElem?_getD, List.getElem?_replicate]; split <;> rfl
    rw [dotL, dot_zero r n k, e]; simp
theorem sv_zero (M : List (List Int)) (n m : Nat) : svM M n (List.replicate m 0) = true := decide_eq_true fun r _ => dot_zero _ _ _
theorem sv_nr {T : List (List (Int × Int))} {v : List Int} (h : NrI T v) : svM (mmR T) (7 * T.length) v = true := decide_eq_true h.2.2
section
variable {T : List (List (Int × Int))} {v : List Int}
/-- The list: 0, the first part, more. -/
theorem PT_cases (hb : ∀ j, 0 ≤ v.getD j 0 ∧ v.getD j 0 ≤ 1000) (hs : svM (mmR T) (7 * T.length) v = true) :
    (v = List.replicate v.length 0 ∧ PT T v = [v] ∧ fpO T v = none) ∨
    (v ≠ List.replicate v.length 0 ∧ ∃ u t, PT T v = List.replicate v.length 0 :: u :: t ∧ fpO T v = some u ∧ gT u u.length ≠ 0 ∧ (t = [] ↔ u = v)) := by
  have hnn := nonneg_mem fun j => (hb j).1
  obtain ⟨t, ht⟩ := PL_head (sv := svM (mmR T) (7 * T.length)) (v := v) (sv_zero _ _ _)
  have hself : v ∈ PT T v := (PL_mem hnn).2 ⟨⟨rfl, fun i _ => ⟨(hb i).1, Int.le_refl _⟩⟩, hs⟩
  have hsort := PL_sorted (sv := svM (mmR T) (7 * T.length)) (v := v)
  have hpm : ∀ u, u ∈ PT T v → u.length = v.length ∧ ∀ j, 0 ≤ u.getD j 0 := fun u hu => by
    have h1 := ((PL_mem hnn).1 hu).1
    exact ⟨h1.1, fun j => (h1.bd (fun j => (hb j).2) j).1⟩
  by_cases hz : v = List.replicate v.length 0
  · left
    have h0 : (PT T v)[0]? = some v := by
      show (PL _ v)[0]? = _
      rw [ht, ← hz]; rfl
    have hl := PL_last hnn h0
    have ht0 : t = [] := by
      rw [ht] at hl; simp at hl; exact hl
    have hP : PT T v = [v] := by show PL _ v = _; rw [ht, ht0, ← hz]
    refine ⟨hz, hP, fpO_none fun k u hu => ?_⟩
    rw [hP] at hu
    have : u = v := by simpa using List.mem_of_getElem? hu
    rw [this, hz, List.length_replicate]; exact gT_rep _ _
  · right
    refine ⟨hz, ?_⟩
    cases t with
    | nil =>
      change v ∈ PL _ v at hself
      rw [ht] at hself
      simp at hself
      exact absurd hself hz
    | cons u t =>
      have hP : PT T v = List.replicate v.length 0 :: u :: t := ht
      have hu : u ∈ PT T v := by rw [hP]; simp
      obtain ⟨hul, hub⟩ := hpm u hu
      have hlt : lxU (List.replicate v.length 0) u := by
        have h1 := hsort
        rw [ht] at h1
        exact (List.pairwise_cons.1 h1).1 u (by simp)
      have hune : u ≠ List.replicate u.length 0 := fun e => by rw [hul] at e; rw [← e] at hlt; exact lx_irr _ hlt
      have hg := gT_ne hub hune
      refine ⟨u, t, hP, fpO_some (k := 1) (by rw [hP]; rfl) (fun j w hj hw => ?_) hg, ?_⟩
      · obtain rfl : j = 0 := by omega
        rw [hP] at hw
        simp at hw
        rw [← hw, List.length_replicate]; exact gT_rep _ _
      · refine ⟨hg, fun h0 => ?_, fun e => ?_⟩
        · subst h0
          rw [hP] at hself
          simp at hself
          rcases hself with h | h
          · exact absurd h hz
          · exact h.symm
        · have h1 : (PT T v)[1]? = some v := by rw [hP, ← e]; rfl
          have := PL_last hnn h1
          rw [ht] at this
          simp at this
          exact this
end
end Go.Proofs.YtmoknllbpjpkmaaGreat.Zed
namespace Go.Proofs.YtmoknllbpjpkmaaGreat.Zed
open Go TP
set_option linter.unusedVariables false
set_option linter.unusedSimpArgs false
set_option maxRecDepth 20000
namespace tfY12
theorem tf : True := trivial
end tfY12
open tfY12

/-- The number of vectors. -/
def pdL (v : List Int) : Nat := v.foldr (fun x n => (x.toNat + 1) * n) 1
theorem pdL_snoc (x : Int) : ∀ v : List Int, pdL (v ++ [x]) = pdL v * (x.toNat + 1)
  | [] => by simp [pdL]
  | y :: v => by
    have ih := pdL_snoc x v
    show (y.toNat + 1) * pdL (v ++ [x]) = (y.toNat + 1) * pdL v * (x.toNat + 1)
    rw [ih, Nat.mul_assoc]
theorem sum_const (c : Nat) : ∀ l : List Nat, (l.map fun _ => c).sum = l.length * c
  | [] => by simp
  | a :: l => by rw [List.map_cons, List.sum_cons, sum_const c l, List.length_cons, Nat.succ_mul]; omega
theorem allU_pd : ∀ v : List Int, (allU v).length = pdL v
  | [] => rfl
  | x :: v => by
    have ih := allU_pd v
    show ((List.range (x.toNat + 1)).flatMap fun (a : Nat) => (allU v).map fun u => (a : Int) :: u).length = (x.toNat + 1) * pdL v
    rw [List.length_flatMap, ← ih]
    have : (fun (a : Nat) => ((allU v).map fun u => (a : Int) :: u).length) = fun _ => (allU v).length := funext fun a => List.length_map _
    rw [this]
    rw [sum_const, List.length_range]
theorem candS_pd {v : List Int} (h : ∀ j, 0 ≤ v.getD j 0) : ∀ k, k ≤ v.length → candS v k = min ((pdL (v.take k) : Nat) : Int) 20001
  | 0, _ => by show (1 : Int) = min ((1 : Nat) : Int) 20001; omega
  | k + 1, hk => by
    have ih := candS_pd h k (by omega)
    have hv := h k
    have e : v.take (k + 1) = v.take k ++ [v.getD k 0] := by rw [List.take_succ_eq_append_getElem (by omega)]; simp [show k < v.length by omega]
    rw [e, pdL_snoc]
    unfold candS
    rw [ih]
    obtain ⟨x, hx⟩ : ∃ x : Nat, v.getD k 0 = x := ⟨(v.getD k 0).toNat, by omega⟩
    rw [hx, Int.toNat_natCast]
    generalize pdL (v.take k) = p
    rw [Int.natCast_mul]
    by_cases hp : (p : Int) ≤ 20001
    · rw [show min (p : Int) 20001 = p by omega]; rfl
    · have h1 : (20001 : Int) * (x + 1) ≤ p * (x + 1) := Int.mul_le_mul_of_nonneg_right (by omega) (by omega)
      have h2 : (20001 : Int) * 1 ≤ 20001 * (x + 1) := Int.mul_le_mul_of_nonneg_left (by omega) (by omega)
      rw [show min (p : Int) 20001 = 20001 by omega]
      have e2 : ((x + 1 : Nat) : Int) = (x : Int) + 1 := by omega
      rw [e2]
      omega
theorem scT_ok {T : List (List (Int × Int))} {v : List Int} (h : scT T v = 0) : codeN T = 0 ∧ AdI T v ∧ (allU v).length ≤ 20000 := by
  unfold scT at h
  split at h
  · rename_i h0
    obtain ⟨h1, h2⟩ := aC_ok h0
    refine ⟨h1, h2, ?_⟩
    split at h
    · cases h
    · rename_i h3
      have := candS_pd (fun j => (nrI_bd h2.1 j).1) v.length (Nat.le_refl _)
      rw [List.take_length] at this
      rw [allU_pd]
      omega
  · rename_i h0; exact absurd h h0
end Go.Proofs.YtmoknllbpjpkmaaGreat.Zed
namespace Go.Proofs.YtmoknllbpjpkmaaGreat.Zed
open Go TP
set_option linter.unusedVariables false
set_option linter.unusedSimpArgs false
set_option maxRecDepth 20000
end Go.Proofs.YtmoknllbpjpkmaaGreat.Zed
namespace Go.Proofs.YtmoknllbpjpkmaaGreat.Zed
open Go TP
set_option linter.unusedVariables false
set_option linter.unusedSimpArgs false
set_option maxRecDepth 20000
namespace tfY14
theorem tf : (Tryz.prog.underlying 25 = some (.slice 2)) ∧ (el Tryz.prog 25 = some (none, 1)) ∧ (tk Tryz.prog 2 = some none) ∧ (cz Tryz.prog 2 = some 1) ∧ (bz Tryz.prog 2 = some 8) ∧ (zr Tryz.prog 2 = some (.int .i64 0)) := by
  refine ⟨?_, ?_, ?_, ?_, ?_, ?_⟩ <;> kernel_rfl
end tfY14
open tfY14

theorem clone_c {l : List Int} (hl : l.length ≤ 100000) (h0 : 0 < l.length) (H : Heap) : ACalls Tryz.prog 56 [zI l] H fun r H' => r = .slice (some ⟨H.size + 1, 0, none⟩) l.length 0 ∧ H' = (H.push (.cells [] 1 false)).push (.cells (ints l) 1 false) := by
  refine ACalls.body Tryz.func56 rfl Tryz.ntmps56 (rs := [.tmp 2]) rfl (by simp) rfl fun Q hQ A hA => ?_
  have a0 := hA 0 _ _ rfl
  clear hA
  repeat' first | refine rnY ?_ | (refine appI (cs := []) (by exact ivY) (by simp) rfl (by omega) (by omega) ?_) | with_reducible refine And.intro (fun hc => ?_) (fun hc => ?_) | fail
  exact hQ.out _ _ ⟨rfl, rfl⟩
/-- The differences. -/
def mnL (v u : List Int) (k : Nat) : List Int := (List.range v.length).map fun i => if i < k then v.getD i 0 - u.getD i 0 else v.getD i 0
theorem mnL_len (v u : List Int) (k : Nat) : (mnL v u k).length = v.length := by simp [mnL]
theorem mnL_get (v u : List Int) (k i : Nat) (h : i < v.length) : (mnL v u k).getD i 0 = if i < k then v.getD i 0 - u.getD i 0 else v.getD i 0 := by simp [mnL, h]
theorem mnL_zero (v u : List Int) : mnL v u 0 = v := by
  refine ext_getD (mnL_len v u 0) fun i hi => ?_
  rw [mnL_len] at hi
  rw [mnL_get _ _ _ _ hi, if_neg (by omega)]
theorem mnL_succ (v u : List Int) (k : Nat) (hk : k < v.length) : (mnL v u k).set k (v.getD k 0 - u.getD k 0) = mnL v u (k + 1) := by
  refine ext_getD (by rw [List.length_set, mnL_len, mnL_len]) fun i hi => ?_
  rw [List.length_set, mnL_len] at hi
  rw [getD_setM (by rw [mnL_len]; exact hk), mnL_get _ _ _ _ hi, mnL_get _ _ _ _ hi]
  by_cases h : i = k
  · subst h; rw [if_pos rfl, if_pos (by omega)]
  · rw [if_neg h]
    by_cases h2 : i < k
    · rw [if_pos h2, if_pos (by omega)]
    · rw [if_neg h2, if_neg (by omega)]
set_option maxHeartbeats 2000000 in
theorem minus_c {v u : List Int} (hl : v.length ≤ 1000) (h0 : 0 < v.length) (hu : u.length = v.length) (hbv : ∀ j, 0 ≤ v.getD j 0 ∧ v.getD j 0 ≤ 1000) (hbu : ∀ j, 0 ≤ u.getD j 0 ∧ u.getD j 0 ≤ 1000) (H : Heap) :
    ACalls Tryz.prog 32 [zI v, zI u] H fun r H' => Ext H H' ∧ OwnB H.size H'.size H' [r] [zI (mnL v u v.length)] := by
  have hmz := mnL_zero v u
  have hml := mnL_len v u
  refine ACalls.body Tryz.func32 rfl Tryz.ntmps32 (rs := [.tmp 4]) rfl (by simp) rfl fun Q hQ A hA => ?_
  have a0 := hA 0 _ _ rfl
  have a1 := hA 1 _ _ rfl
  clear hA
  repeat' first | refine rnY ?_ | (refine (clone_c (l := v) (by omega) h0 _).mono ?_; rintro r H1 ⟨rfl, rfl⟩) | with_reducible refine And.intro (fun hc => ?_) (fun hc => ?_) | fail
  refine AWp.cut (fun Ac hAc => ?_)
  have c5 := gtY (t := 5) hAc
  have c10 := gtY (t := 10) hAc
  have c11 := gtY (t := 11) hAc
  have c12 := gtY (t := 12) hAc
  clear a0 a1
  refine AWp.loop (fun A' H' => ∃ (k : Nat), Ag [6, 7, 13, 14, 15, 16, 17, 18, 19, 20, 21, 22, 23, 24] A' (put Ac (some 12) (I k)) ∧ k ≤ u.length ∧ H' = (H.push (.cells [] 1 false)).push (.cells (ints (mnL v u k)) 1 false)) (fun A' _ => u.length - (intV (A' 12)).toNat) ?_ ?_
  · exact ⟨0, agY, by omega, by rw [hmz]⟩
  · rintro A1 H1 ⟨k, hA1, hk, rfl⟩
    have d5 := gdY (t := 5) hA1
    have d10 := gdY (t := 10) hA1
    have d11 := gdY (t := 11) hA1
    have d12 := gdY (t := 12) hA1
    have hmk := hml k
    by_cases hlt : k < u.length
    · have hms := mnL_succ v u k (by omega)
      have hmg := mnL_get v u k k (by omega)
      rw [if_neg (by omega)] at hmg
      have b1 := hbv k
      have b2 := hbu k
      clear hbv hbu hml hmz
      generalize mnL v u k = M at *
      repeat' first | refine rnY ?_ | with_reducible refine And.intro (fun hc => ?_) (fun hc => ?_) | fail
      exact ⟨⟨k + 1, agY, by omega, by rw [← hms]⟩, by exact ivY⟩
    · obtain rfl : k = u.length := by omega
      rw [hu] at hmk
      clear hml hmz
      repeat' first | refine rnY ?_ | with_reducible refine And.intro (fun hc => ?_) (fun hc => ?_) | fail
      refine hQ.out _ _ ⟨by exact exY, ?_⟩
      unfold Zed.zI
      rw [hmk]
      exact OwnB.ints (by omega) (by simp only [nx]; omega) hmk (get_push_eq (by simp only [nx]))
set_option maxHeartbeats 2000000 in
theorem l17Plus_z {v u : List Int} (hl : v.length ≤ 1000) (hu : u.length = v.length) (hbv : ∀ j, 0 ≤ v.getD j 0 ∧ v.getD j 0 ≤ 1000) (hbu : ∀ j, 0 ≤ u.getD j 0 ∧ u.getD j 0 ≤ 1000) : ZCalls Tryz.prog 29 [zI v, zI u, I (-1)] (zI (mnL v u v.length)) := by
  have hml := mnL_len v u v.length
  have hmg := mnL_get v u v.length
  generalize mnL v u v.length = M at *
  have htk : ∀ k, k < v.length → M.take (k + 1) = M.take k ++ [v.getD k 0 - u.getD k 0] := fun k hk => by
    have := hmg k hk
    rw [if_pos hk] at this
    rw [List.take_succ_eq_append_getElem (by omega), ← this]; simp [show k < M.length by omega]
  have htl : ∀ k, k ≤ v.length → (M.take k).length = k := fun k hk => by rw [List.length_take]; omega
  have ht0 : M.take 0 = [] := rfl
  have htn : M.take v.length = M := by rw [← hml, List.take_length]
  rw [show zI M = FZ 1 v.length (ints M) from by unfold Zed.zI; rw [hml]]
  clear hmg hml
  refine ZCalls.body Tryz.func29 rfl Tryz.ntmps29 (rs := [.tmp 6]) rfl (by simp) rfl fun H Q hQ A hA => ?_
  have a0 := hA 0 _ _ rfl
  have a1 := hA 1 _ _ rfl
  have a2 := hA 2 _ _ rfl
  clear hA
  repeat' first | refine rnY ?_ | with_reducible refine And.intro (fun hc => ?_) (fun hc => ?_) | fail
  refine AWp.growE (t := 7) 1 (by decide) (by exact ivY) ?_
  refine AWp.cut (fun Ac hAc => ?_)
  have c0 := gtY (t := 0) hAc
  have c1 := gtY (t := 1) hAc
  have c2 := gtY (t := 2) hAc
  have c7 := gtY (t := 7) hAc
  have c8 := gtY (t := 8) hAc
  clear a0 a1 a2
  refine AWp.loop (fun A' H' => ∃ (k : Nat), Ag [10, 11, 12, 13, 14, 15, 16, 17, 18, 19, 20, 21, 22, 23, 24, 25, 26, 27, 28, 29] A' (put (put Ac (some 7) (GZ (H.size + 1) 1 k (ints (M.take k)))) (some 8) (I k)) ∧ k ≤ v.length ∧ Ext ((H.push (.cells [] 1 false)).push (.tok k 1)) H') (fun A' _ => v.length - (intV (A' 8)).toNat) ?_ ?_
  · exact ⟨0, by rw [ht0]; exact agY, by omega, by exact exY⟩
  · rintro A1 H1 ⟨k, hA1, hk, hx⟩
    have d0 := gdY (t := 0) hA1
    have d1 := gdY (t := 1) hA1
    have d2 := gdY (t := 2) hA1
    have d7 := gdY (t := 7) hA1
    have d8 := gdY (t := 8) hA1
    have hxg := hx.get; have hxs := hx.size; (try simp only [nx] at hxs)
    by_cases hlt : k < v.length
    · have htk := htk k hlt
      have htl := htl k hk
      have b1 := hbv k
      have b2 := hbu k
      have hneg : v.getD k 0 + -1 * u.getD k 0 = v.getD k 0 - u.getD k 0 := by omega
      clear hbv hbu ht0 htn
      generalize M.take k = R at *
      repeat' first | refine rnY ?_ | with_reducible refine And.intro (fun hc => ?_) (fun hc => ?_) | fail
      refine AWp.zreg [(0, none), (1, none), (2, none), (3, none), (4, none), (5, none), (6, none), (7, none), (8, none), (9, none), (10, none), (11, none), (12, none), (13, some [4, 9]), (14, none)] mixed (by kernel_rfl) ?_
      repeat' first | refine rzY ?_ | fail
      repeat' first | refine rnY ?_ | with_reducible refine And.intro (fun hc => ?_) (fun hc => ?_) | fail
      exact ⟨⟨k + 1, by rw [htk]; exact agY, by omega, by exact exY⟩, by exact ivY⟩
    · obtain rfl : k = v.length := by omega
      clear htk htl
      repeat' first | refine rnY ?_ | with_reducible refine And.intro (fun hc => ?_) (fun hc => ?_) | fail
      exact hQ.out _ _ (fv) (by exact exY)
theorem minus_o {v u : List Int} (hl : v.length ≤ 1000) (h0 : 0 < v.length) (hu : u.length = v.length) (hbv : ∀ j, 0 ≤ v.getD j 0 ∧ v.getD j 0 ≤ 1000) (hbu : ∀ j, 0 ≤ u.getD j 0 ∧ u.getD j 0 ≤ 1000) : OCalls Tryz.prog 32 [zI v, zI u] (zI (mnL v u v.length)) :=
  fun H => (minus_c hl h0 hu hbv hbu H).mono fun r H' ⟨he, hO⟩ => ⟨hO.out, he⟩
end Go.Proofs.YtmoknllbpjpkmaaGreat.Zed
namespace Go.Proofs.YtmoknllbpjpkmaaGreat.Zed
open Go TP
set_option linter.unusedVariables false
set_option linter.unusedSimpArgs false
set_option maxRecDepth 20000
/-! The way down from a vector: the first part is taken away until nothing is left. -/
theorem pd_mono : ∀ {w v : List Int}, w.length = v.length → (∀ i, 0 ≤ w.getD i 0 ∧ w.getD i 0 ≤ v.getD i 0) → pdL w ≤ pdL v
  | [], [], _, _ => Nat.le_refl _
  | [], y :: v, h, _ => by simp at h
  | x :: w, [], h, _ => by simp at h
  | x :: w, y :: v, h, hb => by
    have ih := pd_mono (w := w) (v := v) (by simpa using h) fun i => by simpa using hb (i + 1)
    have h0 := hb 0
    simp at h0
    show (x.toNat + 1) * pdL w ≤ (y.toNat + 1) * pdL v
    exact Nat.mul_le_mul (by omega) ih
def smK (v : List Int) : Nat → Nat
  | 0 => 0
  | k + 1 => smK v k + (v.getD k 0).toNat
theorem smK_le {w v : List Int} (hb : ∀ i, w.getD i 0 ≤ v.getD i 0) : ∀ k, smK w k ≤ smK v k
  | 0 => Nat.le_refl _
  | k + 1 => by
    have ih := smK_le hb k
    have := hb k
    unfold smK; omega
theorem smK_lt {w v : List Int} (hb : ∀ i, w.getD i 0 ≤ v.getD i 0) {i : Nat} (h0 : 0 ≤ w.getD i 0) (hi : w.getD i 0 < v.getD i 0) : ∀ k, i < k → smK w k < smK v k
  | 0, h => by omega
  | k + 1, h => by
    unfold smK
    rcases Nat.lt_or_ge i k with h1 | h1
    · have ih := smK_lt hb h0 hi k h1
      have := hb k
      omega
    · obtain rfl : i = k := by omega
      have := smK_le hb i
      omega
theorem smK_bd {v : List Int} (hb : ∀ i, v.getD i 0 ≤ 1000) : ∀ k, smK v k ≤ 1000 * k
  | 0 => Nat.le_refl _
  | k + 1 => by
    have ih := smK_bd hb k
    have := hb k
    unfold smK; omega
theorem dot_mn (r v u : List Int) (n : Nat) : ∀ k, k ≤ n → n ≤ v.length → dotL r (mnL v u n) k = dotL r v k - dotL r u k
  | 0, _, _ => rfl
  | k + 1, h1, h2 => by
    have ih := dot_mn r v u n k (by omega) h2
    rw [dotL, dotL, dotL, ih, mnL_get _ _ _ _ (by omega), if_pos (by omega), Int.mul_sub]
    omega
/-- One step down. -/
def nxS (T : List (List (Int × Int))) (v : List Int) : List Int := mnL v (fpL T v) v.length
def stV (T : List (List (Int × Int))) (v : List Int) : Nat → List Int
  | 0 => v
  | k + 1 => nxS T (stV T v k)
theorem stV_shift (T : List (List (Int × Int))) (v : List Int) : ∀ k, stV T (nxS T v) k = stV T v (k + 1)
  | 0 => rfl
  | k + 1 => by
    show nxS T (stV T (nxS T v) k) = nxS T (stV T v (k + 1))
    rw [stV_shift T v k]
/-- What holds of a vector on the way. -/
structure OkV (T : List (List (Int × Int))) (v : List Int) : Prop where
  len : v.length = 7 * T.length
  bd : ∀ j, 0 ≤ v.getD j 0 ∧ v.getD j 0 ≤ 1000
  sv : svM (mmR T) (7 * T.length) v = true
  few : (allU v).length ≤ 20000
section
variable {T : List (List (Int × Int))} {v : List Int}
theorem fpL_le (h : OkV T v) : fpO T v = none ∧ fpL T v = [] ∨ fpO T v = some (fpL T v) ∧ LeL (fpL T v) v ∧ svM (mmR T) (7 * T.length) (fpL T v) = true ∧ gT (fpL T v) (fpL T v).length ≠ 0 := by
  rcases PT_cases h.bd h.sv with ⟨q1, q2, q3⟩ | ⟨q1, u, t, q2, q3, q4, q5⟩
  · left; exact ⟨q3, by unfold fpL; rw [q3]; rfl⟩
  · right
    have e : fpL T v = u := by unfold fpL; rw [q3]; rfl
    have hm := (PL_mem (nonneg_mem fun j => (h.bd j).1)).1 (show u ∈ PT T v by rw [q2]; simp)
    rw [e]
    exact ⟨q3, hm.1, hm.2, q4⟩
theorem nxS_len : (nxS T v).length = v.length := mnL_len _ _ _
theorem nxS_get (j : Nat) : (nxS T v).getD j 0 = if j < v.length then v.getD j 0 - (fpL T v).getD j 0 else 0 := by
  by_cases hj : j < v.length
  · rw [if_pos hj]; unfold nxS; rw [mnL_get _ _ _ _ hj, if_pos hj]
  · rw [if_neg hj, List.getD_eq_getElem?_getD, List.getElem?_eq_none (by rw [nxS_len]; omega)]; rfl
theorem nxS_ok (h : OkV T v) : OkV T (nxS T v) ∧ ∀ j, 0 ≤ (nxS T v).getD j 0 ∧ (nxS T v).getD j 0 ≤ v.getD j 0 := by
  have hle : ∀ j, 0 ≤ (fpL T v).getD j 0 ∧ (j < v.length → (fpL T v).getD j 0 ≤ v.getD j 0) := fun j => by
    rcases fpL_le h with ⟨_, e⟩ | ⟨_, q, _⟩
    · rw [e]; have := h.bd j; simp; exact fun _ => this.1
    · exact ⟨(q.bd (fun j => (h.bd j).2) j).1, fun hj => (q.2 j hj).2⟩
  have hb : ∀ j, 0 ≤ (nxS T v).getD j 0 ∧ (nxS T v).getD j 0 ≤ v.getD j 0 := fun j => by
    have h1 := hle j
    have h2 := h.bd j
    rw [nxS_get]
    split
    · rename_i hj; have := h1.2 hj; omega
    · omega
  refine ⟨⟨nxS_len.trans h.len, fun j => by have := hb j; have := h.bd j; omega, ?_, ?_⟩, hb⟩
  · refine decide_eq_true fun r hr => ?_
    have h1 := of_decide_eq_true h.sv r hr
    have h2 : dotL ((mmR T).getD r []) (fpL T v) (7 * T.length) = 0 := by
      rcases fpL_le h with ⟨_, e⟩ | ⟨_, _, q, _⟩
      · rw [e]
        have : ∀ k, dotL ((mmR T).getD r []) [] k = 0 := fun k => by
          induction k with
          | zero => rfl
          | succ k ih => rw [dotL, ih]; simp
        exact this _
      · exact of_decide_eq_true q r hr
    unfold nxS
    rw [h.len, dot_mn _ _ _ _ _ (Nat.le_refl _) (by rw [h.len]; omega), h1, h2]; rfl
  · rw [allU_pd]
    refine Nat.le_trans (pd_mono nxS_len hb) ?_
    rw [← allU_pd]; exact h.few
theorem nxS_lt (h : OkV T v) {u : List Int} (hf : fpO T v = some u) : smK (nxS T v) v.length < smK v v.length := by
  have hb := (nxS_ok h).2
  rcases fpL_le h with ⟨q, _⟩ | ⟨_, q, _, hg⟩
  · rw [q] at hf; cases hf
  · have hex : ∃ j, j < v.length ∧ (fpL T v).getD j 0 ≠ 0 := by
      refine Classical.byContradiction fun hn => hg ?_
      have hnn := fun j => (q.bd (fun j => (h.bd j).2) j).1
      rw [gT_zero hnn]
      intro j hj
      exact Classical.byContradiction fun hc => hn ⟨j, by have := q.1; omega, hc⟩
    obtain ⟨j, hj, hj0⟩ := hex
    refine smK_lt (fun i => (hb i).2) (hb j).1 ?_ v.length hj
    rw [nxS_get, if_pos hj]
    have := (q.bd (fun j => (h.bd j).2) j).1
    omega
theorem stV_ok (h : OkV T v) : ∀ k, OkV T (stV T v k)
  | 0 => h
  | k + 1 => (nxS_ok (stV_ok h k)).1
theorem stV_end : ∀ n (v : List Int), OkV T v → smK v v.length ≤ n → ∃ N, N ≤ n ∧ fpO T (stV T v N) = none ∧ ∀ k, k < N → fpO T (stV T v k) = some (fpL T (stV T v k)) := by
  intro n
  induction n with
  | zero =>
    intro v h hn
    refine ⟨0, Nat.le_refl _, ?_, fun k hk => by omega⟩
    cases hf : fpO T v with
    | none => exact hf
    | some u => have := nxS_lt h hf; omega
  | succ n ih =>
    intro v h hn
    cases hf : fpO T v with
    | none => exact ⟨0, by omega, hf, fun k hk => by omega⟩
    | some u =>
      have h1 := nxS_lt h hf
      obtain ⟨N, q1, q2, q3⟩ := ih (nxS T v) (nxS_ok h).1 (by rw [nxS_len]; omega)
      rw [stV_shift] at q2
      refine ⟨N + 1, by omega, q2, fun k hk => ?_⟩
      cases k with
      | zero =>
        show fpO T v = some (fpL T v)
        unfold fpL; rw [hf]; rfl
      | succ k =>
        have := q3 k (by omega)
        rw [stV_shift] at this
        exact this
/-- The first part has no part but 0 and itself. -/
theorem first_fund (h : OkV T v) {u : List Int} {t : List (List Int)} (hP : PT T v = List.replicate v.length 0 :: u :: t) : (PT T u).length = 2 := by
  have hnn := nonneg_mem fun j => (h.bd j).1
  have hmu := (PL_mem hnn).1 (show u ∈ PT T v by rw [hP]; simp)
  have hbu := hmu.1.bd fun j => (h.bd j).2
  have hsort := PL_sorted (sv := svM (mmR T) (7 * T.length)) (v := v)
  have hsort' : (List.replicate v.length 0 :: u :: t).Pairwise lxU := by rw [← hP]; exact hsort
  have h0u : lxU (List.replicate v.length 0) u := (List.pairwise_cons.1 hsort').1 u (by simp)
  have hut := (List.pairwise_cons.1 (List.pairwise_cons.1 hsort').2).1
  rcases PT_cases hbu hmu.2 with ⟨q1, _, _⟩ | ⟨q1, w, s, q2, q3, q4, q5⟩
  · rw [hmu.1.1] at q1; rw [← q1] at h0u; exact absurd h0u (lx_irr _)
  · have hmw := (PL_mem (nonneg_mem fun j => (hbu j).1)).1 (show w ∈ PT T u by rw [q2]; simp)
    have hwv : LeL w v := ⟨hmw.1.1.trans hmu.1.1, fun i hi => by
      have h1 := hmw.1.2 i (by rw [hmu.1.1]; exact hi)
      have h2 := hmu.1.2 i hi
      omega⟩
    have hwm : w ∈ PT T v := (PL_mem hnn).2 ⟨hwv, hmw.2⟩
    rw [hP] at hwm
    have hwu : w = u := by
      rcases List.mem_cons.1 hwm with e | hwm
      · exfalso; rw [e, List.length_replicate] at q4; exact q4 (gT_rep _ _)
      · rcases List.mem_cons.1 hwm with e | hwm
        · exact e
        · refine Classical.byContradiction fun hne => ?_
          exact lx_asym (hut w hwm) (lx_le hmw.1 hne)
    rw [q2, q5.2 hwu]; rfl
end
/-- The parts that are taken away in the first k steps. -/
def dcR (T : List (List (Int × Int))) (v : List Int) (k : Nat) : List (List Int) := (List.range k).map fun i => fpL T (stV T v i)
theorem dcR_succ (T : List (List (Int × Int))) (v : List Int) (k : Nat) : dcR T v (k + 1) = dcR T v k ++ [fpL T (stV T v k)] := by simp [dcR, List.range_succ]
theorem dcR_len (T : List (List (Int × Int))) (v : List Int) (k : Nat) : (dcR T v k).length = k := by simp [dcR]
/-! The places that are not 0. -/
theorem supT_nil {l : List Int} : ∀ k, (∀ i, i < k → l.getD i 0 = 0) → supT l k = []
  | 0, _ => rfl
  | k + 1, h => by
    unfold supT
    rw [if_neg (by rw [h k (by omega)]; simp)]
    exact supT_nil k fun i hi => h i (by omega)
theorem supT_pos {l : List Int} {i : Nat} (h : l.getD i 0 ≠ 0) : ∀ k, i < k → 0 < (supT l k).length
  | 0, hk => by omega
  | k + 1, hk => by
    unfold supT
    rcases Nat.lt_or_ge i k with h1 | h1
    · have := supT_pos h k h1
      split
      · rw [List.length_append]; omega
      · exact this
    · obtain rfl : i = k := by omega
      rw [if_pos h]; simp
end Go.Proofs.YtmoknllbpjpkmaaGreat.Zed
namespace Go.Proofs.YtmoknllbpjpkmaaGreat.Zed
open Go TP
set_option linter.unusedVariables false
set_option linter.unusedSimpArgs false
set_option maxRecDepth 20000
namespace tfY16
theorem tf : (Tryz.prog.underlying 25 = some (.slice 2)) ∧ (el Tryz.prog 25 = some (none, 1)) ∧ (Tryz.prog.underlying 37 = some (.slice 25)) ∧ (el Tryz.prog 37 = some (none, 1)) ∧ (tk Tryz.prog 2 = some none) ∧ (tk Tryz.prog 25 = some none) ∧ (cz Tryz.prog 2 = some 1) ∧ (bz Tryz.prog 2 = some 8) ∧ (cz Tryz.prog 25 = some 1) ∧ (bz Tryz.prog 25 = some 24) ∧ (zr Tryz.prog 2 = some (.int .i64 0)) ∧ (zr Tryz.prog 25 = some (.slice none 0 0)) := by
  refine ⟨?_, ?_, ?_, ?_, ?_, ?_, ?_, ?_, ?_, ?_, ?_, ?_⟩ <;> kernel_rfl
end tfY16
open tfY16

/-! Rows of rows in a law: equal, marked, held. -/
set_option maxHeartbeats 2000000 in
theorem eqInt64SS_z (L : List (List Int)) (hl : L.length ≤ 4000000000) (hr : ∀ r ∈ L, r.length ≤ 4000000000) : ZCalls Tryz.prog 14 [zII L, zII L] (B true) := by
  refine ZCalls.body Tryz.func14 rfl Tryz.ntmps14 (rs := [.tmp 4]) rfl (by simp) rfl fun H Q hQ A hA => ?_
  have a0 := hA 0 _ _ rfl
  have a1 := hA 1 _ _ rfl
  clear hA
  repeat' first | refine rnY ?_ | with_reducible refine And.intro (fun hc => ?_) (fun hc => ?_) | fail
  refine AWp.cut (fun Ac hAc => ?_)
  have c0 := gtY (t := 0) hAc
  have c1 := gtY (t := 1) hAc
  have c5 := gtY (t := 5) hAc
  clear a0 a1
  refine AWp.loop (fun A' H' => ∃ (j : Nat), Ag [11, 12, 13, 14, 15, 16, 17, 18, 19, 20, 21, 22, 23, 24, 25, 26] A' (put Ac (some 5) (I j)) ∧ j ≤ L.length ∧ H' = H) (fun A' _ => L.length - (intV (A' 5)).toNat) ?_ ?_
  · exact ⟨0, agY, by omega, rfl⟩
  · rintro A1 H1 ⟨j, hA, hj, rfl⟩
    have d0 := gdY (t := 0) hA
    have d1 := gdY (t := 1) hA
    have d5 := gdY (t := 5) hA
    by_cases hlt : j < L.length
    · have he := eqInt64S_z (L.getD j []) (hr _ (by simp [hlt]))
      clear hr
      have hg : (L.map fun r => zI r)[j]? = some (zI (L.getD j [])) := by simp [hlt]
      repeat' first | refine rnY ?_ | with_reducible refine And.intro (fun hc => ?_) (fun hc => ?_) | fail
      refine AWp.zreg [(0, none), (1, none), (2, none), (3, none), (4, none), (5, none), (6, none), (7, none), (8, none), (9, none)] mixed (by kernel_rfl) ?_
      repeat' first | refine rzY ?_ | (first | refine ZCalls.to (he) ?_ | refine ZCalls.tf (he) ?_) | fail
      repeat' first | refine rnY ?_ | with_reducible refine And.intro (fun hc => ?_) (fun hc => ?_) | fail
      exact ⟨⟨j + 1, agY, by omega, rfl⟩, by exact ivY⟩
    · obtain rfl : j = L.length := by omega
      repeat' first | refine rnY ?_ | with_reducible refine And.intro (fun hc => ?_) (fun hc => ?_) | fail
      exact hQ.out _ _ (fv) (by exact exY)
/-- The marks of rows of rows. -/
def mkII (k : Int) : List (List Int) → List (List Int)
  | [] => []
  | l :: L => mkI k l.length :: mkII (k + l.length) L
def totN (L : List (List Int)) : Nat → Nat
  | 0 => 0
  | j + 1 => totN L j + (L.getD j []).length
theorem mkII_len : ∀ (L : List (List Int)) (k : Int), (mkII k L).length = L.length
  | [], _ => rfl
  | l :: L, k => by simp [mkII, mkII_len L]
theorem totN_cons (l : List Int) (L : List (List Int)) : ∀ j, totN (l :: L) (j + 1) = l.length + totN L j
  | 0 => by simp [totN]
  | j + 1 => by
    have ih := totN_cons l L j
    show totN (l :: L) (j + 1) + ((l :: L).getD (j + 1) []).length = _
    rw [ih]
    show _ = l.length + (totN L j + (L.getD j []).length)
    simp [Nat.add_assoc]
theorem mkII_get : ∀ (L : List (List Int)) (k : Int) (j : Nat), j < L.length → (mkII k L).getD j [] = mkI (k + totN L j) (L.getD j []).length
  | [], _, j, h => by simp at h
  | l :: L, k, 0, _ => by simp [mkII, totN]
  | l :: L, k, j + 1, h => by
    have ih := mkII_get L (k + l.length) j (by simpa using h)
    rw [totN_cons]
    show (mkII (k + l.length) L).getD j [] = _
    rw [ih]
    show mkI (k + l.length + (totN L j : Int)) (L.getD j []).length = mkI (k + ((l.length + totN L j : Nat) : Int)) (L.getD j []).length
    rw [Int.natCast_add, Int.add_assoc]
theorem totN_le {L : List (List Int)} {B : Nat} (h : ∀ r ∈ L, r.length ≤ B) : ∀ j, totN L j ≤ j * B
  | 0 => by simp [totN]
  | j + 1 => by
    have ih := totN_le h j
    have : (L.getD j []).length ≤ B := by
      by_cases hj : j < L.length
      · exact h _ (by simp [hj])
      · rw [List.getD_eq_getElem?_getD, List.getElem?_eq_none (by omega)]; simp
    unfold totN
    rw [Nat.succ_mul]; omega
set_option maxHeartbeats 2000000 in
theorem heldInt64SS_z (L : List (List Int)) (k : Int) (hl : L.length ≤ 1000000) (hr : ∀ r ∈ L, r.length ≤ 1000000) (h0 : 0 ≤ k) (hk : k ≤ 1099511627776) : ZCalls Tryz.prog 18 [zII (mkII k L), I k] (I (k + totN L L.length)) := by
  have hml := mkII_len L k
  have hmg := mkII_get L k
  have htl := totN_le hr
  generalize mkII k L = M at *
  refine ZCalls.body Tryz.func18 rfl Tryz.ntmps18 (rs := [.tmp 4]) rfl (by simp) rfl fun H Q hQ A hA => ?_
  have a0 := hA 0 _ _ rfl
  have a1 := hA 1 _ _ rfl
  clear hA
  repeat' first | refine rnY ?_ | with_reducible refine And.intro (fun hc => ?_) (fun hc => ?_) | fail
  refine AWp.cut (fun Ac hAc => ?_)
  have c0 := gtY (t := 0) hAc
  have c1 := gtY (t := 1) hAc
  have c5 := gtY (t := 5) hAc
  clear a0 a1
  refine AWp.loop (fun A' H' => ∃ (j : Nat), Ag [6, 7, 8, 9, 10, 11, 12, 13, 14, 15, 16, 17, 18, 19] A' (put (put Ac (some 1) (I (k + totN L j))) (some 5) (I j)) ∧ j ≤ L.length ∧ H' = H) (fun A' _ => L.length - (intV (A' 5)).toNat) ?_ ?_
  · have e0 : totN L 0 = 0 := rfl
    exact ⟨0, agY, by omega, rfl⟩
  · rintro A1 H1 ⟨j, hA, hj, rfl⟩
    have d0 := gdY (t := 0) hA
    have d1 := gdY (t := 1) hA
    have d5 := gdY (t := 5) hA
    by_cases hlt : j < L.length
    · have ht := htl j
      have hjb : j * 1000000 ≤ 1000000 * 1000000 := Nat.mul_le_mul_right _ (by omega)
      have hrl := hr (L.getD j []) (by simp [hlt])
      have hg : (M.map fun r => zI r)[j]? = some (zI (mkI (k + totN L j) (L.getD j []).length)) := by
        rw [← hmg j hlt]; simp [show j < M.length by omega]
      have hst : totN L (j + 1) = totN L j + (L.getD j []).length := rfl
      generalize (L.getD j []).length = n at *
      generalize totN L j = t at *
      have hh := heldInt64S_z n (k + t) (by omega) (by omega) (by omega)
      have hnn : decide (k + (t : Int) + (n : Int) < 0) = false := decide_eq_false (by omega)
      clear hmg htl hr
      repeat' first | refine rnY ?_ | (first | refine ZCalls.to (hh) ?_ | refine ZCalls.tf (hh) ?_) | with_reducible refine And.intro (fun hc => ?_) (fun hc => ?_) | fail
      exact ⟨⟨j + 1, by rw [hst, Int.natCast_add, ← Int.add_assoc]; exact agY, by omega, rfl⟩, by exact ivY⟩
    · obtain rfl : j = L.length := by omega
      clear hmg htl hr
      repeat' first | refine rnY ?_ | with_reducible refine And.intro (fun hc => ?_) (fun hc => ?_) | fail
      exact hQ.out _ _ (fv) (by exact exY)
theorem OwnL.split {lo : Nat} {H : Heap} {rs2 : List Value} : ∀ {rs1 vs : List Value} {ks : List (Nat × Blk)}, OwnL false lo H vs (rs1 ++ rs2) ks → ∃ vs1 vs2 k1 k2, vs = vs1 ++ vs2 ∧ OwnL false lo H vs1 rs1 k1 ∧ OwnL false lo H vs2 rs2 k2 ∧ (∀ k ∈ k1, ∀ k' ∈ k2, k.1 ≠ k'.1) ∧ ks = k1 ++ k2
  | [], vs, ks, h => ⟨[], vs, [], ks, rfl, .nil, h, fun k hk => (by cases hk), rfl⟩
  | r :: rs1, vs, ks, h => by
    obtain ⟨v, vs', ka, kb, rfl, h1, h2, hd, rfl⟩ := OwnL.cons_inv (rs := rs1 ++ rs2) h
    obtain ⟨vs1, vs2, k1, k2, rfl, h3, h4, hd2, rfl⟩ := OwnL.split h2
    refine ⟨v :: vs1, vs2, ka ++ k1, k2, rfl, OwnL.append (vs := [v]) (rs := [r]) h1 h3 (fun k hk k' hk' => hd k hk k' (List.mem_append_left _ hk')), h4, fun k hk k' hk' => ?_, by rw [List.append_assoc]⟩
    rcases List.mem_append.1 hk with hk | hk
    · exact hd k hk k' (List.mem_append_right _ hk')
    · exact hd2 k hk k' hk'
theorem SameK.trans {k1 k2 k3 : List (Nat × Blk)} (a : SameK k1 k2) (b : SameK k2 k3) : SameK k1 k3 := Eq.trans a b
theorem SameK.app {a b a' b' : List (Nat × Blk)} (h : SameK a a') (g : SameK b b') : SameK (a ++ b) (a' ++ b') := by
  unfold SameK at *; rw [List.map_append, List.map_append, h, g]
/-- One row among rows is marked. -/
theorem mark_mid {lo : Nat} {H : Heap} {A B : List (List Int)} {l : List Int} {vs : List Value} {ks : List (Nat × Blk)} (h : OwnL false lo H vs ((A ++ l :: B).map fun r => zI r) ks) (hb : ∀ k ∈ ks, k.1 < H.size) :
    ∃ v km, vs[A.length]? = some v ∧ OwnL false lo H [v] [zI l] km ∧ (∀ k ∈ km, ∃ k' ∈ ks, k'.1 = k.1) ∧ ∀ H' m km', Chg km H H' → OwnL false lo H' [v] [zI m] km' → SameK km km' → ∃ ks', OwnL false lo H' vs ((A ++ m :: B).map fun r => zI r) ks' ∧ SameK ks ks' := by
  rw [List.map_append, List.map_cons] at h
  obtain ⟨vs1, vs2, k1, k2, rfl, h1, h2, hd, rfl⟩ := OwnL.split h
  obtain ⟨v, vs3, k3, k4, rfl, h3, h4, hd2, rfl⟩ := OwnL.cons_inv (rs := B.map fun r => zI r) h2
  have hl := h1.len
  rw [List.length_map] at hl
  refine ⟨v, k3, by rw [List.getElem?_append_right (by omega), hl, Nat.sub_self]; rfl, h3, fun k hk => ⟨k, List.mem_append_right _ (List.mem_append_left _ hk), rfl⟩, fun H' m km' hc ho hs => ?_⟩
  have g1 := h1.chg (fun k hk => hb k (List.mem_append_left _ hk)) hc (fun x hx y hy e => hd y hy x (List.mem_append_left _ hx) e.symm)
  have g4 := h4.chg (fun k hk => hb k (List.mem_append_right _ (List.mem_append_right _ hk))) hc (fun x hx y hy => hd2 x hx y hy)
  have inK : ∀ k ∈ km', ∃ k' ∈ k3, k'.1 = k.1 := fun k hk => hs.mem k hk
  have g34 := OwnL.append ho g4 (fun k hk k' hk' e => by
    obtain ⟨q, q1, q2⟩ := inK k hk
    exact hd2 q q1 k' hk' (q2.trans e))
  have g := OwnL.append g1 g34 (fun k hk k' hk' e => by
    rcases List.mem_append.1 hk' with hk' | hk'
    · obtain ⟨q, q1, q2⟩ := inK k' hk'
      exact hd k hk q (List.mem_append_left _ q1) (e.trans q2.symm)
    · exact hd k hk k' (List.mem_append_right _ hk') e)
  refine ⟨_, ?_, SameK.app (rfl : SameK k1 k1) (hs.app (rfl : SameK k4 k4))⟩
  rw [List.map_append, List.map_cons]
  exact g
set_option maxHeartbeats 4000000 in
theorem markInt64SS_m {H : Heap} {lo : Nat} {v : Value} {L : List (List Int)} {k : Int} {ks : List (Nat × Blk)} (hO : OwnL false lo H [v] [zII L] ks) (hb : ∀ x ∈ ks, x.1 < H.size) (hl : L.length ≤ 1000000) (hr : ∀ r ∈ L, r.length ≤ 1000000) (h0 : 0 ≤ k) (hk : k ≤ 1099511627776) :
    ACalls Tryz.prog 17 [v, I k] H fun u H' => u = I (k + totN L L.length) ∧ Chg ks H H' ∧ H'.size = H.size ∧ ∃ ks', OwnL false lo H' [v] [zII (mkII k L)] ks' ∧ SameK ks ks' := by
  have htl := totN_le hr
  have hml := mkII_len L k
  have hmg := mkII_get L k
  rcases hO.shape with ⟨q1, q2, q3⟩ | ⟨g, o, c, ds, k1, rfl, q4, q5, q6, q7, q8, q9, rfl⟩
  · obtain rfl : L = [] := List.length_eq_zero_iff.1 q1
    have e0 : totN [] 0 = 0 := rfl
    have hO' := hO
    rcases q3 with rfl | rfl
    all_goals
      refine ACalls.body Tryz.func17 rfl Tryz.ntmps17 (rs := [.tmp 4]) rfl (by simp) rfl fun Q hQ A hA => ?_
      have a0 := hA 0 _ _ rfl
      have a1 := hA 1 _ _ rfl
      clear hA
      repeat' first | refine rnY ?_ | with_reducible refine And.intro (fun hc => ?_) (fun hc => ?_) | fail
      refine AWp.cut (fun Ac hAc => ?_)
      have c0 := gtY (t := 0) hAc
      have c1 := gtY (t := 1) hAc
      have c5 := gtY (t := 5) hAc
      clear a0 a1
      refine AWp.loop (fun A' H' => ∃ _ : Unit, Ag [6, 7, 8, 9, 10, 11, 12, 13, 14, 15, 16, 17] A' (put (put Ac (some 1) (I k)) (some 5) (I 0)) ∧ H' = H) (fun A' _ => 0) ?_ ?_
      · exact ⟨(), agY, rfl⟩
      · rintro A1 H1 ⟨_, hA, rfl⟩
        have d0 := gdY (t := 0) hA
        have d1 := gdY (t := 1) hA
        have d5 := gdY (t := 5) hA
        repeat' first | refine rnY ?_ | with_reducible refine And.intro (fun hc => ?_) (fun hc => ?_) | fail
        exact hQ.out _ _ ⟨by simp [totN], Chg.refl _ _, rfl, _, hO', rfl⟩
  · have hlog : lo ≤ g := (hO.get _ (List.mem_cons_self ..)).1
    have hkb : ∀ x ∈ k1, x.1 < H.size := fun x hx => hb x (List.mem_cons_of_mem _ hx)
    have hgb : g < H.size := hb _ (List.mem_cons_self ..)
    have q6' : (L.map fun r => zI r).length = L.length := List.length_map _
    have hvl : ((ds.drop o).take (L.length * 1)).length = L.length := by rw [List.length_take, List.length_drop]; omega
    have hvg : ∀ j, j < L.length → ((ds.drop o).take (L.length * 1))[j]? = ds[o + j]? := fun j hj => by
      rw [List.getElem?_take_of_lt (by omega), List.getElem?_drop]
    have hfin : ∀ H2 k2, OwnL false lo H2 ((ds.drop o).take (L.length * 1)) ((mkII k L).map fun r => zI r) k2 → SameK k1 k2 → H2.get g = .cells ds 1 false → OwnL false lo H2 [.slice (some ⟨g, o, none⟩) L.length c] [zII (mkII k L)] ((g, .cells ds 1 false) :: (k2 ++ [])) := fun H2 k2 hh hs hg => by
      unfold Zed.zII Zed.zL
      rw [hml]
      exact OwnL.own hlog hg q5 (by rw [List.length_map, hml]; omega) q7 hh .nil (fun x hx => by
        rw [List.append_nil] at hx
        obtain ⟨y, y1, y2⟩ := hs.mem x hx
        rw [← y2]; exact q9 y y1) (fun x _ y hy => by cases hy)
    have htk : ∀ j, j < L.length → (mkII k L).take (j + 1) ++ L.drop (j + 1) = (mkII k L).take j ++ mkI (k + totN L j) (L.getD j []).length :: L.drop (j + 1) := fun j hj => by
      have := hmg j hj
      rw [List.take_succ_eq_append_getElem (by omega), List.append_assoc, ← this]
      simp [show j < (mkII k L).length by omega]
    have hdk : ∀ j, j < L.length → (mkII k L).take j ++ L.drop j = (mkII k L).take j ++ L.getD j [] :: L.drop (j + 1) := fun j hj => by
      rw [List.drop_eq_getElem_cons hj]; simp [hj]
    have hal : ∀ j, j < L.length → ((mkII k L).take j).length = j := fun j hj => by rw [List.length_take]; omega
    have h00 : (mkII k L).take 0 ++ L.drop 0 = L := rfl
    have hnn : (mkII k L).take L.length ++ L.drop L.length = mkII k L := by rw [← hml, List.take_length, List.drop_of_length_le (by omega), List.append_nil]
    generalize (ds.drop o).take (L.length * 1) = vs at *
    generalize mkII k L = M at *
    clear hmg q7 q6 hO hb
    refine ACalls.body Tryz.func17 rfl Tryz.ntmps17 (rs := [.tmp 4]) rfl (by simp) rfl fun Q hQ A hA => ?_
    have a0 := hA 0 _ _ rfl
    have a1 := hA 1 _ _ rfl
    clear hA
    repeat' first | refine rnY ?_ | with_reducible refine And.intro (fun hc => ?_) (fun hc => ?_) | fail
    refine AWp.cut (fun Ac hAc => ?_)
    have c0 := gtY (t := 0) hAc
    have c1 := gtY (t := 1) hAc
    have c5 := gtY (t := 5) hAc
    clear a0 a1
    refine AWp.loop (fun A' H' => ∃ (j : Nat) (k2 : List (Nat × Blk)), Ag [6, 7, 8, 9, 10, 11, 12, 13, 14, 15, 16, 17] A' (put (put Ac (some 1) (I (k + totN L j))) (some 5) (I j)) ∧ j ≤ L.length ∧ H'.get g = .cells ds 1 false ∧ H'.size = H.size ∧ Chg k1 H H' ∧ OwnL false lo H' vs ((M.take j ++ L.drop j).map fun r => zI r) k2 ∧ SameK k1 k2) (fun A' _ => L.length - (intV (A' 5)).toNat) ?_ ?_
    · have e0 : totN L 0 = 0 := rfl
      exact ⟨0, k1, agY, by omega, q4, rfl, Chg.refl _ _, by rw [h00]; exact q8, rfl⟩
    · rintro A1 H1 ⟨j, k2, hA, hj, hg, hsz, hch, hown, hsk⟩
      have d0 := gdY (t := 0) hA
      have d1 := gdY (t := 1) hA
      have d5 := gdY (t := 5) hA
      by_cases hlt : j < L.length
      · have hrl := hr (L.getD j []) (by simp [hlt])
        have htj := htl j
        have hjb : j * 1000000 ≤ 1000000 * 1000000 := Nat.mul_le_mul_right _ (by omega)
        have htk := htk j hlt
        have hst : totN L (j + 1) = totN L j + (L.getD j []).length := rfl
        rw [hdk j hlt] at hown
        have hk2b : ∀ x ∈ k2, x.1 < H1.size := fun x hx => by
          obtain ⟨y, y1, y2⟩ := hsk.mem x hx
          have := hkb y y1; omega
        obtain ⟨w, km, hw1, hw2, hw3, hw4⟩ := mark_mid hown hk2b
        rw [hal j hlt, hvg j hlt] at hw1
        have hgk : ∀ x ∈ km, x.1 ≠ g := fun x hx e => by
          obtain ⟨y, y1, y2⟩ := hw3 x hx
          obtain ⟨z, z1, z2⟩ := hsk.mem y y1
          exact q9 z z1 (z2.trans (y2.trans e))
        have hkw : ∀ x ∈ km, ∃ y ∈ k1, y.1 = x.1 := fun x hx => by
          obtain ⟨y, y1, y2⟩ := hw3 x hx
          obtain ⟨z, z1, z2⟩ := hsk.mem y y1
          exact ⟨z, z1, z2.trans y2⟩
        clear hdk hown htl hfin hr hvg hal h00 hnn hk2b hw3 q8
        generalize L.getD j [] = l at *
        generalize totN L j = t at *
        have hm := markInt64S_m (k := k + t) hw2 (by omega) (by omega) (by omega)
        repeat' first | refine rnY ?_ | (refine hm.mono ?_; rintro u H2 ⟨rfl, hc2, hs2, km', ho2, hsk2⟩) | with_reducible refine And.intro (fun hc => ?_) (fun hc => ?_) | fail
        obtain ⟨k3, ho3, hs3⟩ := hw4 H2 _ km' hc2 ho2 hsk2
        exact ⟨⟨j + 1, k3, by rw [hst, Int.natCast_add, ← Int.add_assoc]; exact agY, by omega, (hc2.get g (by omega) fun x hx => hgk x hx).trans hg, by omega, hch.trans (hc2.wide hkw), by rw [htk]; exact ho3, hsk.trans hs3⟩, by exact ivY⟩
      · obtain rfl : j = L.length := by omega
        rw [hnn] at hown
        have hf := hfin H1 k2 hown hsk hg
        clear htl hfin hr hvg hal h00 hnn hdk htk q8 hown
        repeat' first | refine rnY ?_ | with_reducible refine And.intro (fun hc => ?_) (fun hc => ?_) | fail
        refine hQ.out _ _ ⟨rfl, hch.wide fun x hx => ⟨x, List.mem_cons_of_mem _ hx, rfl⟩, hsz, _, hf, ?_⟩
        rw [List.append_nil]
        unfold SameK at *
        rw [List.map_cons, List.map_cons, hsk]
theorem markInt64SS_b {H : Heap} {lo hi : Nat} {v : Value} {L : List (List Int)} {k : Int} (hO : OwnB lo hi H [v] [zII L]) (hs : hi ≤ H.size) (hl : L.length ≤ 1000000) (hr : ∀ r ∈ L, r.length ≤ 1000000) (h0 : 0 ≤ k) (hk : k ≤ 1099511627776) :
    ACalls Tryz.prog 17 [v, I k] H fun u H' => u = I (k + totN L L.length) ∧ ExtR lo hi H H' ∧ OwnB lo hi H' [v] [zII (mkII k L)] := by
  obtain ⟨ks, hL, hb⟩ := hO.in
  refine (markInt64SS_m hL (fun x hx => by have := hb x hx; omega) hl hr h0 hk).mono ?_
  rintro u H' ⟨rfl, q1, q2, ks', q3, q4⟩
  refine ⟨rfl, q1.toR hb, ks', q3, fun k hk => ?_⟩
  obtain ⟨k', r1, r2⟩ := q4.mem k hk
  rw [← r2]; exact (hb k' r1).2
end Go.Proofs.YtmoknllbpjpkmaaGreat.Zed
namespace Go.Proofs.YtmoknllbpjpkmaaGreat.Zed
open Go TP
set_option linter.unusedVariables false
set_option linter.unusedSimpArgs false
set_option maxRecDepth 20000
namespace tfY17
theorem tf : True := trivial
end tfY17
open tfY17

/-- One row more behind rows of one's own. -/
theorem appR {H : Heap} {b k : Nat} {cs : List Value} {w : Value} {K : Value → Heap → Prop} (hg : H.get b = .cells cs 1 false) (hk : cs.length = k) (hw : w.oneCell' = true) (hb : k ≤ 1000000) (h : K (.slice (some ⟨H.size, 0, none⟩) (k + 1) 0) ((H.set b .dead).push (.cells (cs ++ [w]) 1 false))) :
    appendK Tryz.prog 37 37 (.slice (some ⟨b, 0, none⟩) k 0) (FZ 1 1 [w]) H K := by
  have hel : el Tryz.prog 37 = some (none, 1) := rfl
  have hu : Tryz.prog.underlying 37 = some (.slice 25) := rfl
  have hc : cz Tryz.prog 25 = some 1 := rfl
  have hbz : bz Tryz.prog 25 = some 24 := rfl
  have hz : zr Tryz.prog 25 = some (.slice none 0 0) := rfl
  unfold appendK appsK
  simp only [hu, hc, hbz, hz, hel, hg]
  refine ⟨by omega, by omega, rfl, rfl, rfl, rfl, ?_, trivial, trivial, by omega, fun q => by omega, fun _ => ⟨by omega, ?_⟩⟩
  · intro v hv
    rw [List.mem_singleton.1 hv]; exact hw
  · rw [List.drop_zero, Nat.mul_one, List.take_of_length_le (by omega)]; exact h
theorem appR0 {H : Heap} {w : Value} {K : Value → Heap → Prop} (hw : w.oneCell' = true) (h : K (.slice (some ⟨H.size, 0, none⟩) 1 0) (H.push (.cells [w] 1 false))) :
    appendK Tryz.prog 37 37 (.slice none 0 0) (FZ 1 1 [w]) H K := by
  have hel : el Tryz.prog 37 = some (none, 1) := rfl
  have hu : Tryz.prog.underlying 37 = some (.slice 25) := rfl
  have hc : cz Tryz.prog 25 = some 1 := rfl
  have hbz : bz Tryz.prog 25 = some 24 := rfl
  have hz : zr Tryz.prog 25 = some (.slice none 0 0) := rfl
  unfold appendK appsK
  simp only [hu, hc, hbz, hz, hel]
  refine ⟨by omega, by omega, rfl, rfl, rfl, rfl, ?_, by omega, fun q => by omega, fun _ => h⟩
  intro v hv
  rw [List.mem_singleton.1 hv]; exact hw
/-- The variable at bm holds rows of one's own: R. -/
def RowsB (z bm : Nat) (R : List (List Int)) (H : Heap) : Prop :=
  (R = [] ∧ H.get bm = .cells [.slice none 0 0] 1 false) ∨
  ∃ b cs ks, H.get bm = .cells [.slice (some ⟨b, 0, none⟩) R.length 0] 1 false ∧ z ≤ b ∧ b < H.size ∧ H.get b = .cells cs 1 false ∧ cs.length = R.length ∧ OwnL false z H cs (R.map fun r => zI r) ks ∧ ∀ x ∈ ks, x.1 < H.size ∧ x.1 ≠ b
theorem RowsB.keep {z bm g : Nat} {R : List (List Int)} {H H' : Heap} (h : RowsB z bm R H) (hbm : bm < H.size) (hbg : bm ≠ g) (hgz : g < z) (hs : H.size ≤ H'.size) (hk : ∀ b, b < H.size → b ≠ g → H'.get b = H.get b) : RowsB z bm R H' := by
  rcases h with ⟨h1, h2⟩ | ⟨b, cs, ks, h1, h2, h3, h5, h6, h7, h8⟩
  · exact .inl ⟨h1, (hk bm hbm hbg).trans h2⟩
  · refine .inr ⟨b, cs, ks, (hk bm hbm hbg).trans h1, h2, by omega, (hk b h3 (by omega)).trans h5, h6, h7.keep (.inl rfl) (Nat.le_refl _) fun k hk' => ?_, fun x hx => ⟨by have := (h8 x hx).1; omega, (h8 x hx).2⟩⟩
    have h9 := (h7.get k hk')
    rw [hk k.1 (h8 k hk').1 (by have := h9.1; omega)]
    exact h9.2
end Go.Proofs.YtmoknllbpjpkmaaGreat.Zed
namespace Go.Proofs.YtmoknllbpjpkmaaGreat.Zed
open Go TP
set_option linter.unusedVariables false
set_option linter.unusedSimpArgs false
set_option maxRecDepth 20000
namespace tfY18
theorem tf : True := trivial
end tfY18
open tfY18

/-- Rows and a code. -/
abbrev iiV (L : List (List Int)) (c : Int) : Value := .tuple #[zII L, I c]
theorem two_nil {H : Heap} (k : Int) : OwnB H.size H.size H [.tuple #[.slice none 0 0, I k]] [iiV [] k] :=
  OwnB.tup (l := [.slice none 0 0, I k]) (l' := [zII [], I k]) (.cflats (OwnB.nilr 1) (fun x hx => by simp at hx; subst hx; rfl))
theorem RowsB.own {z bm : Nat} {R : List (List Int)} {H : Heap} (h : RowsB z bm R H) (hz : z ≤ H.size) : (R = [] ∧ H.get bm = .cells [.slice none 0 0] 1 false) ∨ ∃ b, H.get bm = .cells [.slice (some ⟨b, 0, none⟩) R.length 0] 1 false ∧ OwnB z H.size H [.slice (some ⟨b, 0, none⟩) R.length 0] [zII R] := by
  rcases h with ⟨h1, h2⟩ | ⟨b, cs, ks, h1, h2, h3, h5, h6, h7, h8⟩
  · exact .inl ⟨h1, h2⟩
  · refine .inr ⟨b, h1, (b, .cells cs 1 false) :: (ks ++ []), ?_, fun x hx => ?_⟩
    · exact OwnL.own h2 h5 (by omega) (by rw [List.length_map]; omega) (h7.nf fun x hx => by obtain ⟨y, _, rfl⟩ := List.mem_map.1 hx; rfl) (by rw [List.drop_zero, List.take_of_length_le (by omega)]; exact h7) .nil (fun x hx => (h8 x (by simpa using hx)).2) (fun x _ y hy => by cases hy)
    · rw [List.append_nil] at hx
      rcases List.mem_cons.1 hx with rfl | hx
      · exact h3
      · exact (h8 x hx).1
end Go.Proofs.YtmoknllbpjpkmaaGreat.Zed
