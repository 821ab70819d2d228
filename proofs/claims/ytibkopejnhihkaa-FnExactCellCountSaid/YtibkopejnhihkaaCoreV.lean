import Derived.Test.YtibkopejnhihkaaCoreU
import Derived.Deep.RegionHeld3
import Derived.IntWalk
namespace Go.Proofs.Ytibkopejnhihkaa.Core
set_option linter.unusedVariables false
set_option linter.unusedSimpArgs false
open Go.RowKit Go.Sort Go.Proofs.YtibkopejnhihkaaW.PrintWords
/-! faceClasses -/
/-- The classes' state: the variable 'sets' at block bx holds v, which is s. -/
structure CI (w0 : World) (bx : Nat) (v : Value) (n : Nat) (W : World) (s : List Int) : Prop where
  below : Below w0.heap.size w0 W
  len : s.length = n
  hbx : w0.heap.size ≤ bx
  box : W.heap[bx]? = some (.cells #[v] 36 (0, 0))
  row : Kd.R (Kd.int .i64) 2 W w0.heap.size (fun k => k ≠ bx) v s
theorem CI.move {w0 : World} {bx n : Nat} {v : Value} {W W' : World} {s : List Int} (h : CI w0 bx v n W s) (hb : Below W.heap.size W W') : CI w0 bx v n W' s :=
  ⟨below_step h.below hb, h.len, h.hbx, blk_below h.box hb, Kd.R_below h.row hb⟩
theorem CI.form {w0 : World} {bx n : Nat} {v : Value} {W : World} {s : List Int} (h : CI w0 bx v n W s) (hn : 0 < n) : ∃ g cap, v = .slice (some ⟨g, 0, none⟩) n cap ∧ w0.heap.size ≤ g ∧ g < W.heap.size ∧ g ≠ bx := by
  obtain ⟨g, cap, e, h1, h2, _⟩ := Kd.R_form h.row (by rw [h.len]; exact hn)
  rw [h.len] at e
  exact ⟨g, cap, e, h1, h2, h.row.1 g (by rw [e]; rfl)⟩
theorem CI.turned {w0 : World} {bx n g cap : Nat} {W W' : World} {s s' : List Int} (h : CI w0 bx (.slice (some ⟨g, 0, none⟩) n cap) n W s) (hl : s'.length = n) (hR : Kd.R (Kd.int .i64) 2 W' w0.heap.size (fun k => k ≠ bx) (.slice (some ⟨g, 0, none⟩) n cap) s') (hg : W.grownBy W' (some g)) : CI w0 bx (.slice (some ⟨g, 0, none⟩) n cap) n W' s' :=
  ⟨h.below.grown hg h.below.size (fun k hk => by
      have := Kd.R_base h.row g rfl
      injection hk with hk
      omega), hl, h.hbx, blk_grown h.box hg (fun e => h.row.1 g rfl (by injection e with e; exact e.symm)), hR⟩
theorem unionL_len (l : List Int) (i k : Nat) : (unionL l i k).length = l.length := by simp [unionL, turnL]
theorem turnL_bd (hi lo b : Int) (l : List Int) (h : ∀ x ∈ l, 0 ≤ x ∧ x ≤ b) (hlo : 0 ≤ lo ∧ lo ≤ b) : ∀ x ∈ turnL hi lo l, 0 ≤ x ∧ x ≤ b := by
  intro x hx
  obtain ⟨y, hy, rfl⟩ := List.mem_map.1 hx
  split
  · exact hlo
  · exact h y hy
def faceStep (s : List Int) (a f : Nat) (x : Int × Int) : List Int := unionL s (4 * a + f) (4 * x.1 + pm x.2 f).toNat
theorem pm_bd (p f : Int) (h0 : 0 ≤ p) (h1 : p < 24) (hf0 : 0 ≤ f) (hf1 : f < 4) : 0 ≤ pm p f ∧ pm p f < 4 := by
  have h := pmL_bd p h0 h1
  unfold pm
  have hl : f.toNat < (pmL p).length := by omega
  have hm := h.2 _ (List.getElem_mem hl)
  rw [List.getD_eq_getElem?_getD, List.getElem?_eq_getElem hl]
  simp only [Option.getD_some]
  omega
set_option maxHeartbeats 1000000 in
set_option maxRecDepth 100000 in
theorem face_visit (w0 : World) (bx n g cap : Nat) (W : World) (s : List Int) (a f : Nat) (t p : Int) (hn : n ≤ 100) (hci : CI w0 bx (.slice (some ⟨g, 0, none⟩) n cap) n W s) (hf : f < 4) (ha : 4 * a + f < n) (ht0 : 0 ≤ t) (ht : 4 * t + 3 < n) (hp0 : 0 ≤ p) (hp : p < 24) :
    Calls Try.prog 134 #[.int .i64 a, .int .i64 f, .agg #[.int .i64 t, .int .i64 p], .agg (ints (pmL p)), .pointer (some ⟨bx, 0, none⟩)] W fun e W' => e = .returned (.tuple #[]) ∧ CI w0 bx (.slice (some ⟨g, 0, none⟩) n cap) n W' (faceStep s a f (t, p)) ∧ W.grownBy W' (some g) := by
  have hpm := pmL_bd p hp0 hp
  have hq := pm_bd p f hp0 hp (by omega) (by omega)
  have hqq : (pmL p).getD f 0 = pm p f := by unfold pm; rw [Int.toNat_natCast]
  unfold faceStep
  dsimp only
  obtain ⟨q, hqn⟩ : ∃ q : Nat, pm p f = (q : Int) := ⟨(pm p f).toNat, by omega⟩
  obtain ⟨tn, rfl⟩ : ∃ tn : Nat, t = (tn : Int) := ⟨t.toNat, by omega⟩
  rw [hqn] at hqq ⊢
  have hc8 : ((W.alloc (.cells #[.int .i64 tn, .int .i64 p] 110)).alloc (.cells (ints (pmL p)) 120)).cell? ⟨W.heap.size + 1, f, none⟩ = some (.int .i64 q) := by
    rw [blk_cell (blk_at_new (by simp) (o := .cells (ints (pmL p)) 120)) f, ints_get _ _ (by omega), hqq]
  have hcb : ((W.alloc (.cells #[.int .i64 tn, .int .i64 p] 110)).alloc (.cells (ints (pmL p)) 120)).cell? ⟨bx, 0, none⟩ = some (.slice (some ⟨g, 0, none⟩) n cap) := pw_cell_below ((below_alloc (below_alloc (Below.refl W.heap.size W) (.cells #[.int .i64 tn, .int .i64 p] 110)) (.cells (ints (pmL p)) 120))) ((blk_cell hci.box 0).trans rfl)
  have hne : g ≠ bx ∧ g ≠ W.heap.size ∧ g ≠ W.heap.size + 1 := by
    obtain ⟨g', cap', e, h1, h2, h3⟩ := hci.form (by omega)
    injection e with e _ _
    injection e with e
    injection e with e _ _
    subst e
    exact ⟨h3, by omega, by omega⟩
  have hc7 : ((W.alloc (.cells #[.int .i64 tn, .int .i64 p] 110)).alloc (.cells (ints (pmL p)) 120)).cell? ⟨W.heap.size, 0, none⟩ = some (.int .i64 tn) := (blk_cell (blk_alloc (blk_new W (.cells #[.int .i64 tn, .int .i64 p] 110)) _) 0).trans rfl
  have hci2 := hci.move (below_alloc (below_alloc (Below.refl W.heap.size W) (.cells #[.int .i64 tn, .int .i64 p] 110)) (.cells (ints (pmL p)) 120))
  have HG0 := Lib.hid ((World.grownBy_alloc W (.cells #[.int .i64 tn, .int .i64 p] 110) (some g)).trans (World.grownBy_alloc _ (.cells (ints (pmL p)) 120) (some g)))
  have HC := Lib.hid hci2
  have e1 : (4 * (tn : Int) + (q : Int)).toNat = 4 * tn + q := by omega
  rw [e1]
  clear hci hci2 hpm hqq e1
  go_enter Try.func134, Try.ntmps134
  go_wp2
  generalize (W.alloc (.cells #[.int .i64 tn, .int .i64 p] 110)).alloc (.cells (ints (pmL p)) 120) = W2 at *
  have HU := Lib.hid (union_calls s (4 * a + f) (4 * tn + q) g cap (by rw [HC.out.len]; omega) (by rw [HC.out.len]; omega) w0.heap.size (fun k => k ≠ bx) W2.drew (by rw [HC.out.len]; exact HC.out.row))
  rw [HC.out.len] at HU
  have HN := Lib.hid hne
  clear hne
  have hfi0 : (0 : Int) ≤ (f : Int) := by omega
  have hfi1 : (f : Int) < 4 := by omega
  have hw1 : IntKind.i64.wrap (4 * (a : Int)) = 4 * a := IntWalk.i64_in _ (by omega)
  have hw2 : IntKind.i64.wrap (4 * (a : Int) + f) = 4 * a + f := IntWalk.i64_in _ (by omega)
  have hw3 : IntKind.i64.wrap (4 * (tn : Int)) = 4 * tn := IntWalk.i64_in _ (by omega)
  have hw4 : IntKind.i64.wrap (4 * (tn : Int) + q) = 4 * tn + q := IntWalk.i64_in _ (by omega)
  clear hqn hq ht0 ht ha
  go_region_held3 (fun V => V.cell? ⟨bx, 0, none⟩ = some (.slice (some ⟨g, 0, none⟩) n cap) ∧ V.cell? ⟨W.heap.size, 0, none⟩ = some (.int .i64 tn) ∧ V.cell? ⟨W.heap.size + 1, f, none⟩ = some (.int .i64 q)) (first | (exact ⟨World.grownBy.cell hg3 hcb (fun e => HN.out.1 (by injection e with e; exact e.symm)), World.grownBy.cell hg3 hc7 (fun e => HN.out.2.1 (by injection e with e; exact e.symm)), World.grownBy.cell hg3 hc8 (fun e => HN.out.2.2 (by injection e with e; exact e.symm))⟩) | go_keep) (first | (go_at_call 120; refine HU.out.mono ?_; rintro e w3 ⟨rfl, hr3, hg3⟩))
  go_wp2
  go_end0
  have hgd := (show W2.grownBy W2.drew (some g) from ⟨rfl, rfl, rfl, Nat.le_refl _, fun _ _ _ => rfl⟩).trans hg3
  refine ⟨rfl, HC.out.turned ?_ hr3 hgd, HG0.out.trans hgd⟩
  rw [unionL_len]; exact HC.out.len
/-- The classes of the faces. -/
def faceL (T : List (List (Int × Int))) : List Int := numL (glT faceStep (cntL (4 * T.length)) T T.length)
theorem glF_keep {Q : List Int → Prop} {step : List Int → Nat → Nat → Int × Int → List Int} (hs : ∀ s a f x, Q s → Q (step s a f x)) (s : List Int) (a : Nat) (row : List (Int × Int)) (f : Nat) (h : Q s) : Q (glF step s a row f) := by
  induction f with
  | zero => exact h
  | succ f ih => unfold glF; split; exact ih; exact hs _ _ _ _ ih
theorem glT_keep {Q : List Int → Prop} {step : List Int → Nat → Nat → Int × Int → List Int} (hs : ∀ s a f x, Q s → Q (step s a f x)) (s : List Int) (T : List (List (Int × Int))) (n : Nat) (h : Q s) : Q (glT step s T n) := by
  induction n with
  | zero => exact h
  | succ n ih => exact glF_keep hs _ _ _ _ ih
theorem cntL_bd (n : Nat) (hn : n ≤ 100) : ∀ x ∈ cntL n, 0 ≤ x ∧ x ≤ 100000 := by
  intro x hx
  obtain ⟨i, hi, rfl⟩ := List.mem_map.1 hx
  have := List.mem_range.1 hi
  omega
def InB (s : List Int) : Prop := ∀ x ∈ s, 0 ≤ x ∧ x ≤ 100000
theorem getD_inB {s : List Int} (h : InB s) (i : Nat) : 0 ≤ s.getD i 0 ∧ s.getD i 0 ≤ 100000 := by
  by_cases hi : i < s.length
  · rw [List.getD_eq_getElem?_getD, List.getElem?_eq_getElem hi]; exact h _ (List.getElem_mem hi)
  · rw [List.getD_eq_getElem?_getD, List.getElem?_eq_none (by omega)]; simp
theorem union_inB {s : List Int} (h : InB s) (i k : Nat) : InB (unionL s i k) := turnL_bd _ _ _ _ h (getD_inB h i)
theorem hmf (fn : Fn) (first cap : Array Value) (w : World) : (Instr.makeFunc fn first cap).run Try.prog w = .ok (.func fn first cap) w := rfl
set_option maxHeartbeats 1000000 in
set_option maxRecDepth 100000 in
theorem size_calls (A : Option Addr) (n c : Nat) (w : World) : Calls Try.prog 81 #[.slice A n c] w fun e w' => e = .returned (.int .i64 n) ∧ w = w' := by
  go_enter Try.func81, Try.ntmps81
  go_wp2
  go_ret
  exact ⟨rfl, rfl⟩
set_option maxHeartbeats 1000000 in
set_option maxRecDepth 100000 in
theorem faceClasses_calls (T : List (List (Int × Int))) (hF : Fine T) (A : Option Addr) (c : Nat) (w : World) (hT : Kd.C (Kd.slice 110 FK) w A T.length T) :
    Calls Try.prog 83 #[.agg #[.slice A T.length c]] w fun e w' => ∃ v : Value, e = .returned v ∧ Kd.R (Kd.int .i64) 2 w' w.heap.size (fun _ => True) v (faceL T) ∧ Below w.heap.size w w' := by
  have hn := hF.1
  go_enter Try.func83, Try.ntmps83
  go_wp2_with fail
  refine (size_calls _ _ _ _).mono ?_
  rintro e w1 ⟨rfl, rfl⟩
  go_wp2_with fail
  have e4 : (4 * (T.length : Int)) = ((4 * T.length : Nat) : Int) := by omega
  rw [e4]
  refine (counting_calls (4 * T.length) (by omega) _).mono ?_
  rintro e w1 ⟨v, rfl, hR, hB⟩
  have hB0 := below_step (below_alloc (Below.refl w.heap.size w) (.cells #[.slice A T.length c] 29)) hB
  have hR := Kd.R_lower hR (show w.heap.size ≤ _ by simp)
  generalize hnn : 4 * T.length = n at *
  have hl : (cntL n).length = n := cntL_len n
  obtain ⟨A', c', rfl, hcc, _⟩ := Kd.R_reads hR
  rw [hl] at hR hcc
  rw [hl]
  have hA : ∃ g, g < w1.heap.size + 1 ∧ (0 < n → A' = some ⟨g, 0, none⟩) := by
    by_cases h0 : 0 < n
    · obtain ⟨g, cap, e, h1, h2, _⟩ := Kd.R_form hR (by omega)
      injection e with e _ _
      exact ⟨g, by omega, fun _ => e⟩
    · exact ⟨w1.heap.size, by omega, fun h => absurd h h0⟩
  obtain ⟨g, hg, hA⟩ := hA
  have HC : CI w w1.heap.size (.slice A' n c') n (w1.alloc (.cells #[.slice A' n c'] 36)) (cntL n) :=
    ⟨below_alloc hB0 _, hl, hB0.size, blk_new _ _, Kd.R_below (Kd.R_mono (Kd.R_bound hR) (fun k hk => Nat.ne_of_lt hk.2.2.1)) (below_alloc (Below.refl _ _) _)⟩
  have hbox : (w1.alloc (.cells #[.slice A' n c'] 36)).cell? ⟨w.heap.size, 0, none⟩ = some (.slice A T.length c) := (blk_cell (blk_below (blk_below (blk_new w (.cells #[.slice A T.length c] 29)) hB) (below_alloc (Below.refl _ _) _)) 0).trans rfl
  have HC := Lib.hid HC
  have HT := Lib.hid hT
  have HF := Lib.hid hF
  have hlt := hB0.size
  clear hT hF hR hB hB0 hl hcc
  go_wp2_with fail
  refine (glued_calls T HF.out A c 134 (g) #[.pointer (some ⟨w1.heap.size, 0, none⟩)] (CI w w1.heap.size (.slice A' n c') n) faceStep (cntL n) w _ (by simp; omega) (fun _ _ => rfl) (fun W W' s h hb => h.move hb) HT.out (fun W s h => h.below) ?_ HC.out).mono ?_
  · intro W s a f x h ha hf hx hx0
    have hx1 := (HF.out.2 a ha).2 f hf (by rw [hx]; exact hx0)
    rw [hx] at hx1
    obtain ⟨t, p⟩ := x
    rw [hA (by omega)] at h ⊢
    refine (face_visit w w1.heap.size n g c' W s a f t p (by omega) h hf (by omega) hx0 (by have := hx1.1; dsimp only at this; omega) hx1.2.1 hx1.2.2).mono ?_
    rintro e W' ⟨h1, h2, h3⟩
    exact ⟨h1, h2, h3⟩
  rintro e w2 ⟨rfl, hI, hG⟩
  have hl2 := hI.len
  have hbx2 : w2.cell? ⟨w1.heap.size, 0, none⟩ = some (.slice A' n c') := (blk_cell hI.box 0).trans rfl
  have hC2 := (Kd.R_reads' hI.row).2.2
  have hb2 : InB (glT faceStep (cntL n) T T.length) := glT_keep (Q := InB) (fun s a f x h => union_inB h _ _) _ _ _ (cntL_bd n (by omega))
  have hz2 := hI.below.size
  have HI := Lib.hid hI
  have HN := Lib.hid (numbered_calls A' c' _ w2 hC2 (by omega) hb2)
  rw [hl2] at HN
  clear hI HC hR hG hl2 hC2 hb2 e4 hA
  go_wp2_with fail
  refine HN.out.mono ?_
  rintro e w3 ⟨v, rfl, hR, hB⟩
  have HR := Lib.hid hR
  have HB := Lib.hid hB
  clear hR hB hbx2 hlt hg hn
  go_wp2
  go_ret
  refine ⟨_, rfl, ?_, below_step HI.out.below HB.out⟩
  unfold faceL
  rw [hnn]
  exact Kd.R_lower HR.out hz2

/-! edgeClasses -/
theorem pm_inj (p : Int) (u v : Nat) (h0 : 0 ≤ p) (h1 : p < 24) (hu : u < 4) (hv : v < 4) (hne : u ≠ v) : (pmL p).getD u 0 ≠ (pmL p).getD v 0 := by
  have key : ∀ p : Fin 24, ∀ u : Fin 4, ∀ v : Fin 4, u ≠ v → (pmL (p.1 : Int)).getD u.1 0 ≠ (pmL (p.1 : Int)).getD v.1 0 := by decide +kernel
  have := key ⟨p.toNat, by omega⟩ ⟨u, hu⟩ ⟨v, hv⟩ (by intro h; exact hne (congrArg Fin.val h))
  rwa [show ((p.toNat : Nat) : Int) = p by omega] at this
theorem ends_bd (k : Nat) (hk : k < 6) : ∃ u v : Nat, endA k = u ∧ endB k = v ∧ u < 4 ∧ v < 4 ∧ u ≠ v := by
  have key : ∀ k : Fin 6, ∃ u : Fin 4, ∃ v : Fin 4, endA (k.1 : Int) = (u.1 : Int) ∧ endB (k.1 : Int) = (v.1 : Int) ∧ u.1 ≠ v.1 := by decide +kernel
  obtain ⟨u, v, h1, h2, h3⟩ := key ⟨k, hk⟩
  exact ⟨u.1, v.1, h1, h2, u.2, v.2, h3⟩
theorem edgeN_bd (u v : Nat) (hu : u < 4) (hv : v < 4) (hne : u ≠ v) : ∃ e : Nat, edgeN u v = e ∧ e < 6 := by
  have key : ∀ u v : Fin 4, u.1 ≠ v.1 → ∃ e : Fin 6, edgeN (u.1 : Int) (v.1 : Int) = (e.1 : Int) := by decide +kernel
  obtain ⟨e, h⟩ := key ⟨u, hu⟩ ⟨v, hv⟩ hne
  exact ⟨e.1, h, e.2⟩
/-- The first k edges of face f. -/
def edgeTo (s : List Int) (a f : Nat) (x : Int × Int) : Nat → List Int
  | 0 => s
  | k + 1 => if endA k ≠ f ∧ endB k ≠ f then unionL (edgeTo s a f x k) (6 * a + k) (6 * x.1 + edgeN (pm x.2 (endA k)) (pm x.2 (endB k))).toNat else edgeTo s a f x k
/-- The classes of the edges. -/
def edgeL (T : List (List (Int × Int))) : List Int := numL (glT (fun s a f x => edgeTo s a f x 6) (cntL (6 * T.length)) T T.length)
def edgeStep (s : List Int) (a f : Nat) (x : Int × Int) : List Int := edgeTo s a f x 6
theorem edgeStep_inB {s : List Int} (h : InB s) (a f : Nat) (x : Int × Int) : InB (edgeStep s a f x) := by
  unfold edgeStep
  generalize (6 : Nat) = k
  induction k with
  | zero => exact h
  | succ k ih =>
    unfold edgeTo
    split
    · exact union_inB ih _ _
    · exact ih
set_option maxHeartbeats 1000000 in
set_option maxRecDepth 100000 in
theorem edge_visit (w0 : World) (bx n g cap : Nat) (W : World) (s : List Int) (a f : Nat) (t p : Int) (hn : n ≤ 100) (hci : CI w0 bx (.slice (some ⟨g, 0, none⟩) n cap) n W s) (hf : f < 4) (ha : 6 * a + 5 < n) (ht0 : 0 ≤ t) (ht : 6 * t + 5 < n) (hp0 : 0 ≤ p) (hp : p < 24) :
    Calls Try.prog 118 #[.int .i64 a, .int .i64 f, .agg #[.int .i64 t, .int .i64 p], .agg (ints (pmL p)), .pointer (some ⟨bx, 0, none⟩)] W fun e W' => e = .returned (.tuple #[]) ∧ CI w0 bx (.slice (some ⟨g, 0, none⟩) n cap) n W' (edgeStep s a f (t, p)) ∧ W.grownBy W' (some g) := by
  have hpm := pmL_bd p hp0 hp
  obtain ⟨tn, rfl⟩ : ∃ tn : Nat, t = (tn : Int) := ⟨t.toNat, by omega⟩
  have hb0 : ((W.alloc (.cells #[.int .i64 tn, .int .i64 p] 110)).alloc (.cells (ints (pmL p)) 120)).heap[W.heap.size + 1]? = some (.cells (ints (pmL p)) 120 (0, 0)) := blk_at_new (by simp) (o := .cells (ints (pmL p)) 120)
  have hne : g ≠ bx ∧ g ≠ W.heap.size ∧ g ≠ W.heap.size + 1 := by
    obtain ⟨g', cap', e, h1, h2, h3⟩ := hci.form (by omega)
    injection e with e _ _
    injection e with e
    injection e with e _ _
    subst e
    exact ⟨h3, by omega, by omega⟩
  have hb7 : ((W.alloc (.cells #[.int .i64 tn, .int .i64 p] 110)).alloc (.cells (ints (pmL p)) 120)).heap[W.heap.size]? = some (.cells #[.int .i64 tn, .int .i64 p] 110 (0, 0)) := blk_alloc (blk_new W (.cells #[.int .i64 tn, .int .i64 p] 110)) _
  have hci2 := hci.move (below_alloc (below_alloc (Below.refl W.heap.size W) (.cells #[.int .i64 tn, .int .i64 p] 110)) (.cells (ints (pmL p)) 120))
  have HG0 := Lib.hid ((World.grownBy_alloc W (.cells #[.int .i64 tn, .int .i64 p] 110) (some g)).trans (World.grownBy_alloc _ (.cells (ints (pmL p)) 120) (some g)))
  have HC := Lib.hid hci2
  have HN := Lib.hid hne
  have HB8 := Lib.hid hb0
  have HB7 := Lib.hid hb7
  clear hci hci2 hne hb0 hb7
  go_enter Try.func118, Try.ntmps118
  go_wp2
  generalize (W.alloc (.cells #[.int .i64 tn, .int .i64 p] 110)).alloc (.cells (ints (pmL p)) 120) = W2 at *
  go_loopw [12] (fun i W3 => ∃ k : Nat, k ≤ 6 ∧ i = .int .i64 k ∧ CI w0 bx (.slice (some ⟨g, 0, none⟩) n cap) n W3 (edgeTo s a f (tn, p) k) ∧ W2.grownBy W3 (some g)) (fun i _ => 6 - (intOf i).toNat)
  case atStart => exact ⟨0, by omega, rfl, HC.out, ⟨rfl, rfl, rfl, Nat.le_refl _, fun _ _ _ => rfl⟩⟩
  case round =>
    obtain ⟨k, hk, rfl, hI, hG⟩ := hrel
    have HI := Lib.hid hI
    have HG := Lib.hid hG
    clear hI hG
    by_cases hlt : k < 6
    · obtain ⟨u, v, hu, hv, hu4, hv4, huv⟩ := ends_bd k hlt
      have HE := Lib.hid (ends_calls k (by omega) (by omega) wr)
      rw [hu, hv] at HE
      have HS := Lib.hid (show edgeTo s a f (tn, p) (k + 1) = if (u : Int) ≠ f ∧ (v : Int) ≠ f then unionL (edgeTo s a f (tn, p) k) (6 * a + k) (6 * tn + edgeN (pm p u) (pm p v)).toNat else edgeTo s a f (tn, p) k from by rw [← hu, ← hv]; rfl)
      clear hu hv
      by_cases hfu : (u : Int) = f
      · have HS2 := Lib.hid (HS.out.trans (if_neg (fun h => h.1 hfu)))
        clear HS
        go_wp2_with fail
        refine HE.out.mono ?_
        rintro e w3 ⟨rfl, rfl⟩
        go_wp2
        go_roundw
        case rel => exact ⟨k + 1, by omega, by go_num, by rw [HS2.out]; exact HI.out, HG.out⟩
        case measure => simp [intOf]; omega
      by_cases hfv : (v : Int) = f
      · have HS2 := Lib.hid (HS.out.trans (if_neg (fun h => h.2 hfv)))
        clear HS
        go_wp2_with fail
        refine HE.out.mono ?_
        rintro e w3 ⟨rfl, rfl⟩
        go_wp2
        go_roundw
        case rel => exact ⟨k + 1, by omega, by go_num, by rw [HS2.out]; exact HI.out, HG.out⟩
        case measure => simp [intOf]; omega
      have HS2 := Lib.hid (HS.out.trans (if_pos ⟨hfu, hfv⟩))
      clear HS
      have hq := pm_inj p u v hp0 hp hu4 hv4 huv
      have hqu := pm_bd p u hp0 hp (by omega) (by omega)
      have hqv := pm_bd p v hp0 hp (by omega) (by omega)
      have hqqu : (pmL p).getD u 0 = pm p u := by unfold pm; rw [Int.toNat_natCast]
      have hqqv : (pmL p).getD v 0 = pm p v := by unfold pm; rw [Int.toNat_natCast]
      obtain ⟨x, hx⟩ : ∃ x : Nat, pm p u = (x : Int) := ⟨(pm p u).toNat, by omega⟩
      obtain ⟨y, hy⟩ : ∃ y : Nat, pm p v = (y : Int) := ⟨(pm p v).toNat, by omega⟩
      rw [hqqu, hqqv, hx, hy] at hq
      rw [hx] at hqu hqqu
      rw [hy] at hqv hqqv
      rw [hx, hy] at HS2
      obtain ⟨m, hm, hm6⟩ := edgeN_bd x y (by omega) (by omega) (by omega)
      rw [hm, show (6 * (tn : Int) + (m : Int)).toNat = 6 * tn + m by omega] at HS2
      have HED := Lib.hid (fun W => edge_calls x y (by omega) (by omega) (by omega) (by omega) hq W)
      rw [hm] at HED
      have HU := Lib.hid (union_calls (edgeTo s a f (tn, p) k) (6 * a + k) (6 * tn + m) g cap (by rw [HI.out.len]; omega) (by rw [HI.out.len]; omega) w0.heap.size (fun k => k ≠ bx) wr.drew (by rw [HI.out.len]; exact HI.out.row))
      rw [HI.out.len] at HU
      have hcb : wr.cell? ⟨bx, 0, none⟩ = some (.slice (some ⟨g, 0, none⟩) n cap) := (blk_cell HI.out.box 0).trans rfl
      have hc7 : wr.cell? ⟨W.heap.size, 0, none⟩ = some (.int .i64 tn) := (blk_cell (blk_grown HB7.out HG.out (fun e => HN.out.2.1 (by injection e with e; exact e.symm))) 0).trans rfl
      have hc8 : wr.cell? ⟨W.heap.size + 1, u, none⟩ = some (.int .i64 x) := by
        rw [blk_cell (blk_grown HB8.out HG.out (fun e => HN.out.2.2 (by injection e with e; exact e.symm))) u, ints_get _ _ (by omega), hqqu]
      have hc9 : wr.cell? ⟨W.heap.size + 1, v, none⟩ = some (.int .i64 y) := by
        rw [blk_cell (blk_grown HB8.out HG.out (fun e => HN.out.2.2 (by injection e with e; exact e.symm))) v, ints_get _ _ (by omega), hqqv]
      have hw1 : IntKind.i64.wrap (6 * (a : Int)) = 6 * a := IntWalk.i64_in _ (by omega)
      have hw2 : IntKind.i64.wrap (6 * (a : Int) + k) = 6 * a + k := IntWalk.i64_in _ (by omega)
      have hw3 : IntKind.i64.wrap (6 * (tn : Int)) = 6 * tn := IntWalk.i64_in _ (by omega)
      have hw4 : IntKind.i64.wrap (6 * (tn : Int) + m) = 6 * tn + m := IntWalk.i64_in _ (by omega)
      have hi0 : (0 : Int) ≤ (u : Int) := by omega
      have hi1 : (u : Int) < 4 := by omega
      have hi2 : (0 : Int) ≤ (v : Int) := by omega
      have hi3 : (v : Int) < 4 := by omega
      clear hqqu hqqv hx hy hm hqu hqv hpm ht0 ht ha hk
      go_wp2_with fail
      refine HE.out.mono ?_
      rintro e w3 ⟨rfl, rfl⟩
      go_wp2_with fail
      rotate_left
      · exfalso; rename_i h; rcases h with h | h <;> simp at h <;> omega
      go_region_held3 (fun V => V.cell? ⟨bx, 0, none⟩ = some (.slice (some ⟨g, 0, none⟩) n cap) ∧ V.cell? ⟨W.heap.size, 0, none⟩ = some (.int .i64 tn) ∧ V.cell? ⟨W.heap.size + 1, u, none⟩ = some (.int .i64 x) ∧ V.cell? ⟨W.heap.size + 1, v, none⟩ = some (.int .i64 y)) (first | (exact ⟨World.grownBy.cell hg3 hcb (fun e => HN.out.1 (by injection e with e; exact e.symm)), World.grownBy.cell hg3 hc7 (fun e => HN.out.2.1 (by injection e with e; exact e.symm)), World.grownBy.cell hg3 hc8 (fun e => HN.out.2.2 (by injection e with e; exact e.symm)), World.grownBy.cell hg3 hc9 (fun e => HN.out.2.2 (by injection e with e; exact e.symm))⟩) | go_keep) (first | (go_at_call 121; refine (HED.out _).mono ?_; rintro e w3 ⟨rfl, rfl⟩) | (go_at_call 120; refine HU.out.mono ?_; rintro e w3 ⟨rfl, hr3, hg3⟩))
      have hgd := (show wr.grownBy wr.drew (some g) from ⟨rfl, rfl, rfl, Nat.le_refl _, fun _ _ _ => rfl⟩).trans hg3
      have HX := Lib.hid (HI.out.turned (by rw [unionL_len]; exact HI.out.len) hr3 hgd)
      have HY := Lib.hid (HG.out.trans hgd)
      clear hr3 hg3 hgd
      go_wp2
      go_roundw
      case rel => exact ⟨k + 1, by omega, by go_num, by rw [HS2.out]; exact HX.out, HY.out⟩
      case measure => simp [intOf]; omega
    · obtain rfl : k = 6 := by omega
      go_wp2
      go_end0
      exact ⟨rfl, HI.out, HG0.out.trans HG.out⟩
set_option maxHeartbeats 1000000 in
set_option maxRecDepth 100000 in
theorem edgeClasses_calls (T : List (List (Int × Int))) (hF : Fine T) (A : Option Addr) (c : Nat) (w : World) (hT : Kd.C (Kd.slice 110 FK) w A T.length T) :
    Calls Try.prog 69 #[.agg #[.slice A T.length c]] w fun e w' => ∃ v : Value, e = .returned v ∧ Kd.R (Kd.int .i64) 2 w' w.heap.size (fun _ => True) v (edgeL T) ∧ Below w.heap.size w w' := by
  have hn := hF.1
  go_enter Try.func69, Try.ntmps69
  go_wp2_with fail
  refine (size_calls _ _ _ _).mono ?_
  rintro e w1 ⟨rfl, rfl⟩
  go_wp2_with fail
  have e4 : (6 * (T.length : Int)) = ((6 * T.length : Nat) : Int) := by omega
  rw [e4]
  refine (counting_calls (6 * T.length) (by omega) _).mono ?_
  rintro e w1 ⟨v, rfl, hR, hB⟩
  have hB0 := below_step (below_alloc (Below.refl w.heap.size w) (.cells #[.slice A T.length c] 29)) hB
  have hR := Kd.R_lower hR (show w.heap.size ≤ _ by simp)
  generalize hnn : 6 * T.length = n at *
  have hl : (cntL n).length = n := cntL_len n
  obtain ⟨A', c', rfl, hcc, _⟩ := Kd.R_reads hR
  rw [hl] at hR hcc
  rw [hl]
  have hA : ∃ g, g < w1.heap.size + 1 ∧ (0 < n → A' = some ⟨g, 0, none⟩) := by
    by_cases h0 : 0 < n
    · obtain ⟨g, cap, e, h1, h2, _⟩ := Kd.R_form hR (by omega)
      injection e with e _ _
      exact ⟨g, by omega, fun _ => e⟩
    · exact ⟨w1.heap.size, by omega, fun h => absurd h h0⟩
  obtain ⟨g, hg, hA⟩ := hA
  have HC : CI w w1.heap.size (.slice A' n c') n (w1.alloc (.cells #[.slice A' n c'] 36)) (cntL n) :=
    ⟨below_alloc hB0 _, hl, hB0.size, blk_new _ _, Kd.R_below (Kd.R_mono (Kd.R_bound hR) (fun k hk => Nat.ne_of_lt hk.2.2.1)) (below_alloc (Below.refl _ _) _)⟩
  have hbox : (w1.alloc (.cells #[.slice A' n c'] 36)).cell? ⟨w.heap.size, 0, none⟩ = some (.slice A T.length c) := (blk_cell (blk_below (blk_below (blk_new w (.cells #[.slice A T.length c] 29)) hB) (below_alloc (Below.refl _ _) _)) 0).trans rfl
  have HC := Lib.hid HC
  have HT := Lib.hid hT
  have HF := Lib.hid hF
  have hlt := hB0.size
  clear hT hF hR hB hB0 hl hcc
  go_wp2_with fail
  refine (glued_calls T HF.out A c 118 (g) #[.pointer (some ⟨w1.heap.size, 0, none⟩)] (CI w w1.heap.size (.slice A' n c') n) edgeStep (cntL n) w _ (by simp; omega) (fun _ _ => rfl) (fun W W' s h hb => h.move hb) HT.out (fun W s h => h.below) ?_ HC.out).mono ?_
  · intro W s a f x h ha hf hx hx0
    have hx1 := (HF.out.2 a ha).2 f hf (by rw [hx]; exact hx0)
    rw [hx] at hx1
    obtain ⟨t, p⟩ := x
    rw [hA (by omega)] at h ⊢
    refine (edge_visit w w1.heap.size n g c' W s a f t p (by omega) h hf (by omega) hx0 (by have := hx1.1; dsimp only at this; omega) hx1.2.1 hx1.2.2).mono ?_
    rintro e W' ⟨h1, h2, h3⟩
    exact ⟨h1, h2, h3⟩
  rintro e w2 ⟨rfl, hI, hG⟩
  have hl2 := hI.len
  have hbx2 : w2.cell? ⟨w1.heap.size, 0, none⟩ = some (.slice A' n c') := (blk_cell hI.box 0).trans rfl
  have hC2 := (Kd.R_reads' hI.row).2.2
  have hb2 : InB (glT edgeStep (cntL n) T T.length) := glT_keep (Q := InB) (fun s a f x h => edgeStep_inB h _ _ _) _ _ _ (cntL_bd n (by omega))
  have hz2 := hI.below.size
  have HI := Lib.hid hI
  have HN := Lib.hid (numbered_calls A' c' _ w2 hC2 (by omega) hb2)
  rw [hl2] at HN
  clear hI HC hR hG hl2 hC2 hb2 e4 hA
  go_wp2_with fail
  refine HN.out.mono ?_
  rintro e w3 ⟨v, rfl, hR, hB⟩
  have HR := Lib.hid hR
  have HB := Lib.hid hB
  clear hR hB hbx2 hlt hg hn
  go_wp2
  go_ret
  refine ⟨_, rfl, ?_, below_step HI.out.below HB.out⟩
  unfold edgeL
  rw [hnn]
  exact Kd.R_lower HR.out hz2

/-! others -/
theorem any_eq (x : Int) (l : List Int) : (l.any fun y => x == y) = decide (x ∈ l) := by
  induction l with
  | nil => simp
  | cons y l ih =>
    rw [List.any_cons, ih]
    by_cases h : x = y <;> simp [h]
theorem sw_cell (w : World) (blk m : Nat) (dk : Array Int) (os : Array Obj) (a : Addr) (h : a.block ≠ blk) (hs : a.block < w.heap.size) : (Go.Proofs.sortWorld (Value.int .i64) w blk 0 m dk os).cell? a = w.cell? a := by
  unfold Go.Proofs.sortWorld
  rw [cell?_grow _ _ _ (by simpa using hs), cell?_putRow_other _ _ _ _ _ _ (.inl h)]
  rfl
set_option maxHeartbeats 1000000 in
set_option maxRecDepth 100000 in
theorem othersFn_calls (l : List Int) (b bx c : Nat) (x : Int) (W : World) (h0 : W.cell? ⟨bx, 0, none⟩ = some (.slice (some ⟨b, 0, none⟩) l.length c)) (hl : l.length ≤ 100000) (hc : ∀ j, j < l.length → W.cell? ⟨b, j, none⟩ = some (.int .i64 (l.getD j 0))) :
    Calls Try.prog 137 #[.int .i64 x, .pointer (some ⟨bx, 0, none⟩)] W fun e w' => e = .returned (.bool (decide (x ∈ l))) ∧ w' = W := by
  have HC := Lib.hid (Try.slices_Contains (Value.int .i64) (fun x y => x == y) (.int _ _ _) b 0 l.length c l x W (Nat.le_refl _) (by omega) (fun j hj => by rw [Nat.zero_add, hc j hj, getElem!_pos l j hj, List.getD_eq_getElem?_getD, List.getElem?_eq_getElem hj]; rfl))
  rw [List.take_length, any_eq] at HC
  go_enter Try.func137, Try.ntmps137
  go_wp2_with fail
  refine HC.out.mono ?_
  rintro e w1 ⟨rfl, rfl⟩
  go_wp2
  go_ret
  exact ⟨rfl, rfl⟩
def othersL (l : List Int) : List Int := (cntL 4).filter fun x => !decide (x ∈ l)
set_option maxHeartbeats 1000000 in
set_option maxRecDepth 100000 in
theorem others_calls (l : List Int) (b c : Nat) (w : World) (hl : l.length ≤ 100000) (hb : b < w.heap.size) (hc : ∀ j, j < l.length → w.cell? ⟨b, j, none⟩ = some (.int .i64 (l.getD j 0))) :
    Calls Try.prog 88 #[.slice (some ⟨b, 0, none⟩) l.length c] w fun e w' => ∃ g cap : Nat, e = .returned (.slice (some ⟨g, 0, none⟩) (othersL l).length cap) ∧ w.heap.size ≤ g ∧ g < w'.heap.size ∧ (∀ j, j < (othersL l).length → w'.cell? ⟨g, j, none⟩ = some (.int .i64 ((othersL l).getD j 0))) ∧ Below w.heap.size w w' := by
  have HC := Lib.hid hc
  clear hc
  go_enter Try.func88, Try.ntmps88
  go_wp2_with fail
  refine (counting_calls 4 (by omega) _).mono ?_
  rintro e w1 ⟨v, rfl, hR, hB⟩
  obtain ⟨g, cap, rfl, h1, h2, _⟩ := Kd.R_form hR (by decide)
  have h1 : w.heap.size + 1 ≤ g := by simpa using h1
  have hB1 : Below w.heap.size w w1 := below_step (below_alloc (Below.refl w.heap.size w) _) hB
  have hbx : w1.cell? ⟨w.heap.size, 0, none⟩ = some (.slice (some ⟨b, 0, none⟩) l.length c) := (blk_cell (blk_below (blk_new w (.cells #[.slice (some ⟨b, 0, none⟩) l.length c] 36)) hB) 0).trans rfl
  have hcl : ∀ j, j < l.length → w1.cell? ⟨b, j, none⟩ = some (.int .i64 (l.getD j 0)) := fun j hj => pw_cell_below hB1 (HC.out j hj)
  have hd : (cntL 4).toArray.size = 4 := by decide
  have hH : Sort.Holds (Value.int .i64) w1 g 0 (cntL 4).toArray := by
    intro j hj
    rw [hd] at hj
    rw [Nat.zero_add, own_cell 4 g cap _ _ w1 (cntL 4) j (by decide) hj hR, own_free 4 g cap _ _ w1 (cntL 4) j hR (by decide)]
    refine ⟨?_, rfl⟩
    rw [getElem!_pos _ j (by rw [hd]; exact hj), List.getD_eq_getElem?_getD, List.getElem?_eq_getElem (by rw [cntL_len]; exact hj)]
    rfl
  have hcap := (Kd.R_reads' hR).2.1
  have HD := Lib.hid (Try.slices_DeleteFunc (Value.int .i64) one (fun x => decide (x ∈ l)) 137 #[.pointer (some ⟨w.heap.size, 0, none⟩)] (fun _ _ => rfl) 0 zero2 g 0 cap (cntL 4).toArray w1
    (fun W x hW => (othersFn_calls l b w.heap.size c x W (pw_cell_below hW hbx) hl (fun j hj => pw_cell_below hW (hcl j hj))).mono (by rintro e w' ⟨rfl, rfl⟩; exact ⟨rfl, 0, rfl⟩))
    (fun m os dk x hdk => (othersFn_calls l b w.heap.size c x _ (by rw [sw_cell _ _ _ _ _ _ (by dsimp only; omega) (by dsimp only; omega)]; exact hbx) hl (fun j hj => by rw [sw_cell _ _ _ _ _ _ (by dsimp only; omega) (by dsimp only; omega)]; exact hcl j hj)).mono (by rintro e w' ⟨rfl, rfl⟩; exact ⟨rfl, 0, rfl⟩))
    hH (by rw [hd]; omega) (by rw [hd]; exact hcap))
  rw [hd] at HD
  have HB1 := Lib.hid hB1
  have HH := Lib.hid hH
  clear hR hB hB1 hbx hcl hd hH
  go_wp2_with fail
  refine HD.out.mono ?_
  rintro e w2 ⟨rfl, q, rfl⟩
  go_wp2
  go_ret
  refine ⟨g, cap, rfl, by omega, by simpa using h2, ?_, ?_⟩
  · intro j hj
    have e1 : ((cntL 4).toArray.toList.filter fun x => !decide (x ∈ l)) = othersL l := rfl
    rw [e1]
    have hle : (othersL l).length ≤ 4 := by
      have := List.length_filter_le (fun x => !decide (x ∈ l)) (cntL 4)
      rw [cntL_len] at this
      exact this
    have hcp := Sort.cell?_putRow (Value.int .i64) (Sort.ahead w1 q) g 0 (cntL 4).toArray ((othersL l) ++ List.replicate (4 - (othersL l).length) 0).toArray (Sort.holds_ahead _ _ _ _ _ _ HH.out) (by simp [cntL_len]; omega) j (by simp; omega)
    rw [Nat.zero_add] at hcp
    rw [hcp, getElem!_pos _ j (by simp; omega), List.getD_eq_getElem?_getD, List.getElem?_eq_getElem hj]
    simp [List.getElem_append_left, hj]
  · exact ⟨HB1.out.os, HB1.out.tape, HB1.out.output, by simpa using HB1.out.size, fun k hk => (putRow_far _ _ _ _ (by omega)).trans (HB1.out.block k hk)⟩
/-! vertexClasses -/
/-- The first k vertices of face f. -/
def vertTo (s : List Int) (a f : Nat) (x : Int × Int) : Nat → List Int
  | 0 => s
  | k + 1 => unionL (vertTo s a f x k) (4 * a + ((othersL [(f : Int)]).getD k 0).toNat) (4 * x.1 + pm x.2 ((othersL [(f : Int)]).getD k 0)).toNat
def vertStep (s : List Int) (a f : Nat) (x : Int × Int) : List Int := vertTo s a f x 3
/-- The classes of the vertices. -/
def vertL (T : List (List (Int × Int))) : List Int := numL (glT vertStep (cntL (4 * T.length)) T T.length)
theorem vertStep_inB {s : List Int} (h : InB s) (a f : Nat) (x : Int × Int) : InB (vertStep s a f x) := by
  unfold vertStep
  generalize (3 : Nat) = k
  induction k with
  | zero => exact h
  | succ k ih =>
    unfold vertTo
    exact union_inB ih _ _
theorem others1_bd (f : Nat) (hf : f < 4) : (othersL [(f : Int)]).length = 3 ∧ ∀ k, k < 3 → ∃ v : Nat, (othersL [(f : Int)]).getD k 0 = v ∧ v < 4 := by
  have key : ∀ f : Fin 4, (othersL [(f.1 : Int)]).length = 3 ∧ ∀ k : Fin 3, ∃ v : Fin 4, (othersL [(f.1 : Int)]).getD k.1 0 = (v.1 : Int) := by decide +kernel
  refine ⟨(key ⟨f, hf⟩).1, fun k hk => ?_⟩
  obtain ⟨v, h⟩ := (key ⟨f, hf⟩).2 ⟨k, hk⟩
  exact ⟨v.1, h, v.2⟩
set_option maxHeartbeats 1000000 in
set_option maxRecDepth 100000 in
theorem vert_visit (w0 : World) (bx n g cap : Nat) (W : World) (s : List Int) (a f : Nat) (t p : Int) (hn : n ≤ 100) (hci : CI w0 bx (.slice (some ⟨g, 0, none⟩) n cap) n W s) (hf : f < 4) (ha : 4 * a + 3 < n) (ht0 : 0 ≤ t) (ht : 4 * t + 3 < n) (hp0 : 0 ≤ p) (hp : p < 24) :
    Calls Try.prog 133 #[.int .i64 a, .int .i64 f, .agg #[.int .i64 t, .int .i64 p], .agg (ints (pmL p)), .pointer (some ⟨bx, 0, none⟩)] W fun e W' => e = .returned (.tuple #[]) ∧ CI w0 bx (.slice (some ⟨g, 0, none⟩) n cap) n W' (vertStep s a f (t, p)) ∧ W.grownBy W' (some g) := by
  have hpm := pmL_bd p hp0 hp
  obtain ⟨tn, rfl⟩ : ∃ tn : Nat, t = (tn : Int) := ⟨t.toNat, by omega⟩
  have hb0 : ((W.alloc (.cells #[.int .i64 tn, .int .i64 p] 110)).alloc (.cells (ints (pmL p)) 120)).heap[W.heap.size + 1]? = some (.cells (ints (pmL p)) 120 (0, 0)) := blk_at_new (by simp) (o := .cells (ints (pmL p)) 120)
  have hne : g ≠ bx ∧ g < W.heap.size := by
    obtain ⟨g', cap', e, h1, h2, h3⟩ := hci.form (by omega)
    injection e with e _ _
    injection e with e
    injection e with e _ _
    subst e
    exact ⟨h3, by omega⟩
  have hb7 : ((W.alloc (.cells #[.int .i64 tn, .int .i64 p] 110)).alloc (.cells (ints (pmL p)) 120)).heap[W.heap.size]? = some (.cells #[.int .i64 tn, .int .i64 p] 110 (0, 0)) := blk_alloc (blk_new W (.cells #[.int .i64 tn, .int .i64 p] 110)) _
  have hci2 := hci.move (below_alloc (below_alloc (Below.refl W.heap.size W) (.cells #[.int .i64 tn, .int .i64 p] 110)) (.cells (ints (pmL p)) 120))
  have HG0 := Lib.hid ((World.grownBy_alloc W (.cells #[.int .i64 tn, .int .i64 p] 110) (some g)).trans (World.grownBy_alloc _ (.cells (ints (pmL p)) 120) (some g)))
  have HC := Lib.hid hci2
  have HN := Lib.hid hne
  have HB8 := Lib.hid hb0
  have HB7 := Lib.hid hb7
  have hsz2 : ((W.alloc (.cells #[.int .i64 tn, .int .i64 p] 110)).alloc (.cells (ints (pmL p)) 120)).heap.size = W.heap.size + 2 := by simp
  obtain ⟨hO3, hOk⟩ := others1_bd f hf
  have HO := Lib.hid hOk
  clear hci hci2 hne hb0 hb7 hOk
  go_enter Try.func133, Try.ntmps133
  go_wp2_with fail
  generalize (W.alloc (.cells #[.int .i64 tn, .int .i64 p] 110)).alloc (.cells (ints (pmL p)) 120) = W2 at *
  have HOC := Lib.hid (others_calls [(f : Int)] (W.heap.size + 2) 1 (W2.alloc (.cells #[.int .i64 f] 2)) (by simp) (by simp; omega) (fun j hj => by
    have hj : j < 1 := by simpa using hj
    obtain rfl : j = 0 := by omega
    exact (blk_cell (blk_at_new hsz2.symm (o := .cells #[.int .i64 f] 2)) 0).trans rfl))
  refine HOC.out.mono ?_
  clear HOC
  rintro e w3 ⟨g4, cap4, rfl, h41, h42, hcell, hB3⟩
  have h41 : W.heap.size + 3 ≤ g4 := by simpa [hsz2] using h41
  have hB2 := below_step (below_alloc (Below.refl W2.heap.size W2) (.cells #[.int .i64 f] 2)) hB3
  have HC3 := Lib.hid (HC.out.move hB2)
  have HG3 := Lib.hid (HG0.out.trans (show W2.grownBy w3 (some g) from ⟨hB2.os, hB2.tape, hB2.output, hB2.size, fun k hk _ => hB2.block k hk⟩))
  have HB83 := Lib.hid (blk_below HB8.out hB2)
  have HB73 := Lib.hid (blk_below HB7.out hB2)
  have HCL := Lib.hid hcell
  clear HC HG0 HB8 HB7 hcell hB3 hB2 hsz2
  rw [hO3]
  rw [hO3] at HCL
  go_wp2_with fail
  go_loopw [15] (fun i W3 => ∃ k : Nat, k ≤ 3 ∧ i = .int .i64 k ∧ CI w0 bx (.slice (some ⟨g, 0, none⟩) n cap) n W3 (vertTo s a f (tn, p) k) ∧ w3.grownBy W3 (some g)) (fun i _ => 3 - (intOf i).toNat)
  case atStart => exact ⟨0, by omega, rfl, HC3.out, ⟨rfl, rfl, rfl, Nat.le_refl _, fun _ _ _ => rfl⟩⟩
  case round =>
    obtain ⟨k, hk, rfl, hI, hG⟩ := hrel
    have HI := Lib.hid hI
    have HG := Lib.hid hG
    clear hI hG
    by_cases hlt : k < 3
    · obtain ⟨v, hv, hv4⟩ := HO.out k hlt
      have hqv := pm_bd p v hp0 hp (by omega) (by omega)
      have hqqv : (pmL p).getD v 0 = pm p v := by unfold pm; rw [Int.toNat_natCast]
      have HS := Lib.hid (show vertTo s a f (tn, p) (k + 1) = unionL (vertTo s a f (tn, p) k) (4 * a + v) (4 * tn + pm p v).toNat from by conv => { lhs; unfold vertTo }; dsimp only; rw [hv]; rfl)
      obtain ⟨y, hy⟩ : ∃ y : Nat, pm p v = (y : Int) := ⟨(pm p v).toNat, by omega⟩
      rw [hy] at hqv hqqv
      rw [hy, show (4 * (tn : Int) + (y : Int)).toNat = 4 * tn + y by omega] at HS
      have HU := Lib.hid (union_calls (vertTo s a f (tn, p) k) (4 * a + v) (4 * tn + y) g cap (by rw [HI.out.len]; omega) (by rw [HI.out.len]; omega) w0.heap.size (fun k => k ≠ bx) wr.drew (by rw [HI.out.len]; exact HI.out.row))
      rw [HI.out.len] at HU
      have hcv : wr.cell? ⟨g4, k, none⟩ = some (.int .i64 v) := by
        rw [← hv]
        exact World.grownBy.cell HG.out (HCL.out k hlt) (fun e => by injection e with e; have h := HN.out.2; dsimp only at e; omega)
      have hcb : wr.cell? ⟨bx, 0, none⟩ = some (.slice (some ⟨g, 0, none⟩) n cap) := (blk_cell HI.out.box 0).trans rfl
      have hc7 : wr.cell? ⟨W.heap.size, 0, none⟩ = some (.int .i64 tn) := (blk_cell (blk_grown HB73.out HG.out (fun e => by injection e with e; have := HN.out.2; omega)) 0).trans rfl
      have hc8 : wr.cell? ⟨W.heap.size + 1, v, none⟩ = some (.int .i64 y) := by
        rw [blk_cell (blk_grown HB83.out HG.out (fun e => by injection e with e; have := HN.out.2; omega)) v, ints_get _ _ (by omega), hqqv]
      have hw1 : IntKind.i64.wrap (4 * (a : Int)) = 4 * a := IntWalk.i64_in _ (by omega)
      have hw2 : IntKind.i64.wrap (4 * (a : Int) + v) = 4 * a + v := IntWalk.i64_in _ (by omega)
      have hw3 : IntKind.i64.wrap (4 * (tn : Int)) = 4 * tn := IntWalk.i64_in _ (by omega)
      have hw4 : IntKind.i64.wrap (4 * (tn : Int) + y) = 4 * tn + y := IntWalk.i64_in _ (by omega)
      have hi0 : (0 : Int) ≤ (v : Int) := by omega
      have hi1 : (v : Int) < 4 := by omega
      clear hqqv hy hqv hpm ht0 ht ha hv
      go_wp2_with fail
      go_region_held3 (fun V => V.cell? ⟨bx, 0, none⟩ = some (.slice (some ⟨g, 0, none⟩) n cap) ∧ V.cell? ⟨W.heap.size, 0, none⟩ = some (.int .i64 tn) ∧ V.cell? ⟨W.heap.size + 1, v, none⟩ = some (.int .i64 y)) (first | (exact ⟨World.grownBy.cell hg3 hcb (fun e => HN.out.1 (by injection e with e; exact e.symm)), World.grownBy.cell hg3 hc7 (fun e => by injection e with e; have := HN.out.2; dsimp only at e; omega), World.grownBy.cell hg3 hc8 (fun e => by injection e with e; have := HN.out.2; dsimp only at e; omega)⟩) | go_keep) (first | (go_at_call 120; refine HU.out.mono ?_; rintro e w4 ⟨rfl, hr3, hg3⟩))
      have hgd := (show wr.grownBy wr.drew (some g) from ⟨rfl, rfl, rfl, Nat.le_refl _, fun _ _ _ => rfl⟩).trans hg3
      have HX := Lib.hid (HI.out.turned (by rw [unionL_len]; exact HI.out.len) hr3 hgd)
      have HY := Lib.hid (HG.out.trans hgd)
      clear hr3 hg3 hgd
      go_wp2
      go_roundw
      case rel => exact ⟨k + 1, by omega, by go_num, by rw [HS.out]; exact HX.out, HY.out⟩
      case measure => simp [intOf]; omega
    · obtain rfl : k = 3 := by omega
      go_wp2
      go_end0
      exact ⟨rfl, HI.out, HG3.out.trans HG.out⟩
set_option maxHeartbeats 1000000 in
set_option maxRecDepth 100000 in
theorem vertexClasses_calls (T : List (List (Int × Int))) (hF : Fine T) (A : Option Addr) (c : Nat) (w : World) (hT : Kd.C (Kd.slice 110 FK) w A T.length T) :
    Calls Try.prog 82 #[.agg #[.slice A T.length c]] w fun e w' => ∃ v : Value, e = .returned v ∧ Kd.R (Kd.int .i64) 2 w' w.heap.size (fun _ => True) v (vertL T) ∧ Below w.heap.size w w' := by
  have hn := hF.1
  go_enter Try.func82, Try.ntmps82
  go_wp2_with fail
  refine (size_calls _ _ _ _).mono ?_
  rintro e w1 ⟨rfl, rfl⟩
  go_wp2_with fail
  have e4 : (4 * (T.length : Int)) = ((4 * T.length : Nat) : Int) := by omega
  rw [e4]
  refine (counting_calls (4 * T.length) (by omega) _).mono ?_
  rintro e w1 ⟨v, rfl, hR, hB⟩
  have hB0 := below_step (below_alloc (Below.refl w.heap.size w) (.cells #[.slice A T.length c] 29)) hB
  have hR := Kd.R_lower hR (show w.heap.size ≤ _ by simp)
  generalize hnn : 4 * T.length = n at *
  have hl : (cntL n).length = n := cntL_len n
  obtain ⟨A', c', rfl, hcc, _⟩ := Kd.R_reads hR
  rw [hl] at hR hcc
  rw [hl]
  have hA : ∃ g, g < w1.heap.size + 1 ∧ (0 < n → A' = some ⟨g, 0, none⟩) := by
    by_cases h0 : 0 < n
    · obtain ⟨g, cap, e, h1, h2, _⟩ := Kd.R_form hR (by omega)
      injection e with e _ _
      exact ⟨g, by omega, fun _ => e⟩
    · exact ⟨w1.heap.size, by omega, fun h => absurd h h0⟩
  obtain ⟨g, hg, hA⟩ := hA
  have HC : CI w w1.heap.size (.slice A' n c') n (w1.alloc (.cells #[.slice A' n c'] 36)) (cntL n) :=
    ⟨below_alloc hB0 _, hl, hB0.size, blk_new _ _, Kd.R_below (Kd.R_mono (Kd.R_bound hR) (fun k hk => Nat.ne_of_lt hk.2.2.1)) (below_alloc (Below.refl _ _) _)⟩
  have hbox : (w1.alloc (.cells #[.slice A' n c'] 36)).cell? ⟨w.heap.size, 0, none⟩ = some (.slice A T.length c) := (blk_cell (blk_below (blk_below (blk_new w (.cells #[.slice A T.length c] 29)) hB) (below_alloc (Below.refl _ _) _)) 0).trans rfl
  have HC := Lib.hid HC
  have HT := Lib.hid hT
  have HF := Lib.hid hF
  have hlt := hB0.size
  clear hT hF hR hB hB0 hl hcc
  go_wp2_with fail
  refine (glued_calls T HF.out A c 133 (g) #[.pointer (some ⟨w1.heap.size, 0, none⟩)] (CI w w1.heap.size (.slice A' n c') n) vertStep (cntL n) w _ (by simp; omega) (fun _ _ => rfl) (fun W W' s h hb => h.move hb) HT.out (fun W s h => h.below) ?_ HC.out).mono ?_
  · intro W s a f x h ha hf hx hx0
    have hx1 := (HF.out.2 a ha).2 f hf (by rw [hx]; exact hx0)
    rw [hx] at hx1
    obtain ⟨t, p⟩ := x
    rw [hA (by omega)] at h ⊢
    refine (vert_visit w w1.heap.size n g c' W s a f t p (by omega) h hf (by omega) hx0 (by have := hx1.1; dsimp only at this; omega) hx1.2.1 hx1.2.2).mono ?_
    rintro e W' ⟨h1, h2, h3⟩
    exact ⟨h1, h2, h3⟩
  rintro e w2 ⟨rfl, hI, hG⟩
  have hl2 := hI.len
  have hbx2 : w2.cell? ⟨w1.heap.size, 0, none⟩ = some (.slice A' n c') := (blk_cell hI.box 0).trans rfl
  have hC2 := (Kd.R_reads' hI.row).2.2
  have hb2 : InB (glT vertStep (cntL n) T T.length) := glT_keep (Q := InB) (fun s a f x h => vertStep_inB h _ _ _) _ _ _ (cntL_bd n (by omega))
  have hz2 := hI.below.size
  have HI := Lib.hid hI
  have HN := Lib.hid (numbered_calls A' c' _ w2 hC2 (by omega) hb2)
  rw [hl2] at HN
  clear hI HC hR hG hl2 hC2 hb2 e4 hA
  go_wp2_with fail
  refine HN.out.mono ?_
  rintro e w3 ⟨v, rfl, hR, hB⟩
  have HR := Lib.hid hR
  have HB := Lib.hid hB
  clear hR hB hbx2 hlt hg hn
  go_wp2
  go_ret
  refine ⟨_, rfl, ?_, below_step HI.out.below HB.out⟩
  unfold vertL
  rw [hnn]
  exact Kd.R_lower HR.out hz2

/-! Max, classCount -/
def maxTo (l : List Int) : Nat → Int
  | 0 => l.getD 0 0
  | k + 1 => max (maxTo l k) (l.getD k 0)
set_option maxHeartbeats 1000000 in
set_option maxRecDepth 100000 in
theorem max_calls (A : Option Addr) (c : Nat) (l : List Int) (w : World) (hr : Kd.C (Kd.int .i64) w A l.length l) (hl : l.length ≤ 100000) (h0 : 0 < l.length) :
    Calls Try.prog 123 #[.slice A l.length c] w fun e w' => e = .returned (.int .i64 (maxTo l l.length)) ∧ w = w' := by
  have HR := Lib.hid hr
  obtain ⟨ad, rfl, hc0⟩ := Kd.at_int hr 0 (by omega) (by omega)
  clear hr
  have hc1 : w.cell? ad = some (.int .i64 (l.getD 0 0)) := by have := hc0; simp only [rd, Int.toNat_zero] at this; rw [show ad.add 0 = ad from by cases ad; rfl] at this; exact this
  have HM := Lib.hid (show maxTo l 1 = l.getD 0 0 from by simp [maxTo])
  clear hc0
  go_enter Try.func123, Try.ntmps123
  go_wp2
  go_loopw [3, 4] (fun m i wr => ∃ k : Nat, 1 ≤ k ∧ k ≤ l.length ∧ m = .int .i64 (maxTo l k) ∧ i = .int .i64 k ∧ wr = w) (fun _ i _ => l.length - (intOf i).toNat)
  case atStart => exact ⟨1, by omega, by omega, by simp [HM.out, h0], rfl, rfl⟩
  case round =>
    obtain ⟨k, hk1, hk, rfl, rfl, rfl⟩ := hrel
    by_cases hlt : k < l.length
    · obtain ⟨ad', e, hc⟩ := Kd.at_int HR.out (k : Int) (by omega) (by omega)
      injection e with e
      subst e
      rw [Int.toNat_natCast] at hc
      have hck : wr.cell? (ad.add k) = some (.int .i64 (l.getD k 0)) := by simpa [rd] using hc
      have HS := Lib.hid (show maxTo l (k + 1) = max (maxTo l k) (l.getD k 0) from rfl)
      clear hc hc1
      go_wp2
      go_roundw
      case rel => exact ⟨k + 1, by omega, by omega, by simp [HS.out, hlt], by first | trivial | go_num⟩
      case measure => simp [intOf]; omega
    · obtain rfl : k = l.length := by omega
      go_wp2
      go_ret
      exact ⟨rfl, rfl⟩
/-- How many classes. -/
def classN (l : List Int) : Int := if l.length = 0 then 0 else maxTo l l.length + 1
theorem maxTo_bd (l : List Int) (b : Int) (hb : ∀ x ∈ l, 0 ≤ x ∧ x ≤ b) (h0 : 0 < l.length) (k : Nat) (hk : k ≤ l.length) : 0 ≤ maxTo l k ∧ maxTo l k ≤ b := by
  induction k with
  | zero =>
    unfold maxTo
    rw [List.getD_eq_getElem?_getD, List.getElem?_eq_getElem h0]
    exact hb _ (List.getElem_mem h0)
  | succ k ih =>
    have h := ih (by omega)
    have h2 : 0 ≤ l.getD k 0 ∧ l.getD k 0 ≤ b := by
      rw [List.getD_eq_getElem?_getD, List.getElem?_eq_getElem (show k < l.length by omega)]
      exact hb _ (List.getElem_mem _)
    unfold maxTo
    omega
theorem nst_bd (l : List Int) : ∀ x ∈ numL l, 0 ≤ x ∧ x ≤ l.length := by
  have key : ∀ (l : List Int) (s : List Int × List Int) (b : Nat), s.1.length ≤ b → (∀ x ∈ s.2, 0 ≤ x ∧ x ≤ (b : Int)) → (l.foldl nstep s).1.length ≤ b + l.length ∧ ∀ x ∈ (l.foldl nstep s).2, 0 ≤ x ∧ x ≤ ((b + l.length : Nat) : Int) := by
    intro l
    induction l with
    | nil => intro s b h1 h2; exact ⟨by simpa using h1, by simpa using h2⟩
    | cons y l ih =>
      intro s b h1 h2
      have h := ih (nstep s y) (b + 1) (by unfold nstep; split <;> simp <;> omega) (by
        intro x hx
        unfold nstep at hx
        split at hx
        · rename_i hm
          rcases List.mem_append.1 hx with h | h
          · have := h2 x h; omega
          · have := List.idxOf_lt_length_of_mem hm
            have hx : x = (s.1.idxOf y : Int) := by simpa using h
            omega
        · rcases List.mem_append.1 hx with h | h
          · have := h2 x h; omega
          · have hx : x = (s.1.length : Int) := by simpa using h
            omega)
      rw [List.foldl_cons, List.length_cons, show b + (l.length + 1) = b + 1 + l.length by omega]
      exact h
  have h := (key l ([], []) 0 (by simp) (by simp)).2
  simpa [numL, nst] using h
set_option maxHeartbeats 1000000 in
set_option maxRecDepth 100000 in
theorem classCount_calls (A : Option Addr) (c : Nat) (l : List Int) (w : World) (hr : Kd.C (Kd.int .i64) w A l.length l) (hl : l.length ≤ 100000) (hb : ∀ x ∈ l, 0 ≤ x ∧ x ≤ 100000) :
    Calls Try.prog 70 #[.slice A l.length c] w fun e w' => e = .returned (.int .i64 (classN l)) ∧ w = w' := by
  by_cases h0 : l.length = 0
  · have HN := Lib.hid (show classN l = 0 from by simp [classN, h0])
    rw [HN.out, h0]
    clear hr hl hb
    go_enter Try.func70, Try.ntmps70
    go_wp2
    go_ret
    exact ⟨rfl, rfl⟩
  · have hm := maxTo_bd l 100000 hb (by omega) l.length (Nat.le_refl _)
    have HN := Lib.hid (show classN l = maxTo l l.length + 1 from by simp [classN, h0])
    rw [HN.out]
    have HM := Lib.hid (max_calls A c l w hr hl (by omega))
    clear hr hb
    go_enter Try.func70, Try.ntmps70
    go_wp2_with fail
    refine HM.out.mono ?_
    rintro e w1 ⟨rfl, rfl⟩
    go_wp2
    go_ret
    exact ⟨rfl, rfl⟩
/-! counts -/
def countsL (T : List (List (Int × Int))) : List Int := [classN (vertL T), classN (edgeL T), classN (faceL T), T.length]
theorem numL_len (l : List Int) : (numL l).length = l.length := nst_len2 l
theorem glT_len {step : List Int → Nat → Nat → Int × Int → List Int} (hs : ∀ s a f x, (step s a f x).length = s.length) (s : List Int) (T : List (List (Int × Int))) (n : Nat) : (glT step s T n).length = s.length :=
  glT_keep (Q := fun l => l.length = s.length) (fun s' a f x h => (hs s' a f x).trans h) s T n rfl
theorem faceL_len (T : List (List (Int × Int))) : (faceL T).length = 4 * T.length := by
  unfold faceL; rw [numL_len, glT_len (step := faceStep) (fun s a f x => unionL_len _ _ _), cntL_len]
theorem edgeTo_len (s : List Int) (a f : Nat) (x : Int × Int) (k : Nat) : (edgeTo s a f x k).length = s.length := by
  induction k with
  | zero => rfl
  | succ k ih => unfold edgeTo; split; rw [unionL_len]; exact ih; exact ih
theorem edgeL_len (T : List (List (Int × Int))) : (edgeL T).length = 6 * T.length := by
  unfold edgeL; rw [numL_len, glT_len (fun s a f x => edgeTo_len _ _ _ _ _), cntL_len]
theorem vertTo_len (s : List Int) (a f : Nat) (x : Int × Int) (k : Nat) : (vertTo s a f x k).length = s.length := by
  induction k with
  | zero => rfl
  | succ k ih => unfold vertTo; rw [unionL_len]; exact ih
theorem vertL_len (T : List (List (Int × Int))) : (vertL T).length = 4 * T.length := by
  unfold vertL; rw [numL_len, glT_len (step := vertStep) (fun s a f x => vertTo_len _ _ _ _ _), cntL_len]
theorem numL_fine {l : List Int} (h : l.length ≤ 100000) : ∀ x ∈ numL l, 0 ≤ x ∧ x ≤ 100000 := fun x hx => ⟨(nst_bd l x hx).1, by have := (nst_bd l x hx).2; omega⟩
theorem faceL_bd (T : List (List (Int × Int))) (h : T.length ≤ 8) : ∀ x ∈ faceL T, 0 ≤ x ∧ x ≤ 100000 := numL_fine (by rw [glT_len (step := faceStep) (fun s a f x => unionL_len _ _ _), cntL_len]; omega)
theorem edgeL_bd (T : List (List (Int × Int))) (h : T.length ≤ 8) : ∀ x ∈ edgeL T, 0 ≤ x ∧ x ≤ 100000 := numL_fine (by rw [glT_len (fun s a f x => edgeTo_len _ _ _ _ _), cntL_len]; omega)
theorem vertL_bd (T : List (List (Int × Int))) (h : T.length ≤ 8) : ∀ x ∈ vertL T, 0 ≤ x ∧ x ≤ 100000 := numL_fine (by rw [glT_len (step := vertStep) (fun s a f x => vertTo_len _ _ _ _ _), cntL_len]; omega)
theorem undrew {w w' : World} (h : Below w.drew.heap.size w.drew w') : Below w.heap.size w w' := ⟨h.os, h.tape, h.output, h.size, h.block⟩
/-- A classes' function and classCount. -/
theorem counted (l : List Int) (v : Value) (base : Nat) (W : World) (hR : Kd.R (Kd.int .i64) 2 W base (fun _ => True) v l) (hl : l.length ≤ 100000) (hb : ∀ x ∈ l, 0 ≤ x ∧ x ≤ 100000) :
    Calls Try.prog 70 #[v] W fun e w' => e = .returned (.int .i64 (classN l)) ∧ w' = W := by
  obtain ⟨A, c, rfl, _, hC⟩ := Kd.R_reads hR
  refine (classCount_calls A c l W hC hl hb).mono ?_
  rintro e w' ⟨h1, h2⟩
  exact ⟨h1, h2.symm⟩
set_option maxHeartbeats 1000000 in
set_option maxRecDepth 100000 in
theorem counts_calls (T : List (List (Int × Int))) (hF : Fine T) (A : Option Addr) (c : Nat) (w : World) (hT : Kd.C (Kd.slice 110 FK) w A T.length T) :
    Calls Try.prog 65 #[.agg #[.slice A T.length c]] w fun e w' => ∃ v : Value, e = .returned v ∧ Kd.R (Kd.int .i64) 2 w' w.heap.size (fun _ => True) v (countsL T) ∧ Below w.heap.size w w' := by
  have hn := hF.1
  have HF := Lib.hid hF
  have HT := Lib.hid (Kd.C_below hT (below_alloc (Below.refl w.heap.size w) (.cells #[.slice A T.length c] 29)))
  have hbox : (w.alloc (.cells #[.slice A T.length c] 29)).cell? ⟨w.heap.size, 0, none⟩ = some (.slice A T.length c) := (blk_cell (blk_new w (.cells #[.slice A T.length c] 29)) 0).trans rfl
  have hB0 := below_alloc (Below.refl w.heap.size w) (.cells #[.slice A T.length c] 29)
  clear hF hT
  go_enter Try.func65, Try.ntmps65
  go_wp2_with fail
  generalize w.alloc (.cells #[.slice A T.length c] 29) = W0 at *
  go_region_held3 (fun V => V.cell? ⟨w.heap.size, 0, none⟩ = some (.slice A T.length c))
    (first | exact pw_cell_below hb5 hbox | exact pw_cell_below hb3 hbox | exact pw_cell_below hb1 hbox | exact hbox | go_keep)
    (first
      | (go_at_call 82; refine (vertexClasses_calls T HF.out A c _ (by exact HT.out)).mono ?_; rintro e w1 ⟨v1, rfl, hr1, hb1'⟩; have hb1 : Below W0.heap.size W0 w1 := (by first | exact hb1' | exact undrew hb1'); have hT1 := Kd.C_below HT.out hb1)
      | (go_at_call 70; refine (counted _ _ _ _ (by exact hr5) (by rw [faceL_len]; omega) (faceL_bd T hn)).mono ?_; rintro e w6 ⟨rfl, rfl⟩)
      | (go_at_call 70; refine (counted _ _ _ _ (by exact hr3) (by rw [edgeL_len]; omega) (edgeL_bd T hn)).mono ?_; rintro e w4 ⟨rfl, rfl⟩)
      | (go_at_call 70; refine (counted _ _ _ _ (by exact hr1) (by rw [vertL_len]; omega) (vertL_bd T hn)).mono ?_; rintro e w2 ⟨rfl, rfl⟩)
      | (go_at_call 69; refine (edgeClasses_calls T HF.out A c _ (by exact hT1)).mono ?_; rintro e w3 ⟨v3, rfl, hr3, hb3'⟩; have hb3 : Below W0.heap.size W0 w3 := below_step hb1 (by first | exact hb3' | exact undrew hb3'); have hT3 := Kd.C_below HT.out hb3)
      | (go_at_call 83; refine (faceClasses_calls T HF.out A c _ (by exact hT3)).mono ?_; rintro e w5 ⟨v5, rfl, hr5, hb5'⟩; have hb5 : Below W0.heap.size W0 w5 := below_step hb3 (by first | exact hb5' | exact undrew hb5'))
      | (go_at_call 81; refine (size_calls _ _ _ _).mono ?_; rintro e w7 ⟨rfl, rfl⟩))
  have hz := hB0.size
  have hB := Lib.hid (below_alloc (below_step hB0 hb5) (.cells #[.int .i64 (classN (vertL T)), .int .i64 (classN (edgeL T)), .int .i64 (classN (faceL T)), .int .i64 T.length] 2))
  have hR : Kd.R (Kd.int .i64) 2 (w6.alloc (.cells #[.int .i64 (classN (vertL T)), .int .i64 (classN (edgeL T)), .int .i64 (classN (faceL T)), .int .i64 T.length] 2)) w.heap.size (fun _ => True) (.slice (some ⟨w6.heap.size, 0, none⟩) 4 4) (countsL T) :=
    Kd.R_of_own (enc := Value.int .i64) (own_lit_of w6 w.heap.size 2 (countsL T) (by have := (below_step hB0 hb5).size; omega) (by simp [countsL])) (fun _ _ => trivial)
  have HR := Lib.hid hR
  clear hR hr1 hr3 hr5 hb1 hb1' hb3 hb3' hb5 hb5' hT1 hT3 hB0
  go_wp2
  go_ret
  exact ⟨_, rfl, HR.out, hB.out⟩
/-! isTriangulation: the rows' lengths -/
theorem at_row' {w : World} {A : Option Addr} {n : Nat} {xs : List (List (Int × Int))} (h : Kd.C (Kd.slice 110 FK) w A n xs) (i : Nat) (h1 : i < n) : ∃ ad A0 c0, A = some ad ∧ w.cell? (ad.add i) = some (.slice A0 (xs.getD i []).length c0) := by
  obtain ⟨ad, A0, c0, h1, h2, _⟩ := at_row h i h1
  exact ⟨ad, A0, c0, h1, h2⟩
theorem all_take_succ {α : Type} (p : α → Bool) (l : List α) (d : α) (k : Nat) (hk : k < l.length) : (l.take (k + 1)).all p = ((l.take k).all p && p (l.getD k d)) := by
  rw [List.take_add_one, List.getD_eq_getElem?_getD, List.getElem?_eq_getElem hk, List.all_append]
  simp
set_option maxHeartbeats 1000000 in
set_option maxRecDepth 100000 in
theorem fourAt_calls (T : List (List (Int × Int))) (A : Option Addr) (c : Nat) (w : World) (hl : T.length ≤ 1000000) (hT : Kd.C (Kd.slice 110 FK) w A T.length T) :
    Calls Try.prog 152 #[.slice A T.length c, .func (.func 114) #[] #[]] w fun e w' => (∃ i : Int, e = .returned (.int .i64 i) ∧ decide (i ≥ 0) = !(T.all fun x => decide (x.length = 4))) ∧ w = w' := by
  have HT := Lib.hid hT
  clear hT
  go_enter Try.func152, Try.ntmps152
  go_wp2
  go_loopw [5, 8] (fun u i wr => ∃ k : Nat, k ≤ T.length ∧ i = .int .i64 k ∧ ((T.take k).all fun x => decide (x.length = 4)) = true ∧ wr = w) (fun _ i _ => T.length - (intOf i).toNat)
  case atStart => exact ⟨0, by omega, rfl, by simp, rfl⟩
  case round =>
    obtain ⟨k, hk, rfl, hall, rfl⟩ := hrel
    by_cases hlt : k < T.length
    · obtain ⟨ad, A0, c0, rfl, hc⟩ := at_row' HT.out k hlt
      have hS := all_take_succ (fun x => decide (x.length = 4)) T [] k hlt
      rw [hall, Bool.true_and] at hS
      have HS := Lib.hid hS
      have HA := Lib.hid hall
      clear hS hall
      have hi0 : (0 : Int) ≤ (k : Int) := by omega
      by_cases h4 : (T.getD k []).length = 4
      · have HS2 := Lib.hid (show ((T.take (k + 1)).all fun x => decide (x.length = 4)) = true from by rw [HS.out, h4]; rfl)
        clear HS HT
        generalize hm : (T.getD k []).length = m at *
        subst h4
        go_wp2
        go_roundw
        case rel => exact ⟨k + 1, by omega, by go_num, HS2.out, trivial⟩
        case measure => simp [intOf]; omega
      · have HN : (T.all fun x => decide (x.length = 4)) = false := by
          cases h : T.all fun x => decide (x.length = 4) with
          | false => rfl
          | true =>
            exfalso
            rw [List.all_eq_true] at h
            have := h _ (List.getElem_mem hlt)
            rw [List.getD_eq_getElem?_getD, List.getElem?_eq_getElem hlt] at h4
            exact h4 (by simpa using this)
        have HN := Lib.hid HN
        clear HS HT
        generalize hm : (T.getD k []).length = m at *
        have h5 : ¬ (m : Int) = 4 := by omega
        have h6 : ((m : Int) != 4) = true := by simp [h5]
        go_wp2
        go_ret
        refine ⟨⟨k, rfl, ?_⟩, rfl⟩
        rw [HN.out]
        simp
    · obtain rfl : k = T.length := by omega
      have HA := Lib.hid hall
      clear hall
      go_wp2
      go_ret
      refine ⟨⟨-1, rfl, ?_⟩, rfl⟩
      have := HA.out
      rw [List.take_length] at this
      rw [this]
      rfl
set_option maxHeartbeats 1000000 in
set_option maxRecDepth 100000 in
theorem fours_calls (T : List (List (Int × Int))) (A : Option Addr) (c : Nat) (w : World) (hl : T.length ≤ 1000000) (hT : Kd.C (Kd.slice 110 FK) w A T.length T) :
    Calls Try.prog 113 #[.slice A T.length c, .func (.func 114) #[] #[]] w fun e w' => e = .returned (.bool (!(T.all fun x => decide (x.length = 4)))) ∧ w = w' := by
  have HF := Lib.hid (fourAt_calls T A c w hl hT)
  clear hT
  go_enter Try.func113, Try.ntmps113
  go_wp2_with fail
  refine HF.out.mono ?_
  rintro e w' ⟨⟨i, rfl, hi⟩, rfl⟩
  have HI := Lib.hid hi
  clear hi
  go_wp2
  go_ret
  exact ⟨by simp; exact HI.out, rfl⟩
/-- Do all faces pass g? -/
def allT (g : Int → Int → Bool) (n : Nat) : Bool := (List.range n).all fun a => (List.range 4).all fun f => g a f
theorem range_all_succ (p : Nat → Bool) (k : Nat) : (List.range (k + 1)).all p = ((List.range k).all p && p k) := by
  rw [List.range_succ, List.all_append]; simp
theorem allT_no {g : Int → Int → Bool} {n a f : Nat} (ha : a < n) (hf : f < 4) (h : g a f = false) : allT g n = false := by
  cases hh : allT g n with
  | false => rfl
  | true =>
    exfalso
    unfold allT at hh
    rw [List.all_eq_true] at hh
    have := hh a (List.mem_range.2 ha)
    rw [List.all_eq_true] at this
    have := this f (List.mem_range.2 hf)
    rw [h] at this
    exact Bool.noConfusion this
def triL (T : List (List (Int × Int))) (g : Int → Int → Bool) : Bool := decide (T.length ≤ 8) && ((T.all fun x => decide (x.length = 4)) && allT g T.length)
set_option maxHeartbeats 1000000 in
set_option maxRecDepth 100000 in
theorem isTriangulation_calls (T : List (List (Int × Int))) (g : Int → Int → Bool) (A : Option Addr) (c : Nat) (w : World) (hT : Kd.C (Kd.slice 110 FK) w A T.length T)
    (hg : T.length ≤ 8 → (T.all fun x => decide (x.length = 4)) = true → ∀ (a f : Nat) (W : World), a < T.length → f < 4 → Below w.heap.size w W → Calls Try.prog 115 #[.agg #[.slice A T.length c], .int .i64 a, .int .i64 f] W fun e W' => e = .returned (.bool (g a f)) ∧ Below W.heap.size W W') :
    Calls Try.prog 63 #[.agg #[.slice A T.length c]] w fun e w' => e = .returned (.bool (triL T g)) ∧ Below w.heap.size w w' := by
  have hB0 := below_alloc (Below.refl w.heap.size w) (.cells #[.slice A T.length c] 29)
  have HT0 := Kd.C_below hT hB0
  have hbox : (w.alloc (.cells #[.slice A T.length c] 29)).cell? ⟨w.heap.size, 0, none⟩ = some (.slice A T.length c) := (blk_cell (blk_new w (.cells #[.slice A T.length c] 29)) 0).trans rfl
  by_cases h8 : T.length ≤ 8
  · have HF := Lib.hid (fours_calls T A c _ (by omega) HT0)
    have HB0 := Lib.hid hB0
    have HG := Lib.hid (hg h8)
    have h8' : ¬ (T.length : Int) > 8 := by omega
    clear hg hT HT0 hB0
    by_cases h4 : (T.all fun x => decide (x.length = 4)) = true
    · have HG := Lib.hid (HG.out h4)
      have HR := Lib.hid (show triL T g = allT g T.length from by unfold triL; rw [h4]; simp [h8])
      rw [HR.out]
      rw [h4] at HF
      clear h4
      go_enter Try.func63, Try.ntmps63
      go_wp2_with (first | (refine HF.out.mono ?_; rintro e w1 ⟨rfl, rfl⟩) | (refine (size_calls _ _ _ _).mono ?_; rintro e w1 ⟨rfl, rfl⟩))
      generalize w.alloc (.cells #[.slice A T.length c] 29) = W0 at *
      have HBX := Lib.hid hbox
      clear hbox
      go_loopw [3, 17] (fun a i wr => ∃ k : Nat, k ≤ T.length ∧ i = .int .i64 k ∧ ((List.range k).all fun a => (List.range 4).all fun f => g (a : Int) (f : Int)) = true ∧ Below W0.heap.size W0 wr) (fun _ i _ => T.length - (intOf i).toNat)
      case atStart => exact ⟨0, by omega, rfl, rfl, Below.refl _ _⟩
      case round =>
        obtain ⟨k, hk, rfl, hall, hB⟩ := hrel
        have HA := Lib.hid hall
        have HB := Lib.hid hB
        clear hall hB
        by_cases hlt : k < T.length
        · go_wp2_with fail
          go_loopw [4, 20] (fun f j wi => ∃ m : Nat, m ≤ 4 ∧ j = .int .i64 m ∧ ((List.range m).all fun f => g (k : Int) (f : Int)) = true ∧ Below W0.heap.size W0 wi) (fun _ j _ => 4 - (intOf j).toNat)
          case atStart => exact ⟨0, by omega, rfl, rfl, HB.out⟩
          case round =>
            obtain ⟨m, hm, rfl, hall2, hBm⟩ := hrel
            have HA2 := Lib.hid hall2
            have HBm := Lib.hid hBm
            have hbx := pw_cell_below hBm HBX.out
            clear hall2 hBm HB
            by_cases hlt2 : m < 4
            · have HC := Lib.hid (HG.out k m wr hlt hlt2 (below_step HB0.out HBm.out))
              by_cases hgg : g (k : Int) (m : Int) = true
              · rw [hgg] at HC
                have HS := Lib.hid (show ((List.range (m + 1)).all fun f => g (k : Int) (f : Int)) = true from by rw [range_all_succ, HA2.out, hgg]; rfl)
                clear hgg
                go_wp2_with fail
                refine HC.out.mono ?_
                rintro e w2 ⟨rfl, hb2⟩
                have HB2 := Lib.hid (below_step HBm.out hb2)
                clear hb2
                go_wp2
                go_roundw
                case rel => exact ⟨m + 1, by omega, by go_num, HS.out, HB2.out⟩
                case measure => simp [intOf]; omega
              · have hgg : g (k : Int) (m : Int) = false := by simpa using hgg
                have HN := Lib.hid (allT_no (g := g) hlt hlt2 hgg)
                rw [hgg] at HC
                clear hgg
                go_wp2_with fail
                refine HC.out.mono ?_
                rintro e w2 ⟨rfl, hb2⟩
                have HB2 := Lib.hid (below_step HBm.out hb2)
                clear hb2
                go_wp2
                go_ret
                exact ⟨by rw [HN.out]; rfl, below_step HB0.out HB2.out⟩
            · obtain rfl : m = 4 := by omega
              have HS := Lib.hid (show ((List.range (k + 1)).all fun a => (List.range 4).all fun f => g (a : Int) (f : Int)) = true from by rw [range_all_succ, HA.out, HA2.out]; rfl)
              go_wp2
              go_roundw
              case rel => exact ⟨k + 1, by omega, by go_num, HS.out, HBm.out⟩
              case measure => simp [intOf]; omega
        · obtain rfl : k = T.length := by omega
          have HS := Lib.hid (show allT g T.length = true from HA.out)
          go_wp2
          go_ret
          exact ⟨by rw [HS.out]; rfl, below_step HB0.out HB.out⟩
    · have h4 : (T.all fun x => decide (x.length = 4)) = false := by simpa using h4
      have HR := Lib.hid (show triL T g = false from by unfold triL; rw [h4]; simp)
      rw [HR.out]
      rw [h4] at HF
      clear h4
      go_enter Try.func63, Try.ntmps63
      go_wp2_with (first | (refine HF.out.mono ?_; rintro e w1 ⟨rfl, rfl⟩))
      go_ret
      exact ⟨rfl, HB0.out⟩
  · have HR := Lib.hid (show triL T g = false from by unfold triL; rw [decide_eq_false h8]; rfl)
    have HB0 := Lib.hid hB0
    rw [HR.out]
    have h8' : (T.length : Int) > 8 := by omega
    clear hg hT HT0 hB0
    go_enter Try.func63, Try.ntmps63
    go_wp2_with fail
    go_ret
    exact ⟨rfl, HB0.out⟩
/-! rows of structs read as rows of pairs -/
theorem reads_map {α β : Type} {R : α → List Value → Prop} {R' : β → List Value → Prop} {size : Nat} {w : World} {A : Option Addr} {n : Nat} {ps : List α} (g : α → β) (h : ReadsRow R size w A n ps) (hR : ∀ p c, R p c → R' (g p) c) : ReadsRow R' size w A n (ps.map g) := by
  refine ⟨by rw [List.length_map]; exact h.1, h.2.1, fun hn => ?_⟩
  obtain ⟨ad, e, hc⟩ := h.2.2 hn
  refine ⟨ad, e, fun j p hj => ?_⟩
  rw [List.getElem?_map] at hj
  obtain ⟨q, hq, rfl⟩ := Option.map_eq_some_iff.1 hj
  obtain ⟨c, hs, hr, hcell⟩ := hc j q hq
  exact ⟨c, hs, hR _ _ hr, hcell⟩
theorem C_faces {α : Type} (f : α → Int × Int) {w : World} {A : Option Addr} {n : Nat} {xs : List (List α)} (h : Kd.C (Kd.slice 110 (Kd.iso FK f)) w A n xs) : Kd.C (Kd.slice 110 FK) w A n (xs.map (List.map f)) := by
  refine reads_map (List.map f) h ?_
  rintro p c ⟨A', c', rfl, hl, hC⟩
  refine ⟨A', c', by rw [List.length_map], by rw [List.length_map]; exact hl, ?_⟩
  rw [List.length_map]
  exact reads_map f hC (fun _ _ h => h)
end Go.Proofs.Ytibkopejnhihkaa.Core
