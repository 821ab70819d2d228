/- Contracts of the program's functions on permutations of four: perm, indexOf, invert, Face.target. -/
import Derived.Test.YtibkopejnhihkaaShelf
import Derived.Test.YtibkopejnhihkaaWWords
import Derived.WalkKit
import Derived.LoopTactic
import Derived.Deep.LoopGhost
import Derived.Lib.Hide
namespace Go.Proofs.Ytibkopejnhihkaa.Core
set_option linter.unusedVariables false
set_option linter.unusedSimpArgs false
open Go.RowKit Go.Sort Go.Proofs.YtibkopejnhihkaaW.PrintWords
def ints (l : List Int) : Array Value := (l.map (Value.int .i64)).toArray
theorem ints_size (l : List Int) : (ints l).size = l.length := by simp [ints]
theorem ints_get (l : List Int) (i : Nat) (h : i < l.length) : (ints l)[i]? = some (.int .i64 (l.getD i 0)) := by simp [ints, h]
theorem one : OneCell (Value.int .i64) := fun _ => rfl
theorem zero2 (w : World) : (zeroValue 2).run Try.prog w = .ok (.int .i64 0) w := by kernel_rfl
theorem info2' : (Try.prog.info? 2).map (fun i => i.size) = some 1 := by kernel_rfl
theorem putRow_blk (W : World) (b : Nat) (l : List Int) (d : Array Int) (hb : W.heap[b]? = some (.cells (ints l) 2 (0, 0))) (hd : d.size ≤ l.length) : (putRow (Value.int .i64) W b 0 d).heap[b]? = some (.cells (ints (d.toList ++ l.drop d.size)) 2 (0, 0)) := by
  unfold putRow mapBlock
  simp only [Array.getElem?_modify, if_true, hb, Option.map_some, onCells]
  congr 2
  apply Array.ext_getElem?
  intro k
  unfold putCells
  rw [Array.getElem?_mapIdx]
  by_cases hk : k < d.size
  · have hk2 : k < l.length := by omega
    rw [ints_get _ _ hk2, ints_get _ _ (by simp; omega)]
    simp [hk, List.getElem?_append_left]
  · by_cases hk2 : k < l.length
    · rw [ints_get _ _ hk2, ints_get _ _ (by simp; omega)]
      simp only [Option.map_some, Nat.zero_add]
      rw [if_neg (by omega)]
      congr 2
      rw [List.getD_eq_getElem?_getD, List.getD_eq_getElem?_getD, List.getElem?_append_right (by simp; omega)]
      simp only [Array.length_toList, List.getElem?_drop]
      rw [show d.size + (k - d.size) = k by omega]
    · have e1 : (ints l)[k]? = none := by rw [Array.getElem?_eq_none]; rw [ints_size]; omega
      have e2 : (ints (d.toList ++ l.drop d.size))[k]? = none := by rw [Array.getElem?_eq_none]; rw [ints_size]; simp; omega
      rw [e1, e2]; rfl
theorem putRow_far (W : World) (b g : Nat) (d : Array Int) (hg : g ≠ b) : (putRow (Value.int .i64) W b 0 d).heap[g]? = W.heap[g]? := by
  unfold putRow mapBlock
  simp only [Array.getElem?_modify]
  rw [if_neg (by omega)]
theorem del_any (l rest : List Int) (b i : Nat) (W : World) (hb : W.heap[b]? = some (.cells (ints (l ++ rest)) 2 (0, 0))) (hi : i < l.length) (hc : l.length + rest.length ≤ 9223372036854775807) :
    Calls Try.prog 167 #[.slice (some ⟨b, 0, none⟩) l.length (l.length + rest.length), .int .i64 i, .int .i64 ((i : Int) + 1)] W fun e W' =>
      e = .returned (.slice (some ⟨b, 0, none⟩) (l.length - 1) (l.length + rest.length)) ∧ W'.heap[b]? = some (.cells (ints ((l.eraseIdx i ++ [0]) ++ rest)) 2 (0, 0)) ∧ (∀ g, g ≠ b → W'.heap[g]? = W.heap[g]?) ∧ Below b W W' := by
  obtain ⟨i0, hi0, hz1⟩ : ∃ i0, Try.prog.info? 2 = some i0 ∧ i0.size = 1 := by
    have := info2'
    cases h : Try.prog.info? 2 with
    | none => rw [h] at this; simp at this
    | some i0 => rw [h] at this; exact ⟨i0, rfl, by simpa using this⟩
  have hd : (l.toArray).size = l.length := by simp
  have hH : Holds (Value.int .i64) W b 0 l.toArray := by
    intro j hj
    rw [hd] at hj
    rw [Nat.zero_add, blk_cell hb j, blk_frozen hb j, ints_get _ _ (by simp; omega)]
    have e0 : (l ++ rest).getD j 0 = l.toArray[j]! := by
      rw [getElem!_pos l.toArray j (by simpa using hj), List.getD_eq_getElem?_getD, List.getElem?_append_left hj]
      simp [hj]
    rw [e0]
    exact ⟨rfl, rfl⟩
  have h := Try.slices_Delete (Value.int .i64) one 0 zero2 i0 hi0 hz1 b 0 (l.length + rest.length) i (i + 1) l.toArray W hH (by simp) hc (by omega) (by simp; omega)
  have e1 : (((i + 1 : Nat)) : Int) = (i : Int) + 1 := by omega
  rw [hd, e1] at h
  refine h.mono ?_
  rintro e W' ⟨rfl, q, rfl⟩
  have hb2 : (Sort.ahead W q).heap[b]? = some (.cells (ints (l ++ rest)) 2 (0, 0)) := hb
  have e2 : i + 1 - i = 1 := by omega
  rw [e2]
  refine ⟨rfl, ?_, fun g hg => putRow_far _ _ _ _ hg, ⟨rfl, rfl, rfl, by simp, fun k hk => putRow_far _ _ _ _ (by omega)⟩⟩
  rw [putRow_blk _ _ _ _ hb2 (by simp; omega)]
  have e3 : l.toArray.toList.take i ++ l.toArray.toList.drop (i + 1) ++ List.replicate 1 (0 : Int) = l.eraseIdx i ++ [0] := by
    simp [List.eraseIdx_eq_take_drop_succ]
  rw [e3]
  have e4 : (l.eraseIdx i ++ [0]).length = l.length := by simp [List.length_eraseIdx, hi]; omega
  have e5 : (l.eraseIdx i ++ [0]).toArray.toList ++ (l ++ rest).drop (l.eraseIdx i ++ [0]).toArray.size = (l.eraseIdx i ++ [0]) ++ rest := by
    rw [List.size_toArray, e4]; simp
  rw [e5]
/-! perm -/
def bl (k : Nat) : Int := [6, 2, 1, 1].getD k 1
/-- The state of 'perm' after k rounds: what is left of p; the numbers left (zeros behind); the images. -/
def stp (p : Int) : Nat → Int × List Int × List Int
  | 0 => (p, [0, 1, 2, 3], [0, 0, 0, 0])
  | k + 1 => let s := stp p k; let q := (s.1 / bl k).toNat; (s.1 % bl k, (s.2.1.take (4 - k)).eraseIdx q ++ [0] ++ s.2.1.drop (4 - k), s.2.2.set k (s.2.1.getD q 0))
def pmL (p : Int) : List Int := (stp p 4).2.2
theorem stp_x (p : Int) (h0 : 0 ≤ p) (h1 : p < 24) : (0 ≤ (stp p 1).1 ∧ (stp p 1).1 < 6) ∧ (0 ≤ (stp p 2).1 ∧ (stp p 2).1 < 2) ∧ (0 ≤ (stp p 3).1 ∧ (stp p 3).1 < 1) := by
  simp only [stp, bl]
  simp
  omega
theorem blk_at_new {w : World} {o : Obj} {n : Nat} (h : n = w.heap.size) : (w.alloc o).heap[n]? = some o := by subst h; exact blk_new w o
theorem four {l : List Int} (h : l.length = 4) : ∃ a b c d, l = [a, b, c, d] := by
  match l, h with
  | [a, b, c, d], _ => exact ⟨a, b, c, d, rfl⟩
theorem stp_step_len {p : Int} {k : Nat} (h : (stp p k).2.1.length = 4 ∧ (stp p k).2.2.length = 4) (hk : k < 4) (hq : (stp p k).1 / bl k < 4 - k) (hq0 : 0 ≤ (stp p k).1 / bl k) : (stp p (k + 1)).2.1.length = 4 ∧ (stp p (k + 1)).2.2.length = 4 := by
  generalize hs : stp p k = s at *
  obtain ⟨X, L, O⟩ := s
  simp only [stp, hs]
  dsimp only at h hq hq0 ⊢
  refine ⟨?_, by rw [List.length_set]; exact h.2⟩
  rw [List.length_append, List.length_append, List.length_eraseIdx, List.length_take, List.length_drop, h.1, List.length_singleton, if_pos (by omega)]
  omega
theorem stp_len (p : Int) (k : Nat) (hk : k ≤ 4) (h0 : 0 ≤ p) (h1 : p < 24) : (stp p k).2.1.length = 4 ∧ (stp p k).2.2.length = 4 := by
  have hh := stp_x p h0 h1
  have l0 : (stp p 0).2.1.length = 4 ∧ (stp p 0).2.2.length = 4 := ⟨rfl, rfl⟩
  have b0 : bl 0 = 6 := rfl
  have b1 : bl 1 = 2 := rfl
  have b2 : bl 2 = 1 := rfl
  have b3 : bl 3 = 1 := rfl
  have x0 : (stp p 0).1 = p := rfl
  have l1 := stp_step_len (k := 0) l0 (by omega) (by rw [b0, x0]; omega) (by rw [b0, x0]; omega)
  have l2 := stp_step_len (k := 1) l1 (by omega) (by rw [b1]; omega) (by rw [b1]; omega)
  have l3 := stp_step_len (k := 2) l2 (by omega) (by rw [b2]; omega) (by rw [b2]; omega)
  have l4 := stp_step_len (k := 3) l3 (by omega) (by rw [b3]; omega) (by rw [b3]; omega)
  clear hh b0 b1 b2 b3 x0
  have hc : k = 0 ∨ k = 1 ∨ k = 2 ∨ k = 3 ∨ k = 4 := by omega
  rcases hc with rfl | rfl | rfl | rfl | rfl
  · exact l0
  · exact l1
  · exact l2
  · exact l3
  · exact l4
set_option maxHeartbeats 1000000 in
theorem perm_calls (p : Int) (h0 : 0 ≤ p) (h1 : p < 24) (w : World) :
    Calls Try.prog 158 #[.int .i64 p] w fun e w' => e = .returned (.agg (ints (pmL p))) ∧ Below w.heap.size w w' := by
  have hx := stp_x p h0 h1
  go_enter Try.func158, Try.ntmps158
  go_wp2_with fail
  go_loopw [0, 4, 11] (fun x v i wr => ∃ k : Nat, k ≤ 4 ∧ x = .int .i64 (stp p k).1 ∧ v = .slice (some ⟨w.heap.size + 1 + 1, 0, none⟩) (4 - k) 4 ∧ i = .int .i64 k ∧
     wr.heap[w.heap.size]? = some (.cells #[.int .i64 0, .int .i64 0, .int .i64 0, .int .i64 0] 120 (0, 0)) ∧
     wr.heap[w.heap.size + 1]? = some (.cells (ints (stp p k).2.2) 120 (0, 0)) ∧
     wr.heap[w.heap.size + 1 + 1]? = some (.cells (ints (stp p k).2.1) 2 (0, 0)) ∧
     wr.heap[w.heap.size + 1 + 1 + 1]? = some (.cells #[.int .i64 6, .int .i64 2, .int .i64 1, .int .i64 1] 2 (0, 0)) ∧ Below w.heap.size w wr) (fun _ _ i _ => 4 - (intOf i).toNat)
  case atStart =>
    refine ⟨0, by omega, rfl, rfl, rfl, ?_, ?_, ?_, ?_, ?_⟩
    · exact blk_alloc (blk_alloc (blk_alloc (blk_new _ _) _) _) _
    · exact blk_alloc (blk_alloc (blk_at_new (by simp) (o := .cells (ints [0, 0, 0, 0]) 120)) _) _
    · exact blk_alloc (blk_at_new (by simp) (o := .cells (ints [0, 1, 2, 3]) 2)) _
    · exact blk_at_new (by simp)
    · exact below_alloc (below_alloc (below_alloc (below_alloc (Below.refl _ _) _) _) _) _
  case round =>
    obtain ⟨k, hk, rfl, rfl, rfl, hb0, hb1, hb2, hb3, hB⟩ := hrel
    have hl := stp_len p k hk h0 h1
    generalize hs : stp p k = s at *
    obtain ⟨X, L, O⟩ := s
    obtain ⟨l0, l1, l2, l3, rfl⟩ := four hl.1
    obtain ⟨o0, o1, o2, o3, rfl⟩ := four hl.2
    dsimp only at hb1 hb2 hl ⊢
    have hstep : stp p (k + 1) = (X % bl k, ([l0, l1, l2, l3].take (4 - k)).eraseIdx (X / bl k).toNat ++ [0] ++ [l0, l1, l2, l3].drop (4 - k), [o0, o1, o2, o3].set k ([l0, l1, l2, l3].getD (X / bl k).toNat 0)) := by
      simp only [stp, hs]
    have hcase : k = 0 ∨ k = 1 ∨ k = 2 ∨ k = 3 ∨ k = 4 := by omega
    rcases hcase with rfl | rfl | rfl | rfl | rfl
    · have hX : 0 ≤ X ∧ X < 24 := (by have : stp p 0 = (X, _, _) := hs; simp [stp] at this; omega)
      obtain ⟨hX0, hX1⟩ := hX
      obtain ⟨q, hq⟩ : ∃ q : Nat, X / 6 = (q : Int) := ⟨(X / 6).toNat, by omega⟩
      have hq4 : q < 4 := by omega
      have hqb : (X / bl 0).toNat = q := by show (X / 6).toNat = q; omega
      rw [hqb] at hstep
      have c3 : wr.cell? ⟨w.heap.size + 1 + 1 + 1, 0, none⟩ = some (.int .i64 6) := blk_cell hb3 0
      have c2 : wr.cell? ⟨w.heap.size + 1 + 1, q, none⟩ = some (.int .i64 ([l0, l1, l2, l3].getD q 0)) := by rw [blk_cell hb2 q, ints_get _ _ (by simp; omega)]
      have c1 : wr.cell? ⟨w.heap.size + 1, 0, none⟩ = some (.int .i64 o0) := blk_cell hb1 0
      have f1 : wr.frozen? ⟨w.heap.size + 1, 0, none⟩ = false := blk_frozen hb1 0
      generalize hy : [l0, l1, l2, l3].getD q 0 = y at c2 hstep
      have HY := Lib.hid hy
      have HX := Lib.hid hx
      have HS := Lib.hid hstep
      have HB0 := Lib.hid hb0
      have HB1 := Lib.hid hb1
      have HB2 := Lib.hid hb2
      have HB3 := Lib.hid hb3
      have HBB := Lib.hid hB
      clear hx hl hb0 hb1 hb2 hb3 hB hs hstep hy hqb
      go_wp2_with fail
      have hdel := del_any [l0, l1, l2, l3] [] (w.heap.size + 1 + 1) q (wr.setCell ⟨w.heap.size + 1, 0, none⟩ (.int .i64 y)) (blk_far HB2.out (by dsimp only; omega) _) (by simpa using hq4) (by simp)
      refine hdel.mono ?_
      rintro e w1 ⟨rfl, hb2', hfar, hbel⟩
      have HB2' := Lib.hid hb2'
      have HF := Lib.hid hfar
      have HL := Lib.hid hbel
      clear hb2' hfar hbel c1 c2 c3 f1 hdel
      go_wp2
      go_roundw
      case rel =>
        refine ⟨1, by omega, by rw [HS.out]; simp [bl], by simp, by simp, ?_, ?_, ?_, ?_, ?_⟩
        · rw [HF.out w.heap.size (by omega)]; exact blk_far HB0.out (by dsimp only; omega) _
        · rw [HF.out (w.heap.size + 1) (by omega), blk_set HB1.out 0 (.int .i64 y), HS.out]; simp [ints]
        · rw [HB2'.out, HS.out]; rfl
        · rw [HF.out (w.heap.size + 1 + 1 + 1) (by omega)]; exact blk_far HB3.out (by dsimp only; omega) _
        · exact (HBB.out.setCell (by simp) _).trans (HL.out.mono (by omega))
      case measure => simp [intOf]
    · have hX : 0 ≤ X ∧ X < 6 := (by have := hx.1; rw [hs] at this; exact this)
      obtain ⟨hX0, hX1⟩ := hX
      obtain ⟨q, hq⟩ : ∃ q : Nat, X / 2 = (q : Int) := ⟨(X / 2).toNat, by omega⟩
      have hq4 : q < 3 := by omega
      have hqb : (X / bl 1).toNat = q := by show (X / 2).toNat = q; omega
      rw [hqb] at hstep
      have c3 : wr.cell? ⟨w.heap.size + 1 + 1 + 1, 1, none⟩ = some (.int .i64 2) := blk_cell hb3 1
      have c2 : wr.cell? ⟨w.heap.size + 1 + 1, q, none⟩ = some (.int .i64 ([l0, l1, l2, l3].getD q 0)) := by rw [blk_cell hb2 q, ints_get _ _ (by simp; omega)]
      have c1 : wr.cell? ⟨w.heap.size + 1, 1, none⟩ = some (.int .i64 o1) := blk_cell hb1 1
      have f1 : wr.frozen? ⟨w.heap.size + 1, 1, none⟩ = false := blk_frozen hb1 1
      generalize hy : [l0, l1, l2, l3].getD q 0 = y at c2 hstep
      have HY := Lib.hid hy
      have HX := Lib.hid hx
      have HS := Lib.hid hstep
      have HB0 := Lib.hid hb0
      have HB1 := Lib.hid hb1
      have HB2 := Lib.hid hb2
      have HB3 := Lib.hid hb3
      have HBB := Lib.hid hB
      clear hx hl hb0 hb1 hb2 hb3 hB hs hstep hy hqb
      go_wp2_with fail
      have hdel := del_any [l0, l1, l2] [l3] (w.heap.size + 1 + 1) q (wr.setCell ⟨w.heap.size + 1, 1, none⟩ (.int .i64 y)) (blk_far HB2.out (by dsimp only; omega) _) (by simpa using hq4) (by simp)
      refine hdel.mono ?_
      rintro e w1 ⟨rfl, hb2', hfar, hbel⟩
      have HB2' := Lib.hid hb2'
      have HF := Lib.hid hfar
      have HL := Lib.hid hbel
      clear hb2' hfar hbel c1 c2 c3 f1 hdel
      go_wp2
      go_roundw
      case rel =>
        refine ⟨2, by omega, by rw [HS.out]; simp [bl], by simp, by simp, ?_, ?_, ?_, ?_, ?_⟩
        · rw [HF.out w.heap.size (by omega)]; exact blk_far HB0.out (by dsimp only; omega) _
        · rw [HF.out (w.heap.size + 1) (by omega), blk_set HB1.out 1 (.int .i64 y), HS.out]; simp [ints]
        · rw [HB2'.out, HS.out]; rfl
        · rw [HF.out (w.heap.size + 1 + 1 + 1) (by omega)]; exact blk_far HB3.out (by dsimp only; omega) _
        · exact (HBB.out.setCell (by simp) _).trans (HL.out.mono (by omega))
      case measure => simp [intOf]
    · have hX : 0 ≤ X ∧ X < 2 := (by have := hx.2.1; rw [hs] at this; exact this)
      obtain ⟨hX0, hX1⟩ := hX
      obtain ⟨q, rfl⟩ : ∃ q : Nat, X = (q : Int) := ⟨(X).toNat, by omega⟩
      have hq4 : q < 2 := by omega
      have hqb : ((q : Int) / bl 2).toNat = q := by show ((q : Int) / 1).toNat = q; omega
      rw [hqb] at hstep
      have c3 : wr.cell? ⟨w.heap.size + 1 + 1 + 1, 2, none⟩ = some (.int .i64 1) := blk_cell hb3 2
      have c2 : wr.cell? ⟨w.heap.size + 1 + 1, q, none⟩ = some (.int .i64 ([l0, l1, l2, l3].getD q 0)) := by rw [blk_cell hb2 q, ints_get _ _ (by simp; omega)]
      have c1 : wr.cell? ⟨w.heap.size + 1, 2, none⟩ = some (.int .i64 o2) := blk_cell hb1 2
      have f1 : wr.frozen? ⟨w.heap.size + 1, 2, none⟩ = false := blk_frozen hb1 2
      generalize hy : [l0, l1, l2, l3].getD q 0 = y at c2 hstep
      have HY := Lib.hid hy
      have HX := Lib.hid hx
      have HS := Lib.hid hstep
      have HB0 := Lib.hid hb0
      have HB1 := Lib.hid hb1
      have HB2 := Lib.hid hb2
      have HB3 := Lib.hid hb3
      have HBB := Lib.hid hB
      clear hx hl hb0 hb1 hb2 hb3 hB hs hstep hy hqb
      go_wp2_with fail
      have hdel := del_any [l0, l1] [l2, l3] (w.heap.size + 1 + 1) q (wr.setCell ⟨w.heap.size + 1, 2, none⟩ (.int .i64 y)) (blk_far HB2.out (by dsimp only; omega) _) (by simpa using hq4) (by simp)
      refine hdel.mono ?_
      rintro e w1 ⟨rfl, hb2', hfar, hbel⟩
      have HB2' := Lib.hid hb2'
      have HF := Lib.hid hfar
      have HL := Lib.hid hbel
      clear hb2' hfar hbel c1 c2 c3 f1 hdel
      go_wp2
      go_roundw
      case rel =>
        refine ⟨3, by omega, by rw [HS.out]; simp [bl], by simp, by simp, ?_, ?_, ?_, ?_, ?_⟩
        · rw [HF.out w.heap.size (by omega)]; exact blk_far HB0.out (by dsimp only; omega) _
        · rw [HF.out (w.heap.size + 1) (by omega), blk_set HB1.out 2 (.int .i64 y), HS.out]; simp [ints]
        · rw [HB2'.out, HS.out]; rfl
        · rw [HF.out (w.heap.size + 1 + 1 + 1) (by omega)]; exact blk_far HB3.out (by dsimp only; omega) _
        · exact (HBB.out.setCell (by simp) _).trans (HL.out.mono (by omega))
      case measure => simp [intOf]
    · have hX : 0 ≤ X ∧ X < 1 := (by have := hx.2.2; rw [hs] at this; exact this)
      obtain ⟨hX0, hX1⟩ := hX
      obtain ⟨q, rfl⟩ : ∃ q : Nat, X = (q : Int) := ⟨(X).toNat, by omega⟩
      have hq4 : q < 1 := by omega
      have hqb : ((q : Int) / bl 3).toNat = q := by show ((q : Int) / 1).toNat = q; omega
      rw [hqb] at hstep
      have c3 : wr.cell? ⟨w.heap.size + 1 + 1 + 1, 3, none⟩ = some (.int .i64 1) := blk_cell hb3 3
      have c2 : wr.cell? ⟨w.heap.size + 1 + 1, q, none⟩ = some (.int .i64 ([l0, l1, l2, l3].getD q 0)) := by rw [blk_cell hb2 q, ints_get _ _ (by simp; omega)]
      have c1 : wr.cell? ⟨w.heap.size + 1, 3, none⟩ = some (.int .i64 o3) := blk_cell hb1 3
      have f1 : wr.frozen? ⟨w.heap.size + 1, 3, none⟩ = false := blk_frozen hb1 3
      generalize hy : [l0, l1, l2, l3].getD q 0 = y at c2 hstep
      have HY := Lib.hid hy
      have HX := Lib.hid hx
      have HS := Lib.hid hstep
      have HB0 := Lib.hid hb0
      have HB1 := Lib.hid hb1
      have HB2 := Lib.hid hb2
      have HB3 := Lib.hid hb3
      have HBB := Lib.hid hB
      clear hx hl hb0 hb1 hb2 hb3 hB hs hstep hy hqb
      go_wp2_with fail
      have hdel := del_any [l0] [l1, l2, l3] (w.heap.size + 1 + 1) q (wr.setCell ⟨w.heap.size + 1, 3, none⟩ (.int .i64 y)) (blk_far HB2.out (by dsimp only; omega) _) (by simpa using hq4) (by simp)
      refine hdel.mono ?_
      rintro e w1 ⟨rfl, hb2', hfar, hbel⟩
      have HB2' := Lib.hid hb2'
      have HF := Lib.hid hfar
      have HL := Lib.hid hbel
      clear hb2' hfar hbel c1 c2 c3 f1 hdel
      go_wp2
      go_roundw
      case rel =>
        refine ⟨4, by omega, by rw [HS.out]; simp [bl], by simp, by simp, ?_, ?_, ?_, ?_, ?_⟩
        · rw [HF.out w.heap.size (by omega)]; exact blk_far HB0.out (by dsimp only; omega) _
        · rw [HF.out (w.heap.size + 1) (by omega), blk_set HB1.out 3 (.int .i64 y), HS.out]; simp [ints]
        · rw [HB2'.out, HS.out]; rfl
        · rw [HF.out (w.heap.size + 1 + 1 + 1) (by omega)]; exact blk_far HB3.out (by dsimp only; omega) _
        · exact (HBB.out.setCell (by simp) _).trans (HL.out.mono (by omega))
      case measure => simp [intOf]
    · have HS := Lib.hid hs
      have HB0 := Lib.hid hb0
      have HB1 := Lib.hid hb1
      have HBB := Lib.hid hB
      have c10 : wr.cell? ⟨w.heap.size + 1, 0, none⟩ = some (.int .i64 o0) := blk_cell hb1 0
      have c11 : wr.cell? ⟨w.heap.size + 1, 1, none⟩ = some (.int .i64 o1) := blk_cell hb1 1
      have c12 : wr.cell? ⟨w.heap.size + 1, 2, none⟩ = some (.int .i64 o2) := blk_cell hb1 2
      have c13 : wr.cell? ⟨w.heap.size + 1, 3, none⟩ = some (.int .i64 o3) := blk_cell hb1 3
      have c00 : wr.cell? ⟨w.heap.size, 0, none⟩ = some (.int .i64 0) := blk_cell hb0 0
      have c01 : wr.cell? ⟨w.heap.size, 1, none⟩ = some (.int .i64 0) := blk_cell hb0 1
      have c02 : wr.cell? ⟨w.heap.size, 2, none⟩ = some (.int .i64 0) := blk_cell hb0 2
      have c03 : wr.cell? ⟨w.heap.size, 3, none⟩ = some (.int .i64 0) := blk_cell hb0 3
      have f00 : wr.frozen? ⟨w.heap.size, 0, none⟩ = false := blk_frozen hb0 0
      have f01 : wr.frozen? ⟨w.heap.size, 1, none⟩ = false := blk_frozen hb0 1
      have f02 : wr.frozen? ⟨w.heap.size, 2, none⟩ = false := blk_frozen hb0 2
      have f03 : wr.frozen? ⟨w.heap.size, 3, none⟩ = false := blk_frozen hb0 3
      clear hx hl hb0 hb1 hb2 hb3 hB hs hstep
      go_wp2
      have hb := blk_set (blk_set (blk_set (blk_set HB0.out 0 (.int .i64 o0)) 1 (.int .i64 o1)) 2 (.int .i64 o2)) 3 (.int .i64 o3)
      refine bodyPost_ret (results_cell_row rfl _ _ w.heap.size 120 (ints [o0, o1, o2, o3]) (0, 0) _ rfl hb Try.underlying120 rfl (by kernel_rfl)) rfl ⟨?_, ?_⟩
      · unfold pmL; rw [HS.out]
      · exact (((HBB.out.setCell (Nat.le_refl _) _).setCell (Nat.le_refl _) _).setCell (Nat.le_refl _) _).setCell (Nat.le_refl _) _
/-! indexOf -/
/-- How many of the first j elements are less than a. -/
def cnt (l : List Int) (a : Int) (j : Nat) : Int := ((l.take j).filter (fun x => decide (x < a))).length
def ixs (l : List Int) : Nat → Int
  | 0 => 0
  | k + 1 => ixs l k + (l.getD k 0 - cnt l (l.getD k 0) k) * bl k
theorem cnt_bd (l : List Int) (a : Int) (j : Nat) : 0 ≤ cnt l a j ∧ cnt l a j ≤ j := by
  unfold cnt
  have h1 := List.length_filter_le (fun x => decide (x < a)) (l.take j)
  have h2 := List.length_take_le j l
  omega
theorem cnt_succ (l : List Int) (a : Int) (j : Nat) (hj : j < l.length) : cnt l a (j + 1) = cnt l a j + if l.getD j 0 < a then 1 else 0 := by
  unfold cnt
  rw [List.take_succ_eq_append_getElem hj, List.filter_append, List.length_append]
  have e : l.getD j 0 = l[j] := by simp [hj]
  rw [e]
  by_cases h : l[j] < a <;> simp [h]
theorem getD_bd (a0 a1 a2 a3 : Int) (B0 : 0 ≤ a0 ∧ a0 ≤ 3) (B1 : 0 ≤ a1 ∧ a1 ≤ 3) (B2 : 0 ≤ a2 ∧ a2 ≤ 3) (B3 : 0 ≤ a3 ∧ a3 ≤ 3) (m : Nat) : 0 ≤ [a0, a1, a2, a3].getD m 0 ∧ [a0, a1, a2, a3].getD m 0 ≤ 3 := by
  match m with
  | 0 => exact B0
  | 1 => exact B1
  | 2 => exact B2
  | 3 => exact B3
  | m + 4 => simp
theorem ixs_bd (a0 a1 a2 a3 : Int) (B0 : 0 ≤ a0 ∧ a0 ≤ 3) (B1 : 0 ≤ a1 ∧ a1 ≤ 3) (B2 : 0 ≤ a2 ∧ a2 ≤ 3) (B3 : 0 ≤ a3 ∧ a3 ≤ 3) (k : Nat) (hk : k ≤ 4) : -100 ≤ ixs [a0, a1, a2, a3] k ∧ ixs [a0, a1, a2, a3] k ≤ 100 := by
  have c0 := cnt_bd [a0, a1, a2, a3] a0 0
  have c1 := cnt_bd [a0, a1, a2, a3] a1 1
  have c2 := cnt_bd [a0, a1, a2, a3] a2 2
  have c3 := cnt_bd [a0, a1, a2, a3] a3 3
  have e0 : ixs [a0, a1, a2, a3] 0 = 0 := rfl
  have e1 : ixs [a0, a1, a2, a3] 1 = ixs [a0, a1, a2, a3] 0 + (a0 - cnt [a0, a1, a2, a3] a0 0) * 6 := rfl
  have e2 : ixs [a0, a1, a2, a3] 2 = ixs [a0, a1, a2, a3] 1 + (a1 - cnt [a0, a1, a2, a3] a1 1) * 2 := rfl
  have e3 : ixs [a0, a1, a2, a3] 3 = ixs [a0, a1, a2, a3] 2 + (a2 - cnt [a0, a1, a2, a3] a2 2) * 1 := rfl
  have e4 : ixs [a0, a1, a2, a3] 4 = ixs [a0, a1, a2, a3] 3 + (a3 - cnt [a0, a1, a2, a3] a3 3) * 1 := rfl
  have hc : k = 0 ∨ k = 1 ∨ k = 2 ∨ k = 3 ∨ k = 4 := by omega
  rcases hc with rfl | rfl | rfl | rfl | rfl <;> omega
set_option maxHeartbeats 1000000 in
theorem indexOf_calls (l : List Int) (hl : l.length = 4) (hb : ∀ x ∈ l, 0 ≤ x ∧ x ≤ 3) (w : World) :
    Calls Try.prog 165 #[.agg (ints l)] w fun e w' => e = .returned (.int .i64 (ixs l 4)) ∧ Below w.heap.size w w' := by
  obtain ⟨a0, a1, a2, a3, rfl⟩ := four hl
  have B0 := hb a0 (by simp)
  have B1 := hb a1 (by simp)
  have B2 := hb a2 (by simp)
  have B3 := hb a3 (by simp)
  clear hb hl
  show Calls Try.prog 165 #[.agg #[.int .i64 a0, .int .i64 a1, .int .i64 a2, .int .i64 a3]] w _
  go_enter Try.func165, Try.ntmps165
  have hcell : ∀ m : Nat, m < 4 → ((w.alloc (.cells #[.int .i64 a0, .int .i64 a1, .int .i64 a2, .int .i64 a3] 120)).alloc (.cells #[.int .i64 6, .int .i64 2, .int .i64 1, .int .i64 1] 2)).cell? ⟨w.heap.size, m, none⟩ = some (.int .i64 ([a0, a1, a2, a3].getD m 0)) := by
    intro m hm
    have hb : ((w.alloc (.cells #[.int .i64 a0, .int .i64 a1, .int .i64 a2, .int .i64 a3] 120)).alloc (.cells #[.int .i64 6, .int .i64 2, .int .i64 1, .int .i64 1] 2)).heap[w.heap.size]? = some (.cells (ints [a0, a1, a2, a3]) 120 (0, 0)) := blk_alloc (blk_new _ _) _
    rw [blk_cell hb m, ints_get _ _ (by simpa using hm)]
  have HC := Lib.hid hcell
  have HB := Lib.hid (ixs_bd a0 a1 a2 a3 B0 B1 B2 B3)
  clear hcell
  go_wp2_with fail
  go_loop [3, 11] (fun x i => ∃ k : Nat, k ≤ 4 ∧ i = .int .i64 k ∧ x = .int .i64 (ixs [a0, a1, a2, a3] k)) (fun _ i => 4 - (intOf i).toNat)
  case atStart => exact ⟨0, by omega, rfl, rfl⟩
  case round =>
    obtain ⟨k, hk, rfl, rfl⟩ := hrel
    have hcase : k = 0 ∨ k = 1 ∨ k = 2 ∨ k = 3 ∨ k = 4 := by omega
    rcases hcase with rfl | rfl | rfl | rfl | rfl
    · have hx0 : ixs [a0, a1, a2, a3] 1 = ixs [a0, a1, a2, a3] 0 + (a0 - cnt [a0, a1, a2, a3] a0 0) * 6 := rfl
      have hx := HB.out 0 (by omega)
      have cb := cnt_bd [a0, a1, a2, a3] a0 0
      generalize ixs [a0, a1, a2, a3] 0 = X at *
      have HX0 := Lib.hid hx0
      clear hx0
      go_wp2_with fail
      go_loop [6, 22] (fun x j => ∃ m : Nat, m ≤ 0 ∧ j = .int .i64 m ∧ x = .int .i64 (a0 - cnt [a0, a1, a2, a3] a0 m)) (fun _ j => 0 - (intOf j).toNat)
      case atStart => exact ⟨0, by omega, rfl, by simp [cnt]⟩
      case round =>
        obtain ⟨m, hm, rfl, rfl⟩ := hrel
        by_cases hlt : m < 0
        · exact absurd hlt (by omega)
        · obtain rfl : m = 0 := by omega
          generalize cnt [a0, a1, a2, a3] a0 0 = c at *
          go_wp2
          go_round
          case rel => exact ⟨1, by omega, by go_num, by (rw [HX0.out] <;> go_num)⟩
          case measure => simp [intOf]
    · have hx0 : ixs [a0, a1, a2, a3] 2 = ixs [a0, a1, a2, a3] 1 + (a1 - cnt [a0, a1, a2, a3] a1 1) * 2 := rfl
      have hx := HB.out 1 (by omega)
      have cb := cnt_bd [a0, a1, a2, a3] a1 1
      generalize ixs [a0, a1, a2, a3] 1 = X at *
      have HX0 := Lib.hid hx0
      clear hx0
      go_wp2_with fail
      go_loop [6, 22] (fun x j => ∃ m : Nat, m ≤ 1 ∧ j = .int .i64 m ∧ x = .int .i64 (a1 - cnt [a0, a1, a2, a3] a1 m)) (fun _ j => 1 - (intOf j).toNat)
      case atStart => exact ⟨0, by omega, rfl, by simp [cnt]⟩
      case round =>
        obtain ⟨m, hm, rfl, rfl⟩ := hrel
        by_cases hlt : m < 1
        · have hc := HC.out m (by omega)
          have cb1 := cnt_bd [a0, a1, a2, a3] a1 m
          have cs := cnt_succ [a0, a1, a2, a3] a1 m (by simp; omega)
          have hy := getD_bd a0 a1 a2 a3 B0 B1 B2 B3 m
          generalize [a0, a1, a2, a3].getD m 0 = y at hc cs hy
          by_cases hya : y < a1
          · rw [if_pos hya] at cs
            have CS := Lib.hid cs
            clear cs
            generalize cnt [a0, a1, a2, a3] a1 m = c at *
            go_wp2
            go_round
            case rel => exact ⟨m + 1, by omega, by go_num, by rw [CS.out]; go_num⟩
            case measure => simp [intOf]; omega
          · rw [if_neg hya] at cs
            have CS := Lib.hid cs
            clear cs
            generalize cnt [a0, a1, a2, a3] a1 m = c at *
            go_wp2
            go_round
            case rel => exact ⟨m + 1, by omega, by go_num, by rw [CS.out]; go_num⟩
            case measure => simp [intOf]; omega
        · obtain rfl : m = 1 := by omega
          generalize cnt [a0, a1, a2, a3] a1 1 = c at *
          go_wp2
          go_round
          case rel => exact ⟨2, by omega, by go_num, by (rw [HX0.out] <;> go_num)⟩
          case measure => simp [intOf]
    · have hx0 : ixs [a0, a1, a2, a3] 3 = ixs [a0, a1, a2, a3] 2 + (a2 - cnt [a0, a1, a2, a3] a2 2) * 1 := rfl
      have hx := HB.out 2 (by omega)
      have cb := cnt_bd [a0, a1, a2, a3] a2 2
      generalize ixs [a0, a1, a2, a3] 2 = X at *
      have HX0 := Lib.hid hx0
      clear hx0
      go_wp2_with fail
      go_loop [6, 22] (fun x j => ∃ m : Nat, m ≤ 2 ∧ j = .int .i64 m ∧ x = .int .i64 (a2 - cnt [a0, a1, a2, a3] a2 m)) (fun _ j => 2 - (intOf j).toNat)
      case atStart => exact ⟨0, by omega, rfl, by simp [cnt]⟩
      case round =>
        obtain ⟨m, hm, rfl, rfl⟩ := hrel
        by_cases hlt : m < 2
        · have hc := HC.out m (by omega)
          have cb1 := cnt_bd [a0, a1, a2, a3] a2 m
          have cs := cnt_succ [a0, a1, a2, a3] a2 m (by simp; omega)
          have hy := getD_bd a0 a1 a2 a3 B0 B1 B2 B3 m
          generalize [a0, a1, a2, a3].getD m 0 = y at hc cs hy
          by_cases hya : y < a2
          · rw [if_pos hya] at cs
            have CS := Lib.hid cs
            clear cs
            generalize cnt [a0, a1, a2, a3] a2 m = c at *
            go_wp2
            go_round
            case rel => exact ⟨m + 1, by omega, by go_num, by rw [CS.out]; go_num⟩
            case measure => simp [intOf]; omega
          · rw [if_neg hya] at cs
            have CS := Lib.hid cs
            clear cs
            generalize cnt [a0, a1, a2, a3] a2 m = c at *
            go_wp2
            go_round
            case rel => exact ⟨m + 1, by omega, by go_num, by rw [CS.out]; go_num⟩
            case measure => simp [intOf]; omega
        · obtain rfl : m = 2 := by omega
          generalize cnt [a0, a1, a2, a3] a2 2 = c at *
          go_wp2
          go_round
          case rel => exact ⟨3, by omega, by go_num, by (rw [HX0.out] <;> go_num)⟩
          case measure => simp [intOf]
    · have hx0 : ixs [a0, a1, a2, a3] 4 = ixs [a0, a1, a2, a3] 3 + (a3 - cnt [a0, a1, a2, a3] a3 3) * 1 := rfl
      have hx := HB.out 3 (by omega)
      have cb := cnt_bd [a0, a1, a2, a3] a3 3
      generalize ixs [a0, a1, a2, a3] 3 = X at *
      have HX0 := Lib.hid hx0
      clear hx0
      go_wp2_with fail
      go_loop [6, 22] (fun x j => ∃ m : Nat, m ≤ 3 ∧ j = .int .i64 m ∧ x = .int .i64 (a3 - cnt [a0, a1, a2, a3] a3 m)) (fun _ j => 3 - (intOf j).toNat)
      case atStart => exact ⟨0, by omega, rfl, by simp [cnt]⟩
      case round =>
        obtain ⟨m, hm, rfl, rfl⟩ := hrel
        by_cases hlt : m < 3
        · have hc := HC.out m (by omega)
          have cb1 := cnt_bd [a0, a1, a2, a3] a3 m
          have cs := cnt_succ [a0, a1, a2, a3] a3 m (by simp; omega)
          have hy := getD_bd a0 a1 a2 a3 B0 B1 B2 B3 m
          generalize [a0, a1, a2, a3].getD m 0 = y at hc cs hy
          by_cases hya : y < a3
          · rw [if_pos hya] at cs
            have CS := Lib.hid cs
            clear cs
            generalize cnt [a0, a1, a2, a3] a3 m = c at *
            go_wp2
            go_round
            case rel => exact ⟨m + 1, by omega, by go_num, by rw [CS.out]; go_num⟩
            case measure => simp [intOf]; omega
          · rw [if_neg hya] at cs
            have CS := Lib.hid cs
            clear cs
            generalize cnt [a0, a1, a2, a3] a3 m = c at *
            go_wp2
            go_round
            case rel => exact ⟨m + 1, by omega, by go_num, by rw [CS.out]; go_num⟩
            case measure => simp [intOf]; omega
        · obtain rfl : m = 3 := by omega
          generalize cnt [a0, a1, a2, a3] a3 3 = c at *
          go_wp2
          go_round
          case rel => exact ⟨4, by omega, by go_num, by (rw [HX0.out] <;> go_num)⟩
          case measure => simp [intOf]
    · go_wp2
      go_ret
      exact ⟨rfl, below_alloc (below_alloc (Below.refl _ _) _) _⟩
/-! invert, target -/
theorem pmL_fin : ∀ n : Fin 24, (pmL (n.val : Int)).length = 4 ∧ ∀ x ∈ pmL (n.val : Int), 0 ≤ x ∧ x ≤ 3 := by decide +kernel
theorem pmL_bd (p : Int) (h0 : 0 ≤ p) (h1 : p < 24) : (pmL p).length = 4 ∧ ∀ x ∈ pmL p, 0 ≤ x ∧ x ≤ 3 := by
  have := pmL_fin ⟨p.toNat, by omega⟩
  simpa [Int.toNat_of_nonneg h0] using this
theorem index120 (a0 a1 a2 a3 : Int) : (∀ w, (Instr.index 120 (.agg #[.int .i64 a0, .int .i64 a1, .int .i64 a2, .int .i64 a3]) (.int .i64 0)).run Try.prog w = .ok (.int .i64 a0) w) ∧ (∀ w, (Instr.index 120 (.agg #[.int .i64 a0, .int .i64 a1, .int .i64 a2, .int .i64 a3]) (.int .i64 1)).run Try.prog w = .ok (.int .i64 a1) w) ∧ (∀ w, (Instr.index 120 (.agg #[.int .i64 a0, .int .i64 a1, .int .i64 a2, .int .i64 a3]) (.int .i64 2)).run Try.prog w = .ok (.int .i64 a2) w) ∧ (∀ w, (Instr.index 120 (.agg #[.int .i64 a0, .int .i64 a1, .int .i64 a2, .int .i64 a3]) (.int .i64 3)).run Try.prog w = .ok (.int .i64 a3) w) :=
  ⟨fun _ => by kernel_rfl, fun _ => by kernel_rfl, fun _ => by kernel_rfl, fun _ => by kernel_rfl⟩
/-- The row of 'invert' after k rounds. -/
def ivs (l : List Int) : Nat → List Int
  | 0 => [0, 0, 0, 0]
  | k + 1 => (ivs l k).set (l.getD k 0).toNat k
def invL (p : Int) : Int := ixs (ivs (pmL p) 4) 4
theorem ivs_len (l : List Int) (k : Nat) : (ivs l k).length = 4 := by
  induction k with
  | zero => rfl
  | succ k ih => simp [ivs, ih]
theorem ivs_bd (l : List Int) (k : Nat) (hk : k ≤ 4) : ∀ x ∈ ivs l k, 0 ≤ x ∧ x ≤ 3 := by
  induction k with
  | zero => intro x hx; simp [ivs] at hx; omega
  | succ k ih =>
    intro x hx
    rcases List.mem_or_eq_of_mem_set hx with h | h
    · exact ih (by omega) x h
    · omega
set_option maxHeartbeats 1000000 in
set_option maxRecDepth 100000 in
theorem invert_calls (p : Int) (h0 : 0 ≤ p) (h1 : p < 24) (w : World) :
    Calls Try.prog 166 #[.int .i64 p] w fun e w' => e = .returned (.int .i64 (invL p)) ∧ Below w.heap.size w w' := by
  have hpm := pmL_bd p h0 h1
  unfold invL
  have HP := Lib.hid (fun W => perm_calls p h0 h1 W)
  generalize pmL p = l at *
  obtain ⟨a0, a1, a2, a3, rfl⟩ := four hpm.1
  have B0 := hpm.2 a0 (by simp)
  have B1 := hpm.2 a1 (by simp)
  have B2 := hpm.2 a2 (by simp)
  have B3 := hpm.2 a3 (by simp)
  obtain ⟨i0, i1, i2, i3⟩ := index120 a0 a1 a2 a3
  replace HP : Hid (∀ W : World, Calls Try.prog 158 #[.int .i64 p] W fun e w' => e = .returned (.agg #[.int .i64 a0, .int .i64 a1, .int .i64 a2, .int .i64 a3]) ∧ Below W.heap.size W w') := HP
  clear hpm
  go_enter Try.func166, Try.ntmps166
  go_wp2_with fail
  refine (HP.out _).mono ?_
  rintro e w1 ⟨rfl, hb1⟩
  have hB1 : Below w.heap.size w w1 := (below_alloc (Below.refl _ _) (.cells (ints [0, 0, 0, 0]) 120)).trans (hb1.mono (by simp))
  have hx1 : w1.heap[w.heap.size]? = some (.cells (ints [0, 0, 0, 0]) 120 (0, 0)) := blk_below (blk_new _ _) hb1
  clear HP hb1
  have HB1 := Lib.hid hB1
  have HX1 := Lib.hid hx1
  clear hB1 hx1
  go_wp2_with fail
  go_loopw [8] (fun i wr => ∃ k : Nat, k ≤ 4 ∧ i = .int .i64 k ∧ wr.heap[w.heap.size]? = some (.cells (ints (ivs [a0, a1, a2, a3] k)) 120 (0, 0)) ∧ Below w.heap.size w wr) (fun i _ => 4 - (intOf i).toNat)
  case atStart => exact ⟨0, by omega, rfl, HX1.out, HB1.out⟩
  case round =>
    obtain ⟨k, hk, rfl, hb, hB⟩ := hrel
    clear HX1 HB1
    have hlen := ivs_len [a0, a1, a2, a3] k
    have hcase : k = 0 ∨ k = 1 ∨ k = 2 ∨ k = 3 ∨ k = 4 := by omega
    rcases hcase with rfl | rfl | rfl | rfl | rfl
    · obtain ⟨x, hxx⟩ : ∃ x : Nat, a0 = (x : Int) := ⟨a0.toNat, by omega⟩
      subst hxx
      have hx4 : x < 4 := by omega
      have c1 : wr.cell? ⟨w.heap.size, x, none⟩ = some (.int .i64 ((ivs [(x : Int), a1, a2, a3] 0).getD x 0)) := by rw [blk_cell hb x, ints_get _ _ (by omega)]
      have f1 : wr.frozen? ⟨w.heap.size, x, none⟩ = false := blk_frozen hb x
      have HB := Lib.hid hB
      have HH := Lib.hid hb
      clear hb hB hlen
      go_wp2
      go_roundw
      case rel =>
        refine ⟨1, by omega, rfl, ?_, HB.out.setCell (Nat.le_refl _) _⟩
        rw [blk_set HH.out x (.int .i64 0)]
        simp [ints, ivs]
      case measure => simp [intOf]
    · obtain ⟨x, hxx⟩ : ∃ x : Nat, a1 = (x : Int) := ⟨a1.toNat, by omega⟩
      subst hxx
      have hx4 : x < 4 := by omega
      have c1 : wr.cell? ⟨w.heap.size, x, none⟩ = some (.int .i64 ((ivs [a0, (x : Int), a2, a3] 1).getD x 0)) := by rw [blk_cell hb x, ints_get _ _ (by omega)]
      have f1 : wr.frozen? ⟨w.heap.size, x, none⟩ = false := blk_frozen hb x
      have HB := Lib.hid hB
      have HH := Lib.hid hb
      clear hb hB hlen
      go_wp2
      go_roundw
      case rel =>
        refine ⟨2, by omega, rfl, ?_, HB.out.setCell (Nat.le_refl _) _⟩
        rw [blk_set HH.out x (.int .i64 1)]
        simp [ints, ivs]
      case measure => simp [intOf]
    · obtain ⟨x, hxx⟩ : ∃ x : Nat, a2 = (x : Int) := ⟨a2.toNat, by omega⟩
      subst hxx
      have hx4 : x < 4 := by omega
      have c1 : wr.cell? ⟨w.heap.size, x, none⟩ = some (.int .i64 ((ivs [a0, a1, (x : Int), a3] 2).getD x 0)) := by rw [blk_cell hb x, ints_get _ _ (by omega)]
      have f1 : wr.frozen? ⟨w.heap.size, x, none⟩ = false := blk_frozen hb x
      have HB := Lib.hid hB
      have HH := Lib.hid hb
      clear hb hB hlen
      go_wp2
      go_roundw
      case rel =>
        refine ⟨3, by omega, rfl, ?_, HB.out.setCell (Nat.le_refl _) _⟩
        rw [blk_set HH.out x (.int .i64 2)]
        simp [ints, ivs]
      case measure => simp [intOf]
    · obtain ⟨x, hxx⟩ : ∃ x : Nat, a3 = (x : Int) := ⟨a3.toNat, by omega⟩
      subst hxx
      have hx4 : x < 4 := by omega
      have c1 : wr.cell? ⟨w.heap.size, x, none⟩ = some (.int .i64 ((ivs [a0, a1, a2, (x : Int)] 3).getD x 0)) := by rw [blk_cell hb x, ints_get _ _ (by omega)]
      have f1 : wr.frozen? ⟨w.heap.size, x, none⟩ = false := blk_frozen hb x
      have HB := Lib.hid hB
      have HH := Lib.hid hb
      clear hb hB hlen
      go_wp2
      go_roundw
      case rel =>
        refine ⟨4, by omega, rfl, ?_, HB.out.setCell (Nat.le_refl _) _⟩
        rw [blk_set HH.out x (.int .i64 3)]
        simp [ints, ivs]
      case measure => simp [intOf]
    · have hbd := ivs_bd [a0, a1, a2, a3] 4 (by omega)
      obtain ⟨o0, o1, o2, o3, ho⟩ := four hlen
      rw [ho] at hb hbd
      have HO := Lib.hid ho
      have c10 : wr.cell? ⟨w.heap.size, 0, none⟩ = some (.int .i64 o0) := blk_cell hb 0
      have c11 : wr.cell? ⟨w.heap.size, 1, none⟩ = some (.int .i64 o1) := blk_cell hb 1
      have c12 : wr.cell? ⟨w.heap.size, 2, none⟩ = some (.int .i64 o2) := blk_cell hb 2
      have c13 : wr.cell? ⟨w.heap.size, 3, none⟩ = some (.int .i64 o3) := blk_cell hb 3
      have HI := Lib.hid (indexOf_calls [o0, o1, o2, o3] rfl hbd wr)
      have HB := Lib.hid hB
      clear hb hB hlen ho hbd
      go_wp2_with fail
      refine HI.out.mono ?_
      rintro e w2 ⟨rfl, hb2⟩
      go_wp2
      go_ret
      exact ⟨by rw [HO.out]; rfl, below_step HB.out hb2⟩
/-- The image of f under the permutation p. -/
def pm (p f : Int) : Int := (pmL p).getD f.toNat 0
set_option maxHeartbeats 1000000 in
set_option maxRecDepth 100000 in
theorem target_calls (t p f : Int) (h0 : 0 ≤ p) (h1 : p < 24) (hf0 : 0 ≤ f) (hf1 : f < 4) (w : World) :
    Calls Try.prog 155 #[.agg #[.int .i64 t, .int .i64 p], .int .i64 f] w fun e w' => e = .returned (.int .i64 (pm p f)) ∧ Below w.heap.size w w' := by
  have hpm := pmL_bd p h0 h1
  unfold pm
  have HP := Lib.hid (fun W => perm_calls p h0 h1 W)
  generalize pmL p = l at *
  obtain ⟨a0, a1, a2, a3, rfl⟩ := four hpm.1
  obtain ⟨i0, i1, i2, i3⟩ := index120 a0 a1 a2 a3
  replace HP : Hid (∀ W : World, Calls Try.prog 158 #[.int .i64 p] W fun e w' => e = .returned (.agg #[.int .i64 a0, .int .i64 a1, .int .i64 a2, .int .i64 a3]) ∧ Below W.heap.size W w') := HP
  clear hpm
  have hcase : f = 0 ∨ f = 1 ∨ f = 2 ∨ f = 3 := by omega
  rcases hcase with rfl | rfl | rfl | rfl
  all_goals
    go_enter Try.func155, Try.ntmps155
    go_wp2_with fail
    refine (HP.out _).mono ?_
    rintro e w1 ⟨rfl, hb1⟩
    go_wp2
    go_ret
    exact ⟨rfl, (below_alloc (Below.refl _ _) _).trans (hb1.mono (by simp))⟩
end Go.Proofs.Ytibkopejnhihkaa.Core
