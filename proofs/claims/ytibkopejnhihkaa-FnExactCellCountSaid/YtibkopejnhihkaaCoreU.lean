import Derived.Test.YtibkopejnhihkaaCore
import Derived.Test.YtibkopejnhihkaaWMore
import Derived.Test.YtibkopejnhihkaaWKept
import Derived.WalkKit
import Derived.LoopTactic
import Derived.Deep.LoopGhost
import Derived.Deep.QuietTactic
import Derived.BigQuiet
import Derived.Deep.RegionHeld3
import Derived.Lib.Hide
import Derived.Deep.DeepMust
import Derived.Maps.OwnSet
import Derived.Maps.OwnOps
import Derived.Maps.Views
import Derived.Carry
namespace Go.Proofs.Ytibkopejnhihkaa.Core
set_option linter.unusedVariables false
set_option linter.unusedSimpArgs false
open Go.RowKit Go.Sort Go.Proofs.YtibkopejnhihkaaW.PrintWords
/-! union -/
/-- Every element hi turned into lo. -/
def turnL (hi lo : Int) (l : List Int) : List Int := l.map fun x => if x = hi then lo else x
/-- .. of the first j elements. -/
def turnTo (hi lo : Int) (l : List Int) (j : Nat) : List Int := turnL hi lo (l.take j) ++ l.drop j
theorem turnTo_len (hi lo : Int) (l : List Int) (j : Nat) : (turnTo hi lo l j).length = l.length := by
  simp [turnTo, turnL]; omega
theorem turnTo_get (hi lo : Int) (l : List Int) (j : Nat) (hj : j < l.length) : (turnTo hi lo l j).getD j 0 = l.getD j 0 := by
  simp only [turnTo, turnL, List.getD_eq_getElem?_getD]
  rw [List.getElem?_append_right (by simp; omega)]
  simp only [List.length_map, List.length_take, List.getElem?_drop]
  congr 2
  omega
theorem turnTo_yes (hi lo : Int) (l : List Int) (j : Nat) (hj : j < l.length) (h : l.getD j 0 = hi) : turnTo hi lo l (j + 1) = (turnTo hi lo l j).set j lo := by
  have e : l[j] = hi := by simpa [hj] using h
  unfold turnTo turnL
  rw [List.take_succ_eq_append_getElem hj, List.map_append, List.append_assoc, List.set_append_right _ _ (by simp; omega)]
  congr 1
  have hm : min j l.length = j := by omega
  simp only [List.length_map, List.length_take, hm, Nat.sub_self, List.map_cons, List.map_nil, e, if_true]
  rw [List.drop_eq_getElem_cons hj]
  rfl
theorem turnTo_no (hi lo : Int) (l : List Int) (j : Nat) (hj : j < l.length) (h : ¬ l.getD j 0 = hi) : turnTo hi lo l (j + 1) = turnTo hi lo l j := by
  have e : ¬ l[j] = hi := by simpa [hj] using h
  unfold turnTo turnL
  rw [List.take_succ_eq_append_getElem hj, List.map_append, List.append_assoc]
  congr 1
  simp only [List.map_cons, List.map_nil, e, if_false]
  rw [List.drop_eq_getElem_cons hj]
  rfl
theorem turnTo_all (hi lo : Int) (l : List Int) : turnTo hi lo l l.length = turnL hi lo l := by simp [turnTo]
def unionL (l : List Int) (i k : Nat) : List Int := turnL (l.getD k 0) (l.getD i 0) l
theorem own_cell (n g cap base : Nat) (ok : Nat → Prop) (W : World) (x : List Int) (j : Nat) (hx : x.length = n) (hj : j < n) (hR : Kd.R (Kd.int .i64) 2 W base ok (.slice (some ⟨g, 0, none⟩) n cap) x) : W.cell? ⟨g, j, none⟩ = some (.int .i64 (x.getD j 0)) := by
  obtain ⟨h1, _, h3⟩ := Kd.R_reads' hR
  obtain ⟨ad, e, hc⟩ := Kd.at_int h3 j (by omega) (by omega)
  injection e with e
  subst e
  simpa [Addr.add_lit, rd] using hc
theorem own_free (n g cap base : Nat) (ok : Nat → Prop) (W : World) (x : List Int) (j : Nat) (hR : Kd.R (Kd.int .i64) 2 W base ok (.slice (some ⟨g, 0, none⟩) n cap) x) (hx : 0 < x.length) : W.frozen? ⟨g, j, none⟩ = false := by
  obtain ⟨g', c', e, _, _, cells, hcs⟩ := Kd.R_form hR hx
  injection e with e _ _
  injection e with e
  injection e with e _ _
  subst e
  exact blk_frozen hcs j
set_option maxHeartbeats 1000000 in
set_option maxRecDepth 100000 in
theorem union_calls (l : List Int) (i k g cap : Nat) (hi : i < l.length) (hk : k < l.length) (base : Nat) (ok : Nat → Prop) (w : World)
    (ho : Kd.R (Kd.int .i64) 2 w base ok (.slice (some ⟨g, 0, none⟩) l.length cap) l) :
    Calls Try.prog 120 #[.slice (some ⟨g, 0, none⟩) l.length cap, .int .i64 i, .int .i64 k] w fun e w' =>
      e = .returned (.tuple #[]) ∧ Kd.R (Kd.int .i64) 2 w' base ok (.slice (some ⟨g, 0, none⟩) l.length cap) (unionL l i k) ∧ w.grownBy w' (some g) := by
  have hlen : l.length ≤ 9223372036854775807 := (Kd.R_reads' ho).2.2.2.1
  have HC := Lib.hid (own_cell l.length g cap base ok)
  have HF := Lib.hid (own_free l.length g cap base ok)
  have c1 := HC.out w l i rfl hi ho
  have c2 := HC.out w l k rfl hk ho
  unfold unionL
  generalize hlo : l.getD i 0 = lo at *
  generalize hhi : l.getD k 0 = hh at *
  have HO := Lib.hid ho
  clear ho hlo hhi
  go_enter Try.func120, Try.ntmps120
  go_wp2
  go_quiet (fail)
  go_wp2_with fail
  go_loopw [20] (fun j wr => ∃ n : Nat, n ≤ l.length ∧ j = .int .i64 n ∧ Kd.R (Kd.int .i64) 2 wr base ok (.slice (some ⟨g, 0, none⟩) l.length cap) (turnTo hh lo l n) ∧ w.grownBy wr (some g)) (fun j _ => l.length - (intOf j).toNat)
  case atStart => exact ⟨0, by omega, rfl, by first | exact HO.out | exact Kd.R_drewN HO.out _, ⟨rfl, rfl, rfl, Nat.le_refl _, fun _ _ _ => rfl⟩⟩
  case round =>
    obtain ⟨n, hn, rfl, hR, hG⟩ := hrel
    by_cases hlt : n < l.length
    · have ht := turnTo_len hh lo l n
      have hg := turnTo_get hh lo l n hlt
      have cc := HC.out wr _ n ht hlt hR
      have ff := HF.out wr _ n hR (by omega)
      rw [hg] at cc
      have hyes := turnTo_yes hh lo l n hlt
      have hno := turnTo_no hh lo l n hlt
      have hput := Kd.R_putg hR (n : Int) lo
      generalize l.getD n 0 = y at *
      have HR := Lib.hid hR
      have HG := Lib.hid hG
      have HY := Lib.hid hyes
      have HN := Lib.hid hno
      have HP := Lib.hid hput
      clear hR hG hyes hno hput hg ht
      by_cases hy : y = hh
      · have hyb : (y == hh) = true := by simpa using hy
        have HYY := Lib.hid hy
        clear hy
        go_wp2
        go_roundw
        case rel => exact ⟨n + 1, by omega, by go_num, by rw [HY.out HYY.out]; exact HP.out.1, HG.out.trans HP.out.2⟩
        case measure => simp [intOf]; omega
      · have hyb : (y == hh) = false := by simpa using hy
        have HYY := Lib.hid hy
        clear hy
        go_wp2
        go_roundw
        case rel => exact ⟨n + 1, by omega, by go_num, by rw [HN.out HYY.out]; exact HR.out, HG.out⟩
        case measure => simp [intOf]; omega
    · obtain rfl : n = l.length := by omega
      have HR := Lib.hid hR
      have HG := Lib.hid hG
      clear hR hG
      go_wp2
      go_end0
      exact ⟨rfl, by rw [← turnTo_all]; exact HR.out, HG.out⟩
/-! spec.l08Join -/
def joinL (l : List Int) (i k : Nat) : List Int := turnL (max (l.getD i 0) (l.getD k 0)) (min (l.getD i 0) (l.getD k 0)) l
set_option maxHeartbeats 1000000 in
set_option maxRecDepth 100000 in
theorem join_calls (l : List Int) (i k g cap : Nat) (hi : i < l.length) (hk : k < l.length) (base : Nat) (ok : Nat → Prop) (w : World)
    (ho : Kd.R (Kd.int .i64) 2 w base ok (.slice (some ⟨g, 0, none⟩) l.length cap) l) :
    Calls Try.prog 109 #[.slice (some ⟨g, 0, none⟩) l.length cap, .int .i64 i, .int .i64 k] w fun e w' =>
      e = .returned (.tuple #[]) ∧ Kd.R (Kd.int .i64) 2 w' base ok (.slice (some ⟨g, 0, none⟩) l.length cap) (joinL l i k) ∧ w.grownBy w' (some g) := by
  have hlen : l.length ≤ 9223372036854775807 := (Kd.R_reads' ho).2.2.2.1
  have HC := Lib.hid (own_cell l.length g cap base ok)
  have HF := Lib.hid (own_free l.length g cap base ok)
  have c1 := HC.out w l i rfl hi ho
  have c2 := HC.out w l k rfl hk ho
  unfold joinL
  generalize l.getD i 0 = x at *
  generalize l.getD k 0 = y at *
  obtain ⟨lo, hlo⟩ : ∃ lo, min x y = lo := ⟨_, rfl⟩
  obtain ⟨hh, hhi⟩ : ∃ hh, max x y = hh := ⟨_, rfl⟩
  rw [hlo, hhi]
  have HO := Lib.hid ho
  clear ho
  go_enter Try.func109, Try.ntmps109
  go_wp2
  go_quiet (fail)
  go_wp2_with fail
  go_quiet (fail)
  go_wp2_with fail
  go_loopw [8] (fun j wr => ∃ n : Nat, n ≤ l.length ∧ j = .int .i64 n ∧ Kd.R (Kd.int .i64) 2 wr base ok (.slice (some ⟨g, 0, none⟩) l.length cap) (turnTo hh lo l n) ∧ w.grownBy wr (some g)) (fun j _ => l.length - (intOf j).toNat)
  case atStart => exact ⟨0, by omega, rfl, Kd.R_drewN (Kd.R_drewN HO.out _) _, ⟨rfl, rfl, rfl, Nat.le_refl _, fun _ _ _ => rfl⟩⟩
  case round =>
    clear hlo hhi
    obtain ⟨n, hn, rfl, hR, hG⟩ := hrel
    by_cases hlt : n < l.length
    · have ht := turnTo_len hh lo l n
      have hg := turnTo_get hh lo l n hlt
      have cc := HC.out wr _ n ht hlt hR
      have ff := HF.out wr _ n hR (by omega)
      rw [hg] at cc
      have hyes := turnTo_yes hh lo l n hlt
      have hno := turnTo_no hh lo l n hlt
      have hput := Kd.R_putg hR (n : Int) lo
      generalize l.getD n 0 = y at *
      have HR := Lib.hid hR
      have HG := Lib.hid hG
      have HY := Lib.hid hyes
      have HN := Lib.hid hno
      have HP := Lib.hid hput
      clear hR hG hyes hno hput hg ht
      by_cases hy : y = hh
      · have hyb : (y == hh) = true := by simpa using hy
        have HYY := Lib.hid hy
        clear hy
        go_wp2
        go_roundw
        case rel => exact ⟨n + 1, by omega, by go_num, by rw [HY.out HYY.out]; exact HP.out.1, HG.out.trans HP.out.2⟩
        case measure => simp [intOf]; omega
      · have hyb : (y == hh) = false := by simpa using hy
        have HYY := Lib.hid hy
        clear hy
        go_wp2
        go_roundw
        case rel => exact ⟨n + 1, by omega, by go_num, by rw [HN.out HYY.out]; exact HR.out, HG.out⟩
        case measure => simp [intOf]; omega
    · obtain rfl : n = l.length := by omega
      have HR := Lib.hid hR
      have HG := Lib.hid hG
      clear hR hG
      go_wp2
      go_end0
      exact ⟨rfl, by rw [← turnTo_all]; exact HR.out, HG.out⟩
/-! counting, numbered -/
def cntL (n : Nat) : List Int := (List.range n).map fun (i : Nat) => (i : Int)
theorem cntL_succ (n : Nat) : cntL (n + 1) = cntL n ++ [(n : Int)] := by simp [cntL, List.range_succ]
theorem cntL_len (n : Nat) : (cntL n).length = n := by simp [cntL]
theorem infoI : (Try.prog.info? 2).map (fun i => (i.zero, i.size, i.bytes)) = some (some (.int .i64 0), 1, 8) := by kernel_rfl
set_option maxHeartbeats 1000000 in
set_option maxRecDepth 100000 in
theorem counting_calls (n : Nat) (hn : n ≤ 100000) (w : World) :
    Calls Try.prog 97 #[.int .i64 n] w fun e w' => ∃ v : Value, e = .returned v ∧ Kd.R (Kd.int .i64) 2 w' w.heap.size (fun _ => True) v (cntL n) ∧ Below w.heap.size w w' := by
  go_enter Try.func97, Try.ntmps97
  go_wp2
  go_loopw [3, 6] (fun v i wr => ∃ k : Nat, k ≤ n ∧ i = .int .i64 k ∧ Kd.R (Kd.int .i64) 2 wr w.heap.size (fun _ => True) v (cntL k) ∧ Below w.heap.size w wr) (fun _ i _ => n - (intOf i).toNat)
  case atStart => exact ⟨0, by omega, rfl, by exact Kd.R_nil (Kd.int .i64) 2 _ _ _, Below.refl _ _⟩
  case round =>
    obtain ⟨k, hk, rfl, hR, hB⟩ := hrel
    have hl := cntL_len k
    by_cases hlt : k < n
    · go_wp2_with ((with_reducible refine gate_builtin (b := .append) (xs := #[.tmp 9, .tmp 11]) rfl ?_); at_builtin; go_must (refine Kd.R_append (Kd.int .i64) (w0 := w) w.heap.size rfl (.tmp 9) (.tmp 11) 36 2 (.int .i64 0) 8 rfl Try.underlying36 infoI rfl (by decide) (by omega) u3 (cntL k) k [.int .i64 k] (fun _ => True) (fun _ => False) rfl rfl rfl (fun _ hk => hk.elim) (fun _ _ => trivial) hR hB hB.size (by omega) ?_); intro v1 w1 ho hb hg hat; have HO := Lib.hid ho; have HB := Lib.hid hb; clear ho hb hg hat hR hB)
      go_roundw
      case rel => exact ⟨k + 1, by omega, by go_num, by rw [cntL_succ]; exact HO.out, HB.out⟩
      case measure => simp [intOf]; omega
    · obtain rfl : k = n := by omega
      have HR := Lib.hid hR
      have HB := Lib.hid hB
      clear hR hB
      go_wp2
      go_ret
      exact ⟨_, rfl, HR.out, HB.out⟩
/-- numbered: the numbers met so far, in their order; each element's own number. -/
def nstep (s : List Int × List Int) (x : Int) : List Int × List Int := if x ∈ s.1 then (s.1, s.2 ++ [(s.1.idxOf x : Int)]) else (s.1 ++ [x], s.2 ++ [(s.1.length : Int)])
def nst (l : List Int) : List Int × List Int := l.foldl nstep ([], [])
def numL (l : List Int) : List Int := (nst l).2
theorem nst_snoc (l : List Int) (x : Int) : nst (l ++ [x]) = nstep (nst l) x := by simp [nst, List.foldl_append]
theorem nst_len2 (l : List Int) : (nst l).2.length = l.length := by
  have key : ∀ (l : List Int) (s : List Int × List Int), (l.foldl nstep s).2.length = s.2.length + l.length := by
    intro l
    induction l with
    | nil => intro s; rfl
    | cons x l ih =>
      intro s
      rw [List.foldl_cons, ih]
      unfold nstep
      split <;> simp <;> omega
  have := key l ([], [])
  simpa [nst] using this
theorem nst_len1 (l : List Int) : (nst l).1.length ≤ l.length := by
  have key : ∀ (l : List Int) (s : List Int × List Int), (l.foldl nstep s).1.length ≤ s.1.length + l.length := by
    intro l
    induction l with
    | nil => intro s; exact Nat.le_refl _
    | cons x l ih =>
      intro s
      rw [List.foldl_cons]
      refine Nat.le_trans (ih _) ?_
      unfold nstep
      split <;> simp <;> omega
  have := key l ([], [])
  simpa [nst] using this
open Go.Maps in
structure MapIs (D : DataW Unit) (fs : List Int) : Prop where
  tidy : Tidy D
  has : ∀ x, Maps.has D (.int .i64 x) = decide (x ∈ fs)
  at_ : ∀ x, x ∈ fs → D.atKey (.int .i64 x) (.lit (.int .i64 0)) = .lit (.int .i64 (fs.idxOf x : Nat))
  size : Maps.size D = fs.length
open Go.Maps in
theorem mapIs_nil : MapIs (.map []) [] := ⟨tidy_empty, fun x => by simp [has_eq], fun x h => by simp at h, rfl⟩
open Go.Maps in
theorem MapIs.put {D : DataW Unit} {fs : List Int} (h : MapIs D fs) {x : Int} (hx : x ∉ fs) (hk : WideAt.IsKeyLit (.int .i64 x)) : MapIs (D.put (.int .i64 x) (.lit (.int .i64 (fs.length : Nat)))) (fs ++ [x]) := by
  refine ⟨h.tidy.put hk _, fun y => ?_, fun y hy => ?_, ?_⟩
  · by_cases e : y = x
    · subst e; rw [has_put_same h.tidy.isMap hk]; simp
    · rw [has_put_other (by intro e'; injection e' with _ e'; exact e e'), h.has]; simp [e]
  · by_cases e : y = x
    · subst e; rw [atKey_put_same h.tidy.isMap hk, List.idxOf_append, if_neg hx]; simp
    · have hy' : y ∈ fs := by simpa [e] using hy
      rw [atKey_put_other (by intro e'; injection e' with _ e'; exact e e'), h.at_ y hy', List.idxOf_append, if_pos hy']
  · rw [size_put h.tidy, h.has]; simp [hx, h.size]
theorem lawI : Go.Maps.Keyed Try.prog 2 := Go.Maps.int_keyed Try.underlying2
theorem isKey (x : Int) : WideAt.IsKeyLit (.int .i64 x) := by trivial
set_option maxHeartbeats 1000000 in
set_option maxRecDepth 100000 in
open Go.Maps in
theorem numbered_calls (A : Option Addr) (c : Nat) (l : List Int) (w : World) (hr : Kd.C (Kd.int .i64) w A l.length l) (hl : l.length ≤ 100000) (hb : ∀ x ∈ l, 0 ≤ x ∧ x ≤ 100000) :
    Calls Try.prog 122 #[.slice A l.length c] w fun e w' => ∃ v : Value, e = .returned v ∧ Kd.R (Kd.int .i64) 2 w' w.heap.size (fun _ => True) v (numL l) ∧ Below w.heap.size w w' := by
  have hmm := @run_makeMap Try.prog
  go_enter Try.func122, Try.ntmps122
  go_wp2
  go_loopw [4, 12] (fun v i wr => ∃ k : Nat, k ≤ l.length ∧ i = .int .i64 k ∧ (∃ D : DataW Unit, MapIs D (nst (l.take k)).1 ∧ wr.ownsMap Try.prog 2 (plainElem Try.prog 2) w.heap.size k D) ∧ Kd.R (Kd.int .i64) 2 wr w.heap.size (fun b => b ≠ w.heap.size) v (nst (l.take k)).2 ∧ Below w.heap.size w wr ∧ w.heap.size < wr.heap.size) (fun _ i _ => l.length - (intOf i).toNat)
  case atStart => exact ⟨0, by omega, rfl, ⟨_, mapIs_nil, World.ownsMap_made _ _ _ _⟩, by exact Kd.R_nil (Kd.int .i64) 2 _ _ _, below_alloc (Below.refl _ _) _, by simp⟩
  case round =>
    obtain ⟨k, hk, rfl, ⟨D, hD, hown⟩, hR, hB, hz⟩ := hrel
    by_cases hlt : k < l.length
    · have hlen := nst_len1 (l.take k)
      have hlen2 := nst_len2 (l.take k)
      rw [List.length_take_of_le hk] at hlen hlen2
      have htk : l.take (k + 1) = l.take k ++ [rd l k] := by
        rw [List.take_succ_eq_append_getElem hlt]; simp [rd, hlt]
      have hst : nst (l.take (k + 1)) = nstep (nst (l.take k)) (rd l k) := by rw [htk, nst_snoc]
      have hbx : 0 ≤ rd l k ∧ rd l k ≤ 100000 := hb _ (by simp [rd, hlt])
      have hwf : (Lit.int .i64 (rd l k)).wf = true := WalkArith.wf_i64 (by omega)
      have hkey : keyOf Try.prog 2 (.int .i64 (rd l k)) = some (.int .i64 (rd l k)) := keyOf_int_mk Try.underlying2 hwf
      obtain ⟨ad, rfl, hcell⟩ := Kd.at_int (Kd.C_below hr hB) (k : Int) (by omega) (by omega)
      rw [Int.toNat_natCast] at hcell
      have hidx : ∀ fs : List Int, (fs.idxOf (rd l k)) ≤ fs.length := fun fs => List.idxOf_le_length
      generalize rd l k = x at *
      generalize nst (l.take k) = st at *
      obtain ⟨fs, out⟩ := st
      dsimp only at hlen hlen2 hD hR hst
      have hne : ∀ v : Value, Kd.R (Kd.int .i64) 2 wr w.heap.size (fun b => b ≠ w.heap.size) v out → some w.heap.size ≠ v.ownBlock := fun v h e => (h.1 _ e.symm) rfl
      have hne2 := hne _ hR
      by_cases hx : x ∈ fs
      · have hhas : Maps.has D (.int .i64 x) = true := by rw [hD.has]; simpa using hx
        have hat0 := hD.at_ x hx
        rw [show nstep (fs, out) x = (fs, out ++ [(fs.idxOf x : Int)]) from if_pos hx] at hst
        have HS := Lib.hid hst
        have HD := Lib.hid hD
        have HA := Lib.hid hat0
        have HO := Lib.hid hown
        have HR := Lib.hid hR
        have HB := Lib.hid hB
        have HZ := Lib.hid hz
        have HN := Lib.hid hne2
        clear hst hD hat0 hown hR hB hz hx hne hr hidx htk hne2 hb
        go_wp2_with (first | (at_lookup; refine wpList_lookup_own_ok_int _ rfl _ _ 150 rfl 2 2 .i64 lawI Try.underlying150 Try.underlying2 (zero2 _) w.heap.size k D rfl HO.out _ _ rfl hkey ?_; intro c hat hwc; clear hat hwc) | (at_lookup; refine wpList_lookup_own_int _ rfl _ _ 150 rfl 2 2 .i64 lawI Try.underlying150 Try.underlying2 (zero2 _) w.heap.size k D rfl HO.out _ _ rfl hkey ?_; intro c2 hat2 hwc2; obtain rfl : c2 = (fs.idxOf x : Nat) := (by have e := HA.out.symm.trans hat2; injection e with e; injection e with _ e; exact e.symm); clear hat2 hwc2) | ((with_reducible refine gate_builtin (b := .append) (xs := #[.tmp 28, .tmp 32]) rfl ?_); at_builtin; go_must (refine Kd.R_append (Kd.int .i64) (w0 := w) w.heap.size rfl (.tmp 28) (.tmp 32) 36 2 (.int .i64 0) 8 rfl Try.underlying36 infoI rfl (by decide) (by omega) u4 out (fs.idxOf x : Nat) [.int .i64 (fs.idxOf x : Nat)] (fun b => b ≠ w.heap.size) (fun _ => False) rfl rfl rfl (fun _ hk => hk.elim) (fun b hb => by have := HZ.out; omega) HR.out HB.out HB.out.size (by omega) ?_); intro v1 w1 ho hb hg hat; have HO1 := Lib.hid ho; have HB1 := Lib.hid hb; have HM1 := Lib.hid (HO.out.kept hg HN.out); have HZ1 := Lib.hid hg.size; clear ho hb hg hat))
        go_roundw
        case rel => exact ⟨k + 1, by omega, by go_num, ⟨D, by rw [HS.out]; exact HD.out, HM1.out.mono (by omega)⟩, by rw [HS.out]; exact HO1.out, HB1.out, Nat.lt_of_lt_of_le HZ.out HZ1.out⟩
        case measure => simp [intOf]; omega
      · have hhas : Maps.has D (.int .i64 x) = false := by rw [hD.has]; simpa using hx
        have hsz := hD.size
        have hput := hD.put hx (isKey x)
        have hnewat : (D.put (.int .i64 x) (.lit (.int .i64 (fs.length : Nat)))).atKey (.int .i64 x) (.lit (.int .i64 0)) = .lit (.int .i64 (fs.length : Nat)) := by
          have := hput.at_ x (by simp)
          rw [List.idxOf_append, if_neg hx] at this
          simpa using this
        rw [show nstep (fs, out) x = (fs ++ [x], out ++ [(fs.length : Int)]) from if_neg hx] at hst
        have hwl : (Lit.int .i64 (fs.length : Nat)).wf = true := WalkArith.wf_i64 (by omega)
        have HS := Lib.hid hst
        have HP := Lib.hid hput
        have HA := Lib.hid hnewat
        have HO := Lib.hid hown
        have HR := Lib.hid hR
        have HB := Lib.hid hB
        have HZ := Lib.hid hz
        clear hst hput hnewat hown hR hB hz hx hr hidx htk hne2 hb hD
        have HNE := Lib.hid hne
        clear hne
        go_wp2_with (first | (at_lookup; refine wpList_lookup_own_ok_int _ rfl _ _ 150 rfl 2 2 .i64 lawI Try.underlying150 Try.underlying2 (zero2 _) w.heap.size k D rfl HO.out _ _ rfl hkey ?_; intro c hat hwc; clear hat hwc) | (at_len; refine wpList_len_own _ rfl _ 150 rfl 2 2 Try.underlying150 _ w.heap.size k D rfl HO.out ?_; rw [hsz]) | (at_mapUpdate; go_must (refine wpList_mapUpdate_own _ rfl _ _ _ 150 rfl 2 2 lawI Try.underlying150 _ w.heap.size k _ rfl HO.out (by unfold maxLen; omega) _ (.int .i64 (fs.length : Nat)) _ rfl rfl hkey _ [] (plainElem_int Try.underlying2 hwl) ?_); intro w1 hown1 hgrow1; have HO1 := Lib.hid hown1; have HR1 := Lib.hid (Kd.R_grown HR.out hgrow1 (fun b hb e => hb (by injection e))); have HB1 := Lib.hid (HB.out.grown hgrow1 HB.out.size (fun j hj => by cases hj; exact Nat.le_refl _)); have HZ1 := Lib.hid (Nat.lt_of_lt_of_le HZ.out hgrow1.size); have HN1 := Lib.hid (show some w.heap.size ≠ (u4 : Value).ownBlock from fun e => ((HR1.out).1 _ e.symm) rfl); clear hown1 hgrow1) | (at_lookup; refine wpList_lookup_own_int _ rfl _ _ 150 rfl 2 2 .i64 lawI Try.underlying150 Try.underlying2 (zero2 _) w.heap.size (k + 1) _ rfl HO1.out _ _ rfl hkey ?_; intro c2 hat2 hwc2; obtain rfl : c2 = (fs.length : Nat) := (by have e := HA.out.symm.trans hat2; injection e with e; injection e with _ e; exact e.symm); clear hat2 hwc2) | ((with_reducible refine gate_builtin (b := .append) (xs := #[.tmp 28, .tmp 32]) rfl ?_); at_builtin; go_must (refine Kd.R_append (Kd.int .i64) (w0 := w) w.heap.size rfl (.tmp 28) (.tmp 32) 36 2 (.int .i64 0) 8 rfl Try.underlying36 infoI rfl (by decide) (by omega) u4 out (fs.length : Nat) [.int .i64 (fs.length : Nat)] (fun b => b ≠ w.heap.size) (fun _ => False) rfl rfl rfl (fun _ hk => hk.elim) (fun b hb => by have := HZ1.out; omega) HR1.out HB1.out HB1.out.size (by omega) ?_); intro v1 w2 ho hb hg hat; have HO2 := Lib.hid ho; have HB2 := Lib.hid hb; have HM2 := Lib.hid (HO1.out.kept hg HN1.out); have HZ2 := Lib.hid hg.size; clear ho hb hg hat))
        go_roundw
        case rel => exact ⟨k + 1, by omega, by go_num, ⟨_, by rw [HS.out]; exact HP.out, HM2.out⟩, by rw [HS.out]; exact HO2.out, HB2.out, Nat.lt_of_lt_of_le HZ1.out HZ2.out⟩
        case measure => simp [intOf]; omega
    · obtain rfl : k = l.length := by omega
      rw [List.take_length] at hR
      have HR := Lib.hid hR
      have HB := Lib.hid hB
      clear hR hB hD hown hr hb
      go_wp2
      go_ret
      exact ⟨_, rfl, Kd.R_mono HR.out (fun _ _ => trivial), HB.out⟩
/-! ends, edge -/
def endA (e : Int) : Int := [0, 0, 0, 1, 1, 2].getD e.toNat 0
def endB (e : Int) : Int := [1, 2, 3, 2, 3, 3].getD e.toNat 0
/-- The edge between two different vertices. -/
def edgeN (a b : Int) : Int := if a < b then [0, 0, 1, 2, 0, 0, 3, 4, 0, 0, 0, 5].getD (4 * a + b).toNat 0 else [0, 0, 1, 2, 0, 0, 3, 4, 0, 0, 0, 5].getD (4 * b + a).toNat 0
set_option maxHeartbeats 1000000 in
set_option maxRecDepth 100000 in
theorem ends_calls (e : Int) (h0 : 0 ≤ e) (h1 : e < 6) (w : World) :
    Calls Try.prog 119 #[.int .i64 e] w fun en w' => en = .returned (.tuple #[.int .i64 (endA e), .int .i64 (endB e)]) ∧ w = w' := by
  have hc : e = 0 ∨ e = 1 ∨ e = 2 ∨ e = 3 ∨ e = 4 ∨ e = 5 := by omega
  rcases hc with rfl | rfl | rfl | rfl | rfl | rfl
  all_goals
    go_enter Try.func119, Try.ntmps119
    go_wp2
    refine wp_loop_rounds 3 ?_
    repeat (rw [rounds_succ]; go_wp2)
    go_ret2
    exact ⟨rfl, rfl⟩
set_option maxHeartbeats 2000000 in
set_option maxRecDepth 100000 in
theorem edge_calls (a b : Int) (ha0 : 0 ≤ a) (ha1 : a < 4) (hb0 : 0 ≤ b) (hb1 : b < 4) (hab : a ≠ b) (w : World) :
    Calls Try.prog 121 #[.int .i64 a, .int .i64 b] w fun en w' => en = .returned (.int .i64 (edgeN a b)) ∧ w = w' := by
  have hca : a = 0 ∨ a = 1 ∨ a = 2 ∨ a = 3 := by omega
  have hcb : b = 0 ∨ b = 1 ∨ b = 2 ∨ b = 3 := by omega
  rcases hca with rfl | rfl | rfl | rfl <;> rcases hcb with rfl | rfl | rfl | rfl <;> first | exact absurd rfl hab | skip
  all_goals
    clear ha0 ha1 hb0 hb1 hab
    go_enter Try.func121, Try.ntmps121
    go_wp2
    go_ret
    exact ⟨rfl, rfl⟩
/-! glued -/
/-- A face as a pair: its tetrahedron, its permutation. -/
def FK : Kd (Int × Int) := Kd.pair (Kd.int .i64) (Kd.int .i64)
theorem at_face {w : World} {A : Option Addr} {n : Nat} {xs : List (Int × Int)} (h : Kd.C FK w A n xs) (i : Nat) (h1 : i < n) : ∃ ad, A = some ad ∧ w.cell? (ad.add (i * 2)) = some (.int .i64 (xs.getD i (0, 0)).1) ∧ w.cell? ⟨(ad.add (i * 2)).block, (ad.add (i * 2)).off + 1, none⟩ = some (.int .i64 (xs.getD i (0, 0)).2) := by
  obtain ⟨ad, c, e, _, hK, hc0⟩ := Kd.C_get h (0, 0) (i : Int) (by omega) (by omega)
  rw [Int.toNat_natCast] at hK hc0
  have hc : ∀ j u, c[j]? = some u → w.cell? (ad.add (i * 2 + j)) = some u := hc0
  obtain ⟨c0, c1, rfl, rfl, rfl⟩ := hK
  exact ⟨ad, e, hc 0 _ rfl, by rw [← add_field _ _ 1 (by omega)]; exact hc 1 _ rfl⟩
theorem at_row {w : World} {A : Option Addr} {n : Nat} {xs : List (List (Int × Int))} (h : Kd.C (Kd.slice 110 FK) w A n xs) (i : Nat) (h1 : i < n) : ∃ ad A0 c0, A = some ad ∧ w.cell? (ad.add i) = some (.slice A0 (xs.getD i []).length c0) ∧ (xs.getD i []).length ≤ c0 ∧ FK.C w A0 (xs.getD i []).length (xs.getD i []) := by
  obtain ⟨ad, c, e, _, hK, hc0⟩ := Kd.C_get h ([] : List (Int × Int)) (i : Int) (by omega) (by omega)
  rw [Int.toNat_natCast] at hK hc0
  have hc : ∀ j u, c[j]? = some u → w.cell? (ad.add (i * 1 + j)) = some u := hc0
  obtain ⟨A0, c0, rfl, l0, g0⟩ := hK
  exact ⟨ad, A0, c0, e, by have hq := hc 0 _ rfl; rwa [Nat.mul_one, Nat.add_zero] at hq, l0, g0⟩
/-- What a step for each glued face makes of s: the first f faces of a row; the first a tetrahedra. -/
def glF (step : List Int → Nat → Nat → Int × Int → List Int) (s : List Int) (a : Nat) (row : List (Int × Int)) : Nat → List Int
  | 0 => s
  | f + 1 => if (row.getD f (0, 0)).1 < 0 then glF step s a row f else step (glF step s a row f) a f (row.getD f (0, 0))
def glT (step : List Int → Nat → Nat → Int × Int → List Int) (s : List Int) (T : List (List (Int × Int))) : Nat → List Int
  | 0 => s
  | a + 1 => glF step (glT step s T a) a (T.getD a []) 4
/-- The faces of a triangulation, as far as the walk asks. -/
def Fine (T : List (List (Int × Int))) : Prop := T.length ≤ 8 ∧ ∀ a, a < T.length → (T.getD a []).length = 4 ∧ ∀ f, f < 4 → 0 ≤ ((T.getD a []).getD f (0, 0)).1 → ((T.getD a []).getD f (0, 0)).1 < T.length ∧ 0 ≤ ((T.getD a []).getD f (0, 0)).2 ∧ ((T.getD a []).getD f (0, 0)).2 < 24
set_option maxHeartbeats 1000000 in
set_option maxRecDepth 100000 in
theorem isBoundary_calls (x y : Int) (w : World) : Calls Try.prog 135 #[.agg #[.int .i64 x, .int .i64 y]] w fun e w' => e = .returned (.bool (decide (x < 0))) ∧ Below w.heap.size w w' := by
  go_enter Try.func135, Try.ntmps135
  go_wp2
  go_ret
  exact ⟨rfl, below_alloc (Below.refl _ _) _⟩
set_option maxHeartbeats 2000000 in
set_option maxRecDepth 100000 in
theorem glued_calls (T : List (List (Int × Int))) (hF : Fine T) (A : Option Addr) (c CL g : Nat) (cap : Array Value) (I : World → List Int → Prop) (step : List Int → Nat → Nat → Int × Int → List Int) (s : List Int) (w0 w : World) (hg : g < w.heap.size)
    (eg : ∀ args w, (callFunc CL args).run Try.prog w = .ok (.enter CL args) w)
    (hI : ∀ W W' s, I W s → Below W.heap.size W W' → I W' s) (hT : Kd.C (Kd.slice 110 FK) w0 A T.length T) (hB : ∀ W s, I W s → Below w0.heap.size w0 W)
    (hv : ∀ W s (a f : Nat) (x : Int × Int), I W s → a < T.length → f < 4 → (T.getD a []).getD f (0, 0) = x → 0 ≤ x.1 → Calls Try.prog CL (#[.int .i64 a, .int .i64 f, .agg #[.int .i64 x.1, .int .i64 x.2], .agg (ints (pmL x.2))] ++ cap) W fun e W' => e = .returned (.tuple #[]) ∧ I W' (step s a f x) ∧ W.grownBy W' (some g))
    (h0 : I w s) :
    Calls Try.prog 117 #[.agg #[.slice A T.length c], .func (.func CL) #[] cap] w fun e w' => e = .returned (.tuple #[]) ∧ I w' (glT step s T T.length) ∧ w.grownBy w' (some g) := by
  have H0 := Lib.hid h0
  have HI := Lib.hid hI
  have HT := Lib.hid hT
  have HB := Lib.hid hB
  have HV := Lib.hid hv
  have HF := Lib.hid hF
  have hn : T.length ≤ 8 := hF.1
  clear h0 hI hT hv hF hB
  go_enter Try.func117, Try.ntmps117
  go_wp2
  go_loopw [11] (fun i wr => ∃ k : Nat, k ≤ T.length ∧ i = .int .i64 k ∧ I wr (glT step s T k) ∧ w.grownBy wr (some g)) (fun i _ => T.length - (intOf i).toNat)
  case atStart => exact ⟨0, by omega, rfl, HI.out _ _ _ H0.out (below_alloc (Below.refl _ _) _), World.grownBy_alloc _ _ _⟩
  case round =>
    obtain ⟨k, hk, rfl, hIk, hG⟩ := hrel
    have HIk := Lib.hid hIk
    have HG := Lib.hid hG
    clear hIk hG H0
    by_cases hlt : k < T.length
    · obtain ⟨ad, A0, c0, rfl, hcell0, hc0, hrow⟩ := at_row HT.out k hlt
      have h4 := (HF.out.2 k hlt).1
      rw [h4] at hcell0 hrow hc0
      have hcell := pw_cell_below (HB.out _ _ HIk.out) hcell0
      have HRow := Lib.hid hrow
      clear hrow hcell0 h4
      go_wp2_with fail
      go_loopw [18] (fun j wi => ∃ m : Nat, m ≤ 4 ∧ j = .int .i64 m ∧ I wi (glF step (glT step s T k) k (T.getD k []) m) ∧ w.grownBy wi (some g)) (fun j _ => 4 - (intOf j).toNat)
      case atStart => exact ⟨0, by omega, rfl, HIk.out, HG.out⟩
      case round =>
        obtain ⟨m, hm, rfl, hIm, hGm⟩ := hrel
        have HIm := Lib.hid hIm
        have HGm := Lib.hid hGm
        clear hIm hGm hcell HIk HG
        by_cases hlt2 : m < 4
        · obtain ⟨ad2, rfl, hx1, hx2⟩ := at_face (Kd.C_below HRow.out (HB.out _ _ HIm.out)) m hlt2
          have hfin := (HF.out.2 k hlt).2 m hlt2
          have hvis := fun (W : World) (h : I W (glF step (glT step s T k) k (T.getD k []) m)) => HV.out W _ k m _ h hlt hlt2 rfl
          have hstep : glF step (glT step s T k) k (T.getD k []) (m + 1) = if ((T.getD k []).getD m (0, 0)).1 < 0 then glF step (glT step s T k) k (T.getD k []) m else step (glF step (glT step s T k) k (T.getD k []) m) k m ((T.getD k []).getD m (0, 0)) := rfl
          generalize hxx : (T.getD k []).getD m (0, 0) = x at *
          obtain ⟨t, p⟩ := x
          dsimp only at hx1 hx2 hfin hvis hstep
          clear hxx
          by_cases ht : t < 0
          · rw [if_pos ht] at hstep
            have htb : decide (t < 0) = true := by simpa using ht
            have HS := Lib.hid hstep
            clear hstep hvis hfin ht
            go_wp2_with fail
            refine (isBoundary_calls t p _).mono ?_
            rintro e w1 ⟨rfl, hb1⟩
            have HB1 := Lib.hid hb1
            clear hb1
            go_wp2
            go_roundw
            case rel => exact ⟨m + 1, by omega, by go_num, by rw [HS.out]; exact HI.out _ _ _ HIm.out ((below_alloc (Below.refl _ _) _).trans (HB1.out.mono (by simp))), HGm.out.trans ((World.grownBy_alloc _ _ _).trans (grown_of_below HB1.out _))⟩
            case measure => simp [intOf]; omega
          · rw [if_neg ht] at hstep
            have htb : decide (t < 0) = false := by simpa using ht
            have hpf := hfin (by omega)
            have HS := Lib.hid hstep
            have HVis := Lib.hid (fun W h => hvis W h (by omega))
            have HPerm := Lib.hid (fun W => perm_calls p hpf.2.1 hpf.2.2 W)
            clear hstep hvis hfin ht hpf
            go_wp2_with fail
            refine (isBoundary_calls t p _).mono ?_
            rintro e w1 ⟨rfl, hb1⟩
            have hc1 : w1.cell? ⟨wr.heap.size, 0, none⟩ = some (.int .i64 t) := pw_cell_below hb1 ((blk_cell (blk_new wr (.cells #[.int .i64 t, .int .i64 p] 110)) 0).trans rfl)
            have hc2 : w1.cell? ⟨wr.heap.size, 1, none⟩ = some (.int .i64 p) := pw_cell_below hb1 ((blk_cell (blk_new wr (.cells #[.int .i64 t, .int .i64 p] 110)) 1).trans rfl)
            have hB01 : Below wr.heap.size wr w1 := (below_alloc (Below.refl _ _) _).trans (hb1.mono (by simp))
            have HI1 := Lib.hid (HI.out _ _ _ HIm.out hB01)
            have HG1 := Lib.hid (HGm.out.trans (grown_of_below hB01 _))
            have hgB : g ≠ wr.heap.size := by have := HGm.out.size; omega
            have HGB := Lib.hid hgB
            clear hb1 hB01 hgB hx1 hx2
            go_wp2_with fail
            go_region_held3 (fun W => W.cell? ⟨wr.heap.size, 0, none⟩ = some (.int .i64 t) ∧ W.cell? ⟨wr.heap.size, 1, none⟩ = some (.int .i64 p)) (first | (exact ⟨pw_cell_below (by assumption) (by assumption), pw_cell_below (by assumption) (by assumption)⟩) | (exact (fun (h : w2.cell? ⟨wr.heap.size, 0, none⟩ = some (.int .i64 t) ∧ w2.cell? ⟨wr.heap.size, 1, none⟩ = some (.int .i64 p)) => ⟨World.grownBy.cell hg3 h.1 (fun e => HGB.out (by injection e with e; exact e.symm)), World.grownBy.cell hg3 h.2 (fun e => HGB.out (by injection e with e; exact e.symm))⟩) (by assumption)) | go_keep) (first | (go_at_call 158; refine (HPerm.out _).mono ?_; rintro e w2 ⟨rfl, hb2⟩) | (refine (HVis.out w2 (HI.out _ _ _ (HI.out _ _ _ HI1.out ((Below.refl _ _).drew)) hb2)).mono ?_; rintro e w3 ⟨rfl, hi3, hg3⟩))
            go_wp2
            go_roundw
            case rel => exact ⟨m + 1, by omega, by go_num, by rw [HS.out]; exact hi3, HG1.out.trans ((show w1.grownBy w1.drew (some g) from ⟨rfl, rfl, rfl, Nat.le_refl _, fun _ _ _ => rfl⟩).trans ((grown_of_below hb2 _).trans hg3))⟩
            case measure => simp [intOf]; omega
        · obtain rfl : m = 4 := by omega
          go_wp2
          go_roundw
          case rel => exact ⟨k + 1, by omega, by go_num, HIm.out, HGm.out⟩
          case measure => simp [intOf]; omega
    · obtain rfl : k = T.length := by omega
      go_wp2
      go_end0
      exact ⟨rfl, HIk.out, HG.out⟩
end Go.Proofs.Ytibkopejnhihkaa.Core
