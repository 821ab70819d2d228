/- A part of the walk: what functions of the program do, over an abstract heap. -/
import Derived.Test.YtmoknllbpjpkmaaGreatV4
namespace Go.Proofs.YtmoknllbpjpkmaaGreat.Zed
open Go TP
set_option linter.unusedVariables false
set_option linter.unusedSimpArgs false
set_option maxRecDepth 20000
namespace tfV5
theorem tf : (Tryz.prog.underlying 25 = some (.slice 2)) ∧ (el Tryz.prog 25 = some (none, 1)) ∧ (Tryz.prog.underlying 37 = some (.slice 25)) ∧ (el Tryz.prog 37 = some (none, 1)) ∧ (tk Tryz.prog 2 = some none) ∧ (tk Tryz.prog 24 = some (some 1)) ∧ (tk Tryz.prog 25 = some none) ∧ (tk Tryz.prog 31 = some (some 1)) ∧ (cz Tryz.prog 2 = some 1) ∧ (bz Tryz.prog 2 = some 8) ∧ (cz Tryz.prog 25 = some 1) ∧ (bz Tryz.prog 25 = some 24) ∧ (zr Tryz.prog 2 = some (.int .i64 0)) ∧ (zr Tryz.prog 25 = some (.slice none 0 0)) ∧ (zr Tryz.prog 31 = some (.agg #[.slice none 0 0])) := by
  refine ⟨?_, ?_, ?_, ?_, ?_, ?_, ?_, ?_, ?_, ?_, ?_, ?_, ?_, ?_, ?_⟩ <;> kernel_rfl
end tfV5
open tfV5

set_option maxHeartbeats 8000000 in
theorem lawDecomposition_z {T : List (List (Int × Int))} (hS : Short T 9223372036854775807) (y : List Int) (hy : y.length ≤ 9223372036854775807) : ZCalls Tryz.prog 4 [zT T, zI y] (B true) := by
  by_cases hy1 : (y.length : Int) > 1048576
  · refine ZCalls.body Tryz.func4 rfl Tryz.ntmps4 (rs := [.tmp 4]) rfl (by simp) rfl fun H Q hQ A hA => ?_
    have a0 := hA 0 _ _ rfl
    have a1 := hA 1 _ _ rfl
    clear hA
    repeat' first | refine rnY ?_ | with_reducible refine And.intro (fun hc => ?_) (fun hc => ?_) | fail
    exact hQ.out _ _ (fv) (by exact exY)
  obtain ⟨s, h1, h2, h3, h4⟩ := szTriangulation_z hS
  by_cases hs : s < 0
  · refine ZCalls.body Tryz.func4 rfl Tryz.ntmps4 (rs := [.tmp 4]) rfl (by simp) rfl fun H Q hQ A hA => ?_
    have a0 := hA 0 _ _ rfl
    have a1 := hA 1 _ _ rfl
    clear hA
    repeat' first | refine rnY ?_ | (first | refine ZCalls.to (h4) ?_ | refine ZCalls.tf (h4) ?_) | with_reducible refine And.intro (fun hc => ?_) (fun hc => ?_) | fail
    exact hQ.out _ _ (fv) (by exact exY)
  · have hS' := h1 (by omega)
    have hy' : y.length ≤ 1048576 := by omega
    obtain ⟨L, c, him, hsp, hL, hLr⟩ := dec_both (T := T) hS'.1 y hy'
    have hr4 : ∀ r ∈ L, r.length ≤ 4000000000 := fun r hr => Nat.le_trans (hLr r hr) (by decide)
    have hr6 : ∀ r ∈ L, r.length ≤ 1000000 := fun r hr => Nat.le_trans (hLr r hr) (by decide)
    have him2 := him.toZ (Cl.cons (Cl.zT T) (Cl.cons (Cl.zI y) Cl.nil))
    have hto1 := toTriangulation_z hS'
    have hto3 := toTriangulation_z hS'
    have hton := fun H => (toTriangulation_o hS').lend (H := H) (.cl (Cl.zT T) .nil)
    have hti1 := toInt64S_z (l := y) hy'
    have hti3 := toInt64S_z (l := y) hy'
    have htin := fun H => (toInt64S_o (l := y) hy').lend (H := H) (.cl (Cl.zI y) .nil)
    have heq := eqInt64SS_z L (by omega) hr4
    have heq2 := heq
    have heq3 := heq
    have heT := eqTriangulation_z hS'
    have heY := eqInt64S_z y (by omega)
    have hcc : (c == c) = true := beq_self_eq_true c
    clear h1
    refine ZCalls.body Tryz.func4 rfl Tryz.ntmps4 (rs := [.tmp 4]) rfl (by simp) rfl fun H Q hQ A hA => ?_
    have a0 := hA 0 _ _ rfl
    have a1 := hA 1 _ _ rfl
    clear hA
    have hheld := heldInt64SS_z L 1 (by omega) hr6 (by omega) (by omega)
    have htot := totN_le hLr L.length
    have htot2 : L.length * 1000 ≤ 100000 * 1000 := Nat.mul_le_mul_right _ (by omega)
    clear hLr hr4
    have hmb : markN T T.length ≤ 2199023255552 := by have h1 := markN_le T hS' T.length (Nat.le_refl _); have h2 := hS'.1; omega
    have hmN : ¬ (1 + (markN T T.length : Int) + y.length < 0) := by omega
    have hln : (0 : Int) ≤ totN L L.length ∧ (totN L L.length : Int) ≤ 100000000 := by omega
    repeat' first | refine rnY ?_ | (first | refine ZCalls.to (h4) ?_ | refine ZCalls.tf (h4) ?_) | (refine ZCalls.to hto1 ?_; clear hto1) | (refine ZCalls.to hti1 ?_; clear hti1) | (first | refine ZCalls.to (hsp) ?_ | refine ZCalls.tf (hsp) ?_) | (refine (hton _).mono ?_; rintro x0 H0 ⟨hx0, he0⟩; clear hton; obtain ⟨x, rfl, hxo⟩ := tri_shape hx0; have he0g := he0.get; have he0s := he0.size; (try simp only [nx] at he0s)) | (refine (htin _).mono ?_; rintro y0 HY ⟨hy0, hey⟩; clear htin; have hyo := hy0.one; have heyg := hey.get; have heys := hey.size; (try simp only [nx] at heys)) | (refine (him.lend (.ownB (hx0.ext (Nat.le_refl _) (by exact exY)) (.ownB (hy0.ext (Nat.le_refl _) (by exact exY)) .nil))).mono ?_; rintro u H1 ⟨hg0, he1⟩; clear him; obtain ⟨g, rfl, hg, hgo⟩ := ii_shape hg0; clear hg0; have he1g := he1.get; have he1s := he1.size; (try simp only [nx] at he1s)) | (refine (heq.lend rfl (.ownB (hg.ext (Nat.le_refl _) (by exact exY)) (.cl (Cl.zII L) .nil))).mono ?_; rintro u H2 ⟨rfl, he2⟩; clear heq; have he2g := he2.get; have he2s := he2.size; (try simp only [nx] at he2s)) | with_reducible refine And.intro (fun hc => ?_) (fun hc => ?_) | fail
    refine AWp.zreg [(0, none), (1, none), (2, none), (3, some [0, 1]), (4, none)] mixed (by kernel_rfl) ?_
    repeat' first | refine rzY ?_ | (first | refine ZCalls.to (hto3) ?_ | refine ZCalls.tf (hto3) ?_) | (refine (heT.lend rfl (.ownB (hx0.ext (Nat.le_refl _) (by exact exY)) (.cl (Cl.zT T) .nil))).mono ?_; rintro u H3 ⟨rfl, he3⟩; have he3g := he3.get; have he3s := he3.size; (try simp only [nx] at he3s); refine hgY ?_) | fail
    repeat' first | refine rnY ?_ | (first | refine ZCalls.to (hto3) ?_ | refine ZCalls.tf (hto3) ?_) | (first | refine ZCalls.to (hti3) ?_ | refine ZCalls.tf (hti3) ?_) | (first | refine ZCalls.to (him2) ?_ | refine ZCalls.tf (him2) ?_) | (first | refine ZCalls.to (heq3) ?_ | refine ZCalls.tf (heq3) ?_) | (refine (heY.lend rfl (.ownB (hy0.ext (Nat.le_refl _) (by exact exY)) (.cl (Cl.zI y) .nil))).mono ?_; rintro u H9 ⟨rfl, he9⟩; clear heY; have he9g := he9.get; have he9s := he9.size; (try simp only [nx] at he9s)) | (refine (markTriangulation_m (hx0.ext (Nat.le_refl _) (by exact exY)) (by exact sdY) hS' (by omega) (by omega)).mono ?_; rintro u H4 ⟨rfl, hm4⟩; have hg4 := OwnB.extR (hg.ext (Nat.le_refl _) (by exact exY)) (by exact sdY) hm4 (.inr (by exact sdY)); have hy4 := OwnB.extR (hy0.ext (Nat.le_refl _) (by exact exY)) (by exact sdY) hm4 (.inr (by exact sdY)); have hE4 := Ext.viaR (show Ext H _ from by exact exY) hm4 (by exact sdY); clear hx0; have hm4g := hm4.get; have hm4s := hm4.size; (try simp only [nx] at hm4s)) | (refine (markInt64S_b (hy4.ext (by exact sdY) (by exact exY)) (by omega) (by omega) (by omega)).mono ?_; rintro u H8 ⟨rfl, hm8, hy8⟩; have hg8 := OwnB.extR (hg4.ext (by exact sdY) (by exact exY)) (by exact sdY) hm8 (.inr (by exact sdY)); have hE8 := Ext.viaR (show Ext H _ from by exact exY) hm8 (by exact sdY); clear hy4 hg4; have hm8g := hm8.get; have hm8s := hm8.size; (try simp only [nx] at hm8s)) | (refine (heq2.lend rfl (.ownB (hg8.ext (by exact sdY) (by exact exY)) (.cl (Cl.zII L) .nil))).mono ?_; rintro u H5 ⟨rfl, he5⟩; clear heq2; have he5g := he5.get; have he5s := he5.size; (try simp only [nx] at he5s)) | (refine (markInt64SS_b (hg8.ext (by exact sdY) (by exact exY)) (by exact sdY) (by omega) hr6 (by omega) (by omega)).mono ?_; rintro u H6 ⟨rfl, hm6, hg6⟩; have hE6 := Ext.viaR (show Ext H _ from by exact exY) hm6 (by exact sdY); clear hg8; have hm6g := hm6.get; have hm6s := hm6.size; (try simp only [nx] at hm6s)) | (refine (hheld.lend rfl (.ownB (hg6.ext (by exact sdY) (by exact exY)) (.cl (Cl.int _ _) .nil))).mono ?_; rintro u H7 ⟨rfl, he7⟩; have he7g := he7.get; have he7s := he7.size; (try simp only [nx] at he7s)) | with_reducible refine And.intro (fun hc => ?_) (fun hc => ?_) | fail
    exact hQ.out _ _ (fv) (by exact exY)
end Go.Proofs.YtmoknllbpjpkmaaGreat.Zed
