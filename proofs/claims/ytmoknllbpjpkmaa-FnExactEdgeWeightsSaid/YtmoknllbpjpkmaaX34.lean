/- A part of the walk: what functions of the program do, over an abstract heap. -/
import Derived.Test.YtmoknllbpjpkmaaX33
import Derived.Test.YtmoknllbpjpkmaaX11
import Derived.Test.YtmoknllbpjpkmaaW24
namespace Go.Proofs.Ytmoknllbpjpkmaa.Zed
open Go TP
set_option linter.unusedVariables false
set_option linter.unusedSimpArgs false
set_option maxRecDepth 20000
namespace tfX34
theorem tf : (Try.prog.underlying 25 = some (.slice 2)) ∧ (el Try.prog 25 = some (none, 1)) ∧ (tk Try.prog 2 = some none) ∧ (tk Try.prog 24 = some (some 1)) ∧ (tk Try.prog 31 = some (some 1)) ∧ (cz Try.prog 2 = some 1) ∧ (bz Try.prog 2 = some 8) ∧ (zr Try.prog 2 = some (.int .i64 0)) ∧ (zr Try.prog 31 = some (.agg #[.slice none 0 0])) := by
  refine ⟨?_, ?_, ?_, ?_, ?_, ?_, ?_, ?_, ?_⟩ <;> kernel_rfl
end tfX34
open tfX34

theorem markInt64S_b {H : Heap} {lo hi : Nat} {v : Value} {l : List Int} {k : Int} (hO : OwnB lo hi H [v] [zI l]) (hn : l.length ≤ 4000000000) (h0 : 0 ≤ k) (hk : k ≤ 4611686018427387904) :
    ACalls Try.prog 25 [v, I k] H fun u H' => u = I (k + l.length) ∧ ExtR lo hi H H' ∧ OwnB lo hi H' [v] [zI (mkI k l.length)] := by
  obtain ⟨ks, hL, hb⟩ := hO.in
  refine (markInt64S_m hL hn h0 hk).mono ?_
  rintro u H' ⟨rfl, q1, q2, ks', q3, q4⟩
  refine ⟨rfl, q1.toR hb, ks', q3, fun k hk => ?_⟩
  obtain ⟨k', r1, r2⟩ := q4.mem k hk
  rw [← r2]; exact (hb k' r1).2
theorem tri_shape {lo hi : Nat} {H : Heap} {u : Value} {T : List (List (Int × Int))} (h : OwnB lo hi H [u] [zT T]) : ∃ v, u = .agg #[v] ∧ v.oneCell' = true := by
  obtain ⟨l, rfl, h1⟩ := OwnB.agg_inv (l' := [zL zP T]) h
  obtain ⟨v, l4, rfl, h4, h5⟩ := h1.cons_inv
  obtain rfl := h5.nil_inv
  exact ⟨v, rfl, h4.one⟩
/-- A row and a code. -/
abbrev rcV (L : List Int) (c : Int) : Value := .tuple #[zI L, I c]
theorem rc_shape {lo hi : Nat} {H : Heap} {u : Value} {c : Int} {L : List Int} (h : OwnB lo hi H [u] [rcV L c]) : ∃ v, u = .tuple #[v, I c] ∧ OwnB lo hi H [v] [zI L] ∧ v.oneCell' = true := by
  obtain ⟨l, rfl, h1⟩ := OwnB.tup_inv (l' := [zI L, I c]) h
  obtain ⟨u, l2, rfl, h2, h3⟩ := h1.cons_inv
  obtain ⟨l3, rfl, h4⟩ := OwnB.flat_inv (r := I c) rfl h3
  obtain rfl := h4.nil_inv
  exact ⟨u, rfl, h2, h2.one⟩
/-- What EdgeWeights answers. -/
def ewV (T : List (List (Int × Int))) (v : List Int) : Value :=
  if codeN T = 0 then (if NrI T v then rcV (wL v (edgeL T) (nE T) (6 * T.length)) 0 else rcV [] 5) else rcV [] (codeN T)
theorem ewV_ok (T : List (List (Int × Int))) (v : List Int) (hv : v.length ≤ 1048576) : ∃ L c, ewV T v = rcV L c ∧ L.length ≤ 1000000 := by
  unfold ewV
  split
  · rename_i h0
    split
    · refine ⟨_, _, rfl, ?_⟩
      rw [wL_len]
      have := nE_le (codeN_ok h0).fine
      have := codeN_six h0
      omega
    · exact ⟨_, _, rfl, by simp⟩
  · exact ⟨_, _, rfl, by simp⟩
theorem NrI_bd {T : List (List (Int × Int))} {v : List Int} (h : NrI T v) : ∀ j, 0 ≤ v.getD j 0 ∧ v.getD j 0 ≤ 1000 := fun j => by
  by_cases hj : j < v.length
  · exact h.2.1 j hj
  · rw [List.getD_eq_getElem?_getD, List.getElem?_eq_none (by omega)]; decide
set_option maxHeartbeats 4000000 in
theorem implEdgeWeights_o {T : List (List (Int × Int))} (hl : T.length ≤ 1048576) (v : List Int) (hv : v.length ≤ 1048576) : OCalls Try.prog 23 [zT T, zI v] (ewV T v) := by
  have hc := normalCode_z hl
  unfold ewV
  by_cases h : codeN T = 0
  · rw [if_pos h]
    have hT := codeN_ok h
    have hn := isNormal_z hT.fine v hv
    rw [h] at hc
    by_cases h1 : NrI T v
    · rw [if_pos h1]
      rw [decide_eq_true h1] at hn
      have hw := edgeWeights_o hT (NrI_bd h1) h1.1
      clear h1
      generalize wL v (edgeL T) (nE T) (6 * T.length) = L at *
      have hw2 := fun H => hw.lend (H := H) (.cl (Cl.zT T) (.cl (Cl.zI v) .nil))
      clear hw
      refine OCalls.body Try.func23 rfl Try.ntmps23 (rs := [.tmp 4, .tmp 5]) rfl (by simp) rfl fun H Q hQ A hA => ?_
      have a0 := hA 0 _ _ rfl
      have a1 := hA 1 _ _ rfl
      clear hA
      repeat' first | refine rnY ?_ | (first | refine ZCalls.to (hc) ?_ | refine ZCalls.tf (hc) ?_) | (first | refine ZCalls.to (hn) ?_ | refine ZCalls.tf (hn) ?_) | (refine (hw2 _).mono ?_; rintro u H1 ⟨hO, hx⟩; have hone := hO.one; have hxg := hx.get; have hxs := hx.size; (try simp only [nx] at hxs)) | with_reducible refine And.intro (fun hc => ?_) (fun hc => ?_) | fail
      exact hQ.out _ _ ((OwnB.tup (l := [_, I 0]) (l' := [zI L, I 0]) (.cflats ((hO.ext (Nat.le_refl _) (by exact exY)).wide (lo' := H.size) (hi' := H1.size) (by first | omega | (simp only [nx]; omega)) (Nat.le_refl _)) (fun x hx => by simp at hx; subst hx; rfl))).out) (by exact exY)
    · rw [if_neg h1]
      rw [decide_eq_false h1] at hn
      clear h1
      refine OCalls.body Try.func23 rfl Try.ntmps23 (rs := [.tmp 4, .tmp 5]) rfl (by simp) rfl fun H Q hQ A hA => ?_
      have a0 := hA 0 _ _ rfl
      have a1 := hA 1 _ _ rfl
      clear hA
      repeat' first | refine rnY ?_ | (first | refine ZCalls.to (hc) ?_ | refine ZCalls.tf (hc) ?_) | (first | refine ZCalls.to (hn) ?_ | refine ZCalls.tf (hn) ?_) | with_reducible refine And.intro (fun hc => ?_) (fun hc => ?_) | fail
      exact hQ.out _ _ ((OwnB.tup (lo := H.size) (hi := H.size) (l := [.slice none 0 0, I 5]) (l' := [zI [], I 5]) (.cflats (OwnB.nilr 1) (fun x hx => by simp at hx; subst hx; rfl))).out) (by exact exY)
  · rw [if_neg h]
    have hcb : (codeN T == 0) = false := by rw [beq_eq_false_iff_ne]; exact h
    generalize codeN T = k at *
    refine OCalls.body Try.func23 rfl Try.ntmps23 (rs := [.tmp 4, .tmp 5]) rfl (by simp) rfl fun H Q hQ A hA => ?_
    have a0 := hA 0 _ _ rfl
    have a1 := hA 1 _ _ rfl
    clear hA
    repeat' first | refine rnY ?_ | (first | refine ZCalls.to (hc) ?_ | refine ZCalls.tf (hc) ?_) | with_reducible refine And.intro (fun hc => ?_) (fun hc => ?_) | fail
    exact hQ.out _ _ ((OwnB.tup (lo := H.size) (hi := H.size) (l := [.slice none 0 0, I k]) (l' := [zI [], I k]) (.cflats (OwnB.nilr 1) (fun x hx => by simp at hx; subst hx; rfl))).out) (by exact exY)
set_option maxHeartbeats 4000000 in
theorem specEdgeWeights_z {T : List (List (Int × Int))} (hl : T.length ≤ 1048576) (v : List Int) (hv : v.length ≤ 1048576) : ZCalls Try.prog 22 [zT T, zI v] (ewV T v) := by
  have hc := l17Code_z hl
  have hn := specIsNormal_z hl v hv
  unfold ewV
  by_cases h : codeN T = 0
  · rw [if_pos h]
    have hT := codeN_ok h
    rw [h] at hc
    by_cases h1 : NrI T v
    · rw [if_pos h1]
      rw [decide_eq_true ⟨h, h1⟩] at hn
      have hw := l17Weights_z hT (NrI_bd h1) h1.1
      clear h1
      generalize wL v (edgeL T) (nE T) (6 * T.length) = L at *
      refine ZCalls.body Try.func22 rfl Try.ntmps22 (rs := [.tmp 4, .tmp 5]) rfl (by simp) rfl fun H Q hQ A hA => ?_
      have a0 := hA 0 _ _ rfl
      have a1 := hA 1 _ _ rfl
      clear hA
      repeat' first | refine rnY ?_ | (first | refine ZCalls.to (hc) ?_ | refine ZCalls.tf (hc) ?_) | (first | refine ZCalls.to (hn) ?_ | refine ZCalls.tf (hn) ?_) | (first | refine ZCalls.to (hw) ?_ | refine ZCalls.tf (hw) ?_) | with_reducible refine And.intro (fun hc => ?_) (fun hc => ?_) | fail
      exact hQ.out _ _ (.eq (Cl.tuple (l := [zI L, I 0]) (Cl.cons (Cl.zI L) (Cl.cons (Cl.int _ _) Cl.nil))) rfl) (by exact exY)
    · rw [if_neg h1]
      rw [decide_eq_false (fun q => h1 q.2)] at hn
      clear h1
      refine ZCalls.body Try.func22 rfl Try.ntmps22 (rs := [.tmp 4, .tmp 5]) rfl (by simp) rfl fun H Q hQ A hA => ?_
      have a0 := hA 0 _ _ rfl
      have a1 := hA 1 _ _ rfl
      clear hA
      repeat' first | refine rnY ?_ | (first | refine ZCalls.to (hc) ?_ | refine ZCalls.tf (hc) ?_) | (first | refine ZCalls.to (hn) ?_ | refine ZCalls.tf (hn) ?_) | with_reducible refine And.intro (fun hc => ?_) (fun hc => ?_) | fail
      exact hQ.out _ _ ((OwnB.tup (lo := H.size) (hi := H.size) (l := [.slice none 0 0, I 5]) (l' := [zI [], I 5]) (.cflats (OwnB.nilr 1) (fun x hx => by simp at hx; subst hx; rfl))).fin) (by exact exY)
  · rw [if_neg h]
    have hcb : (codeN T == 0) = false := by rw [beq_eq_false_iff_ne]; exact h
    clear hn
    generalize codeN T = k at *
    refine ZCalls.body Try.func22 rfl Try.ntmps22 (rs := [.tmp 4, .tmp 5]) rfl (by simp) rfl fun H Q hQ A hA => ?_
    have a0 := hA 0 _ _ rfl
    have a1 := hA 1 _ _ rfl
    clear hA
    repeat' first | refine rnY ?_ | (first | refine ZCalls.to (hc) ?_ | refine ZCalls.tf (hc) ?_) | with_reducible refine And.intro (fun hc => ?_) (fun hc => ?_) | fail
    exact hQ.out _ _ ((OwnB.tup (lo := H.size) (hi := H.size) (l := [.slice none 0 0, I k]) (l' := [zI [], I k]) (.cflats (OwnB.nilr 1) (fun x hx => by simp at hx; subst hx; rfl))).fin) (by exact exY)
set_option maxHeartbeats 8000000 in
theorem lawEdgeWeights_z {T : List (List (Int × Int))} (hS : Short T 9223372036854775807) (y : List Int) (hy : y.length ≤ 9223372036854775807) : ZCalls Try.prog 5 [zT T, zI y] (B true) := by
  by_cases hy1 : (y.length : Int) > 1048576
  · refine ZCalls.body Try.func5 rfl Try.ntmps5 (rs := [.tmp 4]) rfl (by simp) rfl fun H Q hQ A hA => ?_
    have a0 := hA 0 _ _ rfl
    have a1 := hA 1 _ _ rfl
    clear hA
    repeat' first | refine rnY ?_ | with_reducible refine And.intro (fun hc => ?_) (fun hc => ?_) | fail
    exact hQ.out _ _ (fv) (by exact exY)
  obtain ⟨s, h1, h2, h3, h4⟩ := szTriangulation_z hS
  by_cases hs : s < 0
  · refine ZCalls.body Try.func5 rfl Try.ntmps5 (rs := [.tmp 4]) rfl (by simp) rfl fun H Q hQ A hA => ?_
    have a0 := hA 0 _ _ rfl
    have a1 := hA 1 _ _ rfl
    clear hA
    repeat' first | refine rnY ?_ | (first | refine ZCalls.to (h4) ?_ | refine ZCalls.tf (h4) ?_) | with_reducible refine And.intro (fun hc => ?_) (fun hc => ?_) | fail
    exact hQ.out _ _ (fv) (by exact exY)
  · have hS' := h1 (by omega)
    have hy' : y.length ≤ 1048576 := by omega
    have hsp := specEdgeWeights_z (T := T) hS'.1 y hy'
    have him := implEdgeWeights_o (T := T) hS'.1 y hy'
    obtain ⟨L, c, hV, hL⟩ := ewV_ok T y hy'
    rw [hV] at hsp him
    have him2 := him.toZ (Cl.cons (Cl.zT T) (Cl.cons (Cl.zI y) Cl.nil))
    have hto1 := toTriangulation_z hS'
    have hto3 := toTriangulation_z hS'
    have hton := fun H => (toTriangulation_o hS').lend (H := H) (.cl (Cl.zT T) .nil)
    have hti1 := toInt64S_z (l := y) hy'
    have hti3 := toInt64S_z (l := y) hy'
    have htin := fun H => (toInt64S_o (l := y) hy').lend (H := H) (.cl (Cl.zI y) .nil)
    have heq := eqInt64S_z L (by omega)
    have heq2 := heq
    have heq3 := heq
    have heT := eqTriangulation_z hS'
    have heY := eqInt64S_z y (by omega)
    have hcc : (c == c) = true := beq_self_eq_true c
    clear h1 hV
    refine ZCalls.body Try.func5 rfl Try.ntmps5 (rs := [.tmp 4]) rfl (by simp) rfl fun H Q hQ A hA => ?_
    have a0 := hA 0 _ _ rfl
    have a1 := hA 1 _ _ rfl
    clear hA
    have hheld := heldInt64S_z L.length 1 (by omega) (by omega) (by omega)
    have hmb : markN T T.length ≤ 2199023255552 := by have h1 := markN_le T hS' T.length (Nat.le_refl _); have h2 := hS'.1; omega
    have hmN : ¬ (1 + (markN T T.length : Int) + y.length < 0) := by omega
    have hln : (0 : Int) ≤ L.length ∧ (L.length : Int) ≤ 1000000 := by omega
    repeat' first | refine rnY ?_ | (first | refine ZCalls.to (h4) ?_ | refine ZCalls.tf (h4) ?_) | (refine ZCalls.to hto1 ?_; clear hto1) | (refine ZCalls.to hti1 ?_; clear hti1) | (first | refine ZCalls.to (hsp) ?_ | refine ZCalls.tf (hsp) ?_) | (refine (hton _).mono ?_; rintro x0 H0 ⟨hx0, he0⟩; clear hton; obtain ⟨x, rfl, hxo⟩ := tri_shape hx0; have he0g := he0.get; have he0s := he0.size; (try simp only [nx] at he0s)) | (refine (htin _).mono ?_; rintro y0 HY ⟨hy0, hey⟩; clear htin; have hyo := hy0.one; have heyg := hey.get; have heys := hey.size; (try simp only [nx] at heys)) | (refine (him.lend (.ownB (hx0.ext (Nat.le_refl _) (by exact exY)) (.ownB (hy0.ext (Nat.le_refl _) (by exact exY)) .nil))).mono ?_; rintro u H1 ⟨hg0, he1⟩; clear him; obtain ⟨g, rfl, hg, hgo⟩ := rc_shape hg0; clear hg0; have he1g := he1.get; have he1s := he1.size; (try simp only [nx] at he1s)) | (refine (heq.lend rfl (.ownB (hg.ext (Nat.le_refl _) (by exact exY)) (.cl (Cl.zI L) .nil))).mono ?_; rintro u H2 ⟨rfl, he2⟩; clear heq; have he2g := he2.get; have he2s := he2.size; (try simp only [nx] at he2s)) | with_reducible refine And.intro (fun hc => ?_) (fun hc => ?_) | fail
    refine AWp.zreg [(0, none), (1, none), (2, none), (3, some [0, 1]), (4, none)] mixed (by kernel_rfl) ?_
    repeat' first | refine rzY ?_ | (first | refine ZCalls.to (hto3) ?_ | refine ZCalls.tf (hto3) ?_) | (refine (heT.lend rfl (.ownB (hx0.ext (Nat.le_refl _) (by exact exY)) (.cl (Cl.zT T) .nil))).mono ?_; rintro u H3 ⟨rfl, he3⟩; have he3g := he3.get; have he3s := he3.size; (try simp only [nx] at he3s); refine hgY ?_) | fail
    repeat' first | refine rnY ?_ | (first | refine ZCalls.to (hto3) ?_ | refine ZCalls.tf (hto3) ?_) | (first | refine ZCalls.to (hti3) ?_ | refine ZCalls.tf (hti3) ?_) | (first | refine ZCalls.to (him2) ?_ | refine ZCalls.tf (him2) ?_) | (first | refine ZCalls.to (heq3) ?_ | refine ZCalls.tf (heq3) ?_) | (refine (heY.lend rfl (.ownB (hy0.ext (Nat.le_refl _) (by exact exY)) (.cl (Cl.zI y) .nil))).mono ?_; rintro u H9 ⟨rfl, he9⟩; clear heY; have he9g := he9.get; have he9s := he9.size; (try simp only [nx] at he9s)) | (refine (markTriangulation_m (hx0.ext (Nat.le_refl _) (by exact exY)) (by exact sdY) hS' (by omega) (by omega)).mono ?_; rintro u H4 ⟨rfl, hm4⟩; have hg4 := OwnB.extR (hg.ext (Nat.le_refl _) (by exact exY)) (by exact sdY) hm4 (.inr (by exact sdY)); have hy4 := OwnB.extR (hy0.ext (Nat.le_refl _) (by exact exY)) (by exact sdY) hm4 (.inr (by exact sdY)); have hE4 := Ext.viaR (show Ext H _ from by exact exY) hm4 (by exact sdY); clear hx0; have hm4g := hm4.get; have hm4s := hm4.size; (try simp only [nx] at hm4s)) | (refine (markInt64S_b (hy4.ext (by exact sdY) (by exact exY)) (by omega) (by omega) (by omega)).mono ?_; rintro u H8 ⟨rfl, hm8, hy8⟩; have hg8 := OwnB.extR (hg4.ext (by exact sdY) (by exact exY)) (by exact sdY) hm8 (.inr (by exact sdY)); have hE8 := Ext.viaR (show Ext H _ from by exact exY) hm8 (by exact sdY); clear hy4 hg4; have hm8g := hm8.get; have hm8s := hm8.size; (try simp only [nx] at hm8s)) | (refine (heq2.lend rfl (.ownB (hg8.ext (by exact sdY) (by exact exY)) (.cl (Cl.zI L) .nil))).mono ?_; rintro u H5 ⟨rfl, he5⟩; clear heq2; have he5g := he5.get; have he5s := he5.size; (try simp only [nx] at he5s)) | (refine (markInt64S_b (hg8.ext (by exact sdY) (by exact exY)) (by omega) (by omega) (by omega)).mono ?_; rintro u H6 ⟨rfl, hm6, hg6⟩; have hE6 := Ext.viaR (show Ext H _ from by exact exY) hm6 (by exact sdY); clear hg8; have hm6g := hm6.get; have hm6s := hm6.size; (try simp only [nx] at hm6s)) | (refine (hheld.lend rfl (.ownB (hg6.ext (by exact sdY) (by exact exY)) (.cl (Cl.int _ _) .nil))).mono ?_; rintro u H7 ⟨rfl, he7⟩; have he7g := he7.get; have he7s := he7.size; (try simp only [nx] at he7s)) | with_reducible refine And.intro (fun hc => ?_) (fun hc => ?_) | fail
    exact hQ.out _ _ (fv) (by exact exY)
end Go.Proofs.Ytmoknllbpjpkmaa.Zed
