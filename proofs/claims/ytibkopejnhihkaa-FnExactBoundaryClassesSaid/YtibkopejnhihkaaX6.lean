/- A part of the walk: what functions of the program do, over an abstract heap. -/
import Derived.Test.YtibkopejnhihkaaW9
namespace Go.Proofs.Ytibkopejnhihkaa.Zed
open Go TP
set_option linter.unusedVariables false
set_option linter.unusedSimpArgs false
set_option maxRecDepth 20000
namespace tfX6
theorem tf : (Try.prog.underlying 27 = some (.slice 89)) ∧ (el Try.prog 27 = some (none, 1)) ∧ (Try.prog.underlying 36 = some (.slice 2)) ∧ (el Try.prog 36 = some (none, 1)) ∧ (Try.prog.underlying 120 = some (.array 4 2)) ∧ (el Try.prog 120 = some (some 4, 1)) ∧ (tk Try.prog 2 = some none) ∧ (tk Try.prog 27 = some none) ∧ (tk Try.prog 29 = some (some 1)) ∧ (tk Try.prog 36 = some none) ∧ (tk Try.prog 89 = some none) ∧ (cz Try.prog 2 = some 1) ∧ (bz Try.prog 2 = some 8) ∧ (cz Try.prog 89 = some 1) ∧ (bz Try.prog 89 = some 24) ∧ (zr Try.prog 2 = some (.int .i64 0)) ∧ (zr Try.prog 36 = some (.slice none 0 0)) ∧ (zr Try.prog 89 = some (.slice none 0 0)) ∧ (fo Try.prog 29 0 = some (0, none)) ∧ (fo Try.prog 110 0 = some (0, none)) := by
  refine ⟨?_, ?_, ?_, ?_, ?_, ?_, ?_, ?_, ?_, ?_, ?_, ?_, ?_, ?_, ?_, ?_, ?_, ?_, ?_, ?_⟩ <;> kernel_rfl
end tfX6
open tfX6

theorem vertTo_len (s : List Int) (a f : Nat) (x : Int × Int) (k : Nat) : (vertTo s a f x k).length = s.length := by
  induction k with
  | zero => rfl
  | succ k ih => unfold vertTo; rw [unionL_len, ih]
theorem vertL_len (T : List (List (Int × Int))) : (vertL T).length = 4 * T.length := by
  unfold vertL; rw [numL_len, glT_len (step := vertStep) (fun s a f x => vertTo_len _ _ _ _ _), cntL_len]
theorem faceL_len (T : List (List (Int × Int))) : (faceL T).length = 4 * T.length := by
  unfold faceL; rw [numL_len, glT_len (step := faceStep) (fun s a f x => unionL_len _ _ _), cntL_len]
set_option maxHeartbeats 4000000 in
theorem faceVisit_c {H : Heap} {bx g n : Nat} {s : List Int} (hn : n ≤ 1000) (hs : s.length = n) (hg : H.get g = .cells (ints s) 1 false) (hb : H.get bx = Var bx g n) (hne : bx ≠ g) (a f : Nat) (t p : Int) (ha : 4 * a + 4 ≤ n) (ht0 : 0 ≤ t) (ht : 4 * t + 4 ≤ n) (hf : f < 4) (hp0 : 0 ≤ p) (hp : p < 24) :
    ACalls Try.prog 134 [I a, I f, .agg #[I t, I p], .agg (ints (pmL p)).toArray, .pointer (some ⟨bx, 0, none⟩)] H fun u H' => u = undef ∧ Ext (H.set g (.cells (ints (faceStep s a f (t, p))) 1 false)) H' := by
  have hpl := (pmL_bd p hp0 hp).1
  have hq := pm_bd p f hp0 hp (by omega) (by omega)
  have hqq : (pmL p).getD f 0 = pm p f := by unfold pm; rw [Int.toNat_natCast]
  obtain ⟨x, hx⟩ : ∃ x : Nat, pm p f = (x : Int) := ⟨(pm p f).toNat, by omega⟩
  have hst : faceStep s a f (t, p) = unionL s (4 * (a : Int) + f).toNat (4 * t + (x : Int)).toNat := by
    show unionL s (4 * a + f) (4 * t + pm p f).toNat = _
    rw [hx]; congr 1
  rw [hx] at hqq hq
  rw [hst]
  clear hst hx
  refine ACalls.body Try.func134 rfl Try.ntmps134 (rs := []) rfl (by simp) rfl fun Q hQ A hA => ?_
  have a0 := hA 0 _ _ rfl
  have a1 := hA 1 _ _ rfl
  have a2 := hA 2 _ _ rfl
  have a3 := hA 3 _ _ rfl
  have a4 := hA 4 _ _ rfl
  clear hA
  repeat' first | refine rnY ?_ | with_reducible refine And.intro (fun hc => ?_) (fun hc => ?_) | fail
  refine AWp.zreg [(0, none), (1, none), (2, none), (3, none), (4, none), (5, none), (6, none), (7, none), (8, none), (9, none), (10, none), (11, none), (12, some [0, 6, 10])] mixed (by kernel_rfl) ?_
  repeat' first | refine rzY ?_ | (refine (union_c hg hs (by omega) (by omega) (by omega) (by omega) (by omega)).mono ?_; rintro u H4 ⟨rfl, rfl⟩; refine hgY ?_) | fail
  repeat' first | refine rnY ?_ | with_reducible refine And.intro (fun hc => ?_) (fun hc => ?_) | fail
  exact hQ.out _ _ ⟨rfl, Ext.refl _⟩
set_option maxHeartbeats 4000000 in
theorem vertVisit_c {H : Heap} {bx g n : Nat} {s : List Int} (hn : n ≤ 1000) (hs : s.length = n) (hg : H.get g = .cells (ints s) 1 false) (hb : H.get bx = Var bx g n) (hne : bx ≠ g) (a f : Nat) (t p : Int) (ha : 4 * a + 4 ≤ n) (ht0 : 0 ≤ t) (ht : 4 * t + 4 ≤ n) (hf : f < 4) (hp0 : 0 ≤ p) (hp : p < 24) :
    ACalls Try.prog 133 [I a, I f, .agg #[I t, I p], .agg (ints (pmL p)).toArray, .pointer (some ⟨bx, 0, none⟩)] H fun u H' => u = undef ∧ Ext (H.set g (.cells (ints (vertStep s a f (t, p))) 1 false)) H' := by
  have hpl := (pmL_bd p hp0 hp).1
  obtain ⟨o1, o2⟩ := others1_bd f hf
  have ho := others_z [(f : Int)] (by simp) ⟨f, hf, by
    have : f = 0 ∨ f = 1 ∨ f = 2 ∨ f = 3 := by omega
    rcases this with rfl | rfl | rfl | rfl <;> simp [cntL]⟩
  unfold Zed.zI at ho
  rw [o1] at ho
  refine ACalls.body Try.func133 rfl Try.ntmps133 (rs := []) rfl (by simp) rfl fun Q hQ A hA => ?_
  have a0 := hA 0 _ _ rfl
  have a1 := hA 1 _ _ rfl
  have a2 := hA 2 _ _ rfl
  have a3 := hA 3 _ _ rfl
  have a4 := hA 4 _ _ rfl
  clear hA
  repeat' first | refine rnY ?_ | (first | refine ZCalls.to (ho) ?_ | refine ZCalls.tf (ho) ?_) | with_reducible refine And.intro (fun hc => ?_) (fun hc => ?_) | fail
  refine AWp.cut (fun Ac hAc => ?_)
  have c0 := gtY (t := 0) hAc
  have c4 := gtY (t := 4) hAc
  have c7 := gtY (t := 7) hAc
  have c8 := gtY (t := 8) hAc
  have c13 := gtY (t := 13) hAc
  have c14 := gtY (t := 14) hAc
  have c15 := gtY (t := 15) hAc
  clear a0 a1 a2 a3 a4
  refine AWp.loop (fun A' H' => ∃ (k : Nat), Ag [10, 16, 17, 18, 19, 20, 21, 22, 23, 24, 25, 26, 27, 28, 29, 30, 31, 32] A' (put Ac (some 15) (I k)) ∧ k ≤ 3 ∧ H' = H.set g (.cells (ints (vertTo s a f (t, p) k)) 1 false)) (fun A' _ => 3 - (intV (A' 15)).toNat) ?_ ?_
  · exact ⟨0, agY, by omega, by show H = H.set g (.cells (ints s) 1 false); rw [set_self hg]⟩
  · rintro A1 H1 ⟨k, hA, hk, rfl⟩
    have d0 := gdY (t := 0) hA
    have d4 := gdY (t := 4) hA
    have d7 := gdY (t := 7) hA
    have d8 := gdY (t := 8) hA
    have d13 := gdY (t := 13) hA
    have d14 := gdY (t := 14) hA
    have d15 := gdY (t := 15) hA
    by_cases hlt : k < 3
    · have hlen : (vertTo s a f (t, p) k).length = n := by rw [vertTo_len]; exact hs
      obtain ⟨v, hv, hv4⟩ := o2 k hlt
      have hq := pm_bd p v hp0 hp (by omega) (by omega)
      have hqq : (pmL p).getD v 0 = pm p v := by unfold pm; rw [Int.toNat_natCast]
      obtain ⟨x, hx⟩ : ∃ x : Nat, pm p v = (x : Int) := ⟨(pm p v).toNat, by omega⟩
      have hst : vertTo s a f (t, p) (k + 1) = unionL (vertTo s a f (t, p) k) (4 * (a : Int) + v).toNat (4 * t + (x : Int)).toNat := by
        show unionL _ (4 * a + ((othersL [(f : Int)]).getD k 0).toNat) (4 * t + pm p ((othersL [(f : Int)]).getD k 0)).toNat = _
        rw [hv, hx]; congr 1
      rw [hx] at hqq hq
      generalize vertTo s a f (t, p) k = old at hst hlen
      generalize othersL [(f : Int)] = ol at *
      clear o2 hx
      repeat' first | refine rnY ?_ | with_reducible refine And.intro (fun hc => ?_) (fun hc => ?_) | fail
      refine AWp.zreg [(0, none), (1, none), (2, none), (3, none), (4, none), (5, none), (6, none), (7, none), (8, none), (9, none), (10, none), (11, none), (12, some [0, 6, 10])] mixed (by kernel_rfl) ?_
      repeat' first | refine rzY ?_ | (refine (union_c get_set_eq hlen (by omega) (by omega) (by omega) (by omega) (by omega)).mono ?_; rintro u H4 ⟨rfl, rfl⟩; rw [set_set]; refine hgY ?_) | fail
      repeat' first | refine rnY ?_ | with_reducible refine And.intro (fun hc => ?_) (fun hc => ?_) | fail
      exact ⟨⟨k + 1, agY, by omega, by rw [hst]⟩, by exact ivY⟩
    · obtain rfl : k = 3 := by omega
      repeat' first | refine rnY ?_ | with_reducible refine And.intro (fun hc => ?_) (fun hc => ?_) | fail
      exact hQ.out _ _ ⟨rfl, Ext.refl _⟩
set_option maxHeartbeats 1000000 in
theorem faceClasses_z {T : List (List (Int × Int))} (hF : Fine T) : ZCalls Try.prog 83 [zT T] (zI (faceL T)) := by
  have h8 := hF.1
  have hcl := cntL_len (4 * T.length)
  have hl := glT_len (step := faceStep) (fun _ _ _ _ => unionL_len _ _ _) (cntL (4 * T.length)) T T.length
  have hel := faceL_len T
  have hcount := counting_o (4 * T.length) (by omega)
  rw [show ((4 * T.length : Nat) : Int) = 4 * (T.length : Int) by omega] at hcount
  refine ZCalls.body Try.func83 rfl Try.ntmps83 (rs := [.tmp 2]) rfl (by simp) rfl fun H Q hQ A hA => ?_
  have a0 := hA 0 _ _ rfl
  clear hA
  repeat' first | refine rnY ?_ | (first | refine ZCalls.to (size_z _ _ _) ?_ | refine ZCalls.tf (size_z _ _ _) ?_) | (refine (hcount _).mono ?_; rintro u H1 (⟨rfl, h0, rfl⟩ | ⟨rfl, rfl⟩)) | with_reducible refine And.intro (fun hc => ?_) (fun hc => ?_) | fail
  · have h00 : T.length = 0 := by omega
    obtain rfl : T = [] := List.eq_nil_of_length_eq_zero h00
    refine ACalls.mono (glued_nil _ _ _) ?_
    rintro u H2 ⟨rfl, rfl⟩
    have e0 : zI (faceL []) = FZ 1 0 [] := rfl
    rw [e0] at hQ
    repeat' first | refine rnY ?_ | (first | refine ZCalls.to (numbered_nil) ?_ | refine ZCalls.tf (numbered_nil) ?_) | with_reducible refine And.intro (fun hc => ?_) (fun hc => ?_) | fail
    exact hQ.out _ _ (.cl (Cl.fz Cl.nil)) (by exact exY)
  · refine ACalls.mono (glued_c hF 134 H.size (H.size + 1) (4 * T.length) faceStep (cntL (4 * T.length)) (fun _ _ _ _ => unionL_len _ _ _)
      (fun H' s a f t p hs hg hb hb1 hg1 ha hf ht0 ht hp0 hp => faceVisit_c (by omega) hs hg hb (by omega) a f t p (by omega) ht0 (by omega) hf hp0 hp) hcl (by rw [get_push_lt (by rw [Heap.size_push]; omega), get_push_eq rfl]) (by rw [get_push_eq (by rw [Heap.size_push])]) (by omega) (by rw [Heap.size_push, Heap.size_push]; omega) (by rw [Heap.size_push, Heap.size_push]; omega)) ?_
    rintro u H2 ⟨rfl, hx⟩
    rw [hcl] at hl
    have hd : faceL T = numL (glT faceStep (cntL (4 * T.length)) T T.length) := rfl
    generalize glT faceStep (cntL (4 * T.length)) T T.length = s at hx hl hd
    have k1 : H2.get H.size = .cells (ints s) 1 false := by rw [hx.get _ (by rw [Heap.size_set, Heap.size_push, Heap.size_push]; omega), get_set_eq]
    have k2 : H2.get (H.size + 1) = Var (H.size + 1) H.size (4 * T.length) := by rw [hx.get _ (by rw [Heap.size_set, Heap.size_push, Heap.size_push]; omega), get_set_ne (by omega), get_push_eq (by rw [Heap.size_push])]
    refine AOps.nil ?_
    refine athen_n ?_
    refine AWp.fixvar (t := 3) (bx := H.size + 1) (g := H.size) (by exact ivY) k2 k1 (by rw [ints_len]; omega) ?_
    have hn := numbered_z (l := s) (by omega)
    have e2 : FZ 1 s.length (ints (numL s)) = zI (faceL T) := by rw [hd]; unfold Zed.zI; rw [numL_len]
    rw [e2] at hn
    unfold Zed.zI at hn
    rw [hl, hel] at hn
    repeat' first | refine rnY ?_ | (first | refine ZCalls.to (hn) ?_ | refine ZCalls.tf (hn) ?_) | with_reducible refine And.intro (fun hc => ?_) (fun hc => ?_) | fail
    exact hQ.out _ _ (.eq (Cl.zI (faceL T)) (by unfold Zed.zI; rw [hel, hd])) (by exact exY)
set_option maxHeartbeats 1000000 in
theorem vertexClasses_z {T : List (List (Int × Int))} (hF : Fine T) : ZCalls Try.prog 82 [zT T] (zI (vertL T)) := by
  have h8 := hF.1
  have hcl := cntL_len (4 * T.length)
  have hl := glT_len (step := vertStep) (fun _ _ _ _ => vertTo_len _ _ _ _ _) (cntL (4 * T.length)) T T.length
  have hel := vertL_len T
  have hcount := counting_o (4 * T.length) (by omega)
  rw [show ((4 * T.length : Nat) : Int) = 4 * (T.length : Int) by omega] at hcount
  refine ZCalls.body Try.func82 rfl Try.ntmps82 (rs := [.tmp 2]) rfl (by simp) rfl fun H Q hQ A hA => ?_
  have a0 := hA 0 _ _ rfl
  clear hA
  repeat' first | refine rnY ?_ | (first | refine ZCalls.to (size_z _ _ _) ?_ | refine ZCalls.tf (size_z _ _ _) ?_) | (refine (hcount _).mono ?_; rintro u H1 (⟨rfl, h0, rfl⟩ | ⟨rfl, rfl⟩)) | with_reducible refine And.intro (fun hc => ?_) (fun hc => ?_) | fail
  · have h00 : T.length = 0 := by omega
    obtain rfl : T = [] := List.eq_nil_of_length_eq_zero h00
    refine ACalls.mono (glued_nil _ _ _) ?_
    rintro u H2 ⟨rfl, rfl⟩
    have e0 : zI (vertL []) = FZ 1 0 [] := rfl
    rw [e0] at hQ
    repeat' first | refine rnY ?_ | (first | refine ZCalls.to (numbered_nil) ?_ | refine ZCalls.tf (numbered_nil) ?_) | with_reducible refine And.intro (fun hc => ?_) (fun hc => ?_) | fail
    exact hQ.out _ _ (.cl (Cl.fz Cl.nil)) (by exact exY)
  · refine ACalls.mono (glued_c hF 133 H.size (H.size + 1) (4 * T.length) vertStep (cntL (4 * T.length)) (fun _ _ _ _ => vertTo_len _ _ _ _ _)
      (fun H' s a f t p hs hg hb hb1 hg1 ha hf ht0 ht hp0 hp => vertVisit_c (by omega) hs hg hb (by omega) a f t p (by omega) ht0 (by omega) hf hp0 hp) hcl (by rw [get_push_lt (by rw [Heap.size_push]; omega), get_push_eq rfl]) (by rw [get_push_eq (by rw [Heap.size_push])]) (by omega) (by rw [Heap.size_push, Heap.size_push]; omega) (by rw [Heap.size_push, Heap.size_push]; omega)) ?_
    rintro u H2 ⟨rfl, hx⟩
    rw [hcl] at hl
    have hd : vertL T = numL (glT vertStep (cntL (4 * T.length)) T T.length) := rfl
    generalize glT vertStep (cntL (4 * T.length)) T T.length = s at hx hl hd
    have k1 : H2.get H.size = .cells (ints s) 1 false := by rw [hx.get _ (by rw [Heap.size_set, Heap.size_push, Heap.size_push]; omega), get_set_eq]
    have k2 : H2.get (H.size + 1) = Var (H.size + 1) H.size (4 * T.length) := by rw [hx.get _ (by rw [Heap.size_set, Heap.size_push, Heap.size_push]; omega), get_set_ne (by omega), get_push_eq (by rw [Heap.size_push])]
    refine AOps.nil ?_
    refine athen_n ?_
    refine AWp.fixvar (t := 3) (bx := H.size + 1) (g := H.size) (by exact ivY) k2 k1 (by rw [ints_len]; omega) ?_
    have hn := numbered_z (l := s) (by omega)
    have e2 : FZ 1 s.length (ints (numL s)) = zI (vertL T) := by rw [hd]; unfold Zed.zI; rw [numL_len]
    rw [e2] at hn
    unfold Zed.zI at hn
    rw [hl, hel] at hn
    repeat' first | refine rnY ?_ | (first | refine ZCalls.to (hn) ?_ | refine ZCalls.tf (hn) ?_) | with_reducible refine And.intro (fun hc => ?_) (fun hc => ?_) | fail
    exact hQ.out _ _ (.eq (Cl.zI (vertL T)) (by unfold Zed.zI; rw [hel, hd])) (by exact exY)
end Go.Proofs.Ytibkopejnhihkaa.Zed
