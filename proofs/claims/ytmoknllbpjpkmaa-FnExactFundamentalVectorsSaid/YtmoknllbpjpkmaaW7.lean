/- A part of the walk: what functions of the program do, over an abstract heap. -/
import Derived.Test.YtmoknllbpjpkmaaW6
namespace Go.Proofs.Ytmoknllbpjpkmaa.Zed
open Go TP
set_option linter.unusedVariables false
set_option linter.unusedSimpArgs false
set_option maxRecDepth 20000
namespace tfW7
theorem tf : (Try.prog.underlying 25 = some (.slice 2)) ∧ (el Try.prog 25 = some (none, 1)) ∧ (Try.prog.underlying 29 = some (.slice 102)) ∧ (el Try.prog 29 = some (none, 1)) ∧ (Try.prog.underlying 102 = some (.slice 107)) ∧ (el Try.prog 102 = some (none, 2)) ∧ (Try.prog.underlying 144 = some (.array 4 2)) ∧ (el Try.prog 144 = some (some 4, 1)) ∧ (Try.prog.underlying 174 = some (.map 2 2)) ∧ (mk Try.prog 174 = some 2) ∧ (tk Try.prog 2 = some none) ∧ (tk Try.prog 25 = some none) ∧ (tk Try.prog 29 = some none) ∧ (tk Try.prog 31 = some (some 1)) ∧ (tk Try.prog 102 = some none) ∧ (tk Try.prog 107 = some (some 2)) ∧ (cz Try.prog 2 = some 1) ∧ (bz Try.prog 2 = some 8) ∧ (cz Try.prog 102 = some 1) ∧ (bz Try.prog 102 = some 24) ∧ (cz Try.prog 107 = some 2) ∧ (bz Try.prog 107 = some 16) ∧ (zr Try.prog 2 = some (.int .i64 0)) ∧ (zr Try.prog 25 = some (.slice none 0 0)) ∧ (zr Try.prog 102 = some (.slice none 0 0)) ∧ (zr Try.prog 107 = some (.agg #[.int .i64 0, .int .i64 0])) ∧ (fo Try.prog 31 0 = some (0, none)) ∧ (fo Try.prog 107 0 = some (0, none)) ∧ (fo Try.prog 107 1 = some (1, none)) := by
  refine ⟨?_, ?_, ?_, ?_, ?_, ?_, ?_, ?_, ?_, ?_, ?_, ?_, ?_, ?_, ?_, ?_, ?_, ?_, ?_, ?_, ?_, ?_, ?_, ?_, ?_, ?_, ?_, ?_, ?_⟩ <;> kernel_rfl
end tfW7
open tfW7

set_option maxHeartbeats 4000000 in
theorem edgeVisit_c {H : Heap} {bx g n : Nat} {s : List Int} (hn : n ≤ 1000) (hs : s.length = n) (hg : H.get g = .cells (ints s) 1 false) (hb : H.get bx = Var bx g n) (hne : bx ≠ g) (a f : Nat) (t p : Int) (ha : 6 * a + 6 ≤ n) (ht0 : 0 ≤ t) (ht : 6 * t + 6 ≤ n) (hf : f < 4) (hp0 : 0 ≤ p) (hp : p < 24) :
    ACalls Try.prog 168 [I a, I f, .agg #[I t, I p], .agg (ints (pmL p)).toArray, .pointer (some ⟨bx, 0, none⟩)] H fun u H' => u = undef ∧ Ext (H.set g (.cells (ints (edgeStep s a f (t, p))) 1 false)) H' := by
  have hpl := (pmL_bd p hp0 hp).1
  refine ACalls.body Try.func168 rfl Try.ntmps168 (rs := []) rfl (by simp) rfl fun Q hQ A hA => ?_
  have a0 := hA 0 _ _ rfl
  have a1 := hA 1 _ _ rfl
  have a2 := hA 2 _ _ rfl
  have a3 := hA 3 _ _ rfl
  have a4 := hA 4 _ _ rfl
  clear hA
  repeat' first | refine rnY ?_ | with_reducible refine And.intro (fun hc => ?_) (fun hc => ?_) | fail
  refine AWp.cut (fun Ac hAc => ?_)
  have c0 := gtY (t := 0) hAc
  have c1 := gtY (t := 1) hAc
  have c4 := gtY (t := 4) hAc
  have c7 := gtY (t := 7) hAc
  have c8 := gtY (t := 8) hAc
  have c12 := gtY (t := 12) hAc
  clear a0 a1 a2 a3 a4
  refine AWp.loop (fun A' H' => ∃ (k : Nat), Ag [9, 10, 11, 13, 14, 15, 16, 17, 18, 19, 20, 21, 22, 23, 24, 25, 26, 27, 28, 29, 30, 31, 32, 33, 34, 35, 36, 37, 38, 39, 40, 41, 42, 43, 44, 45] A' (put Ac (some 12) (I k)) ∧ k ≤ 6 ∧ H' = H.set g (.cells (ints (edgeTo s a f (t, p) k)) 1 false)) (fun A' _ => 6 - (intV (A' 12)).toNat) ?_ ?_
  · exact ⟨0, agY, by omega, by show H = H.set g (.cells (ints s) 1 false); rw [set_self hg]⟩
  · rintro A1 H1 ⟨k, hA, hk, rfl⟩
    have d0 := gdY (t := 0) hA
    have d1 := gdY (t := 1) hA
    have d4 := gdY (t := 4) hA
    have d7 := gdY (t := 7) hA
    have d8 := gdY (t := 8) hA
    have d12 := gdY (t := 12) hA
    by_cases hlt : k < 6
    · have hlen : (edgeTo s a f (t, p) k).length = n := by rw [edgeTo_len]; exact hs
      have hends := ends_z k hlt
      obtain ⟨u, v, hu, hv, hu4, hv4, huv⟩ := ends_bd k hlt
      have hst : edgeTo s a f (t, p) (k + 1) = if (u : Int) ≠ f ∧ (v : Int) ≠ f then unionL (edgeTo s a f (t, p) k) (6 * a + k) (6 * t + edgeN (pm p u) (pm p v)).toNat else edgeTo s a f (t, p) k := by rw [← hu, ← hv]; rfl
      rw [hu, hv] at hends
      generalize edgeTo s a f (t, p) k = old at hst hlen
      by_cases hfu : (u : Int) = f
      · have hst2 := hst.trans (if_neg (fun h => h.1 hfu))
        have hb0 : ((u : Int) == (f : Int)) = true := by rw [beq_iff_eq]; exact hfu
        clear hst hfu hu hv
        repeat' first | refine rnY ?_ | (first | refine ZCalls.to (hends) ?_ | refine ZCalls.tf (hends) ?_) | with_reducible refine And.intro (fun hc => ?_) (fun hc => ?_) | fail
        exact ⟨⟨k + 1, agY, by omega, by rw [hst2]⟩, by exact ivY⟩
      · have hb0 : ((u : Int) == (f : Int)) = false := by rw [beq_eq_false_iff_ne]; exact hfu
        by_cases hfv : (v : Int) = f
        · have hst2 := hst.trans (if_neg (fun h => h.2 hfv))
          have hb2 : ((v : Int) == (f : Int)) = true := by rw [beq_iff_eq]; exact hfv
          clear hst hfu hfv hu hv
          repeat' first | refine rnY ?_ | (first | refine ZCalls.to (hends) ?_ | refine ZCalls.tf (hends) ?_) | with_reducible refine And.intro (fun hc => ?_) (fun hc => ?_) | fail
          exact ⟨⟨k + 1, agY, by omega, by rw [hst2]⟩, by exact ivY⟩
        · have hst2 := hst.trans (if_pos ⟨hfu, hfv⟩)
          have hb2 : ((v : Int) == (f : Int)) = false := by rw [beq_eq_false_iff_ne]; exact hfv
          clear hst hfu hfv hu hv
          have hq := pm_inj p u v hp0 hp hu4 hv4 huv
          have hqu := pm_bd p u hp0 hp (by omega) (by omega)
          have hqv := pm_bd p v hp0 hp (by omega) (by omega)
          have hqqu : (pmL p).getD u 0 = pm p u := by unfold pm; rw [Int.toNat_natCast]
          have hqqv : (pmL p).getD v 0 = pm p v := by unfold pm; rw [Int.toNat_natCast]
          rw [hqqu, hqqv] at hq
          obtain ⟨x, hx⟩ : ∃ x : Nat, pm p u = (x : Int) := ⟨(pm p u).toNat, by omega⟩
          obtain ⟨y, hy⟩ : ∃ y : Nat, pm p v = (y : Int) := ⟨(pm p v).toNat, by omega⟩
          rw [hx] at hq hqu hst2 hqqu
          rw [hy] at hq hqv hst2 hqqv
          obtain ⟨m, hm, hm6⟩ := edgeN_bd x y (by omega) (by omega) (by omega)
          have hedge := edge_z _ _ hqu.1 (by omega) hqv.1 (by omega) hq
          rw [hm] at hst2 hedge
          have hst3 : edgeTo s a f (t, p) (k + 1) = unionL old (6 * (a : Int) + k).toNat (6 * t + (m : Int)).toNat := by rw [hst2]; congr 1
          clear hst2 hx hy
          repeat' first | refine rnY ?_ | (first | refine ZCalls.to (hends) ?_ | refine ZCalls.tf (hends) ?_) | with_reducible refine And.intro (fun hc => ?_) (fun hc => ?_) | fail
          refine AWp.zreg [(0, none), (1, none), (2, none), (3, none), (4, none), (5, none), (6, none), (7, none), (8, none), (9, none), (10, none), (11, none), (12, none), (13, none), (14, none), (15, none), (16, some [0, 6, 10, 13])] mixed (by kernel_rfl) ?_
          repeat' first | refine rzY ?_ | (first | refine ZCalls.to (hedge) ?_ | refine ZCalls.tf (hedge) ?_) | (refine (union_c get_set_eq hlen (by omega) (by omega) (by omega) (by omega) (by omega)).mono ?_; rintro u H4 ⟨rfl, rfl⟩; rw [set_set]; refine hgY ?_) | fail
          repeat' first | refine rnY ?_ | with_reducible refine And.intro (fun hc => ?_) (fun hc => ?_) | fail
          exact ⟨⟨k + 1, agY, by omega, by rw [hst3]⟩, by exact ivY⟩
    · obtain rfl : k = 6 := by omega
      repeat' first | refine rnY ?_ | with_reducible refine And.intro (fun hc => ?_) (fun hc => ?_) | fail
      exact hQ.out _ _ ⟨rfl, Ext.refl _⟩
theorem numbered_nil : ZCalls Try.prog 171 [FZ 1 0 []] (FZ 1 0 []) := numbered_z (l := []) (by simp)
set_option maxHeartbeats 1000000 in
theorem glued_nil (F : FuncId) (x : Value) : ZCalls Try.prog 164 [zT [], .func (.func F) #[] #[x]] undef := by
  refine ZCalls.body Try.func164 rfl Try.ntmps164 (rs := []) rfl (by simp) rfl fun H Q hQ A hA => ?_
  have a0 := hA 0 _ _ rfl
  have a1 := hA 1 _ _ rfl
  clear hA
  repeat' first | refine rnY ?_ | with_reducible refine And.intro (fun hc => ?_) (fun hc => ?_) | fail
  refine AWp.unroll ?_
  repeat' first | refine rnY ?_ | (refine AWp.unroll ?_) | (refine AIn.step ?_) | with_reducible refine And.intro (fun hc => ?_) (fun hc => ?_) | fail
  exact hQ.out _ _ (.eq (Cl.tuple (l := []) Cl.nil) (by rfl)) (by exact exY)
set_option maxHeartbeats 1000000 in
theorem edgeClasses_z {T : List (List (Int × Int))} (hF : Fine T) : ZCalls Try.prog 121 [zT T] (zI (edgeL T)) := by
  have h8 := hF.1
  have hcl := cntL_len (6 * T.length)
  have hl := glT_len (step := edgeStep) (fun _ _ _ _ => edgeTo_len _ _ _ _ _) (cntL (6 * T.length)) T T.length
  have hel := edgeL_len T
  have hcount := counting_o (6 * T.length) (by omega)
  rw [show ((6 * T.length : Nat) : Int) = 6 * (T.length : Int) by omega] at hcount
  refine ZCalls.body Try.func121 rfl Try.ntmps121 (rs := [.tmp 2]) rfl (by simp) rfl fun H Q hQ A hA => ?_
  have a0 := hA 0 _ _ rfl
  clear hA
  repeat' first | refine rnY ?_ | (first | refine ZCalls.to (size_z _ _ _) ?_ | refine ZCalls.tf (size_z _ _ _) ?_) | (refine (hcount _).mono ?_; rintro u H1 (⟨rfl, h0, rfl⟩ | ⟨rfl, rfl⟩)) | with_reducible refine And.intro (fun hc => ?_) (fun hc => ?_) | fail
  · have h00 : T.length = 0 := by omega
    obtain rfl : T = [] := List.eq_nil_of_length_eq_zero h00
    refine ACalls.mono (glued_nil _ _ _) ?_
    rintro u H2 ⟨rfl, rfl⟩
    have e0 : zI (edgeL []) = FZ 1 0 [] := rfl
    rw [e0] at hQ
    repeat' first | refine rnY ?_ | (first | refine ZCalls.to (numbered_nil) ?_ | refine ZCalls.tf (numbered_nil) ?_) | with_reducible refine And.intro (fun hc => ?_) (fun hc => ?_) | fail
    exact hQ.out _ _ (.cl (Cl.fz Cl.nil)) (by exact exY)
  · refine ACalls.mono (glued_c hF 168 H.size (H.size + 1) (6 * T.length) edgeStep (cntL (6 * T.length)) (fun _ _ _ _ => edgeTo_len _ _ _ _ _)
      (fun H' s a f t p hs hg hb hb1 hg1 ha hf ht0 ht hp0 hp => edgeVisit_c (by omega) hs hg hb (by omega) a f t p (by omega) ht0 (by omega) hf hp0 hp) hcl (by rw [get_push_lt (by rw [Heap.size_push]; omega), get_push_eq rfl]) (by rw [get_push_eq (by rw [Heap.size_push])]) (by omega) (by rw [Heap.size_push, Heap.size_push]; omega) (by rw [Heap.size_push, Heap.size_push]; omega)) ?_
    rintro u H2 ⟨rfl, hx⟩
    rw [hcl] at hl
    have hd : edgeL T = numL (glT edgeStep (cntL (6 * T.length)) T T.length) := rfl
    generalize glT edgeStep (cntL (6 * T.length)) T T.length = s at hx hl hd
    have k1 : H2.get H.size = .cells (ints s) 1 false := by rw [hx.get _ (by rw [Heap.size_set, Heap.size_push, Heap.size_push]; omega), get_set_eq]
    have k2 : H2.get (H.size + 1) = Var (H.size + 1) H.size (6 * T.length) := by rw [hx.get _ (by rw [Heap.size_set, Heap.size_push, Heap.size_push]; omega), get_set_ne (by omega), get_push_eq (by rw [Heap.size_push])]
    refine AOps.nil ?_
    refine athen_n ?_
    refine AWp.fixvar (t := 3) (bx := H.size + 1) (g := H.size) (by exact ivY) k2 k1 (by rw [ints_len]; omega) ?_
    have hn := numbered_z (l := s) (by omega)
    have e2 : FZ 1 s.length (ints (numL s)) = zI (edgeL T) := by rw [hd]; unfold Zed.zI; rw [numL_len]
    rw [e2] at hn
    unfold Zed.zI at hn
    rw [hl, hel] at hn
    repeat' first | refine rnY ?_ | (first | refine ZCalls.to (hn) ?_ | refine ZCalls.tf (hn) ?_) | with_reducible refine And.intro (fun hc => ?_) (fun hc => ?_) | fail
    exact hQ.out _ _ (.eq (Cl.zI (edgeL T)) (by unfold Zed.zI; rw [hel, hd])) (by exact exY)
end Go.Proofs.Ytmoknllbpjpkmaa.Zed
