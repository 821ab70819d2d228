/- A part of the walk: what functions of the program do, over an abstract heap. -/
import Derived.Test.YtmoknllbpjpkmaaW7
namespace Go.Proofs.Ytmoknllbpjpkmaa.Zed
open Go TP
set_option linter.unusedVariables false
set_option linter.unusedSimpArgs false
set_option maxRecDepth 20000
namespace tfW8
theorem tf : (Try.prog.underlying 25 = some (.slice 2)) ∧ (el Try.prog 25 = some (none, 1)) ∧ (tk Try.prog 2 = some none) ∧ (tk Try.prog 25 = some none) ∧ (cz Try.prog 2 = some 1) ∧ (bz Try.prog 2 = some 8) ∧ (zr Try.prog 2 = some (.int .i64 0)) := by
  refine ⟨?_, ?_, ?_, ?_, ?_, ?_, ?_⟩ <;> kernel_rfl
end tfW8
open tfW8

set_option maxHeartbeats 1000000 in
theorem index_z {l : List Int} (hl : l.length ≤ 1048576) (x : Int) : ZCalls Try.prog 131 [zI l, I x] (I (fidx (fun y => x == y) l)) := by
  refine ZCalls.body Try.func131 rfl Try.ntmps131 (rs := [.tmp 4]) rfl (by simp) rfl fun H Q hQ A hA => ?_
  have a0 := hA 0 _ _ rfl
  have a1 := hA 1 _ _ rfl
  clear hA
  repeat' first | refine rnY ?_ | with_reducible refine And.intro (fun hc => ?_) (fun hc => ?_) | fail
  refine AWp.cut (fun Ac hAc => ?_)
  have c0 := gtY (t := 0) hAc
  have c1 := gtY (t := 1) hAc
  have c7 := gtY (t := 7) hAc
  have c8 := gtY (t := 8) hAc
  clear a0 a1
  refine AWp.loop (fun A' H' => ∃ (k : Nat), Ag [5, 9, 10, 11, 12, 13, 14, 15, 16, 17, 18] A' (put Ac (some 8) (I k)) ∧ k ≤ l.length ∧ (∀ i, i < k → (x == l.getD i 0) = false) ∧ Ext H H') (fun A' _ => l.length - (intV (A' 8)).toNat) ?_ ?_
  · exact ⟨0, agY, by omega, fun i hi => by omega, by exact exY⟩
  · rintro A1 H1 ⟨k, hA, hk, hno, hx⟩
    have d0 := gdY (t := 0) hA
    have d1 := gdY (t := 1) hA
    have d7 := gdY (t := 7) hA
    have d8 := gdY (t := 8) hA
    by_cases hlt : k < l.length
    · cases hp : (x == l.getD k 0)
      · repeat' first | refine rnY ?_ | with_reducible refine And.intro (fun hc => ?_) (fun hc => ?_) | fail
        exact ⟨⟨k + 1, agY, by omega, all_succ hno hp, by exact exY⟩, by exact ivY⟩
      · repeat' first | refine rnY ?_ | with_reducible refine And.intro (fun hc => ?_) (fun hc => ?_) | fail
        exact hQ.out _ _ (.eq (Cl.int _ _) (by rw [fidx_at 0 hno hlt hp])) (by exact exY)
    · obtain rfl : k = l.length := by omega
      repeat' first | refine rnY ?_ | with_reducible refine And.intro (fun hc => ?_) (fun hc => ?_) | fail
      exact hQ.out _ _ (.eq (Cl.int _ _) (by rw [fidx_no 0 hno])) (by exact exY)
theorem contains_z {l : List Int} (hl : l.length ≤ 1048576) (x : Int) : ZCalls Try.prog 76 [zI l, I x] (B (decide (x ∈ l))) := by
  refine ZCalls.body Try.func76 rfl Try.ntmps76 (rs := [.tmp 4]) rfl (by simp) rfl fun H Q hQ A hA => ?_
  have a0 := hA 0 _ _ rfl
  have a1 := hA 1 _ _ rfl
  clear hA
  repeat' first | refine rnY ?_ | (first | refine ZCalls.to (index_z hl x) ?_ | refine ZCalls.tf (index_z hl x) ?_) | with_reducible refine And.intro (fun hc => ?_) (fun hc => ?_) | fail
  exact hQ.out _ _ (.eq (Cl.bool _) (by rw [fidx_ge]; congr 1; rw [Bool.eq_iff_iff]; simp)) (by exact exY)
theorem othersFn_z {l : List Int} (hl : l.length ≤ 1048576) (x : Int) : ZCalls Try.prog 191 [I x, PZ [zI l] 0] (B (decide (x ∈ l))) := by
  refine ZCalls.body Try.func191 rfl Try.ntmps191 (rs := [.tmp 3]) rfl (by simp) rfl fun H Q hQ A hA => ?_
  have a0 := hA 0 _ _ rfl
  have a1 := hA 1 _ _ rfl
  clear hA
  repeat' first | refine rnY ?_ | (first | refine ZCalls.to (contains_z hl x) ?_ | refine ZCalls.tf (contains_z hl x) ?_) | with_reducible refine And.intro (fun hc => ?_) (fun hc => ?_) | fail
  exact hQ.out _ _ (fv) (by exact exY)
def slH (e : Option (Option Nat × Nat)) (b : Blk) (a : Addr) (n : Nat) (lo hi : Option Value) (K : Value → Prop) : Prop := match e, b with
  | some (none, s), .cells cs es ro => es = s ∧ a.spot = none ∧ bnd lo 0 fun l => bnd hi n fun h => l ≤ h ∧ (h ≤ n ∨ (ro = false ∧ a.off + h * s ≤ cs.length)) ∧
      (¬ (l = 0 ∨ l < n ∨ (ro = false ∧ a.off + l * s < cs.length)) → K (.slice (some ⟨a.block, a.off, none⟩) (h - l) 1)) ∧ K (.slice (some ⟨a.block, a.off + l * s, none⟩) (h - l) 0)
  | _, _ => False
theorem slHe (s : Nat) (cs : List Value) (es : Nat) (ro : Bool) (a : Addr) (n : Nat) (lo hi : Option Value) (K : Value → Prop) : slH (some (none, s)) (.cells cs es ro) a n lo hi K = (es = s ∧ a.spot = none ∧ bnd lo 0 fun l => bnd hi n fun h => l ≤ h ∧ (h ≤ n ∨ (ro = false ∧ a.off + h * s ≤ cs.length)) ∧
      (¬ (l = 0 ∨ l < n ∨ (ro = false ∧ a.off + l * s < cs.length)) → K (.slice (some ⟨a.block, a.off, none⟩) (h - l) 1)) ∧ K (.slice (some ⟨a.block, a.off + l * s, none⟩) (h - l) 0)) := rfl
theorem sl0K {P : Program} {t : TypeId} {H : Heap} {a : Addr} {n : Nat} {lo hi : Option Value} {K : Value → Prop} (hn : ∀ e, el P t = some e → e.1 = none) : sliceK P t H (.slice (some a) n 0) lo hi none K = slH (el P t) (H.get a.block) a n lo hi K := by
  unfold sliceK slH
  cases he : el P t with
  | none => rfl
  | some e =>
    obtain ⟨e1, e2⟩ := e
    have : e1 = none := hn _ he
    subst this
    cases hb : H.get a.block <;> simp only [hb]
section
variable {H : Heap} {g : Nat} {cap : Value} {l : List Int} {F : FuncId} {pr : Int → Bool}
set_option maxHeartbeats 1000000 in
theorem indexF_c (hg : H.get g = .cells (ints l) 1 false) (hl : l.length ≤ 100000) (hF : ∀ x, ZCalls Try.prog F [I x, cap] (B (pr x))) :
    ACalls Try.prog 138 [.slice (some ⟨g, 0, none⟩) l.length 0, .func (.func F) #[] #[cap]] H fun u H' => u = I (fidx pr l) ∧ H' = H := by
  refine ACalls.body Try.func138 rfl Try.ntmps138 (rs := [.tmp 4]) rfl (by simp) rfl fun Q hQ A hA => ?_
  have a0 := hA 0 _ _ rfl
  have a1 := hA 1 _ _ rfl
  clear hA
  repeat' first | refine rnY ?_ | with_reducible refine And.intro (fun hc => ?_) (fun hc => ?_) | fail
  refine AWp.cut (fun Ac hAc => ?_)
  have c0 := gtY (t := 0) hAc
  have c1 := gtY (t := 1) hAc
  have c7 := gtY (t := 7) hAc
  have c8 := gtY (t := 8) hAc
  clear a0 a1
  refine AWp.loop (fun A' H' => ∃ (k : Nat), Ag [5, 9, 10, 11, 12, 13, 14, 15, 16, 17, 18] A' (put Ac (some 8) (I k)) ∧ k ≤ l.length ∧ (∀ i, i < k → pr (l.getD i 0) = false) ∧ H' = H) (fun A' _ => l.length - (intV (A' 8)).toNat) ?_ ?_
  · exact ⟨0, agY, by omega, fun i hi => by omega, rfl⟩
  · rintro A1 H1 ⟨k, hA, hk, hno, rfl⟩
    have d0 := gdY (t := 0) hA
    have d1 := gdY (t := 1) hA
    have d7 := gdY (t := 7) hA
    have d8 := gdY (t := 8) hA
    by_cases hlt : k < l.length
    · have hFk := hF (l.getD k 0)
      cases hp : pr (l.getD k 0)
      · rw [hp] at hFk
        repeat' first | refine rnY ?_ | (first | refine ZCalls.to (hFk) ?_ | refine ZCalls.tf (hFk) ?_) | with_reducible refine And.intro (fun hc => ?_) (fun hc => ?_) | fail
        exact ⟨⟨k + 1, agY, by omega, all_succ hno hp, rfl⟩, by exact ivY⟩
      · rw [hp] at hFk
        repeat' first | refine rnY ?_ | (first | refine ZCalls.to (hFk) ?_ | refine ZCalls.tf (hFk) ?_) | with_reducible refine And.intro (fun hc => ?_) (fun hc => ?_) | fail
        exact hQ.out _ _ ⟨by rw [fidx_at 0 hno hlt hp], rfl⟩
    · obtain rfl : k = l.length := by omega
      repeat' first | refine rnY ?_ | with_reducible refine And.intro (fun hc => ?_) (fun hc => ?_) | fail
      exact hQ.out _ _ ⟨by rw [fidx_no 0 hno], rfl⟩
theorem FinV.ints {lo : Nat} {H : Heap} {g c : Nat} {l rest : List Int} (hg : lo ≤ g) (hget : H.get g = .cells (Zed.ints (l ++ rest)) 1 false) : FinV lo H (.slice (some ⟨g, 0, none⟩) l.length c) (zI l) :=
  .own hg hget (by rw [ints_len, List.length_append]; omega) (by rw [ints_len, Nat.mul_one]) (fun i x r hx hr => by
    have hr2 := hr
    unfold Zed.ints at hx hr
    rw [List.getElem?_map] at hx hr
    have hi : i < l.length := by
      have := (List.getElem?_eq_some_iff.1 hr2).1
      simpa [Zed.ints] using this
    rw [Nat.zero_add, List.getElem?_append_left hi] at hx
    have e : some x = some r := hx.symm.trans hr
    cases e
    obtain ⟨y, _, rfl⟩ := Option.map_eq_some_iff.1 hx
    exact .cl (Cl.int _ _))
theorem set_take' {l : List Int} {i : Nat} {x : Int} (h : i < l.length) : (l.set i x).take (i + 1) = l.take i ++ [x] := by
  rw [List.take_succ_eq_append_getElem (by simpa using h)]
  rw [List.getElem_set_self, List.take_set, List.set_eq_of_length_le (by rw [List.length_take]; omega)]
theorem fidx_some {α : Type} {p : α → Bool} {l : List α} (d : α) {j0 : Nat} (hj0 : j0 < l.length) (hp : p (l.getD j0 d) = true) : ∃ j : Nat, fidx p l = j ∧ j < l.length ∧ p (l.getD j d) = true ∧ ∀ i, i < j → p (l.getD i d) = false := by
  cases h : l.findIdx? p with
  | none =>
    rw [List.findIdx?_eq_none_iff] at h
    have := h (l.getD j0 d) (by simp [hj0])
    rw [hp] at this; cases this
  | some j =>
    rw [List.findIdx?_eq_some_iff_getElem] at h
    obtain ⟨hi, hp, hq⟩ := h
    have h' : l.findIdx? p = some j := by rw [List.findIdx?_eq_some_iff_getElem]; exact ⟨hi, hp, hq⟩
    refine ⟨j, by unfold fidx; rw [h'], hi, by simpa [hi] using hp, fun i hij => ?_⟩
    have := hq i hij
    simpa [show i < l.length by omega] using this
set_option maxHeartbeats 2000000 in
theorem deleteFunc_c (hg : H.get g = .cells (ints l) 1 false) (hl : l.length ≤ 100000) (j0 : Nat) (hj0 : j0 < l.length) (hpj : pr (l.getD j0 0) = true)
    (hF : ∀ x, ZCalls Try.prog F [I x, cap] (B (pr x))) :
    ACalls Try.prog 190 [.slice (some ⟨g, 0, none⟩) l.length 0, .func (.func F) #[] #[cap]] H fun u H' => u = .slice (some ⟨g, 0, none⟩) (l.filter fun x => !pr x).length 0 ∧ ∃ rest, H' = H.set g (.cells (ints (l.filter (fun x => !pr x) ++ rest)) 1 false) := by
  obtain ⟨j, hfi, hj, hpr, hno⟩ := fidx_some 0 hj0 hpj
  have hidx := indexF_c hg hl hF
  rw [hfi] at hidx
  clear hfi hpj hj0
  have hne : ((j : Int) == -1) = false := by rw [beq_eq_false_iff_ne]; omega
  refine ACalls.body Try.func190 rfl Try.ntmps190 (rs := [.tmp 4]) rfl (by simp) rfl fun Q hQ A hA => ?_
  have a0 := hA 0 _ _ rfl
  have a1 := hA 1 _ _ rfl
  clear hA
  repeat' first | refine rnY ?_ | (refine hidx.mono ?_; rintro u H1 ⟨rfl, rfl⟩) | with_reducible refine And.intro (fun hc => ?_) (fun hc => ?_) | fail
  have hflt : (l.take j).filter (fun x => !pr x) = l.take j := by
    rw [List.filter_eq_self]
    intro x hx
    obtain ⟨i, hi, e⟩ := List.mem_iff_getElem.1 hx
    rw [List.length_take] at hi
    have := hno i (by omega)
    rw [List.getElem_take] at e
    rw [List.getD_eq_getElem?_getD, List.getElem?_eq_getElem (by omega)] at this
    simp only [Option.getD_some, e] at this
    rw [this]; rfl
  clear hidx
  refine AWp.cut (fun Ac hAc => ?_)
  have c0 := gtY (t := 0) hAc
  have c1 := gtY (t := 1) hAc
  have c5 := gtY (t := 5) hAc
  have c6 := gtY (t := 6) hAc
  clear a0 a1
  refine AWp.loop (fun A' H' => ∃ (m i : Nat) (cs : List Int), Ag [7, 16, 17, 18, 19, 20, 21, 22, 23, 24, 25, 26, 27, 28, 29, 30, 31, 32, 33, 34, 35] A' (put (put Ac (some 5) (I i)) (some 6) (I m)) ∧ m ≤ l.length ∧ i < m ∧ cs.length = l.length ∧ cs.take i = (l.take m).filter (fun x => !pr x) ∧ cs.drop m = l.drop m ∧ H' = H1.set g (.cells (ints cs) 1 false)) (fun A' _ => l.length - (intV (A' 6)).toNat) ?_ ?_
  · refine ⟨j + 1, j, l, agY, by omega, by omega, rfl, ?_, rfl, by rw [set_self hg]⟩
    rw [List.take_succ_eq_append_getElem hj, List.filter_append, hflt]
    rw [List.getD_eq_getElem?_getD, List.getElem?_eq_getElem hj] at hpr
    simp only [Option.getD_some] at hpr
    simp [hpr]
  · clear hno hpr hflt hne
    rintro A2 H2 ⟨m, i, cs, hA, hm, him, hcl, htk, hdr, rfl⟩
    have d0 := gdY (t := 0) hA
    have d1 := gdY (t := 1) hA
    have d5 := gdY (t := 5) hA
    have d6 := gdY (t := 6) hA
    by_cases hlt : m < l.length
    · have hFm := hF (l.getD m 0)
      have hcm : cs.getD m 0 = l.getD m 0 := by
        have h0 : (cs.drop m)[0]? = (l.drop m)[0]? := by rw [hdr]
        rw [List.getElem?_drop, List.getElem?_drop, Nat.add_zero] at h0
        simp only [List.getD_eq_getElem?_getD, h0]
      have hd2 : ∀ c2 : List Int, c2.drop m = l.drop m → c2.drop (m + 1) = l.drop (m + 1) := fun c2 h => by
        rw [← List.drop_drop, h, List.drop_drop]
      have hts : (l.take (m + 1)).filter (fun x => !pr x) = (l.take m).filter (fun x => !pr x) ++ if pr (l.getD m 0) = true then [] else [l.getD m 0] := by
        rw [List.take_succ_eq_append_getElem hlt, List.filter_append]
        congr 1
        rw [show l.getD m 0 = l[m] by simp [hlt]]
        cases hq : pr l[m] <;> simp [hq]
      clear hF
      rcases hpr : pr (l.getD m 0) with _ | _
      · rw [hpr] at hFm hts
        rw [if_neg (by simp)] at hts
        generalize l.getD m 0 = y at *
        repeat' first | refine rnY ?_ | (first | refine ZCalls.to (hFm) ?_ | refine ZCalls.tf (hFm) ?_) | with_reducible refine And.intro (fun hc => ?_) (fun hc => ?_) | fail
        refine ⟨⟨m + 1, i + 1, cs.set i y, agY, by omega, by omega, by rw [List.length_set, hcl], ?_, ?_, by exact ivY⟩, by exact ivY⟩
        · rw [hts, set_take' (by omega), htk]
        · rw [List.drop_set_of_lt (by omega)]; exact hd2 _ hdr
      · rw [hpr] at hFm hts
        rw [if_pos rfl, List.append_nil] at hts
        generalize l.getD m 0 = y at *
        repeat' first | refine rnY ?_ | (first | refine ZCalls.to (hFm) ?_ | refine ZCalls.tf (hFm) ?_) | with_reducible refine And.intro (fun hc => ?_) (fun hc => ?_) | fail
        exact ⟨⟨m + 1, i, cs, agY, by omega, by omega, hcl, by rw [hts, htk], hd2 _ hdr, by exact ivY⟩, by exact ivY⟩
    · obtain rfl : m = l.length := by omega
      rw [List.take_length] at htk
      have hil : (l.filter fun x => !pr x).length = i := by rw [← htk, List.length_take]; omega
      have hni : ¬ l.length - i = 0 := by omega
      have hii : i + (l.length - i) = l.length := by omega
      clear hF
      have hel : ∀ (cs : List Value) (lo hi : Option Value) (K : Value → Prop), sliceK Try.prog 25 (H1.set g (.cells cs 1 false)) (.slice (some ⟨g, 0, none⟩) l.length 0) lo hi none K = slH (el Try.prog 25) (.cells cs 1 false) ⟨g, 0, none⟩ l.length lo hi K := fun cs lo hi K => by rw [sl0K (fun e he => by cases he; rfl), get_set_eq]
      have zf0 := @slHe
      have zf1 := @set_set
      have zf2 := @zero1
      have zf3 := @rep_ints
      repeat' first | refine rnY ?_ | with_reducible refine And.intro (fun hc => ?_) (fun hc => ?_) | fail
      refine hQ.out _ _ ⟨?_, List.replicate (l.length - i) 0, ?_⟩
      · rw [hil]
      · rw [List.drop_length, List.append_nil]
end
set_option maxHeartbeats 1000000 in
theorem others_z (l : List Int) (hl : l.length ≤ 1048576) (hm : ∃ j, j < 4 ∧ (cntL 4).getD j 0 ∈ l) : ZCalls Try.prog 166 [zI l] (zI (othersL l)) := by
  have hcl : (cntL 4).length = 4 := rfl
  have hcount := counting_o 4 (by omega)
  obtain ⟨j0, hj0, hpj⟩ := hm
  refine ZCalls.body Try.func166 rfl Try.ntmps166 (rs := [.tmp 2]) rfl (by simp) rfl fun H Q hQ A hA => ?_
  have a0 := hA 0 _ _ rfl
  clear hA
  repeat' first | refine rnY ?_ | (refine (hcount _).mono ?_; rintro u H1 (⟨rfl, h0, rfl⟩ | ⟨rfl, rfl⟩)) | with_reducible refine And.intro (fun hc => ?_) (fun hc => ?_) | fail
  · omega
  refine ACalls.mono (deleteFunc_c (l := cntL 4) (pr := fun x => decide (x ∈ l)) (get_push_eq rfl) (by omega) j0 (by omega) (by simpa using hpj) (fun x => othersFn_z hl x)) ?_
  rintro u H2 ⟨rfl, rest, rfl⟩
  repeat' first | refine rnY ?_ | with_reducible refine And.intro (fun hc => ?_) (fun hc => ?_) | fail
  exact hQ.out _ _ (FinV.ints (l := othersL l) (rest := rest) (Nat.le_refl _) (get_push_eq rfl)) (by exact exY)
end Go.Proofs.Ytmoknllbpjpkmaa.Zed
