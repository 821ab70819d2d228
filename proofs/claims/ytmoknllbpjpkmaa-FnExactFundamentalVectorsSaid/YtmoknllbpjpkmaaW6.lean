/- A part of the walk: what functions of the program do, over an abstract heap. -/
import Derived.Test.YtmoknllbpjpkmaaW5
namespace Go.Proofs.Ytmoknllbpjpkmaa.Zed
open Go TP
set_option linter.unusedVariables false
set_option linter.unusedSimpArgs false
set_option maxRecDepth 20000
namespace tfW6
theorem tf : (Try.prog.underlying 29 = some (.slice 102)) ∧ (el Try.prog 29 = some (none, 1)) ∧ (Try.prog.underlying 102 = some (.slice 107)) ∧ (el Try.prog 102 = some (none, 2)) ∧ (Try.prog.underlying 144 = some (.array 4 2)) ∧ (el Try.prog 144 = some (some 4, 1)) ∧ (tk Try.prog 2 = some none) ∧ (tk Try.prog 29 = some none) ∧ (tk Try.prog 102 = some none) ∧ (tk Try.prog 107 = some (some 2)) ∧ (cz Try.prog 2 = some 1) ∧ (bz Try.prog 2 = some 8) ∧ (cz Try.prog 102 = some 1) ∧ (bz Try.prog 102 = some 24) ∧ (cz Try.prog 107 = some 2) ∧ (bz Try.prog 107 = some 16) ∧ (zr Try.prog 2 = some (.int .i64 0)) ∧ (zr Try.prog 102 = some (.slice none 0 0)) ∧ (zr Try.prog 107 = some (.agg #[.int .i64 0, .int .i64 0])) ∧ (fo Try.prog 31 0 = some (0, none)) ∧ (fo Try.prog 107 1 = some (1, none)) := by
  refine ⟨?_, ?_, ?_, ?_, ?_, ?_, ?_, ?_, ?_, ?_, ?_, ?_, ?_, ?_, ?_, ?_, ?_, ?_, ?_, ?_, ?_⟩ <;> kernel_rfl
end tfW6
open tfW6

theorem IsTri.fine {T : List (List (Int × Int))} (h : IsTri T) : Fine T := by
  refine ⟨h.1, fun a ha => ⟨h.2.1 a ha, fun f hf h0 => ?_⟩⟩
  have := h.2.2 a ha f hf
  rw [gd_def] at this
  change 0 ≤ (fc T a f).1 at h0
  show (fc T a f).1 < _ ∧ 0 ≤ (fc T a f).2 ∧ (fc T a f).2 < 24
  rw [if_neg (by omega)] at this
  omega
section
variable {P : Program} {m : Nat} {c : Code} {Q : Exit → Fr → Heap → Prop} {A : Fr} {H : Heap}
/-- A variable and the row behind it are frozen. -/
theorem AWp.fixvar {t bx g n k es : Nat} {cs : List Value} (hA : A t = .pointer (some ⟨bx, 0, none⟩)) (hb : H.get bx = .cells [.slice (some ⟨g, 0, none⟩) n k] 1 false) (hg : H.get g = .cells cs es false) (hl : n * es = cs.length) (gg : AWp P m c Q (put A (some t) (PZ [FZ es n cs] 0)) ((H.set bx .dead).set g .dead)) : AWp P m c Q A H := by
  refine AWp.ghost (fun φ a w hs => ?_) gg
  obtain ⟨h1, h2⟩ := hs.holds.ice (H' := (H.set bx .dead).set g .dead) (fun x => x = bx ∨ x = g) (fun x hx => by rcases hx with rfl | rfl; rw [hb]; rfl; rw [hg]; rfl) rfl (fun b hb => by rw [get_set_ne (fun e => hb (.inr e)), get_set_ne (fun e => hb (.inl e))]) (fun b hb => by
    by_cases e : b = g
    · rw [e]; exact get_set_eq
    · rw [get_set_ne e]; rcases hb with rfl | rfl
      · exact get_set_eq
      · exact absurd rfl e)
  have hs2 := hs.step h2 h1
  refine ⟨_, ⟨hs.defers, hs.size, fun s v hv => ?_, fun s hs' => ?_, h1⟩, h2⟩
  · rw [put_at]
    split
    · rename_i e
      subst e
      have hr := hs.tmp s v hv
      rw [hA] at hr
      obtain ⟨_, _, rfl⟩ := hr.ptr_inv
      obtain ⟨u, hu1, hu2⟩ := hs.holds.cell bx _ 1 false hb 0 _ rfl
      refine .pz (φ bx).blk (φ bx).base 0 [FZ es n cs] (fun i => (w.cell? ⟨(φ bx).blk, (φ bx).base + i, none⟩).getD undef) (fun i hi => ?_) (fun i x hi => ?_)
      · have : i = 0 := by simpa using hi
        subst this
        rw [ice_in (G := fun x => x = bx ∨ x = g) ⟨bx, .inl rfl, rfl⟩, hu1]
        rfl
      · have : i = 0 := by
          have := (List.getElem?_eq_some_iff.1 hi).1
          simpa using this
        subst this
        cases hi
        rw [hu1]
        obtain ⟨_, _, c', rfl, hnc, _⟩ := hu2.slice_inv (.inl rfl)
        have hes := (hs.holds.es g cs es false hg).2
        refine .fz es n c' (φ g).blk ((φ g).base + 0) _ (fun i => (w.cell? ⟨(φ g).blk, (φ g).base + 0 + i, none⟩).getD undef) hes hl.symm hnc (fun i hi => ?_) (fun i x hi => ?_)
        · obtain ⟨u, hu1, _⟩ := hs.holds.cell g cs es false hg i _ (List.getElem?_eq_getElem hi)
          rw [ice_in (G := fun x => x = bx ∨ x = g) ⟨g, .inr rfl, rfl⟩]
          rw [Nat.add_zero, hu1]; rfl
        · obtain ⟨u, hu1, hu2⟩ := hs.holds.cell g cs es false hg i x hi
          rw [Nat.add_zero, hu1]
          exact hu2.mono h2.mono
    · exact hs2.tmp s v hv
  · rw [put_at]
    split
    · rename_i e
      subst e
      have := hs.out s hs'
      rw [hA] at this; cases this
    · exact hs.out s hs'
end
/-- A row at g behind the variable at bx. -/
abbrev Var (bx g n : Nat) : Blk := .cells [.slice (some ⟨g, 0, none⟩) n 0] 1 false
theorem Ext.reset {H H2 : Heap} {g : Nat} {x : Blk} (h : Ext (H.set g x) H2) (y : Blk) : Ext (H.set g y) (H2.set g y) := by
  have hs := h.size
  rw [Heap.size_set] at hs
  refine ⟨by rw [Heap.size_set, Heap.size_set]; exact hs, fun b hb => ?_⟩
  rw [Heap.size_set] at hb
  by_cases e : b = g
  · subst e; rw [get_set_eq, get_set_eq]
  · rw [get_set_ne e, get_set_ne e, h.get b (by rw [Heap.size_set]; exact hb), get_set_ne e]
set_option maxHeartbeats 2000000 in
theorem glued_c {T : List (List (Int × Int))} (hF : Fine T) (F : FuncId) (g bx n : Nat) (step : List Int → Nat → Nat → Int × Int → List Int) (s : List Int) (hst : ∀ s a f x, (step s a f x).length = s.length)
    (visit : ∀ (H : Heap) (s : List Int) (a f : Nat) (t p : Int), s.length = n → H.get g = .cells (ints s) 1 false → H.get bx = Var bx g n → bx < H.size → g < H.size → a < T.length → f < 4 → 0 ≤ t → t < T.length → 0 ≤ p → p < 24 →
      ACalls Try.prog F [I a, I f, .agg #[I t, I p], .agg (ints (pmL p)).toArray, .pointer (some ⟨bx, 0, none⟩)] H fun u H' => u = undef ∧ Ext (H.set g (.cells (ints (step s a f (t, p))) 1 false)) H')
    {H : Heap} (hs : s.length = n) (hg : H.get g = .cells (ints s) 1 false) (hb : H.get bx = Var bx g n) (hne : bx ≠ g) (hgs : g < H.size) (hbs : bx < H.size) :
    ACalls Try.prog 164 [zT T, .func (.func F) #[] #[.pointer (some ⟨bx, 0, none⟩)]] H fun u H' => u = undef ∧ Ext (H.set g (.cells (ints (glT step s T T.length)) 1 false)) H' := by
  have h8 := hF.1
  have h4 : ∀ a, a < T.length → (T.getD a []).length = 4 := fun a ha => (hF.2 a ha).1
  refine ACalls.body Try.func164 rfl Try.ntmps164 (rs := []) rfl (by simp) rfl fun Q hQ A hA => ?_
  have a0 := hA 0 _ _ rfl
  have a1 := hA 1 _ _ rfl
  clear hA
  repeat' first | refine rnY ?_ | with_reducible refine And.intro (fun hc => ?_) (fun hc => ?_) | fail
  refine AWp.cut (fun Ac hAc => ?_)
  have c1 := gtY (t := 1) hAc
  have c9 := gtY (t := 9) hAc
  have c10 := gtY (t := 10) hAc
  have c11 := gtY (t := 11) hAc
  clear a0 a1
  refine AWp.loop (fun A' H' => ∃ (a : Nat), Ag [4, 5, 6, 7, 12, 13, 14, 15, 16, 17, 18, 19, 20, 21, 22, 23, 24, 25, 26, 27, 28, 29, 30, 31, 32, 33, 34, 35] A' (put Ac (some 11) (I a)) ∧ a ≤ T.length ∧ Ext (H.set g (.cells (ints (glT step s T a)) 1 false)) H') (fun A' _ => T.length - (intV (A' 11)).toNat) ?_ ?_
  · exact ⟨0, agY, by omega, by show Ext (H.set g (.cells (ints s) 1 false)) H; rw [set_self hg]; exact Ext.refl _⟩
  · rintro A1 H1 ⟨a, hA, ha, hx⟩
    have d1 := gdY (t := 1) hA
    have d9 := gdY (t := 9) hA
    have d10 := gdY (t := 10) hA
    have d11 := gdY (t := 11) hA
    by_cases hlt : a < T.length
    · have hs1 : glT step s T (a + 1) = glF step (glT step s T a) a (T.getD a []) 4 := rfl
      have h4a := h4 a hlt
      have hfr := (hF.2 a hlt).2
      have hlen : (glT step s T a).length = n := by rw [glT_len hst]; exact hs
      generalize glT step s T a = acc at hx hs1 hlen
      repeat' first | refine rnY ?_ | with_reducible refine And.intro (fun hc => ?_) (fun hc => ?_) | fail
      refine AWp.cut (fun Ae hAe => ?_)
      have e1 := gtY (t := 1) hAe
      have e4 := gtY (t := 4) hAe
      have e9 := gtY (t := 9) hAe
      have e10 := gtY (t := 10) hAe
      have e11 := gtY (t := 11) hAe
      have e16 := gtY (t := 16) hAe
      have e17 := gtY (t := 17) hAe
      have e18 := gtY (t := 18) hAe
      refine AWp.loop (fun A' H' => ∃ (f : Nat), Ag [6, 7, 19, 20, 21, 22, 23, 24, 25, 26, 27, 28, 29, 30, 31, 32, 33, 34] A' (put Ae (some 18) (I f)) ∧ f ≤ 4 ∧ Ext (H.set g (.cells (ints (glF step acc a (T.getD a []) f)) 1 false)) H') (fun A' _ => 4 - (intV (A' 18)).toNat) ?_ ?_
      · exact ⟨0, agY, by omega, hx⟩
      · clear hx
        rintro A2 H2 ⟨f, hB, hf, hx⟩
        have f1 := gdY (t := 1) hB
        have f4 := gdY (t := 4) hB
        have f9 := gdY (t := 9) hB
        have f10 := gdY (t := 10) hB
        have f11 := gdY (t := 11) hB
        have f16 := gdY (t := 16) hB
        have f17 := gdY (t := 17) hB
        have f18 := gdY (t := 18) hB
        by_cases hff : f < 4
        · have hfine := hfr f hff
          have hs2 : glF step acc a (T.getD a []) (f + 1) = if ((T.getD a []).getD f (0, 0)).1 < 0 then glF step acc a (T.getD a []) f else step (glF step acc a (T.getD a []) f) a f ((T.getD a []).getD f (0, 0)) := rfl
          have hlf : (glF step acc a (T.getD a []) f).length = n := glF_keep (Q := fun l => l.length = n) (fun s a f x h => (hst s a f x).trans h) acc a _ f hlen
          generalize glF step acc a (T.getD a []) f = R at hx hs2 hlf
          have hvis := fun (H : Heap) (t p : Int) => visit H R a f t p hlf
          by_cases hq : ((T.getD a []).getD f (0, 0)).1 < 0
          · rw [if_pos hq] at hs2
            repeat' first | refine rnY ?_ | (first | refine ZCalls.to (isBoundary_z _ _) ?_ | refine ZCalls.tf (isBoundary_z _ _) ?_) | with_reducible refine And.intro (fun hc => ?_) (fun hc => ?_) | fail
            exact ⟨⟨f + 1, agY, by omega, by rw [hs2]; (exact exY)⟩, by exact ivY⟩
          · rw [if_neg hq] at hs2
            obtain ⟨q1, q2, q3⟩ := hfine (by omega)
            have k1 : H2.get g = .cells (ints R) 1 false := by rw [hx.get _ (by rw [Heap.size_set]; exact hgs), get_set_eq]
            have k2 : H2.get bx = Var bx g n := by rw [hx.get _ (by rw [Heap.size_set]; exact hbs), get_set_ne hne, hb]
            have k3 : H.size ≤ H2.size := by have := hx.size; rw [Heap.size_set] at this; exact this
            have k4 : g < H2.size := by omega
            have k5 : bx < H2.size := by omega
            repeat' first | refine rnY ?_ | (first | refine ZCalls.to (isBoundary_z _ _) ?_ | refine ZCalls.tf (isBoundary_z _ _) ?_) | with_reducible refine And.intro (fun hc => ?_) (fun hc => ?_) | fail
            refine AWp.zreg [(0, none), (1, none), (2, none), (3, none), (4, none), (5, none), (6, none), (7, some [3, 5])] mixed (by kernel_rfl) ?_
            repeat' first | refine rzY ?_ | (first | refine ZCalls.to (perm_z _ q2 q3) ?_ | refine ZCalls.tf (perm_z _ q2 q3) ?_) | (refine (hvis _ _ _ (by rw [get_push_lt k4, k1]) (by rw [get_push_lt k5, k2]) (by rw [Heap.size_push]; omega) (by rw [Heap.size_push]; omega) hlt hff (by omega) q1 q2 q3).mono ?_; rintro u H3 ⟨rfl, hx3⟩; have hx4 := Ext.up hx3 ((hx.push _).reset _); have hx5 : H3.get H2.size = .cells _ 1 false := (hx3.get _ (by rw [Heap.size_set, Heap.size_push]; omega)).trans ((get_set_ne (by omega)).trans (get_push_eq rfl)); refine hgY ?_) | fail
            repeat' first | refine rnY ?_ | with_reducible refine And.intro (fun hc => ?_) (fun hc => ?_) | fail
            exact ⟨⟨f + 1, agY, by omega, by rw [hs2]; exact hx4⟩, by exact ivY⟩
        · obtain rfl : f = 4 := by omega
          repeat' first | refine rnY ?_ | with_reducible refine And.intro (fun hc => ?_) (fun hc => ?_) | fail
          exact ⟨⟨a + 1, agY, by omega, by rw [hs1]; (exact exY)⟩, by exact ivY⟩
    · obtain rfl : a = T.length := by omega
      repeat' first | refine rnY ?_ | with_reducible refine And.intro (fun hc => ?_) (fun hc => ?_) | fail
      exact hQ.out _ _ ⟨rfl, by exact exY⟩
end Go.Proofs.Ytmoknllbpjpkmaa.Zed
