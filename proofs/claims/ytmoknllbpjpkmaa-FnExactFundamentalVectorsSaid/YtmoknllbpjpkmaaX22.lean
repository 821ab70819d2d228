/- A part of the walk: what functions of the program do, over an abstract heap. -/
import Derived.Test.YtmoknllbpjpkmaaW6
namespace Go.Proofs.Ytmoknllbpjpkmaa.Zed
open Go TP
set_option linter.unusedVariables false
set_option linter.unusedSimpArgs false
set_option maxRecDepth 20000
namespace tfX22
theorem tf : (Try.prog.underlying 29 = some (.slice 102)) ∧ (el Try.prog 29 = some (none, 1)) ∧ (Try.prog.underlying 102 = some (.slice 107)) ∧ (el Try.prog 102 = some (none, 2)) ∧ (Try.prog.underlying 144 = some (.array 4 2)) ∧ (el Try.prog 144 = some (some 4, 1)) ∧ (tk Try.prog 2 = some none) ∧ (tk Try.prog 29 = some none) ∧ (tk Try.prog 102 = some none) ∧ (tk Try.prog 107 = some (some 2)) ∧ (cz Try.prog 2 = some 1) ∧ (bz Try.prog 2 = some 8) ∧ (cz Try.prog 102 = some 1) ∧ (bz Try.prog 102 = some 24) ∧ (cz Try.prog 107 = some 2) ∧ (bz Try.prog 107 = some 16) ∧ (zr Try.prog 2 = some (.int .i64 0)) ∧ (zr Try.prog 102 = some (.slice none 0 0)) ∧ (zr Try.prog 107 = some (.agg #[.int .i64 0, .int .i64 0])) ∧ (fo Try.prog 31 0 = some (0, none)) ∧ (fo Try.prog 107 1 = some (1, none)) := by
  refine ⟨?_, ?_, ?_, ?_, ?_, ?_, ?_, ?_, ?_, ?_, ?_, ?_, ?_, ?_, ?_, ?_, ?_, ?_, ?_, ?_, ?_⟩ <;> kernel_rfl
end tfX22
open tfX22

set_option maxHeartbeats 2000000 in
/-- The visit of all glued faces, with any state: J a f is what holds before face f of tetrahedron a. -/
theorem glued_g {T : List (List (Int × Int))} (hF : Fine T) (F : FuncId) (v : Value) (J : Nat → Nat → Heap → Prop)
    (hext : ∀ a f H H', J a f H → Ext H H' → J a f H')
    (hskip : ∀ a f H, a < T.length → f < 4 → ((T.getD a []).getD f (0, 0)).1 < 0 → J a f H → J a (f + 1) H)
    (hrow : ∀ a H, a < T.length → J a 4 H → J (a + 1) 0 H)
    (visit : ∀ (H : Heap) (a f : Nat) (t p : Int), (T.getD a []).getD f (0, 0) = (t, p) → a < T.length → f < 4 → 0 ≤ t → t < T.length → 0 ≤ p → p < 24 → J a f H →
      ∀ x, ACalls Try.prog F [I a, I f, .agg #[I t, I p], .agg (ints (pmL p)).toArray, v] (H.push x) fun u H' => u = undef ∧ J a (f + 1) H' ∧ H'.get H.size = x)
    {H : Heap} (h0 : J 0 0 H) :
    ACalls Try.prog 164 [zT T, .func (.func F) #[] #[v]] H fun u H' => u = undef ∧ J T.length 0 H' := by
  have h8 := hF.1
  have h4 : ∀ a, a < T.length → (T.getD a []).length = 4 := fun a ha => (hF.2 a ha).1
  refine ACalls.body Try.func164 rfl Try.ntmps164 (rs := []) rfl (by simp) rfl fun Q hQ A hA => ?_
  have a0 := hA 0 _ _ rfl
  have a1 := hA 1 _ _ rfl
  clear hA
  repeat' first | refine rnY ?_ | with_reducible refine And.intro (fun hc => ?_) (fun hc => ?_) | fail
  refine AWp.cut (fun Ac hAc => ?_)
  have c1 := gtY (t := 1) hAc
  have c9 := gtY (t := 9) hAc
  have c10 := gtY (t := 10) hAc
  have c11 := gtY (t := 11) hAc
  clear a0 a1
  refine AWp.loop (fun A' H' => ∃ (a : Nat), Ag [4, 5, 6, 7, 12, 13, 14, 15, 16, 17, 18, 19, 20, 21, 22, 23, 24, 25, 26, 27, 28, 29, 30, 31, 32, 33, 34, 35] A' (put Ac (some 11) (I a)) ∧ a ≤ T.length ∧ J a 0 H') (fun A' _ => T.length - (intV (A' 11)).toNat) ?_ ?_
  · exact ⟨0, agY, by omega, h0⟩
  · rintro A1 H1 ⟨a, hA, ha, hx⟩
    have d1 := gdY (t := 1) hA
    have d9 := gdY (t := 9) hA
    have d10 := gdY (t := 10) hA
    have d11 := gdY (t := 11) hA
    by_cases hlt : a < T.length
    · have h4a := h4 a hlt
      have hfr := (hF.2 a hlt).2
      have hskip := fun f H => hskip a f H hlt
      have hrow := fun H => hrow a H hlt
      have hvis := fun H f t p he h1 h2 h3 h4 h5 h6 x => visit H a f t p he hlt h1 h2 h3 h4 h5 h6 x
      repeat' first | refine rnY ?_ | with_reducible refine And.intro (fun hc => ?_) (fun hc => ?_) | fail
      refine AWp.cut (fun Ae hAe => ?_)
      have e1 := gtY (t := 1) hAe
      have e4 := gtY (t := 4) hAe
      have e9 := gtY (t := 9) hAe
      have e10 := gtY (t := 10) hAe
      have e11 := gtY (t := 11) hAe
      have e16 := gtY (t := 16) hAe
      have e17 := gtY (t := 17) hAe
      have e18 := gtY (t := 18) hAe
      refine AWp.loop (fun A' H' => ∃ (f : Nat), Ag [6, 7, 19, 20, 21, 22, 23, 24, 25, 26, 27, 28, 29, 30, 31, 32, 33, 34] A' (put Ae (some 18) (I f)) ∧ f ≤ 4 ∧ J a f H') (fun A' _ => 4 - (intV (A' 18)).toNat) ?_ ?_
      · exact ⟨0, agY, by omega, hx⟩
      · clear hx
        rintro A2 H2 ⟨f, hB, hf, hx⟩
        have f1 := gdY (t := 1) hB
        have f4 := gdY (t := 4) hB
        have f9 := gdY (t := 9) hB
        have f10 := gdY (t := 10) hB
        have f11 := gdY (t := 11) hB
        have f16 := gdY (t := 16) hB
        have f17 := gdY (t := 17) hB
        have f18 := gdY (t := 18) hB
        by_cases hff : f < 4
        · have hfine := hfr f hff
          by_cases hq : ((T.getD a []).getD f (0, 0)).1 < 0
          · have hsk := hskip f _ hff hq hx
            clear hskip hrow hvis visit
            repeat' first | refine rnY ?_ | (first | refine ZCalls.to (isBoundary_z _ _) ?_ | refine ZCalls.tf (isBoundary_z _ _) ?_) | with_reducible refine And.intro (fun hc => ?_) (fun hc => ?_) | fail
            exact ⟨⟨f + 1, agY, by omega, hext _ _ _ _ hsk (by exact exY)⟩, by exact ivY⟩
          · obtain ⟨q1, q2, q3⟩ := hfine (by omega)
            clear hskip hrow visit
            repeat' first | refine rnY ?_ | (first | refine ZCalls.to (isBoundary_z _ _) ?_ | refine ZCalls.tf (isBoundary_z _ _) ?_) | with_reducible refine And.intro (fun hc => ?_) (fun hc => ?_) | fail
            refine AWp.zreg [(0, none), (1, none), (2, none), (3, none), (4, none), (5, none), (6, none), (7, some [3, 5])] mixed (by kernel_rfl) ?_
            repeat' first | refine rzY ?_ | (first | refine ZCalls.to (perm_z _ q2 q3) ?_ | refine ZCalls.tf (perm_z _ q2 q3) ?_) | (refine (hvis H2 f ((T.getD a []).getD f (0, 0)).1 ((T.getD a []).getD f (0, 0)).2 rfl hff (by omega) q1 q2 q3 hx (.cells [I ((T.getD a []).getD f (0, 0)).1, I ((T.getD a []).getD f (0, 0)).2] 1 false)).mono ?_; rintro u H3 ⟨rfl, hx3, hx5⟩; refine hgY ?_) | fail
            repeat' first | refine rnY ?_ | with_reducible refine And.intro (fun hc => ?_) (fun hc => ?_) | fail
            exact ⟨⟨f + 1, agY, by omega, hx3⟩, by exact ivY⟩
        · obtain rfl : f = 4 := by omega
          have hr := hrow _ hx
          clear hskip hvis visit
          repeat' first | refine rnY ?_ | with_reducible refine And.intro (fun hc => ?_) (fun hc => ?_) | fail
          exact ⟨⟨a + 1, agY, by omega, hr⟩, by exact ivY⟩
    · obtain rfl : a = T.length := by omega
      repeat' first | refine rnY ?_ | with_reducible refine And.intro (fun hc => ?_) (fun hc => ?_) | fail
      exact hQ.out _ _ ⟨rfl, hx⟩
end Go.Proofs.Ytmoknllbpjpkmaa.Zed
