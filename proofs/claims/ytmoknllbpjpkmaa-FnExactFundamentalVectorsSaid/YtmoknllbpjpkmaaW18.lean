/- A part of the walk: what functions of the program do, over an abstract heap. -/
import Derived.Test.YtmoknllbpjpkmaaW17
namespace Go.Proofs.Ytmoknllbpjpkmaa.Zed
open Go TP
set_option linter.unusedVariables false
set_option linter.unusedSimpArgs false
set_option maxRecDepth 20000
namespace tfW18
theorem tf : (Try.prog.underlying 25 = some (.slice 2)) ∧ (el Try.prog 25 = some (none, 1)) ∧ (Try.prog.underlying 29 = some (.slice 102)) ∧ (el Try.prog 29 = some (none, 1)) ∧ (Try.prog.underlying 51 = some (.slice 25)) ∧ (el Try.prog 51 = some (none, 1)) ∧ (Try.prog.underlying 102 = some (.slice 107)) ∧ (el Try.prog 102 = some (none, 2)) ∧ (Try.prog.underlying 158 = some (.slice 4)) ∧ (el Try.prog 158 = some (none, 1)) ∧ (tk Try.prog 2 = some none) ∧ (tk Try.prog 4 = some none) ∧ (tk Try.prog 25 = some none) ∧ (tk Try.prog 29 = some none) ∧ (tk Try.prog 102 = some none) ∧ (tk Try.prog 107 = some (some 2)) ∧ (cz Try.prog 2 = some 1) ∧ (bz Try.prog 2 = some 8) ∧ (cz Try.prog 4 = some 1) ∧ (bz Try.prog 4 = some 1) ∧ (cz Try.prog 25 = some 1) ∧ (bz Try.prog 25 = some 24) ∧ (cz Try.prog 102 = some 1) ∧ (bz Try.prog 102 = some 24) ∧ (cz Try.prog 107 = some 2) ∧ (bz Try.prog 107 = some 16) ∧ (zr Try.prog 2 = some (.int .i64 0)) ∧ (zr Try.prog 4 = some (.bool false)) ∧ (zr Try.prog 25 = some (.slice none 0 0)) ∧ (zr Try.prog 102 = some (.slice none 0 0)) ∧ (zr Try.prog 107 = some (.agg #[.int .i64 0, .int .i64 0])) ∧ (fo Try.prog 31 0 = some (0, none)) ∧ (fo Try.prog 107 0 = some (0, none)) := by
  refine ⟨?_, ?_, ?_, ?_, ?_, ?_, ?_, ?_, ?_, ?_, ?_, ?_, ?_, ?_, ?_, ?_, ?_, ?_, ?_, ?_, ?_, ?_, ?_, ?_, ?_, ?_, ?_, ?_, ?_, ?_, ?_, ?_, ?_⟩ <;> kernel_rfl
end tfW18
open tfW18

/-- The indices of what is true. -/
def listTo (l : List Bool) : Nat → List Int
  | 0 => []
  | k + 1 => if l.getD k false = true then listTo l k ++ [(k : Int)] else listTo l k
theorem listTo_len (l : List Bool) (k : Nat) : (listTo l k).length ≤ k := by
  induction k with
  | zero => simp [listTo]
  | succ k ih => unfold listTo; split <;> (try simp only [List.length_append, List.length_cons, List.length_nil]) <;> omega
/-- The boundary faces. -/
def bfF (acc : List (List Int)) (a : Nat) (row : List (Int × Int)) : Nat → List (List Int)
  | 0 => acc
  | f + 1 => if (row.getD f (0, 0)).1 < 0 then bfF acc a row f ++ [[(a : Int), (f : Int)]] else bfF acc a row f
def bfT (T : List (List (Int × Int))) : Nat → List (List Int)
  | 0 => []
  | a + 1 => bfF (bfT T a) a (T.getD a []) 4
theorem bfF_len (acc : List (List Int)) (a : Nat) (row : List (Int × Int)) (f : Nat) : (bfF acc a row f).length ≤ acc.length + f := by
  induction f with
  | zero => simp [bfF]
  | succ f ih => unfold bfF; split <;> (try simp only [List.length_append, List.length_cons, List.length_nil]) <;> omega
theorem bfT_len (T : List (List (Int × Int))) (a : Nat) : (bfT T a).length ≤ 4 * a := by
  induction a with
  | zero => simp [bfT]
  | succ a ih => have := bfF_len (bfT T a) a (T.getD a []) 4; simp only [bfT]; omega
theorem listTo_get (l : List Bool) (k : Nat) : listTo l (k + 1) = if l.getD k false = true then listTo l k ++ [(k : Int)] else listTo l k := rfl
set_option maxHeartbeats 2000000 in
theorem l08Listed_z {l : List Bool} {n : Nat} (hn : l.length = n) (hl : n ≤ 200000) : ZCalls Try.prog 195 [FZ 1 n (bools l)] (zI (listTo l n)) := by
  have hbl := bools_len l
  refine ZCalls.body Try.func195 rfl Try.ntmps195 (rs := [.tmp 2]) rfl (by simp) rfl fun H Q hQ A hA => ?_
  have a0 := hA 0 _ _ rfl
  clear hA
  repeat' first | refine rnY ?_ | with_reducible refine And.intro (fun hc => ?_) (fun hc => ?_) | fail
  refine AWp.growE (t := 3) 1 (by decide) (by exact ivY) ?_
  refine AWp.cut (fun Ac hAc => ?_)
  have c0 := gtY (t := 0) hAc
  have c3 := gtY (t := 3) hAc
  have c4 := gtY (t := 4) hAc
  clear a0
  refine AWp.loop (fun A' H' => ∃ (k : Nat), Ag [6, 7, 8, 9, 10, 11, 12, 13, 14, 15, 16, 17, 18, 19] A' (put (put Ac (some 3) (GZ (H.size + 1) 1 (listTo l k).length (ints (listTo l k)))) (some 4) (I k)) ∧ k ≤ n ∧ Ext ((H.push (.cells [] 1 false)).push (.tok (listTo l k).length 1)) H') (fun A' _ => n - (intV (A' 4)).toNat) ?_ ?_
  · have e0 : listTo l 0 = [] := rfl
    exact ⟨0, agY, by omega, by exact exY⟩
  · rintro A1 H1 ⟨k, hA, hk, hx⟩
    have d0 := gdY (t := 0) hA
    have d3 := gdY (t := 3) hA
    have d4 := gdY (t := 4) hA
    have hxg := hx.get; have hxs := hx.size; (try simp only [nx] at hxs)
    by_cases hlt : k < n
    · have hs1 := listTo_get l k
      have hll := listTo_len l k
      have hbg := bools_get (l := l) (i := k) (by omega)
      generalize listTo l k = L at *
      cases hb : l.getD k false
      · rw [if_neg (by rw [hb]; simp)] at hs1
        rw [hb] at hbg
        repeat' first | refine rnY ?_ | with_reducible refine And.intro (fun hc => ?_) (fun hc => ?_) | fail
        exact ⟨⟨k + 1, agY, by omega, by rw [hs1]; (exact exY)⟩, by exact ivY⟩
      · rw [if_pos hb] at hs1
        rw [hb] at hbg
        repeat' first | refine rnY ?_ | with_reducible refine And.intro (fun hc => ?_) (fun hc => ?_) | fail
        exact ⟨⟨k + 1, agY, by omega, by rw [hs1]; (exact exY)⟩, by exact ivY⟩
    · obtain rfl : k = n := by omega
      repeat' first | refine rnY ?_ | with_reducible refine And.intro (fun hc => ?_) (fun hc => ?_) | fail
      exact hQ.out _ _ (fv) (by exact exY)
set_option maxHeartbeats 2000000 in
theorem l07Boundary_z {T : List (List (Int × Int))} (h8 : T.length ≤ 8) (h4 : ∀ a, a < T.length → (T.getD a []).length = 4) : ZCalls Try.prog 194 [zT T] (zII (bfT T T.length)) := by
  refine ZCalls.body Try.func194 rfl Try.ntmps194 (rs := [.tmp 2]) rfl (by simp) rfl fun H Q hQ A hA => ?_
  have a0 := hA 0 _ _ rfl
  clear hA
  repeat' first | refine rnY ?_ | with_reducible refine And.intro (fun hc => ?_) (fun hc => ?_) | fail
  refine AWp.growE (t := 3) 1 (by decide) (by exact ivY) ?_
  refine AWp.cut (fun Ac hAc => ?_)
  have c1 := gtY (t := 1) hAc
  have c3 := gtY (t := 3) hAc
  have c4 := gtY (t := 4) hAc
  clear a0
  refine AWp.loop (fun A' H' => ∃ (a : Nat), Ag [5, 7, 8, 9, 10, 11, 12, 13, 14, 15, 16, 17, 18, 19, 20, 21, 22, 23, 24, 25, 26, 27, 28, 29, 30, 31, 32, 33] A' (put (put Ac (some 3) (GZ (H.size + 1) 1 (bfT T a).length ((bfT T a).map fun r => zI r))) (some 4) (I a)) ∧ a ≤ T.length ∧ Ext ((H.push (.cells [] 1 false)).push (.tok (bfT T a).length 1)) H') (fun A' _ => T.length - (intV (A' 4)).toNat) ?_ ?_
  · have e0 : bfT T 0 = [] := rfl
    exact ⟨0, agY, by omega, by exact exY⟩
  · rintro A1 H1 ⟨a, hA, ha, hx⟩
    have d1 := gdY (t := 1) hA
    have d3 := gdY (t := 3) hA
    have d4 := gdY (t := 4) hA
    have hxg := hx.get; have hxs := hx.size; (try simp only [nx] at hxs)
    by_cases hlt : a < T.length
    · have hs1 : bfT T (a + 1) = bfF (bfT T a) a (T.getD a []) 4 := rfl
      have hbl := bfT_len T a
      have h4a := h4 a hlt
      generalize bfT T a = acc at hx hs1 hbl d3 hxg hA
      repeat' first | refine rnY ?_ | with_reducible refine And.intro (fun hc => ?_) (fun hc => ?_) | fail
      refine AWp.cut (fun Ae hAe => ?_)
      have e1 := gtY (t := 1) hAe
      have e4 := gtY (t := 4) hAe
      have e3 := gtY (t := 3) hAe
      have e5 := gtY (t := 5) hAe
      refine AWp.loop (fun A' H' => ∃ (f : Nat), Ag [14, 15, 16, 17, 18, 19, 20, 21, 22, 23, 24, 25, 26, 27, 28, 29, 30, 31, 32, 33] A' (put (put Ae (some 3) (GZ (H.size + 1) 1 (bfF acc a (T.getD a []) f).length ((bfF acc a (T.getD a []) f).map fun r => zI r))) (some 5) (I f)) ∧ f ≤ 4 ∧ Ext ((H.push (.cells [] 1 false)).push (.tok (bfF acc a (T.getD a []) f).length 1)) H') (fun A' _ => 4 - (intV (A' 5)).toNat) ?_ ?_
      · have e0 : bfF acc a (T.getD a []) 0 = acc := rfl
        exact ⟨0, agY, by omega, by rw [e0]; exact hx⟩
      · clear hx hxg hxs
        rintro A2 H2 ⟨f, hB, hf, hx⟩
        have f1 := gdY (t := 1) hB
        have f3 := gdY (t := 3) hB
        have f4 := gdY (t := 4) hB
        have f5 := gdY (t := 5) hB
        have hxg := hx.get; have hxs := hx.size; (try simp only [nx] at hxs)
        by_cases hff : f < 4
        · have hfl := bfF_len acc a (T.getD a []) f
          have hs2 : bfF acc a (T.getD a []) (f + 1) = if ((T.getD a []).getD f (0, 0)).1 < 0 then bfF acc a (T.getD a []) f ++ [[(a : Int), (f : Int)]] else bfF acc a (T.getD a []) f := rfl
          generalize bfF acc a (T.getD a []) f = R at hx f3 hxg hs2 hfl hB
          by_cases hq : ((T.getD a []).getD f (0, 0)).1 < 0
          · rw [if_pos hq] at hs2
            repeat' first | refine rnY ?_ | with_reducible refine And.intro (fun hc => ?_) (fun hc => ?_) | fail
            exact ⟨⟨f + 1, agY, by omega, by exact exY⟩, by exact ivY⟩
          · rw [if_neg hq] at hs2
            repeat' first | refine rnY ?_ | with_reducible refine And.intro (fun hc => ?_) (fun hc => ?_) | fail
            exact ⟨⟨f + 1, agY, by omega, by exact exY⟩, by exact ivY⟩
        · obtain rfl : f = 4 := by omega
          repeat' first | refine rnY ?_ | with_reducible refine And.intro (fun hc => ?_) (fun hc => ?_) | fail
          exact ⟨⟨a + 1, agY, by omega, by rw [hs1]; (exact exY)⟩, by exact ivY⟩
    · obtain rfl : a = T.length := by omega
      repeat' first | refine rnY ?_ | with_reducible refine And.intro (fun hc => ?_) (fun hc => ?_) | fail
      exact hQ.out _ _ (fv) (by exact exY)
end Go.Proofs.Ytmoknllbpjpkmaa.Zed
